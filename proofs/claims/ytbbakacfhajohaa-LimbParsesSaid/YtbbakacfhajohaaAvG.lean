/- What single operations do in the abstract run: loads, stores, new blocks, literals; and all of them together. -/
import Derived.Test.YtbbakacfhajohaaAvF
namespace Go.Proofs.Ytbbakacfhajohaa.Av
open Go.RowKit

section
variable {P : Program} {tau : Tau}

/-! ### Loads -/
def effLoad (tau : Tau) (t : TypeId) (dst : Option Nat) (bl : List (Nat × Blk)) : List AV → Eff
  | [.c (.sc (.p id off))] => match look bl id with
    | some (.sg _ l) => match splitS l off with
      | some (_, r) => match tau.size t, tau.agg t with
        | some m, some true => match splitS r m with
          | some (x, _) => out dst (.c (.ag x)) []
          | none => none
        | some _, some false => match r with
          | .one x :: _ => out dst (.c (.sc x)) []
          | _ => none
        | _, _ => none
      | none => none
    | _ => none
  | [.c (.sc (.e id off n j))] => match look bl id, tau.agg t with
    | some (.sg _ l), some false => match splitS l off with
      | some (_, .row k m ws :: _) => match Nat.beq m n with
        | true => out dst (iv k (ws.getD j.toNat 0)) []
        | false => none
      | _ => none
    | some (.gr _ k ws), some false => match off with
      | 0 => out dst (iv k (ws.getD j.toNat 0)) [j < (ws.length : Int)]
      | _ => none
    | _, _ => none
  | [.c (.sc (.re k ws j))] => match tau.agg t with
    | some false => out dst (iv k (ws.getD j.toNat 0)) []
    | _ => none
  | _ => none
theorem exec_load {o : Oper} {t : TypeId} {p : Operand} (ho : o.op = .load t p) {ev : Operand → Value} {g off : Nat} (hp : ev p = .pointer (some ⟨g, off, none⟩)) {u : Value} {W : World} (h : (loadVar t ⟨g, off, none⟩).run P W = .ok u W) : (execOp ev o).run P W = .ok (.value u) W := by
  simp [execOp, ho, hp, Instr.loadAt, Instr.sureAddr, h]
theorem run_loadVar_cell (ht : TauOk P tau) {t : TypeId} {W : World} {a : Addr} {u : Value} (hc : W.cell? a = some u) (ha : tau.agg t = some false) : (loadVar t a).run P W = .ok u W := by
  simp [loadVar, Sem.run_bind, ht.isAgg ha W, load, Sem.run, hc]
theorem load_ok (ht : TauOk P tau) {o : Oper} {t : TypeId} {p : Operand} (ho : o.op = .load t p) {args : List AV} {bl : List (Nat × Blk)} {d : Dl} {O : List Prop} (h : effLoad tau t o.dst bl args = some (d, O)) (hO : allP O) :
    OpOk P o args bl { d with dst := o.dst } := by
  have fin : ∀ (x : AV), (∀ (C : Cx) (n : Nat) (E : En) (s : St) (a : Act) (W : World), Sat C n E s a W → avsR E W args [a.eval p] → (∀ id B, (id, B) ∈ bl → look s.H id = some B) → ∃ u, (execOp a.eval o).run P W = .ok (.value u) W ∧ x.R E W u) →
      OpOk P o args bl ⟨o.dst, x, none, false⟩ := by
    intro x hx C n E s a W Q hS hargs hbl _ hn _
    rw [ho] at hargs
    obtain ⟨u, hu, hR⟩ := hx C n E s a W hS hargs hbl
    unfold Oper.wp
    rw [hu]
    exact ⟨E, hS.pure hn rfl (fun _ => hR)⟩
  unfold effLoad at h
  split at h
  · rename_i id off
    split at h
    · rename_i t0 l hl
      split at h
      · rename_i a0 r hsp
        obtain ⟨rfl, hoff⟩ := splitS_spec hsp
        split at h
        · rename_i m hs hag
          split at h
          · rename_i x b0 hsp2
            obtain ⟨rfl, hm⟩ := splitS_spec hsp2
            cases h
            refine fin _ (fun C n E s a W hS hargs hbl => ?_)
            have hp : a.eval p = .pointer (some ⟨E.rho id, off, none⟩) := av1 hargs
            obtain ⟨us, h1, h2⟩ := hS.blks id _ (hbl id _ (look_mem hl))
            obtain ⟨ua, ur, rfl, hua, hur⟩ := segsR_split h2
            obtain ⟨ux, ub, rfl, hux, hub⟩ := segsR_split hur
            refine ⟨.agg ux.toArray, exec_load ho hp ?_, ux, rfl, hux⟩
            rw [show off = ua.length by rw [segsR_size hua, hoff]]
            exact run_loadVar_mid ht h1 (by rw [segsR_size hux, hm]; exact hs) hag
          · cases h
        · rename_i m hs hag
          split at h
          · rename_i x b0
            cases h
            refine fin _ (fun C n E s a W hS hargs hbl => ?_)
            have hp : a.eval p = .pointer (some ⟨E.rho id, off, none⟩) := av1 hargs
            obtain ⟨us, h1, h2⟩ := hS.blks id _ (hbl id _ (look_mem hl))
            obtain ⟨ua, ur, rfl, hua, hur⟩ := segsR_split h2
            obtain ⟨u1, ub, rfl, ⟨u, rfl, hu⟩, hub⟩ := hur
            refine ⟨u, exec_load ho hp ?_, hu⟩
            rw [show off = ua.length by rw [segsR_size hua, hoff]]
            exact run_loadVar_one ht h1 hag
          · cases h
        · cases h
      · cases h
    · cases h
  · rename_i id off n j
    split at h
    · rename_i t0 l hl hag
      split at h
      · rename_i a0 k m ws b0 hsp
        obtain ⟨rfl, hoff⟩ := splitS_spec hsp
        split at h
        · rename_i hmn
          cases h
          obtain rfl := Nat.eq_of_beq_eq_true hmn
          refine fin _ (fun C n E s a W hS hargs hbl => ?_)
          obtain ⟨hp, h0, h1⟩ := av1 hargs
          obtain ⟨us, g1, g2⟩ := hS.blks id _ (hbl id _ (look_mem hl))
          obtain ⟨ua, ur, rfl, hua, hur⟩ := segsR_split g2
          obtain ⟨u1, ub, rfl, ⟨rfl, hlen⟩, hub⟩ := hur
          refine ⟨.int k (ws.getD j.toNat 0), exec_load ho hp (run_loadVar_cell ht ?_ hag), rfl, rfl⟩
          have hj : j.toNat < ws.length := by omega
          rw [show off = ua.length by rw [segsR_size hua, hoff], cell_of_row W _ _ _ _ _ g1, List.getElem?_toArray, List.getElem?_append_right (by omega), show ua.length + j.toNat - ua.length = j.toNat by omega,
            List.getElem?_append_left (by simpa using hj)]
          exact map_get hj
        · cases h
      · cases h
    · rename_i t0 k ws hl hag
      split at h
      · cases h
        refine fin _ (fun C n E s a W hS hargs hbl => ?_)
        obtain ⟨hp, h0, h1⟩ := av1 hargs
        have hb := hS.blks id _ (hbl id _ (look_mem hl))
        have hj : j.toNat < ws.length := by have := hO.1; omega
        simp only [Blk.R] at hb
        cases hc : E.cap id with
        | none => rw [hc] at hb; subst hb; simp at hj
        | some cp =>
          rw [hc] at hb
          obtain ⟨us, g1, g2, g3, g4, g5⟩ := hb
          refine ⟨.int k (ws.getD j.toNat 0), exec_load ho hp (run_loadVar_cell ht ?_ hag), rfl, rfl⟩
          rw [cell_of_row W _ _ _ _ _ g1, List.getElem?_toArray, Nat.zero_add]
          have := map_get (k := k) hj
          rw [← g5, List.getElem?_take, if_pos hj] at this
          exact this
      · cases h
    · cases h
  · rename_i k ws j
    split at h
    · rename_i hag
      cases h
      refine fin _ (fun C n E s a W hS hargs hbl => ?_)
      obtain ⟨b, off, hp, h0, h1, hb, hx⟩ := av1 hargs
      refine ⟨.int k (ws.getD j.toNat 0), exec_load ho hp (run_loadVar_cell ht ?_ hag), rfl, rfl⟩
      refine hx _ _ ?_
      have hj : j.toNat < ws.length := by omega
      simp [List.getD, List.getElem?_eq_getElem hj]
    · cases h
  · cases h

/-! ### Stores -/
def effStore (tau : Tau) (t : TypeId) (bl : List (Nat × Blk)) : List AV → Eff
  | [.c (.sc (.p id off)), .c x] => match look bl id with
    | some (.sg t0 l) => match splitS l off, tau.size t with
      | some (a, r), some m => match Nat.beq (segsSize x.segs) m, splitS r m with
        | true, some (_, b) => some (⟨none, .un, some (id, .sg t0 (a ++ (x.segs ++ b))), false⟩, [])
        | _, _ => none
      | _, _ => none
    | _ => none
  | [.c (.sc (.e id off n j)), .c (.sc (.v (.int k x)))] => match look bl id, tau.size t with
    | some (.sg t0 l), some 1 => match splitS l off with
      | some (a, .row k' m ws :: b) => match Nat.beq m n, decide (k = k') with
        | true, true => some (⟨none, .un, some (id, .sg t0 (a ++ (.row k' m (ws.set j.toNat x) :: b))), false⟩, [])
        | _, _ => none
      | _ => none
    | some (.gr t0 k' ws), some 1 => match off, decide (k = k') with
      | 0, true => some (⟨none, .un, some (id, .gr t0 k' (ws.set j.toNat x)), false⟩, [j < (ws.length : Int)])
      | _, _ => none
    | _, _ => none
  | _ => none
theorem run_storeVar_at (ht : TauOk P tau) {t : TypeId} {m : Nat} (hs : tau.size t = some m) {u : Value} {vs : List Value} (hu : u.cells = vs.toArray) (hm : vs.length = m) (h1 : ∀ v ∈ vs, v.oneCell' = true) {g off : Nat} {t0 : TypeId} {us : List Value} {W : World}
    (hg : W.heap[g]? = some (.cells us.toArray t0 (0, 0))) (hl : off + vs.length ≤ us.length) : (storeVar t ⟨g, off, none⟩ u).run P W = .ok () (W.setRow g (us.take off ++ vs ++ us.drop (off + vs.length)).toArray) := by
  obtain ⟨i, hi, hsz⟩ := ht.size _ _ hs
  have hst := run_storeCells_at P g off t0 vs 0 us.toArray W hg (by simpa using hl) h1
  simp only [Nat.add_zero] at hst
  have hc : ¬ vs.toArray.size ≠ i.size := by rw [hsz]; simpa using hm
  simp only [storeVar, sizeOf, typeInfo, Sem.run_bind, run_program, Result.andThen_ok, hi, Sem.run_pure, hu]
  rw [if_neg hc]
  exact hst
theorem take_set_drop (l : List Value) (i : Nat) (v : Value) (h : i < l.length) : l.take i ++ [v] ++ l.drop (i + 1) = l.set i v := by
  rw [List.set_eq_take_append_cons_drop, if_pos h]; simp
theorem set_mid (a m b : List Value) (j : Nat) (v : Value) (h : j < m.length) : (a ++ (m ++ b)).set (a.length + j) v = a ++ (m.set j v ++ b) := by
  rw [List.set_append_right _ _ (by omega), show a.length + j - a.length = j by omega, List.set_append_left _ _ h]
theorem exec_store {o : Oper} {t : TypeId} {p q : Operand} (ho : o.op = .store t p q) {ev : Operand → Value} {g off : Nat} (hp : ev p = .pointer (some ⟨g, off, none⟩)) {W W' : World} (h : (storeVar t ⟨g, off, none⟩ (ev q)).run P W = .ok () W') : (execOp ev o).run P W = .ok .skip W' := by
  simp [execOp, ho, hp, Instr.storeAt, Instr.sureAddr, h]
/-- The world behind a store into a block of the call's own. -/
theorem Sat.store {C : Cx} {n : Nat} {E : En} {s : St} {a : Act} {W : World} (hS : Sat C n E s a W) {id : Nat} {B0 B : Blk} (hB0 : look s.H id = some B0) (hl : B0.live E id) {cs : Array Value} {fr : Nat × Nat} {t0 : TypeId} {old : Array Value} (hold : W.heap[E.rho id]? = some (.cells old t0 fr))
    (hB : ∀ W' : World, W'.heap[E.rho id]? = some (.cells cs t0 fr) → Kp (fun _ => True) E W E W' → B.R E W' id) (hsg : B0.isSg → B.isSg := by exact fun h => h) : Sat C n E (s.put ⟨none, .un, some (id, B), false⟩) a (W.setRow (E.rho id) cs) := by
  have hro := hS.own id B0 hB0 hl
  have hne : ∀ b, b ≠ E.rho id → (W.setRow (E.rho id) cs).heap[b]? = W.heap[b]? := fun b hb => setRow_other W _ b cs hb
  have hk : Kp (fun _ => True) E W E (W.setRow (E.rho id) cs) := ⟨fun _ _ => rfl, fun _ _ => rfl, fun _ h => h, fun b hb => hne b (fun e => hro.2 (e ▸ hb))⟩
  have := hS.step (E' := E) (W' := W.setRow (E.rho id) cs) (d := ⟨none, .un, some (id, B), false⟩) (u := undef) (by simp) (by simp)
    ⟨fun _ _ => rfl, fun _ _ => rfl, fun _ h => h, hk.mem⟩ (by simp)
    (fun i A hi => by cases hi; exact hB _ (setRow_heap W _ _ _ _ _ hold) hk)
    (fun i A hi _ => by cases hi; exact hro)
    (fun i A hi hA j A' hji hj hl' he => by cases hi; exact hji (hS.inj j id A' B0 hj hB0 hl' hl he))
    (fun j A hj hA => (hS.own j A hj hA).2)
    (fun j A hj hA hne' => hne _ (fun e => hne' id B rfl (hS.inj j id A B0 hj hB0 hA hl e)))
    (fun b hb => by simpa using hS.ro b hb) rfl rfl rfl (by simp)
    (fun b hb hK => hne b (fun e => by subst e; rcases hro.1 with h | h; omega; exact hK h))
    (fun i A g hi hg => by cases hi; exact ⟨rfl, hsg ((hS.fix id g hg).2.2 B0 hB0)⟩)
  simpa [Act.put] using this
theorem store_ok (ht : TauOk P tau) {o : Oper} {t : TypeId} {p q : Operand} (ho : o.op = .store t p q) (hd : o.dst = none) {args : List AV} {bl : List (Nat × Blk)} {d : Dl} {O : List Prop} (h : effStore tau t bl args = some (d, O)) (hO : allP O) :
    OpOk P o args bl { d with dst := o.dst } := by
  have skip : ∀ (a : Act) (W W' : World) (K : Act → World → Prop) (Q : Exit → Act → World → Prop), (execOp a.eval o).run P W = .ok .skip W' → K a W' → o.wp P a W K Q := by
    intro a W W' K Q h1 h2
    unfold Oper.wp
    rw [h1]
    simpa [Oper.upon, hd, Act.put] using h2
  unfold effStore at h
  split at h
  · rename_i id off x
    split at h
    · rename_i t0 l hl
      split at h
      · rename_i a0 r m hsp hs
        split at h
        · rename_i mid b0 hm hsp2
          cases h
          obtain ⟨rfl, hoff⟩ := splitS_spec hsp
          obtain ⟨rfl, hm2⟩ := splitS_spec hsp2
          have hm := Nat.eq_of_beq_eq_true hm
          rw [hd]
          intro C n E s a W Q hS hargs hbl _ _ _
          rw [ho] at hargs
          obtain ⟨g1, g2⟩ := av2 hargs
          have hp : a.eval p = .pointer (some ⟨E.rho id, off, none⟩) := g1
          obtain ⟨vs, hv, hvR⟩ := Cm.R_cells g2
          have hB := hbl id _ (look_mem hl)
          obtain ⟨us, h1, h2⟩ := hS.blks id _ hB
          obtain ⟨ua, ur, rfl, hua, hur⟩ := segsR_split h2
          obtain ⟨ux, ub, rfl, hux, hub⟩ := segsR_split hur
          have e1 : off = ua.length := by rw [segsR_size hua, hoff]
          have e2 : vs.length = m := by rw [segsR_size hvR, hm]
          have e3 : ux.length = m := by rw [segsR_size hux, hm2]
          have hst := run_storeVar_at ht hs hv e2 (segsR_one hvR) h1 (off := off) (by simp only [List.length_append]; omega)
          have e4 : (ua ++ (ux ++ ub)).take off ++ vs ++ (ua ++ (ux ++ ub)).drop (off + vs.length) = ua ++ (vs ++ ub) := by
            rw [e1, List.take_left, List.drop_append, show ua.length + vs.length - ua.length = vs.length by omega]
            rw [List.drop_eq_nil_of_le (by omega), List.drop_append, e2, ← e3]
            simp
          rw [e4] at hst
          refine skip a W _ _ Q (exec_store ho hp hst) ⟨E, ?_⟩
          refine hS.store hB trivial h1 (fun W' hW' hk => ?_)
          exact ⟨_, hW', segsR_append (segs_kept hk hua (fun _ _ => trivial)) (segsR_append (segs_kept hk hvR (fun _ _ => trivial)) (segs_kept hk hub (fun _ _ => trivial)))⟩
        · cases h
      · cases h
    · cases h
  · rename_i id off n j k x
    split at h
    · rename_i t0 l hl hs
      split at h
      · rename_i a0 k' m ws b0 hsp
        split at h
        · rename_i hmn hk
          cases h
          obtain ⟨rfl, hoff⟩ := splitS_spec hsp
          obtain rfl := Nat.eq_of_beq_eq_true hmn
          obtain rfl := kind_ne hk
          rw [hd]
          intro C n E s a W Q hS hargs hbl _ _ _
          rw [ho] at hargs
          obtain ⟨⟨hp, h0, h1⟩, ⟨hq, _⟩⟩ := av2 hargs
          have hB := hbl id _ (look_mem hl)
          obtain ⟨us, g1, g2⟩ := hS.blks id _ hB
          obtain ⟨ua, ur, rfl, hua, hur⟩ := segsR_split g2
          obtain ⟨u1, ub, rfl, ⟨rfl, hlen⟩, hub⟩ := hur
          have e1 : off = ua.length := by rw [segsR_size hua, hoff]
          have hj : j.toNat < ws.length := by omega
          have hst := run_storeVar_at ht hs (u := a.eval q) (vs := [.int k x]) (by rw [hq]; rfl) rfl (by simp [Value.oneCell']) g1 (off := off + j.toNat) (by simp only [List.length_append, List.length_map, List.length_singleton]; omega)
          have e4 : (ua ++ (ws.map (Value.int k) ++ ub)).take (off + j.toNat) ++ [Value.int k x] ++ (ua ++ (ws.map (Value.int k) ++ ub)).drop (off + j.toNat + [Value.int k x].length) = ua ++ ((ws.set j.toNat x).map (Value.int k) ++ ub) := by
            rw [List.length_singleton, take_set_drop _ _ _ (by simp only [List.length_append, List.length_map]; omega), e1, set_mid _ _ _ _ _ (by simpa using hj), List.map_set]
          rw [e4] at hst
          refine skip a W _ _ Q (exec_store ho hp hst) ⟨E, ?_⟩
          refine hS.store hB trivial g1 (fun W' hW' hk => ?_)
          exact ⟨_, hW', segsR_append (segs_kept hk hua (fun _ _ => trivial)) ⟨_, ub, rfl, ⟨rfl, by simpa using hlen⟩, segs_kept hk hub (fun _ _ => trivial)⟩⟩
        · cases h
      · cases h
    · rename_i t0 k' ws hl hs
      split at h
      · rename_i hk
        cases h
        obtain rfl := kind_ne hk
        have hjw := hO.1
        rw [hd]
        intro C n E s a W Q hS hargs hbl _ _ _
        rw [ho] at hargs
        obtain ⟨⟨hp, h0, h1⟩, ⟨hq, _⟩⟩ := av2 hargs
        have hB := hbl id _ (look_mem hl)
        have hb := hS.blks id _ hB
        have hj : j.toNat < ws.length := by omega
        simp only [Blk.R] at hb
        cases hc : E.cap id with
        | none => rw [hc] at hb; subst hb; simp at hj
        | some cp =>
          rw [hc] at hb
          obtain ⟨us, g1, g2, g3, g4, g5⟩ := hb
          have hst := run_storeVar_at ht hs (u := a.eval q) (vs := [.int k x]) (by rw [hq]; rfl) rfl (by simp [Value.oneCell']) g1 (off := 0 + j.toNat) (by simp only [List.length_singleton]; omega)
          have e4 : us.take (0 + j.toNat) ++ [Value.int k x] ++ us.drop (0 + j.toNat + [Value.int k x].length) = us.set j.toNat (.int k x) := by
            rw [Nat.zero_add, List.length_singleton, take_set_drop _ _ _ (by omega)]
          rw [e4] at hst
          refine skip a W _ _ Q (exec_store ho hp hst) ⟨E, ?_⟩
          refine hS.store hB (by simp [Blk.live, hc]) g1 (fun W' hW' hk => ?_)
          simp only [Blk.R, hc]
          refine ⟨_, hW', by simpa using g2, g3, by simpa using g4, ?_⟩
          rw [List.length_set, List.take_set, g5, List.map_set]
      · cases h
    · cases h
  · cases h

/-! ### New blocks -/
theorem Sat.new {C : Cx} {n : Nat} {E : En} {s : St} {a : Act} {W : World} (hS : Sat C n E s a W) {id : Nat} {t : TypeId} {l : List Seg} {us : List Value} (hn : id < n) (hfr : s.fresh id = true) (hl : segsHas id l = false) (hR : segsR E W l us) :
    ∃ E', Sat C n E' (s.put ⟨some id, .c (.sc (.p id 0)), some (id, .sg t l), true⟩) (a.put (some id) (.pointer (some ⟨W.heap.size, 0, none⟩))) (W.alloc (.cells us.toArray t)) := by
  let E' : En := ⟨fun i => if i = id then W.heap.size else E.rho i, E.cap, E.ro⟩
  have hold : ∀ b, b < W.heap.size → (W.alloc (.cells us.toArray t)).heap[b]? = W.heap[b]? := fun b hb => Below.heap_alloc W _ b hb
  have hkp : Kp (fun i => i ≠ id) E W E' (W.alloc (.cells us.toArray t)) := ⟨fun i hi => by simp [E', hi], fun _ _ => rfl, fun _ h => h, fun b hb => hold b (hS.ro b hb).1⟩
  have hid : E'.rho id = W.heap.size := by simp [E']
  refine ⟨E', hS.step (E' := E') (d := ⟨some id, .c (.sc (.p id 0)), some (id, .sg t l), true⟩) (by simpa using hn) ?_ ⟨?_, fun _ _ => rfl, fun _ h => h, hkp.mem⟩ ?_ ?_ ?_ ?_ ?_ ?_ ?_ rfl rfl rfl (by simp) ?_ (fun i B g hi hg => by cases hi; have := (hS.fix id g hg).1; omega)⟩
  · intro _
    show _ = _
    rw [hid]
  · intro i hi
    have : i ≠ id := by intro e; subst e; exact hi rfl rfl
    exact hkp.rho i this
  · intro _ i B hi; cases hi; exact hfr
  · intro i B hi; cases hi
    refine ⟨us, by rw [hid]; exact heap_alloc_new W _, ?_⟩
    refine segs_kept hkp hR (fun d hd => ?_)
    intro e; subst e; rw [hl] at hd; cases hd
  · intro i B hi _; cases hi
    refine ⟨.inl (by rw [hid]; exact hS.hsize), fun h => ?_⟩
    have := (hS.ro _ h).1
    rw [hid] at this
    omega
  · intro i B hi _ j A hji hj hA he; cases hi
    have := live_lt hS hj hA
    rw [hid] at he
    omega
  · intro j A hj hA; exact (hS.own j A hj hA).2
  · intro j A hj hA _; exact hold _ (live_lt hS hj hA)
  · intro b hb
    have := hS.ro b hb
    exact ⟨by simp; omega, this.2⟩
  · intro b hb _
    exact hold b (Nat.lt_of_lt_of_le hb hS.hsize)
def effNew (t : TypeId) (l : List Seg) : Option Nat → Eff
  | some id => match segsHas id l with
    | false => some (⟨some id, .c (.sc (.p id 0)), some (id, .sg t l), true⟩, [])
    | true => none
  | none => none
theorem new_ok {o : Oper} {args : List AV} {bl : List (Nat × Blk)} {d : Dl} {O : List Prop} {t : TypeId} {l : List Seg} (h : effNew t l o.dst = some (d, O))
    (hx : ∀ (E : En) (W : World) (ev : Operand → Value), avsR E W args (o.op.operands.toList.map ev) → ∃ us, segsR E W l us ∧ (execOp ev o).run P W = .ok (.value (.pointer (some ⟨W.heap.size, 0, none⟩))) (W.alloc (.cells us.toArray t))) :
    OpOk P o args bl { d with dst := o.dst } := by
  unfold effNew at h
  split at h
  · rename_i id hdst
    split at h
    · rename_i hl
      cases h
      intro C n E s a W Q hS hargs _ hfr hn _
      obtain ⟨us, h1, h2⟩ := hx E W a.eval hargs
      rw [hdst]
      unfold Oper.wp
      rw [h2]
      simp only [Oper.upon, hdst]
      exact hS.new (hn id hdst) (hfr rfl id _ rfl) hl h1
    · cases h
  · cases h
def effAlloc (tau : Tau) (t : TypeId) (dst : Option Nat) : Eff := match tau.zero t with
  | some l => effNew t l dst
  | none => none
theorem alloc_ok (ht : TauOk P tau) {o : Oper} {t : TypeId} (ho : o.op = .alloc t) {args : List AV} {bl : List (Nat × Blk)} {d : Dl} {O : List Prop} (h : effAlloc tau t o.dst = some (d, O)) : OpOk P o args bl { d with dst := o.dst } := by
  unfold effAlloc at h
  split at h
  · rename_i l hl
    refine new_ok h (fun E W ev _ => ?_)
    obtain ⟨i, v, us, h1, h2, h3, h4⟩ := ht.zero _ _ hl
    refine ⟨us, h4 E W, ?_⟩
    simp only [execOp, ho, Instr.alloc, zeroValue, typeInfo, Sem.run_bind, run_program, Result.andThen_ok, h1, Sem.run_pure, h2, newVar, newRow, newObj, Sem.run, h3]
    rfl
  · cases h
def effBox (t : TypeId) (dst : Option Nat) : List AV → Eff
  | [.c x] => effNew t x.segs dst
  | _ => none
theorem box_ok {o : Oper} {t : TypeId} {p : Operand} (ho : o.op = .box t p) {args : List AV} {bl : List (Nat × Blk)} {d : Dl} {O : List Prop} (h : effBox t o.dst args = some (d, O)) : OpOk P o args bl { d with dst := o.dst } := by
  unfold effBox at h
  split at h
  · rename_i x
    refine new_ok h (fun E W ev hR => ?_)
    rw [ho] at hR
    obtain ⟨us, h1, h2⟩ := Cm.R_cells (av1 hR)
    refine ⟨us, h2, ?_⟩
    simp only [execOp, ho, Instr.box, newVar, newRow, newObj, Sem.run_bind, Sem.run, Result.andThen_ok, Sem.run_pure, h1]
    rfl
  · cases h

/-! ### Literals -/
def fillS (tau : Tau) (fs : List Field) : List Seg → List Nat → List AV → Option (List Seg)
  | l, [], [] => some l
  | l, i :: is, .c x :: xs => match fs[i]? with
    | some f => match tau.size f.type with
      | some m => match Nat.beq (segsSize x.segs) m, splitS l f.offset with
        | true, some (a, r) => match splitS r m with
          | some (_, b) => fillS tau fs (a ++ (x.segs ++ b)) is xs
          | none => none
        | _, _ => none
      | none => none
    | none => none
  | _, _, _ => none
def fillA (k : IntKind) (n : Nat) : List Int → List Nat → List AV → Option (List Int)
  | ws, [], [] => some ws
  | ws, i :: is, .c (.sc (.v (.int k' x))) :: xs => match Nat.blt i n, decide (k' = k) with
    | true, true => fillA k n (ws.set i x) is xs
    | _, _ => none
  | _, _, _ => none
def sizesKnown (tau : Tau) : List Field → Bool
  | [] => true
  | f :: l => (tau.size f.type).isSome && sizesKnown tau l
def effBuild (tau : Tau) (t : TypeId) (is : List Nat) (dst : Option Nat) (args : List AV) : Eff := match tau.zero t, tau.und t with
  | some l, some (.struct fs) => match sizesKnown tau fs.toList, fillS tau fs.toList l is args with
    | true, some l' => out dst (.c (.ag l')) []
    | _, _ => none
  | some [.row k n ws], some (.array m e) => match Nat.beq n m, tau.size e with
    | true, some 1 => match fillA k n ws is args with
      | some ws' => out dst (.c (.ag [.row k n ws'])) []
      | none => none
    | _, _ => none
  | _, _ => none
theorem fold_set (vs : List Value) : ∀ (us : List Value) (off k : Nat), off + k + vs.length ≤ us.length → (vs.toArray.zipIdx k).foldl (fun cs (c, j) => cs.setIfInBounds (off + j) c) us.toArray = (us.take (off + k) ++ vs ++ us.drop (off + k + vs.length)).toArray := by
  induction vs with
  | nil => intro us off k _; rw [← Array.foldl_toList]; simp
  | cons v vs ih =>
    intro us off k h
    simp only [List.length_cons] at h
    rw [← Array.foldl_toList]
    have e : ((v :: vs).toArray.zipIdx k).toList = (v, k) :: (vs.toArray.zipIdx (k + 1)).toList := by simp [List.zipIdx_cons]
    rw [e, List.foldl_cons, Array.foldl_toList]
    simp only [List.setIfInBounds_toArray]
    rw [ih (us.set (off + k) v) off (k + 1) (by simp only [List.length_set]; omega)]
    congr 1
    rw [← take_set_drop us (off + k) v (by omega)]
    have hA : (us.take (off + k) ++ [v]).length = off + (k + 1) := by simp only [List.length_append, List.length_take, List.length_singleton]; omega
    rw [List.take_left' hA, List.drop_append, List.drop_eq_nil_of_le (by omega), List.drop_drop, hA]
    simp only [List.nil_append, List.append_assoc, List.singleton_append, List.length_cons]
    rw [show off + k + 1 + (off + (k + 1) + vs.length - (off + (k + 1))) = off + k + (vs.length + 1) by omega]
def fieldPlaces (tau : Tau) : List Field → List (Nat × Nat)
  | [] => []
  | f :: l => (f.offset, (tau.size f.type).getD 0) :: fieldPlaces tau l
theorem places_run (ht : TauOk P tau) (W : World) : ∀ (l : List Field), sizesKnown tau l = true → (l.mapM fun f => do pure (f.offset, ← sizeOf f.type) : Sem (List (Nat × Nat))).run P W = .ok (fieldPlaces tau l) W
  | [], _ => rfl
  | f :: l, h => by
    simp only [sizesKnown, Bool.and_eq_true] at h
    cases hs : tau.size f.type with
    | none => rw [hs] at h; cases h.1
    | some m =>
      obtain ⟨i, hi, hsz⟩ := ht.size _ _ hs
      have h1 : (sizeOf f.type).run P W = .ok m W := by simp only [sizeOf, typeInfo, Sem.run_bind, run_program, Result.andThen_ok, hi, Sem.run_pure, hsz]
      have h2 := places_run ht W l h.2
      simp only [List.mapM_cons, Sem.run_bind, h1, Result.andThen_ok, Sem.run_pure, h2, fieldPlaces, hs, Option.getD_some]
theorem fieldPlaces_get (tau : Tau) : ∀ (l : List Field) (i : Nat) (f : Field), l[i]? = some f → (fieldPlaces tau l)[i]? = some (f.offset, (tau.size f.type).getD 0)
  | [], i, f, h => by simp at h
  | g :: l, 0, f, h => by cases h; rfl
  | g :: l, i + 1, f, h => by simpa [fieldPlaces] using fieldPlaces_get tau l i f (by simpa using h)
theorem fillS_run (tau : Tau) (fs : List Field) {E : En} {W : World} (pl : Nat → Option (Nat × Nat)) (hpl : ∀ i f, fs[i]? = some f → pl i = some (f.offset, (tau.size f.type).getD 0)) : ∀ (is : List Nat) (xs : List AV) (vs us : List Value) (l l' : List Seg), segsR E W l us → avsR E W xs vs → fillS tau fs l is xs = some l' →
    ∃ us', Instr.fill pl us.toArray (is.zip vs) = some us'.toArray ∧ segsR E W l' us'
  | [], [], vs, us, l, l', hl, hx, h => by
    simp only [fillS, Option.some.injEq] at h
    subst h
    exact ⟨us, by simp [Instr.fill], hl⟩
  | [], _ :: _, _, _, _, _, _, _, h => by simp [fillS] at h
  | i :: is, [], _, _, _, _, _, _, h => by simp [fillS] at h
  | i :: is, x :: xs, vs, us, l, l', hl, hx, h => by
    obtain ⟨v, vs', rfl, hv, hvs⟩ := hx
    cases x with
    | c x =>
      simp only [fillS] at h
      split at h
      · rename_i f hf
        split at h
        · rename_i m hs
          split at h
          · rename_i a r hm hsp
            split at h
            · rename_i mid b hsp2
              obtain ⟨rfl, hoff⟩ := splitS_spec hsp
              obtain ⟨rfl, hmid⟩ := splitS_spec hsp2
              obtain ⟨ua, ur, rfl, hua, hur⟩ := segsR_split hl
              obtain ⟨um, ub, rfl, hum, hub⟩ := segsR_split hur
              obtain ⟨cv, hcv, hcR⟩ := Cm.R_cells hv
              have hm := Nat.eq_of_beq_eq_true hm
              have e1 : f.offset = ua.length := by rw [segsR_size hua, hoff]
              have e2 : cv.length = m := by rw [segsR_size hcR, hm]
              have e3 : um.length = m := by rw [segsR_size hum, hmid]
              obtain ⟨us', h1, h2⟩ := fillS_run tau fs pl hpl is xs vs' (ua ++ (cv ++ ub)) _ l' (segsR_append hua (segsR_append hcR hub)) hvs h
              refine ⟨us', ?_, h2⟩
              simp only [List.zip_cons_cons, Instr.fill, hpl i f hf, hs, Option.getD_some]
              rw [if_neg (by rw [hcv]; simp only [List.size_toArray, List.length_append, Bool.or_eq_true, decide_eq_true_eq, not_or]; omega), hcv]
              rw [← h1]
              congr 1
              have := fold_set cv (ua ++ (um ++ ub)) f.offset 0 (by simp only [List.length_append]; omega)
              rw [this, Nat.add_zero, e1, List.take_left, List.drop_append, show ua.length + cv.length - ua.length = cv.length by omega, List.drop_eq_nil_of_le (by omega), List.nil_append, List.append_assoc, e2, ← e3, List.drop_left]
            · cases h
          · cases h
        · cases h
      · cases h
    | tu l => simp [fillS] at h
    | un => simp [fillS] at h
theorem fillA_run {E : En} {W : World} {k : IntKind} {n : Nat} (pl : Nat → Option (Nat × Nat)) (hpl : ∀ i, pl i = some (i, 1)) : ∀ (is : List Nat) (xs : List AV) (vs : List Value) (ws ws' : List Int), ws.length = n → avsR E W xs vs → fillA k n ws is xs = some ws' →
    Instr.fill pl (ws.map (Value.int k)).toArray (is.zip vs) = some (ws'.map (Value.int k)).toArray ∧ ws'.length = n
  | [], [], vs, ws, ws', hl, hx, h => by
    simp only [fillA, Option.some.injEq] at h
    subst h
    exact ⟨by simp [Instr.fill], hl⟩
  | [], _ :: _, _, _, _, _, _, h => by simp [fillA] at h
  | i :: is, [], _, _, _, _, _, h => by simp [fillA] at h
  | i :: is, x :: xs, vs, ws, ws', hl, hx, h => by
    obtain ⟨v, vs', rfl, hv, hvs⟩ := hx
    have core : ∀ (k' : IntKind) (y : Int), x = .c (.sc (.v (.int k' y))) → Instr.fill pl (ws.map (Value.int k)).toArray ((i :: is).zip (v :: vs')) = some (ws'.map (Value.int k)).toArray ∧ ws'.length = n := by
      rintro k' y rfl
      simp only [fillA] at h
      split at h
      · rename_i hi hk
        obtain rfl := kind_ne hk
        have hi : i < n := by simpa using hi
        obtain ⟨rfl, _⟩ := hv
        obtain ⟨h1, h2⟩ := fillA_run pl hpl is xs vs' (ws.set i y) ws' (by simpa using hl) hvs h
        refine ⟨?_, h2⟩
        simp only [List.zip_cons_cons, Instr.fill, hpl i]
        have hc : (Value.int k' y).cells = #[.int k' y] := rfl
        rw [if_neg (by rw [hc]; simp; omega), hc, ← h1]
        congr 1
        have := fold_set [.int k' y] (ws.map (Value.int k')) i 0 (by simp; omega)
        rw [show (#[.int k' y] : Array Value) = [Value.int k' y].toArray from rfl, this, Nat.add_zero, List.length_singleton, take_set_drop _ _ _ (by simp; omega), List.map_set]
      · cases h
    cases x with
    | c x => cases x with
      | sc s => cases s with
        | v y => cases y with
          | int k' y => exact core k' y rfl
          | _ => simp [fillA] at h
        | _ => simp [fillA] at h
      | ag l => simp [fillA] at h
    | tu l => simp [fillA] at h
    | un => simp [fillA] at h
theorem zip_map {α β γ : Type} (f : β → γ) : ∀ (l : List (α × β)), (l.map (·.1)).zip ((l.map (·.2)).map f) = l.map fun (i, x) => (i, f x)
  | [] => rfl
  | (i, x) :: l => by simp only [List.map_cons, List.zip_cons_cons, zip_map f l]
theorem build_ok (ht : TauOk P tau) {o : Oper} {t : TypeId} {ps : Array (Nat × Operand)} (ho : o.op = .build t ps) {args : List AV} {bl : List (Nat × Blk)} {d : Dl} {O : List Prop} (h : effBuild tau t (ps.toList.map (·.1)) o.dst args = some (d, O)) :
    OpOk P o args bl { d with dst := o.dst } := by
  have parts : ∀ (ev : Operand → Value), (ps.map fun (i, x) => (i, ev x)).toList = (ps.toList.map (·.1)).zip ((ps.toList.map (·.2)).map ev) := by
    intro ev; rw [zip_map]; simp
  have opnds : ∀ (ev : Operand → Value), o.op.operands.toList.map ev = (ps.toList.map (·.2)).map ev := by
    intro ev; rw [ho]; simp [Op.operands]
  unfold effBuild at h
  split at h
  · rename_i l fs hz hu
    split at h
    · rename_i l' hk hfill
      cases h
      refine OpOk_pure (fun E W ev hR => ?_)
      rw [opnds] at hR
      obtain ⟨i, v, us, h1, h2, h3, h4⟩ := ht.zero _ _ hz
      have hpr := places_run ht W fs.toList hk
      have hpr' : (fs.mapM fun f => do pure (f.offset, ← sizeOf f.type) : Sem (Array (Nat × Nat))).run P W = .ok (fieldPlaces tau fs.toList).toArray W := by
        rw [← Array.toArray_toList (xs := fs), List.mapM_toArray, map_eq_pure_bind, Sem.run_bind, hpr]; rfl
      obtain ⟨us', g1, g2⟩ := fillS_run tau fs.toList (E := E) (W := W) (fun i => (fieldPlaces tau fs.toList).toArray[i]?) (fun i f hf => by simpa using fieldPlaces_get tau fs.toList i f hf) _ _ _ us l l' (h4 E W) hR hfill
      refine ⟨.agg us'.toArray, ?_, us', rfl, g2⟩
      have e0 : (execOp ev o) = (do pure (.value (← Instr.build t (ps.map fun (i, x) => (i, ev x))))) := by simp only [execOp, ho]
      rw [e0]
      simp only [Instr.build, zeroValue, typeInfo, Sem.run_bind, run_program, Result.andThen_ok, h1, Sem.run_pure, h2, run_underlying (ht.und _ _ hu), h3, hpr', parts, g1]
    · cases h
  · rename_i k n ws m e hz hu
    split at h
    · rename_i hnm hs
      split at h
      · rename_i ws' hfill
        cases h
        obtain rfl := Nat.eq_of_beq_eq_true hnm
        refine OpOk_pure (fun E W ev hR => ?_)
        rw [opnds] at hR
        obtain ⟨i, v, us, h1, h2, h3, h4⟩ := ht.zero _ _ hz
        obtain ⟨j, hj1, hj2⟩ := ht.size _ _ hs
        obtain ⟨u1, u2, rfl, ⟨rfl, hlen⟩, hu2⟩ := h4 E W
        simp only [segsR] at hu2
        subst hu2
        obtain ⟨g1, g2⟩ := fillA_run (E := E) (W := W) (k := k) (n := n) (fun i => some (i * 1, 1)) (fun i => by rw [Nat.mul_one]) _ _ _ ws ws' hlen hR hfill
        refine ⟨.agg (ws'.map (Value.int k)).toArray, ?_, _, rfl, ⟨_, [], (List.append_nil _).symm, ⟨rfl, g2⟩, rfl⟩⟩
        have e0 : (execOp ev o) = (do pure (.value (← Instr.build t (ps.map fun (i, x) => (i, ev x))))) := by simp only [execOp, ho]
        rw [e0]
        simp only [Instr.build, zeroValue, typeInfo, Sem.run_bind, run_program, Result.andThen_ok, h1, Sem.run_pure, h2, run_underlying (ht.und _ _ hu), h3, sizeOf, hj1, hj2, parts, List.append_nil, g1]
      · cases h
    · cases h
  · cases h

/-! ### All of them -/
def eff (tau : Tau) (op : Op) (dst : Option Nat) (args : List AV) (bl : List (Nat × Blk)) : Eff := match op with
  | .move _ => effMove dst args
  | .assign _ => effMove dst args
  | .pick _ _ _ => effPick dst args
  | .alloc t => effAlloc tau t dst
  | .box t _ => effBox t dst args
  | .build t ps => effBuild tau t (ps.toList.map (·.1)) dst args
  | .load t _ => effLoad tau t dst bl args
  | .store t _ _ => match dst with
    | none => effStore tau t bl args
    | some _ => none
  | .nilCheck _ => effNil dst args
  | .binOp op t x y _ => effBin tau op t (isC x || isC y) dst args
  | .unOp op _ _ => effUn op dst args
  | .convert a b _ => effConv tau a b dst args
  | .makeInterface t _ => effIface tau t dst args
  | .fieldAddr t _ f => effFieldAddr tau t f dst args
  | .field t _ f => effField tau t f dst args
  | .indexAddr t _ _ => effIndexAddr tau t dst args
  | .index t _ _ => effIndex tau t dst args
  | .extract _ i => effExtract i dst args
  | .call c => effCall tau c dst args
  | _ => none
theorem eff_ok (ht : TauOk P tau) : EffOk P (eff tau) := by
  intro o args bl d O h hO
  unfold eff at h
  split at h
  · rename_i p he; exact move_ok (.inl he) h
  · rename_i p he; exact move_ok (.inr he) h
  · rename_i he; exact pick_ok he h hO
  · rename_i he; exact alloc_ok ht he h
  · rename_i he; exact box_ok he h
  · rename_i he; exact build_ok ht he h
  · rename_i he; exact load_ok ht he h hO
  · rename_i he
    split at h
    · rename_i hd; exact store_ok ht he hd h hO
    · cases h
  · rename_i he; exact nil_ok he h
  · rename_i he; exact bin_ok ht he h hO
  · rename_i he; exact un_ok he h
  · rename_i he; exact conv_ok ht he h
  · rename_i he; exact iface_ok ht he h
  · rename_i he; exact fieldAddr_ok ht he h
  · rename_i he; exact field_ok ht he h
  · rename_i he; exact indexAddr_ok ht he h hO
  · rename_i he; exact index_ok ht he h hO
  · rename_i he; exact extract_ok he h
  · rename_i he; exact call_ok ht he h
  · cases h
end
end Go.Proofs.Ytbbakacfhajohaa.Av

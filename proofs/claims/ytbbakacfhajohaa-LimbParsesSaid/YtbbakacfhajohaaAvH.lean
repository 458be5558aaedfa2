/- '==' and '!=' on structs and on rows of numbers in the abstract run; the run with all its operations. -/
import Derived.Test.YtbbakacfhajohaaAvG
import Derived.ChangeKeysEq
namespace Go.Proofs.Ytbbakacfhajohaa.Av
open Go.RowKit

section
variable {P : Program} {tau : Tau}
def cmOf (tau : Tau) (t : TypeId) (r : List Seg) : Option (Cm × List Seg) := match tau.size t, tau.agg t with
  | some m, some true => match splitS r m with
    | some (x, b) => some (.ag x, b)
    | none => none
  | some 1, some false => match r with
    | .one x :: b => some (.sc x, b)
    | _ => none
  | _, _ => none
theorem cmOf_part (ht : TauOk P tau) {t : TypeId} {r b : List Seg} {x : Cm} (h : cmOf tau t r = some (x, b)) {E : En} {W : World} {ur : List Value} (hr : segsR E W r ur) :
    ∃ u ux ub m, tau.size t = some m ∧ ur = ux ++ ub ∧ segsR E W b ub ∧ x.R E W u ∧ ux.length = m ∧ ∀ ua : List Value, (part t (ua ++ ur).toArray ua.length).run P W = .ok u W := by
  unfold cmOf at h
  split at h
  · rename_i m hs hag
    split at h
    · rename_i x' b' hsp
      cases h
      obtain ⟨rfl, hm⟩ := splitS_spec hsp
      obtain ⟨ux, ub, rfl, hux, hub⟩ := segsR_split hr
      obtain ⟨i, hi, hsz⟩ := ht.size _ _ hs
      have e2 : i.size = ux.length := by rw [segsR_size hux, hm, hsz]
      refine ⟨.agg ux.toArray, ux, ub, m, hs, rfl, hub, ⟨ux, rfl, hux⟩, by rw [segsR_size hux, hm], fun ua => ?_⟩
      have e3 : (ua ++ (ux ++ ub)).toArray.extract ua.length (ua.length + ux.length) = ux.toArray := by
        rw [List.extract_toArray, List.extract_eq_take_drop]
        simp
      simp only [part, Sem.run_bind, ht.isAgg hag, Result.andThen_ok, if_true, sizeOf, typeInfo, run_program, hi, Sem.run_pure, e2, e3]
    · cases h
  · rename_i hs hag
    split at h
    · rename_i x' b'
      cases h
      obtain ⟨u1, ub, rfl, ⟨u, rfl, hu⟩, hub⟩ := hr
      refine ⟨u, [u], ub, 1, hs, rfl, hub, hu, rfl, fun ua => ?_⟩
      have e3 : (ua ++ ([u] ++ ub)).toArray[ua.length]? = some u := by simp
      simp only [part, Sem.run_bind, ht.isAgg hag, Result.andThen_ok, Bool.false_eq_true, if_false, e3, Sem.run_pure]
    · cases h
  · cases h

def eqSc (tau : Tau) (t : TypeId) : Sc → Sc → Option Bool
  | .v (.int k x), .v (.int k' y) => match tau.und t, decide (k = k') with
    | some (.int _), true => some (x == y)
    | _, _ => none
  | .v (.bool x), .v (.bool y) => match tau.und t with
    | some .bool => some (x == y)
    | _ => none
  | .v (.string x), .v (.string y) => match tau.und t with
    | some .string => some (x.toList == y.toList)
    | _ => none
  | _, _ => none
def eqRow (tau : Tau) (n : Nat) (e : TypeId) : List Seg → List Seg → Option Bool
  | [.row k m ws], [.row k' m' ws'] => match tau.und e, tau.size e, tau.agg e, decide (k = k'), Nat.beq m n, Nat.beq m' n with
    | some (.int _), some 1, some false, true, true, true => some (ws == ws')
    | _, _, _, _, _, _ => none
  | _, _ => none
def eqFs (tau : Tau) (rc : TypeId → Cm → Cm → Option Bool) : Nat → List Field → List Seg → List Seg → Option Bool
  | _, [], [], [] => some true
  | off, f :: fs, l, l' => match Nat.beq f.offset off, decide (f.name = "_"), cmOf tau f.type l, cmOf tau f.type l' with
    | true, false, some (x, r), some (x', r') => match rc f.type x x', eqFs tau rc (off + (tau.size f.type).getD 0) fs r r' with
      | some a, some b => some (a && b)
      | _, _ => none
    | _, _, _, _ => none
  | _, _, _, _ => none
def eqC (tau : Tau) (ok : TypeId → Bool) : Nat → TypeId → Cm → Cm → Option Bool
  | 0, _, _, _ => none
  | f + 1, t, x, y => match x, y with
    | .sc a, .sc b => eqSc tau t a b
    | .ag l, .ag l' => match tau.und t with
      | some (.array n e) => eqRow tau n e l l'
      | some (.struct fs) => match ok t with
        | true => eqFs tau (eqC tau ok f) 0 fs.toList l l'
        | false => none
      | _ => none
    | _, _ => none

theorem eqItems_rows (d : Nat) {e : TypeId} {ke k : IntKind} (he : P.underlying e = some (.int ke)) (hp : ∀ (W : World) (cs : Array Value) (j : Nat) (v : Value), cs[j]? = some v → (part e cs j).run P W = .ok v W) (W : World) : ∀ (xs ys : List Int) (pre pre' : List Value) (j : Nat), pre.length = j → pre'.length = j → xs.length = ys.length →
    (Op.eqItems (d + 1) e 1 (pre ++ xs.map (Value.int k)).toArray (pre' ++ ys.map (Value.int k)).toArray (List.range' j xs.length)).run P W = .ok (xs == ys) W
  | [], [], _, _, _, _, _, _ => by simp [Op.eqItems]
  | [], _ :: _, _, _, _, _, _, h => by simp at h
  | _ :: _, [], _, _, _, _, _, h => by simp at h
  | x :: xs, y :: ys, pre, pre', j, h1, h2, h => by
    have ih := eqItems_rows (k := k) d he hp W xs ys (pre ++ [.int k x]) (pre' ++ [.int k y]) (j + 1) (by simp [h1]) (by simp [h2]) (by simpa using h)
    have g1 : (pre ++ (x :: xs).map (Value.int k)).toArray[j * 1]? = some (.int k x) := by rw [Nat.mul_one, ← h1]; simp
    have g2 : (pre' ++ (y :: ys).map (Value.int k)).toArray[j * 1]? = some (.int k y) := by rw [Nat.mul_one, ← h2]; simp
    have e1 : pre ++ (x :: xs).map (Value.int k) = pre ++ [.int k x] ++ xs.map (Value.int k) := by simp
    have e2 : pre' ++ (y :: ys).map (Value.int k) = pre' ++ [.int k y] ++ ys.map (Value.int k) := by simp
    rw [List.length_cons, List.range'_succ, Op.eqItems]
    simp only [Sem.run_bind, hp W _ _ _ g1, hp W _ _ _ g2, Result.andThen_ok, run_equalIn_int W d e k ke x y he]
    rw [e1, e2]
    by_cases hxy : x = y
    · subst hxy
      simp only [beq_self_eq_true, Bool.not_true, Bool.false_eq_true, if_false, ih, List.cons_beq_cons, Bool.true_and]
    · have hb : (x == y) = false := by simpa using hxy
      simp only [hb, Bool.not_false, if_true, Sem.run_pure, List.cons_beq_cons, Bool.false_and]

theorem eqSc_run (ht : TauOk P tau) {t : TypeId} {x y : Sc} {b : Bool} (h : eqSc tau t x y = some b) {E : En} {W : World} {u v : Value} (hx : x.R E W u) (hy : y.R E W v) (d : Nat) : (Op.equalIn (d + 1) t u v).run P W = .ok b W := by
  unfold eqSc at h
  split at h
  · split at h
    · rename_i hu hk
      cases h
      obtain rfl := kind_ne hk
      obtain ⟨rfl, _⟩ := hx
      obtain ⟨rfl, _⟩ := hy
      exact run_equalIn_int W d t _ _ _ _ (ht.und _ _ hu)
    · cases h
  · split at h
    · rename_i hu
      cases h
      obtain ⟨rfl, _⟩ := hx
      obtain ⟨rfl, _⟩ := hy
      exact run_equalIn_bool' W d t _ _ (ht.und _ _ hu)
    · cases h
  · split at h
    · rename_i hu
      cases h
      obtain ⟨rfl, _⟩ := hx
      obtain ⟨rfl, _⟩ := hy
      exact run_equalIn_string W d t _ _ (ht.und _ _ hu)
    · cases h
  · cases h
theorem eqFs_run (ht : TauOk P tau) {rc : TypeId → Cm → Cm → Option Bool} {d : Nat} {E : En} {W : World}
    (hrc : ∀ t x y b u v, rc t x y = some b → x.R E W u → y.R E W v → (Op.equalIn d t u v).run P W = .ok b W) : ∀ (fs : List Field) (off : Nat) (l l' : List Seg) (b : Bool) (pre pre' us us' : List Value),
    eqFs tau rc off fs l l' = some b → segsR E W l us → segsR E W l' us' → pre.length = off → pre'.length = off → (Op.eqFields d (pre ++ us).toArray (pre' ++ us').toArray fs).run P W = .ok b W
  | [], off, [], [], b, pre, pre', us, us', h, _, _, _, _ => by cases h; simp [Op.eqFields]
  | [], off, [], _ :: _, b, pre, pre', us, us', h, _, _, _, _ => by simp [eqFs] at h
  | [], off, _ :: _, _, b, pre, pre', us, us', h, _, _, _, _ => by simp [eqFs] at h
  | f :: fs, off, l, l', b, pre, pre', us, us', h, hl, hl', hp, hp' => by
    simp only [eqFs] at h
    split at h
    · rename_i x r x' r' hoff hnm hc hc'
      split at h
      · rename_i b1 b2 h1 h2
        cases h
        obtain ⟨u, ux, ub, m, hs, rfl, hub, hu, hm, hpart⟩ := cmOf_part ht hc hl
        obtain ⟨v, vx, vb, m', hs', rfl, hvb, hv, hm', hpart'⟩ := cmOf_part ht hc' hl'
        have hoff := Nat.eq_of_beq_eq_true hoff
        have hnm : f.name ≠ "_" := of_decide_eq_false hnm
        rw [hs] at hs'; cases hs'
        have ih := eqFs_run ht hrc fs (off + m) r r' b2 (pre ++ ux) (pre' ++ vx) ub vb (by rw [← h2, hs]; rfl) hub hvb (by simp [hp, hm]) (by simp [hp', hm'])
        have e1 := hpart pre
        have e2 := hpart' pre'
        rw [hp, ← hoff] at e1
        rw [hp', ← hoff] at e2
        simp only [Op.eqFields, hnm, ne_eq, not_false_eq_true, if_true, Sem.run_bind, e1, e2, Result.andThen_ok, hrc _ _ _ _ _ _ h1 hu hv]
        cases b1 with
        | false => simp
        | true => simpa using ih
      · cases h
    · cases h
structure OkOk (P : Program) (ok : TypeId → Bool) : Prop where
  held : ∀ t, ok t = true → P.stoodInHeld t = false
theorem eqC_run (ht : TauOk P tau) {ok : TypeId → Bool} (hok : OkOk P ok) {E : En} {W : World} : ∀ (fu : Nat) (d : Nat) (t : TypeId) (x y : Cm) (b : Bool) (u v : Value), eqC tau ok fu t x y = some b → x.R E W u → y.R E W v → (Op.equalIn (d + 1 + fu) t u v).run P W = .ok b W
  | 0, _, _, _, _, _, _, _, h, _, _ => by simp [eqC] at h
  | fu + 1, d, t, x, y, b, u, v, h, hx, hy => by
    simp only [eqC] at h
    split at h
    · exact eqSc_run ht h hx hy (d + 1 + fu)
    · obtain ⟨us, rfl, hus⟩ := hx
      obtain ⟨vs, rfl, hvs⟩ := hy
      split at h
      · rename_i n e hu
        unfold eqRow at h
        split at h
        · rename_i k m ws k' m' ws'
          split at h
          · rename_i ke hue hse hag hk hm hm'
            cases h
            obtain rfl := kind_ne hk
            obtain ⟨i, hi, hsz⟩ := ht.size _ _ hse
            obtain ⟨u1, u2, rfl, ⟨rfl, hlen⟩, hu2⟩ := hus
            obtain ⟨v1, v2, rfl, ⟨rfl, hlen'⟩, hv2⟩ := hvs
            simp only [segsR] at hu2 hv2
            subst hu2; subst hv2
            have hm := Nat.eq_of_beq_eq_true hm
            have hm' := Nat.eq_of_beq_eq_true hm'
            have hcells : P.cellsOf e = 1 := by simp [Program.cellsOf, hi, hsz]
            have hp : ∀ (W : World) (cs : Array Value) (j : Nat) (v : Value), cs[j]? = some v → (part e cs j).run P W = .ok v W := by
              intro W cs j v hv
              simp only [part, Sem.run_bind, ht.isAgg hag, Result.andThen_ok, Bool.false_eq_true, if_false, hv, Sem.run_pure]
            have := eqItems_rows (k := k) (d + fu) (ht.und _ _ hue) hp W ws ws' [] [] 0 rfl rfl (by omega)
            rw [show d + 1 + (fu + 1) = (d + fu + 1) + 1 by omega, run_equalIn_array W (d + fu + 1) _ _ (ht.und _ _ hu) hi, hcells, List.range_eq_range', ← hm, ← hlen]
            simpa using this
          · cases h
        · cases h
      · rename_i fs hu
        split at h
        · rename_i hokt
          have hf : P.fieldsOf t = fs := by simp [Program.fieldsOf, ht.und _ _ hu]
          have := eqFs_run ht (d := d + 1 + fu) (E := E) (W := W) (fun t x y b u v h hx hy => eqC_run ht hok fu d t x y b u v h hx hy) fs.toList 0 _ _ b [] [] us vs h hus hvs rfl rfl
          rw [show d + 1 + (fu + 1) = (d + 1 + fu) + 1 by omega, run_equalIn_agg W (d + 1 + fu) t _ _ (by rw [hf]; exact ht.und _ _ hu) (hok.held t hokt), hf]
          simpa using this
        · cases h
      · cases h
    · cases h

/-- '==' and '!=' on structs and rows. 'gd': the types that hold no interface value. -/
def effEq (tau : Tau) (ok gd : TypeId → Bool) (op : BinOp) (t : TypeId) (dst : Option Nat) : List AV → Eff
  | [.c (.ag l), .c (.ag l')] => match gd t, eqC tau ok 4 t (.ag l) (.ag l') with
    | true, some b => match op with
      | .eql => out dst (bv b) []
      | .neq => out dst (bv (!b)) []
      | _ => none
    | _, _ => none
  | _ => none
def effAll (tau : Tau) (ok gd : TypeId → Bool) (op : Op) (dst : Option Nat) (args : List AV) (bl : List (Nat × Blk)) : Eff := match op with
  | .binOp b t _ _ _ => match effEq tau ok gd b t dst args with
    | some r => some r
    | none => eff tau op dst args bl
  | _ => eff tau op dst args bl
theorem eq_ok (ht : TauOk P tau) {ok gd : TypeId → Bool} (hok : OkOk P ok) (hgd : ∀ t, gd t = true → P.eqGuardType P.depth t = false) {o : Oper} {op : BinOp} {t u : TypeId} {p q : Operand} (ho : o.op = .binOp op t p q u) {args : List AV} {bl : List (Nat × Blk)} {d : Dl} {O : List Prop}
    (h : effEq tau ok gd op t o.dst args = some (d, O)) : OpOk P o args bl { d with dst := o.dst } := by
  unfold effEq at h
  split at h
  · rename_i l l'
    split at h
    · rename_i b hg hb
      have key : ∀ (E : En) (W : World) (ev : Operand → Value), avsR E W [.c (.ag l), .c (.ag l')] [ev p, ev q] → ∃ xs ys, ev p = .agg xs ∧ ev q = .agg ys ∧ (Op.equalIn 10000 t (.agg xs) (.agg ys)).run P W = .ok b W := by
        intro E W ev hR
        obtain ⟨⟨us, h1, h2⟩, ⟨vs, h3, h4⟩⟩ := av2 hR
        refine ⟨us.toArray, vs.toArray, h1, h3, ?_⟩
        exact eqC_run ht hok 4 9995 t _ _ b _ _ hb ⟨us, rfl, h2⟩ ⟨vs, rfl, h4⟩
      have opnds : ∀ (ev : Operand → Value), o.op.operands.toList.map ev = [ev p, ev q] := by intro ev; rw [ho]; rfl
      split at h
      · cases h
        refine OpOk_pure (fun E W ev hR => ?_)
        rw [opnds] at hR
        obtain ⟨xs, ys, h1, h2, h3⟩ := key E W ev hR
        refine ⟨.bool b, ?_, rfl, rfl⟩
        simp only [execOp, ho, h1, h2, Sem.run_bind, run_eqGuard_agg W _ t p q xs ys (hgd t hg), Result.andThen_ok, run_eql_struct W t xs ys, h3, Sem.run_pure]
      · cases h
        refine OpOk_pure (fun E W ev hR => ?_)
        rw [opnds] at hR
        obtain ⟨xs, ys, h1, h2, h3⟩ := key E W ev hR
        refine ⟨.bool (!b), ?_, rfl, rfl⟩
        simp only [execOp, ho, h1, h2, Sem.run_bind, run_eqGuard_agg W _ t p q xs ys (hgd t hg), Result.andThen_ok, run_neq_struct W t xs ys, h3, Sem.run_pure]
      · cases h
    · cases h
  · cases h
theorem effAll_ok (ht : TauOk P tau) {ok gd : TypeId → Bool} (hok : OkOk P ok) (hgd : ∀ t, gd t = true → P.eqGuardType P.depth t = false) : EffOk P (effAll tau ok gd) := by
  intro o args bl d O h hO
  unfold effAll at h
  split at h
  · rename_i b t p q u he
    split at h
    · rename_i r hr
      cases h
      exact eq_ok ht hok hgd he hr
    · exact eff_ok ht o args bl d O h hO
  · exact eff_ok ht o args bl d O h hO
end
end Go.Proofs.Ytbbakacfhajohaa.Av

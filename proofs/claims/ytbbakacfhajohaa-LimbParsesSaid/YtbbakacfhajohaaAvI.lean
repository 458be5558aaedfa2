/- What single operations do in the abstract run: slices of the call's own arrays. -/
import Derived.Test.YtbbakacfhajohaaAvH
import Derived.Laws.CopyRow
namespace Go.Proofs.Ytbbakacfhajohaa.Av
set_option linter.unusedSimpArgs false
open Go.RowKit

section
variable {P : Program} {tau : Tau}
/-- A part of an array, the first words of a row loaded. -/
def effPart (tau : Tau) (t : TypeId) (dst : Option Nat) (bl : List (Nat × Blk)) : List AV → Eff
  | [.c (.sc (.p id off))] => match look bl id with
    | some (.sg _ l) => match splitS l off with
      | some (_, .row k m' ws :: _) => match tau.size t, tau.agg t with
        | some m, some true => match Nat.blt m m' with
          | true => out dst (.c (.ag [.row k m (ws.take m)])) []
          | false => none
        | _, _ => none
      | _ => none
    | _ => none
  | _ => none
theorem opPart_ok (ht : TauOk P tau) {o : Oper} {t : TypeId} {p : Operand} (ho : o.op = .load t p) {args : List AV} {bl : List (Nat × Blk)} {d : Dl} {O : List Prop} (h : effPart tau t o.dst bl args = some (d, O)) :
    OpOk P o args bl { d with dst := o.dst } := by
  unfold effPart at h
  split at h
  · rename_i id off
    split at h
    · rename_i t0 l hl
      split at h
      · rename_i a0 k m' ws b0 hsp
        obtain ⟨rfl, hoff⟩ := splitS_spec hsp
        split at h
        · rename_i m hs hag
          split at h
          · rename_i hm
            cases h
            intro C n E s a W Q hS hargs hbl _ hn _
            rw [ho] at hargs
            have hm : m < m' := by simpa [Nat.blt_eq] using hm
            have hp : a.eval p = .pointer (some ⟨E.rho id, off, none⟩) := av1 hargs
            obtain ⟨us, h1, h2⟩ := hS.blks id _ (hbl id _ (look_mem hl))
            obtain ⟨ua, ur, rfl, hua, hur⟩ := segsR_split h2
            obtain ⟨u1, ub, rfl, ⟨rfl, hlen⟩, hub⟩ := hur
            have e : ws.map (Value.int k) ++ ub = (ws.take m).map (Value.int k) ++ ((ws.drop m).map (Value.int k) ++ ub) := by
              rw [← List.append_assoc, ← List.map_append, List.take_append_drop]
            rw [e] at h1
            have hex : (execOp a.eval o).run P W = .ok (.value (.agg ((ws.take m).map (Value.int k)).toArray)) W := by
              refine exec_load ho hp ?_
              rw [show off = ua.length by rw [segsR_size hua, hoff]]
              exact run_loadVar_mid ht h1 (by rw [List.length_map, List.length_take, Nat.min_eq_left (by omega)]; exact hs) hag
            unfold Oper.wp
            rw [hex]
            refine ⟨E, hS.pure hn rfl (fun _ => ?_)⟩
            refine ⟨_, rfl, (ws.take m).map (Value.int k), [], by simp, ⟨rfl, by rw [List.length_take]; omega⟩, rfl⟩
          · cases h
        · cases h
      · cases h
    · cases h
  · cases h
/-- A slice of an array of the call's own. -/
def effSliceArr (tau : Tau) (t : TypeId) (dst : Option Nat) : List AV → Eff
  | [.c (.sc (.p id off))] => match tau.und t with
    | some (.array n _) => out dst (.c (.sc (.sl id off n n))) []
    | _ => none
  | [.c (.sc (.p id off)), .c (.sc (.v (.int _ h)))] => match tau.und t, decide (0 ≤ h) with
    | some (.array n e), true => match Nat.ble h.toNat n, tau.size e with
      | true, some _ => out dst (.c (.sc (.sl id off h.toNat n))) []
      | _, _ => none
    | _, _ => none
  | _ => none
theorem opSliceArr_ok (ht : TauOk P tau) {o : Oper} {t : TypeId} {p : Operand} {hi : Option Operand} (ho : o.op = .slice t p none hi none) {args : List AV} {bl : List (Nat × Blk)} {d : Dl} {O : List Prop} (hsz : ∀ n e, tau.und t = some (.array n e) → ∃ m, tau.size e = some m) (h : effSliceArr tau t o.dst args = some (d, O)) :
    OpOk P o args bl { d with dst := o.dst } := by
  unfold effSliceArr at h
  split at h
  · rename_i id off
    split at h
    · rename_i n e hu
      cases h
      refine OpOk_pure (fun E W ev hR => ?_)
      rw [ho] at hR
      obtain ⟨m, hm⟩ := hsz n e hu
      obtain ⟨i, hi', hsz'⟩ := ht.size _ _ hm
      cases hi with
      | some q => simp [Op.operands, avsR] at hR
      | none =>
        have hp : ev p = .pointer (some ⟨E.rho id, off, none⟩) := av1 hR
        refine ⟨.slice (some ⟨E.rho id, off, none⟩) n n, ?_, rfl⟩
        simp [execOp, ho, hp, Instr.sliceAt, run_underlying (ht.und _ _ hu), Instr.sureAddr, Instr.sliceBounds, run_sliceBound, sizeOf, typeInfo, hi', addr_add]
    · cases h
  · rename_i id off k hh
    split at h
    · rename_i n e hu h0
      split at h
      · rename_i m hle hm
        cases h
        refine OpOk_pure (fun E W ev hR => ?_)
        rw [ho] at hR
        obtain ⟨i, hi', hsz'⟩ := ht.size _ _ hm
        have h0 := of_decide_eq_true h0
        have hle := Nat.le_of_ble_eq_true hle
        cases hi with
        | none =>
          obtain ⟨_, _, e1, _, _, _, e2, _⟩ := hR
          simp [Op.operands] at e1
          rw [e1.2] at e2; cases e2
        | some q =>
          obtain ⟨hp, hq, _⟩ := av2 hR
          have hq : ev q = .int k hh := hq
          have hp : ev p = .pointer (some ⟨E.rho id, off, none⟩) := hp
          refine ⟨.slice (some ⟨E.rho id, off, none⟩) hh.toNat n, ?_, rfl⟩
          simp [execOp, ho, hp, hq, Instr.sliceAt, run_underlying (ht.und _ _ hu), Instr.sureAddr, Instr.sliceBounds, run_sliceBound, sizeOf, typeInfo, hi', addr_add, h0, (by omega : hh ≤ (n : Int))]
      · cases h
    · cases h
  · cases h
/-- An array's address out of a slice. -/
def effToArr (tau : Tau) (t : TypeId) (dst : Option Nat) : List AV → Eff
  | [.c (.sc (.sl id off n _))] => match tau.und t with
    | some (.array m _) => match Nat.ble m n with
      | true => out dst (.c (.sc (.p id off))) []
      | false => none
    | _ => none
  | _ => none
theorem opToArr_ok (ht : TauOk P tau) {o : Oper} {t : TypeId} {p : Operand} (ho : o.op = .sliceToArrayPointer t p) {args : List AV} {bl : List (Nat × Blk)} {d : Dl} {O : List Prop} (h : effToArr tau t o.dst args = some (d, O)) :
    OpOk P o args bl { d with dst := o.dst } := by
  unfold effToArr at h
  split at h
  · rename_i id off n c
    split at h
    · rename_i m e hu
      split at h
      · rename_i hle
        cases h
        refine OpOk_pure (fun E W ev hR => ?_)
        rw [ho] at hR
        have hp : ev p = .slice (some ⟨E.rho id, off, none⟩) n c := av1 hR
        have hle := Nat.le_of_ble_eq_true hle
        refine ⟨.pointer (some ⟨E.rho id, off, none⟩), ?_, rfl⟩
        simp [execOp, ho, hp, Instr.arrayAt, run_underlying (ht.und _ _ hu), Nat.not_lt.2 hle]
      · cases h
    · cases h
  · cases h
/-- 'copy' of a whole row into the beginning of a whole block. -/
def effCopy (tau : Tau) (c : Call) (dst : Option Nat) (bl : List (Nat × Blk)) : List AV → Eff
  | [.c (.sc (.sl id 0 n _)), .c (.sc (.sl id2 off2 n2 _))] => match c.argTypes.toList, look bl id, look bl id2 with
    | [t, _], some (.sg t0 [.row k m ws]), some (.sg _ l2) => match tau.und t, splitS l2 off2 with
      | some (.slice e), some (_, .row k2 m2 ws2 :: _) => match tau.size e, Nat.beq m n, Nat.beq m2 n2, Nat.ble n2 n, decide (k = k2), Nat.beq id id2 with
        | some 1, true, true, true, true, false => some (⟨dst, iv .i64 (n2 : Int), some (id, .sg t0 [.row k m (ws2 ++ ws.drop n2)]), false⟩, [])
        | _, _, _, _, _, _ => none
      | _, _ => none
    | _, _, _ => none
  | _ => none
theorem opCopy_ok (ht : TauOk P tau) {o : Oper} {c : Call} (ho : o.op = .call c) (hc : c.callee = .builtin .copy) {args : List AV} {bl : List (Nat × Blk)} {d : Dl} {O : List Prop} (h : effCopy tau c o.dst bl args = some (d, O)) :
    OpOk P o args bl { d with dst := o.dst } := by
  have argsEv : ∀ (ev : Operand → Value), o.op.operands.toList.map ev = (c.args.map ev).toList := by
    intro ev
    rw [ho]
    simp [Op.operands, Call.operands, hc]
  have aEq : ∀ (ev : Operand → Value) (l : List Value), (c.args.map ev).toList = l → c.args.map ev = l.toArray := fun ev l h => by rw [← h]
  unfold effCopy at h
  split at h
  · rename_i id n cp id2 off2 n2 cp2
    split at h
    · rename_i t t' t0 k m ws t2 l2 hts hl1 hl2
      split at h
      · rename_i e a0 k2 m2 ws2 b0 hu hsp
        split at h
        · rename_i hse hm hm2 hle hk hne
          cases h
          obtain ⟨rfl, hoff⟩ := splitS_spec hsp
          obtain rfl := Nat.eq_of_beq_eq_true hm
          obtain rfl := Nat.eq_of_beq_eq_true hm2
          obtain rfl := kind_ne hk
          have hle := Nat.le_of_ble_eq_true hle
          intro C nn E s a W Q hS hargs hbl _ hn _
          rw [argsEv] at hargs
          obtain ⟨i, hi, hsz⟩ := ht.size _ _ hse
          have hargs2 : ∃ u v, (c.args.map a.eval).toList = [u, v] ∧ u = .slice (some ⟨E.rho id, 0, none⟩) m cp ∧ v = .slice (some ⟨E.rho id2, off2, none⟩) m2 cp2 := by
            obtain ⟨u, us, e1, h1, v, vs, e2, h2, h3⟩ := hargs
            have h3 : vs = [] := h3
            subst h3; subst e2
            exact ⟨u, v, e1, h1, h2⟩
          obtain ⟨u, v, e1, rfl, rfl⟩ := hargs2
          have hB := hbl id _ (look_mem hl1)
          obtain ⟨us, g1, g2⟩ := hS.blks id _ hB
          obtain ⟨ur, ub, rfl, ⟨rfl, hlen⟩, hub⟩ := g2
          have hub : ub = [] := hub
          subst hub
          obtain ⟨us2, f1, f2⟩ := hS.blks id2 _ (hbl id2 _ (look_mem hl2))
          obtain ⟨ua2, ur2, rfl, hua2, hur2⟩ := segsR_split f2
          obtain ⟨ur3, ub2, rfl, ⟨rfl, hlen2⟩, hub2⟩ := hur2
          have e5 : off2 = ua2.length := by rw [segsR_size hua2, hoff]
          have hload : (loadCells ⟨E.rho id2, off2, none⟩ (ws2.map (Value.int k)).length).run P W = .ok (ws2.map (Value.int k)).toArray W :=
            run_loadCells_list (P := P) W _ _ (fun j v hv => by
              rw [addr_add, cell_of_row W _ _ _ _ _ f1]
              simp only [List.getElem?_toArray]
              rw [e5, List.getElem?_append_right (by omega), show ua2.length + j - ua2.length = j by omega, List.getElem?_append_left (List.getElem?_eq_some_iff.1 hv).1]
              exact hv)
          have hst := run_storeCells_at P (E.rho id) 0 t0 (ws2.map (Value.int k)) 0 (ws.map (Value.int k) ++ []).toArray W g1 (by simp; omega) (by intro v hv; obtain ⟨x, _, rfl⟩ := List.mem_map.1 hv; rfl)
          have e4 : (ws.map (Value.int k) ++ []).toArray.toList.take (0 + 0) ++ ws2.map (Value.int k) ++ (ws.map (Value.int k) ++ []).toArray.toList.drop (0 + 0 + (ws2.map (Value.int k)).length) = (ws2 ++ ws.drop m2).map (Value.int k) ++ [] := by
            simp [hlen2, List.map_drop]
          rw [e4] at hst
          have hex : (execOp a.eval o).run P W = .ok (.value (.int .i64 (m2 : Int))) (W.setRow (E.rho id) ((ws2 ++ ws.drop m2).map (Value.int k) ++ []).toArray) := by
            have hts' : c.argTypes = #[t, t'] := by rw [← Array.toArray_toList (xs := c.argTypes), hts]
            rw [exec_builtin ho hc, aEq _ _ e1, hts']
            simp only [List.length_map, hlen2] at hload
            simp [builtin, Builtin.copy_, run_underlying (ht.und _ _ hu), Builtin.lenOf, Builtin.firstCells, sizeOf, typeInfo, hi, hsz, Nat.min_eq_left hle, hload, hst, goInt]
          unfold Oper.wp
          rw [hex]
          refine ⟨E, ?_⟩
          have hS1 := hS.store hB trivial g1 (B := .sg t0 [.row k m (ws2 ++ ws.drop m2)]) (fun W' hW' hk => ⟨_, hW', _, [], rfl, ⟨rfl, by simp; omega⟩, rfl⟩)
          exact hS1.pure (d := ⟨o.dst, iv .i64 (m2 : Int), none, false⟩) hn rfl (fun _ => ⟨rfl, rfl⟩)
        · cases h
      · cases h
    · cases h
  · cases h
def effI (tau : Tau) (op : Op) (dst : Option Nat) (args : List AV) (bl : List (Nat × Blk)) : Eff := match op with
  | .load t _ => effPart tau t dst bl args
  | .slice t _ none _ none => match tau.und t with
    | some (.array _ e) => match tau.size e with
      | some _ => effSliceArr tau t dst args
      | none => none
    | _ => none
  | .sliceToArrayPointer t _ => effToArr tau t dst args
  | .call c => match c.callee with
    | .builtin .copy => effCopy tau c dst bl args
    | _ => none
  | _ => none
theorem effI_ok (ht : TauOk P tau) : EffOk P (effI tau) := by
  intro o args bl d O h hO
  unfold effI at h
  split at h
  · rename_i he; exact opPart_ok ht he h
  · rename_i he
    split at h
    · rename_i hu
      split at h
      · rename_i m hm
        exact opSliceArr_ok ht he (fun n e h' => by rw [hu] at h'; cases h'; exact ⟨m, hm⟩) h
      · cases h
    · cases h
  · rename_i he; exact opToArr_ok ht he h
  · rename_i he
    split at h
    · rename_i hc; exact opCopy_ok ht he hc h
    · cases h
  · cases h
/-- One table of effects before another. -/
def effOr (f g : Op → Option Nat → List AV → List (Nat × Blk) → Eff) (op : Op) (dst : Option Nat) (args : List AV) (bl : List (Nat × Blk)) : Eff := match f op dst args bl with
  | some r => some r
  | none => g op dst args bl
theorem effOr_ok {f g : Op → Option Nat → List AV → List (Nat × Blk) → Eff} (hf : EffOk P f) (hg : EffOk P g) : EffOk P (effOr f g) := by
  intro o args bl d O h hO
  unfold effOr at h
  split at h
  · rename_i r hr
    cases h
    exact hf o args bl d O hr hO
  · exact hg o args bl d O h hO
end
end Go.Proofs.Ytbbakacfhajohaa.Av

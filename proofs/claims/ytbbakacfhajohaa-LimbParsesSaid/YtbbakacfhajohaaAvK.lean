/- More operations of the abstract run: errors by their numbers, made slices, parts of slices and strings; a slice that is shut against writing; states that say less. -/
import Derived.Test.YtbbakacfhajohaaAvJ
import Derived.Laws.MakeOwn
import Derived.Laws.Strings2
namespace Go.Proofs.Ytbbakacfhajohaa.Av
set_option linter.unusedSimpArgs false
set_option linter.unusedVariables false
open Go.RowKit

section
variable {P : Program} {tau : Tau} {n : Nat}
/-! ### Errors by their numbers -/
def effErr (tau : Tau) (op : BinOp) (t : TypeId) (nc : Bool) (dst : Option Nat) : List AV → Eff
  | [.c (.sc (.ee _ c)), .c (.sc (.v .nilIface))] => match tau.und t, nc with
    | some (.interface _), true => match op with
      | .eql => out dst (bv (c == 0)) []
      | .neq => out dst (bv (!(c == 0))) []
      | _ => none
    | _, _ => none
  | [.c (.sc (.v (.string x))), .c (.sc (.v (.string y)))] => match op with
    | .lss => out dst (bv (Op.bytesLess x.toList y.toList)) []
    | .gtr => out dst (bv (!(Op.bytesLess x.toList y.toList || x.toList == y.toList))) []
    | _ => none
  | _ => none
theorem err_ok (ht : TauOk P tau) {o : Oper} {op : BinOp} {t u : TypeId} {p q : Operand} (ho : o.op = .binOp op t p q u) {args : List AV} {bl : List (Nat × Blk)} {d : Dl} {O : List Prop} (h : effErr tau op t (isC p || isC q) o.dst args = some (d, O)) :
    OpOk P o args bl { d with dst := o.dst } := by
  have key : ∀ (val : AV) (u : Value), (∀ (W : World) (ev : Operand → Value) (E : En), avsR E W args [ev p, ev q] → (do eqGuard op t p q (ev p) (ev q); binOp op t (ev p) (ev q) : Sem Value).run P W = .ok u W) → (∀ E W, val.R E W u) → OpOk P o args bl ⟨o.dst, val, none, false⟩ := by
    intro val u h1 h2
    refine OpOk_pure (fun E W ev hR => ?_)
    rw [ho] at hR
    refine ⟨u, ?_, h2 E W⟩
    have := h1 W ev E (by simpa [Op.operands] using hR)
    simp only [execOp, ho, Sem.run_bind] at this ⊢
    simp only [this, Result.andThen_ok, Sem.run_pure]
  unfold effErr at h
  split at h
  · rename_i t0 c
    split at h
    · rename_i ms hms hnc
      have hms := ht.und _ _ hms
      have run : ∀ (W : World) (b : Bool), b = (c == 0) → (Op.equalIn 10000 t (eeV t0 c) .nilIface).run P W = .ok b W := by
        intro W b hb
        subst hb
        unfold eeV
        cases hc : c == 0
        · exact equalIn_in 9999 hms W
        · exact equalIn_nn 9999 hms W
      have guard : ∀ W : World, (eqGuard op t p q (eeV t0 c) .nilIface).run P W = .ok () W := by
        intro W
        unfold eeV
        cases hc : c == 0
        · cases op <;> simp [eqGuard]
        · exact eqGuard_nil op t p q hnc W
      split at h
      · cases h
        refine key _ (.bool (c == 0)) (fun W ev E hR => ?_) (fun _ _ => ⟨rfl, rfl⟩)
        obtain ⟨e1, ⟨e2, _⟩⟩ := av2 hR
        have e1 : ev p = eeV t0 c := e1
        rw [e1, e2]
        have hr := run W _ rfl
        have hg := guard W
        simp only [Sem.run_bind, hg, Result.andThen_ok]
        unfold eeV at hr hg ⊢
        cases hc : c == 0 <;> rw [hc] at hr <;> simp only [cond_true, cond_false] at hr ⊢ <;> simp [binOp, Op.equal, Op.maxDepth, hr]
      · cases h
        refine key _ (.bool (!(c == 0))) (fun W ev E hR => ?_) (fun _ _ => ⟨rfl, rfl⟩)
        obtain ⟨e1, ⟨e2, _⟩⟩ := av2 hR
        have e1 : ev p = eeV t0 c := e1
        rw [e1, e2]
        have hr := run W _ rfl
        have hg := guard W
        simp only [Sem.run_bind, hg, Result.andThen_ok]
        unfold eeV at hr hg ⊢
        cases hc : c == 0 <;> rw [hc] at hr <;> simp only [cond_true, cond_false] at hr ⊢ <;> simp [binOp, Op.equal, Op.maxDepth, hr]
      · cases h
    · cases h
  · rename_i x y
    have fin : ∀ (val : AV) (u : Value), (∀ W : World, (binOp op t (.string x) (.string y)).run P W = .ok u W) → (∀ E W, val.R E W u) → OpOk P o [.c (.sc (.v (.string x))), .c (.sc (.v (.string y)))] bl ⟨o.dst, val, none, false⟩ := by
      intro val u h1 h2
      refine key val u (fun W ev E hR => ?_) h2
      obtain ⟨⟨e1, _⟩, ⟨e2, _⟩⟩ := av2 hR
      rw [e1, e2]
      have : ∀ W : World, (eqGuard op t p q (.string x) (.string y)).run P W = .ok () W := by
        intro W; cases op <;> simp [eqGuard]
      simp only [Sem.run_bind, this, Result.andThen_ok, h1]
    split at h
    · cases h
      exact fin _ (.bool _) (fun W => by simp [binOp, Op.stringOp]) (fun _ _ => ⟨rfl, rfl⟩)
    · cases h
      exact fin _ (.bool _) (fun W => by simp [binOp, Op.stringOp]) (fun _ _ => ⟨rfl, rfl⟩)
    · cases h
  · cases h
/-! ### Made slices -/
def effMake (tau : Tau) (el : List (Nat × IntKind)) (t : TypeId) (dst : Option Nat) : List AV → Eff
  | [.c (.sc (.v (.int _ x))), .c (.sc (.v (.int _ y)))] => match tau.und t, dst with
    | some (.slice e), some d => match look el e with
      | some k => some (⟨dst, .c (.sc (.os d (List.replicate x.toNat (0 : Int)).length)), some (d, .gr e k (List.replicate x.toNat 0)), true⟩, [0 ≤ x, x = y, x ≤ 17592186044416])
      | none => none
    | _, _ => none
  | _ => none
theorem madeCells_int {k : IntKind} (m : Nat) : madeCells #[Value.int k 0] m = ((List.replicate m (0 : Int)).map (Value.int k)).toArray := by
  refine Array.ext (by simp [madeCells]) (fun i h1 h2 => ?_)
  simp [madeCells, Nat.mod_one]
theorem make_ok (ht : TauOk P tau) {el : List (Nat × IntKind)} (hel : ∀ e k, look el e = some k → Elem P e k) {o : Oper} {t : TypeId} {p q : Operand} (ho : o.op = .makeSlice t p q) {args : List AV} {bl : List (Nat × Blk)} {d : Dl} {O : List Prop} (h : effMake tau el t o.dst args = some (d, O)) (hO : allP O) :
    OpOk P o args bl { d with dst := o.dst } := by
  unfold effMake at h
  split at h
  · rename_i kx x ky y
    split at h
    · rename_i e dd hu hdst
      split at h
      · rename_i k hk
        cases h
        obtain ⟨h0, hxy, hb, _⟩ := hO
        subst hxy
        obtain ⟨i, z, hi, hz, hsz, hzc, hby⟩ := hel _ _ hk
        intro C nn E s a W Q hS hargs hbl hfr hn _
        rw [ho] at hargs
        obtain ⟨⟨e1, _⟩, ⟨e2, _⟩⟩ := av2 hargs
        have hex : (execOp a.eval o).run P W = .ok (.value (.slice (some ⟨W.heap.size, 0, none⟩) x.toNat x.toNat)) (W.alloc (.cells (madeCells z.cells (x.toNat * i.size)) e)) := by
          have hbx : (i.bytes : Int) * x ≤ 281474976710656 := by
            have h1 : (i.bytes : Int) * x ≤ 8 * x := Int.mul_le_mul_of_nonneg_right (by omega) h0
            omega
          have := run_make (P := P) W t e i z (ht.und _ _ hu) hi hz kx ky x x h0 (Int.le_refl _) hbx (by omega)
          simp [execOp, ho, e1, e2, this]
        unfold Oper.wp
        rw [hex]
        show ∃ E', Sat C nn E' _ (a.put o.dst _) _
        rw [hdst] at hn hfr ⊢
        have := hS.newOs (xs := List.replicate x.toNat (0 : Int)) (us := (List.replicate x.toNat (0 : Int)).map (Value.int k)) (k := k) (e := e) (hn dd rfl) (hfr rfl dd _ rfl) (by simp) (by simp) (by simp [maxLen]; omega) rfl
        rw [hzc, hsz, Nat.mul_one, madeCells_int]
        simpa using this
      · cases h
    · cases h
  · cases h
/-! ### Parts of slices and strings -/
def effSlice (tau : Tau) (el : List (Nat × IntKind)) (t : TypeId) (lo hi mx : Option Operand) (dst : Option Nat) (bl : List (Nat × Blk)) (args : List AV) : Eff := match lo, hi, mx, tau.und t with
  | none, some _, none, some (.slice e) => match args, look el e with
    | [.c (.sc (.rs k ws)), .c (.sc (.v (.int _ h)))], some _ => out dst (.c (.sc (.rs k (ws.take h.toNat)))) [0 ≤ h, h ≤ (ws.length : Int)]
    | [.c (.sc (.os id m)), .c (.sc (.v (.int _ h)))], some _ => match look bl id with
      | some (.gr te k ws) => some (⟨dst, .c (.sc (.os id (ws.take h.toNat).length)), some (id, .gr te k (ws.take h.toNat)), false⟩, [m = ws.length, 0 ≤ h, h ≤ (ws.length : Int)])
      | _ => none
    | _, _ => none
  | some _, none, none, some (.slice e) => match args, look el e with
    | [.c (.sc (.rs k ws)), .c (.sc (.v (.int _ l)))], some _ => out dst (.c (.sc (.rs k (ws.drop l.toNat)))) [0 ≤ l, l ≤ (ws.length : Int)]
    | _, _ => none
  | some _, some _, none, some (.slice e) => match args, look el e with
    | [.c (.sc (.rs k ws)), .c (.sc (.v (.int _ l))), .c (.sc (.v (.int _ h)))], some _ => out dst (.c (.sc (.rs k ((ws.take h.toNat).drop l.toNat)))) [0 ≤ l, l ≤ h, h ≤ (ws.length : Int)]
    | _, _ => none
  | none, some _, none, some .string => match args with
    | [.c (.sc (.v (.string s))), .c (.sc (.v (.int _ h)))] => out dst (sv (s.extract 0 h.toNat)) [0 ≤ h, h ≤ (s.size : Int)]
    | _ => none
  | some _, none, none, some .string => match args with
    | [.c (.sc (.v (.string s))), .c (.sc (.v (.int _ l)))] => out dst (sv (s.extract l.toNat s.size)) [0 ≤ l, l ≤ (s.size : Int)]
    | _ => none
  | some _, some _, none, some .string => match args with
    | [.c (.sc (.v (.string s))), .c (.sc (.v (.int _ l))), .c (.sc (.v (.int _ h)))] => out dst (sv (s.extract l.toNat h.toNat)) [0 ≤ l, l ≤ h, h ≤ (s.size : Int)]
    | _ => none
  | _, _, _, _ => none
theorem elem_eq {t e : TypeId} (h : P.underlying t = some (.slice e)) : P.elem t = e := by simp [Program.elem, h]
theorem sizeOf_elem {e : TypeId} {k : IntKind} (h : Elem P e k) (W : World) : (sizeOf e).run P W = .ok 1 W := by
  obtain ⟨i, z, hi, hz, hsz, _⟩ := h
  simp [sizeOf, typeInfo, hi, hsz]
/-- A part of what is only read. -/
theorem RoS_part {E : En} {W : World} {k : IntKind} {ws : List Int} {u : Value} (h : RoS E W k ws u) {l m : Nat} (hl : l ≤ m) (hm : m ≤ ws.length) :
    ∃ a c, u = .slice a ws.length c ∧ ws.length ≤ c ∧ RoS E W k ((ws.take m).drop l) (sliced a l m c 1) := by
  rcases h with ⟨rfl, rfl⟩ | ⟨b, off, cp, rfl, hc, hb, hx⟩
  · refine ⟨none, 0, rfl, Nat.le_refl _, .inl ⟨by simp, ?_⟩⟩
    have h1 : m = 0 := by simpa using hm
    subst h1
    have h2 : l = 0 := by omega
    subst h2
    rfl
  · refine ⟨some ⟨b, off, none⟩, cp, rfl, hc, .inr ⟨b, if cp = l then off else off + l, cp - l, ?_, ?_, hb, fun i x hi => ?_⟩⟩
    · have e : ((ws.take m).drop l).length = m - l := by simp; omega
      rw [e]
      unfold sliced
      by_cases hcl : cp = l
      · simp [hcl]
      · simp [hcl, addr_add]
    · simp; omega
    · have hlt : i < ((ws.take m).drop l).length := (List.getElem?_eq_some_iff.1 hi).1
      have e : ((ws.take m).drop l).length = m - l := by simp; omega
      rw [List.getElem?_drop, List.getElem?_take, if_pos (by omega)] at hi
      have hne : cp ≠ l := by omega
      rw [if_neg hne, Nat.add_assoc]
      exact hx _ _ hi
theorem slice_ok (ht : TauOk P tau) {el : List (Nat × IntKind)} (hel : ∀ e k, look el e = some k → Elem P e k) {o : Oper} {t : TypeId} {x : Operand} {lo hi mx : Option Operand} (ho : o.op = .slice t x lo hi mx) {args : List AV} {bl : List (Nat × Blk)} {d : Dl} {O : List Prop} (h : effSlice tau el t lo hi mx o.dst bl args = some (d, O)) (hO : allP O) :
    OpOk P o args bl { d with dst := o.dst } := by
  have fin : ∀ (val : AV), (∀ (E : En) (W : World) (ev : Operand → Value), avsR E W args (o.op.operands.toList.map ev) → ∃ u, (execOp ev o).run P W = .ok (.value u) W ∧ val.R E W u) → OpOk P o args bl ⟨o.dst, val, none, false⟩ := fun val h => OpOk_pure h
  unfold effSlice at h
  split at h
  · rename_i hp e hu
    have hu := ht.und _ _ hu
    split at h
    · rename_i k ws kh hv k0 hk0
      cases h
      obtain ⟨h0, h1, _⟩ := hO
      refine fin _ (fun E W ev hR => ?_)
      rw [ho] at hR
      obtain ⟨hx, ⟨e2, _⟩⟩ := av2 (x := .c (.sc (.rs k ws))) (u := ev x) (v := ev hp) hR
      obtain ⟨a, c, e1, hc, hr⟩ := RoS_part (l := 0) (m := hv.toNat) hx (Nat.zero_le _) (by omega)
      refine ⟨_, ?_, hr⟩
      have e2 : ev hp = .int kh hv := e2
      have hsl := run_slice_h (P := P) W t a ws.length c (by rw [elem_eq hu]; exact hu) kh hv h0 (by omega)
      rw [elem_eq hu, sizeOf_elem (hel _ _ hk0)] at hsl
      simp [execOp, ho, e1, e2, run_sliceAt_slice W t _ _ _ _ (by rw [elem_eq hu]; exact hu), hsl]
    · rename_i id m kh hv k0 hk0
      split at h
      · rename_i te k ws hl
        cases h
        obtain ⟨hm, h0, h1, _⟩ := hO
        subst hm
        intro C nn E s a W Q hS hargs hbl hfr hn _
        rw [ho] at hargs
        obtain ⟨hx, ⟨e2, _⟩⟩ := av2 (x := .c (.sc (.os id ws.length))) (u := a.eval x) (v := a.eval hp) hargs
        have hH := hbl id _ (look_mem hl)
        have hB := hS.blks id _ hH
        have e2 : a.eval hp = .int kh hv := e2
        have hx : Sc.R E W (.os id ws.length) (a.eval x) := hx
        have hlen : (ws.take hv.toNat).length = hv.toNat := by simp; omega
        have key : ∃ u, (execOp a.eval o).run P W = .ok (.value u) W ∧ Sc.R E W (.os id (ws.take hv.toNat).length) u := by
          simp only [Sc.R] at hx ⊢
          simp only [Blk.R] at hB
          rw [hlen]
          cases hc : E.cap id with
          | none =>
            rw [hc] at hx hB
            subst hB
            have hv0 : hv = 0 := by simp at h1; omega
            subst hv0
            refine ⟨_, ?_, rfl, rfl⟩
            have hsl := run_slice_h (P := P) W t none 0 0 (by rw [elem_eq hu]; exact hu) kh 0 (Int.le_refl _) (Int.le_refl _)
            rw [elem_eq hu, sizeOf_elem (hel _ _ hk0)] at hsl
            simp [execOp, ho, hx.1, e2, run_sliceAt_slice W t _ _ _ _ (by rw [elem_eq hu]; exact hu), hsl, sliced]
          | some c =>
            rw [hc] at hx hB
            obtain ⟨us, g1, g2, g3, g4, g5⟩ := hB
            refine ⟨_, ?_, rfl⟩
            have hsl := run_slice_h (P := P) W t (some ⟨E.rho id, 0, none⟩) ws.length c (by rw [elem_eq hu]; exact hu) kh hv h0 (by omega)
            rw [elem_eq hu, sizeOf_elem (hel _ _ hk0)] at hsl
            have hz : (Addr.add ⟨E.rho id, 0, none⟩ (0 * 1)) = ⟨E.rho id, 0, none⟩ := by rw [addr_add]
            simp only [sliced, Nat.sub_zero, Option.map_some, hz, ite_self, Result.andThen_ok] at hsl
            simp [execOp, ho, hx, e2, run_sliceAt_slice W t _ _ _ _ (by rw [elem_eq hu]; exact hu), hsl]
        obtain ⟨u, hex, hR⟩ := key
        unfold Oper.wp
        rw [hex]
        have hlive : ∀ xs : List Int, (Blk.gr te k xs).live E id → (Blk.gr te k ws).live E id := fun _ h => h
        refine ⟨E, hS.step (d := ⟨o.dst, .c (.sc (.os id (ws.take hv.toNat).length)), some (id, .gr te k (ws.take hv.toNat)), false⟩) hn (fun _ => hR) ⟨fun _ _ => rfl, fun _ _ => rfl, fun _ h => h, fun _ _ => rfl⟩ (by simp) ?_ ?_ ?_
          (fun j A hj hl => (hS.own j A hj hl).2) (fun _ _ _ _ _ => rfl) hS.ro rfl rfl rfl (Nat.le_refl _) (fun _ _ _ => rfl) ?_⟩
        · intro i B hi; cases hi
          simp only [Blk.R] at hB ⊢
          cases hc : E.cap id with
          | none => rw [hc] at hB; subst hB; simp
          | some c =>
            rw [hc] at hB
            obtain ⟨us, g1, g2, g3, g4, g5⟩ := hB
            refine ⟨us, g1, g2, g3, by omega, ?_⟩
            rw [hlen, List.map_take, ← g5, List.take_take]
            congr 1
            omega
        · intro i B hi hl'; cases hi
          exact hS.own id _ hH (hlive _ hl')
        · intro i B hi hl' j A hji hj hA; cases hi
          exact fun he => hji (hS.inj j id A _ hj hH hA (hlive _ hl') he)
        · intro i B g hi hg; cases hi
          exact ((hS.fix id g hg).2.2 _ hH).elim
      · cases h
    · cases h
  · rename_i lp e hu
    have hu := ht.und _ _ hu
    split at h
    · rename_i k ws kl lv k0 hk0
      cases h
      obtain ⟨h0, h1, _⟩ := hO
      refine fin _ (fun E W ev hR => ?_)
      rw [ho] at hR
      obtain ⟨hx, ⟨e2, _⟩⟩ := av2 (x := .c (.sc (.rs k ws))) (u := ev x) (v := ev lp) hR
      obtain ⟨a, c, e1, hc, hr⟩ := RoS_part (l := lv.toNat) (m := ws.length) hx (by omega) (Nat.le_refl _)
      rw [List.take_length] at hr
      refine ⟨_, ?_, hr⟩
      have e2 : ev lp = .int kl lv := e2
      have hsl := run_slice_l (P := P) W t a ws.length c (by rw [elem_eq hu]; exact hu) kl lv h0 (by omega)
      rw [elem_eq hu, sizeOf_elem (hel _ _ hk0)] at hsl
      simp [execOp, ho, e1, e2, run_sliceAt_slice W t _ _ _ _ (by rw [elem_eq hu]; exact hu), hsl]
    · cases h
  · rename_i lp hp e hu
    have hu := ht.und _ _ hu
    split at h
    · rename_i k ws kl lv kh hv k0 hk0
      cases h
      obtain ⟨h0, h1, h2, _⟩ := hO
      refine fin _ (fun E W ev hR => ?_)
      rw [ho] at hR
      obtain ⟨hx, ⟨e2, _⟩, ⟨e3, _⟩⟩ := av3 (x := .c (.sc (.rs k ws))) (u := ev x) (v := ev lp) (w := ev hp) hR
      obtain ⟨a, c, e1, hc, hr⟩ := RoS_part (l := lv.toNat) (m := hv.toNat) hx (by omega) (by omega)
      refine ⟨_, ?_, hr⟩
      have e2 : ev lp = .int kl lv := e2
      have e3 : ev hp = .int kh hv := e3
      have hsl := run_slice_lh (P := P) W t a ws.length c (by rw [elem_eq hu]; exact hu) kl kh lv hv h0 h1 (by omega)
      rw [elem_eq hu, sizeOf_elem (hel _ _ hk0)] at hsl
      simp [execOp, ho, e1, e2, e3, run_sliceAt_slice W t _ _ _ _ (by rw [elem_eq hu]; exact hu), hsl]
    · cases h
  · rename_i hp hu
    have hu := ht.und _ _ hu
    split at h
    · rename_i s kh hv
      cases h
      obtain ⟨h0, h1, _⟩ := hO
      refine fin _ (fun E W ev hR => ?_)
      rw [ho] at hR
      obtain ⟨⟨e1, _⟩, ⟨e2, _⟩⟩ := av2 (u := ev x) (v := ev hp) hR
      refine ⟨.string (s.extract 0 hv.toNat), ?_, rfl, rfl⟩
      have := run_slice_string_h (P := P) W t s hu kh hv h0 h1
      simp [execOp, ho, e1, e2, run_sliceAt_string W t _ _ _ _ hu, this]
    · cases h
  · rename_i lp hu
    have hu := ht.und _ _ hu
    split at h
    · rename_i s kl lv
      cases h
      obtain ⟨h0, h1, _⟩ := hO
      refine fin _ (fun E W ev hR => ?_)
      rw [ho] at hR
      obtain ⟨⟨e1, _⟩, ⟨e2, _⟩⟩ := av2 (u := ev x) (v := ev lp) hR
      refine ⟨.string (s.extract lv.toNat s.size), ?_, rfl, rfl⟩
      have := run_slice_string_l (P := P) W t s hu kl lv h0 h1
      simp [execOp, ho, e1, e2, run_sliceAt_string W t _ _ _ _ hu, this]
    · cases h
  · rename_i lp hp hu
    have hu := ht.und _ _ hu
    split at h
    · rename_i s kl lv kh hv
      cases h
      obtain ⟨h0, h1, h2, _⟩ := hO
      refine fin _ (fun E W ev hR => ?_)
      rw [ho] at hR
      obtain ⟨⟨e1, _⟩, ⟨e2, _⟩, ⟨e3, _⟩⟩ := av3 (u := ev x) (v := ev lp) (w := ev hp) hR
      refine ⟨.string (s.extract lv.toNat hv.toNat), ?_, rfl, rfl⟩
      have := run_slice_string (P := P) W t s kl kh lv hv hu h0 h1 h2
      simp [execOp, ho, e1, e2, e3, run_sliceAt_string W t _ _ _ _ hu, this]
    · cases h
  · cases h
def effK (tau : Tau) (el : List (Nat × IntKind)) (op : Op) (dst : Option Nat) (args : List AV) (bl : List (Nat × Blk)) : Eff := match op with
  | .binOp b t p q _ => effErr tau b t (isC p || isC q) dst args
  | .makeSlice t _ _ => effMake tau el t dst args
  | .slice t _ lo hi mx => effSlice tau el t lo hi mx dst bl args
  | _ => none
theorem effK_ok (ht : TauOk P tau) {el : List (Nat × IntKind)} (hel : ∀ e k, look el e = some k → Elem P e k) : EffOk P (effK tau el) := by
  intro o args bl d O h hO
  unfold effK at h
  split at h
  · rename_i he; exact err_ok ht he h
  · rename_i he; exact make_ok ht hel he h hO
  · rename_i he; exact slice_ok ht hel he h hO
  · cases h
/-! ### A slice of the call's own is shut against writing -/
def shutSt (id i : Nat) (ls hs : List Nat) (n : Nat) (s : St) : Option (St × List Prop) := match look s.L i, look s.H id, Nat.blt i n with
  | some (.c (.sc (.os id' m))), some (.gr _ k ws), true => match Nat.beq id' id with
    | true => some (⟨restr ((i, .c (.sc (.rs k ws))) :: (without id s).L) ls, restr (without id s).H hs⟩, [m = ws.length])
    | false => none
  | _, _, _ => none
theorem entShut {id i : Nat} {ls hs : List Nat} {s s' : St} {O : List Prop} (h : shutSt id i ls hs n s = some (s', O)) (hO : allP O) : Ent n s s' := by
  unfold shutSt at h
  split at h
  · rename_i id' m te k ws hl hH hi
    split at h
    · rename_i hid
      cases h
      obtain rfl := Nat.eq_of_beq_eq_true hid
      obtain ⟨hm, _⟩ := hO
      subst hm
      intro C E a W hS
      have hi : i < n := by simpa [Nat.blt_eq] using hi
      obtain ⟨u, h1, h2⟩ := hS.slots i _ hl
      have hB := hS.blks id' _ hH
      have hS1 : Sat C n E (without id' s) a W := hS.less (fun _ _ h => without_L h) (fun _ _ h => without_H h)
      have h2 : Sc.R E W (.os id' ws.length) u := h2
      have fin : ∀ (E' : En), E'.rho = E.rho → E'.cap = E.cap → (∀ b, E.ro b → E'.ro b) → (∀ b, E'.ro b → E.ro b ∨ ((Blk.gr te k ws).live E id' ∧ b = E.rho id')) → RoS E' W k ws u →
          ∃ E', Sat C n E' ⟨restr ((i, .c (.sc (.rs k ws))) :: (without id' s).L) ls, restr (without id' s).H hs⟩ a W := by
        intro E' g1 g2 g3 g4 g5
        have := hS1.step (E' := E') (W' := W) (d := ⟨some i, .c (.sc (.rs k ws)), none, false⟩) (u := u) (by intro j hj; cases hj; exact hi) (fun _ => g5)
          ⟨fun _ _ => by rw [g1], fun _ _ => by rw [g2], g3, fun _ _ => rfl⟩ (by simp) (by simp) (by simp) (by simp)
          (fun j A hj hA hr => by
            rcases g4 _ hr with h | ⟨h, he⟩
            · exact (hS1.own j A hj hA).2 h
            · have hjid := hS.inj j id' A _ (without_H hj) hH hA h he
              subst hjid
              have hf : (without j s).fresh j = true := without_fresh
              simp only [St.fresh, Bool.and_eq_true, Bool.not_eq_true'] at hf
              exact (hHas_mem hf.2 (look_mem hj)).1 rfl)
          (fun _ _ _ _ _ => rfl)
          (fun b hb => by
            rcases g4 _ hb with h | ⟨h, he⟩
            · exact hS.ro b h
            · have hown := hS.own id' _ hH h
              have hlt := live_lt hS hH h
              rw [he]
              refine ⟨hlt, ?_⟩
              rcases hown.1 with h1 | h1
              · exact .inr h1
              · exact .inl (C.sub _ h1)) rfl rfl rfl (Nat.le_refl _) (fun _ _ _ => rfl) (by simp)
        rw [show (⟨some i, AV.c (.sc (.rs k ws)), none, false⟩ : Dl).dst = some i from rfl, put_same h1] at this
        exact ⟨E', this.less (fun _ _ h => restr_look h) (fun _ _ h => restr_look h)⟩
      simp only [Sc.R] at h2
      simp only [Blk.R] at hB
      cases hc : E.cap id' with
      | none =>
        rw [hc] at h2 hB
        exact fin E rfl rfl (fun _ h => h) (fun _ h => .inl h) (.inl ⟨hB, h2.1⟩)
      | some cp =>
        rw [hc] at h2 hB
        obtain ⟨us, g1, g2, g3, g4, g5⟩ := hB
        refine fin ⟨E.rho, E.cap, fun b => E.ro b ∨ b = E.rho id'⟩ rfl rfl (fun _ h => .inl h) (fun b h => h.imp id (fun h => ⟨by simp [Blk.live, hc], h⟩)) (.inr ⟨E.rho id', 0, cp, h2, g4, .inr rfl, fun j x hj => ?_⟩)
        have hjl : j < ws.length := (List.getElem?_eq_some_iff.1 hj).1
        rw [cell_of_row W _ _ _ _ _ g1, List.getElem?_toArray, Nat.zero_add]
        have h5 : (us.take ws.length)[j]? = (ws.map (Value.int k))[j]? := by rw [g5]
        rw [List.getElem?_take, if_pos hjl, List.getElem?_map, hj] at h5
        exact h5
    · cases h
  · cases h
/-! ### States that say less -/
def AV.le (x y : AV) : Prop := ∀ E W u, x.R E W u → y.R E W u
def Blk.le (x y : Blk) : Prop := ∀ E W id, x.R E W id → y.R E W id ∧ (y.live E id → x.live E id) ∧ (x.isSg → y.isSg)
inductive LeL : List (Nat × AV) → List (Nat × AV) → Prop where
  | nil : LeL [] []
  | cons {i : Nat} {x y : AV} {l l' : List (Nat × AV)} (h : x = y) (t : LeL l l') : LeL ((i, x) :: l) ((i, y) :: l')
  | le {i : Nat} {x y : AV} {l l' : List (Nat × AV)} (h : AV.le x y) (t : LeL l l') : LeL ((i, x) :: l) ((i, y) :: l')
theorem LeL.look {l l' : List (Nat × AV)} (h : LeL l l') : ∀ {i : Nat} {y : AV}, Av.look l' i = some y → ∃ x, Av.look l i = some x ∧ AV.le x y := by
  induction h with
  | nil => intro i y h; simp [Av.look] at h
  | cons h t ih =>
    intro i y hy
    rw [look_cons] at hy ⊢
    split at hy
    · cases hy; subst h; exact ⟨_, by rw [if_pos (by assumption)], fun _ _ _ h => h⟩
    · rw [if_neg (by assumption)]; exact ih hy
  | le h t ih =>
    intro i y hy
    rw [look_cons] at hy ⊢
    split at hy
    · cases hy; exact ⟨_, by rw [if_pos (by assumption)], h⟩
    · rw [if_neg (by assumption)]; exact ih hy
/-- The slots say less; the blocks the same. -/
theorem ent_les {L L' : List (Nat × AV)} {H : List (Nat × Blk)} (hL : LeL L L') : Ent n ⟨L, H⟩ ⟨L', H⟩ := fun C E a W hS =>
  ⟨E, hS.defers, hS.size, fun i y hy => let ⟨x, hx, hle⟩ := hL.look hy; let ⟨u, h1, h2⟩ := hS.slots i x hx; ⟨u, h1, hle E W u h2⟩,
   hS.blks, hS.inj, hS.own, hS.ro, hS.os, hS.tape, hS.output, hS.hsize, hS.keep, hS.fix⟩
theorem le_nil {t : TypeId} {c : Int} (h : c = 0) : AV.le (.c (.sc (.v .nilIface))) (.c (.sc (.ee t c))) := by
  rintro E W u ⟨rfl, _⟩; subst h; rfl
theorem le_err {t : TypeId} {k c : Int} (h : c = k) (h0 : (k == 0) = false) : AV.le (.c (.sc (.v (.iface t (.int .i64 k))))) (.c (.sc (.ee t c))) := by
  rintro E W u ⟨rfl, _⟩; subst h; show _ = eeV t c; unfold eeV; rw [h0]; rfl
theorem le_ee {t : TypeId} {k c : Int} (h : k = c) : AV.le (.c (.sc (.ee t k))) (.c (.sc (.ee t c))) := by subst h; exact fun _ _ _ h => h
/-! ### A contract that says less; arguments that say more -/
theorem Fn.le {f : FuncId} {args : List Cm} {res res' : AV} (h : Fn P f args res) (hr : AV.le res res') : Fn P f args res' := by
  intro E W us hro hus
  have post : ∀ v W', FnPost E W res v W' → FnPost E W res' v W' := fun v W' ⟨E', h1, h2⟩ => ⟨E', hr _ _ _ h1, h2⟩
  rcases h E W us hro hus with ⟨v, hv, hp⟩ | ⟨hv, hp⟩
  · exact .inl ⟨v, hv, post _ _ hp⟩
  · exact .inr ⟨hv, hp.mono fun e W' ⟨v, he, hp⟩ => ⟨v, he, post _ _ hp⟩⟩
inductive LeC : List Cm → List Cm → Prop where
  | nil : LeC [] []
  | cons {x y : Cm} {l l' : List Cm} (h : x = y) (t : LeC l l') : LeC (x :: l) (y :: l')
  | le {x y : Cm} {l l' : List Cm} (h : AV.le (.c x) (.c y)) (t : LeC l l') : LeC (x :: l) (y :: l')
theorem LeC.R {E : En} {W : World} {l l' : List Cm} (h : LeC l l') : ∀ {us : List Value}, cmsR E W l us → cmsR E W l' us := by
  induction h with
  | nil => exact fun h => h
  | cons h t ih => rintro _ ⟨u, vs, e, h1, h2⟩; exact ⟨u, vs, e, h ▸ h1, ih h2⟩
  | le h t ih => rintro _ ⟨u, vs, e, h1, h2⟩; exact ⟨u, vs, e, h E W u h1, ih h2⟩
theorem Fn.args {f : FuncId} {args args' : List Cm} {res : AV} (h : Fn P f args' res) (ha : LeC args args') : Fn P f args res := fun E W us hro hus => h E W us hro (ha.R hus)
theorem AV.le_tu {l l' : List Cm} (h : LeC l l') : AV.le (.tu l) (.tu l') := fun E W u ⟨us, h1, h2⟩ => ⟨us, h1, h.R h2⟩
end
end Go.Proofs.Ytbbakacfhajohaa.Av

/- A call to which blocks are handed: the caller's law. -/
import Derived.Test.YtbbakacfhajohaaAvL
namespace Go.Proofs.Ytbbakacfhajohaa.Av
set_option linter.unusedVariables false
set_option linter.unusedSimpArgs false
open Go.RowKit
/-- What the call owes beside the contract. -/
def okM (n : Nat) (m : Nat → Nat) (H H' : List (Nat × Blk)) (res : AV) : Bool :=
  distinct (H.map fun p => m p.1) && (distinct (H'.map fun p => m p.1) && (distinct ((kH H ++ (kH H').filter fun i => !memN i (kH H)).map m) && (kindOk n m H H' && (allIn res.idsA (kH H') && H'.all fun p => allIn p.2.ids (kH H')))))
theorem distinct_inj {m : Nat → Nat} : ∀ {l : List Nat}, distinct (l.map m) = true → ∀ {i j : Nat}, i ∈ l → j ∈ l → m i = m j → i = j
  | [], _, _, _, h, _, _ => by cases h
  | a :: l, hd, i, j, hi, hj, e => by
    simp only [List.map_cons, distinct, Bool.and_eq_true, Bool.not_eq_true'] at hd
    have hno : ∀ b, b ∈ l → m b ≠ m a := fun b hb e => by
      have : m a ∈ l.map m := List.mem_map.2 ⟨b, hb, e⟩
      rw [memN_iff.2 this] at hd; cases hd.1
    cases hi with
    | head => cases hj with
      | head => rfl
      | tail _ hj => exact absurd e.symm (hno j hj)
    | tail _ hi => cases hj with
      | head => exact absurd e (hno i hi)
      | tail _ hj => exact distinct_inj hd.2 hi hj e
section
variable {n : Nat} {m : Nat → Nat} {H H' : List (Nat × Blk)} {res : AV}
theorem callM_sat {C : Cx} {E : En} {s : St} {a : Act} {W : World} (hS : Sat C n E s a W) {d : Nat} (hd : d < n) (hheld : heldOk m s.H H) (hok : okM n m H H' res = true) {v : Value} {E' : En} {W' : World} (hp : MPost (E.via m) W H res H' v E' W') :
    ∃ E'', Sat C n E'' (afterM m d res H H' s) (a.put (some d) v) W' := by
  simp only [okM, Bool.and_eq_true] at hok
  obtain ⟨hdH, hdH', hdU, hkind, hres, hblk⟩ := hok
  have hmU : ∀ i j, (i ∈ kH H ∨ i ∈ kH H') → (j ∈ kH H ∨ j ∈ kH H') → m i = m j → i = j := by
    have hin : ∀ i, (i ∈ kH H ∨ i ∈ kH H') → i ∈ kH H ++ (kH H').filter fun i => !memN i (kH H) := by
      intro i hi
      by_cases h : i ∈ kH H
      · exact List.mem_append_left _ h
      · refine List.mem_append_right _ (List.mem_filter.2 ⟨hi.resolve_left h, ?_⟩)
        cases hm : memN i (kH H) with
        | false => rfl
        | true => exact absurd (memN_iff.1 hm) h
    intro i j hi hj e
    exact distinct_inj hdU (hin i hi) (hin j hj) e
  let s1 := offIds (offN m H H') s
  have hS1 : Sat C n E s1 a W := hS.less (fun _ _ h => offIds_L h) (fun _ _ h => offIds_H h)
  let E'' : En := ⟨fun c => match inv m H' c with | some i => E'.rho i | none => E.rho c, fun c => match inv m H' c with | some i => E'.cap i | none => E.cap c, fun b => E.ro b ∨ E'.ro b⟩
  have hin : ∀ {i : Nat} {B : Blk}, look H' i = some B → inv m H' (m i) = some i ∧ look (hRen m H') (m i) = some (B.ren m) := fun h => inv_of hdH' h
  -- the callee's names, in the new state
  have kV : Kp (fun i => i ∈ kH H') E' W' (E''.via m) W' := by
    refine ⟨fun i hi => ?_, fun i hi => ?_, fun _ h => .inr h, fun _ _ => rfl⟩
    · obtain ⟨B, hB⟩ := keys_look hi
      show (match inv m H' (m i) with | some i => E'.rho i | none => E.rho (m i)) = _
      rw [(hin hB).1]
    · obtain ⟨B, hB⟩ := keys_look hi
      show (match inv m H' (m i) with | some i => E'.cap i | none => E.cap (m i)) = _
      rw [(hin hB).1]
  -- a block of the caller's that was handed over
  have held : ∀ {i : Nat} {A : Blk}, look H i = some A → look s.H (m i) = some (A.ren m) := fun h => heldOk_look hheld h
  have handed : ∀ {b : Nat}, Handed (E.via m) H b → ∃ i A, look H i = some A ∧ look s.H (m i) = some (A.ren m) ∧ (A.ren m).live E (m i) ∧ E.rho (m i) = b := by
    rintro b ⟨i, A, h1, h2, h3⟩
    exact ⟨i, A, h1, held h1, Blk.via_live.1 h2, h3⟩
  have hro0 : ∀ b, E.ro b → b < W.heap.size := fun b hb => (hS.ro b hb).1
  have nohand : ∀ b, E.ro b → ¬ Handed (E.via m) H b := by
    intro b hb hh
    obtain ⟨i, A, _, h2, h3, h4⟩ := handed hh
    exact (hS.own _ _ h2 h3).2 (h4 ▸ hb)
  have memRo : ∀ b, E.ro b → W'.heap[b]? = W.heap[b]? := fun b hb => hp.block b (hro0 b hb) (nohand b hb)
  -- names that are kept
  have kept : ∀ {i : Nat}, keepN H H' i = true → ∃ t l, look H i = some (.sg t l) := by
    intro i h
    simp only [keepN, Bool.and_eq_true] at h
    cases hl : look H i with
    | none => rw [hl] at h; cases h.1
    | some B => cases B <;> rw [hl] at h <;> first | (exact ⟨_, _, rfl⟩) | (cases h.1)
  have same : ∀ c, (inv m H' c = none ∨ ∃ i, inv m H' c = some i ∧ keepN H H' i = true) → E''.rho c = E.rho c ∧ E''.cap c = E.cap c := by
    rintro c (h | ⟨i, h, hk⟩)
    · constructor
      · show (match inv m H' c with | some i => E'.rho i | none => E.rho c) = _; rw [h]
      · show (match inv m H' c with | some i => E'.cap i | none => E.cap c) = _; rw [h]
    · obtain ⟨t, l, hl⟩ := kept hk
      have hf := hp.fix i t l hl
      have hc := (inv_some h).1
      constructor
      · show (match inv m H' c with | some i => E'.rho i | none => E.rho c) = _; rw [h, ← hc]; exact hf.1
      · show (match inv m H' c with | some i => E'.cap i | none => E.cap c) = _; rw [h, ← hc]; exact hf.2
  have kC : Kp (fun c => inv m H' c = none ∨ ∃ i, inv m H' c = some i ∧ keepN H H' i = true) E W E'' W' := ⟨fun c hc => (same c hc).1, fun c hc => (same c hc).2, fun _ h => .inl h, memRo⟩
  have off : ∀ c, (¬ (inv m H' c = none ∨ ∃ i, inv m H' c = some i ∧ keepN H H' i = true)) → c ∈ offN m H H' := by
    intro c hc
    cases hi : inv m H' c with
    | none => exact absurd (.inl hi) hc
    | some i =>
      obtain ⟨h1, h2⟩ := inv_some hi
      refine List.mem_map.2 ⟨i, List.mem_filter.2 ⟨List.mem_append_right _ h2, ?_⟩, h1⟩
      cases hk : keepN H H' i with
      | false => rfl
      | true => exact absurd (.inr ⟨i, hi, hk⟩) hc
  have okL : ∀ {i : Nat} {x : AV}, look s1.L i = some x → ∀ c, x.has c = true → (inv m H' c = none ∨ ∃ i, inv m H' c = some i ∧ keepN H H' i = true) := by
    intro i x hx c hc
    refine Classical.byContradiction fun hn => ?_
    have := (offIds_no (s := s) (off c hn)).1
    rw [lHas_mem this (look_mem hx)] at hc; cases hc
  have okH : ∀ {i : Nat} {B : Blk}, look s1.H i = some B → (inv m H' i = none ∨ ∃ j, inv m H' i = some j ∧ keepN H H' j = true) ∧ ∀ c, B.has c = true → (inv m H' c = none ∨ ∃ i, inv m H' c = some i ∧ keepN H H' i = true) := by
    intro i B hB
    refine ⟨Classical.byContradiction fun hn => ?_, fun c hc => Classical.byContradiction fun hn => ?_⟩
    · exact (hHas_mem (offIds_no (s := s) (off i hn)).2 (look_mem hB)).1 rfl
    · have := (hHas_mem (offIds_no (s := s) (off c hn)).2 (look_mem hB)).2
      rw [this] at hc; cases hc
  -- an old block that is still spoken of was not handed over, or is a struct that comes back
  have old : ∀ {c : Nat} {B : Blk}, look s1.H c = some B → inv m H' c = none → B.live E c → ¬ Handed (E.via m) H (E.rho c) := by
    intro c B hB hi hl hh
    obtain ⟨j, A, h1, h2, h3, h4⟩ := handed hh
    have e := hS.inj (m j) c _ _ h2 (offIds_H hB) h3 hl h4
    have hj : j ∈ kH H := look_keys h1
    have hnk : keepN H H' j = false := by
      cases hk : keepN H H' j with
      | false => rfl
      | true =>
        simp only [keepN, Bool.and_eq_true] at hk
        cases hl' : look H' j with
        | none => rw [hl'] at hk; cases hk.2
        | some B' => rw [← e, (hin hl').1] at hi; cases hi
    have hc : c ∈ offN m H H' := by
      rw [← e]
      exact List.mem_map.2 ⟨j, List.mem_filter.2 ⟨List.mem_append_left _ hj, by rw [hnk]; rfl⟩, rfl⟩
    exact (hHas_mem (offIds_no (s := s) hc).2 (look_mem hB)).1 rfl
  -- blocks of the new state
  have cases_ : ∀ {c : Nat} {B : Blk}, look (hRen m H' ++ s1.H) c = some B → (∃ i A, look H' i = some A ∧ c = m i ∧ B = A.ren m) ∨ (inv m H' c = none ∧ look s1.H c = some B) := by
    intro c B h
    rw [look_append] at h
    cases hr : look (hRen m H') c with
    | none => rw [hr] at h; exact .inr ⟨hRen_look.1 hr, h⟩
    | some B1 =>
      rw [hr] at h; cases h
      left
      cases hi : inv m H' c with
      | none => rw [hRen_look.2 hi] at hr; cases hr
      | some i =>
        obtain ⟨h1, h2⟩ := inv_some hi
        obtain ⟨A, hA⟩ := keys_look h2
        have := (hin hA).2
        rw [h1, hr] at this
        cases this
        exact ⟨i, A, hA, h1.symm, rfl⟩
  have newLive : ∀ {i : Nat} {A : Blk}, look H' i = some A → ((A.ren m).live E'' (m i) ↔ A.live E' i) := by
    intro i A hA
    rw [← Blk.via_live]
    have hc := kV.cap i (look_keys hA)
    cases A <;> simp [Blk.live, hc]
  have newRho : ∀ {i : Nat} {A : Blk}, look H' i = some A → E''.rho (m i) = E'.rho i := fun hA => kV.rho _ (look_keys hA)
  have oldLive : ∀ {c : Nat} {B : Blk}, inv m H' c = none → (B.live E'' c ↔ B.live E c) := by
    intro c B hi
    have := (same c (.inl hi)).2
    cases B <;> simp [Blk.live, this]
  refine ⟨E'', ?_, ?_, ?_, ?_, ?_, ?_, ?_, hp.os.trans hS.os, hp.tape.trans hS.tape, hp.output.trans hS.output, Nat.le_trans hS.hsize hp.size, ?_, ?_⟩
  · simp [Act.put, hS.defers]
  · simp [Act.put, hS.size]
  · intro i x hx
    rw [put_tmps (fun j hj => by cases hj; rw [hS.size]; exact hd)]
    show ∃ u, (if some d = some i then some v else a.tmps[i]?) = some u ∧ _
    have hx2 : look ((d, res.ren m) :: s1.L) i = some x := hx
    clear hx
    rw [look_cons] at hx2
    split at hx2
    · rename_i e; subst e; cases hx2
      refine ⟨v, by rw [if_pos rfl], AV.via.1 (AV.kept kV hp.res (fun c hc => ?_))⟩
      exact allIn_mem hres (AV.has_ids hc)
    · rename_i e
      rw [if_neg (by intro h; cases h; exact e rfl)]
      obtain ⟨u, h1, h2⟩ := hS1.slots i x hx2
      exact ⟨u, h1, AV.kept kC h2 (fun c hc => okL hx2 c hc)⟩
  · intro c B hB
    rcases cases_ hB with ⟨i, A, hA, rfl, rfl⟩ | ⟨hi, hB⟩
    · refine Blk.via.1 (Blk.kept kV (hp.own.blks i A hA) (look_keys hA) (fun c hc => ?_) (fun _ => rfl))
      have := List.all_eq_true.1 hblk (i, A) (look_mem hA)
      exact allIn_mem this (Blk.has_ids hc)
    · refine Blk.kept kC (hS1.blks c B hB) (okH hB).1 (okH hB).2 (fun hl => ?_)
      exact hp.block _ (live_lt hS1 hB hl) (old hB hi hl)
  · intro c c2 A B hA hB hl hl2 he
    rcases cases_ hA with ⟨i, A1, hA1, rfl, rfl⟩ | ⟨hi, hA⟩
    · rcases cases_ hB with ⟨j, B1, hB1, rfl, rfl⟩ | ⟨hj, hB⟩
      · rw [newRho hA1, newRho hB1] at he
        rw [hp.own.inj i j A1 B1 hA1 hB1 ((newLive hA1).1 hl) ((newLive hB1).1 hl2) he]
      · exfalso
        rw [newRho hA1, (same c2 (.inl hj)).1] at he
        have hl2 := (oldLive hj).1 hl2
        rcases hp.from_ i A1 hA1 ((newLive hA1).1 hl) with h | h
        · exact old hB hj hl2 (he ▸ h)
        · have := live_lt hS1 hB hl2; omega
    · rcases cases_ hB with ⟨j, B1, hB1, rfl, rfl⟩ | ⟨hj, hB⟩
      · exfalso
        rw [newRho hB1, (same c (.inl hi)).1] at he
        have hl := (oldLive hi).1 hl
        rcases hp.from_ j B1 hB1 ((newLive hB1).1 hl2) with h | h
        · exact old hA hi hl (he ▸ h)
        · have := live_lt hS1 hA hl; omega
      · rw [(same c (.inl hi)).1, (same c2 (.inl hj)).1] at he
        exact hS1.inj c c2 A B hA hB ((oldLive hi).1 hl) ((oldLive hj).1 hl2) he
  · intro c A hA hl
    rcases cases_ hA with ⟨i, A1, hA1, rfl, rfl⟩ | ⟨hi, hA⟩
    · have hl := (newLive hA1).1 hl
      rw [newRho hA1]
      have hnr := hp.own.ro i A1 hA1 hl
      rcases hp.from_ i A1 hA1 hl with h | h
      · obtain ⟨j, B, _, h2, h3, h4⟩ := handed h
        have := hS.own _ _ h2 h3
        rw [h4] at this
        exact ⟨this.1, fun hr => hr.elim this.2 hnr⟩
      · exact ⟨.inl (Nat.le_trans hS.hsize h), fun hr => hr.elim (fun hr => by have := hro0 _ hr; omega) hnr⟩
    · have hl := (oldLive hi).1 hl
      rw [(same c (.inl hi)).1]
      have := hS1.own c A hA hl
      refine ⟨this.1, fun hr => hr.elim this.2 (fun hr => ?_)⟩
      rcases (hp.ro _ hr).2 with h | h | h
      · exact this.2 h
      · exact old hA hi hl h
      · have := live_lt hS1 hA hl; omega
  · intro b hb
    rcases hb with hb | hb
    · exact ⟨Nat.lt_of_lt_of_le (hro0 b hb) hp.size, (hS.ro b hb).2⟩
    · obtain ⟨h1, h2⟩ := hp.ro b hb
      refine ⟨h1, ?_⟩
      rcases h2 with h | h | h
      · exact (hS.ro b h).2
      · obtain ⟨j, B, _, h2, h3, h4⟩ := handed h
        rcases (hS.own _ _ h2 h3).1 with h5 | h5
        · rw [← h4]; exact .inr h5
        · rw [← h4]; exact .inl (C.sub _ h5)
      · exact .inr (Nat.le_trans hS.hsize h)
  · intro b hb hK
    have hlt := Nat.lt_of_lt_of_le hb hS.hsize
    refine (hp.block b hlt (fun hh => ?_)).trans (hS.keep b hb hK)
    obtain ⟨j, B, _, h2, h3, h4⟩ := handed hh
    rcases (hS.own _ _ h2 h3).1 with h5 | h5
    · rw [h4] at h5; omega
    · rw [h4] at h5; exact hK h5
  · intro c g hg
    obtain ⟨f1, f2, f3⟩ := hS.fix c g hg
    have hnone : inv m H' c = none ∨ ∃ i, inv m H' c = some i ∧ keepN H H' i = true := by
      cases hi : inv m H' c with
      | none => exact .inl rfl
      | some i =>
        right
        refine ⟨i, rfl, ?_⟩
        obtain ⟨h1, h2⟩ := inv_some hi
        have hk := List.all_eq_true.1 hkind i h2
        cases hl : look H i with
        | none => rw [hl] at hk; have : m i < n := by simpa [Nat.blt_eq] using hk
                  omega
        | some B =>
          rw [hl] at hk
          have hh := held hl
          rw [h1] at hh
          cases B with
          | sg t l => simp only [keepN, hl, isSgB, Bool.true_and]; exact hk
          | gr t k ws => exact (f3 _ hh).elim
          | dead => have : m i < n := by simpa [Nat.blt_eq] using hk
                    omega
    refine ⟨f1, by rw [(same c hnone).1, (same c hnone).2]; exact f2, fun B hB => ?_⟩
    rcases cases_ hB with ⟨i, A, hA, rfl, rfl⟩ | ⟨_, hB⟩
    · rcases hnone with h | ⟨j, h, hk⟩
      · rw [(hin hA).1] at h; cases h
      · rw [(hin hA).1] at h; cases h
        simp only [keepN, Bool.and_eq_true] at hk
        rw [hA] at hk
        cases A with
        | sg t l => trivial
        | gr t k ws => cases hk.2
        | dead => cases hk.2
    · exact f3 B (offIds_H hB)
theorem cms_avs' {E : En} {W : World} : ∀ {l : List Cm} {us : List Value}, avsR E W (l.map .c) us → cmsR E W l us := fun h => cms_avs h
/-- **A call to which blocks are handed.** -/
theorem callM {P : Program} {o : Oper} {f : Nat} {args : List Cm} {s s' : St} {d : Nat} (h : FnM P f args H res H') (ho : isCall o = true) (hdst : o.dst = some d) (ha : evalAll s.L o.op.operands.toList = some (fnv f :: (cmsRen m args).map .c)) (hheld : heldOk m s.H H) (hok : okM n m H H' res = true)
    (hd : Nat.blt d n = true) (hs : afterM m d res H H' s = s') : OpT P n o s s' := by
  intro C E a W Q hS
  subst hs
  unfold isCall at ho
  split at ho
  · rename_i c hc
    split at ho
    · rename_i x hx
      have hargs := evalAll_R hS ha
      rw [hc] at hargs
      simp only [Op.operands, Call.operands, hx, Array.toList_append, List.singleton_append, List.map_cons] at hargs
      obtain ⟨u, us, e, ⟨hu, _⟩, hus⟩ := hargs
      simp only [List.cons.injEq] at e
      obtain ⟨hxe, hus'⟩ := e
      subst hus'
      have hcs := cms_via.2 (cms_avs hus)
      have hok' := hok
      simp only [okM, Bool.and_eq_true] at hok'
      have hO : Own (E.via m) W H := by
        refine ⟨fun i B hi => Blk.via.2 (hS.blks _ _ (heldOk_look hheld hi)), fun i j A B hi hj hA hB he => ?_, fun i A hi hA hr => ?_⟩
        · have := hS.inj (m i) (m j) _ _ (heldOk_look hheld hi) (heldOk_look hheld hj) (Blk.via_live.1 hA) (Blk.via_live.1 hB) he
          have h1 := (inv_of hok'.1 hi).1
          rw [this, (inv_of hok'.1 hj).1] at h1
          exact (Option.some.inj h1).symm
        · exact (hS.own _ _ (heldOk_look hheld hi) (Blk.via_live.1 hA)).2 hr
      obtain ⟨hv, hp⟩ := h (E.via m) W _ (fun b hb => (hS.ro b hb).1) hcs hO
      have hexec : (execOp a.eval o).run P W = (callFunc f ((c.args.toList.map a.eval).toArray)).run P W := by
        unfold execOp
        simp only [hc, resolve, hx, Deferred.ofValue, hxe, hu, Sem.run_bind, Sem.run_pure, Result.andThen_ok, invoke]
        congr 2
        refine Array.ext' ?_
        simp
      unfold Oper.wp
      rw [hexec, hv]
      simp only [Oper.upon]
      refine hp.mono ?_
      rintro e W' ⟨v, rfl, E', hpost⟩
      show ∃ E'', Sat C n E'' _ (a.put o.dst v) W'
      rw [hdst]
      exact callM_sat hS (by simpa [Nat.blt_eq] using hd) hheld hok hpost
    · cases ho
  · cases ho
end
def subAll (s : List (Nat × Blk)) : List (Nat × Blk) → Prop
  | [] => True
  | (i, B) :: l => look s i = some B ∧ subAll s l
theorem subAll_sub {s : List (Nat × Blk)} : ∀ {H : List (Nat × Blk)}, subAll s H → subH H s
  | [], _, _, _, h => by simp [look] at h
  | (j, C) :: l, ⟨h1, h2⟩, i, B, h => by
    rw [look_cons] at h
    split at h
    · rename_i e; subst e; cases h; exact h1
    · exact subAll_sub h2 i B h
/-- One way through a function to which blocks are handed. -/
theorem fn_wayM {f : FuncId} {fn : Func} {n : Nat} {l : List ResultVar} {args cs : List Cm} {H H' : List (Nat × Blk)} {s' : St} {r : List Orc} {O : List Prop} (hf : PR.funcs[f]? = some fn) (hname : (fn.name == "runtime.NumGoroutine") = false) (hb : fn.body = some (bd fn))
    (hl : fn.results = l.toArray) (hn : fn.ntmps = n) (hargs : Nat.ble args.length n = true) (hk : keysFrom n H = true) (h : arunN n (bd fn) ⟨st0 0 args, H⟩ r = some (.r, s', [], O)) (hres : resA tau s' l = some cs) (hH : subAll s'.H H') (hO : allP O) : FnM PR f args H (resAV cs) H' :=
  FnM_of_T tau_ok hf hname hb hl hn hargs hk (wayN h hO ⟨.inl rfl, hres, subAll_sub hH⟩)
end Go.Proofs.Ytbbakacfhajohaa.Av

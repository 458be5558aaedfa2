/- Slices that the call itself makes: begun, grown, read. -/
import Derived.Test.YtbbakacfhajohaaAvI
import Derived.Maps.AppendAt
import Derived.Laws.BytesArg
import Derived.Lib.ConvBytes
import Derived.Laws.Slices
import Derived.Laws.Strings2
namespace Go.Proofs.Ytbbakacfhajohaa.Av
set_option linter.unusedSimpArgs false
set_option linter.unusedVariables false
open Go.RowKit

section
variable {P : Program} {tau : Tau} {n : Nat}
/-! ### A nil slice taken for one of the call's own -/
def nilSt (id i : Nat) (t : TypeId) (k : IntKind) (ls hs : List Nat) (n : Nat) (s : St) : Option St :=
  match look s.L i, Nat.blt i n && Nat.blt id n with
  | some (.c (.sc (.v (.slice none 0 0)))), true => match s.fresh id with
    | true => some ⟨restr ((i, .c (.sc (.os id 0))) :: s.L) ls, restr ((id, .gr t k []) :: s.H) hs⟩
    | false => none
  | _, _ => none
theorem put_same {a : Act} {i : Nat} {u : Value} (h : a.tmps[i]? = some u) : a.put (some i) u = a := by
  obtain ⟨hi, rfl⟩ := Array.getElem?_eq_some_iff.1 h
  unfold Act.put
  cases a
  simp only [Act.mk.injEq, and_true]
  simp [Array.setIfInBounds, hi]
theorem entNil {id i : Nat} {t : TypeId} {k : IntKind} {ls hs : List Nat} {s s' : St} (h : nilSt id i t k ls hs n s = some s') : Ent n s s' := by
  unfold nilSt at h
  split at h
  · rename_i hl hi
    split at h
    · rename_i hf
      cases h
      intro C E a W hS
      obtain ⟨hi, hidn⟩ : i < n ∧ id < n := by simpa [Nat.blt_eq] using hi
      let E' : En := ⟨E.rho, fun j => if j = id then none else E.cap j, E.ro⟩
      obtain ⟨u, h1, h2⟩ := hS.slots i _ hl
      obtain ⟨rfl, _⟩ := h2
      have hc : E'.cap id = none := by simp [E']
      have := hS.step (E' := E') (W' := W) (d := ⟨some i, .c (.sc (.os id 0)), some (id, .gr t k []), true⟩) (u := .slice none 0 0) (by intro j hj; cases hj; exact hi)
        (fun _ => by show Sc.R E' W (.os id 0) _; simp only [Sc.R, hc]; simp)
        ⟨fun _ _ => rfl, fun j hj => by
          have : j ≠ id := by intro e; subst e; exact hj rfl rfl
          simp [E', this], fun _ h => h, fun _ _ => rfl⟩
        (fun _ j B hj => by cases hj; exact hf)
        (fun j B hj => by cases hj; simp only [Blk.R, hc])
        (fun j B hj hlv => by cases hj; simp [Blk.live, hc] at hlv)
        (fun j B hj hlv => by cases hj; simp [Blk.live, hc] at hlv)
        (fun j A hj hlv => (hS.own j A hj hlv).2) (fun _ _ _ _ _ => rfl) hS.ro rfl rfl rfl (Nat.le_refl _) (fun _ _ _ => rfl)
        (fun j B g hj hg => by cases hj; have := (hS.fix id g hg).1; omega)
      rw [show (⟨some i, AV.c (.sc (.os id 0)), some (id, .gr t k []), true⟩ : Dl).dst = some i from rfl, put_same h1] at this
      exact ⟨E', this.less (fun _ _ h => restr_look h) (fun _ _ h => restr_look h)⟩
    · cases h
  · cases h
/-! ### append -/
/-- An element type of one number. -/
def Elem (P : Program) (e : TypeId) (k : IntKind) : Prop := ∃ i z, P.info? e = some i ∧ i.zero = some z ∧ i.size = 1 ∧ z.cells = #[.int k 0] ∧ i.bytes ≤ 8
def offId (id : Nat) : List (Nat × AV) → List (Nat × AV)
  | [] => []
  | (i, x) :: l => match x.has id with
    | true => offId id l
    | false => (i, x) :: offId id l
def offIdH (id : Nat) : List (Nat × Blk) → List (Nat × Blk)
  | [] => []
  | (i, x) :: l => match Nat.beq i id || x.has id with
    | true => offIdH id l
    | false => (i, x) :: offIdH id l
theorem offId_has {id : Nat} : ∀ {l : List (Nat × AV)}, lHas id (offId id l) = false
  | [] => rfl
  | (i, x) :: l => by
    simp only [offId]
    split
    · exact offId_has
    · rename_i h; simp only [lHas, h, offId_has, Bool.or_self]
theorem offIdH_has {id : Nat} : ∀ {l : List (Nat × Blk)}, hHas id (offIdH id l) = false
  | [] => rfl
  | (i, x) :: l => by
    simp only [offIdH]
    split
    · exact offIdH_has
    · rename_i h; simp only [hHas, h, offIdH_has, Bool.or_self]
/-- Keys once, so that what is off is off. -/
def keyOnce {α : Type} : List (Nat × α) → List Nat → List (Nat × α)
  | [], _ => []
  | (i, x) :: l, seen => match memN i seen with
    | true => keyOnce l seen
    | false => (i, x) :: keyOnce l (i :: seen)
theorem memN_iff {i : Nat} : ∀ {l : List Nat}, memN i l = true ↔ i ∈ l
  | [] => by simp [memN]
  | j :: l => by simp only [memN, Bool.or_eq_true, memN_iff (l := l), List.mem_cons]; rw [show (i.beq j = true) ↔ i = j from ⟨Nat.eq_of_beq_eq_true, fun h => by subst h; simp⟩]
theorem keyOnce_look {α : Type} : ∀ {l : List (Nat × α)} {seen : List Nat} {i : Nat}, i ∉ seen → look (keyOnce l seen) i = look l i
  | [], _, _, _ => rfl
  | (j, x) :: l, seen, i, h => by
    simp only [keyOnce]
    split
    · rename_i hj
      have hj := memN_iff.1 hj
      have : j ≠ i := by intro e; subst e; exact h hj
      rw [look_ne x l this, keyOnce_look h]
    · rename_i hj
      by_cases e : j = i
      · subst e; rw [look_same, look_same]
      · rw [look_ne x _ e, look_ne x l e, keyOnce_look]
        simp only [List.mem_cons, not_or]; exact ⟨fun e' => e e'.symm, h⟩
theorem keyOnce_mem {α : Type} : ∀ {l : List (Nat × α)} {seen : List Nat} {i : Nat} {x : α}, (i, x) ∈ keyOnce l seen → i ∉ seen ∧ look l i = some x
  | [], _, _, _, h => by cases h
  | (j, y) :: l, seen, i, x, h => by
    simp only [keyOnce] at h
    split at h
    · rename_i hj
      obtain ⟨h1, h2⟩ := keyOnce_mem h
      have hj := memN_iff.1 hj
      exact ⟨h1, by rw [look_ne y l (by intro e; subst e; exact h1 hj)]; exact h2⟩
    · rename_i hj
      have hj : j ∉ seen := fun e => by rw [memN_iff.2 e] at hj; cases hj
      cases h with
      | head => exact ⟨hj, look_same ..⟩
      | tail _ h =>
        obtain ⟨h1, h2⟩ := keyOnce_mem h
        simp only [List.mem_cons, not_or] at h1
        exact ⟨h1.2, by rw [look_ne y l (fun e => h1.1 e.symm)]; exact h2⟩
theorem offId_mem {id : Nat} : ∀ {l : List (Nat × AV)} {i : Nat} {x : AV}, (i, x) ∈ offId id l → (i, x) ∈ l
  | [], _, _, h => by cases h
  | (j, y) :: l, i, x, h => by
    simp only [offId] at h
    split at h
    · exact List.mem_cons_of_mem _ (offId_mem h)
    · cases h with
      | head => exact List.mem_cons_self
      | tail _ h => exact List.mem_cons_of_mem _ (offId_mem h)
theorem offIdH_mem {id : Nat} : ∀ {l : List (Nat × Blk)} {i : Nat} {x : Blk}, (i, x) ∈ offIdH id l → (i, x) ∈ l
  | [], _, _, h => by cases h
  | (j, y) :: l, i, x, h => by
    simp only [offIdH] at h
    split at h
    · exact List.mem_cons_of_mem _ (offIdH_mem h)
    · cases h with
      | head => exact List.mem_cons_self
      | tail _ h => exact List.mem_cons_of_mem _ (offIdH_mem h)
def without (id : Nat) (s : St) : St := ⟨offId id (keyOnce s.L []), offIdH id (keyOnce s.H [])⟩
theorem without_fresh {id : Nat} {s : St} : (without id s).fresh id = true := by simp [St.fresh, without, offId_has, offIdH_has]
theorem without_L {id : Nat} {s : St} {i : Nat} {x : AV} (h : look (without id s).L i = some x) : look s.L i = some x := (keyOnce_mem (offId_mem (look_mem h))).2
theorem without_H {id : Nat} {s : St} {i : Nat} {x : Blk} (h : look (without id s).H i = some x) : look s.H i = some x := (keyOnce_mem (offIdH_mem (look_mem h))).2
/-- The elements that a slice holds. -/
def rowAt (s : St) : AV → Option (IntKind × List Int × Option Nat)
  | .c (.sc (.rs k ws)) => some (k, ws, none)
  | .c (.sc (.os id n)) => match look s.H id with
    | some (.gr _ k ws) => some (k, ws, some n)
    | _ => none
  | _ => none
def appSt (tau : Tau) (el : List (Nat × IntKind)) (o : Oper) (s : St) : Option (St × List Prop) := match o.op with
  | .call c => match c.callee, c.argTypes.toList, c.args.toList, o.dst with
    | .builtin .append, [t, t'], [.tmp x, .tmp y], some d => match Nat.beq t t', look s.L x, look s.L y, tau.und t with
      | true, some (.c (.sc (.os id m))), some B, some (.slice e) => match look s.H id, rowAt s B, look el e with
        | some (.gr te k ws), some (k2, vs, on), some k3 => match Nat.beq te e, decide (k = k2), decide (k = k3) with
          | true, true, true => some (⟨(d, .c (.sc (.os id (ws ++ vs).length))) :: (without id s).L, (id, .gr te k (ws ++ vs)) :: (without id s).H⟩,
              [m = ws.length, (match on with | none => True | some q => q = vs.length), ws.length + vs.length ≤ 17592186044416])
          | _, _, _ => none
        | _, _, _ => none
      | _, _, _, _ => none
    | _, _, _, _ => none
  | _ => none
theorem Sat.regrow {C : Cx} {E : En} {s : St} {a : Act} {W : World} (hS : Sat C n E s a W) {id d : Nat} {te : TypeId} {k : IntKind} {ws : List Int} (hd : d < n) (hH : look s.H id = some (.gr te k ws)) {v' : Value} {W' : World} {xs : List Int}
    (hv : (v' = .slice none 0 0 ∧ xs = []) ∨ ∃ g cap us, v' = .slice (some ⟨g, 0, none⟩) xs.length cap ∧ W'.heap[g]? = some (.cells (List.toArray us) te (0, 0)) ∧ us.length = cap ∧ cap ≤ maxLen ∧ xs.length ≤ cap ∧ us.take xs.length = xs.map (Value.int k) ∧ ((E.cap id ≠ none ∧ g = E.rho id) ∨ g = W.heap.size))
    (hos : W'.os = W.os) (htape : W'.tape = W.tape) (hout : W'.output = W.output) (hsz : W.heap.size ≤ W'.heap.size) (hmem : ∀ b, b < W.heap.size → ¬ (E.cap id ≠ none ∧ b = E.rho id) → W'.heap[b]? = W.heap[b]?) :
    ∃ E', Sat C n E' ⟨(d, .c (.sc (.os id xs.length))) :: (without id s).L, (id, .gr te k xs) :: (without id s).H⟩ (a.put (some d) v') W' := by
  have hS1 : Sat C n E (without id s) a W := hS.less (fun _ _ h => without_L h) (fun _ _ h => without_H h)
  have hlive : E.cap id ≠ none → (Blk.gr te k ws).live E id := fun h => h
  have hro1 : ∀ b, E.ro b → W'.heap[b]? = W.heap[b]? := fun b hb => hmem b (hS.ro b hb).1 (fun ⟨h1, h2⟩ => (hS.own id _ hH (hlive h1)).2 (h2 ▸ hb))
  have fin : ∀ (E' : En), (∀ j, j ≠ id → E'.rho j = E.rho j) → (∀ j, j ≠ id → E'.cap j = E.cap j) → (E'.ro = E.ro) → Sc.R E' W' (.os id xs.length) v' → Blk.R E' W' id (.gr te k xs) →
      (E'.cap id ≠ none → (E.cap id ≠ none ∧ E'.rho id = E.rho id) ∨ E'.rho id = W.heap.size) → Sat C n E' ⟨(d, .c (.sc (.os id xs.length))) :: (without id s).L, (id, .gr te k xs) :: (without id s).H⟩ (a.put (some d) v') W' := by
    intro E' h1 h2 h3 h4 h5 h6
    refine hS1.step (E' := E') (W' := W') (d := ⟨some d, .c (.sc (.os id xs.length)), some (id, .gr te k xs), true⟩) (by intro j hj; cases hj; exact hd) (fun _ => h4)
      ⟨fun j hj => h1 j (by intro e; subst e; exact hj rfl rfl), fun j hj => h2 j (by intro e; subst e; exact hj rfl rfl), fun b hb => by rw [h3]; exact hb, hro1⟩
      (fun _ j B hj => by cases hj; exact without_fresh) (fun j B hj => by cases hj; exact h5) ?_ ?_ ?_ ?_ ?_ hos htape hout hsz ?_ (fun j B g hj hg => by cases hj; exact ((hS.fix id g hg).2.2 _ hH).elim)
    · intro j B hj hlv; cases hj
      rw [h3]
      rcases h6 hlv with ⟨g1, g2⟩ | g
      · rw [g2]; exact hS.own id _ hH (hlive g1)
      · rw [g]; exact ⟨.inl hS.hsize, fun hb => by have := (hS.ro _ hb).1; omega⟩
    · intro j B hj hlv j' A hne hA hA'; cases hj
      rcases h6 hlv with ⟨g1, g2⟩ | g
      · rw [g2]; exact fun e => hne (hS.inj j' id A _ (without_H hA) hH hA' (hlive g1) e)
      · rw [g]; have := live_lt hS (without_H hA) hA'; omega
    · intro j A hA hlv; rw [h3]; exact (hS1.own j A hA hlv).2
    · intro j A hA hlv hne
      refine hmem _ (live_lt hS (without_H hA) hlv) (fun ⟨g1, g2⟩ => ?_)
      exact hne id _ rfl (hS.inj j id A _ (without_H hA) hH hlv (hlive g1) g2)
    · intro b hb; rw [h3] at hb; exact ⟨Nat.lt_of_lt_of_le (hS.ro b hb).1 hsz, (hS.ro b hb).2⟩
    · intro b hb hK
      refine hmem b (Nat.lt_of_lt_of_le hb hS.hsize) (fun ⟨g1, g2⟩ => ?_)
      rcases (hS.own id _ hH (hlive g1)).1 with h | h
      · omega
      · exact hK (g2 ▸ h)
  rcases hv with ⟨rfl, rfl⟩ | ⟨g, cap, us, rfl, g1, g2, g3, g4, g5, g6⟩
  · refine ⟨_, fin ⟨E.rho, fun j => if j = id then none else E.cap j, E.ro⟩ (fun _ _ => rfl) (fun j hj => by simp [hj]) rfl ?_ ?_ (fun h => by simp at h)⟩
    · simp [Sc.R]
    · simp [Blk.R]
  · refine ⟨_, fin ⟨fun j => if j = id then g else E.rho j, fun j => if j = id then some cap else E.cap j, E.ro⟩ (fun j hj => by simp [hj]) (fun j hj => by simp [hj]) rfl ?_ ?_ (fun _ => by simpa using g6)⟩
    · simp [Sc.R]
    · simp only [Blk.R, if_true]; exact ⟨us, g1, g2, g3, g4, g5⟩
theorem appT (ht : TauOk P tau) {el : List (Nat × IntKind)} (hel : ∀ e k, look el e = some k → Elem P e k) {o : Oper} {s s' : St} {O : List Prop} (h : appSt tau el o s = some (s', O)) (hO : allP O) (hn : inN n o.dst = true) : OpT P n o s s' := by
  unfold appSt at h
  split at h
  · rename_i c ho
    split at h
    · rename_i t t' x y d hc hts has hdst
      split at h
      · rename_i id m B e htt hx hy hu
        split at h
        · rename_i te k ws k2 vs on k3 hH hB he
          split at h
          · rename_i he2 hk2 hk3
            cases h
            obtain ⟨rfl, hq, hb, _⟩ := hO
            obtain rfl := Nat.eq_of_beq_eq_true htt
            obtain rfl := Nat.eq_of_beq_eq_true he2
            obtain rfl := kind_ne hk2
            obtain rfl := kind_ne hk3
            intro C E a W Q hS
            have hdn : d < n := by rw [hdst] at hn; simpa [inN, Nat.blt_eq] using hn
            obtain ⟨i, z, hi, hz, hsz, hzc, hby⟩ := hel _ _ he
            have hvx : Sc.R E W (.os id ws.length) (a.eval (.tmp x)) := evalA_R hS (x := .tmp x) hx
            have hblk := hS.blks id _ hH
            have hargs : c.args.map a.eval = #[a.eval (.tmp x), a.eval (.tmp y)] := by
              rw [← Array.toArray_toList (xs := c.args), has]; simp
            have hexec : ∀ v' W', (Builtin.append_ #[t, t] o.type #[a.eval (.tmp x), a.eval (.tmp y)]).run P W = .ok v' W' → (execOp a.eval o).run P W = .ok (.value v') W' := by
              intro v' W' hr
              have hts' : c.argTypes = #[t, t] := by rw [← Array.toArray_toList (xs := c.argTypes), hts]
              rw [exec_builtin ho hc, hargs, hts']
              simp [builtin, hr]
            have hown : W.ownsRow 0 te 1 (a.eval (.tmp x)) ws.length (ws.map (Value.int k)) := by
              refine ⟨by simp, ?_⟩
              simp only [Sc.R] at hvx
              simp only [Blk.R] at hblk
              cases hcap : E.cap id with
              | none => rw [hcap] at hvx hblk; subst hblk; exact .inl ⟨hvx.1, rfl⟩
              | some cp =>
                rw [hcap] at hvx hblk
                obtain ⟨us, g1, g2, g3, g4, g5⟩ := hblk
                exact .inr ⟨E.rho id, cp, us.toArray, hvx, Nat.zero_le _, g1, g4, g3, by simpa using g2, by simpa using g5⟩
            have hB2 : (a.eval (.tmp y) = .slice none 0 0 ∧ vs = []) ∨ ∃ b off cp, a.eval (.tmp y) = .slice (some ⟨b, off, none⟩) vs.length cp ∧ ∀ i x, vs[i]? = some x → W.cell? ⟨b, off + i, none⟩ = some (.int k x) := by
              have hvy : B.R E W (a.eval (.tmp y)) := evalA_R hS (x := .tmp y) hy
              unfold rowAt at hB
              split at hB
              · rename_i k' ws'
                cases hB
                rcases hvy with ⟨h1, h2⟩ | ⟨b, off, cp, h1, h2, h3, h4⟩
                · exact .inl ⟨h2, h1⟩
                · exact .inr ⟨b, off, cp, h1, h4⟩
              · rename_i id2 m2
                split at hB
                · rename_i t2 k' ws' hH2
                  cases hB
                  have hq : m2 = vs.length := hq
                  subst hq
                  have hblk2 := hS.blks id2 _ hH2
                  have hvy : Sc.R E W (.os id2 vs.length) (a.eval (.tmp y)) := hvy
                  simp only [Sc.R] at hvy
                  simp only [Blk.R] at hblk2
                  cases hcap : E.cap id2 with
                  | none => rw [hcap] at hvy hblk2; exact .inl ⟨hvy.1, hblk2⟩
                  | some cp =>
                    rw [hcap] at hvy hblk2
                    obtain ⟨us, g1, g2, g3, g4, g5⟩ := hblk2
                    refine .inr ⟨E.rho id2, 0, cp, hvy, fun j x hj => ?_⟩
                    have hjl : j < vs.length := (List.getElem?_eq_some_iff.1 hj).1
                    rw [cell_of_row W _ _ _ _ _ g1, List.getElem?_toArray, Nat.zero_add]
                    have h5 : (us.take vs.length)[j]? = (vs.map (Value.int k))[j]? := by rw [g5]
                    rw [List.getElem?_take, if_pos hjl, List.getElem?_map, hj] at h5
                    exact h5
                · cases hB
              · cases hB
            have done : ∀ v' W', (Builtin.append_ #[t, t] o.type #[a.eval (.tmp x), a.eval (.tmp y)]).run P W = .ok v' W' → W'.ownsRow 0 te 1 v' (ws ++ vs).length ((ws ++ vs).map (Value.int k)) → W.grownBy W' (a.eval (.tmp x)).ownBlock →
                (v'.ownBlock = (a.eval (.tmp x)).ownBlock ∨ v'.ownBlock = some W.heap.size) → o.wp P a W (fun a' W' => ∃ E', Sat C n E' ⟨(d, .c (.sc (.os id (ws ++ vs).length))) :: (without id s).L, (id, .gr te k (ws ++ vs)) :: (without id s).H⟩ a' W') Q := by
              intro v' W' hr hown' hg hbl
              have hob : (a.eval (.tmp x)).ownBlock = if E.cap id = none then none else some (E.rho id) := by
                simp only [Sc.R] at hvx
                cases hcap : E.cap id with
                | none => rw [hcap] at hvx; rw [hvx.1]; rfl
                | some cp => rw [hcap] at hvx; rw [hvx]; rfl
              unfold Oper.wp
              rw [hexec v' W' hr]
              show ∃ E', Sat C n E' _ (a.put o.dst v') W'
              rw [hdst]
              refine hS.regrow hdn hH ?_ hg.os hg.tape hg.output hg.size (fun b hb hne => hg.block b hb (fun e => hne ?_))
              · rcases hown'.2 with ⟨h1, h2⟩ | ⟨g, cap, cur, h1, _, h3, h4, h5, h6, h7⟩
                · exact .inl ⟨h1, List.length_eq_zero_iff.1 h2⟩
                · refine .inr ⟨g, cap, cur.toList, h1, by simpa using h3, by simpa using h6, h5, h4, by simpa using h7, ?_⟩
                  rw [h1, hob] at hbl
                  rcases hbl with hbl | hbl
                  · left
                    split at hbl
                    · cases hbl
                    · rename_i hcn; exact ⟨hcn, by simpa [Value.ownBlock] using hbl⟩
                  · right; simpa [Value.ownBlock] using hbl
              · rw [hob] at e
                split at e
                · cases e
                · rename_i hcn; cases e; exact ⟨hcn, rfl⟩
            rcases hB2 with ⟨h1, rfl⟩ | ⟨b, off, cp, h1, hcells⟩
            · refine done _ W (by rw [h1]; exact run_append_owned_none (w := W) 0 t o.type te i 1 (ht.und _ _ hu) hi _ _ _ hown) (by simpa using hown) ⟨rfl, rfl, rfl, Nat.le_refl _, fun _ _ _ => rfl⟩ (.inl rfl)
            · have hmx : (17592186044416 : Nat) ≤ maxLen := by simp [maxLen]
              obtain ⟨v', W', hr, ho', hg, _, hbl⟩ := run_append_own_at (P := P) W 0 t o.type te i z 1 i.bytes (ht.und _ _ hu) hi hz hsz rfl (by rw [hzc]; rfl) (by decide) _ ws.length _ hown ⟨b, off, none⟩ vs.length cp (vs.map (Value.int k)) (by simp)
                (by
                  intro j u hj
                  rw [List.getElem?_map] at hj
                  cases hv : vs[j]? with
                  | none => rw [hv] at hj; cases hj
                  | some q => rw [hv] at hj; cases hj; rw [addr_add]; exact hcells j q hv)
                (by intro u hu'; obtain ⟨q, _, rfl⟩ := List.mem_map.1 hu'; rfl) (by omega)
                (by have := Nat.mul_le_mul hb hby; omega) (Nat.zero_le _)
              rw [← h1] at hr
              exact done v' W' hr (by rw [List.length_append, List.map_append]; exact ho') hg hbl
          · cases h
        · cases h
      · cases h
    · cases h
  · cases h
/-! ### New slices -/
theorem Sat.newOs {C : Cx} {E : En} {s : St} {a : Act} {W : World} (hS : Sat C n E s a W) {id : Nat} {e : TypeId} {k : IntKind} {xs : List Int} (hn : id < n) (hfr : s.fresh id = true) {us : List Value} (hx : us.take xs.length = xs.map (Value.int k)) (hl : xs.length ≤ us.length) (hm : us.length ≤ maxLen)
    {W1 : World} (hW : W1 = W.alloc (.cells us.toArray e)) : ∃ E', Sat C n E' (s.put ⟨some id, .c (.sc (.os id xs.length)), some (id, .gr e k xs), true⟩) (a.put (some id) (.slice (some ⟨W.heap.size, 0, none⟩) xs.length us.length)) W1 := by
  subst hW
  let E' : En := ⟨fun i => if i = id then W.heap.size else E.rho i, fun i => if i = id then some us.length else E.cap i, E.ro⟩
  have hold : ∀ b, b < W.heap.size → (W.alloc (.cells us.toArray e)).heap[b]? = W.heap[b]? := fun b hb => Below.heap_alloc W _ b hb
  have hid : E'.rho id = W.heap.size := by simp [E']
  have hic : E'.cap id = some us.length := by simp [E']
  refine ⟨E', hS.step (E' := E') (d := ⟨some id, .c (.sc (.os id xs.length)), some (id, .gr e k xs), true⟩) (by intro i hi; cases hi; exact hn) ?_ ⟨?_, ?_, fun _ h => h, fun b hb => hold b (hS.ro b hb).1⟩ ?_ ?_ ?_ ?_ ?_ ?_ ?_ rfl rfl rfl (by simp) ?_ (fun i B g hi hg => by cases hi; have := (hS.fix id g hg).1; omega)⟩
  · intro _
    show Sc.R E' (W.alloc (.cells us.toArray e)) (.os id xs.length) _
    simp only [Sc.R, hic, hid]
  · intro i hi
    have : i ≠ id := by intro e; subst e; exact hi rfl rfl
    simp [E', this]
  · intro i hi
    have : i ≠ id := by intro e; subst e; exact hi rfl rfl
    simp [E', this]
  · intro _ i B hi; cases hi; exact hfr
  · intro i B hi; cases hi
    simp only [Blk.R, hic, hid]
    exact ⟨us, heap_alloc_new W _, rfl, hm, hl, hx⟩
  · intro i B hi _; cases hi
    refine ⟨.inl (by rw [hid]; exact hS.hsize), fun h => ?_⟩
    have := (hS.ro _ h).1
    rw [hid] at this
    omega
  · intro i B hi _ j A hji hj hA he; cases hi
    have := live_lt hS hj hA
    rw [hid] at he
    omega
  · intro j A hj hl; exact (hS.own j A hj hl).2
  · intro j A hj hl _; exact hold _ (live_lt hS hj hl)
  · intro b hb; exact ⟨Nat.lt_of_lt_of_le (hS.ro b hb).1 (by simp), (hS.ro b hb).2⟩
  · intro b hb _; exact hold b (Nat.lt_of_lt_of_le hb hS.hsize)
def effBuildS (tau : Tau) (el : List (Nat × IntKind)) (t : TypeId) (len : Nat) (parts : List (Nat × Operand)) (dst : Option Nat) : List AV → Eff
  | [] => match tau.und t, len, parts, dst with
    | some (.slice e), 0, [], some d => match look el e with
      | some k => some (⟨dst, .c (.sc (.os d 0)), some (d, .gr e k []), true⟩, [])
      | none => none
    | _, _, _, _ => none
  | [.c (.sc (.v (.int k x)))] => match tau.und t, len, parts, dst with
    | some (.slice e), 1, [(0, _)], some d => match look el e with
      | some k' => match decide (k = k') with
        | true => some (⟨dst, .c (.sc (.os d 1)), some (d, .gr e k [x]), true⟩, [])
        | false => none
      | none => none
    | _, _, _, _ => none
  | _ => none
theorem buildS_ok (ht : TauOk P tau) {el : List (Nat × IntKind)} (hel : ∀ e k, look el e = some k → Elem P e k) {o : Oper} {t : TypeId} {len : Nat} {parts : Array (Nat × Operand)} (ho : o.op = .buildSlice t len parts) {args : List AV} {bl : List (Nat × Blk)} {d : Dl} {O : List Prop} (h : effBuildS tau el t len parts.toList o.dst args = some (d, O)) :
    OpOk P o args bl { d with dst := o.dst } := by
  unfold effBuildS at h
  split at h
  · split at h
    · rename_i e dd hu hparts hdst
      split at h
      · rename_i k hk
        cases h
        obtain ⟨i, z, hi, hz, hsz, hzc, hby⟩ := hel _ _ hk
        intro C nn E s a W Q hS hargs hbl hfr hn _
        have hex : (execOp a.eval o).run P W = .ok (.value (.slice (some ⟨W.heap.size, 0, none⟩) 0 0)) (W.alloc (.cells #[] e)) := by
          have hp' : parts = #[] := by rw [← Array.toArray_toList (xs := parts), hparts]
          simp [execOp, ho, hp', Instr.buildSlice, run_underlying (ht.und _ _ hu), sizeOf, typeInfo, hi, hsz, Instr.fill, newRow, show Array.range 0 = #[] from rfl]
        unfold Oper.wp
        rw [hex]
        show ∃ E', Sat C nn E' _ (a.put o.dst _) _
        rw [hdst] at hn hfr ⊢
        exact hS.newOs (xs := []) (us := []) (k := k) (e := e) (hn dd rfl) (hfr rfl dd _ rfl) rfl (Nat.le_refl _) (Nat.zero_le _) rfl
      · cases h
    · cases h
  · rename_i k x
    split at h
    · rename_i e px dd hu hparts hdst
      split at h
      · rename_i k' hk
        split at h
        · rename_i hkk
          cases h
          obtain rfl := kind_ne hkk
          obtain ⟨i, z, hi, hz, hsz, hzc, hby⟩ := hel _ _ hk
          intro C nn E s a W Q hS hargs hbl hfr hn _
          have hp' : parts = #[(0, px)] := by rw [← Array.toArray_toList (xs := parts), hparts]
          rw [ho, hp'] at hargs
          have hv : a.eval px = .int k x := (av1 hargs).1
          have hex : (execOp a.eval o).run P W = .ok (.value (.slice (some ⟨W.heap.size, 0, none⟩) 1 1)) (W.alloc (.cells #[.int k x] e)) := by
            simp [execOp, ho, hp', hv, Instr.buildSlice, run_underlying (ht.und _ _ hu), sizeOf, typeInfo, hi, hsz, Instr.fill, newRow, zeroValue, hz, hzc, show (Value.int k x).cells = #[Value.int k x] from rfl, show Array.range 1 = #[0] from rfl]
          unfold Oper.wp
          rw [hex]
          show ∃ E', Sat C nn E' _ (a.put o.dst _) _
          rw [hdst] at hn hfr ⊢
          exact hS.newOs (xs := [x]) (us := [.int k x]) (k := k) (e := e) (hn dd rfl) (hfr rfl dd _ rfl) rfl (Nat.le_refl _) (by simp [maxLen]) rfl
        · cases h
      · cases h
    · cases h
  · cases h
/-! ### Bytes and strings -/
def strNums (s : ByteArray) : List Int := s.data.toList.map fun b => (b.toNat : Int)
theorem strNums_len (s : ByteArray) : (strNums s).length = s.size := by unfold strNums; rw [List.length_map, Array.length_toList]; rfl
def effBytes (tau : Tau) (t u : TypeId) (dst : Option Nat) (bl : List (Nat × Blk)) : List AV → Eff
  | [.c (.sc (.os id n))] => match look bl id, tau.und t, tau.und u with
    | some (.gr _ .u8 ws), some (.slice e), some .string => match tau.und e with
      | some (.int .u8) => out dst (.c (.sc (.v (.string (strOfNums ws))))) [n = ws.length]
      | _ => none
    | _, _, _ => none
  | [.c (.sc (.v (.string s)))] => match tau.und t, tau.und u with
    | some .string, some (.slice e) => match tau.und e with
      | some (.int .u8) => out dst (.c (.sc (.rs .u8 (strNums s)))) []
      | _ => none
    | _, _ => none
  | _ => none
theorem Sat.newRo {C : Cx} {E : En} {s : St} {a : Act} {W : World} (hS : Sat C n E s a W) {dst : Option Nat} {val : AV} {u : Value} {W1 : World} (hn : ∀ i, dst = some i → i < n) (hsz : W1.heap.size = W.heap.size + 1) (hold : ∀ b, b < W.heap.size → W1.heap[b]? = W.heap[b]?)
    (hos : W1.os = W.os) (htape : W1.tape = W.tape) (hout : W1.output = W.output) (hv : ∀ E' : En, E'.ro W.heap.size → val.R E' W1 u) : ∃ E', Sat C n E' (s.put ⟨dst, val, none, false⟩) (a.put dst u) W1 := by
  let E' : En := ⟨E.rho, E.cap, fun b => E.ro b ∨ b = W.heap.size⟩
  refine ⟨E', hS.step (E' := E') (W' := W1) (d := ⟨dst, val, none, false⟩) hn (fun _ => hv E' (.inr rfl)) ⟨fun _ _ => rfl, fun _ _ => rfl, fun _ h => .inl h, fun b hb => hold b (hS.ro b hb).1⟩ (by simp) (by simp) (by simp) (by simp) ?_ ?_ ?_ hos htape hout (by omega) ?_ (by simp)⟩
  · intro j A hj hl hr
    rcases hr with hr | hr
    · exact (hS.own j A hj hl).2 hr
    · have := live_lt hS hj hl; omega
  · intro j A hj hl _; exact hold _ (live_lt hS hj hl)
  · intro b hb
    rcases hb with hb | hb
    · exact ⟨by have := (hS.ro b hb).1; omega, (hS.ro b hb).2⟩
    · exact ⟨by omega, .inr (by rw [hb]; exact hS.hsize)⟩
  · intro b hb _; exact hold b (Nat.lt_of_lt_of_le hb hS.hsize)
theorem bytes_ok (ht : TauOk P tau) {o : Oper} {t u : TypeId} {p : Operand} (ho : o.op = .convert t u p) {args : List AV} {bl : List (Nat × Blk)} {d : Dl} {O : List Prop} (h : effBytes tau t u o.dst bl args = some (d, O)) (hO : allP O) :
    OpOk P o args bl { d with dst := o.dst } := by
  unfold effBytes at h
  split at h
  · rename_i id m
    split at h
    · rename_i te ws e hl ht1 hu1
      split at h
      · rename_i he
        cases h
        obtain rfl : m = ws.length := hO.1
        intro C nn E s a W Q hS hargs hbl _ hn _
        rw [ho] at hargs
        have hp : Sc.R E W (.os id ws.length) (a.eval p) := av1 hargs
        have hB := hS.blks id _ (hbl id _ (look_mem hl))
        have hex : (execOp a.eval o).run P W = .ok (.value (.string (strOfNums ws))) W := by
          simp only [Sc.R] at hp
          simp only [Blk.R] at hB
          cases hc : E.cap id with
          | none =>
            rw [hc] at hp hB
            subst hB
            simp [execOp, ho, hp.1, run_convert_bytes_nil W t e (ht.und _ _ ht1) (ht.und _ _ he) 0 0 u (ht.und _ _ hu1), strOfNums, ByteArray.empty, ByteArray.emptyWithCapacity]
            rfl
          | some cp =>
            rw [hc] at hp hB
            obtain ⟨us, g1, g2, g3, g4, g5⟩ := hB
            have hcell : ∀ i, i < ws.length → W.cell? ⟨E.rho id, 0 + i, none⟩ = some (.int .u8 (ws.getD i 0)) := by
              intro i hi
              rw [cell_of_row W _ _ _ _ _ g1, List.getElem?_toArray, Nat.zero_add]
              have h5 : (us.take ws.length)[i]? = (ws.map (Value.int .u8))[i]? := by rw [g5]
              rw [List.getElem?_take, if_pos hi] at h5
              rw [h5]; exact map_get hi
            simp [execOp, ho, hp, run_convert_bytes_arg W t e (ht.und _ _ ht1) (ht.und _ _ he) (E.rho id) 0 ws.length cp ws rfl hcell u (ht.und _ _ hu1)]
        unfold Oper.wp
        rw [hex]
        exact ⟨E, hS.pure hn rfl (fun _ => ⟨rfl, rfl⟩)⟩
      · cases h
    · cases h
  · rename_i str
    split at h
    · rename_i e ht1 hu1
      split at h
      · rename_i he
        cases h
        intro C nn E s a W Q hS hargs hbl _ hn _
        rw [ho] at hargs
        have hp : a.eval p = .string str := (av1 hargs).1
        have hex : (execOp a.eval o).run P W = .ok (.value (.slice (some ⟨W.heap.size, 0, none⟩) str.size (grownCap W str.size 0 e))) (Go.Lib.bytesWorld W e str) := by
          simp [execOp, ho, hp, Go.Lib.run_convert_string_bytes W t u e str (ht.und _ _ ht1) (ht.und _ _ hu1) (ht.und _ _ he)]
        unfold Oper.wp
        rw [hex]
        refine hS.newRo hn (Go.Lib.bytesWorld_size W e str) (fun b hb => Go.Lib.bytesWorld_at_old W e str b hb) rfl rfl rfl (fun E' hro => ?_)
        refine .inr ⟨W.heap.size, 0, grownCap W str.size 0 e, ?_, ?_, hro, fun i x hx => ?_⟩
        · rw [strNums_len]
        · rw [strNums_len]; exact grownCap_ge W str.size 0 e
        · have hi : i < str.size := by
            have := (List.getElem?_eq_some_iff.1 hx).1
            rwa [strNums_len] at this
          rw [Nat.zero_add, Go.Lib.bytesWorld_cell W e str i hi]
          simp only [strNums, List.getElem?_map] at hx
          cases hq : str.data.toList[i]? with
          | none => rw [hq] at hx; cases hx
          | some b => rw [hq] at hx; cases hx; simp [List.getD, hq]
      · cases h
    · cases h
  · cases h
def effJ (tau : Tau) (el : List (Nat × IntKind)) (op : Op) (dst : Option Nat) (args : List AV) (bl : List (Nat × Blk)) : Eff := match op with
  | .buildSlice t len parts => effBuildS tau el t len parts.toList dst args
  | .convert t u _ => effBytes tau t u dst bl args
  | _ => none
theorem effJ_ok (ht : TauOk P tau) {el : List (Nat × IntKind)} (hel : ∀ e k, look el e = some k → Elem P e k) : EffOk P (effJ tau el) := by
  intro o args bl d O h hO
  unfold effJ at h
  split at h
  · rename_i he; exact buildS_ok ht hel he h
  · rename_i he; exact bytes_ok ht he h hO
  · cases h
end
end Go.Proofs.Ytbbakacfhajohaa.Av

/- A region that draws its order: where every two operations of which neither waits for the other keep apart, the text's order tells all. Then: the abstract run is sound; loops; calls. -/
import Derived.Test.YtbbakacfhajohaaAvB
namespace Go.Proofs.Ytbbakacfhajohaa.Av
open Go.RowKit

theorem put_L (s : St) (d : Dl) (t : Nat) : look (s.put d).L t = if d.dst = some t then some d.val else look s.L t := by
  cases hd : d.dst with
  | none => simp [St.put, hd]
  | some i => simp only [St.put, hd, look_cons, Option.some.injEq]
theorem put_H (s : St) (d : Dl) (i : Nat) : look (s.put d).H i = match d.upd with | some (j, B) => if j = i then some B else look s.H i | none => look s.H i := by
  cases hd : d.upd with
  | none => simp [St.put, hd]
  | some q => obtain ⟨j, B⟩ := q; simp only [St.put, hd, look_cons]
theorem put_H_ne (s : St) (d : Dl) (i : Nat) (h : d.id ≠ some i) : look (s.put d).H i = look s.H i := by
  rw [put_H]
  cases hd : d.upd with
  | none => rfl
  | some q => obtain ⟨j, B⟩ := q; simp only [Dl.id, hd, Option.map_some, ne_eq, Option.some.injEq] at h; simp [h]
theorem put_fresh {s : St} {d : Dl} {i : Nat} (h : s.fresh i = true) (hd : d.has i = false) : (s.put d).fresh i = true := by
  simp only [St.fresh, Bool.and_eq_true, Bool.not_eq_true'] at h ⊢
  simp only [Dl.has, Bool.or_eq_false_iff] at hd
  constructor
  · cases hx : d.dst with
    | none => simpa [St.put, hx] using h.1
    | some t => simp [St.put, hx, lHas, hd.1, h.1]
  · cases hx : d.upd with
    | none => simpa [St.put, hx] using h.2
    | some q =>
      obtain ⟨j, B⟩ := q
      rw [hx] at hd
      simp only [Bool.or_eq_false_iff] at hd
      simp [St.put, hx, hHas, hd.2.1, hd.2.2, h.2]

/-- Those of xs (their numbers from k on) that 'sel' names, in the text's order. -/
def sift (sel : Nat → Bool) : Nat → List Rec → St → St
  | _, [], s => s
  | k, x :: xs, s => sift sel (k + 1) xs (if sel k = true then s.put x.d else s)

theorem sift_L {sel sel' : Nat → Bool} {t : Nat} : ∀ (xs : List Rec) (k : Nat) (s s' : St), look s.L t = look s'.L t →
    (∀ j x, xs[j]? = some x → sel (k + j) ≠ sel' (k + j) → x.d.dst ≠ some t) → look (sift sel k xs s).L t = look (sift sel' k xs s').L t
  | [], _, _, _, h, _ => h
  | x :: xs, k, s, s', h, hd => by
    simp only [sift]
    refine sift_L xs (k + 1) _ _ ?_ (fun j y hy hne => hd (j + 1) y (by simpa using hy) (by rw [show k + (j + 1) = k + 1 + j by omega]; exact hne))
    have h0 := hd 0 x rfl
    simp only [Nat.add_zero] at h0
    cases h1 : sel k <;> cases h2 : sel' k
    · simpa using h
    · simp only [Bool.false_eq_true, if_false, if_true, put_L]
      rw [if_neg (h0 (by rw [h1, h2]; simp))]; exact h
    · simp only [Bool.false_eq_true, if_false, if_true, put_L]
      rw [if_neg (h0 (by rw [h1, h2]; simp))]; exact h
    · simp only [if_true, put_L]
      split
      · rfl
      · exact h
theorem sift_H {sel sel' : Nat → Bool} {t : Nat} : ∀ (xs : List Rec) (k : Nat) (s s' : St), look s.H t = look s'.H t →
    (∀ j x, xs[j]? = some x → sel (k + j) ≠ sel' (k + j) → x.d.id ≠ some t) → look (sift sel k xs s).H t = look (sift sel' k xs s').H t
  | [], _, _, _, h, _ => h
  | x :: xs, k, s, s', h, hd => by
    simp only [sift]
    refine sift_H xs (k + 1) _ _ ?_ (fun j y hy hne => hd (j + 1) y (by simpa using hy) (by rw [show k + (j + 1) = k + 1 + j by omega]; exact hne))
    have h0 := hd 0 x rfl
    simp only [Nat.add_zero] at h0
    cases h1 : sel k <;> cases h2 : sel' k
    · simpa using h
    · simp only [Bool.false_eq_true, if_false, if_true]
      rw [put_H_ne _ _ _ (h0 (by rw [h1, h2]; simp))]; exact h
    · simp only [Bool.false_eq_true, if_false, if_true]
      rw [put_H_ne _ _ _ (h0 (by rw [h1, h2]; simp))]; exact h
    · simp only [if_true]
      rw [put_H, put_H]
      split
      · split
        · rfl
        · exact h
      · exact h
theorem sift_none : ∀ (xs : List Rec) (k : Nat) (s : St), sift (fun _ => false) k xs s = s
  | [], _, _ => rfl
  | _ :: xs, k, s => by simp only [sift]; exact sift_none xs (k + 1) s
theorem sift_all {sel : Nat → Bool} : ∀ (xs : List Rec) (k : Nat) (s : St), (∀ j, j < xs.length → sel (k + j) = true) → sift sel k xs s = xs.foldl (fun s x => s.put x.d) s
  | [], _, _, _ => rfl
  | x :: xs, k, s, h => by
    simp only [sift, List.foldl_cons]
    rw [if_pos (by simpa using h 0 (by simp)), sift_all xs (k + 1) _ (fun j hj => by rw [show k + 1 + j = k + (j + 1) by omega]; exact h (j + 1) (by simpa using hj))]
theorem sift_take : ∀ (xs : List Rec) (i k : Nat) (s : St), sift (fun j => decide (j < k + i)) k xs s = (xs.take i).foldl (fun s x => s.put x.d) s
  | [], i, _, _ => by simp [sift]
  | x :: xs, 0, k, s => by
    simp only [sift, Nat.add_zero, List.take_zero, List.foldl_nil]
    rw [if_neg (by simp)]
    have : ∀ (ys : List Rec) (m : Nat), k ≤ m → sift (fun j => decide (j < k)) m ys s = s := by
      intro ys
      induction ys with
      | nil => intro m _; rfl
      | cons y ys ih => intro m hm; simp only [sift]; rw [if_neg (by simp; omega)]; exact ih (m + 1) (by omega)
    exact this xs (k + 1) (by omega)
  | x :: xs, i + 1, k, s => by
    simp only [sift, List.take_succ_cons, List.foldl_cons]
    rw [if_pos (by simp)]
    have := sift_take xs i (k + 1) (s.put x.d)
    rw [← this]
    rw [show k + 1 + i = k + (i + 1) by omega]
theorem sift_last {sel : Nat → Bool} {t : Nat} : ∀ (xs : List Rec) (k : Nat) (s : St) (i : Nat) (x : Rec), xs[i]? = some x → sel (k + i) = true → x.d.dst = some t →
    (∀ j y, i < j → xs[j]? = some y → sel (k + j) = true → y.d.dst ≠ some t) → look (sift sel k xs s).L t = some x.d.val
  | [], _, _, i, _, h, _, _, _ => by simp at h
  | y :: xs, k, s, 0, x, h, hs, hd, hl => by
    simp only [List.getElem?_cons_zero, Option.some.injEq] at h
    subst h
    simp only [sift]
    rw [if_pos (by simpa using hs)]
    have := sift_L (sel := sel) (sel' := fun _ => false) (t := t) xs (k + 1) (s.put y.d) (s.put y.d) rfl (fun j z hz hne => hl (j + 1) z (by omega) (by simpa using hz) (by
      rw [show k + (j + 1) = k + 1 + j by omega]
      simpa using hne))
    rw [this, sift_none, put_L, if_pos hd]
  | y :: xs, k, s, i + 1, x, h, hs, hd, hl => by
    simp only [sift]
    exact sift_last xs (k + 1) _ i x (by simpa using h) (by rw [show k + 1 + i = k + (i + 1) by omega]; exact hs) hd (fun j z hj hz hsel => hl (j + 1) z (by omega) (by simpa using hz) (by rw [show k + (j + 1) = k + 1 + j by omega]; exact hsel))
theorem sift_lastH {sel : Nat → Bool} {t : Nat} {B : Blk} : ∀ (xs : List Rec) (k : Nat) (s : St) (i : Nat) (x : Rec), xs[i]? = some x → sel (k + i) = true → x.d.upd = some (t, B) →
    (∀ j y, i < j → xs[j]? = some y → sel (k + j) = true → y.d.id ≠ some t) → look (sift sel k xs s).H t = some B
  | [], _, _, i, _, h, _, _, _ => by simp at h
  | y :: xs, k, s, 0, x, h, hs, hd, hl => by
    simp only [List.getElem?_cons_zero, Option.some.injEq] at h
    subst h
    simp only [sift]
    rw [if_pos (by simpa using hs)]
    have := sift_H (sel := sel) (sel' := fun _ => false) (t := t) xs (k + 1) (s.put y.d) (s.put y.d) rfl (fun j z hz hne => hl (j + 1) z (by omega) (by simpa using hz) (by
      rw [show k + (j + 1) = k + 1 + j by omega]
      simpa using hne))
    rw [this, sift_none, put_H, hd]
    simp
  | y :: xs, k, s, i + 1, x, h, hs, hd, hl => by
    simp only [sift]
    exact sift_lastH xs (k + 1) _ i x (by simpa using h) (by rw [show k + 1 + i = k + (i + 1) by omega]; exact hs) hd (fun j z hj hz hsel => hl (j + 1) z (by omega) (by simpa using hz) (by rw [show k + (j + 1) = k + 1 + j by omega]; exact hsel))
theorem sift_fresh {sel : Nat → Bool} {d : Nat} : ∀ (xs : List Rec) (k : Nat) (s : St), s.fresh d = true → (∀ j y, xs[j]? = some y → sel (k + j) = true → y.d.has d = false) → (sift sel k xs s).fresh d = true
  | [], _, _, h, _ => h
  | x :: xs, k, s, h, hd => by
    simp only [sift]
    refine sift_fresh xs (k + 1) _ ?_ (fun j y hy hs => hd (j + 1) y (by simpa using hy) (by rw [show k + (j + 1) = k + 1 + j by omega]; exact hs))
    split
    · rename_i hk; exact put_fresh h (hd 0 x rfl hk)
    · exact h

theorem keyIn_spec {α : Type} {i : Nat} : ∀ {l : List (Nat × α)}, keyIn i l = false → ∀ j u, (j, u) ∈ l → j ≠ i
  | [], _, _, _, h => by cases h
  | (m, v) :: l, h, j, u, hm => by
    simp only [keyIn, Bool.or_eq_false_iff] at h
    cases hm with
    | head => intro e; subst e; simp at h
    | tail _ hm => exact keyIn_spec h.2 j u hm
theorem oNe_spec {x y : Option Nat} (h : oNe x y = true) : ∀ t, x = some t → y ≠ some t := by
  rintro t rfl he
  subst he
  simp [oNe] at h
structure Apart (x y : Rec) : Prop where
  ev : ∀ t, x.d.dst = some t → ∀ j u, (j, u) ∈ y.ev → j ≠ t
  dst : ∀ t, x.d.dst = some t → y.d.dst ≠ some t
  bl : ∀ t, x.d.id = some t → ∀ j u, (j, u) ∈ y.bl → j ≠ t
  id : ∀ t, x.d.id = some t → y.d.id ≠ some t
  fr : x.d.fr = true → ∀ t, x.d.id = some t → y.d.has t = false
theorem apart2_spec {x y : Rec} (h : apart2 x y = true) : Apart x y ∧ Apart y x := by
  simp only [apart2, Bool.and_eq_true] at h
  obtain ⟨⟨⟨⟨⟨h1, h2⟩, h3⟩, h4⟩, h5⟩, h6⟩ := h
  refine ⟨⟨?_, oNe_spec h3, ?_, oNe_spec h6, ?_⟩, ⟨?_, fun t hy hx => oNe_spec h3 t hx hy, ?_, fun t hy hx => oNe_spec h6 t hx hy, ?_⟩⟩
  · intro t ht j u hm; rw [ht] at h1; exact keyIn_spec (by simpa using h1) j u hm
  · intro t ht j u hm; rw [ht] at h4; simp only [Bool.and_eq_true, Bool.not_eq_true'] at h4; exact keyIn_spec h4.1 j u hm
  · intro hf t ht; rw [ht] at h4; simp [hf] at h4; exact h4.2
  · intro t ht j u hm; rw [ht] at h2; exact keyIn_spec (by simpa using h2) j u hm
  · intro t ht j u hm; rw [ht] at h5; simp only [Bool.and_eq_true, Bool.not_eq_true'] at h5; exact keyIn_spec h5.1 j u hm
  · intro hf t ht; rw [ht] at h5; simp [hf] at h5; exact h5.2

theorem apartAll_spec {i : Nat} {x : Rec} : ∀ {os : List Oper} {xs : List Rec}, apartAll i x os xs = true → ∀ (j : Nat) (o : Oper) (y : Rec), os[j]? = some o → xs[j]? = some y →
    (waitsFor o i = true ∨ apart2 x y = true) ∧ (y.d.fr = true → ∀ t, y.d.id = some t → x.d.has t = false)
  | [], _, _, j, _, _, h, _ => by simp at h
  | _ :: _, [], _, j, _, _, _, h => by simp at h
  | o :: os, y :: xs, h, j, o', y', ho, hy => by
    simp only [apartAll, Bool.and_eq_true, Bool.or_eq_true] at h
    cases j with
    | zero =>
      simp only [List.getElem?_cons_zero, Option.some.injEq] at ho hy
      subst ho; subst hy
      exact ⟨h.1.1, fun hf t ht => by have := h.1.2; simp [hf, ht] at this; exact this⟩
    | succ j => exact apartAll_spec h.2 j o' y' (by simpa using ho) (by simpa using hy)
theorem ordOk_spec {s : St} : ∀ {k : Nat} {os : List Oper} {xs : List Rec}, ordOk s k os xs = true → ∀ (i : Nat) (o : Oper) (x : Rec), os[i]? = some o → xs[i]? = some x →
    (∀ e ∈ o.after.toList, Region.binds .any e = true → e.on < k + i) ∧ freshOk s x = true ∧ ∀ (j : Nat) (o' : Oper) (y : Rec), i < j → os[j]? = some o' → xs[j]? = some y →
      (waitsFor o' (k + i) = true ∨ apart2 x y = true) ∧ (y.d.fr = true → ∀ t, y.d.id = some t → x.d.has t = false)
  | _, [], _, _, i, _, _, h, _ => by simp at h
  | _, _ :: _, [], _, i, _, _, _, h => by simp at h
  | k, o :: os, x :: xs, h, i, o', x', ho, hx => by
    simp only [ordOk, Bool.and_eq_true, List.all_eq_true, Bool.or_eq_true, Bool.not_eq_true'] at h
    obtain ⟨⟨⟨h1, h2⟩, h3⟩, h4⟩ := h
    cases i with
    | zero =>
      simp only [List.getElem?_cons_zero, Option.some.injEq] at ho hx
      subst ho; subst hx
      refine ⟨fun e he hb => ?_, h2, fun j o' y hj ho' hy => ?_⟩
      · rcases h1 e he with h | h
        · rw [h] at hb; cases hb
        · simpa using h
      · obtain ⟨j, rfl⟩ : ∃ m, j = m + 1 := ⟨j - 1, by omega⟩
        exact apartAll_spec h3 j o' y (by simpa using ho') (by simpa using hy)
    | succ i =>
      obtain ⟨g1, g2, g3⟩ := ordOk_spec h4 i o' x' (by simpa using ho) (by simpa using hx)
      refine ⟨fun e he hb => by have := g1 e he hb; omega, g2, fun j o2 y hj ho2 hy => ?_⟩
      obtain ⟨j, rfl⟩ : ∃ m, j = m + 1 := ⟨j - 1, by omega⟩
      have := g3 j o2 y (by omega) (by simpa using ho2) (by simpa using hy)
      rwa [show k + (i + 1) = k + 1 + i by omega]

section
variable {P : Program} {n : Nat} {eff : Op → Option Nat → List AV → List (Nat × Blk) → Option (Dl × List Prop)}
def unl (m : Nat) (listed : Array Bool) : Nat := ((List.range m).filter fun i => !listed.getD i true).length
theorem unl_set {m i : Nat} {listed : Array Bool} (hi : i < m) (h : listed.getD i true = false) : unl m (listed.setIfInBounds i true) < unl m listed := by
  unfold unl
  have e : (List.range m).filter (fun j => !(listed.setIfInBounds i true).getD j true) = ((List.range m).filter fun j => !listed.getD j true).filter fun j => j != i := by
    rw [List.filter_filter]
    refine List.filter_congr (fun j _ => ?_)
    by_cases hj : i = j
    · subst hj
      have : i < listed.size := by
        rcases Nat.lt_or_ge i listed.size with h' | h'
        · exact h'
        · simp [Array.getElem?_eq_none h'] at h
      simp [this]
    · rw [getD_set_ne true hj]
      have : (j != i) = true := by simpa using fun e => hj e.symm
      simp [this]
  rw [e]
  refine List.length_filter_lt_length_iff_exists.2 ⟨i, ?_, by simp⟩
  rw [List.mem_filter]
  exact ⟨List.mem_range.2 hi, by rw [h]; rfl⟩

/-- **Whatever order is drawn.** -/
theorem any_ok {ops : Array Oper} {xs : List Rec} {s0 : St} (hlen : xs.length = ops.size)
    (hf : ∀ i o x, ops[i]? = some o → xs[i]? = some x → Fact P n ops o x ∧ (∀ t u, (t, u) ∈ x.ev → look ((xs.take i).foldl (fun s x => s.put x.d) s0).L t = some u) ∧ (∀ id B, (id, B) ∈ x.bl → look ((xs.take i).foldl (fun s x => s.put x.d) s0).H id = some B))
    (hord : ordOk s0 0 ops.toList xs = true) {C : Cx} {Q : Exit → Act → World → Prop} (hQ : ∀ E a W, Sat C n E (xs.foldl (fun s x => s.put x.d) s0) a W → Q .normal a W) :
    ∀ (fuel : Nat) (listed : Array Bool) (E : En) (a : Act) (W : World), listed.size = ops.size → unl ops.size listed ≤ fuel →
      (∀ j o, ops[j]? = some o → listed.getD j true = true → ∀ e ∈ o.after, Region.binds .any e = true → listed.getD e.on false = true) →
      Sat C n E (sift (fun j => listed.getD j false) 0 xs s0) a W → wpAny P .any ops Q fuel listed a W := by
  have hready : ∀ (listed : Array Bool) (E : En) (a : Act) (W : World), listed.size = ops.size → Sat C n E (sift (fun j => listed.getD j false) 0 xs s0) a W → Region.ready .any ops listed = [] → Q .normal a W := by
    intro listed E a W hsz hS hr
    have hall : ∀ j, j < ops.size → listed.getD j true = true := by
      intro j
      induction j using Nat.strongRecOn with
      | _ j ih =>
        intro hj
        cases hl : listed.getD j true with
        | true => rfl
        | false =>
          exfalso
          obtain ⟨o, ho⟩ : ∃ o, ops[j]? = some o := ⟨ops[j], Array.getElem?_eq_getElem hj⟩
          obtain ⟨x, hx⟩ : ∃ x, xs[j]? = some x := ⟨xs[j]'(by omega), List.getElem?_eq_getElem (by omega)⟩
          have hm : j ∈ Region.ready .any ops listed := mem_ready.2 ⟨hl, o, ho, fun e he hb => by
            have hlt := (ordOk_spec hord j o x (by simpa using ho) hx).1 e (by simpa using he) hb
            have := ih e.on (by omega) (by omega)
            have hin : e.on < listed.size := by omega
            simpa [hin] using this⟩
          rw [hr] at hm
          cases hm
    refine hQ E a W ?_
    rw [← sift_all (sel := fun j => listed.getD j false) xs 0 s0 (fun j hj => by
      have := hall j (by omega)
      have hin : j < listed.size := by omega
      simpa [hin] using this)]
    exact hS
  intro fuel
  induction fuel with
  | zero =>
    intro listed E a W hsz hu _ hS
    have hr : Region.ready .any ops listed = [] := by
      cases hr : Region.ready .any ops listed with
      | nil => rfl
      | cons i l =>
        have hm : i ∈ Region.ready .any ops listed := by rw [hr]; exact List.mem_cons_self
        obtain ⟨h1, o, ho, _⟩ := mem_ready.1 hm
        have := unl_set (Array.getElem?_eq_some_iff.1 ho).1 h1
        omega
    exact ⟨hr, hready listed E a W hsz hS hr⟩
  | succ fuel ih =>
    intro listed E a W hsz hu hcl hS
    refine ⟨hready listed E a W hsz hS, fun i hi => ?_⟩
    obtain ⟨hun, o, ho, hall⟩ := mem_ready.1 hi
    have hi' : i < ops.size := (Array.getElem?_eq_some_iff.1 ho).1
    obtain ⟨x, hx⟩ : ∃ x, xs[i]? = some x := ⟨xs[i]'(by omega), List.getElem?_eq_getElem (by omega)⟩
    obtain ⟨hF, hev, hbl⟩ := hf i o x ho hx
    have hin : i < listed.size := by omega
    have hsel : listed.getD i false = false := by
      have : listed[i] = false := by simpa [hin] using hun
      simp [hin, this]
    obtain ⟨hlt, hfresh, hap⟩ := ordOk_spec hord i o x (by simpa using ho) hx
    simp only [Nat.zero_add] at hlt hap
    -- the others keep apart from this one
    have sep : ∀ j y, xs[j]? = some y → j ≠ i → (j < i → listed.getD j false = false) → (i < j → listed.getD j false = true) → Apart x y ∧ Apart y x := by
      intro j y hy hji h1 h2
      have hj : j < ops.size := by have := (List.getElem?_eq_some_iff.1 hy).1; omega
      obtain ⟨oj, hoj⟩ : ∃ o, ops[j]? = some o := ⟨ops[j], Array.getElem?_eq_getElem hj⟩
      rcases Nat.lt_or_gt_of_ne hji with hlt' | hgt
      · obtain ⟨_, _, hap'⟩ := ordOk_spec hord j oj y (by simpa using hoj) hy
        rcases (hap' i o x hlt' (by simpa using ho) hx).1 with hw | hw
        · exfalso
          simp only [waitsFor, List.any_eq_true, Bool.and_eq_true, Nat.zero_add] at hw
          obtain ⟨e, he, hb, heq⟩ := hw
          have := hall e (by simpa using he) hb
          rw [Nat.eq_of_beq_eq_true heq, h1 hlt'] at this
          cases this
        · exact (apart2_spec hw).symm
      · rcases (hap j oj y hgt (by simpa using hoj) hy).1 with hw | hw
        · exfalso
          simp only [waitsFor, List.any_eq_true, Bool.and_eq_true] at hw
          obtain ⟨e, he, hb, heq⟩ := hw
          have hjl : listed.getD j true = true := by
            have := h2 hgt
            have hjn : j < listed.size := by omega
            simpa [hjn] using this
          have := hcl j oj hoj hjl e (by simpa using he) hb
          rw [Nat.eq_of_beq_eq_true heq, hsel] at this
          cases this
        · exact apart2_spec hw
    have diff : ∀ j y, xs[j]? = some y → listed.getD j false ≠ decide (j < i) → Apart x y ∧ Apart y x := by
      intro j y hy hne
      refine sep j y hy (fun e => by subst e; rw [hsel] at hne; simp at hne) (fun h => by simpa [h] using hne) (fun h => by
        have : ¬ j < i := by omega
        simpa [this] using hne)
    have hev' : ∀ t u, (t, u) ∈ x.ev → look (sift (fun j => listed.getD j false) 0 xs s0).L t = some u := by
      intro t u hm
      rw [← hev t u hm, ← sift_take xs i 0 s0]
      refine sift_L xs 0 s0 s0 rfl (fun j y hy hne he => ?_)
      simp only [Nat.zero_add] at hne
      exact (diff j y hy hne).2.ev t he t u hm rfl
    have hbl' : ∀ id B, (id, B) ∈ x.bl → look (sift (fun j => listed.getD j false) 0 xs s0).H id = some B := by
      intro t u hm
      rw [← hbl t u hm, ← sift_take xs i 0 s0]
      refine sift_H xs 0 s0 s0 rfl (fun j y hy hne he => ?_)
      simp only [Nat.zero_add] at hne
      exact (diff j y hy hne).2.bl t he t u hm rfl
    have hfr' : x.d.fr = true → ∀ id B, x.d.upd = some (id, B) → (sift (fun j => listed.getD j false) 0 xs s0).fresh id = true := by
      intro hfx id B hu
      refine sift_fresh xs 0 s0 (freshOk_spec hfresh hfx id B hu) (fun j y hy hs => ?_)
      simp only [Nat.zero_add] at hs
      have hid : x.d.id = some id := by simp [Dl.id, hu]
      have hji : j ≠ i := fun e => by subst e; rw [hsel] at hs; cases hs
      -- whatever was carried out before this one does not wait for it
      have hj : j < ops.size := by have := (List.getElem?_eq_some_iff.1 hy).1; omega
      obtain ⟨oj, hoj⟩ : ∃ o, ops[j]? = some o := ⟨ops[j], Array.getElem?_eq_getElem hj⟩
      rcases Nat.lt_or_gt_of_ne hji with hlt' | hgt
      · obtain ⟨_, _, hap'⟩ := ordOk_spec hord j oj y (by simpa using hoj) hy
        exact (hap' i o x hlt' (by simpa using ho) hx).2 hfx id hid
      · exact (sep j y hy hji (fun h => by omega) (fun _ => hs)).1.fr hfx id hid
    have hF := hF.2 C E (sift (fun j => listed.getD j false) 0 xs s0) a W Q hS hev' hbl' hfr'
    -- the state behind it is that of one more
    have hget : ∀ j, (listed.setIfInBounds i true).getD j false = if j = i then true else listed.getD j false := by
      intro j
      by_cases hj : j = i
      · subst hj; simp [hin]
      · rw [getD_set_ne false (fun e => hj e.symm), if_neg hj]
    have later : ∀ j y, i < j → xs[j]? = some y → listed.getD j false = true → Apart x y := fun j y hij hy hs => (sep j y hy (by omega) (fun h => by omega) (fun _ => hs)).1
    have hL : ∀ t, look (sift (fun j => (listed.setIfInBounds i true).getD j false) 0 xs s0).L t = look ((sift (fun j => listed.getD j false) 0 xs s0).put x.d).L t := by
      intro t
      rw [put_L]
      split
      · rename_i ht
        refine sift_last xs 0 s0 i x hx (by simp only [Nat.zero_add, hget, if_true]) ht (fun j y hij hy hs he => ?_)
        simp only [Nat.zero_add, hget, if_neg (show ¬ j = i by omega)] at hs
        exact (later j y hij hy hs).dst t ht he
      · rename_i ht
        refine sift_L xs 0 s0 s0 rfl (fun j y hy hne => ?_)
        simp only [Nat.zero_add, hget] at hne
        by_cases hj : j = i
        · subst hj; rw [hx] at hy; cases hy; exact ht
        · rw [if_neg hj] at hne; exact absurd rfl hne
    have hH : ∀ t, look (sift (fun j => (listed.setIfInBounds i true).getD j false) 0 xs s0).H t = look ((sift (fun j => listed.getD j false) 0 xs s0).put x.d).H t := by
      intro t
      by_cases ht : x.d.id = some t
      · cases hu : x.d.upd with
        | none => simp [Dl.id, hu] at ht
        | some q =>
          obtain ⟨t', B⟩ := q
          simp only [Dl.id, hu, Option.map_some, Option.some.injEq] at ht
          subst ht
          rw [put_H, hu]
          simp only [if_true]
          refine sift_lastH xs 0 s0 i x hx (by simp only [Nat.zero_add, hget, if_true]) hu (fun j y hij hy hs he => ?_)
          simp only [Nat.zero_add, hget, if_neg (show ¬ j = i by omega)] at hs
          exact (later j y hij hy hs).id t' (by simp [Dl.id, hu]) he
      · rw [put_H_ne _ _ _ ht]
        refine sift_H xs 0 s0 s0 rfl (fun j y hy hne => ?_)
        simp only [Nat.zero_add, hget] at hne
        by_cases hj : j = i
        · subst hj; rw [hx] at hy; cases hy; exact ht
        · rw [if_neg hj] at hne; exact absurd rfl hne
    have goOn : ∀ E' a' W', Sat C n E' ((sift (fun j => listed.getD j false) 0 xs s0).put x.d) a' W' → wpAny P .any ops Q fuel (listed.setIfInBounds i true) a' W' := by
      intro E' a' W' hS'
      refine ih (listed.setIfInBounds i true) E' a' W' (by simp [hsz]) (by have := unl_set hi' hun; omega) ?_ (hS'.look_congr hL hH)
      intro j oj hoj hl e he hb
      by_cases hj : i = j
      · subst hj
        rw [ho] at hoj; cases hoj
        exact getD_set_true (hall e he hb)
      · rw [getD_set_ne true hj] at hl
        exact getD_set_true (hcl j oj hoj hl e he hb)
    unfold wpOp
    simp only [ho]
    split
    · rename_i hw
      rw [if_pos hw] at hF
      exact .inl (Oper.wp_mono (fun a' W' ⟨E', hS'⟩ => goOn E' a' W' hS') hF)
    · rename_i hw
      rw [if_neg hw] at hF
      obtain ⟨E', hS'⟩ := hF
      exact goOn E' _ W hS'
end
end Go.Proofs.Ytbbakacfhajohaa.Av

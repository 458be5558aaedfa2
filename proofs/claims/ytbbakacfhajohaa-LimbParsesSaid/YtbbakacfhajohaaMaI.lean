/- Plain mathematics: the text of a number is read as it. -/
import Derived.Test.YtbbakacfhajohaaUa
import Derived.Test.YtbbakacfhajohaaWf
import Derived.Test.YtbbakacfhajohaaMaE
import Derived.Laws.Closers25b
namespace Go.Proofs.Ytbbakacfhajohaa.Av
set_option linter.unusedVariables false
/-- The text of a number that is not below 0. -/
def dtx (n : Nat) : ByteArray := strOfNums (dl n).reverse
theorem dl_dig : ∀ x, ∀ c ∈ dl x, 48 ≤ c ∧ c ≤ 57 := by
  intro x
  induction x using Nat.strongRecOn with
  | ind x ih =>
    intro c hc
    rw [dl] at hc
    split at hc
    · rw [List.mem_singleton] at hc; omega
    · rcases List.mem_cons.1 hc with rfl | hc
      · omega
      · exact ih (x / 10) (by omega) c hc
theorem strNums_of {l : List Int} (h : ∀ c ∈ l, 0 ≤ c ∧ c < 256) : strNums (strOfNums l) = l := by
  unfold strNums strOfNums
  simp only [List.map_map]
  refine (List.map_congr_left (fun c hc => ?_)).trans (List.map_id l)
  obtain ⟨h0, h1⟩ := h c hc
  simp
  omega
theorem strNums_dtx (n : Nat) : strNums (dtx n) = (dl n).reverse := strNums_of fun c hc => by have := dl_dig n c (List.mem_reverse.1 hc); omega
theorem size_strOf (l : List Int) : (strOfNums l).size = l.length := by simp [strOfNums, ByteArray.size]
theorem size_dtx (n : Nat) : (dtx n).size = (dl n).length := by unfold dtx; rw [size_strOf, List.length_reverse]
theorem sbyte_strOf {l : List Int} (h : ∀ c ∈ l, 0 ≤ c ∧ c < 256) (j : Nat) (hj : j < l.length) : sbyte (strOfNums l) (j : Int) = l.getD j 0 := by
  unfold sbyte strOfNums
  simp only [Int.toNat_natCast, List.getD_eq_getElem?_getD, List.getElem?_map, List.getElem?_eq_getElem hj, Option.map_some, Option.getD_some]
  obtain ⟨h0, h1⟩ := h l[j] (List.getElem_mem hj)
  simp
  omega
theorem txt_pos {z : Int} (h : ¬ z < 0) : txt z = dtx z.natAbs := by unfold txt dtx; rw [decide_eq_false h]; rfl
theorem txt_nat (n : Nat) : txt (n : Int) = dtx n := txt_pos (by omega)
theorem txt_neg {z : Int} (h : z < 0) : txt z = strOfNums (45 :: (dl z.natAbs).reverse) := by unfold txt; rw [decide_eq_true h]; simp
theorem txt_cut {z : Int} (h : z < 0) : (txt z).extract (1 : Int).toNat (txt z).size = dtx z.natAbs := by
  rw [txt_neg h]
  unfold dtx strOfNums
  apply ByteArray.ext
  apply Array.ext'
  simp [ByteArray.data_extract, ByteArray.size]
  rw [List.take_of_length_le (by simp)]
theorem dl_one (x : Nat) : (dl x).length = 1 ∨ (dl x).reverse.getD 0 0 ≠ 48 := by
  induction x using Nat.strongRecOn with
  | ind x ih =>
    rw [dl]
    split
    · exact .inl rfl
    · rename_i hx
      right
      have hne := dl_pos (x / 10)
      rw [List.reverse_cons, List.getD_eq_getElem?_getD, List.getElem?_append_left (by simpa using hne), ← List.getD_eq_getElem?_getD]
      rcases ih (x / 10) (by omega) with h | h
      · rw [dl] at h ⊢
        split at h
        · rename_i h10
          rw [if_pos h10]
          show ((48 + x / 10 % 10 : Nat) : Int) ≠ 48
          omega
        · have := dl_pos (x / 10 / 10)
          rw [List.length_cons] at h; omega
      · exact h
theorem vald_dig {c : Int} (h0 : 48 ≤ c) (h1 : c ≤ 57) : vald c = c - 48 := by unfold vald; rw [if_pos (by omega)]
theorem pacc_congr {base : Int} {l m : List Int} : ∀ {k : Nat}, (∀ i, i < k → l.getD i 0 = m.getD i 0) → pacc base l k = pacc base m k
  | 0, _ => rfl
  | k + 1, h => by simp only [pacc]; rw [pacc_congr (fun i hi => h i (by omega)), h k (by omega)]
theorem pacc_snoc (base : Int) (l : List Int) (c : Int) : pacc base (l ++ [c]) (l.length + 1) = pacc base l l.length * base + vald c := by
  simp only [pacc]
  rw [pacc_congr (m := l) (fun i hi => by rw [List.getD_eq_getElem?_getD, List.getElem?_append_left hi, ← List.getD_eq_getElem?_getD])]
  simp [List.getD_eq_getElem?_getD]
theorem pacc_dl (x : Nat) : pacc 10 (dl x).reverse (dl x).length = x := by
  induction x using Nat.strongRecOn with
  | ind x ih =>
    rw [dl]
    split
    · show (0 : Int) * 10 + vald ((48 + x % 10 : Nat) : Int) = x
      rw [vald_dig (by omega) (by omega)]; omega
    · rw [List.reverse_cons, List.length_cons]
      have := pacc_snoc 10 (dl (x / 10)).reverse ((48 + x % 10 : Nat) : Int)
      rw [List.length_reverse] at this
      rw [this, ih (x / 10) (by omega), vald_dig (by omega) (by omega)]
      omega
theorem toList_ne {s : ByteArray} (h : 0 < s.size) : (s.toList == ByteArray.empty.toList) = false := by
  rw [beq_eq_false_iff_ne]
  intro e
  have h1 := (toList_nil_iff_emptyBytes s).1 (e.trans ((toList_nil_iff_emptyBytes ByteArray.empty).2 rfl))
  rw [h1] at h; exact absurd h (by decide)
theorem parse_dtx (n : Nat) (hn : n < top) : Fn PR 46 [.sc (.v (.string (dtx n))), .sc (.v (.int .i64 10))] (.tu [.ag (iS (n : Int)), .sc (.v .nilIface)]) := by
  have hl := dl_top rfl hn
  have h1 := dl_pos n
  have e : pacc 10 (strNums (dtx n)) (strNums (dtx n)).length = n := by rw [strNums_dtx, List.length_reverse]; exact pacc_dl n
  have := parse_ok (dtx n) 10 (.inr (.inr (.inl rfl))) (toList_ne (by rw [size_dtx]; exact h1)) (by rw [strNums_dtx, List.length_reverse]; omega) (fun i hi => by
    rw [strNums_dtx] at hi ⊢
    have hm : (dl n).reverse.getD i 0 ∈ dl n := by
      rw [List.getD_eq_getElem?_getD, List.getElem?_eq_getElem hi]; exact List.mem_reverse.1 (List.getElem_mem hi)
    have := dl_dig n _ hm
    rw [vald_dig this.1 this.2]; omega) (by rw [e]; exact hn)
  rw [e] at this
  exact this
/-! ### LimbReads -/
theorem rd_first_neg {z : Int} (h : z < 0) : ((sbyte (txt z) (0 : Int)) == (45 : Int)) = true := by
  rw [txt_neg h]; unfold strOfNums sbyte; simp
theorem rd_first_pos {z : Int} (h : ¬ z < 0) : ((sbyte (txt z) (0 : Int)) == (45 : Int)) = false := by
  rw [txt_pos h, beq_eq_false_iff_ne]
  have h1 := dl_pos z.natAbs
  have := sbyte_strOf (l := (dl z.natAbs).reverse) (fun c hc => by have := dl_dig _ c (List.mem_reverse.1 hc); omega) 0 (by simpa using h1)
  unfold dtx
  have hm : (dl z.natAbs).reverse.getD 0 0 ∈ dl z.natAbs := by
    rw [List.getD_eq_getElem?_getD, List.getElem?_eq_getElem (by simpa using h1)]; exact List.mem_reverse.1 (List.getElem_mem _)
  have hd := dl_dig _ _ hm
  rw [show (0 : Int) = ((0 : Nat) : Int) from rfl, this]
  omega
theorem rd_size (z : Int) : decide (((txt z).size : Int) > (0 : Int)) = true := by
  refine decide_eq_true ?_
  unfold txt
  rw [size_strOf]
  have := dl_pos z.natAbs
  cases decide (z < 0) <;> simp <;> omega
theorem rd_pos {s : ByteArray} {n : Nat} (h : s = dtx n) : decide ((s.size : Int) > (0 : Int)) = true := by
  rw [h, size_dtx]; have := dl_pos n; exact decide_eq_true (by omega)
theorem rd_lead {s : ByteArray} {n : Nat} (h : s = dtx n) (h1 : ((s.size : Int) == (1 : Int)) = false) : (!(sbyte s (0 : Int) == (48 : Int))) = true := by
  subst h
  have hp := dl_pos n
  rw [size_dtx, beq_eq_false_iff_ne] at h1
  have := sbyte_strOf (l := (dl n).reverse) (fun c hc => by have := dl_dig _ c (List.mem_reverse.1 hc); omega) 0 (by simpa using hp)
  unfold dtx
  rw [show (0 : Int) = ((0 : Nat) : Int) from rfl, this]
  rcases dl_one n with h | h
  · omega
  · simpa using h
end Go.Proofs.Ytbbakacfhajohaa.Av

/- slices.Reverse at []byte: the kit's walk of it at []int, turned to bytes and to this program. -/
import Derived.Shelf.Lays
import Derived.Shelf.RegionOpenPlain
import Derived.WalkKit
import Derived.Deep.LoopGhost
import Derived.Lib.Walk
import Derived.Sort.WalkB12
import Derived.Lib.SlicesMore
import Derived.Sort.OwnSortedInts
import Derived.Test.YtbbakacfhajohaaAvJ
import Derived.Test.YtbbakacfhajohaaAvT
namespace Go.Proofs.Ytbbakacfhajohaa.Av
open Go.Shelf Go.RowKit Go.Lib Go.Sort
abbrev encB : Int → Value := Value.int .u8
set_option maxHeartbeats 1600000 in
set_option maxRecDepth 1000000 in
theorem reverse_arr (blk off cap : Nat) (d : Array Int) (w : World) (hH : Holds encB w blk off d) (hsz : d.size ≤ 9223372036854775807) :
    Calls PR 105 #[.slice (some ⟨blk, off, none⟩) d.size cap] w fun e w' => e = .returned (.tuple #[]) ∧ ∃ n, w' = putRow encB (Sort.ahead w n) blk off d.reverse := by
  have mixed := mixed
  go_enter Try.func105, Try.ntmps105
  go_wp2
  go_loopg [2, 3] d.size (fun k s2 s3 wr => ∃ (i jn : Nat) (jz : Int) (dk : Array Int) (n : Nat), s2 = .int .i64 i ∧ s3 = .int .i64 jz ∧ ((i : Int) < jz → jz = jn ∧ jn < d.size) ∧ (¬ (i : Int) < jz → ¬ i < jn) ∧ jn - i ≤ k ∧
    dk.size = d.size ∧ wr = putRow encB (Sort.ahead w n) blk off dk ∧ reverseLoop i jn dk = reverseLoop 0 (d.size - 1) d)
  case atStart => exact ⟨0, d.size - 1, (d.size : Int) - 1, d, 0, rfl, rfl, fun h => ⟨by omega, by omega⟩, fun h => by omega, by omega, rfl, (putRow_self encB w blk off d hH).symm, rfl⟩
  case round =>
    obtain ⟨i, jn, jz, dk, n, rfl, rfl, h1, h2, hk, hds, hwr, heq⟩ := hrel
    by_cases hlt : (i : Int) < jz
    · obtain ⟨rfl, hjn⟩ := h1 hlt
      have hij : i < jn := by omega
      have hHk : Holds encB wr blk off dk := by rw [hwr]; exact holds_putRow encB _ blk off d dk (holds_ahead encB w n blk off d hH) hds
      obtain ⟨ci, fi⟩ := hHk i (by omega)
      obtain ⟨cj, fj⟩ := hHk jn (by omega)
      have A : Aside (wr = putRow encB (Sort.ahead w n) blk off dk) := hwr
      clear hwr hHk hH h1 h2
      go_wp2_with fail
      go_region_o
      go_wp2
      go_roundg (jn - 1 - (i + 1))
      case measure => omega
      case rel =>
        rw [reverseLoop, if_pos hij] at heq
        exact ⟨i + 1, jn - 1, (jn : Int) - 1, swp dk i jn, n + 1, by simp, rfl, fun h => ⟨by omega, by omega⟩, fun h => by omega, Nat.le_refl _, by rw [size_swp]; exact hds,
          swap_world encB (by omega) (by omega) A.out (by first | rfl | simp [encB, getElem!_pos, show jn < dk.size by omega]) (by first | rfl | simp [encB, getElem!_pos, show i < dk.size by omega]), heq⟩
    · have hnot := h2 hlt
      go_wp2
      go_end0
      refine ⟨rfl, n, ?_⟩
      rw [reverseLoop, if_neg hnot] at heq
      rw [← Lib.reverseLoop_reverse, ← heq]
theorem take_putCellsB (cur : Array Value) (ts : List Int) (h : ts.length ≤ cur.size) : (putCells encB 0 ts.toArray cur).toList.take ts.length = ts.map (Value.int .u8) := by
  apply List.ext_getElem?
  intro j
  by_cases hj : j < ts.length
  · rw [List.getElem?_take_of_lt hj, Array.getElem?_toList]
    simp [putCells, hj, show j < cur.size by omega]
  · rw [List.getElem?_take_eq_none (by omega), List.getElem?_eq_none (by simp; omega)]
def revSt (f : Nat) (o : Oper) (s : St) : Option (St × List Prop) := match o.op with
  | .call c => match c.callee, c.args.toList, o.dst with
    | .value (.func g), [.tmp x], some d => match Nat.beq f g, look s.L x with
      | true, some (.c (.sc (.os id m))) => match look s.H id with
        | some (.gr te .u8 ws) => some (⟨(d, .tu []) :: s.L, (id, .gr te .u8 ws.reverse) :: s.H⟩, [m = ws.length, 0 < ws.length, ws.length ≤ 9223372036854775807])
        | _ => none
      | _, _ => none
    | _, _, _ => none
  | _ => none
theorem revT {n : Nat} {o : Oper} {s s' : St} {O : List Prop} (h : revSt 105 o s = some (s', O)) (hO : allP O) (hn : inN n o.dst = true) : OpT PR n o s s' := by
  unfold revSt at h
  split at h
  · rename_i c ho
    split at h
    · rename_i g x d hc has hdst
      split at h
      · rename_i id m hg hx
        split at h
        · rename_i te ws hH
          cases h
          obtain ⟨rfl, hpos, hmax, _⟩ := hO
          have hg := Nat.eq_of_beq_eq_true hg
          subst hg
          intro C E a W Q hS
          have hdn : d < n := by rw [hdst] at hn; simpa [inN, Nat.blt_eq] using hn
          have hvx : Sc.R E W (.os id ws.length) (a.eval (.tmp x)) := evalA_R hS (x := .tmp x) hx
          have hblk := hS.blks id _ hH
          simp only [Sc.R] at hvx
          simp only [Blk.R] at hblk
          cases hcap : E.cap id with
          | none => rw [hcap] at hblk; subst hblk; simp at hpos
          | some cp =>
            rw [hcap] at hvx hblk
            obtain ⟨us, g1, g2, g3, g4, g5⟩ := hblk
            have hH2 : Holds encB W (E.rho id) 0 ws.toArray := by
              intro j hj
              have hj : j < ws.length := by simpa using hj
              refine ⟨?_, ?_⟩
              · rw [cell_of_row W _ _ _ _ _ g1, List.getElem?_toArray, Nat.zero_add]
                have h5 : (us.take ws.length)[j]? = (ws.map (Value.int .u8))[j]? := by rw [g5]
                rw [List.getElem?_take, if_pos hj] at h5
                rw [h5]; simp [hj]
              · simp [World.frozen?, g1]
            have hcall := reverse_arr (E.rho id) 0 cp ws.toArray W hH2 (by simpa using hmax)
            have hexec : (execOp a.eval o).run PR W = (callFunc 105 #[a.eval (.tmp x)]).run PR W := by
              have hargs : c.args = #[.tmp x] := by rw [← Array.toArray_toList (xs := c.args), has]
              unfold execOp
              simp only [ho, resolve, hc, hargs, Deferred.ofValue, Act.eval, Sem.run_bind, Sem.run_pure, Result.andThen_ok, invoke]
              congr 2
              simp [Act.eval]
            have hent : (callFunc 105 #[a.eval (.tmp x)]).run PR W = .ok (.enter 105 #[a.eval (.tmp x)]) W := by
              have h1 : PR.funcs[105]? = some Try.f105 := Try.func105
              have h2 : (Try.f105).name ≠ "runtime.NumGoroutine" := by decide
              have h3 : ∃ b, (Try.f105).body = some b := ⟨_, rfl⟩
              obtain ⟨b, hb⟩ := h3
              simp [callFunc, h1, h2, hb]
            unfold Oper.wp
            rw [hexec, hent]
            simp only [Oper.upon]
            rw [hvx, show ws.length = ws.toArray.size by simp]
            refine hcall.mono ?_
            rintro e W' ⟨rfl, nn, rfl⟩
            show ∃ E', Sat C n E' _ (a.put o.dst (.tuple #[])) _
            rw [hdst]
            have hlt : E.rho id < W.heap.size := (Array.getElem?_eq_some_iff.1 g1).1
            have hheap : (putRow encB (Sort.ahead W nn) (E.rho id) 0 ws.toArray.reverse).heap[E.rho id]? = some (.cells (putCells encB 0 ws.toArray.reverse us.toArray) te (0, 0)) := by
              simp [putRow, mapBlock, Sort.ahead, Array.getElem?_modify, g1, onCells]
            have hother : ∀ b, b ≠ E.rho id → (putRow encB (Sort.ahead W nn) (E.rho id) 0 ws.toArray.reverse).heap[b]? = W.heap[b]? := by
              intro b hb
              simp [putRow, mapBlock, Sort.ahead, Array.getElem?_modify, Ne.symm hb]
            have hlv : (Blk.gr te .u8 ws).live E id := by show E.cap id ≠ none; rw [hcap]; simp
            have hown := hS.own id _ hH hlv
            refine ⟨E, hS.step (E' := E) (W' := putRow encB (Sort.ahead W nn) (E.rho id) 0 ws.toArray.reverse) (d := ⟨some d, .tu [], some (id, .gr te .u8 ws.reverse), false⟩) (by intro i hi; cases hi; exact hdn) (fun _ => ⟨[], rfl, rfl⟩)
              ⟨fun _ _ => rfl, fun _ _ => rfl, fun _ h => h, fun b hb => hother b (fun e => hown.2 (e ▸ hb))⟩ (by simp) ?_ ?_ ?_ ?_ ?_ ?_ rfl rfl rfl (by simp) ?_ (fun i B g hi hg => by cases hi; exact ((hS.fix id g hg).2.2 _ hH).elim)⟩
            · intro i B hi; cases hi
              simp only [Blk.R, hcap]
              refine ⟨(putCells encB 0 ws.toArray.reverse us.toArray).toList, by simpa using hheap, by simpa [putCells] using g2, g3, by simpa using g4, ?_⟩
              have := take_putCellsB us.toArray ws.reverse (by simp; omega)
              simpa using this
            · intro i B hi _; cases hi; exact hown
            · intro i B hi _ j A hji hj hA he; cases hi
              exact hji (hS.inj j id A _ hj hH hA hlv he)
            · intro j A hj hA; exact (hS.own j A hj hA).2
            · intro j A hj hA hne
              exact hother _ (fun e => hne id _ rfl (hS.inj j id A _ hj hH hA hlv e))
            · intro b hb; exact ⟨by simpa using (hS.ro b hb).1, (hS.ro b hb).2⟩
            · intro b hb hK
              refine hother b (fun e => ?_)
              rcases hown.1 with h | h
              · omega
              · exact hK (e ▸ h)
        · cases h
      · cases h
    · cases h
  · cases h
end Go.Proofs.Ytbbakacfhajohaa.Av

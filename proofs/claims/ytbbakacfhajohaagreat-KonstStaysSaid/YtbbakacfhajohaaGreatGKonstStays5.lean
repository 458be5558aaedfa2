import Derived.Test.YtbbakacfhajohaaGreatGKonstStays4
namespace Go.Proofs.YtbbakacfhajohaaGreat.Av
open Go.ChangeShapes Go.WideShapes Go.ChangeAt Go.RowKit
set_option linter.unusedVariables false
set_option linter.unusedSimpArgs false
set_option maxRecDepth 100000
theorem okWide_two {P : Program} {w : World} {r : Reach} {base : Nat} {t : TypeId} {v : Value} {n : Nat} {e : TypeId} (ht : P.underlying t = some (.array n e)) (h : Value.okWide P w r base t v) : ∃ cs, v = .agg cs ∧ cs.size = P.cellsOf t := by
  simp only [Value.okWide, ht] at h
  obtain ⟨cs, h1, h2, _⟩ := h
  exact ⟨cs, h1, h2⟩
theorem opn_two {H : Type} {enc : TypeId × Value → H} {w : World} {base : Nat} {spare : Nat → Bool} {held : Bool} {fuel : Nat} {cs : List Value} {x : DataW H × List MemPlace}
    (h : DataW.trod enc PR w base spare held fuel 22 cs = some x) : ∃ ws : List Int, ws.length = 2 ∧ cs = ws.map (Value.int .i64) := by
  obtain ⟨xs, m, _, _, hlen, hxs, hel⟩ := DataW.trod_array (n := 2) (e := 3) (by kernel_rfl) h
  rw [show PR.cellsOf 22 = 2 by kernel_rfl] at hlen
  have h1 : PR.cellsOf 3 = 1 := by kernel_rfl
  have key : ∀ i, i < 2 → ∃ z : Int, (cs.drop i).take 1 = [.int .i64 z] := by
    intro i hi
    have := hel i hi
    rw [h1, Nat.mul_one, List.getElem?_eq_getElem (by omega)] at this
    obtain ⟨n, hn, _, _⟩ := DataW.trod_int (k := .i64) (by kernel_rfl) this
    exact ⟨n, hn⟩
  obtain ⟨a, ha⟩ := key 0 (by decide)
  obtain ⟨b, hb⟩ := key 1 (by decide)
  match cs, hlen, ha, hb with
  | [c0, c1], _, ha, hb =>
    simp only [List.drop_zero, List.drop_succ_cons, List.take_succ_cons, List.take_zero, List.cons.injEq, and_true] at ha hb
    exact ⟨[a, b], rfl, by rw [ha, hb]; rfl⟩
theorem arg_two {H : Type} {enc : TypeId × Value → H} {w : World} {base : Nat} {spare : Nat → Bool} {held : Bool} {r : Reach} {b0 : Nat} {v : Value} {d : DataW H} {p : List MemPlace} (hv : Value.okWide PR w r b0 22 v) (h : DataW.Trod enc PR w base spare held 22 v d p) :
    ∃ ws : List Int, Cm.R E0 w (.ag [.row .i64 2 ws]) v := by
  obtain ⟨cs, rfl, hsz⟩ := okWide_two (n := 2) (e := 3) (by kernel_rfl) hv
  obtain ⟨fuel, hf⟩ := h
  obtain ⟨ws, hw, e⟩ := opn_two hf
  exact ⟨ws, cs.toList, by simp, by rw [show cs.toList = _ from e]; exact ⟨ws.map (Value.int .i64), [], (List.append_nil _).symm, ⟨rfl, by simpa using hw⟩, rfl⟩⟩
end Go.Proofs.YtbbakacfhajohaaGreat.Av

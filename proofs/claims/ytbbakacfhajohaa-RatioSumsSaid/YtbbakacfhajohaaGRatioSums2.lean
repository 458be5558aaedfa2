import Derived.Test.YtbbakacfhajohaaGRatioSums1
import Derived.Laws.Closers25b
namespace Go.Proofs.Ytbbakacfhajohaa.Av
set_option linter.unusedVariables false
set_option linter.unusedSimpArgs false
set_option maxRecDepth 20000
set_option maxHeartbeats 1000000

theorem made_ok (neg : Bool) (x : Nat) (hx : x < top) (z : Int) (hz : iz neg x = z) : Fn PR 80 [kB neg, .ag [.row .u64 8 (ofN x)]] (aG (iS z)) := by
  let S1 : St := ⟨[(4, aP 4 0)], [(4, .sg 25 (iS z))]⟩
  exact fwE (t := (.sp [] (neg) (.leaf [.b true, .b true, .b true, .cut [4] [4], .chk S1]) (.leaf [.b false, .b false, .b false, .cut [4] [4], .chk S1]))) Try.func80 (fun ke => (sb (neg) (fun c0 => (aa c0 (aa c0 (aa c0 (aa (show Ent 13 ⟨[(4, aP 4 0)], [(4, .sg 25 (nS (bif neg then (!((ofN x) == z8)) else false) x))]⟩ S1 from (ent_eqs (.cons rfl .nil) (.cons (by rw [made_t hx hz, made_x hz]) .nil))) ke))))) (fun c0 => (aa c0 (aa c0 (aa c0 (aa c0 (aa (show Ent 13 ⟨[(4, aP 4 0)], [(4, .sg 25 (nS false x))]⟩ S1 from (ent_eqs (.cons rfl .nil) (.cons (by rw [made_f c0 hz, made_x hz]) .nil))) ke)))))))) (by kernel_rfl)

theorem fit_ok (neg ok : Bool) (x : Nat) (hx : x < top) (z : Int) (hz : iz neg x = z) (hok : ok = true) : Fn PR 83 [kB neg, .ag [.row .u64 8 (ofN x)], kB ok] (.tu [.ag (iS z), .sc (.v .nilIface)]) := by
  exact fwE (t := (.leaf [.b false, oP 14 (aG (iS z)), .cut [6, 7] [6]])) Try.func83 (fun ke => (aa (not_f (show ok = true from hok)) (aa (cP Try.f83 3 2 (show Fn PR 80 [kB neg, .ag [.row .u64 8 (ofN x)]] (aG (iS z)) from (made_ok neg x (by first | assumption | omega | exact top_pos | exact Nat.mod_lt _ top_pos | (apply lt_tac; assumption)) _ hz))) ke))) (by kernel_rfl)

theorem fit_no (neg ok : Bool) (x : Nat) (hok : ok = false) : Fn PR 83 [kB neg, .ag [.row .u64 8 (ofN x)], kB ok] (.tu [.ag [.one (.v (.bool false)), .row .u64 8 z8], .sc (.v (.iface 104 (.int .i64 9)))]) := by
  exact fwE (t := (.leaf [.b true, .cut [6, 7] [6]])) Try.func83 (fun ke => (aa (not_t (show ok = false from hok)) ke)) (by kernel_rfl)

theorem of_ok (z : Int) (h0 : -9223372036854775808 ≤ z) (h1 : z ≤ 9223372036854775807) : Fn PR 38 [kI z] (aG (iS z)) := by
  let S2 : St := ⟨[(2, aP 2 0)], [(2, .sg 25 (iS z))]⟩
  exact fwE (t := (.sp [] (decide (z < (0 : Int))) (.leaf [.b true, .cut [2] [2], .chk S2]) (.leaf [.b false, .cut [2] [2], .chk S2]))) Try.func38 (fun ke => (sb (decide (z < (0 : Int))) (fun c0 => (aa c0 (aa (show Ent 14 ⟨[(2, aP 2 0)], [(2, .sg 25 [.one (.v (.bool true)), .row .u64 8 ((z8).set 0 (IntKind.u64.wrap (0 - (IntKind.u64.wrap (z)))))])]⟩ S2 from (ent_eqs (.cons rfl .nil) (.cons (by rw [of_neg (of_decide_eq_true c0) h0]) .nil))) ke))) (fun c0 => (aa c0 (aa (show Ent 14 ⟨[(2, aP 2 0)], [(2, .sg 25 [.one (.v (.bool false)), .row .u64 8 ((z8).set 0 (IntKind.u64.wrap (z)))])]⟩ S2 from (ent_eqs (.cons rfl .nil) (.cons (by rw [of_pos (of_decide_eq_false c0) h1]) .nil))) ke))))) (by kernel_rfl)

theorem canon_ok (neg : Bool) (x : Nat) (hx : x < top) (z : Int) (hz : iz neg x = z) : Fn PR 43 [.ag (nS neg x)] (aG (iS z)) := by
  exact fwE (t := (.leaf [oP 7 (aG (iS z)), .cut [2] [2]])) Try.func43 (fun ke => (aa (cP Try.f43 1 4 (show Fn PR 80 [kB neg, .ag [.row .u64 8 (ofN x)]] (aG (iS z)) from (made_ok neg x (by first | assumption | omega | exact top_pos | exact Nat.mod_lt _ top_pos | (apply lt_tac; assumption)) _ hz))) ke)) (by kernel_rfl)

theorem neg_ok (neg : Bool) (x : Nat) (hx : x < top) (z : Int) (hz : iz neg x = z) : Fn PR 44 [.ag (nS neg x)] (aG [.one (.v (.bool (decide (-z < 0)))), .row .u64 8 (ofN (-z).natAbs)]) := by
  exact fwE (t := (.leaf [oP 8 (aG [.one (.v (.bool (decide (-z < 0)))), .row .u64 8 (ofN (-z).natAbs)]), .cut [2] [2]])) Try.func44 (fun ke => (aa (cP Try.f44 1 5 (show Fn PR 80 [kB (!neg), .ag [.row .u64 8 (ofN x)]] (aG [.one (.v (.bool (decide (-z < 0)))), .row .u64 8 (ofN (-z).natAbs)]) from (made_ok (!neg) x (by first | assumption | omega | exact top_pos | exact Nat.mod_lt _ top_pos | (apply lt_tac; assumption)) _ (iz_not hz)))) ke)) (by kernel_rfl)

def ordE (x y : Nat) : St := ⟨[(4, .c (.sc (.v (.int .i64 (sg (x : Int) (y : Int))))))], []⟩
def ordS (x y : Nat) (i : Int) : St := ⟨[(2, .c (.sc (.p 2 0))), (3, .c (.sc (.p 3 0))), (4, .c (.sc (.v (.int .i64 0)))), (5, .c (.sc (.v (.int .i64 i))))], [(2, .sg 23 [.row .u64 8 (ofN x)]), (3, .sg 23 [.row .u64 8 (ofN y)])]⟩
theorem ord_loop {x y : Nat} (hx : x < top) (hy : y < top) (hne : x ≠ y) : LoopT PR 26 (lp Try.f85 0) (ordS x y 7) .r (ordE x y) := by
  refine loop_of (fun m s => ∃ i : Int, -1 ≤ i ∧ i ≤ 7 ∧ m = (i + 1).toNat ∧ ordInv x y i ∧ s = ordS x y i) 8 ⟨7, by omega, by omega, rfl, ordInv_start hx hy, rfl⟩ ?_
  rintro m s ⟨i, h1, h2, rfl, he, rfl⟩
  rcases Int.lt_or_le i 0 with hi | hi
  · obtain rfl : i = -1 := by omega
    have hxy : x = y := ordInv_end he
    exact twE (t := .bad) (fun kq => (show False from by exact absurd hxy hne)) (by kernel_rfl)
  · obtain ⟨j, rfl⟩ := Int.eq_ofNat_of_zero_le hi
    have hj : j < 8 := by omega
    have he := ordInv_j.1 he
    have hj0 : decide ((j : Int) ≥ (0 : Int)) = true := by simp
    rcases Bool.eq_false_or_eq_true (decide (((ofN x).getD (j : Int).toNat 0) < ((ofN y).getD (j : Int).toNat 0))) with c0 | c0
    · have c0' := c0
      rw [Int.toNat_natCast, get_ofW hj, get_ofW hj] at c0'
      have hlt : x < y := ord_lt he (by simpa using c0')
      exact twE (t := (.leaf [.b true, .b true, .cut [4] [], .chk (ordE x y)])) (fun kq => (aa (show (decide ((j : Int) ≥ (0 : Int))) = true from hj0) (aa (show 0 ≤ (j : Int) ∧ (j : Int) < (8 : Int) from (by first | omega | (simp only [w64_def, u64_def, w8_def]; omega))) (aa (show 0 ≤ (j : Int) ∧ (j : Int) < (8 : Int) from (by first | omega | (simp only [w64_def, u64_def, w8_def]; omega))) (aa c0 (aa (show Ent 26 ⟨[(4, aI (-1))], []⟩ (ordE x y) from (ent_eqs (.cons (by unfold sg; rw [if_pos (by omega)]) .nil) .nil)) (kq .r (ordE x y) (.inr ⟨by simp, rfl, rfl⟩)))))))) (by kernel_rfl)
    · rcases Bool.eq_false_or_eq_true (decide (((ofN x).getD (j : Int).toNat 0) > ((ofN y).getD (j : Int).toNat 0))) with c1 | c1
      · have c0' := c0
        rw [Int.toNat_natCast, get_ofW hj, get_ofW hj] at c0'
        have c1' := c1
        rw [Int.toNat_natCast, get_ofW hj, get_ofW hj] at c1'
        have hgt : y < x := ord_lt he.symm (by simpa using c1')
        exact twE (t := (.leaf [.b true, .b false, .b true, .cut [4] [], .chk (ordE x y)])) (fun kq => (aa (show (decide ((j : Int) ≥ (0 : Int))) = true from hj0) (aa (show 0 ≤ (j : Int) ∧ (j : Int) < (8 : Int) from (by first | omega | (simp only [w64_def, u64_def, w8_def]; omega))) (aa (show 0 ≤ (j : Int) ∧ (j : Int) < (8 : Int) from (by first | omega | (simp only [w64_def, u64_def, w8_def]; omega))) (aa c0 (aa (show 0 ≤ (j : Int) ∧ (j : Int) < (8 : Int) from (by first | omega | (simp only [w64_def, u64_def, w8_def]; omega))) (aa (show 0 ≤ (j : Int) ∧ (j : Int) < (8 : Int) from (by first | omega | (simp only [w64_def, u64_def, w8_def]; omega))) (aa c1 (aa (show Ent 26 ⟨[(4, aI 1)], []⟩ (ordE x y) from (ent_eqs (.cons (by unfold sg; rw [if_neg (by omega), if_pos (by omega)]) .nil) .nil)) (kq .r (ordE x y) (.inr ⟨by simp, rfl, rfl⟩))))))))))) (by kernel_rfl)
      · have c0' := c0
        rw [Int.toNat_natCast, get_ofW hj, get_ofW hj] at c0'
        have c1' := c1
        rw [Int.toNat_natCast, get_ofW hj, get_ofW hj] at c1'
        have heq : x / 2 ^ (64 * j) = y / 2 ^ (64 * j) := ord_eq he (by simp at c0' c1'; omega)
        exact twE (t := (.leaf [.b true, .b false, .b false, .cut [2, 3, 4, 5] [2, 3], .chk (ordS x y ((j : Int) - 1))])) (fun kq => (aa (show (decide ((j : Int) ≥ (0 : Int))) = true from hj0) (aa (show 0 ≤ (j : Int) ∧ (j : Int) < (8 : Int) from (by first | omega | (simp only [w64_def, u64_def, w8_def]; omega))) (aa (show 0 ≤ (j : Int) ∧ (j : Int) < (8 : Int) from (by first | omega | (simp only [w64_def, u64_def, w8_def]; omega))) (aa c0 (aa (show 0 ≤ (j : Int) ∧ (j : Int) < (8 : Int) from (by first | omega | (simp only [w64_def, u64_def, w8_def]; omega))) (aa (show 0 ≤ (j : Int) ∧ (j : Int) < (8 : Int) from (by first | omega | (simp only [w64_def, u64_def, w8_def]; omega))) (aa c1 (aa (show Ent 26 ⟨[(2, aP 2 0), (3, aP 3 0), (4, aI 0), (5, aI (IntKind.i64.wrap ((j : Int) - (1 : Int))))], [(2, .sg 23 [.row .u64 8 (ofN x)]), (3, .sg 23 [.row .u64 8 (ofN y)])]⟩ (ordS x y ((j : Int) - 1)) from (ent_eqs (.cons rfl (.cons rfl (.cons rfl (.cons (by rw [w64_of (by omega) (by omega)]) .nil)))) (.cons rfl (.cons rfl .nil)))) (kq .n (ordS x y ((j : Int) - 1)) (.inl ⟨rfl, ((j : Int) - 1 + 1).toNat, by omega, _, by omega, by omega, rfl, ordInv_prev.2 heq, rfl⟩))))))))))) (by kernel_rfl)

theorem ord_loop0 {x y : Nat} (hx : x < top) (hy : y < top) (hxy : x = y) : LoopT PR 26 (lp Try.f85 0) (ordS x y 7) (.x 0) ⟨[], []⟩ := by
  refine loop_of (fun m s => ∃ i : Int, -1 ≤ i ∧ i ≤ 7 ∧ m = (i + 1).toNat ∧ ordInv x y i ∧ s = ordS x y i) 8 ⟨7, by omega, by omega, rfl, ordInv_start hx hy, rfl⟩ ?_
  rintro m s ⟨i, h1, h2, rfl, he, rfl⟩
  rcases Int.lt_or_le i 0 with hi | hi
  · obtain rfl : i = -1 := by omega
    have hxy : x = y := ordInv_end he
    exact twE (t := (.leaf [.b false, .cut [] []])) (fun kq => (aa ff (kq (.x 0) (⟨[], []⟩) (.inr ⟨by simp, rfl, rfl⟩)))) (by kernel_rfl)
  · obtain ⟨j, rfl⟩ := Int.eq_ofNat_of_zero_le hi
    have hj : j < 8 := by omega
    have he := ordInv_j.1 he
    have hj0 : decide ((j : Int) ≥ (0 : Int)) = true := by simp
    rcases Bool.eq_false_or_eq_true (decide (((ofN x).getD (j : Int).toNat 0) < ((ofN y).getD (j : Int).toNat 0))) with c0 | c0
    · have c0' := c0
      rw [Int.toNat_natCast, get_ofW hj, get_ofW hj] at c0'
      have hlt : x < y := ord_lt he (by simpa using c0')
      omega
    · rcases Bool.eq_false_or_eq_true (decide (((ofN x).getD (j : Int).toNat 0) > ((ofN y).getD (j : Int).toNat 0))) with c1 | c1
      · have c0' := c0
        rw [Int.toNat_natCast, get_ofW hj, get_ofW hj] at c0'
        have c1' := c1
        rw [Int.toNat_natCast, get_ofW hj, get_ofW hj] at c1'
        have hgt : y < x := ord_lt he.symm (by simpa using c1')
        omega
      · have c0' := c0
        rw [Int.toNat_natCast, get_ofW hj, get_ofW hj] at c0'
        have c1' := c1
        rw [Int.toNat_natCast, get_ofW hj, get_ofW hj] at c1'
        have heq : x / 2 ^ (64 * j) = y / 2 ^ (64 * j) := ord_eq he (by simp at c0' c1'; omega)
        exact twE (t := (.leaf [.b true, .b false, .b false, .cut [2, 3, 4, 5] [2, 3], .chk (ordS x y ((j : Int) - 1))])) (fun kq => (aa (show (decide ((j : Int) ≥ (0 : Int))) = true from hj0) (aa (show 0 ≤ (j : Int) ∧ (j : Int) < (8 : Int) from (by first | omega | (simp only [w64_def, u64_def, w8_def]; omega))) (aa (show 0 ≤ (j : Int) ∧ (j : Int) < (8 : Int) from (by first | omega | (simp only [w64_def, u64_def, w8_def]; omega))) (aa c0 (aa (show 0 ≤ (j : Int) ∧ (j : Int) < (8 : Int) from (by first | omega | (simp only [w64_def, u64_def, w8_def]; omega))) (aa (show 0 ≤ (j : Int) ∧ (j : Int) < (8 : Int) from (by first | omega | (simp only [w64_def, u64_def, w8_def]; omega))) (aa c1 (aa (show Ent 26 ⟨[(2, aP 2 0), (3, aP 3 0), (4, aI 0), (5, aI (IntKind.i64.wrap ((j : Int) - (1 : Int))))], [(2, .sg 23 [.row .u64 8 (ofN x)]), (3, .sg 23 [.row .u64 8 (ofN y)])]⟩ (ordS x y ((j : Int) - 1)) from (ent_eqs (.cons rfl (.cons rfl (.cons rfl (.cons (by rw [w64_of (by omega) (by omega)]) .nil)))) (.cons rfl (.cons rfl .nil)))) (kq .n (ordS x y ((j : Int) - 1)) (.inl ⟨rfl, ((j : Int) - 1 + 1).toNat, by omega, _, by omega, by omega, rfl, ordInv_prev.2 heq, rfl⟩))))))))))) (by kernel_rfl)

theorem order_ok (x y : Nat) (hx : x < top) (hy : y < top) : Fn PR 85 [.ag [.row .u64 8 (ofN x)], .ag [.row .u64 8 (ofN y)]] (aI (sg (x : Int) (y : Int))) := by
  let S0 : St := ⟨[(2, aP 2 0), (3, aP 3 0), (4, aI 0), (5, aI 7)], [(2, .sg 23 [.row .u64 8 (ofN x)]), (3, .sg 23 [.row .u64 8 (ofN y)])]⟩
  let S1 : St := ⟨[(4, aI (sg (x : Int) (y : Int)))], []⟩
  exact fwE (t := (.spP [] (x = y) (.leaf [.cut [2, 3, 4, 5] [2, 3], .chk (ordS x y 7), .lp (.x 0) (⟨[], []⟩), .cut [4] [], .chk S1]) (.leaf [.cut [2, 3, 4, 5] [2, 3], .chk (ordS x y 7), .lp .r (ordE x y), .cut [4] []]))) Try.func85 (fun ke => (sp (x = y) (fun c0 => (aa (show Ent 26 S0 (ordS x y 7) from (ent_eqs (.cons rfl (.cons rfl (.cons rfl (.cons rfl .nil)))) (.cons rfl (.cons rfl .nil)))) (aa (show LoopT PR 26 (lp Try.f85 0) (ordS x y 7) (.x 0) (⟨[], []⟩) from (ord_loop0 hx hy c0)) (aa (show Ent 26 ⟨[(4, aI 0)], []⟩ S1 from (ent_eqs (.cons (by rw [c0, sg_self]) .nil) .nil)) ke)))) (fun c0 => (aa (show Ent 26 S0 (ordS x y 7) from (ent_eqs (.cons rfl (.cons rfl (.cons rfl (.cons rfl .nil)))) (.cons rfl (.cons rfl .nil)))) (aa (show LoopT PR 26 (lp Try.f85 0) (ordS x y 7) .r (ordE x y) from (ord_loop hx hy c0)) ke))))) (by kernel_rfl)

theorem len64_ok (v : Int) (h0 : 0 ≤ v) (h1 : v < 18446744073709551616) : Fn PR 135 [.sc (.v (.int .u64 v))] (aI ((bl v.toNat : Nat) : Int)) := by
  rcases Bool.eq_false_or_eq_true (decide (v ≥ (4294967296 : Int))) with c0 | c0
  · rcases Bool.eq_false_or_eq_true (decide ((v.fdiv (4294967296 : Int)) ≥ (65536 : Int))) with c1 | c1
    · rcases Bool.eq_false_or_eq_true (decide (((v.fdiv (4294967296 : Int)).fdiv (65536 : Int)) ≥ (256 : Int))) with c2 | c2
      · have c0' := of_decide_eq_true c0
        try simp only [fd8, fd16, fd32] at c0'
        have c1' := of_decide_eq_true c1
        try simp only [fd8, fd16, fd32] at c1'
        have c2' := of_decide_eq_true c2
        try simp only [fd8, fd16, fd32] at c2'
        let S1 : St := ⟨[(2, aI ((bl v.toNat : Nat) : Int))], []⟩
        exact fwE (t := (.leaf [.b true, .b true, .b true, .cut [2] [], .chk S1])) Try.func135 (fun ke => (aa c0 (aa (show 0 ≤ (32 : Int) from (by decide)) (aa c1 (aa (show 0 ≤ (16 : Int) from (by decide)) (aa c2 (aa (show 0 ≤ (8 : Int) from (by decide)) (aa (show 0 ≤ (IntKind.u8.wrap ((((v.fdiv (4294967296 : Int)).fdiv (65536 : Int)).fdiv (256 : Int)))) ∧ (IntKind.u8.wrap ((((v.fdiv (4294967296 : Int)).fdiv (65536 : Int)).fdiv (256 : Int)))) < ((strAt (opr Try.f135 10 3).op).size : Int) from (by rw [len8_size, w8_def]; omega)) (aa (show Ent 25 ⟨[(2, aI (IntKind.i64.wrap ((56 : Int) + (IntKind.i64.wrap ((sbyte (strAt (opr Try.f135 10 3).op) (IntKind.u8.wrap ((((v.fdiv (4294967296 : Int)).fdiv (65536 : Int)).fdiv (256 : Int))))))))))], []⟩ S1 from (ent_eqs (.cons (by rw [show (56 : Int) = ((56 : Nat) : Int) from rfl, len64_fin (v := v) (q := 72057594037927936) h0 (by decide) (by first | (simp only [fd8, fd16, fd32]; omega) | omega | simp) (by first | (simp only [fd8, fd16, fd32]; omega) | omega) (by first | exact .inl rfl | (simp only [fd8, fd16, fd32]; omega) | omega) (by decide)]) .nil) .nil)) ke))))))))) (by kernel_rfl)
      · have c0' := of_decide_eq_true c0
        try simp only [fd8, fd16, fd32] at c0'
        have c1' := of_decide_eq_true c1
        try simp only [fd8, fd16, fd32] at c1'
        have c2' := of_decide_eq_false c2
        try simp only [fd8, fd16, fd32] at c2'
        let S1 : St := ⟨[(2, aI ((bl v.toNat : Nat) : Int))], []⟩
        exact fwE (t := (.leaf [.b true, .b true, .b false, .cut [2] [], .chk S1])) Try.func135 (fun ke => (aa c0 (aa (show 0 ≤ (32 : Int) from (by decide)) (aa c1 (aa (show 0 ≤ (16 : Int) from (by decide)) (aa c2 (aa (show 0 ≤ (IntKind.u8.wrap (((v.fdiv (4294967296 : Int)).fdiv (65536 : Int)))) ∧ (IntKind.u8.wrap (((v.fdiv (4294967296 : Int)).fdiv (65536 : Int)))) < ((strAt (opr Try.f135 10 3).op).size : Int) from (by rw [len8_size, w8_def]; omega)) (aa (show Ent 25 ⟨[(2, aI (IntKind.i64.wrap ((48 : Int) + (IntKind.i64.wrap ((sbyte (strAt (opr Try.f135 10 3).op) (IntKind.u8.wrap (((v.fdiv (4294967296 : Int)).fdiv (65536 : Int))))))))))], []⟩ S1 from (ent_eqs (.cons (by rw [show (48 : Int) = ((48 : Nat) : Int) from rfl, len64_fin (v := v) (q := 281474976710656) h0 (by decide) (by first | (simp only [fd8, fd16, fd32]; omega) | omega | simp) (by first | (simp only [fd8, fd16, fd32]; omega) | omega) (by first | exact .inl rfl | (simp only [fd8, fd16, fd32]; omega) | omega) (by decide)]) .nil) .nil)) ke)))))))) (by kernel_rfl)
    · rcases Bool.eq_false_or_eq_true (decide ((v.fdiv (4294967296 : Int)) ≥ (256 : Int))) with c2 | c2
      · have c0' := of_decide_eq_true c0
        try simp only [fd8, fd16, fd32] at c0'
        have c1' := of_decide_eq_false c1
        try simp only [fd8, fd16, fd32] at c1'
        have c2' := of_decide_eq_true c2
        try simp only [fd8, fd16, fd32] at c2'
        let S1 : St := ⟨[(2, aI ((bl v.toNat : Nat) : Int))], []⟩
        exact fwE (t := (.leaf [.b true, .b false, .b true, .cut [2] [], .chk S1])) Try.func135 (fun ke => (aa c0 (aa (show 0 ≤ (32 : Int) from (by decide)) (aa c1 (aa c2 (aa (show 0 ≤ (8 : Int) from (by decide)) (aa (show 0 ≤ (IntKind.u8.wrap (((v.fdiv (4294967296 : Int)).fdiv (256 : Int)))) ∧ (IntKind.u8.wrap (((v.fdiv (4294967296 : Int)).fdiv (256 : Int)))) < ((strAt (opr Try.f135 10 3).op).size : Int) from (by rw [len8_size, w8_def]; omega)) (aa (show Ent 25 ⟨[(2, aI (IntKind.i64.wrap ((40 : Int) + (IntKind.i64.wrap ((sbyte (strAt (opr Try.f135 10 3).op) (IntKind.u8.wrap (((v.fdiv (4294967296 : Int)).fdiv (256 : Int))))))))))], []⟩ S1 from (ent_eqs (.cons (by rw [show (40 : Int) = ((40 : Nat) : Int) from rfl, len64_fin (v := v) (q := 1099511627776) h0 (by decide) (by first | (simp only [fd8, fd16, fd32]; omega) | omega | simp) (by first | (simp only [fd8, fd16, fd32]; omega) | omega) (by first | exact .inl rfl | (simp only [fd8, fd16, fd32]; omega) | omega) (by decide)]) .nil) .nil)) ke)))))))) (by kernel_rfl)
      · have c0' := of_decide_eq_true c0
        try simp only [fd8, fd16, fd32] at c0'
        have c1' := of_decide_eq_false c1
        try simp only [fd8, fd16, fd32] at c1'
        have c2' := of_decide_eq_false c2
        try simp only [fd8, fd16, fd32] at c2'
        let S1 : St := ⟨[(2, aI ((bl v.toNat : Nat) : Int))], []⟩
        exact fwE (t := (.leaf [.b true, .b false, .b false, .cut [2] [], .chk S1])) Try.func135 (fun ke => (aa c0 (aa (show 0 ≤ (32 : Int) from (by decide)) (aa c1 (aa c2 (aa (show 0 ≤ (IntKind.u8.wrap ((v.fdiv (4294967296 : Int)))) ∧ (IntKind.u8.wrap ((v.fdiv (4294967296 : Int)))) < ((strAt (opr Try.f135 10 3).op).size : Int) from (by rw [len8_size, w8_def]; omega)) (aa (show Ent 25 ⟨[(2, aI (IntKind.i64.wrap ((32 : Int) + (IntKind.i64.wrap ((sbyte (strAt (opr Try.f135 10 3).op) (IntKind.u8.wrap ((v.fdiv (4294967296 : Int))))))))))], []⟩ S1 from (ent_eqs (.cons (by rw [show (32 : Int) = ((32 : Nat) : Int) from rfl, len64_fin (v := v) (q := 4294967296) h0 (by decide) (by first | (simp only [fd8, fd16, fd32]; omega) | omega | simp) (by first | (simp only [fd8, fd16, fd32]; omega) | omega) (by first | exact .inl rfl | (simp only [fd8, fd16, fd32]; omega) | omega) (by decide)]) .nil) .nil)) ke))))))) (by kernel_rfl)
  · rcases Bool.eq_false_or_eq_true (decide (v ≥ (65536 : Int))) with c1 | c1
    · rcases Bool.eq_false_or_eq_true (decide ((v.fdiv (65536 : Int)) ≥ (256 : Int))) with c2 | c2
      · have c0' := of_decide_eq_false c0
        try simp only [fd8, fd16, fd32] at c0'
        have c1' := of_decide_eq_true c1
        try simp only [fd8, fd16, fd32] at c1'
        have c2' := of_decide_eq_true c2
        try simp only [fd8, fd16, fd32] at c2'
        let S1 : St := ⟨[(2, aI ((bl v.toNat : Nat) : Int))], []⟩
        exact fwE (t := (.leaf [.b false, .b true, .b true, .cut [2] [], .chk S1])) Try.func135 (fun ke => (aa c0 (aa c1 (aa (show 0 ≤ (16 : Int) from (by decide)) (aa c2 (aa (show 0 ≤ (8 : Int) from (by decide)) (aa (show 0 ≤ (IntKind.u8.wrap (((v.fdiv (65536 : Int)).fdiv (256 : Int)))) ∧ (IntKind.u8.wrap (((v.fdiv (65536 : Int)).fdiv (256 : Int)))) < ((strAt (opr Try.f135 10 3).op).size : Int) from (by rw [len8_size, w8_def]; omega)) (aa (show Ent 25 ⟨[(2, aI (IntKind.i64.wrap ((24 : Int) + (IntKind.i64.wrap ((sbyte (strAt (opr Try.f135 10 3).op) (IntKind.u8.wrap (((v.fdiv (65536 : Int)).fdiv (256 : Int))))))))))], []⟩ S1 from (ent_eqs (.cons (by rw [show (24 : Int) = ((24 : Nat) : Int) from rfl, len64_fin (v := v) (q := 16777216) h0 (by decide) (by first | (simp only [fd8, fd16, fd32]; omega) | omega | simp) (by first | (simp only [fd8, fd16, fd32]; omega) | omega) (by first | exact .inl rfl | (simp only [fd8, fd16, fd32]; omega) | omega) (by decide)]) .nil) .nil)) ke)))))))) (by kernel_rfl)
      · have c0' := of_decide_eq_false c0
        try simp only [fd8, fd16, fd32] at c0'
        have c1' := of_decide_eq_true c1
        try simp only [fd8, fd16, fd32] at c1'
        have c2' := of_decide_eq_false c2
        try simp only [fd8, fd16, fd32] at c2'
        let S1 : St := ⟨[(2, aI ((bl v.toNat : Nat) : Int))], []⟩
        exact fwE (t := (.leaf [.b false, .b true, .b false, .cut [2] [], .chk S1])) Try.func135 (fun ke => (aa c0 (aa c1 (aa (show 0 ≤ (16 : Int) from (by decide)) (aa c2 (aa (show 0 ≤ (IntKind.u8.wrap ((v.fdiv (65536 : Int)))) ∧ (IntKind.u8.wrap ((v.fdiv (65536 : Int)))) < ((strAt (opr Try.f135 10 3).op).size : Int) from (by rw [len8_size, w8_def]; omega)) (aa (show Ent 25 ⟨[(2, aI (IntKind.i64.wrap ((16 : Int) + (IntKind.i64.wrap ((sbyte (strAt (opr Try.f135 10 3).op) (IntKind.u8.wrap ((v.fdiv (65536 : Int))))))))))], []⟩ S1 from (ent_eqs (.cons (by rw [show (16 : Int) = ((16 : Nat) : Int) from rfl, len64_fin (v := v) (q := 65536) h0 (by decide) (by first | (simp only [fd8, fd16, fd32]; omega) | omega | simp) (by first | (simp only [fd8, fd16, fd32]; omega) | omega) (by first | exact .inl rfl | (simp only [fd8, fd16, fd32]; omega) | omega) (by decide)]) .nil) .nil)) ke))))))) (by kernel_rfl)
    · rcases Bool.eq_false_or_eq_true (decide (v ≥ (256 : Int))) with c2 | c2
      · have c0' := of_decide_eq_false c0
        try simp only [fd8, fd16, fd32] at c0'
        have c1' := of_decide_eq_false c1
        try simp only [fd8, fd16, fd32] at c1'
        have c2' := of_decide_eq_true c2
        try simp only [fd8, fd16, fd32] at c2'
        let S1 : St := ⟨[(2, aI ((bl v.toNat : Nat) : Int))], []⟩
        exact fwE (t := (.leaf [.b false, .b false, .b true, .cut [2] [], .chk S1])) Try.func135 (fun ke => (aa c0 (aa c1 (aa c2 (aa (show 0 ≤ (8 : Int) from (by decide)) (aa (show 0 ≤ (IntKind.u8.wrap ((v.fdiv (256 : Int)))) ∧ (IntKind.u8.wrap ((v.fdiv (256 : Int)))) < ((strAt (opr Try.f135 10 3).op).size : Int) from (by rw [len8_size, w8_def]; omega)) (aa (show Ent 25 ⟨[(2, aI (IntKind.i64.wrap ((8 : Int) + (IntKind.i64.wrap ((sbyte (strAt (opr Try.f135 10 3).op) (IntKind.u8.wrap ((v.fdiv (256 : Int))))))))))], []⟩ S1 from (ent_eqs (.cons (by rw [show (8 : Int) = ((8 : Nat) : Int) from rfl, len64_fin (v := v) (q := 256) h0 (by decide) (by first | (simp only [fd8, fd16, fd32]; omega) | omega | simp) (by first | (simp only [fd8, fd16, fd32]; omega) | omega) (by first | exact .inl rfl | (simp only [fd8, fd16, fd32]; omega) | omega) (by decide)]) .nil) .nil)) ke))))))) (by kernel_rfl)
      · have c0' := of_decide_eq_false c0
        try simp only [fd8, fd16, fd32] at c0'
        have c1' := of_decide_eq_false c1
        try simp only [fd8, fd16, fd32] at c1'
        have c2' := of_decide_eq_false c2
        try simp only [fd8, fd16, fd32] at c2'
        let S1 : St := ⟨[(2, aI ((bl v.toNat : Nat) : Int))], []⟩
        exact fwE (t := (.leaf [.b false, .b false, .b false, .cut [2] [], .chk S1])) Try.func135 (fun ke => (aa c0 (aa c1 (aa c2 (aa (show 0 ≤ (IntKind.u8.wrap (v)) ∧ (IntKind.u8.wrap (v)) < ((strAt (opr Try.f135 10 3).op).size : Int) from (by rw [len8_size, w8_def]; omega)) (aa (show Ent 25 ⟨[(2, aI (IntKind.i64.wrap ((0 : Int) + (IntKind.i64.wrap ((sbyte (strAt (opr Try.f135 10 3).op) (IntKind.u8.wrap (v))))))))], []⟩ S1 from (ent_eqs (.cons (by rw [show (0 : Int) = ((0 : Nat) : Int) from rfl, len64_fin (v := v) (q := 1) h0 (by decide) (by first | (simp only [fd8, fd16, fd32]; omega) | omega | simp) (by first | (simp only [fd8, fd16, fd32]; omega) | omega) (by first | exact .inl rfl | (simp only [fd8, fd16, fd32]; omega) | omega) (by decide)]) .nil) .nil)) ke)))))) (by kernel_rfl)

theorem mul64_ok (a b : Int) (a0 : 0 ≤ a) (a1 : a < 18446744073709551616) (b0 : 0 ≤ b) (b1 : b < 18446744073709551616) : Fn PR 81 [.sc (.v (.int .u64 a)), .sc (.v (.int .u64 b))] (.tu [.sc (.v (.int .u64 (a * b / 18446744073709551616))), .sc (.v (.int .u64 (a * b % 18446744073709551616)))]) := by
  let S1 : St := ⟨[(4, .c (.sc (.v (.int .u64 (a * b / 18446744073709551616))))), (5, .c (.sc (.v (.int .u64 (a * b % 18446744073709551616)))))], []⟩
  exact fwE (t := (.leaf [.cut [4, 5] [], .chk S1])) Try.func81 (fun ke => (aa (show 0 ≤ (32 : Int) from (by decide)) (aa (show 0 ≤ (32 : Int) from (by decide)) (aa (show 0 ≤ (32 : Int) from (by decide)) (aa (show 0 ≤ (32 : Int) from (by decide)) (aa (show 0 ≤ (32 : Int) from (by decide)) (aa (show Ent 51 ⟨[(4, .c (.sc (.v (.int .u64 (IntKind.u64.wrap ((IntKind.u64.wrap ((IntKind.u64.wrap ((a.fdiv (4294967296 : Int)) * (b.fdiv (4294967296 : Int)))) + ((IntKind.u64.wrap ((IntKind.u64.wrap ((a.fdiv (4294967296 : Int)) * (bits .and .u64 b (4294967295 : Int)))) + ((IntKind.u64.wrap ((bits .and .u64 a (4294967295 : Int)) * (bits .and .u64 b (4294967295 : Int)))).fdiv (4294967296 : Int)))).fdiv (4294967296 : Int)))) + ((IntKind.u64.wrap ((bits .and .u64 (IntKind.u64.wrap ((IntKind.u64.wrap ((a.fdiv (4294967296 : Int)) * (bits .and .u64 b (4294967295 : Int)))) + ((IntKind.u64.wrap ((bits .and .u64 a (4294967295 : Int)) * (bits .and .u64 b (4294967295 : Int)))).fdiv (4294967296 : Int)))) (4294967295 : Int)) + (IntKind.u64.wrap ((bits .and .u64 a (4294967295 : Int)) * (b.fdiv (4294967296 : Int)))))).fdiv (4294967296 : Int)))))))), (5, .c (.sc (.v (.int .u64 (IntKind.u64.wrap (a * b))))))], []⟩ S1 from (ent_eqs (.cons (by simp only [u64_def, fd32, and_low a0 a1, and_low b0 b1, and_lowm]; rw [mul64_arith a b a0 a1 b0 b1]) (.cons (by rw [u64_def]) .nil)) .nil)) ke))))))) (by kernel_rfl)

def lenS (x : Nat) (i : Int) : St := ⟨[(1, .c (.sc (.p 1 0))), (2, .c (.sc (.v (.int .i64 0)))), (3, .c (.sc (.v (.int .i64 i))))], [(1, .sg 23 [.row .u64 8 (ofN x)])]⟩
theorem len_loop {x : Nat} (hx : x < top) (hne : x ≠ 0) : LoopT PR 19 (lp Try.f100 0) (lenS x 7) .r ⟨[(2, .c (.sc (.v (.int .i64 ((bl x : Nat) : Int)))))], []⟩ := by
  refine loop_of (fun m s => ∃ i : Int, -1 ≤ i ∧ i ≤ 7 ∧ m = (i + 1).toNat ∧ lenInv x i ∧ s = lenS x i) 8 ⟨7, by omega, by omega, rfl, lenInv_start hx, rfl⟩ ?_
  rintro m s ⟨i, h1, h2, rfl, he, rfl⟩
  rcases Int.lt_or_le i 0 with hi | hi
  · obtain rfl : i = -1 := by omega
    exact twE (t := .bad) (fun kq => (show False from by exact absurd (lenInv_end he) hne)) (by kernel_rfl)
  · obtain ⟨j, rfl⟩ := Int.eq_ofNat_of_zero_le hi
    have hj : j < 8 := by omega
    have he := lenInv_j.1 he
    have hj0 : decide ((j : Int) ≥ (0 : Int)) = true := by simp
    rcases Bool.eq_false_or_eq_true (((ofN x).getD (j : Int).toNat 0) != (0 : Int)) with c0 | c0
    · have c0' := c0
      rw [Int.toNat_natCast, get_ofW hj] at c0'
      have hw : wd x j ≠ 0 := by simpa using c0'
      let S1 : St := ⟨[(2, aI ((bl x : Nat) : Int))], []⟩
      exact twE (t := (.leaf [.b true, .b true, oP 17 (aI ((bl ((ofN x).getD (j : Int).toNat 0).toNat : Nat) : Int)), .cut [2] [], .chk S1])) (fun kq => (aa (show (decide ((j : Int) ≥ (0 : Int))) = true from hj0) (aa (show 0 ≤ (j : Int) ∧ (j : Int) < (8 : Int) from (by first | omega | (simp only [w64_def, u64_def, w8_def]; omega))) (aa c0 (aa (show 0 ≤ (j : Int) ∧ (j : Int) < (8 : Int) from (by first | omega | (simp only [w64_def, u64_def, w8_def]; omega))) (aa (cP Try.f100 4 5 (len64_ok ((ofN x).getD (j : Int).toNat 0) (by first | omega | exact get_nonneg _ _) (by first | omega | exact get_lt _ _))) (aa (show Ent 19 ⟨[(2, aI (IntKind.i64.wrap ((IntKind.i64.wrap ((64 : Int) * (j : Int))) + ((bl ((ofN x).getD (j : Int).toNat 0).toNat : Nat) : Int))))], []⟩ S1 from (ent_eqs (.cons (by rw [Int.toNat_natCast, get_ofW hj, Int.toNat_natCast, len_fin hj he hw]) .nil) .nil)) (kq .r S1 (.inr ⟨by simp, rfl, rfl⟩))))))))) (by kernel_rfl)
    · have c0' := c0
      rw [Int.toNat_natCast, get_ofW hj] at c0'
      have hw : wd x j = 0 := by simpa using c0'
      exact twE (t := (.leaf [.b true, .b false, .cut [1, 2, 3] [1], .chk (lenS x ((j : Int) - 1))])) (fun kq => (aa (show (decide ((j : Int) ≥ (0 : Int))) = true from hj0) (aa (show 0 ≤ (j : Int) ∧ (j : Int) < (8 : Int) from (by first | omega | (simp only [w64_def, u64_def, w8_def]; omega))) (aa c0 (aa (show Ent 19 ⟨[(1, aP 1 0), (2, aI 0), (3, aI (IntKind.i64.wrap ((j : Int) - (1 : Int))))], [(1, .sg 23 [.row .u64 8 (ofN x)])]⟩ (lenS x ((j : Int) - 1)) from (ent_eqs (.cons rfl (.cons rfl (.cons (by rw [w64_of (by omega) (by omega)]) .nil))) (.cons rfl .nil))) (kq .n (lenS x ((j : Int) - 1)) (.inl ⟨rfl, ((j : Int) - 1 + 1).toNat, by omega, _, by omega, by omega, rfl, lenInv_prev.2 (len_step he hw), rfl⟩))))))) (by kernel_rfl)

theorem len_loop0 {x : Nat} (hx : x < top) (h0 : x = 0) : LoopT PR 19 (lp Try.f100 0) (lenS x 7) (.x 0) ⟨[], []⟩ := by
  refine loop_of (fun m s => ∃ i : Int, -1 ≤ i ∧ i ≤ 7 ∧ m = (i + 1).toNat ∧ lenInv x i ∧ s = lenS x i) 8 ⟨7, by omega, by omega, rfl, lenInv_start hx, rfl⟩ ?_
  rintro m s ⟨i, h1, h2, rfl, he, rfl⟩
  rcases Int.lt_or_le i 0 with hi | hi
  · obtain rfl : i = -1 := by omega
    exact twE (t := (.leaf [.b false, .cut [] []])) (fun kq => (aa ff (kq (.x 0) (⟨[], []⟩) (.inr ⟨by simp, rfl, rfl⟩)))) (by kernel_rfl)
  · obtain ⟨j, rfl⟩ := Int.eq_ofNat_of_zero_le hi
    have hj : j < 8 := by omega
    have he := lenInv_j.1 he
    have hj0 : decide ((j : Int) ≥ (0 : Int)) = true := by simp
    rcases Bool.eq_false_or_eq_true (((ofN x).getD (j : Int).toNat 0) != (0 : Int)) with c0 | c0
    · have c0' := c0
      rw [Int.toNat_natCast, get_ofW hj] at c0'
      have hw : wd x j ≠ 0 := by simpa using c0'
      exact absurd (by rw [h0]; simp [wd]) hw
    · have c0' := c0
      rw [Int.toNat_natCast, get_ofW hj] at c0'
      have hw : wd x j = 0 := by simpa using c0'
      exact twE (t := (.leaf [.b true, .b false, .cut [1, 2, 3] [1], .chk (lenS x ((j : Int) - 1))])) (fun kq => (aa (show (decide ((j : Int) ≥ (0 : Int))) = true from hj0) (aa (show 0 ≤ (j : Int) ∧ (j : Int) < (8 : Int) from (by first | omega | (simp only [w64_def, u64_def, w8_def]; omega))) (aa c0 (aa (show Ent 19 ⟨[(1, aP 1 0), (2, aI 0), (3, aI (IntKind.i64.wrap ((j : Int) - (1 : Int))))], [(1, .sg 23 [.row .u64 8 (ofN x)])]⟩ (lenS x ((j : Int) - 1)) from (ent_eqs (.cons rfl (.cons rfl (.cons (by rw [w64_of (by omega) (by omega)]) .nil))) (.cons rfl .nil))) (kq .n (lenS x ((j : Int) - 1)) (.inl ⟨rfl, ((j : Int) - 1 + 1).toNat, by omega, _, by omega, by omega, rfl, lenInv_prev.2 (len_step he hw), rfl⟩))))))) (by kernel_rfl)

theorem length_ok (x : Nat) (hx : x < top) : Fn PR 100 [.ag [.row .u64 8 (ofN x)]] (aI ((bl x : Nat) : Int)) := by
  let S0 : St := ⟨[(1, aP 1 0), (2, aI 0), (3, aI 7)], [(1, .sg 23 [.row .u64 8 (ofN x)])]⟩
  let S1 : St := ⟨[(2, aI ((bl x : Nat) : Int))], []⟩
  exact fwE (t := (.spP [] (x = 0) (.leaf [.cut [1, 2, 3] [1], .chk (lenS x 7), .lp (.x 0) (⟨[], []⟩), .cut [2] [], .chk S1]) (.leaf [.cut [1, 2, 3] [1], .chk (lenS x 7), .lp .r S1, .cut [2] []]))) Try.func100 (fun ke => (sp (x = 0) (fun c0 => (aa (show Ent 19 S0 (lenS x 7) from (ent_eqs (.cons rfl (.cons rfl (.cons rfl .nil))) (.cons rfl .nil))) (aa (show LoopT PR 19 (lp Try.f100 0) (lenS x 7) (.x 0) (⟨[], []⟩) from (len_loop0 hx c0)) (aa (show Ent 19 ⟨[(2, aI 0)], []⟩ S1 from (ent_eqs (.cons (by rw [c0, bl_zero]; try rfl) .nil) .nil)) ke)))) (fun c0 => (aa (show Ent 19 S0 (lenS x 7) from (ent_eqs (.cons rfl (.cons rfl (.cons rfl .nil))) (.cons rfl .nil))) (aa (show LoopT PR 19 (lp Try.f100 0) (lenS x 7) .r S1 from (len_loop hx c0)) ke))))) (by kernel_rfl)

theorem bits_ok (neg : Bool) (x : Nat) (hx : x < top) : Fn PR 39 [.ag (nS neg x)] (aI ((bl x : Nat) : Int)) := by
  exact fwE (t := (.leaf [oP 5 (aI ((bl x : Nat) : Int)), .cut [2] []])) Try.func39 (fun ke => (aa (cP Try.f39 1 2 (length_ok x (by first | assumption | omega | exact top_pos | exact Nat.mod_lt _ top_pos | (apply lt_tac; assumption)))) ke)) (by kernel_rfl)

def plusS (x y k : Nat) : St := ⟨[(2, .c (.sc (.p 2 0))), (3, .c (.sc (.p 3 0))), (4, .c (.sc (.p 4 0))), (6, .c (.sc (.p 6 0))), (7, .c (.sc (.v (.int .u64 (sumC x y k : Int))))), (9, .c (.sc (.v (.int .i64 (k : Int)))))], [(2, .sg 23 [.row .u64 8 (ofN x)]), (3, .sg 23 [.row .u64 8 (ofN y)]), (4, .sg 23 [.row .u64 8 z8]), (6, .sg 23 [.row .u64 8 (ofN (sumS x y k))])]⟩
theorem plus_loop (x y : Nat) : LoopT PR 29 (lp Try.f84 0) (plusS x y 0) (.x 0) (plusS x y 8) := by
  refine loop_of (fun m s => ∃ k, k ≤ 8 ∧ m = 8 - k ∧ s = plusS x y k) 8 ⟨0, by omega, rfl, rfl⟩ ?_
  rintro m s ⟨k, hk, rfl, rfl⟩
  have hc := sumC_le x y k
  rcases Nat.lt_or_ge k 8 with hlt | hge
  · have hk0 : decide ((k : Int) < (8 : Int)) = true := by simp; omega
    exact twE (t := (.leaf [.b true, oP 21 (.tu [.sc (.v (.int .u64 ((((ofN x).getD (k : Int).toNat 0) + ((ofN y).getD (k : Int).toNat 0) + (sumC x y k : Int)) % 18446744073709551616))), .sc (.v (.int .u64 ((((ofN x).getD (k : Int).toNat 0) + ((ofN y).getD (k : Int).toNat 0) + (sumC x y k : Int)) / 18446744073709551616)))]), .cut [2, 3, 4, 6, 7, 9] [2, 3, 4, 6], .chk (plusS x y (k + 1))])) (fun kq => (aa (show (decide ((k : Int) < (8 : Int))) = true from hk0) (aa (show 0 ≤ (k : Int) ∧ (k : Int) < (8 : Int) from (by first | omega | (simp only [w64_def, u64_def, w8_def]; omega))) (aa (show 0 ≤ (k : Int) ∧ (k : Int) < (8 : Int) from (by first | omega | (simp only [w64_def, u64_def, w8_def]; omega))) (aa (cP Try.f84 6 8 (show Fn PR 82 [.sc (.v (.int .u64 ((ofN x).getD (k : Int).toNat 0))), .sc (.v (.int .u64 ((ofN y).getD (k : Int).toNat 0))), .sc (.v (.int .u64 (sumC x y k : Int)))] (.tu [.sc (.v (.int .u64 ((((ofN x).getD (k : Int).toNat 0) + ((ofN y).getD (k : Int).toNat 0) + (sumC x y k : Int)) % 18446744073709551616))), .sc (.v (.int .u64 ((((ofN x).getD (k : Int).toNat 0) + ((ofN y).getD (k : Int).toNat 0) + (sumC x y k : Int)) / 18446744073709551616)))]) from (add64_ok (by first | omega | exact get_nonneg _ _) (by first | omega | exact get_nonneg _ _) (by omega)))) (aa (show 0 ≤ (k : Int) ∧ (k : Int) < (8 : Int) from (by first | omega | (simp only [w64_def, u64_def, w8_def]; omega))) (aa (show Ent 29 ⟨[(2, aP 2 0), (3, aP 3 0), (4, aP 4 0), (6, aP 6 0), (7, .c (.sc (.v (.int .u64 ((((ofN x).getD (k : Int).toNat 0) + ((ofN y).getD (k : Int).toNat 0) + (sumC x y k : Int)) / 18446744073709551616))))), (9, aI (IntKind.i64.wrap ((k : Int) + (1 : Int))))], [(2, .sg 23 [.row .u64 8 (ofN x)]), (3, .sg 23 [.row .u64 8 (ofN y)]), (4, .sg 23 [.row .u64 8 z8]), (6, .sg 23 [.row .u64 8 ((ofN (sumS x y k)).set (k : Int).toNat ((((ofN x).getD (k : Int).toNat 0) + ((ofN y).getD (k : Int).toNat 0) + (sumC x y k : Int)) % 18446744073709551616))])]⟩ (plusS x y (k + 1)) from (ent_eqs (.cons rfl (.cons rfl (.cons rfl (.cons rfl (.cons (by simp only [plus_c hlt, plus_s hlt, next64 (show k < 4611686018427387904 by omega)]) (.cons (by simp only [plus_c hlt, plus_s hlt, next64 (show k < 4611686018427387904 by omega)]) .nil)))))) (.cons rfl (.cons rfl (.cons rfl (.cons (by simp only [plus_c hlt, plus_s hlt, next64 (show k < 4611686018427387904 by omega)]) .nil)))))) (kq .n (plusS x y (k + 1)) (.inl ⟨rfl, 8 - (k + 1), by omega, k + 1, by omega, rfl, rfl⟩))))))))) (by kernel_rfl)
  · obtain rfl : k = 8 := by omega
    exact twE (t := (.leaf [.b false, .cut [2, 3, 4, 6, 7, 9] [2, 3, 4, 6]])) (fun kq => (aa ff (kq (.x 0) (plusS x y 8) (.inr ⟨by simp, rfl, rfl⟩)))) (by kernel_rfl)

theorem plus_ok (x y : Nat) (hx : x < top) (hy : y < top) : Fn PR 84 [.ag [.row .u64 8 (ofN x)], .ag [.row .u64 8 (ofN y)]] (.tu [.ag [.row .u64 8 (ofN ((x + y) % top))], kB (decide (x + y < top))]) := by
  let S2 : St := ⟨[(4, aP 4 0), (5, aB (decide (x + y < top)))], [(4, .sg 23 [.row .u64 8 (ofN ((x + y) % top))])]⟩
  exact fwE (t := (.leaf [.cut [2, 3, 4, 6, 7, 9] [2, 3, 4, 6], .chk (plusS x y 0), .lp (.x 0) (plusS x y 8), .cut [4, 5] [4], .chk S2])) Try.func84 (fun ke => (aa (show Ent 29 ⟨[(2, aP 2 0), (3, aP 3 0), (4, aP 4 0), (6, aP 6 0), (7, .c (.sc (.v (.int .u64 0)))), (9, aI 0)], [(2, .sg 23 [.row .u64 8 (ofN x)]), (3, .sg 23 [.row .u64 8 (ofN y)]), (4, .sg 23 [.row .u64 8 z8]), (6, .sg 23 [.row .u64 8 z8])]⟩ (plusS x y 0) from (ent_eqs (.cons rfl (.cons rfl (.cons rfl (.cons rfl (.cons (by simp only [sumC_zero, sumS_zero, z8_eq, Int.ofNat_zero, Int.natCast_zero]) (.cons rfl .nil)))))) (.cons rfl (.cons rfl (.cons rfl (.cons (by simp only [sumC_zero, sumS_zero, z8_eq, Int.ofNat_zero, Int.natCast_zero]) .nil)))))) (aa (show LoopT PR 29 (lp Try.f84 0) (plusS x y 0) (.x 0) (plusS x y 8) from (plus_loop x y)) (aa (show Ent 29 ⟨[(4, aP 4 0), (5, aB ((sumC x y 8 : Int) == (0 : Int)))], [(4, .sg 23 [.row .u64 8 (ofN (sumS x y 8))])]⟩ S2 from (ent_eqs (.cons rfl (.cons (by simp only [sumS_end rfl hx hy, sumC_end rfl hx hy]) .nil)) (.cons (by simp only [sumS_end rfl hx hy, sumC_end rfl hx hy]) .nil))) ke)))) (by kernel_rfl)

def minusS (x y k : Nat) : St := ⟨[(2, .c (.sc (.p 2 0))), (3, .c (.sc (.p 3 0))), (4, .c (.sc (.p 4 0))), (5, .c (.sc (.p 5 0))), (6, .c (.sc (.v (.int .u64 (subC x y k))))), (8, .c (.sc (.v (.int .i64 (k : Int)))))], [(2, .sg 23 [.row .u64 8 (ofN x)]), (3, .sg 23 [.row .u64 8 (ofN y)]), (4, .sg 23 [.row .u64 8 z8]), (5, .sg 23 [.row .u64 8 (ofN (subS x y k))])]⟩
theorem minus_loop (x y : Nat) : LoopT PR 26 (lp Try.f86 0) (minusS x y 0) (.x 0) (minusS x y 8) := by
  refine loop_of (fun m s => ∃ k, k ≤ 8 ∧ m = 8 - k ∧ s = minusS x y k) 8 ⟨0, by omega, rfl, rfl⟩ ?_
  rintro m s ⟨k, hk, rfl, rfl⟩
  have hc := subC_le x y k
  rcases Nat.lt_or_ge k 8 with hlt | hge
  · have hk0 : decide ((k : Int) < (8 : Int)) = true := by simp; omega
    exact twE (t := (.leaf [.b true, oP 20 (.tu [.sc (.v (.int .u64 ((((ofN x).getD (k : Int).toNat 0) - ((ofN y).getD (k : Int).toNat 0) - (subC x y k)) % 18446744073709551616))), .sc (.v (.int .u64 (if ((ofN x).getD (k : Int).toNat 0) < ((ofN y).getD (k : Int).toNat 0) + (subC x y k) then 1 else 0)))]), .cut [2, 3, 4, 5, 6, 8] [2, 3, 4, 5], .chk (minusS x y (k + 1))])) (fun kq => (aa (show (decide ((k : Int) < (8 : Int))) = true from hk0) (aa (show 0 ≤ (k : Int) ∧ (k : Int) < (8 : Int) from (by first | omega | (simp only [w64_def, u64_def, w8_def]; omega))) (aa (show 0 ≤ (k : Int) ∧ (k : Int) < (8 : Int) from (by first | omega | (simp only [w64_def, u64_def, w8_def]; omega))) (aa (cP Try.f86 6 8 (show Fn PR 130 [.sc (.v (.int .u64 ((ofN x).getD (k : Int).toNat 0))), .sc (.v (.int .u64 ((ofN y).getD (k : Int).toNat 0))), .sc (.v (.int .u64 (subC x y k)))] (.tu [.sc (.v (.int .u64 ((((ofN x).getD (k : Int).toNat 0) - ((ofN y).getD (k : Int).toNat 0) - (subC x y k)) % 18446744073709551616))), .sc (.v (.int .u64 (if ((ofN x).getD (k : Int).toNat 0) < ((ofN y).getD (k : Int).toNat 0) + (subC x y k) then 1 else 0)))]) from (sub64_ok (by first | omega | exact get_nonneg _ _) (by first | omega | exact get_nonneg _ _) (by omega) (by first | omega | exact get_lt _ _) (by first | omega | exact get_lt _ _)))) (aa (show 0 ≤ (k : Int) ∧ (k : Int) < (8 : Int) from (by first | omega | (simp only [w64_def, u64_def, w8_def]; omega))) (aa (show Ent 26 ⟨[(2, aP 2 0), (3, aP 3 0), (4, aP 4 0), (5, aP 5 0), (6, .c (.sc (.v (.int .u64 (if ((ofN x).getD (k : Int).toNat 0) < ((ofN y).getD (k : Int).toNat 0) + (subC x y k) then 1 else 0))))), (8, aI (IntKind.i64.wrap ((k : Int) + (1 : Int))))], [(2, .sg 23 [.row .u64 8 (ofN x)]), (3, .sg 23 [.row .u64 8 (ofN y)]), (4, .sg 23 [.row .u64 8 z8]), (5, .sg 23 [.row .u64 8 ((ofN (subS x y k)).set (k : Int).toNat ((((ofN x).getD (k : Int).toNat 0) - ((ofN y).getD (k : Int).toNat 0) - (subC x y k)) % 18446744073709551616))])]⟩ (minusS x y (k + 1)) from (ent_eqs (.cons rfl (.cons rfl (.cons rfl (.cons rfl (.cons (by simp only [minus_c hlt, minus_s hlt, next64 (show k < 4611686018427387904 by omega)]) (.cons (by simp only [minus_c hlt, minus_s hlt, next64 (show k < 4611686018427387904 by omega)]) .nil)))))) (.cons rfl (.cons rfl (.cons rfl (.cons (by simp only [minus_c hlt, minus_s hlt, next64 (show k < 4611686018427387904 by omega)]) .nil)))))) (kq .n (minusS x y (k + 1)) (.inl ⟨rfl, 8 - (k + 1), by omega, k + 1, by omega, rfl, rfl⟩))))))))) (by kernel_rfl)
  · obtain rfl : k = 8 := by omega
    exact twE (t := (.leaf [.b false, .cut [2, 3, 4, 5, 6, 8] [2, 3, 4, 5]])) (fun kq => (aa ff (kq (.x 0) (minusS x y 8) (.inr ⟨by simp, rfl, rfl⟩)))) (by kernel_rfl)

theorem minus_ok (x y : Nat) (hx : x < top) (hy : y < top) (h : y ≤ x) : Fn PR 86 [.ag [.row .u64 8 (ofN x)], .ag [.row .u64 8 (ofN y)]] (aG [.row .u64 8 (ofN (x - y))]) := by
  let S2 : St := ⟨[(4, aP 4 0)], [(4, .sg 23 [.row .u64 8 (ofN (x - y))])]⟩
  exact fwE (t := (.leaf [.cut [2, 3, 4, 5, 6, 8] [2, 3, 4, 5], .chk (minusS x y 0), .lp (.x 0) (minusS x y 8), .cut [4] [4], .chk S2])) Try.func86 (fun ke => (aa (show Ent 26 ⟨[(2, aP 2 0), (3, aP 3 0), (4, aP 4 0), (5, aP 5 0), (6, .c (.sc (.v (.int .u64 0)))), (8, aI 0)], [(2, .sg 23 [.row .u64 8 (ofN x)]), (3, .sg 23 [.row .u64 8 (ofN y)]), (4, .sg 23 [.row .u64 8 z8]), (5, .sg 23 [.row .u64 8 z8])]⟩ (minusS x y 0) from (ent_eqs (.cons rfl (.cons rfl (.cons rfl (.cons rfl (.cons (by simp only [subC_zero, subS_zero, z8_eq]) (.cons rfl .nil)))))) (.cons rfl (.cons rfl (.cons rfl (.cons (by simp only [subC_zero, subS_zero, z8_eq]) .nil)))))) (aa (show LoopT PR 26 (lp Try.f86 0) (minusS x y 0) (.x 0) (minusS x y 8) from (minus_loop x y)) (aa (show Ent 26 ⟨[(4, aP 4 0)], [(4, .sg 23 [.row .u64 8 (ofN (subS x y 8))])]⟩ S2 from (ent_eqs (.cons rfl .nil) (.cons (by simp only [subS_end rfl hx hy h]) .nil))) ke)))) (by kernel_rfl)

end Go.Proofs.Ytbbakacfhajohaa.Av
namespace Go.Proofs.Ytbbakacfhajohaa.Av
set_option linter.unusedVariables false
set_option linter.unusedSimpArgs false
set_option maxRecDepth 20000
set_option maxHeartbeats 1000000

theorem add_ok (n m : Bool) (x y : Nat) (hx : x < top) (hy : y < top) (a b : Int) (ha : iz n x = a) (hb : iz m y = b) (hab : (a + b).natAbs < top) : Fn PR 19 [.ag (nS n x), .ag (nS m y)] (.tu [.ag [.one (.v (.bool (decide (a + b < 0)))), .row .u64 8 (ofN (a + b).natAbs)], .sc (.v .nilIface)]) := by
  rcases Bool.eq_false_or_eq_true (n == m) with c0 | c0
  · exact fwE (t := (.leaf [.b true, oP 18 (.tu [.ag [.row .u64 8 (ofN ((x + y) % top))], kB (decide (x + y < top))]), oP 25 (.tu [.ag [.one (.v (.bool (decide (a + b < 0)))), .row .u64 8 (ofN (a + b).natAbs)], .sc (.v .nilIface)]), .cut [4, 5] [4]])) Try.func19 (fun ke => (aa c0 (aa (cP Try.f19 2 4 (plus_ok x y (by first | assumption | omega | exact top_pos | exact Nat.mod_lt _ top_pos | (apply lt_tac; assumption)) (by first | assumption | omega | exact top_pos | exact Nat.mod_lt _ top_pos | (apply lt_tac; assumption)))) (aa (cP Try.f19 3 4 (show Fn PR 83 [kB n, .ag [.row .u64 8 (ofN ((x + y) % top))], kB (decide (x + y < top))] (.tu [.ag [.one (.v (.bool (decide (a + b < 0)))), .row .u64 8 (ofN (a + b).natAbs)], .sc (.v .nilIface)]) from (fit_ok n (decide (x + y < top)) ((x + y) % top) (by first | assumption | omega | exact top_pos | exact Nat.mod_lt _ top_pos | (apply lt_tac; assumption)) _ (add_iz_mod (eq_of_beq c0) ha hb hab) (show (decide (x + y < top)) = true from (decide_eq_true (add_fits (eq_of_beq c0) ha hb hab)))))) ke)))) (by kernel_rfl)
  · rcases Bool.eq_false_or_eq_true (decide ((sg (x : Int) (y : Int)) ≥ (0 : Int))) with c1 | c1
    · have h1 : y ≤ x := by have := (sg_ge _ _).1 (of_decide_eq_true c1); omega
      have T0 : x < top := by first | assumption | omega | exact top_pos | exact Nat.mod_lt _ top_pos | (apply lt_tac; assumption)
      have T1 : y < top := by first | assumption | omega | exact top_pos | exact Nat.mod_lt _ top_pos | (apply lt_tac; assumption)
      exact fwE (t := (.leaf [.b false, oP 32 (aI (sg (x : Int) (y : Int))), .b true, oP 40 (aG [.row .u64 8 (ofN (x - y))]), oP 41 (aG [.one (.v (.bool (decide (a + b < 0)))), .row .u64 8 (ofN (a + b).natAbs)]), .cut [4, 5] [4]])) Try.func19 (fun ke => (aa c0 (aa (cP Try.f19 4 4 (order_ok x y T0 T1)) (aa c1 (aa (cP Try.f19 5 6 (minus_ok x y T0 T1 (by omega))) (aa (cP Try.f19 5 7 (show Fn PR 80 [kB n, .ag [.row .u64 8 (ofN (x - y))]] (aG [.one (.v (.bool (decide (a + b < 0)))), .row .u64 8 (ofN (a + b).natAbs)]) from (made_ok n (x - y) (by first | assumption | omega | exact top_pos | exact Nat.mod_lt _ top_pos | (apply lt_tac; assumption)) _ (add_iz_ge (ne_of_beqf c0) ha hb h1)))) ke)))))) (by kernel_rfl)
    · have h1 : x < y := by have := mt (sg_ge _ _).2 (of_decide_eq_false c1); omega
      have h1' := Nat.le_of_lt h1
      have T0 : x < top := by first | assumption | omega | exact top_pos | exact Nat.mod_lt _ top_pos | (apply lt_tac; assumption)
      have T1 : y < top := by first | assumption | omega | exact top_pos | exact Nat.mod_lt _ top_pos | (apply lt_tac; assumption)
      exact fwE (t := (.leaf [.b false, oP 32 (aI (sg (x : Int) (y : Int))), .b false, oP 48 (aG [.row .u64 8 (ofN (y - x))]), oP 49 (aG [.one (.v (.bool (decide (a + b < 0)))), .row .u64 8 (ofN (a + b).natAbs)]), .cut [4, 5] [4]])) Try.func19 (fun ke => (aa c0 (aa (cP Try.f19 4 4 (order_ok x y T0 T1)) (aa c1 (aa (cP Try.f19 6 6 (minus_ok y x T1 T0 (by omega))) (aa (cP Try.f19 6 7 (show Fn PR 80 [kB m, .ag [.row .u64 8 (ofN (y - x))]] (aG [.one (.v (.bool (decide (a + b < 0)))), .row .u64 8 (ofN (a + b).natAbs)]) from (made_ok m (y - x) (by first | assumption | omega | exact top_pos | exact Nat.mod_lt _ top_pos | (apply lt_tac; assumption)) _ (add_iz_lt (ne_of_beqf c0) ha hb h1)))) ke)))))) (by kernel_rfl)

theorem add_no (n m : Bool) (x y : Nat) (hx : x < top) (hy : y < top) (a b : Int) (ha : iz n x = a) (hb : iz m y = b) (hab : ¬ (a + b).natAbs < top) : Fn PR 19 [.ag (nS n x), .ag (nS m y)] (.tu [.ag [.one (.v (.bool false)), .row .u64 8 z8], .sc (.v (.iface 104 (.int .i64 9)))]) := by
  rcases Bool.eq_false_or_eq_true (n == m) with c0 | c0
  · exact fwE (t := (.leaf [.b true, oP 18 (.tu [.ag [.row .u64 8 (ofN ((x + y) % top))], kB (decide (x + y < top))]), oP 25 (.tu [.ag [.one (.v (.bool false)), .row .u64 8 z8], .sc (.v (.iface 104 (.int .i64 9)))]), .cut [4, 5] [4]])) Try.func19 (fun ke => (aa c0 (aa (cP Try.f19 2 4 (plus_ok x y (by first | assumption | omega | exact top_pos | exact Nat.mod_lt _ top_pos | (apply lt_tac; assumption)) (by first | assumption | omega | exact top_pos | exact Nat.mod_lt _ top_pos | (apply lt_tac; assumption)))) (aa (cP Try.f19 3 4 (fit_no n (decide (x + y < top)) ((x + y) % top) (show (decide (x + y < top)) = false from (decide_eq_false (add_nofits (eq_of_beq c0) ha hb hab))))) ke)))) (by kernel_rfl)
  · exact absurd (add_ne_fits (ne_of_beqf c0) ha hb hx hy) hab

theorem sub_ok (n m : Bool) (x y : Nat) (hx : x < top) (hy : y < top) (a b : Int) (ha : iz n x = a) (hb : iz m y = b) (hab : (a - b).natAbs < top) : Fn PR 47 [.ag (nS n x), .ag (nS m y)] (.tu [.ag [.one (.v (.bool (decide (a - b < 0)))), .row .u64 8 (ofN (a - b).natAbs)], .sc (.v .nilIface)]) := by
  let S1 : St := ⟨[(4, aP 4 0), (5, .c (.sc (.v .nilIface)))], [(4, .sg 25 [.one (.v (.bool (decide (a - b < 0)))), .row .u64 8 (ofN (a - b).natAbs)])]⟩
  exact fwE (t := (.leaf [oP 13 (.tu [.ag [.one (.v (.bool (decide (a + (-b) < 0)))), .row .u64 8 (ofN (a + (-b)).natAbs)], .sc (.v .nilIface)]), .cut [4, 5] [4], .chk S1])) Try.func47 (fun ke => (aa (cP Try.f47 1 7 (add_ok n (!m) x y (by first | assumption | omega | exact top_pos | exact Nat.mod_lt _ top_pos | (apply lt_tac; assumption)) (by first | assumption | omega | exact top_pos | exact Nat.mod_lt _ top_pos | (apply lt_tac; assumption)) a (-b) ha (iz_not hb) (by rwa [← Int.sub_eq_add_neg]))) (aa (show Ent 16 ⟨[(4, aP 4 0), (5, .c (.sc (.v .nilIface)))], [(4, .sg 25 [.one (.v (.bool (decide (a + (-b) < 0)))), .row .u64 8 (ofN (a + (-b)).natAbs)])]⟩ S1 from (ent_eqs (.cons rfl (.cons rfl .nil)) (.cons (by rw [Int.sub_eq_add_neg]) .nil))) ke))) (by kernel_rfl)

theorem sub_no (n m : Bool) (x y : Nat) (hx : x < top) (hy : y < top) (a b : Int) (ha : iz n x = a) (hb : iz m y = b) (hab : ¬ (a - b).natAbs < top) : Fn PR 47 [.ag (nS n x), .ag (nS m y)] (.tu [.ag [.one (.v (.bool false)), .row .u64 8 z8], .sc (.v (.iface 104 (.int .i64 9)))]) := by
  exact fwE (t := (.leaf [oP 13 (.tu [.ag [.one (.v (.bool false)), .row .u64 8 z8], .sc (.v (.iface 104 (.int .i64 9)))]), .cut [4, 5] [4]])) Try.func47 (fun ke => (aa (cP Try.f47 1 7 (add_no n (!m) x y (by first | assumption | omega | exact top_pos | exact Nat.mod_lt _ top_pos | (apply lt_tac; assumption)) (by first | assumption | omega | exact top_pos | exact Nat.mod_lt _ top_pos | (apply lt_tac; assumption)) a (-b) ha (iz_not hb) (by rwa [← Int.sub_eq_add_neg]))) ke)) (by kernel_rfl)

theorem cmp_ok (n m : Bool) (x y : Nat) (hx : x < top) (hy : y < top) (a b : Int) (ha : iz n x = a) (hb : iz m y = b) : Fn PR 20 [.ag (nS n x), .ag (nS m y)] (aI (sg a b)) := by
  have T2 : b.natAbs < top := by first | assumption | exact abs_lt hx ha | exact abs_lt hy hb
  have T3 : a.natAbs < top := by first | assumption | exact abs_lt hx ha | exact abs_lt hy hb
  let S2 : St := ⟨[(4, aI (sg a b))], []⟩
  exact fwE (t := (.sp [oP 6 (aG (iS a)), oP 8 (aG (iS b))] (decide (a < 0)) (.sp [.b true, .b true, .b true] (decide (b < 0)) (.leaf [.b false, .b false, .b false, .b false, .b true, oP 32 (aI (sg ((b.natAbs : Nat) : Int) ((a.natAbs : Nat) : Int))), .cut [4] [], .chk S2]) (.leaf [.b true, .cut [4] [], .chk S2])) (.sp [.b false, .b false, .b false, .b false, .b true, .b true] (decide (b < 0)) (.leaf [.b true, .cut [4] [], .chk S2]) (.leaf [.b false, .b false, oP 37 (aI (sg ((a.natAbs : Nat) : Int) ((b.natAbs : Nat) : Int))), .cut [4] [], .chk S2])))) Try.func20 (fun ke => (aa (cP Try.f20 1 1 (show Fn PR 43 [.ag (nS n x)] (aG (iS a)) from (canon_ok n x (by first | assumption | exact abs_lt hx ha | exact abs_lt hy hb) _ ha))) (aa (cP Try.f20 1 3 (show Fn PR 43 [.ag (nS m y)] (aG (iS b)) from (canon_ok m y (by first | assumption | exact abs_lt hx ha | exact abs_lt hy hb) _ hb))) (sb (decide (a < 0)) (fun c0 => (aa c0 (aa c0 (aa c0 (sb (decide (b < 0)) (fun c1 => (aa (bif_t (y := false) c0 (not_f c1)) (aa (not_f c0) (aa (not_f c0) (aa (not_f c0) (aa ff (aa c0 (aa (cP Try.f20 7 4 (order_ok b.natAbs a.natAbs T2 T3)) (aa (show Ent 38 ⟨[(4, aI (sg ((b.natAbs : Nat) : Int) ((a.natAbs : Nat) : Int)))], []⟩ S2 from (ent_eqs (.cons (by rw [sg_nat' (of_decide_eq_true c0) (of_decide_eq_true c1)]) .nil) .nil)) ke))))))))) (fun c1 => (aa (bif_t (y := false) c0 (not_t c1)) (aa (show Ent 38 ⟨[(4, aI (-1))], []⟩ S2 from (ent_eqs (.cons (by rw [sg_m (of_decide_eq_true c0) (of_decide_eq_false c1)]) .nil) .nil)) ke)))))))) (fun c0 => (aa c0 (aa c0 (aa c0 (aa c0 (aa ff (aa (not_t c0) (aa (not_t c0) (sb (decide (b < 0)) (fun c1 => (aa (bif_t (y := false) (not_t c0) c1) (aa (show Ent 38 ⟨[(4, aI 1)], []⟩ S2 from (ent_eqs (.cons (by rw [sg_p (of_decide_eq_false c0) (of_decide_eq_true c1)]) .nil) .nil)) ke))) (fun c1 => (aa (bif_t (y := false) (not_t c0) c1) (aa c0 (aa (cP Try.f20 8 4 (order_ok a.natAbs b.natAbs T3 T2)) (aa (show Ent 38 ⟨[(4, aI (sg ((a.natAbs : Nat) : Int) ((b.natAbs : Nat) : Int)))], []⟩ S2 from (ent_eqs (.cons (by rw [sg_nat (of_decide_eq_false c0) (of_decide_eq_false c1)]) .nil) .nil)) ke)))))))))))))))))) (by kernel_rfl)

theorem int64_ok (neg : Bool) (x : Nat) (hx : x < top) (z : Int) (hz : iz neg x = z) (h0 : -9223372036854775808 ≤ z) (h1 : z ≤ 9223372036854775807) : Fn PR 37 [.ag (nS neg x)] (.tu [kI z, .sc (.v .nilIface)]) := by
  have T2 : z.natAbs < top := by first | assumption | exact abs_lt hx hz | exact wabs _
  let S2 : St := ⟨[(2, aI z), (3, .c (.sc (.v .nilIface)))], []⟩
  exact fwE (t := (.sp [oP 6 (aG (iS z))] (decide (z < 0)) (.leaf [.b true, oP 16 (aG [.one (.v (.bool (decide (IntKind.i64.wrap (0 - (IntKind.i64.wrap (((ofN z.natAbs).getD (0 : Int).toNat 0)))) < 0)))), .row .u64 8 (ofN (IntKind.i64.wrap (0 - (IntKind.i64.wrap (((ofN z.natAbs).getD (0 : Int).toNat 0))))).natAbs)]), oP 18 (aI (sg (IntKind.i64.wrap (0 - (IntKind.i64.wrap (((ofN z.natAbs).getD (0 : Int).toNat 0))))) z)), .b false, .cut [2, 3] [], .chk S2]) (.leaf [.b false, oP 16 (aG [.one (.v (.bool (decide (IntKind.i64.wrap (((ofN z.natAbs).getD (0 : Int).toNat 0)) < 0)))), .row .u64 8 (ofN (IntKind.i64.wrap (((ofN z.natAbs).getD (0 : Int).toNat 0))).natAbs)]), oP 18 (aI (sg (IntKind.i64.wrap (((ofN z.natAbs).getD (0 : Int).toNat 0))) z)), .b false, .cut [2, 3] [], .chk S2]))) Try.func37 (fun ke => (aa (cP Try.f37 1 1 (show Fn PR 43 [.ag (nS neg x)] (aG (iS z)) from (canon_ok neg x (by first | assumption | exact abs_lt hx hz | exact wabs _) _ hz))) (sb (decide (z < 0)) (fun c0 => (aa (show 0 ≤ (0 : Int) ∧ (0 : Int) < (8 : Int) from (by first | omega | (simp only [w64_def, u64_def, w8_def]; omega))) (aa c0 (aa (cP Try.f37 5 1 (of_ok (IntKind.i64.wrap (0 - (IntKind.i64.wrap (((ofN z.natAbs).getD (0 : Int).toNat 0))))) (by first | omega | decide | exact w64_lo _) (by first | omega | decide | exact w64_hi _))) (aa (cP Try.f37 5 3 (cmp_ok (decide (IntKind.i64.wrap (0 - (IntKind.i64.wrap (((ofN z.natAbs).getD (0 : Int).toNat 0)))) < 0)) (decide (z < 0)) ((IntKind.i64.wrap (0 - (IntKind.i64.wrap (((ofN z.natAbs).getD (0 : Int).toNat 0))))).natAbs) z.natAbs (by first | assumption | exact abs_lt hx hz | exact wabs _) T2 (IntKind.i64.wrap (0 - (IntKind.i64.wrap (((ofN z.natAbs).getD (0 : Int).toNat 0))))) z (iz_can _) (iz_can _))) (aa (show ((sg (IntKind.i64.wrap (0 - (IntKind.i64.wrap (((ofN z.natAbs).getD (0 : Int).toNat 0))))) z) != (0 : Int)) = false from (sg_ne_f (small_m (of_decide_eq_true c0) h0))) (aa (show Ent 22 ⟨[(2, aI (IntKind.i64.wrap (0 - (IntKind.i64.wrap (((ofN z.natAbs).getD (0 : Int).toNat 0)))))), (3, .c (.sc (.v .nilIface)))], []⟩ S2 from (ent_eqs (.cons (by rw [small_m (of_decide_eq_true c0) h0]) (.cons rfl .nil)) .nil)) ke))))))) (fun c0 => (aa (show 0 ≤ (0 : Int) ∧ (0 : Int) < (8 : Int) from (by first | omega | (simp only [w64_def, u64_def, w8_def]; omega))) (aa c0 (aa (cP Try.f37 5 1 (of_ok (IntKind.i64.wrap (((ofN z.natAbs).getD (0 : Int).toNat 0))) (by first | omega | decide | exact w64_lo _) (by first | omega | decide | exact w64_hi _))) (aa (cP Try.f37 5 3 (cmp_ok (decide (IntKind.i64.wrap (((ofN z.natAbs).getD (0 : Int).toNat 0)) < 0)) (decide (z < 0)) ((IntKind.i64.wrap (((ofN z.natAbs).getD (0 : Int).toNat 0))).natAbs) z.natAbs (by first | assumption | exact abs_lt hx hz | exact wabs _) T2 (IntKind.i64.wrap (((ofN z.natAbs).getD (0 : Int).toNat 0))) z (iz_can _) (iz_can _))) (aa (show ((sg (IntKind.i64.wrap (((ofN z.natAbs).getD (0 : Int).toNat 0))) z) != (0 : Int)) = false from (sg_ne_f (small_p (of_decide_eq_false c0) h1))) (aa (show Ent 22 ⟨[(2, aI (IntKind.i64.wrap (((ofN z.natAbs).getD (0 : Int).toNat 0)))), (3, .c (.sc (.v .nilIface)))], []⟩ S2 from (ent_eqs (.cons (by rw [small_p (of_decide_eq_false c0) h1]) (.cons rfl .nil)) .nil)) ke)))))))))) (by kernel_rfl)

theorem int64_no (neg : Bool) (x : Nat) (hx : x < top) (z : Int) (hz : iz neg x = z) (h : ¬ (-9223372036854775808 ≤ z ∧ z ≤ 9223372036854775807)) : Fn PR 37 [.ag (nS neg x)] (.tu [kI 0, .sc (.v (.iface 104 (.int .i64 9)))]) := by
  have T2 : z.natAbs < top := by first | assumption | exact abs_lt hx hz | exact wabs _
  exact fwE (t := (.sp [oP 6 (aG (iS z))] (decide (z < 0)) (.leaf [.b true, oP 16 (aG [.one (.v (.bool (decide (IntKind.i64.wrap (0 - (IntKind.i64.wrap (((ofN z.natAbs).getD (0 : Int).toNat 0)))) < 0)))), .row .u64 8 (ofN (IntKind.i64.wrap (0 - (IntKind.i64.wrap (((ofN z.natAbs).getD (0 : Int).toNat 0))))).natAbs)]), oP 18 (aI (sg (IntKind.i64.wrap (0 - (IntKind.i64.wrap (((ofN z.natAbs).getD (0 : Int).toNat 0))))) z)), .b true, .cut [2, 3] []]) (.leaf [.b false, oP 16 (aG [.one (.v (.bool (decide (IntKind.i64.wrap (((ofN z.natAbs).getD (0 : Int).toNat 0)) < 0)))), .row .u64 8 (ofN (IntKind.i64.wrap (((ofN z.natAbs).getD (0 : Int).toNat 0))).natAbs)]), oP 18 (aI (sg (IntKind.i64.wrap (((ofN z.natAbs).getD (0 : Int).toNat 0))) z)), .b true, .cut [2, 3] []]))) Try.func37 (fun ke => (aa (cP Try.f37 1 1 (show Fn PR 43 [.ag (nS neg x)] (aG (iS z)) from (canon_ok neg x (by first | assumption | exact abs_lt hx hz | exact wabs _) _ hz))) (sb (decide (z < 0)) (fun c0 => (aa (show 0 ≤ (0 : Int) ∧ (0 : Int) < (8 : Int) from (by first | omega | (simp only [w64_def, u64_def, w8_def]; omega))) (aa c0 (aa (cP Try.f37 5 1 (of_ok (IntKind.i64.wrap (0 - (IntKind.i64.wrap (((ofN z.natAbs).getD (0 : Int).toNat 0))))) (by first | omega | decide | exact w64_lo _) (by first | omega | decide | exact w64_hi _))) (aa (cP Try.f37 5 3 (cmp_ok (decide (IntKind.i64.wrap (0 - (IntKind.i64.wrap (((ofN z.natAbs).getD (0 : Int).toNat 0)))) < 0)) (decide (z < 0)) ((IntKind.i64.wrap (0 - (IntKind.i64.wrap (((ofN z.natAbs).getD (0 : Int).toNat 0))))).natAbs) z.natAbs (by first | assumption | exact abs_lt hx hz | exact wabs _) T2 (IntKind.i64.wrap (0 - (IntKind.i64.wrap (((ofN z.natAbs).getD (0 : Int).toNat 0))))) z (iz_can _) (iz_can _))) (aa (show ((sg (IntKind.i64.wrap (0 - (IntKind.i64.wrap (((ofN z.natAbs).getD (0 : Int).toNat 0))))) z) != (0 : Int)) = true from (sg_ne_t (out_p h))) ke)))))) (fun c0 => (aa (show 0 ≤ (0 : Int) ∧ (0 : Int) < (8 : Int) from (by first | omega | (simp only [w64_def, u64_def, w8_def]; omega))) (aa c0 (aa (cP Try.f37 5 1 (of_ok (IntKind.i64.wrap (((ofN z.natAbs).getD (0 : Int).toNat 0))) (by first | omega | decide | exact w64_lo _) (by first | omega | decide | exact w64_hi _))) (aa (cP Try.f37 5 3 (cmp_ok (decide (IntKind.i64.wrap (((ofN z.natAbs).getD (0 : Int).toNat 0)) < 0)) (decide (z < 0)) ((IntKind.i64.wrap (((ofN z.natAbs).getD (0 : Int).toNat 0))).natAbs) z.natAbs (by first | assumption | exact abs_lt hx hz | exact wabs _) T2 (IntKind.i64.wrap (((ofN z.natAbs).getD (0 : Int).toNat 0))) z (iz_can _) (iz_can _))) (aa (show ((sg (IntKind.i64.wrap (((ofN z.natAbs).getD (0 : Int).toNat 0))) z) != (0 : Int)) = true from (sg_ne_t (out_p h))) ke))))))))) (by kernel_rfl)

def upS (x n k : Nat) (i : Int) : St := ⟨[(1, .c (.sc (.v (.int .i64 (n : Int))))), (2, .c (.sc (.p 2 0))), (4, .c (.sc (.p 4 0))), (5, .c (.sc (.p 5 0))), (6, .c (.sc (.v (.int .i64 i))))], [(2, .sg 23 [.row .u64 8 (ofN x)]), (4, .sg 23 [.row .u64 8 z8]), (5, .sg 23 [.row .u64 8 (tb (upF x n k))])]⟩
theorem up_loop {x n : Nat} (hn : n < 512) : LoopT PR 50 (lp Try.f101 0) (upS x n 8 7) (.x 0) (upS x n (n / 64) (((n / 64 : Nat) : Int) - 1)) := by
  refine loop_of (fun m s => ∃ k, n / 64 ≤ k ∧ k ≤ 8 ∧ m = k ∧ s = upS x n k ((k : Int) - 1)) 8 ⟨8, by omega, by omega, rfl, rfl⟩ ?_
  rintro m s ⟨k, h1, h2, rfl, rfl⟩
  rcases Nat.eq_or_lt_of_le h1 with he | hl
  · obtain rfl := he
    exact twE (t := (.leaf [.b false, .cut [1, 2, 4, 5, 6] [2, 4, 5]])) (fun kq => (aa (show (64 : Int) ≠ 0 from (by decide)) (aa (show (decide ((((n / 64 : Nat) : Int) - 1) ≥ (IntKind.i64.wrap ((n : Int).tdiv (64 : Int))))) = false from (ngeq_q hn rfl)) (kq (.x 0) (upS x n (n / 64) (((n / 64 : Nat) : Int) - 1)) (.inr ⟨by simp, rfl, rfl⟩))))) (by kernel_rfl)
  · obtain ⟨j, rfl⟩ : ∃ j, m = j + 1 := ⟨m - 1, by omega⟩
    have hj : j < 8 := by omega
    have hq : n / 64 ≤ j := by omega
    rw [show ((j + 1 : Nat) : Int) - 1 = (j : Int) by omega]
    rcases Bool.eq_false_or_eq_true (decide (((n : Int).tmod (64 : Int)) > (0 : Int))) with c0 | c0
    · rcases Bool.eq_false_or_eq_true (decide ((j : Int) > (IntKind.i64.wrap ((n : Int).tdiv (64 : Int))))) with c1 | c1
      · have hq2 := gtr_q hn c1
        exact twE (t := (.leaf [.b true, .b true, .b true, .b true, .b true, .b true, .cut [1, 2, 4, 5, 6] [2, 4, 5], .chk (upS x n j ((j : Int) - 1))])) (fun kq => (aa (show (64 : Int) ≠ 0 from (by decide)) (aa (show (decide ((j : Int) ≥ (IntKind.i64.wrap ((n : Int).tdiv (64 : Int))))) = true from (geq_q hn hq)) (aa (show (64 : Int) ≠ 0 from (by decide)) (aa (show 0 ≤ (IntKind.i64.wrap ((j : Int) - (IntKind.i64.wrap ((n : Int).tdiv (64 : Int))))) ∧ (IntKind.i64.wrap ((j : Int) - (IntKind.i64.wrap ((n : Int).tdiv (64 : Int))))) < (8 : Int) from (by first | omega | (simp only [td_n, tm_n, w64_def, u64_def, w8_def]; omega))) (aa (show (64 : Int) ≠ 0 from (by decide)) (aa (show 0 ≤ ((n : Int).tmod (64 : Int)) from (by first | omega | (simp only [td_n, tm_n, w64_def, u64_def, w8_def]; omega))) (aa (show 0 ≤ (j : Int) ∧ (j : Int) < (8 : Int) from (by first | omega | (simp only [td_n, tm_n, w64_def, u64_def, w8_def]; omega))) (aa (show (64 : Int) ≠ 0 from (by decide)) (aa c0 (aa c0 (aa c0 (aa (show (64 : Int) ≠ 0 from (by decide)) (aa c0 (aa (bif_t (y := false) c0 c1) (aa (show 0 ≤ (j : Int) ∧ (j : Int) < (8 : Int) from (by first | omega | (simp only [td_n, tm_n, w64_def, u64_def, w8_def]; omega))) (aa (show (64 : Int) ≠ 0 from (by decide)) (aa (show 0 ≤ (IntKind.i64.wrap ((IntKind.i64.wrap ((j : Int) - (IntKind.i64.wrap ((n : Int).tdiv (64 : Int))))) - (1 : Int))) ∧ (IntKind.i64.wrap ((IntKind.i64.wrap ((j : Int) - (IntKind.i64.wrap ((n : Int).tdiv (64 : Int))))) - (1 : Int))) < (8 : Int) from (by first | omega | (simp only [td_n, tm_n, w64_def, u64_def, w8_def]; omega))) (aa (show (64 : Int) ≠ 0 from (by decide)) (aa (show 0 ≤ (IntKind.i64.wrap ((64 : Int) - ((n : Int).tmod (64 : Int)))) from (by first | omega | (simp only [td_n, tm_n, w64_def, u64_def, w8_def]; omega))) (aa (show 0 ≤ (j : Int) ∧ (j : Int) < (8 : Int) from (by first | omega | (simp only [td_n, tm_n, w64_def, u64_def, w8_def]; omega))) (aa (show Ent 50 ⟨[(1, aI (n : Int)), (2, aP 2 0), (4, aP 4 0), (5, aP 5 0), (6, aI (IntKind.i64.wrap ((j : Int) - (1 : Int))))], [(2, .sg 23 [.row .u64 8 (ofN x)]), (4, .sg 23 [.row .u64 8 z8]), (5, .sg 23 [.row .u64 8 (((tb (upF x n (j + 1))).set (j : Int).toNat (IntKind.u64.wrap (((ofN x).getD (IntKind.i64.wrap ((j : Int) - (IntKind.i64.wrap ((n : Int).tdiv (64 : Int))))).toNat 0) * (2 ^ (min ((n : Int).tmod (64 : Int)).toNat IntKind.u64.bits))))).set (j : Int).toNat (bits .or .u64 (((tb (upF x n (j + 1))).set (j : Int).toNat (IntKind.u64.wrap (((ofN x).getD (IntKind.i64.wrap ((j : Int) - (IntKind.i64.wrap ((n : Int).tdiv (64 : Int))))).toNat 0) * (2 ^ (min ((n : Int).tmod (64 : Int)).toNat IntKind.u64.bits))))).getD (j : Int).toNat 0) (((ofN x).getD (IntKind.i64.wrap ((IntKind.i64.wrap ((j : Int) - (IntKind.i64.wrap ((n : Int).tdiv (64 : Int))))) - (1 : Int))).toNat 0).fdiv (2 ^ (min (IntKind.i64.wrap ((64 : Int) - ((n : Int).tmod (64 : Int)))).toNat IntKind.u64.bits)))))])]⟩ (upS x n j ((j : Int) - 1)) from (ent_eqs (.cons rfl (.cons rfl (.cons rfl (.cons rfl (.cons (by rw [w64_of (by omega) (by omega)]) .nil))))) (.cons rfl (.cons rfl (.cons (by rw [up_set2 hn hj (rem_pos c0) (gtr_q hn c1)]) .nil))))) (kq .n (upS x n j ((j : Int) - 1)) (.inl ⟨rfl, j, by omega, j, by omega, by omega, rfl, rfl⟩)))))))))))))))))))))))) (by kernel_rfl)
      · exact twE (t := (.leaf [.b true, .b true, .b true, .b true, .b true, .b false, .cut [1, 2, 4, 5, 6] [2, 4, 5], .chk (upS x n j ((j : Int) - 1))])) (fun kq => (aa (show (64 : Int) ≠ 0 from (by decide)) (aa (show (decide ((j : Int) ≥ (IntKind.i64.wrap ((n : Int).tdiv (64 : Int))))) = true from (geq_q hn hq)) (aa (show (64 : Int) ≠ 0 from (by decide)) (aa (show 0 ≤ (IntKind.i64.wrap ((j : Int) - (IntKind.i64.wrap ((n : Int).tdiv (64 : Int))))) ∧ (IntKind.i64.wrap ((j : Int) - (IntKind.i64.wrap ((n : Int).tdiv (64 : Int))))) < (8 : Int) from (by first | omega | (simp only [td_n, tm_n, w64_def, u64_def, w8_def]; omega))) (aa (show (64 : Int) ≠ 0 from (by decide)) (aa (show 0 ≤ ((n : Int).tmod (64 : Int)) from (by first | omega | (simp only [td_n, tm_n, w64_def, u64_def, w8_def]; omega))) (aa (show 0 ≤ (j : Int) ∧ (j : Int) < (8 : Int) from (by first | omega | (simp only [td_n, tm_n, w64_def, u64_def, w8_def]; omega))) (aa (show (64 : Int) ≠ 0 from (by decide)) (aa c0 (aa c0 (aa c0 (aa (show (64 : Int) ≠ 0 from (by decide)) (aa c0 (aa (bif_t (y := false) c0 c1) (aa (show Ent 50 ⟨[(1, aI (n : Int)), (2, aP 2 0), (4, aP 4 0), (5, aP 5 0), (6, aI (IntKind.i64.wrap ((j : Int) - (1 : Int))))], [(2, .sg 23 [.row .u64 8 (ofN x)]), (4, .sg 23 [.row .u64 8 z8]), (5, .sg 23 [.row .u64 8 ((tb (upF x n (j + 1))).set (j : Int).toNat (IntKind.u64.wrap (((ofN x).getD (IntKind.i64.wrap ((j : Int) - (IntKind.i64.wrap ((n : Int).tdiv (64 : Int))))).toNat 0) * (2 ^ (min ((n : Int).tmod (64 : Int)).toNat IntKind.u64.bits)))))])]⟩ (upS x n j ((j : Int) - 1)) from (ent_eqs (.cons rfl (.cons rfl (.cons rfl (.cons rfl (.cons (by rw [w64_of (by omega) (by omega)]) .nil))))) (.cons rfl (.cons rfl (.cons (by rw [up_set1 hn hj hq (by first | exact .inl (rem_zero c0) | (have := ngtr_q hn c1; omega))]) .nil))))) (kq .n (upS x n j ((j : Int) - 1)) (.inl ⟨rfl, j, by omega, j, by omega, by omega, rfl, rfl⟩)))))))))))))))))) (by kernel_rfl)
    · exact twE (t := (.leaf [.b true, .b false, .b false, .b false, .b false, .b false, .cut [1, 2, 4, 5, 6] [2, 4, 5], .chk (upS x n j ((j : Int) - 1))])) (fun kq => (aa (show (64 : Int) ≠ 0 from (by decide)) (aa (show (decide ((j : Int) ≥ (IntKind.i64.wrap ((n : Int).tdiv (64 : Int))))) = true from (geq_q hn hq)) (aa (show (64 : Int) ≠ 0 from (by decide)) (aa (show 0 ≤ (IntKind.i64.wrap ((j : Int) - (IntKind.i64.wrap ((n : Int).tdiv (64 : Int))))) ∧ (IntKind.i64.wrap ((j : Int) - (IntKind.i64.wrap ((n : Int).tdiv (64 : Int))))) < (8 : Int) from (by first | omega | (simp only [td_n, tm_n, w64_def, u64_def, w8_def]; omega))) (aa (show (64 : Int) ≠ 0 from (by decide)) (aa (show 0 ≤ ((n : Int).tmod (64 : Int)) from (by first | omega | (simp only [td_n, tm_n, w64_def, u64_def, w8_def]; omega))) (aa (show 0 ≤ (j : Int) ∧ (j : Int) < (8 : Int) from (by first | omega | (simp only [td_n, tm_n, w64_def, u64_def, w8_def]; omega))) (aa (show (64 : Int) ≠ 0 from (by decide)) (aa c0 (aa c0 (aa c0 (aa c0 (aa c0 (aa ff (aa (show Ent 50 ⟨[(1, aI (n : Int)), (2, aP 2 0), (4, aP 4 0), (5, aP 5 0), (6, aI (IntKind.i64.wrap ((j : Int) - (1 : Int))))], [(2, .sg 23 [.row .u64 8 (ofN x)]), (4, .sg 23 [.row .u64 8 z8]), (5, .sg 23 [.row .u64 8 ((tb (upF x n (j + 1))).set (j : Int).toNat (IntKind.u64.wrap (((ofN x).getD (IntKind.i64.wrap ((j : Int) - (IntKind.i64.wrap ((n : Int).tdiv (64 : Int))))).toNat 0) * (2 ^ (min ((n : Int).tmod (64 : Int)).toNat IntKind.u64.bits)))))])]⟩ (upS x n j ((j : Int) - 1)) from (ent_eqs (.cons rfl (.cons rfl (.cons rfl (.cons rfl (.cons (by rw [w64_of (by omega) (by omega)]) .nil))))) (.cons rfl (.cons rfl (.cons (by rw [up_set1 hn hj hq (by first | exact .inl (rem_zero c0) | (have := ngtr_q hn c1; omega))]) .nil))))) (kq .n (upS x n j ((j : Int) - 1)) (.inl ⟨rfl, j, by omega, j, by omega, by omega, rfl, rfl⟩)))))))))))))))))) (by kernel_rfl)

theorem up_ok (x n : Nat) (hn : n < 512) : Fn PR 101 [.ag [.row .u64 8 (ofN x)], kI (n : Int)] (aG [.row .u64 8 (ofN (x * 2 ^ n % top))]) := by
  let S1 : St := ⟨[(4, aP 4 0)], [(4, .sg 23 [.row .u64 8 (ofN (x * 2 ^ n % top))])]⟩
  exact fwE (t := (.leaf [.cut [1, 2, 4, 5, 6] [2, 4, 5], .chk (upS x n 8 7), .lp (.x 0) (upS x n (n / 64) (((n / 64 : Nat) : Int) - 1)), .cut [4] [4], .chk S1])) Try.func101 (fun ke => (aa (show Ent 50 ⟨[(1, aI (n : Int)), (2, aP 2 0), (4, aP 4 0), (5, aP 5 0), (6, aI 7)], [(2, .sg 23 [.row .u64 8 (ofN x)]), (4, .sg 23 [.row .u64 8 z8]), (5, .sg 23 [.row .u64 8 z8])]⟩ (upS x n 8 7) from (ent_eqs (.cons rfl (.cons rfl (.cons rfl (.cons rfl (.cons rfl .nil))))) (.cons rfl (.cons rfl (.cons (by rw [upF_start x n]) .nil))))) (aa (show LoopT PR 50 (lp Try.f101 0) (upS x n 8 7) (.x 0) (upS x n (n / 64) (((n / 64 : Nat) : Int) - 1)) from (up_loop hn)) (aa (show Ent 50 ⟨[(4, aP 4 0)], [(4, .sg 23 [.row .u64 8 (tb (upF x n (n / 64)))])]⟩ S1 from (ent_eqs (.cons rfl .nil) (.cons (by rw [upF_end rfl rfl]) .nil))) ke)))) (by kernel_rfl)

def downS (x n k : Nat) (i : Int) : St := ⟨[(1, .c (.sc (.v (.int .i64 (n : Int))))), (2, .c (.sc (.p 2 0))), (4, .c (.sc (.p 4 0))), (5, .c (.sc (.p 5 0))), (6, .c (.sc (.v (.int .i64 i))))], [(2, .sg 23 [.row .u64 8 (ofN x)]), (4, .sg 23 [.row .u64 8 z8]), (5, .sg 23 [.row .u64 8 (tb (downF x n k))])]⟩
theorem down_loop {x n : Nat} (hx : x < top) (hn : n < 512) : LoopT PR 53 (lp Try.f102 0) (downS x n 0 0) (.x 0) (downS x n (8 - n / 64) ((8 - n / 64 : Nat) : Int)) := by
  refine loop_of (fun m s => ∃ k, k ≤ 8 - n / 64 ∧ m = 8 - k ∧ s = downS x n k (k : Int)) 8 ⟨0, by omega, rfl, rfl⟩ ?_
  rintro m s ⟨k, h1, rfl, rfl⟩
  rcases Nat.eq_or_lt_of_le h1 with he | hl
  · obtain rfl := he
    exact twE (t := (.leaf [.b false, .cut [1, 2, 4, 5, 6] [2, 4, 5]])) (fun kq => (aa (show (64 : Int) ≠ 0 from (by decide)) (aa (show (decide (((8 - n / 64 : Nat) : Int) < (IntKind.i64.wrap ((8 : Int) - (IntKind.i64.wrap ((n : Int).tdiv (64 : Int))))))) = false from (down_nlss hn (by omega))) (kq (.x 0) (downS x n (8 - n / 64) ((8 - n / 64 : Nat) : Int)) (.inr ⟨by simp, rfl, rfl⟩))))) (by kernel_rfl)
  · have hj : k + n / 64 < 8 := by omega
    rcases Bool.eq_false_or_eq_true (decide (((n : Int).tmod (64 : Int)) > (0 : Int))) with c0 | c0
    · rcases Bool.eq_false_or_eq_true (decide ((IntKind.i64.wrap ((IntKind.i64.wrap ((k : Int) + (IntKind.i64.wrap ((n : Int).tdiv (64 : Int))))) + (1 : Int))) < (8 : Int))) with c1 | c1
      · have hq2 := of_decide_eq_true (down_next hn hj c1)
        exact twE (t := (.leaf [.b true, .b true, .b true, .b true, .b true, .b true, .b true, .b true, .cut [1, 2, 4, 5, 6] [2, 4, 5], .chk (downS x n (k + 1) ((k + 1 : Nat) : Int))])) (fun kq => (aa (show (64 : Int) ≠ 0 from (by decide)) (aa (show (decide ((k : Int) < (IntKind.i64.wrap ((8 : Int) - (IntKind.i64.wrap ((n : Int).tdiv (64 : Int))))))) = true from (down_lss hn hj)) (aa (show (64 : Int) ≠ 0 from (by decide)) (aa (show 0 ≤ (IntKind.i64.wrap ((k : Int) + (IntKind.i64.wrap ((n : Int).tdiv (64 : Int))))) ∧ (IntKind.i64.wrap ((k : Int) + (IntKind.i64.wrap ((n : Int).tdiv (64 : Int))))) < (8 : Int) from (by first | omega | (simp only [td_n, tm_n, w64_def, u64_def, w8_def]; omega))) (aa (show (64 : Int) ≠ 0 from (by decide)) (aa (show 0 ≤ ((n : Int).tmod (64 : Int)) from (by first | omega | (simp only [td_n, tm_n, w64_def, u64_def, w8_def]; omega))) (aa (show 0 ≤ (k : Int) ∧ (k : Int) < (8 : Int) from (by first | omega | (simp only [td_n, tm_n, w64_def, u64_def, w8_def]; omega))) (aa (show (64 : Int) ≠ 0 from (by decide)) (aa c0 (aa c0 (aa c0 (aa (show (64 : Int) ≠ 0 from (by decide)) (aa c0 (aa c0 (aa c0 (aa (bif_t (y := false) c0 c1) (aa (show 0 ≤ (k : Int) ∧ (k : Int) < (8 : Int) from (by first | omega | (simp only [td_n, tm_n, w64_def, u64_def, w8_def]; omega))) (aa (show (64 : Int) ≠ 0 from (by decide)) (aa (show 0 ≤ (IntKind.i64.wrap ((IntKind.i64.wrap ((k : Int) + (IntKind.i64.wrap ((n : Int).tdiv (64 : Int))))) + (1 : Int))) ∧ (IntKind.i64.wrap ((IntKind.i64.wrap ((k : Int) + (IntKind.i64.wrap ((n : Int).tdiv (64 : Int))))) + (1 : Int))) < (8 : Int) from (by first | omega | (simp only [td_n, tm_n, w64_def, u64_def, w8_def]; omega))) (aa (show (64 : Int) ≠ 0 from (by decide)) (aa (show 0 ≤ (IntKind.i64.wrap ((64 : Int) - ((n : Int).tmod (64 : Int)))) from (by first | omega | (simp only [td_n, tm_n, w64_def, u64_def, w8_def]; omega))) (aa (show 0 ≤ (k : Int) ∧ (k : Int) < (8 : Int) from (by first | omega | (simp only [td_n, tm_n, w64_def, u64_def, w8_def]; omega))) (aa (show Ent 53 ⟨[(1, aI (n : Int)), (2, aP 2 0), (4, aP 4 0), (5, aP 5 0), (6, aI (IntKind.i64.wrap ((k : Int) + (1 : Int))))], [(2, .sg 23 [.row .u64 8 (ofN x)]), (4, .sg 23 [.row .u64 8 z8]), (5, .sg 23 [.row .u64 8 (((tb (downF x n k)).set (k : Int).toNat (((ofN x).getD (IntKind.i64.wrap ((k : Int) + (IntKind.i64.wrap ((n : Int).tdiv (64 : Int))))).toNat 0).fdiv (2 ^ (min ((n : Int).tmod (64 : Int)).toNat IntKind.u64.bits)))).set (k : Int).toNat (bits .or .u64 (((tb (downF x n k)).set (k : Int).toNat (((ofN x).getD (IntKind.i64.wrap ((k : Int) + (IntKind.i64.wrap ((n : Int).tdiv (64 : Int))))).toNat 0).fdiv (2 ^ (min ((n : Int).tmod (64 : Int)).toNat IntKind.u64.bits)))).getD (k : Int).toNat 0) (IntKind.u64.wrap (((ofN x).getD (IntKind.i64.wrap ((IntKind.i64.wrap ((k : Int) + (IntKind.i64.wrap ((n : Int).tdiv (64 : Int))))) + (1 : Int))).toNat 0) * (2 ^ (min (IntKind.i64.wrap ((64 : Int) - ((n : Int).tmod (64 : Int)))).toNat IntKind.u64.bits))))))])]⟩ (downS x n (k + 1) ((k + 1 : Nat) : Int)) from (ent_eqs (.cons rfl (.cons rfl (.cons rfl (.cons rfl (.cons (by rw [next64 (by omega)]) .nil))))) (.cons rfl (.cons rfl (.cons (by rw [down_set2 hn (rem_pos c0) (of_decide_eq_true (down_next hn hj c1))]) .nil))))) (kq .n (downS x n (k + 1) ((k + 1 : Nat) : Int)) (.inl ⟨rfl, 8 - (k + 1), by omega, k + 1, by omega, rfl, rfl⟩)))))))))))))))))))))))))) (by kernel_rfl)
      · exact twE (t := (.leaf [.b true, .b true, .b true, .b true, .b true, .b true, .b true, .b false, .cut [1, 2, 4, 5, 6] [2, 4, 5], .chk (downS x n (k + 1) ((k + 1 : Nat) : Int))])) (fun kq => (aa (show (64 : Int) ≠ 0 from (by decide)) (aa (show (decide ((k : Int) < (IntKind.i64.wrap ((8 : Int) - (IntKind.i64.wrap ((n : Int).tdiv (64 : Int))))))) = true from (down_lss hn hj)) (aa (show (64 : Int) ≠ 0 from (by decide)) (aa (show 0 ≤ (IntKind.i64.wrap ((k : Int) + (IntKind.i64.wrap ((n : Int).tdiv (64 : Int))))) ∧ (IntKind.i64.wrap ((k : Int) + (IntKind.i64.wrap ((n : Int).tdiv (64 : Int))))) < (8 : Int) from (by first | omega | (simp only [td_n, tm_n, w64_def, u64_def, w8_def]; omega))) (aa (show (64 : Int) ≠ 0 from (by decide)) (aa (show 0 ≤ ((n : Int).tmod (64 : Int)) from (by first | omega | (simp only [td_n, tm_n, w64_def, u64_def, w8_def]; omega))) (aa (show 0 ≤ (k : Int) ∧ (k : Int) < (8 : Int) from (by first | omega | (simp only [td_n, tm_n, w64_def, u64_def, w8_def]; omega))) (aa (show (64 : Int) ≠ 0 from (by decide)) (aa c0 (aa c0 (aa c0 (aa (show (64 : Int) ≠ 0 from (by decide)) (aa c0 (aa c0 (aa c0 (aa (bif_t (y := false) c0 c1) (aa (show Ent 53 ⟨[(1, aI (n : Int)), (2, aP 2 0), (4, aP 4 0), (5, aP 5 0), (6, aI (IntKind.i64.wrap ((k : Int) + (1 : Int))))], [(2, .sg 23 [.row .u64 8 (ofN x)]), (4, .sg 23 [.row .u64 8 z8]), (5, .sg 23 [.row .u64 8 ((tb (downF x n k)).set (k : Int).toNat (((ofN x).getD (IntKind.i64.wrap ((k : Int) + (IntKind.i64.wrap ((n : Int).tdiv (64 : Int))))).toNat 0).fdiv (2 ^ (min ((n : Int).tmod (64 : Int)).toNat IntKind.u64.bits))))])]⟩ (downS x n (k + 1) ((k + 1 : Nat) : Int)) from (ent_eqs (.cons rfl (.cons rfl (.cons rfl (.cons rfl (.cons (by rw [next64 (by omega)]) .nil))))) (.cons rfl (.cons rfl (.cons (by rw [down_set1 (wd_top rfl hx) hn hj (by first | exact .inl (rem_zero c0) | exact .inr (of_decide_eq_false (down_next hn hj c1)))]) .nil))))) (kq .n (downS x n (k + 1) ((k + 1 : Nat) : Int)) (.inl ⟨rfl, 8 - (k + 1), by omega, k + 1, by omega, rfl, rfl⟩)))))))))))))))))))) (by kernel_rfl)
    · exact twE (t := (.leaf [.b true, .b false, .b false, .b false, .b false, .b false, .b false, .b false, .cut [1, 2, 4, 5, 6] [2, 4, 5], .chk (downS x n (k + 1) ((k + 1 : Nat) : Int))])) (fun kq => (aa (show (64 : Int) ≠ 0 from (by decide)) (aa (show (decide ((k : Int) < (IntKind.i64.wrap ((8 : Int) - (IntKind.i64.wrap ((n : Int).tdiv (64 : Int))))))) = true from (down_lss hn hj)) (aa (show (64 : Int) ≠ 0 from (by decide)) (aa (show 0 ≤ (IntKind.i64.wrap ((k : Int) + (IntKind.i64.wrap ((n : Int).tdiv (64 : Int))))) ∧ (IntKind.i64.wrap ((k : Int) + (IntKind.i64.wrap ((n : Int).tdiv (64 : Int))))) < (8 : Int) from (by first | omega | (simp only [td_n, tm_n, w64_def, u64_def, w8_def]; omega))) (aa (show (64 : Int) ≠ 0 from (by decide)) (aa (show 0 ≤ ((n : Int).tmod (64 : Int)) from (by first | omega | (simp only [td_n, tm_n, w64_def, u64_def, w8_def]; omega))) (aa (show 0 ≤ (k : Int) ∧ (k : Int) < (8 : Int) from (by first | omega | (simp only [td_n, tm_n, w64_def, u64_def, w8_def]; omega))) (aa (show (64 : Int) ≠ 0 from (by decide)) (aa c0 (aa c0 (aa c0 (aa c0 (aa c0 (aa c0 (aa c0 (aa ff (aa (show Ent 53 ⟨[(1, aI (n : Int)), (2, aP 2 0), (4, aP 4 0), (5, aP 5 0), (6, aI (IntKind.i64.wrap ((k : Int) + (1 : Int))))], [(2, .sg 23 [.row .u64 8 (ofN x)]), (4, .sg 23 [.row .u64 8 z8]), (5, .sg 23 [.row .u64 8 ((tb (downF x n k)).set (k : Int).toNat (((ofN x).getD (IntKind.i64.wrap ((k : Int) + (IntKind.i64.wrap ((n : Int).tdiv (64 : Int))))).toNat 0).fdiv (2 ^ (min ((n : Int).tmod (64 : Int)).toNat IntKind.u64.bits))))])]⟩ (downS x n (k + 1) ((k + 1 : Nat) : Int)) from (ent_eqs (.cons rfl (.cons rfl (.cons rfl (.cons rfl (.cons (by rw [next64 (by omega)]) .nil))))) (.cons rfl (.cons rfl (.cons (by rw [down_set1 (wd_top rfl hx) hn hj (by first | exact .inl (rem_zero c0) | exact .inr (of_decide_eq_false (down_next hn hj c1)))]) .nil))))) (kq .n (downS x n (k + 1) ((k + 1 : Nat) : Int)) (.inl ⟨rfl, 8 - (k + 1), by omega, k + 1, by omega, rfl, rfl⟩)))))))))))))))))))) (by kernel_rfl)

theorem down_ok (x n : Nat) (hx : x < top) (hn : n < 512) : Fn PR 102 [.ag [.row .u64 8 (ofN x)], kI (n : Int)] (aG [.row .u64 8 (ofN (x / 2 ^ n))]) := by
  let S2 : St := ⟨[(4, aP 4 0)], [(4, .sg 23 [.row .u64 8 (ofN (x / 2 ^ n))])]⟩
  exact fwE (t := (.leaf [.cut [1, 2, 4, 5, 6] [2, 4, 5], .chk (downS x n 0 0), .lp (.x 0) (downS x n (8 - n / 64) ((8 - n / 64 : Nat) : Int)), .cut [4] [4], .chk S2])) Try.func102 (fun ke => (aa (show Ent 53 ⟨[(1, aI (n : Int)), (2, aP 2 0), (4, aP 4 0), (5, aP 5 0), (6, aI 0)], [(2, .sg 23 [.row .u64 8 (ofN x)]), (4, .sg 23 [.row .u64 8 z8]), (5, .sg 23 [.row .u64 8 z8])]⟩ (downS x n 0 0) from (ent_eqs (.cons rfl (.cons rfl (.cons rfl (.cons rfl (.cons rfl .nil))))) (.cons rfl (.cons rfl (.cons (by rw [downF_start x n]) .nil))))) (aa (show LoopT PR 53 (lp Try.f102 0) (downS x n 0 0) (.x 0) (downS x n (8 - n / 64) ((8 - n / 64 : Nat) : Int)) from (down_loop hx hn)) (aa (show Ent 53 ⟨[(4, aP 4 0)], [(4, .sg 23 [.row .u64 8 (tb (downF x n (8 - n / 64)))])]⟩ S2 from (ent_eqs (.cons rfl .nil) (.cons (by rw [downF_end rfl hx (by omega)]) .nil))) ke)))) (by kernel_rfl)

def partS (x y : Nat) (i : Int) : St := ⟨[(2, .c (.sc (.p 2 0))), (3, .c (.sc (.p 3 0))), (4, .c (.sc (.p 4 0))), (5, .c (.sc (.p 5 0))), (6, .c (.sc (.v (.int .i64 i))))], [(2, .sg 23 [.row .u64 8 (ofN x)]), (3, .sg 23 [.row .u64 8 (ofN y)]), (4, .sg 23 [.row .u64 8 (ofN (partQ x y i))]), (5, .sg 23 [.row .u64 8 (ofN (partR x y i))])]⟩
theorem part_loop {x y : Nat} (hx : x < top) (hy : y < top) (hy0 : y ≠ 0) {n : Int} (hn : n = (bl x : Int) - (bl y : Int)) : LoopT PR 39 (lp Try.f79 0) (partS x y n) (.x 0) (partS x y (min n (-1))) := by
  refine loop_of (fun m s => ∃ i : Int, i ≤ n ∧ min n (-1) ≤ i ∧ m = (i + 1).toNat ∧ s = partS x y i) (n + 1).toNat ⟨n, by omega, by omega, rfl, rfl⟩ ?_
  rintro m s ⟨i, h1, h2, rfl, rfl⟩
  have hbl := bl_top (e := 8) rfl hx
  have hbp := bl_pos hy0
  rcases Int.lt_or_le i 0 with hi | hi
  · obtain rfl : i = min n (-1) := by omega
    have hi0 : decide (min n (-1) ≥ (0 : Int)) = false := by simp; omega
    exact twE (t := (.leaf [.b false, .cut [2, 3, 4, 5, 6] [2, 3, 4, 5]])) (fun kq => (aa (show (decide ((min n (-1)) ≥ (0 : Int))) = false from hi0) (kq (.x 0) (partS x y (min n (-1))) (.inr ⟨by simp, rfl, rfl⟩)))) (by kernel_rfl)
  · obtain ⟨j, rfl⟩ := Int.eq_ofNat_of_zero_le hi
    have hj : j < 512 := by omega
    have hu := part_up hx hy0 (j := j) (by omega)
    have hj0 : decide ((j : Int) ≥ (0 : Int)) = true := by simp
    rcases Bool.eq_false_or_eq_true (decide ((sg (((y * 2 ^ j % top) : Nat) : Int) (((partR x y (j : Int)) : Nat) : Int)) ≤ (0 : Int))) with c0 | c0
    · have h1 : y * 2 ^ j % top ≤ partR x y (j : Int) := Int.ofNat_le.1 ((sg_le _ _).1 (of_decide_eq_true c0))
      have T0 : (y * 2 ^ j % top) < top := by first | assumption | exact partR_lt hx | exact Nat.mod_lt _ top_pos | (rw [Nat.mod_eq_of_lt hu]; exact hu)
      have T1 : (partR x y (j : Int)) < top := by first | assumption | exact partR_lt hx | exact Nat.mod_lt _ top_pos | (rw [Nat.mod_eq_of_lt hu]; exact hu)
      exact twE (t := (.leaf [.b true, oP 20 (aG [.row .u64 8 (ofN (y * 2 ^ j % top))]), oP 23 (aI (sg (((y * 2 ^ j % top) : Nat) : Int) (((partR x y (j : Int)) : Nat) : Int))), .b true, oP 27 (aG [.row .u64 8 (ofN ((partR x y (j : Int)) - (y * 2 ^ j % top)))]), .cut [2, 3, 4, 5, 6] [2, 3, 4, 5], .chk (partS x y ((j : Int) - 1))])) (fun kq => (aa (show (decide ((j : Int) ≥ (0 : Int))) = true from hj0) (aa (cP Try.f79 4 2 (up_ok y j (by omega))) (aa (cP Try.f79 5 2 (order_ok (y * 2 ^ j % top) (partR x y (j : Int)) T0 T1)) (aa c0 (aa (cP Try.f79 6 2 (minus_ok (partR x y (j : Int)) (y * 2 ^ j % top) T1 T0 (by omega))) (aa (show (64 : Int) ≠ 0 from (by decide)) (aa (show 0 ≤ (IntKind.i64.wrap ((j : Int).tdiv (64 : Int))) ∧ (IntKind.i64.wrap ((j : Int).tdiv (64 : Int))) < (8 : Int) from (by first | omega | (simp only [td_n, tm_n, w64_def, u64_def, w8_def]; omega))) (aa (show (64 : Int) ≠ 0 from (by decide)) (aa (show 0 ≤ ((j : Int).tmod (64 : Int)) from (by first | omega | (simp only [td_n, tm_n, w64_def, u64_def, w8_def]; omega))) (aa (show 0 ≤ (IntKind.i64.wrap ((j : Int).tdiv (64 : Int))) ∧ (IntKind.i64.wrap ((j : Int).tdiv (64 : Int))) < (8 : Int) from (by first | omega | (simp only [td_n, tm_n, w64_def, u64_def, w8_def]; omega))) (aa (show Ent 39 ⟨[(2, aP 2 0), (3, aP 3 0), (4, aP 4 0), (5, aP 5 0), (6, aI (IntKind.i64.wrap ((j : Int) - (1 : Int))))], [(2, .sg 23 [.row .u64 8 (ofN x)]), (3, .sg 23 [.row .u64 8 (ofN y)]), (4, .sg 23 [.row .u64 8 ((ofN (partQ x y (j : Int))).set (IntKind.i64.wrap ((j : Int).tdiv (64 : Int))).toNat (bits .or .u64 ((ofN (partQ x y (j : Int))).getD (IntKind.i64.wrap ((j : Int).tdiv (64 : Int))).toNat 0) (IntKind.u64.wrap ((1 : Int) * (2 ^ (min ((j : Int).tmod (64 : Int)).toNat IntKind.u64.bits))))))]), (5, .sg 23 [.row .u64 8 (ofN ((partR x y (j : Int)) - (y * 2 ^ j % top)))])]⟩ (partS x y ((j : Int) - 1)) from (ent_eqs (.cons rfl (.cons rfl (.cons rfl (.cons rfl (.cons (by rw [w64_of (by omega) (by omega)]) .nil))))) (.cons rfl (.cons rfl (.cons (by rw [part_q1 (by omega) hy0 hu h1]) (.cons (by rw [part_r1 hy0 hu h1]) .nil)))))) (kq .n (partS x y ((j : Int) - 1)) (.inl ⟨rfl, ((j : Int) - 1 + 1).toNat, by omega, _, by omega, by omega, rfl, rfl⟩)))))))))))))) (by kernel_rfl)
    · have h1 : ¬ y * 2 ^ j % top ≤ partR x y (j : Int) := fun h => (of_decide_eq_false c0) ((sg_le _ _).2 (Int.ofNat_le.2 h))
      exact twE (t := (.leaf [.b true, oP 20 (aG [.row .u64 8 (ofN (y * 2 ^ j % top))]), oP 23 (aI (sg (((y * 2 ^ j % top) : Nat) : Int) (((partR x y (j : Int)) : Nat) : Int))), .b false, .cut [2, 3, 4, 5, 6] [2, 3, 4, 5], .chk (partS x y ((j : Int) - 1))])) (fun kq => (aa (show (decide ((j : Int) ≥ (0 : Int))) = true from hj0) (aa (cP Try.f79 4 2 (up_ok y j (by omega))) (aa (cP Try.f79 5 2 (order_ok (y * 2 ^ j % top) (partR x y (j : Int)) (by first | assumption | exact partR_lt hx | exact Nat.mod_lt _ top_pos | (rw [Nat.mod_eq_of_lt hu]; exact hu)) (by first | assumption | exact partR_lt hx | exact Nat.mod_lt _ top_pos | (rw [Nat.mod_eq_of_lt hu]; exact hu)))) (aa c0 (aa (show Ent 39 ⟨[(2, aP 2 0), (3, aP 3 0), (4, aP 4 0), (5, aP 5 0), (6, aI (IntKind.i64.wrap ((j : Int) - (1 : Int))))], [(2, .sg 23 [.row .u64 8 (ofN x)]), (3, .sg 23 [.row .u64 8 (ofN y)]), (4, .sg 23 [.row .u64 8 (ofN (partQ x y (j : Int)))]), (5, .sg 23 [.row .u64 8 (ofN (partR x y (j : Int)))])]⟩ (partS x y ((j : Int) - 1)) from (ent_eqs (.cons rfl (.cons rfl (.cons rfl (.cons rfl (.cons (by rw [w64_of (by omega) (by omega)]) .nil))))) (.cons rfl (.cons rfl (.cons (by rw [part_q0 hy0 hu h1]) (.cons (by rw [part_r0 hy0 hu h1]) .nil)))))) (kq .n (partS x y ((j : Int) - 1)) (.inl ⟨rfl, ((j : Int) - 1 + 1).toNat, by omega, _, by omega, by omega, rfl, rfl⟩)))))))) (by kernel_rfl)

theorem part_ok (x y : Nat) (hx : x < top) (hy : y < top) (hy0 : y ≠ 0) : Fn PR 79 [.ag [.row .u64 8 (ofN x)], .ag [.row .u64 8 (ofN y)]] (.tu [.ag [.row .u64 8 (ofN (x / y))], .ag [.row .u64 8 (ofN (x % y))]]) := by
  let S2 : St := ⟨[(4, aP 4 0), (5, aP 5 0)], [(4, .sg 23 [.row .u64 8 (ofN (x / y))]), (5, .sg 23 [.row .u64 8 (ofN (x % y))])]⟩
  exact fwE (t := (.leaf [oP 10 (aI ((bl x : Nat) : Int)), oP 12 (aI ((bl y : Nat) : Int)), .cut [2, 3, 4, 5, 6] [2, 3, 4, 5], .chk (partS x y ((bl x : Int) - (bl y : Int))), .lp (.x 0) (partS x y (min ((bl x : Int) - (bl y : Int)) (-1))), .cut [4, 5] [4, 5], .chk S2])) Try.func79 (fun ke => (aa (cP Try.f79 2 1 (length_ok x (by first | assumption | omega | exact top_pos | exact Nat.mod_lt _ top_pos | (apply lt_tac; assumption)))) (aa (cP Try.f79 2 3 (length_ok y (by first | assumption | omega | exact top_pos | exact Nat.mod_lt _ top_pos | (apply lt_tac; assumption)))) (aa (show Ent 39 ⟨[(2, aP 2 0), (3, aP 3 0), (4, aP 4 0), (5, aP 5 0), (6, aI (IntKind.i64.wrap (((bl x : Nat) : Int) - ((bl y : Nat) : Int))))], [(2, .sg 23 [.row .u64 8 (ofN x)]), (3, .sg 23 [.row .u64 8 (ofN y)]), (4, .sg 23 [.row .u64 8 z8]), (5, .sg 23 [.row .u64 8 (ofN x)])]⟩ (partS x y ((bl x : Int) - (bl y : Int))) from (ent_eqs (.cons rfl (.cons rfl (.cons rfl (.cons rfl (.cons (by rw [w64_of (by have := bl_top (e := 8) rfl hx; have := bl_top (e := 8) rfl hy; omega) (by have := bl_top (e := 8) rfl hx; have := bl_top (e := 8) rfl hy; omega)]) .nil))))) (.cons rfl (.cons rfl (.cons (by rw [partQ_start hy0 rfl, z8_eq]) (.cons (by rw [partR_start hy0 rfl]) .nil)))))) (aa (show LoopT PR 39 (lp Try.f79 0) (partS x y ((bl x : Int) - (bl y : Int))) (.x 0) (partS x y (min ((bl x : Int) - (bl y : Int)) (-1))) from (part_loop hx hy hy0 rfl)) (aa (show Ent 39 ⟨[(4, aP 4 0), (5, aP 5 0)], [(4, .sg 23 [.row .u64 8 (ofN (partQ x y (min ((bl x : Int) - (bl y : Int)) (-1))))]), (5, .sg 23 [.row .u64 8 (ofN (partR x y (min ((bl x : Int) - (bl y : Int)) (-1))))])]⟩ S2 from (ent_eqs (.cons rfl (.cons rfl .nil)) (.cons (by rw [partQ_end (by omega)]) (.cons (by rw [partR_end (by omega)]) .nil)))) ke)))))) (by kernel_rfl)

theorem div_ok (n m : Bool) (x y : Nat) (hx : x < top) (hy : y < top) (a b : Int) (ha : iz n x = a) (hb : iz m y = b) (hb0 : b ≠ 0) : Fn PR 17 [.ag (nS n x), .ag (nS m y)] (.tu [.ag [.one (.v (.bool (decide (a.tdiv b < 0)))), .row .u64 8 (ofN (a.tdiv b).natAbs)], .ag [.one (.v (.bool (decide (a.tmod b < 0)))), .row .u64 8 (ofN (a.tmod b).natAbs)], .sc (.v .nilIface)]) := by
  have hy0 := y_ne0 hb hb0
  exact fwE (t := (.leaf [.b false, oP 21 (.tu [.ag [.row .u64 8 (ofN (x / y))], .ag [.row .u64 8 (ofN (x % y))]]), oP 30 (aG [.one (.v (.bool (decide (a.tdiv b < 0)))), .row .u64 8 (ofN (a.tdiv b).natAbs)]), oP 34 (aG [.one (.v (.bool (decide (a.tmod b < 0)))), .row .u64 8 (ofN (a.tmod b).natAbs)]), .cut [4, 5, 6] [4, 5]])) Try.func17 (fun ke => (aa (show ((ofN y) == z8) = false from (div_y0 hy hb hb0)) (aa (cP Try.f17 3 4 (part_ok x y (by first | assumption | exact Nat.lt_of_le_of_lt (Nat.div_le_self ..) hx | exact Nat.lt_of_le_of_lt (Nat.mod_le ..) hx) (by first | assumption | exact Nat.lt_of_le_of_lt (Nat.div_le_self ..) hx | exact Nat.lt_of_le_of_lt (Nat.mod_le ..) hx) (by assumption))) (aa (cP Try.f17 4 6 (show Fn PR 80 [kB (!(n == m)), .ag [.row .u64 8 (ofN (x / y))]] (aG [.one (.v (.bool (decide (a.tdiv b < 0)))), .row .u64 8 (ofN (a.tdiv b).natAbs)]) from (made_ok (!(n == m)) (x / y) (by first | assumption | exact Nat.lt_of_le_of_lt (Nat.div_le_self ..) hx | exact Nat.lt_of_le_of_lt (Nat.mod_le ..) hx) _ (div_iz ha hb)))) (aa (cP Try.f17 4 10 (show Fn PR 80 [kB n, .ag [.row .u64 8 (ofN (x % y))]] (aG [.one (.v (.bool (decide (a.tmod b < 0)))), .row .u64 8 (ofN (a.tmod b).natAbs)]) from (made_ok n (x % y) (by first | assumption | exact Nat.lt_of_le_of_lt (Nat.div_le_self ..) hx | exact Nat.lt_of_le_of_lt (Nat.mod_le ..) hx) _ (mod_iz ha hb)))) ke))))) (by kernel_rfl)

theorem div_no (n m : Bool) (x y : Nat) (hx : x < top) (hy : y < top) (a b : Int) (ha : iz n x = a) (hb : iz m y = b) (hb0 : b = 0) : Fn PR 17 [.ag (nS n x), .ag (nS m y)] (.tu [.ag [.one (.v (.bool false)), .row .u64 8 z8], .ag [.one (.v (.bool false)), .row .u64 8 z8], .sc (.v (.iface 104 (.int .i64 10)))]) := by
  exact fwE (t := (.leaf [.b true, .cut [4, 5, 6] [4, 5]])) Try.func17 (fun ke => (aa (show ((ofN y) == z8) = true from (div_y1 hb hb0)) ke)) (by kernel_rfl)

def gcdS (x y : Nat) : St := ⟨[(4, .c (.sc (.p 4 0))), (5, .c (.sc (.p 5 0))), (6, .c (.sc (.p 6 0)))], [(4, .sg 25 [.one (.v (.bool false)), .row .u64 8 z8]), (5, .sg 23 [.row .u64 8 (ofN x)]), (6, .sg 23 [.row .u64 8 (ofN y)])]⟩
theorem gcd_loop {x0 y0 : Nat} (hx0 : x0 < top) (hy0 : y0 < top) : LoopT PR 26 (lp Try.f24 0) (gcdS x0 y0) (.x 0) (gcdS (Nat.gcd x0 y0) 0) := by
  refine loop_of (fun m s => ∃ x y, x < top ∧ y < top ∧ Nat.gcd x y = Nat.gcd x0 y0 ∧ m = y ∧ s = gcdS x y) y0 ⟨x0, y0, hx0, hy0, rfl, rfl, rfl⟩ ?_
  rintro m s ⟨x, y, hx, hy, hg, rfl, rfl⟩
  rcases Nat.eq_zero_or_pos m with he | hl
  · subst he
    rw [← hg, Nat.gcd_zero_right]
    have hb := ofN_beq_z8 hy
    exact twE (t := (.leaf [.b false, .cut [4, 5, 6] [4, 5, 6]])) (fun kq => (aa (not_f (show ((ofN 0) == z8) = true from (by simpa using hb))) (kq (.x 0) (gcdS x 0) (.inr ⟨by simp, rfl, rfl⟩)))) (by kernel_rfl)
  · have hm0 : m ≠ 0 := by omega
    have hb : (ofN m == z8) = false := by rw [ofN_beq_z8 hy]; simpa using hm0
    have hr : x % m < m := Nat.mod_lt _ hl
    exact twE (t := (.leaf [.b true, oP 19 (.tu [.ag [.row .u64 8 (ofN (x / m))], .ag [.row .u64 8 (ofN (x % m))]]), .cut [4, 5, 6] [4, 5, 6], .chk (gcdS m (x % m))])) (fun kq => (aa (not_t (show ((ofN m) == z8) = false from hb)) (aa (cP Try.f24 3 2 (part_ok x m (by assumption) (by assumption) (by assumption))) (aa (show Ent 26 ⟨[(4, aP 4 0), (5, aP 5 0), (6, aP 6 0)], [(4, .sg 25 [.one (.v (.bool false)), .row .u64 8 z8]), (5, .sg 23 [.row .u64 8 (ofN m)]), (6, .sg 23 [.row .u64 8 (ofN (x % m))])]⟩ (gcdS m (x % m)) from (ent_eqs (.cons rfl (.cons rfl (.cons rfl .nil))) (.cons rfl (.cons rfl (.cons rfl .nil))))) (kq .n (gcdS m (x % m)) (.inl ⟨rfl, x % m, hr, m, x % m, hy, by omega, by rw [← hg, Nat.gcd_comm x m, Nat.gcd_rec m x, Nat.gcd_comm], rfl, rfl⟩)))))) (by kernel_rfl)

theorem gcd_ok (n m : Bool) (x y : Nat) (hx : x < top) (hy : y < top) (a b : Int) (ha : iz n x = a) (hb : iz m y = b) : Fn PR 24 [.ag (nS n x), .ag (nS m y)] (aG [.one (.v (.bool (decide (((Int.gcd a b : Nat) : Int) < 0)))), .row .u64 8 (ofN ((Int.gcd a b : Nat) : Int).natAbs)]) := by
  exact fwE (t := (.leaf [.cut [4, 5, 6] [4, 5, 6], .chk (gcdS x y), .lp (.x 0) (gcdS (Nat.gcd x y) 0), oP 25 (aG [.one (.v (.bool (decide (((Int.gcd a b : Nat) : Int) < 0)))), .row .u64 8 (ofN ((Int.gcd a b : Nat) : Int).natAbs)]), .cut [4] [4]])) Try.func24 (fun ke => (aa (show Ent 26 ⟨[(4, aP 4 0), (5, aP 5 0), (6, aP 6 0)], [(4, .sg 25 [.one (.v (.bool false)), .row .u64 8 z8]), (5, .sg 23 [.row .u64 8 (ofN x)]), (6, .sg 23 [.row .u64 8 (ofN y)])]⟩ (gcdS x y) from (ent_eqs (.cons rfl (.cons rfl (.cons rfl .nil))) (.cons rfl (.cons rfl (.cons rfl .nil))))) (aa (show LoopT PR 26 (lp Try.f24 0) (gcdS x y) (.x 0) (gcdS (Nat.gcd x y) 0) from (gcd_loop hx hy)) (aa (cP Try.f24 5 1 (show Fn PR 80 [kB false, .ag [.row .u64 8 (ofN (Nat.gcd x y))]] (aG [.one (.v (.bool (decide (((Int.gcd a b : Nat) : Int) < 0)))), .row .u64 8 (ofN ((Int.gcd a b : Nat) : Int).natAbs)]) from (made_ok false (Nat.gcd x y) (by first | assumption | exact gcd_lt hx hy) _ (gcd_iz ha hb)))) ke)))) (by kernel_rfl)

def moS (n m : Bool) (x y i : Nat) : St := ⟨[(2, .c (.sc (.p 2 0))), (3, .c (.sc (.p 3 0))), (4, .c (.sc (.p 4 0))), (6, .c (.sc (.p 6 0))), (7, .c (.sc (.v (.bool (decide ((mOut x y i).2 = 0)))))), (17, .c (.ag [.row .u64 8 (ofN x)])), (18, .c (.sc (.v (.int .i64 (i : Int)))))], [(2, .sg 25 [.one (.v (.bool n)), .row .u64 8 (ofN x)]), (3, .sg 25 [.one (.v (.bool m)), .row .u64 8 (ofN y)]), (4, .sg 25 [.one (.v (.bool false)), .row .u64 8 z8]), (6, .sg 23 [.row .u64 8 (ofN (mOut x y i).1)])]⟩
def miS (n m : Bool) (x y i k : Nat) : St := ⟨[(2, .c (.sc (.p 2 0))), (3, .c (.sc (.p 3 0))), (4, .c (.sc (.p 4 0))), (6, .c (.sc (.p 6 0))), (7, .c (.sc (.v (.bool (decide ((mI x y i k).2.2 = 0)))))), (8, .c (.sc (.v (.int .i64 (i : Int))))), (9, .c (.sc (.v (.int .u64 ((wd x i : Nat) : Int))))), (10, .c (.sc (.v (.int .u64 (((mI x y i k).2.1 : Nat) : Int))))), (17, .c (.ag [.row .u64 8 (ofN x)])), (18, .c (.sc (.v (.int .i64 (i : Int))))), (23, .c (.ag [.row .u64 8 (ofN y)])), (24, .c (.sc (.v (.int .i64 (k : Int)))))], [(2, .sg 25 [.one (.v (.bool n)), .row .u64 8 (ofN x)]), (3, .sg 25 [.one (.v (.bool m)), .row .u64 8 (ofN y)]), (4, .sg 25 [.one (.v (.bool false)), .row .u64 8 z8]), (6, .sg 23 [.row .u64 8 (ofN (mI x y i k).1)])]⟩
theorem mi_loop (n m : Bool) {x y i : Nat} (hy : y < top) (hi : i < 8) : LoopT PR 94 (lp Try.f18 1) (miS n m x y i 0) (.x 2) (miS n m x y i 8) := by
  refine loop_of (fun q s => ∃ k, k ≤ 8 ∧ q = 8 - k ∧ s = miS n m x y i k) 8 ⟨0, by omega, rfl, rfl⟩ ?_
  rintro q s ⟨k, hk8, rfl, rfl⟩
  have hc := (mI_inv (x := x) (k := k) (e := 8) rfl hy hi hk8).2.1
  have hm : wd x i * wd y k ≤ 18446744073709551615 * 18446744073709551615 := Nat.mul_le_mul (Nat.le_of_lt_succ (wd_lt x i)) (Nat.le_of_lt_succ (wd_lt y k))
  have hwx := wd_lt x i
  have hwy := wd_lt y k
  rcases Nat.lt_or_ge k 8 with hk | hge
  rcases Nat.lt_or_ge (i + k) 8 with hik | hik
  · have hk0 : decide ((k : Int) < (8 : Int)) = true := by simp; omega
    have hik0 : decide ((IntKind.i64.wrap ((i : Int) + (k : Int))) ≥ (8 : Int)) = false := by rw [wadd (by omega)]; simp; omega
    have hgy : (ofN y).getD (k : Int).toNat 0 = ((wd y k : Nat) : Int) := by rw [Int.toNat_natCast, get_ofW hk]
    exact twE (t := (.leaf [.b true, oP 31 (.tu [.sc (.v (.int .u64 (((wd x i : Nat) : Int) * ((ofN y).getD (k : Int).toNat 0) / 18446744073709551616))), .sc (.v (.int .u64 (((wd x i : Nat) : Int) * ((ofN y).getD (k : Int).toNat 0) % 18446744073709551616)))]), .b false, oP 54 (.tu [.sc (.v (.int .u64 (((((wd x i : Nat) : Int) * ((ofN y).getD (k : Int).toNat 0) % 18446744073709551616) + (((mI x y i k).2.1 : Nat) : Int) + (0 : Int)) % 18446744073709551616))), .sc (.v (.int .u64 (((((wd x i : Nat) : Int) * ((ofN y).getD (k : Int).toNat 0) % 18446744073709551616) + (((mI x y i k).2.1 : Nat) : Int) + (0 : Int)) / 18446744073709551616)))]), oP 70 (.tu [.sc (.v (.int .u64 ((((ofN (mI x y i k).1).getD (IntKind.i64.wrap ((i : Int) + (k : Int))).toNat 0) + (((((wd x i : Nat) : Int) * ((ofN y).getD (k : Int).toNat 0) % 18446744073709551616) + (((mI x y i k).2.1 : Nat) : Int) + (0 : Int)) % 18446744073709551616) + (0 : Int)) % 18446744073709551616))), .sc (.v (.int .u64 ((((ofN (mI x y i k).1).getD (IntKind.i64.wrap ((i : Int) + (k : Int))).toNat 0) + (((((wd x i : Nat) : Int) * ((ofN y).getD (k : Int).toNat 0) % 18446744073709551616) + (((mI x y i k).2.1 : Nat) : Int) + (0 : Int)) % 18446744073709551616) + (0 : Int)) / 18446744073709551616)))]), .cut [2, 3, 4, 6, 7, 8, 9, 10, 17, 18, 23, 24] [2, 3, 4, 6], .chk (miS n m x y i (k + 1))])) (fun kq => (aa (show (decide ((k : Int) < (8 : Int))) = true from hk0) (aa (show 0 ≤ (k : Int) ∧ (k : Int) < (8 : Int) from (by first | omega | (simp only [w64_def]; omega))) (aa (cP Try.f18 10 2 (show Fn PR 81 [.sc (.v (.int .u64 ((wd x i : Nat) : Int))), .sc (.v (.int .u64 ((ofN y).getD (k : Int).toNat 0)))] (.tu [.sc (.v (.int .u64 (((wd x i : Nat) : Int) * ((ofN y).getD (k : Int).toNat 0) / 18446744073709551616))), .sc (.v (.int .u64 (((wd x i : Nat) : Int) * ((ofN y).getD (k : Int).toNat 0) % 18446744073709551616)))]) from (mul64_ok ((wd x i : Nat) : Int) ((ofN y).getD (k : Int).toNat 0) (by first | omega | exact get_nonneg _ _) (by first | omega | exact get_lt _ _) (by first | omega | exact get_nonneg _ _) (by first | omega | exact get_lt _ _)))) (aa (show (decide ((IntKind.i64.wrap ((i : Int) + (k : Int))) ≥ (8 : Int))) = false from hik0) (aa (cP Try.f18 15 2 (show Fn PR 82 [.sc (.v (.int .u64 (((wd x i : Nat) : Int) * ((ofN y).getD (k : Int).toNat 0) % 18446744073709551616))), .sc (.v (.int .u64 (((mI x y i k).2.1 : Nat) : Int))), .sc (.v (.int .u64 0))] (.tu [.sc (.v (.int .u64 (((((wd x i : Nat) : Int) * ((ofN y).getD (k : Int).toNat 0) % 18446744073709551616) + (((mI x y i k).2.1 : Nat) : Int) + (0 : Int)) % 18446744073709551616))), .sc (.v (.int .u64 (((((wd x i : Nat) : Int) * ((ofN y).getD (k : Int).toNat 0) % 18446744073709551616) + (((mI x y i k).2.1 : Nat) : Int) + (0 : Int)) / 18446744073709551616)))]) from (add64_ok (by first | omega | exact get_nonneg _ _) (by first | omega | exact get_nonneg _ _) (by omega)))) (aa (show 0 ≤ (IntKind.i64.wrap ((i : Int) + (k : Int))) ∧ (IntKind.i64.wrap ((i : Int) + (k : Int))) < (8 : Int) from (by first | omega | (simp only [w64_def]; omega))) (aa (cP Try.f18 17 9 (show Fn PR 82 [.sc (.v (.int .u64 ((ofN (mI x y i k).1).getD (IntKind.i64.wrap ((i : Int) + (k : Int))).toNat 0))), .sc (.v (.int .u64 (((((wd x i : Nat) : Int) * ((ofN y).getD (k : Int).toNat 0) % 18446744073709551616) + (((mI x y i k).2.1 : Nat) : Int) + (0 : Int)) % 18446744073709551616))), .sc (.v (.int .u64 0))] (.tu [.sc (.v (.int .u64 ((((ofN (mI x y i k).1).getD (IntKind.i64.wrap ((i : Int) + (k : Int))).toNat 0) + (((((wd x i : Nat) : Int) * ((ofN y).getD (k : Int).toNat 0) % 18446744073709551616) + (((mI x y i k).2.1 : Nat) : Int) + (0 : Int)) % 18446744073709551616) + (0 : Int)) % 18446744073709551616))), .sc (.v (.int .u64 ((((ofN (mI x y i k).1).getD (IntKind.i64.wrap ((i : Int) + (k : Int))).toNat 0) + (((((wd x i : Nat) : Int) * ((ofN y).getD (k : Int).toNat 0) % 18446744073709551616) + (((mI x y i k).2.1 : Nat) : Int) + (0 : Int)) % 18446744073709551616) + (0 : Int)) / 18446744073709551616)))]) from (add64_ok (by first | omega | exact get_nonneg _ _) (by first | omega | exact get_nonneg _ _) (by omega)))) (aa (show 0 ≤ (IntKind.i64.wrap ((i : Int) + (k : Int))) ∧ (IntKind.i64.wrap ((i : Int) + (k : Int))) < (8 : Int) from (by first | omega | (simp only [w64_def]; omega))) (aa (show Ent 94 ⟨[(2, aP 2 0), (3, aP 3 0), (4, aP 4 0), (6, aP 6 0), (7, aB (decide ((mI x y i k).2.2 = 0))), (8, aI (i : Int)), (9, .c (.sc (.v (.int .u64 ((wd x i : Nat) : Int))))), (10, .c (.sc (.v (.int .u64 (IntKind.u64.wrap ((IntKind.u64.wrap ((((wd x i : Nat) : Int) * ((ofN y).getD (k : Int).toNat 0) / 18446744073709551616) + (((((wd x i : Nat) : Int) * ((ofN y).getD (k : Int).toNat 0) % 18446744073709551616) + (((mI x y i k).2.1 : Nat) : Int) + (0 : Int)) / 18446744073709551616))) + ((((ofN (mI x y i k).1).getD (IntKind.i64.wrap ((i : Int) + (k : Int))).toNat 0) + (((((wd x i : Nat) : Int) * ((ofN y).getD (k : Int).toNat 0) % 18446744073709551616) + (((mI x y i k).2.1 : Nat) : Int) + (0 : Int)) % 18446744073709551616) + (0 : Int)) / 18446744073709551616))))))), (17, aG [.row .u64 8 (ofN x)]), (18, aI (i : Int)), (23, aG [.row .u64 8 (ofN y)]), (24, aI (IntKind.i64.wrap ((k : Int) + (1 : Int))))], [(2, .sg 25 (nS n x)), (3, .sg 25 (nS m y)), (4, .sg 25 [.one (.v (.bool false)), .row .u64 8 z8]), (6, .sg 23 [.row .u64 8 ((ofN (mI x y i k).1).set (IntKind.i64.wrap ((i : Int) + (k : Int))).toNat ((((ofN (mI x y i k).1).getD (IntKind.i64.wrap ((i : Int) + (k : Int))).toNat 0) + (((((wd x i : Nat) : Int) * ((ofN y).getD (k : Int).toNat 0) % 18446744073709551616) + (((mI x y i k).2.1 : Nat) : Int) + (0 : Int)) % 18446744073709551616) + (0 : Int)) % 18446744073709551616))])]⟩ (miS n m x y i (k + 1)) from (ent_eqs (.cons rfl (.cons rfl (.cons rfl (.cons rfl (.cons (by rw [mI_lo_D hik]) (.cons rfl (.cons rfl (.cons (by rw [mI_lo_c hik, wadd (by omega), Int.toNat_natCast, Int.toNat_natCast, get_ofW hk, get_ofW hik, ← Int.natCast_mul, mul_hi hm hc (wd_lt _ _)]) (.cons rfl (.cons rfl (.cons rfl (.cons (by rw [next64 (by omega)]) .nil)))))))))))) (.cons rfl (.cons rfl (.cons rfl (.cons (by rw [mI_lo_S hik, wadd (by omega), Int.toNat_natCast, Int.toNat_natCast, get_ofW hk, get_ofW hik, ← Int.natCast_mul, mul_lo, set_put hik (Nat.mod_lt _ (by decide))]) .nil)))))) (kq .n (miS n m x y i (k + 1)) (.inl ⟨rfl, 8 - (k + 1), by omega, k + 1, by omega, rfl, rfl⟩)))))))))))) (by kernel_rfl)
  · have hik := Nat.not_lt.2 hik
    have hk0 : decide ((k : Int) < (8 : Int)) = true := by simp; omega
    have hik0 : decide ((IntKind.i64.wrap ((i : Int) + (k : Int))) ≥ (8 : Int)) = true := by rw [wadd (by omega)]; simp; omega
    let S1 : St := ⟨[(2, aP 2 0), (3, aP 3 0), (4, aP 4 0), (6, aP 6 0), (7, aB false), (8, aI (i : Int)), (9, .c (.sc (.v (.int .u64 ((wd x i : Nat) : Int))))), (10, .c (.sc (.v (.int .u64 0)))), (17, aG [.row .u64 8 (ofN x)]), (18, aI (i : Int)), (23, aG [.row .u64 8 (ofN y)]), (24, aI (IntKind.i64.wrap ((k : Int) + (1 : Int))))], [(2, .sg 25 (nS n x)), (3, .sg 25 (nS m y)), (4, .sg 25 [.one (.v (.bool false)), .row .u64 8 z8]), (6, .sg 23 [.row .u64 8 (ofN (mI x y i k).1)])]⟩
    exact twE (t := (.sp [.b true, oP 31 (.tu [.sc (.v (.int .u64 (((wd x i : Nat) : Int) * ((ofN y).getD (k : Int).toNat 0) / 18446744073709551616))), .sc (.v (.int .u64 (((wd x i : Nat) : Int) * ((ofN y).getD (k : Int).toNat 0) % 18446744073709551616)))]), .b true] (decide ((mI x y i k).2.2 = 0)) (.sp [] ((((wd x i : Nat) : Int) * ((ofN y).getD (k : Int).toNat 0) / 18446744073709551616) == (0 : Int)) (.sp [] ((((wd x i : Nat) : Int) * ((ofN y).getD (k : Int).toNat 0) % 18446744073709551616) == (0 : Int)) (.leaf [.b true, .b true, .b true, .b true, .b true, .b true, .cut [2, 3, 4, 6, 7, 8, 9, 10, 17, 18, 23, 24] [2, 3, 4, 6], .chk (miS n m x y i (k + 1))]) (.leaf [.b true, .b true, .b true, .b true, .b false, .b false, .cut [2, 3, 4, 6, 7, 8, 9, 10, 17, 18, 23, 24] [2, 3, 4, 6], .chk (miS n m x y i (k + 1))])) (.leaf [.b true, .b true, .b false, .b false, .b false, .b false, .cut [2, 3, 4, 6, 7, 8, 9, 10, 17, 18, 23, 24] [2, 3, 4, 6], .chk (miS n m x y i (k + 1))])) (.leaf [.b false, .b false, .b false, .b false, .b false, .b false, .cut [2, 3, 4, 6, 7, 8, 9, 10, 17, 18, 23, 24] [2, 3, 4, 6], .chk (miS n m x y i (k + 1))]))) (fun kq => (aa (show (decide ((k : Int) < (8 : Int))) = true from hk0) (aa (show 0 ≤ (k : Int) ∧ (k : Int) < (8 : Int) from (by first | omega | (simp only [w64_def]; omega))) (aa (cP Try.f18 10 2 (show Fn PR 81 [.sc (.v (.int .u64 ((wd x i : Nat) : Int))), .sc (.v (.int .u64 ((ofN y).getD (k : Int).toNat 0)))] (.tu [.sc (.v (.int .u64 (((wd x i : Nat) : Int) * ((ofN y).getD (k : Int).toNat 0) / 18446744073709551616))), .sc (.v (.int .u64 (((wd x i : Nat) : Int) * ((ofN y).getD (k : Int).toNat 0) % 18446744073709551616)))]) from (mul64_ok ((wd x i : Nat) : Int) ((ofN y).getD (k : Int).toNat 0) (by first | omega | exact get_nonneg _ _) (by first | omega | exact get_lt _ _) (by first | omega | exact get_nonneg _ _) (by first | omega | exact get_lt _ _)))) (aa (show (decide ((IntKind.i64.wrap ((i : Int) + (k : Int))) ≥ (8 : Int))) = true from hik0) (sb (decide ((mI x y i k).2.2 = 0)) (fun c0 => (sb ((((wd x i : Nat) : Int) * ((ofN y).getD (k : Int).toNat 0) / 18446744073709551616) == (0 : Int)) (fun c1 => (sb ((((wd x i : Nat) : Int) * ((ofN y).getD (k : Int).toNat 0) % 18446744073709551616) == (0 : Int)) (fun c2 => (aa c0 (aa c0 (aa (bif_t (y := false) c0 c1) (aa (bif_t (y := false) c0 c1) (aa (bif_t (y := false) (bif_t (y := false) c0 c1) c2) (aa (bif_t (y := false) (bif_t (y := false) c0 c1) c2) (aa (show Ent 94 ⟨[(2, aP 2 0), (3, aP 3 0), (4, aP 4 0), (6, aP 6 0), (7, aB (bif (bif (bif (decide ((mI x y i k).2.2 = 0)) then ((((wd x i : Nat) : Int) * ((ofN y).getD (k : Int).toNat 0) / 18446744073709551616) == (0 : Int)) else false) then ((((wd x i : Nat) : Int) * ((ofN y).getD (k : Int).toNat 0) % 18446744073709551616) == (0 : Int)) else false) then ((((mI x y i k).2.1 : Nat) : Int) == (0 : Int)) else false)), (8, aI (i : Int)), (9, .c (.sc (.v (.int .u64 ((wd x i : Nat) : Int))))), (10, .c (.sc (.v (.int .u64 0)))), (17, aG [.row .u64 8 (ofN x)]), (18, aI (i : Int)), (23, aG [.row .u64 8 (ofN y)]), (24, aI (IntKind.i64.wrap ((k : Int) + (1 : Int))))], [(2, .sg 25 (nS n x)), (3, .sg 25 (nS m y)), (4, .sg 25 [.one (.v (.bool false)), .row .u64 8 z8]), (6, .sg 23 [.row .u64 8 (ofN (mI x y i k).1)])]⟩ (miS n m x y i (k + 1)) from (ent_eqs (.cons rfl (.cons rfl (.cons rfl (.cons rfl (.cons (by rw [mul_okhi hik]; simp only [Int.toNat_natCast, get_ofW hk, Int.natCast_mul] at *; simp [*]) (.cons rfl (.cons rfl (.cons (by rw [mI_hi_c hik]; try rfl) (.cons rfl (.cons rfl (.cons rfl (.cons (by rw [next64 (by omega)]) .nil)))))))))))) (.cons rfl (.cons rfl (.cons rfl (.cons (by rw [mI_hi_S hik]) .nil)))))) (kq .n (miS n m x y i (k + 1)) (.inl ⟨rfl, 8 - (k + 1), by omega, k + 1, by omega, rfl, rfl⟩)))))))))) (fun c2 => (aa c0 (aa c0 (aa (bif_t (y := false) c0 c1) (aa (bif_t (y := false) c0 c1) (aa (bif_t (y := false) (bif_t (y := false) c0 c1) c2) (aa (bif_t (y := false) (bif_t (y := false) c0 c1) c2) (aa (bif_t (y := false) (bif_t (y := false) c0 c1) c2) (aa (show Ent 94 S1 (miS n m x y i (k + 1)) from (ent_eqs (.cons rfl (.cons rfl (.cons rfl (.cons rfl (.cons (by rw [mul_okhi hik]; simp only [Int.toNat_natCast, get_ofW hk, Int.natCast_mul] at *; simp [*]) (.cons rfl (.cons rfl (.cons (by rw [mI_hi_c hik]; try rfl) (.cons rfl (.cons rfl (.cons rfl (.cons (by rw [next64 (by omega)]) .nil)))))))))))) (.cons rfl (.cons rfl (.cons rfl (.cons (by rw [mI_hi_S hik]) .nil)))))) (kq .n (miS n m x y i (k + 1)) (.inl ⟨rfl, 8 - (k + 1), by omega, k + 1, by omega, rfl, rfl⟩))))))))))))) (fun c1 => (aa c0 (aa c0 (aa (bif_t (y := false) c0 c1) (aa (bif_t (y := false) c0 c1) (aa (bif_t (y := false) c0 c1) (aa ff (aa ff (aa ff (aa (show Ent 94 S1 (miS n m x y i (k + 1)) from (ent_eqs (.cons rfl (.cons rfl (.cons rfl (.cons rfl (.cons (by rw [mul_okhi hik]; simp only [Int.toNat_natCast, get_ofW hk, Int.natCast_mul] at *; simp [*]) (.cons rfl (.cons rfl (.cons (by rw [mI_hi_c hik]; try rfl) (.cons rfl (.cons rfl (.cons rfl (.cons (by rw [next64 (by omega)]) .nil)))))))))))) (.cons rfl (.cons rfl (.cons rfl (.cons (by rw [mI_hi_S hik]) .nil)))))) (kq .n (miS n m x y i (k + 1)) (.inl ⟨rfl, 8 - (k + 1), by omega, k + 1, by omega, rfl, rfl⟩)))))))))))))) (fun c0 => (aa c0 (aa c0 (aa c0 (aa ff (aa ff (aa ff (aa ff (aa ff (aa ff (aa (show Ent 94 S1 (miS n m x y i (k + 1)) from (ent_eqs (.cons rfl (.cons rfl (.cons rfl (.cons rfl (.cons (by rw [mul_okhi hik]; simp only [Int.toNat_natCast, get_ofW hk, Int.natCast_mul] at *; simp [*]) (.cons rfl (.cons rfl (.cons (by rw [mI_hi_c hik]; try rfl) (.cons rfl (.cons rfl (.cons rfl (.cons (by rw [next64 (by omega)]) .nil)))))))))))) (.cons rfl (.cons rfl (.cons rfl (.cons (by rw [mI_hi_S hik]) .nil)))))) (kq .n (miS n m x y i (k + 1)) (.inl ⟨rfl, 8 - (k + 1), by omega, k + 1, by omega, rfl, rfl⟩))))))))))))))))))) (by kernel_rfl)
  · obtain rfl : k = 8 := by omega
    exact twE (t := (.leaf [.b false, .cut [2, 3, 4, 6, 7, 8, 9, 10, 17, 18, 23, 24] [2, 3, 4, 6]])) (fun kq => (aa ff (kq (.x 2) (miS n m x y i 8) (.inr ⟨by simp, rfl, rfl⟩)))) (by kernel_rfl)

theorem mo_loop (n m : Bool) {x y : Nat} (hy : y < top) : LoopT PR 94 (lp Try.f18 0) (moS n m x y 0) (.x 0) (moS n m x y 8) := by
  refine loop_of (fun q s => ∃ i, i ≤ 8 ∧ q = 8 - i ∧ s = moS n m x y i) 8 ⟨0, by omega, rfl, rfl⟩ ?_
  rintro q s ⟨i, hk8, rfl, rfl⟩
  rcases Nat.lt_or_ge i 8 with hlt | hge
  · have hk0 : decide ((i : Int) < (8 : Int)) = true := by simp; omega
    exact twE (t := (.sp [.b true, .cut [2, 3, 4, 6, 7, 8, 9, 10, 17, 18, 23, 24] [2, 3, 4, 6], .chk (miS n m x y i 0), .lp (.x 2) (miS n m x y i 8)] (decide ((mI x y i 8).2.2 = 0)) (.leaf [.b true, .b true, .cut [2, 3, 4, 6, 7, 17, 18] [2, 3, 4, 6], .chk (moS n m x y (i + 1))]) (.leaf [.b false, .b false, .cut [2, 3, 4, 6, 7, 17, 18] [2, 3, 4, 6], .chk (moS n m x y (i + 1))]))) (fun kq => (aa (show (decide ((i : Int) < (8 : Int))) = true from hk0) (aa (show 0 ≤ (i : Int) ∧ (i : Int) < (8 : Int) from (by first | omega | (simp only [w64_def]; omega))) (aa (show Ent 94 ⟨[(2, aP 2 0), (3, aP 3 0), (4, aP 4 0), (6, aP 6 0), (7, aB (decide ((mOut x y i).2 = 0))), (8, aI (i : Int)), (9, .c (.sc (.v (.int .u64 ((ofN x).getD (i : Int).toNat 0))))), (10, .c (.sc (.v (.int .u64 0)))), (17, aG [.row .u64 8 (ofN x)]), (18, aI (i : Int)), (23, aG [.row .u64 8 (ofN y)]), (24, aI 0)], [(2, .sg 25 (nS n x)), (3, .sg 25 (nS m y)), (4, .sg 25 [.one (.v (.bool false)), .row .u64 8 z8]), (6, .sg 23 [.row .u64 8 (ofN (mOut x y i).1)])]⟩ (miS n m x y i 0) from (ent_eqs (.cons rfl (.cons rfl (.cons rfl (.cons rfl (.cons (rfl) (.cons rfl (.cons (by rw [Int.toNat_natCast, get_ofW hlt]) (.cons (rfl) (.cons rfl (.cons rfl (.cons rfl (.cons rfl .nil)))))))))))) (.cons rfl (.cons rfl (.cons rfl (.cons (rfl) .nil)))))) (aa (show LoopT PR 94 (lp Try.f18 1) (miS n m x y i 0) (.x 2) (miS n m x y i 8) from (mi_loop n m hy hlt)) (sb (decide ((mI x y i 8).2.2 = 0)) (fun c0 => (aa c0 (aa c0 (aa (show Ent 94 ⟨[(2, aP 2 0), (3, aP 3 0), (4, aP 4 0), (6, aP 6 0), (7, aB (bif (decide ((mI x y i 8).2.2 = 0)) then ((((mI x y i 8).2.1 : Nat) : Int) == (0 : Int)) else false)), (17, aG [.row .u64 8 (ofN x)]), (18, aI (IntKind.i64.wrap ((i : Int) + (1 : Int))))], [(2, .sg 25 (nS n x)), (3, .sg 25 (nS m y)), (4, .sg 25 [.one (.v (.bool false)), .row .u64 8 z8]), (6, .sg 23 [.row .u64 8 (ofN (mI x y i 8).1)])]⟩ (moS n m x y (i + 1)) from (ent_eqs (.cons rfl (.cons rfl (.cons rfl (.cons rfl (.cons (by rw [mul_okout]; simp [*]) (.cons rfl (.cons (by rw [next64 (by omega)]) .nil))))))) (.cons rfl (.cons rfl (.cons rfl (.cons (rfl) .nil)))))) (kq .n (moS n m x y (i + 1)) (.inl ⟨rfl, 8 - (i + 1), by omega, i + 1, by omega, rfl, rfl⟩)))))) (fun c0 => (aa c0 (aa c0 (aa c0 (aa (show Ent 94 ⟨[(2, aP 2 0), (3, aP 3 0), (4, aP 4 0), (6, aP 6 0), (7, aB false), (17, aG [.row .u64 8 (ofN x)]), (18, aI (IntKind.i64.wrap ((i : Int) + (1 : Int))))], [(2, .sg 25 (nS n x)), (3, .sg 25 (nS m y)), (4, .sg 25 [.one (.v (.bool false)), .row .u64 8 z8]), (6, .sg 23 [.row .u64 8 (ofN (mI x y i 8).1)])]⟩ (moS n m x y (i + 1)) from (ent_eqs (.cons rfl (.cons rfl (.cons rfl (.cons rfl (.cons (by rw [mul_okout]; simp [*]) (.cons rfl (.cons (by rw [next64 (by omega)]) .nil))))))) (.cons rfl (.cons rfl (.cons rfl (.cons (rfl) .nil)))))) (kq .n (moS n m x y (i + 1)) (.inl ⟨rfl, 8 - (i + 1), by omega, i + 1, by omega, rfl, rfl⟩))))))))))))) (by kernel_rfl)
  · obtain rfl : i = 8 := by omega
    exact twE (t := (.leaf [.b false, .cut [2, 3, 4, 6, 7, 17, 18] [2, 3, 4, 6]])) (fun kq => (aa ff (kq (.x 0) (moS n m x y 8) (.inr ⟨by simp, rfl, rfl⟩)))) (by kernel_rfl)

theorem mul_ok (n m : Bool) (x y : Nat) (hx : x < top) (hy : y < top) (a b : Int) (ha : iz n x = a) (hb : iz m y = b) (hab : (a * b).natAbs < top) : Fn PR 18 [.ag (nS n x), .ag (nS m y)] (.tu [.ag [.one (.v (.bool (decide (a * b < 0)))), .row .u64 8 (ofN (a * b).natAbs)], .sc (.v .nilIface)]) := by
  exact fwE (t := (.leaf [.cut [2, 3, 4, 6, 7, 17, 18] [2, 3, 4, 6], .chk (moS n m x y 0), .lp (.x 0) (moS n m x y 8), oP 91 (.tu [.ag [.one (.v (.bool (decide (a * b < 0)))), .row .u64 8 (ofN (a * b).natAbs)], .sc (.v .nilIface)]), .cut [4, 5] [4]])) Try.func18 (fun ke => (aa (show Ent 94 ⟨[(2, aP 2 0), (3, aP 3 0), (4, aP 4 0), (6, aP 6 0), (7, aB true), (17, aG [.row .u64 8 (ofN x)]), (18, aI 0)], [(2, .sg 25 (nS n x)), (3, .sg 25 (nS m y)), (4, .sg 25 [.one (.v (.bool false)), .row .u64 8 z8]), (6, .sg 23 [.row .u64 8 z8])]⟩ (moS n m x y 0) from (ent_eqs (.cons rfl (.cons rfl (.cons rfl (.cons rfl (.cons (rfl) (.cons rfl (.cons rfl .nil))))))) (.cons rfl (.cons rfl (.cons rfl (.cons (by rw [z8_eq]; try rfl) .nil)))))) (aa (show LoopT PR 94 (lp Try.f18 0) (moS n m x y 0) (.x 0) (moS n m x y 8) from (mo_loop n m hy)) (aa (cP Try.f18 22 7 (show Fn PR 83 [kB (!(n == m)), .ag [.row .u64 8 (ofN (mOut x y 8).1)], kB (decide ((mOut x y 8).2 = 0))] (.tu [.ag [.one (.v (.bool (decide (a * b < 0)))), .row .u64 8 (ofN (a * b).natAbs)], .sc (.v .nilIface)]) from (fit_ok (!(n == m)) (decide ((mOut x y 8).2 = 0)) ((mOut x y 8).1) (by first | assumption | (rw [(mOut_inv (e := 8) rfl hx hy).1]; exact Nat.mod_lt _ top_pos)) _ (mul_iz ha hb hx hy hab) (show (decide ((mOut x y 8).2 = 0)) = true from (decide_eq_true (mul_fits ha hb hx hy hab)))))) ke)))) (by kernel_rfl)

theorem mul_no (n m : Bool) (x y : Nat) (hx : x < top) (hy : y < top) (a b : Int) (ha : iz n x = a) (hb : iz m y = b) (hab : ¬ (a * b).natAbs < top) : Fn PR 18 [.ag (nS n x), .ag (nS m y)] (.tu [.ag [.one (.v (.bool false)), .row .u64 8 z8], .sc (.v (.iface 104 (.int .i64 9)))]) := by
  exact fwE (t := (.leaf [.cut [2, 3, 4, 6, 7, 17, 18] [2, 3, 4, 6], .chk (moS n m x y 0), .lp (.x 0) (moS n m x y 8), oP 91 (.tu [.ag [.one (.v (.bool false)), .row .u64 8 z8], .sc (.v (.iface 104 (.int .i64 9)))]), .cut [4, 5] [4]])) Try.func18 (fun ke => (aa (show Ent 94 ⟨[(2, aP 2 0), (3, aP 3 0), (4, aP 4 0), (6, aP 6 0), (7, aB true), (17, aG [.row .u64 8 (ofN x)]), (18, aI 0)], [(2, .sg 25 (nS n x)), (3, .sg 25 (nS m y)), (4, .sg 25 [.one (.v (.bool false)), .row .u64 8 z8]), (6, .sg 23 [.row .u64 8 z8])]⟩ (moS n m x y 0) from (ent_eqs (.cons rfl (.cons rfl (.cons rfl (.cons rfl (.cons (rfl) (.cons rfl (.cons rfl .nil))))))) (.cons rfl (.cons rfl (.cons rfl (.cons (by rw [z8_eq]; try rfl) .nil)))))) (aa (show LoopT PR 94 (lp Try.f18 0) (moS n m x y 0) (.x 0) (moS n m x y 8) from (mo_loop n m hy)) (aa (cP Try.f18 22 7 (fit_no (!(n == m)) (decide ((mOut x y 8).2 = 0)) ((mOut x y 8).1) (show (decide ((mOut x y 8).2 = 0)) = false from (decide_eq_false (mul_fits_no ha hb hx hy hab))))) ke)))) (by kernel_rfl)

end Go.Proofs.Ytbbakacfhajohaa.Av
namespace Go.Proofs.Ytbbakacfhajohaa.Av
set_option linter.unusedVariables false
set_option linter.unusedSimpArgs false
set_option maxRecDepth 20000
set_option maxHeartbeats 1000000

theorem lz10_ok  : Fn PR 145 [.sc (.v (.int .u64 10))] (aI 60) := by
  let S1 : St := ⟨[(2, aI 60)], []⟩
  exact fwE (t := (.leaf [oP 4 (aI ((bl (10 : Int).toNat : Nat) : Int)), .cut [2] [], .chk S1])) Try.func145 (fun ke => (aa (cP Try.f145 1 1 (len64_ok (10 : Int) (by first | omega | exact get_nonneg _ _) (by first | omega | exact get_lt _ _))) (aa (show Ent 6 ⟨[(2, aI (IntKind.i64.wrap ((64 : Int) - ((bl (10 : Int).toNat : Nat) : Int))))], []⟩ S1 from (ent_eqs (.cons (by rw [bl10]; try rfl) .nil) .nil)) ke))) (by kernel_rfl)

def dv0S (u u1 : Int) : St := ⟨[(2, .c (.sc (.v (.int .u64 11529215046068469760)))), (8, .c (.sc (.v (.int .u64 60)))), (9, .c (.sc (.v (.int .u64 2684354560)))), (10, .c (.sc (.v (.int .u64 0)))), (11, .c (.sc (.v (.int .u64 u)))), (13, .c (.sc (.v (.int .u64 u1)))), (14, .c (.sc (.v (.int .u64 0)))), (15, .c (.sc (.v (.int .u64 (u / 2684354560))))), (16, .c (.sc (.v (.int .u64 (u % 2684354560)))))], []⟩
def dv1S (u v : Int) : St := ⟨[(2, .c (.sc (.v (.int .u64 11529215046068469760)))), (8, .c (.sc (.v (.int .u64 60)))), (9, .c (.sc (.v (.int .u64 2684354560)))), (10, .c (.sc (.v (.int .u64 0)))), (14, .c (.sc (.v (.int .u64 0)))), (15, .c (.sc (.v (.int .u64 (u / 2684354560))))), (17, .c (.sc (.v (.int .u64 v)))), (18, .c (.sc (.v (.int .u64 (v / 2684354560))))), (16, .c (.sc (.v (.int .u64 (v % 2684354560)))))], []⟩
theorem dv0S_loop {u u1 : Int} (h0 : 0 ≤ u) (h1 : u < 11529215046068469760) (g0 : 0 ≤ u1) (g1 : u1 < 4294967296) : LoopT PR 135 (lp Try.f136 0) (dv0S u u1) (.x 0) (dv0S u u1) := by
  refine loop_of (fun q s => s = dv0S u u1) 0 rfl ?_
  rintro q s rfl
  · exact twE (t := (.leaf [.b false, .b false, .b false, .b false, .b false, .b false, .b false, .b false, .b false, .cut [2, 8, 9, 10, 11, 13, 14, 15, 16] []])) (fun kq => (aa (show (decide ((u / 2684354560) ≥ (4294967296 : Int))) = false from (dv_c h0 h1)) (aa (show (decide ((u / 2684354560) ≥ (4294967296 : Int))) = false from (dv_c h0 h1)) (aa (show (decide ((u / 2684354560) ≥ (4294967296 : Int))) = false from (dv_c h0 h1)) (aa (show (decide ((u / 2684354560) ≥ (4294967296 : Int))) = false from (dv_c h0 h1)) (aa (show (decide ((u / 2684354560) ≥ (4294967296 : Int))) = false from (dv_c h0 h1)) (aa (show (decide ((u / 2684354560) ≥ (4294967296 : Int))) = false from (dv_c h0 h1)) (aa (show (decide ((u / 2684354560) ≥ (4294967296 : Int))) = false from (dv_c h0 h1)) (aa (show (decide ((u / 2684354560) ≥ (4294967296 : Int))) = false from (dv_c h0 h1)) (aa (bif_f (x := true) (show (decide ((u / 2684354560) ≥ (4294967296 : Int))) = false from (dv_c h0 h1)) (show (decide ((IntKind.u64.wrap ((u / 2684354560) * (0 : Int))) > (IntKind.u64.wrap ((IntKind.u64.wrap ((4294967296 : Int) * (u % 2684354560))) + u1)))) = false from (dv_d g0 g1))) (kq (.x 0) (dv0S u u1) (.inr ⟨by simp, rfl, rfl⟩)))))))))))) (by kernel_rfl)

theorem dv1S_loop {u v : Int} (h0 : 0 ≤ v) (h1 : v < 11529215046068469760) : LoopT PR 135 (lp Try.f136 1) (dv1S u v) (.x 2) (dv1S u v) := by
  refine loop_of (fun q s => s = dv1S u v) 0 rfl ?_
  rintro q s rfl
  · exact twE (t := (.leaf [.b false, .b false, .b false, .b false, .b false, .b false, .b false, .b false, .b false, .cut [2, 8, 9, 10, 14, 15, 17, 18, 16] []])) (fun kq => (aa (show (decide ((v / 2684354560) ≥ (4294967296 : Int))) = false from (dv_c h0 h1)) (aa (show (decide ((v / 2684354560) ≥ (4294967296 : Int))) = false from (dv_c h0 h1)) (aa (show (decide ((v / 2684354560) ≥ (4294967296 : Int))) = false from (dv_c h0 h1)) (aa (show (decide ((v / 2684354560) ≥ (4294967296 : Int))) = false from (dv_c h0 h1)) (aa (show (decide ((v / 2684354560) ≥ (4294967296 : Int))) = false from (dv_c h0 h1)) (aa (show (decide ((v / 2684354560) ≥ (4294967296 : Int))) = false from (dv_c h0 h1)) (aa (show (decide ((v / 2684354560) ≥ (4294967296 : Int))) = false from (dv_c h0 h1)) (aa (show (decide ((v / 2684354560) ≥ (4294967296 : Int))) = false from (dv_c h0 h1)) (aa (bif_f (x := true) (show (decide ((v / 2684354560) ≥ (4294967296 : Int))) = false from (dv_c h0 h1)) (show (decide ((IntKind.u64.wrap ((v / 2684354560) * (0 : Int))) > (IntKind.u64.wrap ((IntKind.u64.wrap ((4294967296 : Int) * (v % 2684354560))) + (0 : Int))))) = false from (dv_d (Int.le_refl _) (by decide)))) (kq (.x 2) (dv1S u v) (.inr ⟨by simp, rfl, rfl⟩)))))))))))) (by kernel_rfl)

theorem div10_ok (h l : Int) (h0 : 0 ≤ h) (h1 : h < 10) (l0 : 0 ≤ l) (l1 : l < 18446744073709551616) : Fn PR 136 [.sc (.v (.int .u64 h)), .sc (.v (.int .u64 l)), .sc (.v (.int .u64 10))] (.tu [.sc (.v (.int .u64 ((h * 18446744073709551616 + l) / 10))), .sc (.v (.int .u64 ((h * 18446744073709551616 + l) % 10)))]) := by
  rcases Bool.eq_false_or_eq_true (h == (0 : Int)) with c0 | c0
  · let S0 : St := ⟨[(6, .c (.sc (.v (.int .u64 ((h * 18446744073709551616 + l) / 10))))), (7, .c (.sc (.v (.int .u64 ((h * 18446744073709551616 + l) % 10)))))], []⟩
    exact fwE (t := (.leaf [.b false, .b false, .b true, .cut [6, 7] [], .chk S0])) Try.func136 (fun ke => (aa ff (aa (show (decide ((10 : Int) ≤ h)) = false from (decide_eq_false (by omega))) (aa c0 (aa (show (10 : Int) ≠ 0 from (by decide)) (aa (show (10 : Int) ≠ 0 from (by decide)) (aa (show Ent 135 ⟨[(6, .c (.sc (.v (.int .u64 (IntKind.u64.wrap (l.tdiv (10 : Int))))))), (7, .c (.sc (.v (.int .u64 (l.tmod (10 : Int))))))], []⟩ S0 from (ent_eqs (.cons (by rw [Int.tdiv_eq_ediv_of_nonneg l0, u64_def, eq_of_beq c0]; congr 5; omega) (.cons (by rw [Int.tmod_eq_emod_of_nonneg l0, eq_of_beq c0]; congr 5; omega) .nil)) .nil)) ke))))))) (by kernel_rfl)
  · have hr := dv_res h0 h1 l0 l1 (rfl : (h * 1152921504606846976 + l / 16) = _) (rfl : ((h * 1152921504606846976 + l / 16) % 2684354560 * 4294967296 + (l % 16 * 268435456)) = _)
    let S3 : St := ⟨[(6, .c (.sc (.v (.int .u64 ((h * 18446744073709551616 + l) / 10))))), (7, .c (.sc (.v (.int .u64 ((h * 18446744073709551616 + l) % 10)))))], []⟩
    exact fwE (t := (.leaf [.b false, .b false, .b false, oP 35 (aI 60), .cut [2, 8, 9, 10, 11, 13, 14, 15, 16] [], .chk (dv0S (h * 1152921504606846976 + l / 16) (l % 16 * 268435456)), .lp (.x 0) (dv0S (h * 1152921504606846976 + l / 16) (l % 16 * 268435456)), .cut [2, 8, 9, 10, 14, 15, 17, 18, 16] [], .chk (dv1S (h * 1152921504606846976 + l / 16) ((h * 1152921504606846976 + l / 16) % 2684354560 * 4294967296 + (l % 16 * 268435456))), .lp (.x 2) (dv1S (h * 1152921504606846976 + l / 16) ((h * 1152921504606846976 + l / 16) % 2684354560 * 4294967296 + (l % 16 * 268435456))), .cut [6, 7] [], .chk S3])) Try.func136 (fun ke => (aa ff (aa (show (decide ((10 : Int) ≤ h)) = false from (decide_eq_false (by omega))) (aa c0 (aa (cP Try.f136 7 1 lz10_ok) (aa (show 0 ≤ (60 : Int) from (by decide)) (aa (show 0 ≤ (32 : Int) from (by decide)) (aa (show 0 ≤ (60 : Int) from (by decide)) (aa (show 0 ≤ (4 : Int) from (by decide)) (aa (show 0 ≤ (60 : Int) from (by decide)) (aa (show 0 ≤ (32 : Int) from (by decide)) (aa (show (2684354560 : Int) ≠ 0 from (by decide)) (aa (show Ent 135 ⟨[(2, .c (.sc (.v (.int .u64 11529215046068469760)))), (8, .c (.sc (.v (.int .u64 60)))), (9, .c (.sc (.v (.int .u64 2684354560)))), (10, .c (.sc (.v (.int .u64 (bits .and .u64 (11529215046068469760 : Int) (4294967295 : Int)))))), (11, .c (.sc (.v (.int .u64 (bits .or .u64 (IntKind.u64.wrap (h * (1152921504606846976 : Int))) (l.fdiv (16 : Int))))))), (13, .c (.sc (.v (.int .u64 ((IntKind.u64.wrap (l * (1152921504606846976 : Int))).fdiv (4294967296 : Int)))))), (14, .c (.sc (.v (.int .u64 (bits .and .u64 (IntKind.u64.wrap (l * (1152921504606846976 : Int))) (4294967295 : Int)))))), (15, .c (.sc (.v (.int .u64 (IntKind.u64.wrap ((bits .or .u64 (IntKind.u64.wrap (h * (1152921504606846976 : Int))) (l.fdiv (16 : Int))).tdiv (2684354560 : Int))))))), (16, .c (.sc (.v (.int .u64 (IntKind.u64.wrap ((bits .or .u64 (IntKind.u64.wrap (h * (1152921504606846976 : Int))) (l.fdiv (16 : Int))) - (IntKind.u64.wrap ((IntKind.u64.wrap ((bits .or .u64 (IntKind.u64.wrap (h * (1152921504606846976 : Int))) (l.fdiv (16 : Int))).tdiv (2684354560 : Int))) * (2684354560 : Int)))))))))], []⟩ (dv0S (h * 1152921504606846976 + l / 16) (l % 16 * 268435456)) from (ent_eqs (.cons rfl (.cons rfl (.cons rfl (.cons (by simp only [dv_u h0 h1 l0 l1, dv_u1 l0 l1, dv_u0 l0 l1, dv_y0, dv_q hr.1 hr.2.1, dv_r hr.1 hr.2.1]) (.cons (by simp only [dv_u h0 h1 l0 l1, dv_u1 l0 l1, dv_u0 l0 l1, dv_y0, dv_q hr.1 hr.2.1, dv_r hr.1 hr.2.1]) (.cons (by simp only [dv_u h0 h1 l0 l1, dv_u1 l0 l1, dv_u0 l0 l1, dv_y0, dv_q hr.1 hr.2.1, dv_r hr.1 hr.2.1]) (.cons (by simp only [dv_u h0 h1 l0 l1, dv_u1 l0 l1, dv_u0 l0 l1, dv_y0, dv_q hr.1 hr.2.1, dv_r hr.1 hr.2.1]) (.cons (by simp only [dv_u h0 h1 l0 l1, dv_u1 l0 l1, dv_u0 l0 l1, dv_y0, dv_q hr.1 hr.2.1, dv_r hr.1 hr.2.1]) (.cons (by simp only [dv_u h0 h1 l0 l1, dv_u1 l0 l1, dv_u0 l0 l1, dv_y0, dv_q hr.1 hr.2.1, dv_r hr.1 hr.2.1]) .nil))))))))) .nil)) (aa (show LoopT PR 135 (lp Try.f136 0) (dv0S (h * 1152921504606846976 + l / 16) (l % 16 * 268435456)) (.x 0) (dv0S (h * 1152921504606846976 + l / 16) (l % 16 * 268435456)) from (dv0S_loop hr.1 hr.2.1 hr.2.2.1 hr.2.2.2.1)) (aa (show (2684354560 : Int) ≠ 0 from (by decide)) (aa (show Ent 135 ⟨[(2, .c (.sc (.v (.int .u64 11529215046068469760)))), (8, .c (.sc (.v (.int .u64 60)))), (9, .c (.sc (.v (.int .u64 2684354560)))), (10, .c (.sc (.v (.int .u64 0)))), (14, .c (.sc (.v (.int .u64 0)))), (15, .c (.sc (.v (.int .u64 ((h * 1152921504606846976 + l / 16) / 2684354560))))), (17, .c (.sc (.v (.int .u64 (IntKind.u64.wrap ((IntKind.u64.wrap ((IntKind.u64.wrap ((h * 1152921504606846976 + l / 16) * (4294967296 : Int))) + (l % 16 * 268435456))) - (IntKind.u64.wrap (((h * 1152921504606846976 + l / 16) / 2684354560) * (11529215046068469760 : Int))))))))), (18, .c (.sc (.v (.int .u64 (IntKind.u64.wrap ((IntKind.u64.wrap ((IntKind.u64.wrap ((IntKind.u64.wrap ((h * 1152921504606846976 + l / 16) * (4294967296 : Int))) + (l % 16 * 268435456))) - (IntKind.u64.wrap (((h * 1152921504606846976 + l / 16) / 2684354560) * (11529215046068469760 : Int))))).tdiv (2684354560 : Int))))))), (16, .c (.sc (.v (.int .u64 (IntKind.u64.wrap ((IntKind.u64.wrap ((IntKind.u64.wrap ((IntKind.u64.wrap ((h * 1152921504606846976 + l / 16) * (4294967296 : Int))) + (l % 16 * 268435456))) - (IntKind.u64.wrap (((h * 1152921504606846976 + l / 16) / 2684354560) * (11529215046068469760 : Int))))) - (IntKind.u64.wrap ((IntKind.u64.wrap ((IntKind.u64.wrap ((IntKind.u64.wrap ((IntKind.u64.wrap ((h * 1152921504606846976 + l / 16) * (4294967296 : Int))) + (l % 16 * 268435456))) - (IntKind.u64.wrap (((h * 1152921504606846976 + l / 16) / 2684354560) * (11529215046068469760 : Int))))).tdiv (2684354560 : Int))) * (2684354560 : Int)))))))))], []⟩ (dv1S (h * 1152921504606846976 + l / 16) ((h * 1152921504606846976 + l / 16) % 2684354560 * 4294967296 + (l % 16 * 268435456))) from (ent_eqs (.cons rfl (.cons rfl (.cons rfl (.cons rfl (.cons rfl (.cons rfl (.cons (by simp only [dv_v hr.1 hr.2.1 hr.2.2.1 hr.2.2.2.1, dv_q hr.2.2.2.2.1 hr.2.2.2.2.2.1, dv_r hr.2.2.2.2.1 hr.2.2.2.2.2.1]) (.cons (by simp only [dv_v hr.1 hr.2.1 hr.2.2.1 hr.2.2.2.1, dv_q hr.2.2.2.2.1 hr.2.2.2.2.2.1, dv_r hr.2.2.2.2.1 hr.2.2.2.2.2.1]) (.cons (by simp only [dv_v hr.1 hr.2.1 hr.2.2.1 hr.2.2.2.1, dv_q hr.2.2.2.2.1 hr.2.2.2.2.2.1, dv_r hr.2.2.2.2.1 hr.2.2.2.2.2.1]) .nil))))))))) .nil)) (aa (show LoopT PR 135 (lp Try.f136 1) (dv1S (h * 1152921504606846976 + l / 16) ((h * 1152921504606846976 + l / 16) % 2684354560 * 4294967296 + (l % 16 * 268435456))) (.x 2) (dv1S (h * 1152921504606846976 + l / 16) ((h * 1152921504606846976 + l / 16) % 2684354560 * 4294967296 + (l % 16 * 268435456))) from (dv1S_loop hr.2.2.2.2.1 hr.2.2.2.2.2.1)) (aa (show 0 ≤ (60 : Int) from (by decide)) (aa (show Ent 135 ⟨[(6, .c (.sc (.v (.int .u64 (IntKind.u64.wrap ((IntKind.u64.wrap (((h * 1152921504606846976 + l / 16) / 2684354560) * (4294967296 : Int))) + (((h * 1152921504606846976 + l / 16) % 2684354560 * 4294967296 + (l % 16 * 268435456)) / 2684354560))))))), (7, .c (.sc (.v (.int .u64 ((IntKind.u64.wrap ((IntKind.u64.wrap ((IntKind.u64.wrap (((h * 1152921504606846976 + l / 16) % 2684354560 * 4294967296 + (l % 16 * 268435456)) * (4294967296 : Int))) + (0 : Int))) - (IntKind.u64.wrap ((((h * 1152921504606846976 + l / 16) % 2684354560 * 4294967296 + (l % 16 * 268435456)) / 2684354560) * (11529215046068469760 : Int))))).fdiv (1152921504606846976 : Int))))))], []⟩ S3 from (ent_eqs (.cons (by rw [dv_qq hr.1 hr.2.1 hr.2.2.2.2.1 hr.2.2.2.2.2.1, hr.2.2.2.2.2.2.1]) (.cons (by rw [dv_rr hr.2.2.2.2.1 hr.2.2.2.2.2.1, hr.2.2.2.2.2.2.2]) .nil)) .nil)) ke))))))))))))))))))) (by kernel_rfl)

def dgS (x : Nat) (i : Int) : St := ⟨[(1, .c (.sc (.p 1 0))), (2, .c (.sc (.p 2 0))), (3, .c (.sc (.v (.int .u8 0)))), (4, .c (.sc (.v (.int .u64 ((digR x i : Nat) : Int))))), (5, .c (.sc (.v (.int .i64 i))))], [(1, .sg 23 [.row .u64 8 (ofN (digN x i))]), (2, .sg 23 [.row .u64 8 z8])]⟩
theorem dg_loop (x : Nat) : LoopT PR 23 (lp Try.f104 0) (dgS x 7) (.x 0) (dgS x (-1)) := by
  refine loop_of (fun q s => ∃ i : Int, -1 ≤ i ∧ i ≤ 7 ∧ q = (i + 1).toNat ∧ s = dgS x i) 8 ⟨7, by omega, by omega, rfl, rfl⟩ ?_
  rintro q s ⟨i, h1, h2, rfl, rfl⟩
  rcases Int.lt_or_le i 0 with hi | hi
  · obtain rfl : i = -1 := by omega
    exact twE (t := (.leaf [.b false, .cut [1, 2, 3, 4, 5] [1, 2]])) (fun kq => (aa ff (kq (.x 0) (dgS x (-1)) (.inr ⟨by simp, rfl, rfl⟩)))) (by kernel_rfl)
  · obtain ⟨j, rfl⟩ := Int.eq_ofNat_of_zero_le hi
    have hj : j < 8 := by omega
    have hj0 : decide ((j : Int) ≥ (0 : Int)) = true := by simp
    have hd := digR_lt x (j : Int)
    exact twE (t := (.leaf [.b true, oP 16 (.tu [.sc (.v (.int .u64 ((((digR x (j : Int) : Nat) : Int) * 18446744073709551616 + ((ofN (digN x (j : Int))).getD (j : Int).toNat 0)) / 10))), .sc (.v (.int .u64 ((((digR x (j : Int) : Nat) : Int) * 18446744073709551616 + ((ofN (digN x (j : Int))).getD (j : Int).toNat 0)) % 10)))]), .cut [1, 2, 3, 4, 5] [1, 2], .chk (dgS x ((j : Int) - 1))])) (fun kq => (aa (show (decide ((j : Int) ≥ (0 : Int))) = true from hj0) (aa (show 0 ≤ (j : Int) ∧ (j : Int) < (8 : Int) from (by first | omega | (simp only [w64_def, u64_def, w8_def]; omega))) (aa (cP Try.f104 4 5 (show Fn PR 136 [.sc (.v (.int .u64 ((digR x (j : Int) : Nat) : Int))), .sc (.v (.int .u64 ((ofN (digN x (j : Int))).getD (j : Int).toNat 0))), .sc (.v (.int .u64 10))] (.tu [.sc (.v (.int .u64 ((((digR x (j : Int) : Nat) : Int) * 18446744073709551616 + ((ofN (digN x (j : Int))).getD (j : Int).toNat 0)) / 10))), .sc (.v (.int .u64 ((((digR x (j : Int) : Nat) : Int) * 18446744073709551616 + ((ofN (digN x (j : Int))).getD (j : Int).toNat 0)) % 10)))]) from (div10_ok ((digR x (j : Int) : Nat) : Int) ((ofN (digN x (j : Int))).getD (j : Int).toNat 0) (by omega) (by omega) (by first | omega | exact get_nonneg _ _) (by first | omega | exact get_lt _ _)))) (aa (show 0 ≤ (j : Int) ∧ (j : Int) < (8 : Int) from (by first | omega | (simp only [w64_def, u64_def, w8_def]; omega))) (aa (show Ent 23 ⟨[(1, aP 1 0), (2, aP 2 0), (3, .c (.sc (.v (.int .u8 0)))), (4, .c (.sc (.v (.int .u64 ((((digR x (j : Int) : Nat) : Int) * 18446744073709551616 + ((ofN (digN x (j : Int))).getD (j : Int).toNat 0)) % 10))))), (5, aI (IntKind.i64.wrap ((j : Int) - (1 : Int))))], [(1, .sg 23 [.row .u64 8 ((ofN (digN x (j : Int))).set (j : Int).toNat ((((digR x (j : Int) : Nat) : Int) * 18446744073709551616 + ((ofN (digN x (j : Int))).getD (j : Int).toNat 0)) / 10))]), (2, .sg 23 [.row .u64 8 z8])]⟩ (dgS x ((j : Int) - 1)) from (ent_eqs (.cons rfl (.cons rfl (.cons rfl (.cons (by rw [Int.toNat_natCast, get_ofW hj, wd_digN, dig_r]; try rfl) (.cons (by rw [w64_of (by omega) (by omega)]) .nil))))) (.cons (by rw [Int.toNat_natCast, get_ofW hj, wd_digN, dig_n, ← set_put hj (by have := wd_lt x j; omega)]; try rfl) (.cons rfl .nil)))) (kq .n (dgS x ((j : Int) - 1)) (.inl ⟨rfl, ((j : Int) - 1 + 1).toNat, by omega, _, by omega, by omega, rfl, rfl⟩)))))))) (by kernel_rfl)

theorem digit_ok (x : Nat) (hx : x < top) : Fn PR 104 [.ag [.row .u64 8 (ofN x)]] (.tu [.ag [.row .u64 8 (ofN (x / 10))], .sc (.v (.int .u8 ((x % 10 : Nat) : Int)))]) := by
  let S2 : St := ⟨[(2, aP 2 0), (3, .c (.sc (.v (.int .u8 ((x % 10 : Nat) : Int)))))], [(2, .sg 23 [.row .u64 8 (ofN (x / 10))])]⟩
  exact fwE (t := (.leaf [.cut [1, 2, 3, 4, 5] [1, 2], .chk (dgS x 7), .lp (.x 0) (dgS x (-1)), .cut [2, 3] [2], .chk S2])) Try.func104 (fun ke => (aa (show Ent 23 ⟨[(1, aP 1 0), (2, aP 2 0), (3, .c (.sc (.v (.int .u8 0)))), (4, .c (.sc (.v (.int .u64 0)))), (5, aI 7)], [(1, .sg 23 [.row .u64 8 (ofN x)]), (2, .sg 23 [.row .u64 8 z8])]⟩ (dgS x 7) from (ent_eqs (.cons rfl (.cons rfl (.cons rfl (.cons (by rw [digR_start (e := 8) rfl rfl hx]; try rfl) (.cons rfl .nil))))) (.cons (by rw [digN_start (e := 8) rfl rfl hx]) (.cons rfl .nil)))) (aa (show LoopT PR 23 (lp Try.f104 0) (dgS x 7) (.x 0) (dgS x (-1)) from (dg_loop x)) (aa (show Ent 23 ⟨[(2, aP 2 0), (3, .c (.sc (.v (.int .u8 (IntKind.u8.wrap (((digR x (-1) : Nat) : Int)))))))], [(2, .sg 23 [.row .u64 8 (ofN (digN x (-1)))])]⟩ S2 from (ent_eqs (.cons rfl (.cons (by rw [digR_end, w8_def]; congr 5; omega) .nil)) (.cons (by rw [digN_end]) .nil))) ke)))) (by kernel_rfl)

def vald (c : Int) : Int := if 48 ≤ c ∧ c ≤ 57 then c - 48 else if 97 ≤ c ∧ c ≤ 102 then c - 87 else if 65 ≤ c ∧ c ≤ 70 then c - 55 else 99
theorem value_ok (c : Int) (h0 : 0 ≤ c) (h1 : c < 256) : Fn PR 106 [.sc (.v (.int .u8 c))] (aI (vald c)) := by
  rcases Bool.eq_false_or_eq_true (decide (c ≥ (48 : Int))) with c0 | c0
  · rcases Bool.eq_false_or_eq_true (decide (c ≤ (57 : Int))) with c1 | c1
    · have c0' := of_decide_eq_true c0
      have c1' := of_decide_eq_true c1
      let S1 : St := ⟨[(2, aI (vald c))], []⟩
      exact fwE (t := (.leaf [.b true, .b true, .b true, .cut [2] [], .chk S1])) Try.func106 (fun ke => (aa c0 (aa c0 (aa (bif_t (y := false) c0 c1) (aa (show Ent 35 ⟨[(2, aI (IntKind.i64.wrap ((IntKind.u8.wrap (c - (48 : Int))))))], []⟩ S1 from (ent_eqs (.cons (by congr 4; unfold vald; split <;> (try split) <;> (try split) <;> (try rw [w64_def]) <;> (try rw [w64_def]) <;> (try rw [w8_def]) <;> omega) .nil) .nil)) ke))))) (by kernel_rfl)
    · rcases Bool.eq_false_or_eq_true (decide (c ≥ (97 : Int))) with c2 | c2
      · rcases Bool.eq_false_or_eq_true (decide (c ≤ (102 : Int))) with c3 | c3
        · have c0' := of_decide_eq_true c0
          have c1' := of_decide_eq_false c1
          have c2' := of_decide_eq_true c2
          have c3' := of_decide_eq_true c3
          let S1 : St := ⟨[(2, aI (vald c))], []⟩
          exact fwE (t := (.leaf [.b true, .b true, .b false, .b true, .b true, .b true, .cut [2] [], .chk S1])) Try.func106 (fun ke => (aa c0 (aa c0 (aa (bif_t (y := false) c0 c1) (aa c2 (aa c2 (aa (bif_t (y := false) c2 c3) (aa (show Ent 35 ⟨[(2, aI (IntKind.i64.wrap ((IntKind.i64.wrap ((IntKind.u8.wrap (c - (97 : Int))))) + (10 : Int))))], []⟩ S1 from (ent_eqs (.cons (by congr 4; unfold vald; split <;> (try split) <;> (try split) <;> (try rw [w64_def]) <;> (try rw [w64_def]) <;> (try rw [w8_def]) <;> omega) .nil) .nil)) ke)))))))) (by kernel_rfl)
        · rcases Bool.eq_false_or_eq_true (decide (c ≥ (65 : Int))) with c4 | c4
          · rcases Bool.eq_false_or_eq_true (decide (c ≤ (70 : Int))) with c5 | c5
            · have c0' := of_decide_eq_true c0
              have c1' := of_decide_eq_false c1
              have c2' := of_decide_eq_true c2
              have c3' := of_decide_eq_false c3
              have c4' := of_decide_eq_true c4
              have c5' := of_decide_eq_true c5
              let S1 : St := ⟨[(2, aI (vald c))], []⟩
              exact fwE (t := (.leaf [.b true, .b true, .b false, .b true, .b true, .b false, .b true, .b true, .b true, .cut [2] [], .chk S1])) Try.func106 (fun ke => (aa c0 (aa c0 (aa (bif_t (y := false) c0 c1) (aa c2 (aa c2 (aa (bif_t (y := false) c2 c3) (aa c4 (aa c4 (aa (bif_t (y := false) c4 c5) (aa (show Ent 35 ⟨[(2, aI (IntKind.i64.wrap ((IntKind.i64.wrap ((IntKind.u8.wrap (c - (65 : Int))))) + (10 : Int))))], []⟩ S1 from (ent_eqs (.cons (by congr 4; unfold vald; split <;> (try split) <;> (try split) <;> (try rw [w64_def]) <;> (try rw [w64_def]) <;> (try rw [w8_def]) <;> omega) .nil) .nil)) ke))))))))))) (by kernel_rfl)
            · have c0' := of_decide_eq_true c0
              have c1' := of_decide_eq_false c1
              have c2' := of_decide_eq_true c2
              have c3' := of_decide_eq_false c3
              have c4' := of_decide_eq_true c4
              have c5' := of_decide_eq_false c5
              let S0 : St := ⟨[(2, aI (vald c))], []⟩
              exact fwE (t := (.leaf [.b true, .b true, .b false, .b true, .b true, .b false, .b true, .b true, .b false, .cut [2] [], .chk S0])) Try.func106 (fun ke => (aa c0 (aa c0 (aa (bif_t (y := false) c0 c1) (aa c2 (aa c2 (aa (bif_t (y := false) c2 c3) (aa c4 (aa c4 (aa (bif_t (y := false) c4 c5) (aa (show Ent 35 ⟨[(2, aI 99)], []⟩ S0 from (ent_eqs (.cons (by congr 4; unfold vald; split <;> (try split) <;> (try split) <;> (try rw [w64_def]) <;> (try rw [w64_def]) <;> (try rw [w8_def]) <;> omega) .nil) .nil)) ke))))))))))) (by kernel_rfl)
          · have c0' := of_decide_eq_true c0
            have c1' := of_decide_eq_false c1
            have c2' := of_decide_eq_true c2
            have c3' := of_decide_eq_false c3
            have c4' := of_decide_eq_false c4
            let S0 : St := ⟨[(2, aI (vald c))], []⟩
            exact fwE (t := (.leaf [.b true, .b true, .b false, .b true, .b true, .b false, .b false, .b false, .b false, .cut [2] [], .chk S0])) Try.func106 (fun ke => (aa c0 (aa c0 (aa (bif_t (y := false) c0 c1) (aa c2 (aa c2 (aa (bif_t (y := false) c2 c3) (aa c4 (aa c4 (aa c4 (aa ff (aa (show Ent 35 ⟨[(2, aI 99)], []⟩ S0 from (ent_eqs (.cons (by congr 4; unfold vald; split <;> (try split) <;> (try split) <;> (try rw [w64_def]) <;> (try rw [w64_def]) <;> (try rw [w8_def]) <;> omega) .nil) .nil)) ke)))))))))))) (by kernel_rfl)
      · rcases Bool.eq_false_or_eq_true (decide (c ≥ (65 : Int))) with c3 | c3
        · rcases Bool.eq_false_or_eq_true (decide (c ≤ (70 : Int))) with c4 | c4
          · have c0' := of_decide_eq_true c0
            have c1' := of_decide_eq_false c1
            have c2' := of_decide_eq_false c2
            have c3' := of_decide_eq_true c3
            have c4' := of_decide_eq_true c4
            let S1 : St := ⟨[(2, aI (vald c))], []⟩
            exact fwE (t := (.leaf [.b true, .b true, .b false, .b false, .b false, .b false, .b true, .b true, .b true, .cut [2] [], .chk S1])) Try.func106 (fun ke => (aa c0 (aa c0 (aa (bif_t (y := false) c0 c1) (aa c2 (aa c2 (aa c2 (aa ff (aa c3 (aa c3 (aa (bif_t (y := false) c3 c4) (aa (show Ent 35 ⟨[(2, aI (IntKind.i64.wrap ((IntKind.i64.wrap ((IntKind.u8.wrap (c - (65 : Int))))) + (10 : Int))))], []⟩ S1 from (ent_eqs (.cons (by congr 4; unfold vald; split <;> (try split) <;> (try split) <;> (try rw [w64_def]) <;> (try rw [w64_def]) <;> (try rw [w8_def]) <;> omega) .nil) .nil)) ke)))))))))))) (by kernel_rfl)
          · have c0' := of_decide_eq_true c0
            have c1' := of_decide_eq_false c1
            have c2' := of_decide_eq_false c2
            have c3' := of_decide_eq_true c3
            have c4' := of_decide_eq_false c4
            let S0 : St := ⟨[(2, aI (vald c))], []⟩
            exact fwE (t := (.leaf [.b true, .b true, .b false, .b false, .b false, .b false, .b true, .b true, .b false, .cut [2] [], .chk S0])) Try.func106 (fun ke => (aa c0 (aa c0 (aa (bif_t (y := false) c0 c1) (aa c2 (aa c2 (aa c2 (aa ff (aa c3 (aa c3 (aa (bif_t (y := false) c3 c4) (aa (show Ent 35 ⟨[(2, aI 99)], []⟩ S0 from (ent_eqs (.cons (by congr 4; unfold vald; split <;> (try split) <;> (try split) <;> (try rw [w64_def]) <;> (try rw [w64_def]) <;> (try rw [w8_def]) <;> omega) .nil) .nil)) ke)))))))))))) (by kernel_rfl)
        · have c0' := of_decide_eq_true c0
          have c1' := of_decide_eq_false c1
          have c2' := of_decide_eq_false c2
          have c3' := of_decide_eq_false c3
          let S0 : St := ⟨[(2, aI (vald c))], []⟩
          exact fwE (t := (.leaf [.b true, .b true, .b false, .b false, .b false, .b false, .b false, .b false, .b false, .cut [2] [], .chk S0])) Try.func106 (fun ke => (aa c0 (aa c0 (aa (bif_t (y := false) c0 c1) (aa c2 (aa c2 (aa c2 (aa ff (aa c3 (aa c3 (aa c3 (aa ff (aa (show Ent 35 ⟨[(2, aI 99)], []⟩ S0 from (ent_eqs (.cons (by congr 4; unfold vald; split <;> (try split) <;> (try split) <;> (try rw [w64_def]) <;> (try rw [w64_def]) <;> (try rw [w8_def]) <;> omega) .nil) .nil)) ke))))))))))))) (by kernel_rfl)
  · rcases Bool.eq_false_or_eq_true (decide (c ≥ (97 : Int))) with c1 | c1
    · rcases Bool.eq_false_or_eq_true (decide (c ≤ (102 : Int))) with c2 | c2
      · have c0' := of_decide_eq_false c0
        have c1' := of_decide_eq_true c1
        have c2' := of_decide_eq_true c2
        let S1 : St := ⟨[(2, aI (vald c))], []⟩
        exact fwE (t := (.leaf [.b false, .b false, .b false, .b true, .b true, .b true, .cut [2] [], .chk S1])) Try.func106 (fun ke => (aa c0 (aa c0 (aa c0 (aa ff (aa c1 (aa c1 (aa (bif_t (y := false) c1 c2) (aa (show Ent 35 ⟨[(2, aI (IntKind.i64.wrap ((IntKind.i64.wrap ((IntKind.u8.wrap (c - (97 : Int))))) + (10 : Int))))], []⟩ S1 from (ent_eqs (.cons (by congr 4; unfold vald; split <;> (try split) <;> (try split) <;> (try rw [w64_def]) <;> (try rw [w64_def]) <;> (try rw [w8_def]) <;> omega) .nil) .nil)) ke))))))))) (by kernel_rfl)
      · rcases Bool.eq_false_or_eq_true (decide (c ≥ (65 : Int))) with c3 | c3
        · rcases Bool.eq_false_or_eq_true (decide (c ≤ (70 : Int))) with c4 | c4
          · have c0' := of_decide_eq_false c0
            have c1' := of_decide_eq_true c1
            have c2' := of_decide_eq_false c2
            have c3' := of_decide_eq_true c3
            have c4' := of_decide_eq_true c4
            let S1 : St := ⟨[(2, aI (vald c))], []⟩
            exact fwE (t := (.leaf [.b false, .b false, .b false, .b true, .b true, .b false, .b true, .b true, .b true, .cut [2] [], .chk S1])) Try.func106 (fun ke => (aa c0 (aa c0 (aa c0 (aa ff (aa c1 (aa c1 (aa (bif_t (y := false) c1 c2) (aa c3 (aa c3 (aa (bif_t (y := false) c3 c4) (aa (show Ent 35 ⟨[(2, aI (IntKind.i64.wrap ((IntKind.i64.wrap ((IntKind.u8.wrap (c - (65 : Int))))) + (10 : Int))))], []⟩ S1 from (ent_eqs (.cons (by congr 4; unfold vald; split <;> (try split) <;> (try split) <;> (try rw [w64_def]) <;> (try rw [w64_def]) <;> (try rw [w8_def]) <;> omega) .nil) .nil)) ke)))))))))))) (by kernel_rfl)
          · have c0' := of_decide_eq_false c0
            have c1' := of_decide_eq_true c1
            have c2' := of_decide_eq_false c2
            have c3' := of_decide_eq_true c3
            have c4' := of_decide_eq_false c4
            let S0 : St := ⟨[(2, aI (vald c))], []⟩
            exact fwE (t := (.leaf [.b false, .b false, .b false, .b true, .b true, .b false, .b true, .b true, .b false, .cut [2] [], .chk S0])) Try.func106 (fun ke => (aa c0 (aa c0 (aa c0 (aa ff (aa c1 (aa c1 (aa (bif_t (y := false) c1 c2) (aa c3 (aa c3 (aa (bif_t (y := false) c3 c4) (aa (show Ent 35 ⟨[(2, aI 99)], []⟩ S0 from (ent_eqs (.cons (by congr 4; unfold vald; split <;> (try split) <;> (try split) <;> (try rw [w64_def]) <;> (try rw [w64_def]) <;> (try rw [w8_def]) <;> omega) .nil) .nil)) ke)))))))))))) (by kernel_rfl)
        · have c0' := of_decide_eq_false c0
          have c1' := of_decide_eq_true c1
          have c2' := of_decide_eq_false c2
          have c3' := of_decide_eq_false c3
          let S0 : St := ⟨[(2, aI (vald c))], []⟩
          exact fwE (t := (.leaf [.b false, .b false, .b false, .b true, .b true, .b false, .b false, .b false, .b false, .cut [2] [], .chk S0])) Try.func106 (fun ke => (aa c0 (aa c0 (aa c0 (aa ff (aa c1 (aa c1 (aa (bif_t (y := false) c1 c2) (aa c3 (aa c3 (aa c3 (aa ff (aa (show Ent 35 ⟨[(2, aI 99)], []⟩ S0 from (ent_eqs (.cons (by congr 4; unfold vald; split <;> (try split) <;> (try split) <;> (try rw [w64_def]) <;> (try rw [w64_def]) <;> (try rw [w8_def]) <;> omega) .nil) .nil)) ke))))))))))))) (by kernel_rfl)
    · rcases Bool.eq_false_or_eq_true (decide (c ≥ (65 : Int))) with c2 | c2
      · rcases Bool.eq_false_or_eq_true (decide (c ≤ (70 : Int))) with c3 | c3
        · have c0' := of_decide_eq_false c0
          have c1' := of_decide_eq_false c1
          have c2' := of_decide_eq_true c2
          have c3' := of_decide_eq_true c3
          let S1 : St := ⟨[(2, aI (vald c))], []⟩
          exact fwE (t := (.leaf [.b false, .b false, .b false, .b false, .b false, .b false, .b true, .b true, .b true, .cut [2] [], .chk S1])) Try.func106 (fun ke => (aa c0 (aa c0 (aa c0 (aa ff (aa c1 (aa c1 (aa c1 (aa ff (aa c2 (aa c2 (aa (bif_t (y := false) c2 c3) (aa (show Ent 35 ⟨[(2, aI (IntKind.i64.wrap ((IntKind.i64.wrap ((IntKind.u8.wrap (c - (65 : Int))))) + (10 : Int))))], []⟩ S1 from (ent_eqs (.cons (by congr 4; unfold vald; split <;> (try split) <;> (try split) <;> (try rw [w64_def]) <;> (try rw [w64_def]) <;> (try rw [w8_def]) <;> omega) .nil) .nil)) ke))))))))))))) (by kernel_rfl)
        · have c0' := of_decide_eq_false c0
          have c1' := of_decide_eq_false c1
          have c2' := of_decide_eq_true c2
          have c3' := of_decide_eq_false c3
          let S0 : St := ⟨[(2, aI (vald c))], []⟩
          exact fwE (t := (.leaf [.b false, .b false, .b false, .b false, .b false, .b false, .b true, .b true, .b false, .cut [2] [], .chk S0])) Try.func106 (fun ke => (aa c0 (aa c0 (aa c0 (aa ff (aa c1 (aa c1 (aa c1 (aa ff (aa c2 (aa c2 (aa (bif_t (y := false) c2 c3) (aa (show Ent 35 ⟨[(2, aI 99)], []⟩ S0 from (ent_eqs (.cons (by congr 4; unfold vald; split <;> (try split) <;> (try split) <;> (try rw [w64_def]) <;> (try rw [w64_def]) <;> (try rw [w8_def]) <;> omega) .nil) .nil)) ke))))))))))))) (by kernel_rfl)
      · have c0' := of_decide_eq_false c0
        have c1' := of_decide_eq_false c1
        have c2' := of_decide_eq_false c2
        let S0 : St := ⟨[(2, aI (vald c))], []⟩
        exact fwE (t := (.leaf [.b false, .b false, .b false, .b false, .b false, .b false, .b false, .b false, .b false, .cut [2] [], .chk S0])) Try.func106 (fun ke => (aa c0 (aa c0 (aa c0 (aa ff (aa c1 (aa c1 (aa c1 (aa ff (aa c2 (aa c2 (aa c2 (aa ff (aa (show Ent 35 ⟨[(2, aI 99)], []⟩ S0 from (ent_eqs (.cons (by congr 4; unfold vald; split <;> (try split) <;> (try split) <;> (try rw [w64_def]) <;> (try rw [w64_def]) <;> (try rw [w8_def]) <;> omega) .nil) .nil)) ke)))))))))))))) (by kernel_rfl)

end Go.Proofs.Ytbbakacfhajohaa.Av
namespace Go.Proofs.Ytbbakacfhajohaa.Av
set_option linter.unusedVariables false
set_option linter.unusedSimpArgs false
set_option maxRecDepth 20000
set_option maxHeartbeats 1000000

def txS (z : Int) (w : Nat) (out : List Int) : St := ⟨[(1, .c (.sc (.p 1 0))), (3, .c (.sc (.os 3 out.length))), (4, .c (.sc (.p 4 0)))], [(1, .sg 25 [.one (.v (.bool (decide (z < 0)))), .row .u64 8 (ofN z.natAbs)]), (3, .gr 5 .u8 out), (4, .sg 23 [.row .u64 8 (ofN w)])]⟩
theorem tx_loop {z : Int} (hx : z.natAbs < top) : LoopT PR 38 (lp Try.f41 0) (txS z z.natAbs []) (.x 0) (txS z 0 (dl z.natAbs)) := by
  refine loop_of (fun q s => ∃ w out, w < top ∧ txI z.natAbs w out ∧ q = (if out = [] then w + 1 else w) ∧ s = txS z w out) (z.natAbs + 1) ⟨z.natAbs, [], hx, txI_start _, rfl, rfl⟩ ?_
  rintro q s ⟨w, out, hw, hI, hq, rfl⟩
  have hlen := txI_len hx hI
  by_cases hgo : w ≠ 0 ∨ out = []
  · have hb := ofN_beq_z8 hw
    have hnx := txI_next hI hgo
    have hmeas : w / 10 < q := by
      rw [hq]
      by_cases ho : out = []
      · rw [if_pos ho]; omega
      · rw [if_neg ho]; have := hgo.resolve_right ho; omega
    have hw10 : w / 10 < top := by omega
    have hcond : (bif (!((ofN w) == z8)) then true else ((out.length : Int) == (0 : Int))) = true := by
      rw [hb]
      rcases hgo with h | h
      · simp [h]
      · simp [h]
    have T0 : w < top := by assumption
    let S1 : St := ⟨[(27, aO 3 ((out ++ ([IntKind.u8.wrap ((48 : Int) + ((w % 10 : Nat) : Int))])).length)), (26, aO 26 1), (25, .c (.sc (.v (.int .u8 (IntKind.u8.wrap ((48 : Int) + ((w % 10 : Nat) : Int))))))), (24, .c (.sc (.v (.int .u8 ((w % 10 : Nat) : Int))))), (5, .c (.sc (.v (.int .u8 ((w % 10 : Nat) : Int))))), (22, .c (.sc (.v (.int .u8 ((w % 10 : Nat) : Int))))), (21, aG [.row .u64 8 (ofN (w / 10))]), (18, .tu [.ag [.row .u64 8 (ofN (w / 10))], .sc (.v (.int .u8 ((w % 10 : Nat) : Int)))]), (20, .tu [.ag [.row .u64 8 (ofN (w / 10))], .sc (.v (.int .u8 ((w % 10 : Nat) : Int)))]), (19, aG [.row .u64 8 (ofN w)]), (17, aB (bif (!((ofN w) == z8)) then true else ((out.length : Int) == (0 : Int)))), (16, aB ((out.length : Int) == (0 : Int))), (15, aI (out.length : Int)), (13, aB (!((ofN w) == z8))), (12, aB (!((ofN w) == z8))), (11, aG [.row .u64 8 z8]), (10, aG [.row .u64 8 (ofN w)]), (1, aP 1 0), (4, aP 4 0)], [(3, .gr 5 .u8 (out ++ ([IntKind.u8.wrap ((48 : Int) + ((w % 10 : Nat) : Int))]))), (26, .gr 5 .u8 ([IntKind.u8.wrap ((48 : Int) + ((w % 10 : Nat) : Int))])), (4, .sg 23 [.row .u64 8 (ofN (w / 10))]), (1, .sg 25 (iS z))]⟩
    let S2 : St := ⟨[(27, aO 3 ((out ++ ([IntKind.u8.wrap ((48 : Int) + ((w % 10 : Nat) : Int))])).length)), (26, aO 26 1), (25, .c (.sc (.v (.int .u8 (IntKind.u8.wrap ((48 : Int) + ((w % 10 : Nat) : Int))))))), (24, .c (.sc (.v (.int .u8 ((w % 10 : Nat) : Int))))), (5, .c (.sc (.v (.int .u8 ((w % 10 : Nat) : Int))))), (22, .c (.sc (.v (.int .u8 ((w % 10 : Nat) : Int))))), (21, aG [.row .u64 8 (ofN (w / 10))]), (18, .tu [.ag [.row .u64 8 (ofN (w / 10))], .sc (.v (.int .u8 ((w % 10 : Nat) : Int)))]), (20, .tu [.ag [.row .u64 8 (ofN (w / 10))], .sc (.v (.int .u8 ((w % 10 : Nat) : Int)))]), (19, aG [.row .u64 8 (ofN w)]), (17, aB true), (16, .un), (15, .un), (14, .un), (13, aB (!((ofN w) == z8))), (12, aB (!((ofN w) == z8))), (11, aG [.row .u64 8 z8]), (10, aG [.row .u64 8 (ofN w)]), (1, aP 1 0), (4, aP 4 0)], [(3, .gr 5 .u8 (out ++ ([IntKind.u8.wrap ((48 : Int) + ((w % 10 : Nat) : Int))]))), (26, .gr 5 .u8 ([IntKind.u8.wrap ((48 : Int) + ((w % 10 : Nat) : Int))])), (4, .sg 23 [.row .u64 8 (ofN (w / 10))]), (1, .sg 25 (iS z))]⟩
    let S4 : St := ⟨[(1, aP 1 0), (3, aO 3 ((out ++ ([IntKind.u8.wrap ((48 : Int) + ((w % 10 : Nat) : Int))])).length)), (4, aP 4 0)], [(1, .sg 25 (iS z)), (3, .gr 5 .u8 (out ++ ([IntKind.u8.wrap ((48 : Int) + ((w % 10 : Nat) : Int))]))), (4, .sg 23 [.row .u64 8 (ofN (w / 10))])]⟩
    exact twE (t := (.sp [] ((ofN w) == z8) (.sp [.b false, .b false, .b false] ((out.length : Int) == (0 : Int)) (.leaf [.b true, oP 20 (.tu [.ag [.row .u64 8 (ofN (w / 10))], .sc (.v (.int .u8 ((w % 10 : Nat) : Int)))]), .lp .n S1, .rcut 9 [1, 10, 11, 12, 13, 15, 16, 17, 19, 20, 18, 21, 22, 5, 24, 25, 26, 27, 3, 28] [1, 26, 3], .cut [1, 3, 4] [1, 3, 4], .chk (txS z (w / 10) (out ++ [((48 + w % 10 : Nat) : Int)]))]) .bad) (.leaf [.b true, .b true, .b true, .b true, oP 20 (.tu [.ag [.row .u64 8 (ofN (w / 10))], .sc (.v (.int .u8 ((w % 10 : Nat) : Int)))]), .lp .n S2, .rcut 9 [1, 10, 11, 12, 13, 14, 15, 16, 17, 19, 20, 18, 21, 22, 5, 24, 25, 26, 27, 3, 28] [1, 26, 3], .cut [1, 3, 4] [1, 3, 4], .chk (txS z (w / 10) (out ++ [((48 + w % 10 : Nat) : Int)]))]))) (fun kq => (sb ((ofN w) == z8) (fun c0 => (aa (not_f c0) (aa (not_f c0) (aa (not_f c0) (sb ((out.length : Int) == (0 : Int)) (fun c1 => (aa (bif_f (x := true) (not_f c0) c1) (aa (cP Try.f41 6 1 (digit_ok w T0)) (aa (show OpT PR 38 (opr Try.f41 7 4) ⟨[(26, aO 26 1), (25, .c (.sc (.v (.int .u8 (IntKind.u8.wrap ((48 : Int) + ((w % 10 : Nat) : Int))))))), (24, .c (.sc (.v (.int .u8 ((w % 10 : Nat) : Int))))), (23, aO 3 out.length), (5, .c (.sc (.v (.int .u8 ((w % 10 : Nat) : Int))))), (22, .c (.sc (.v (.int .u8 ((w % 10 : Nat) : Int))))), (21, aG [.row .u64 8 (ofN (w / 10))]), (18, .tu [.ag [.row .u64 8 (ofN (w / 10))], .sc (.v (.int .u8 ((w % 10 : Nat) : Int)))]), (20, .tu [.ag [.row .u64 8 (ofN (w / 10))], .sc (.v (.int .u8 ((w % 10 : Nat) : Int)))]), (19, aG [.row .u64 8 (ofN w)]), (5, .c (.sc (.v (.int .u8 0)))), (17, aB (bif (!((ofN w) == z8)) then true else ((out.length : Int) == (0 : Int)))), (16, aB ((out.length : Int) == (0 : Int))), (15, aI (out.length : Int)), (14, aO 3 out.length), (13, aB (!((ofN w) == z8))), (12, aB (!((ofN w) == z8))), (11, aG [.row .u64 8 z8]), (10, aG [.row .u64 8 (ofN w)]), (1, aP 1 0), (3, aO 3 out.length), (4, aP 4 0)], [(26, .gr 5 .u8 ([IntKind.u8.wrap ((48 : Int) + ((w % 10 : Nat) : Int))])), (4, .sg 23 [.row .u64 8 (ofN (w / 10))]), (1, .sg 25 (iS z)), (3, .gr 5 .u8 out), (4, .sg 23 [.row .u64 8 (ofN w)])]⟩ S1 from (appT tau_ok el_ok (O := [out.length = out.length, 1 = ([IntKind.u8.wrap ((48 : Int) + ((w % 10 : Nat) : Int))]).length, out.length + ([IntKind.u8.wrap ((48 : Int) + ((w % 10 : Nat) : Int))]).length ≤ 17592186044416]) (by kernel_rfl) ⟨rfl, rfl, (by simp only [List.length_append, List.length_cons, List.length_nil]; omega), trivial⟩ (by kernel_rfl))) (aa (show Ent 38 S4 (txS z (w / 10) (out ++ [((48 + w % 10 : Nat) : Int)])) from (ent_eqs (.cons rfl (.cons (by rw [dg8]) (.cons rfl .nil))) (.cons rfl (.cons (by rw [dg8]) (.cons rfl .nil))))) (kq .n (txS z (w / 10) (out ++ [((48 + w % 10 : Nat) : Int)])) (.inl ⟨rfl, w / 10, hmeas, _, _, hw10, hnx, by rw [if_neg (by simp)], rfl⟩))))))) (fun c1 => (show False from by rw [c0, c1] at hcond; exact absurd hcond (by simp)))))))) (fun c0 => (aa (not_t c0) (aa (not_t c0) (aa (not_t c0) (aa (not_t c0) (aa tt (aa (cP Try.f41 6 1 (digit_ok w T0)) (aa (show OpT PR 38 (opr Try.f41 7 4) ⟨[(26, aO 26 1), (25, .c (.sc (.v (.int .u8 (IntKind.u8.wrap ((48 : Int) + ((w % 10 : Nat) : Int))))))), (24, .c (.sc (.v (.int .u8 ((w % 10 : Nat) : Int))))), (23, aO 3 out.length), (5, .c (.sc (.v (.int .u8 ((w % 10 : Nat) : Int))))), (22, .c (.sc (.v (.int .u8 ((w % 10 : Nat) : Int))))), (21, aG [.row .u64 8 (ofN (w / 10))]), (18, .tu [.ag [.row .u64 8 (ofN (w / 10))], .sc (.v (.int .u8 ((w % 10 : Nat) : Int)))]), (20, .tu [.ag [.row .u64 8 (ofN (w / 10))], .sc (.v (.int .u8 ((w % 10 : Nat) : Int)))]), (19, aG [.row .u64 8 (ofN w)]), (5, .c (.sc (.v (.int .u8 0)))), (17, aB true), (16, .un), (15, .un), (14, .un), (13, aB (!((ofN w) == z8))), (12, aB (!((ofN w) == z8))), (11, aG [.row .u64 8 z8]), (10, aG [.row .u64 8 (ofN w)]), (1, aP 1 0), (3, aO 3 out.length), (4, aP 4 0)], [(26, .gr 5 .u8 ([IntKind.u8.wrap ((48 : Int) + ((w % 10 : Nat) : Int))])), (4, .sg 23 [.row .u64 8 (ofN (w / 10))]), (1, .sg 25 (iS z)), (3, .gr 5 .u8 out), (4, .sg 23 [.row .u64 8 (ofN w)])]⟩ S2 from (appT tau_ok el_ok (O := [out.length = out.length, 1 = ([IntKind.u8.wrap ((48 : Int) + ((w % 10 : Nat) : Int))]).length, out.length + ([IntKind.u8.wrap ((48 : Int) + ((w % 10 : Nat) : Int))]).length ≤ 17592186044416]) (by kernel_rfl) ⟨rfl, rfl, (by simp only [List.length_append, List.length_cons, List.length_nil]; omega), trivial⟩ (by kernel_rfl))) (aa (show Ent 38 S4 (txS z (w / 10) (out ++ [((48 + w % 10 : Nat) : Int)])) from (ent_eqs (.cons rfl (.cons (by rw [dg8]) (.cons rfl .nil))) (.cons rfl (.cons (by rw [dg8]) (.cons rfl .nil))))) (kq .n (txS z (w / 10) (out ++ [((48 + w % 10 : Nat) : Int)])) (.inl ⟨rfl, w / 10, hmeas, _, _, hw10, hnx, by rw [if_neg (by simp)], rfl⟩))))))))))))) (by kernel_rfl)
  · have h0 : w = 0 := Decidable.byContradiction fun h => hgo (.inl h)
    have h1 : out ≠ [] := fun h => hgo (.inr h)
    subst h0
    obtain rfl := txI_end hI rfl h1
    have hb : (ofN 0 == z8) = true := by rw [ofN_beq_z8 top_pos]; rfl
    have hl := len_eq0 (dl_ne z.natAbs)
    exact twE (t := (.leaf [.b false, .b false, .b false, .b false, .cut [1, 3, 4] [1, 3, 4]])) (fun kq => (aa (not_f (show ((ofN 0) == z8) = true from hb)) (aa (not_f (show ((ofN 0) == z8) = true from hb)) (aa (not_f (show ((ofN 0) == z8) = true from hb)) (aa (bif_f (x := true) (not_f (show ((ofN 0) == z8) = true from hb)) (show (((dl z.natAbs).length : Int) == (0 : Int)) = false from hl)) (kq (.x 0) (txS z 0 (dl z.natAbs)) (.inr ⟨by simp, rfl, rfl⟩))))))) (by kernel_rfl)

theorem text_ok (neg : Bool) (x : Nat) (hx : x < top) (z : Int) (hz : iz neg x = z) : Fn PR 41 [.ag (nS neg x)] (.c (.sc (.v (.string (txt z))))) := by
  let S0 : St := ⟨[(35, .tu []), (34, aO 3 (((dl z.natAbs) ++ ([(45 : Int)])).length)), (3, aO 3 (((dl z.natAbs) ++ ([(45 : Int)])).length)), (33, aO 3 (((dl z.natAbs) ++ ([(45 : Int)])).length)), (32, aO 32 1), (30, aB (decide (z < 0))), (29, aP 1 0), (1, aP 1 0), (4, aP 4 0)], [(3, .gr 5 .u8 (((dl z.natAbs) ++ ([(45 : Int)])).reverse)), (3, .gr 5 .u8 ((dl z.natAbs) ++ ([(45 : Int)]))), (32, .gr 5 .u8 ([(45 : Int)])), (1, .sg 25 (iS z)), (4, .sg 23 [.row .u64 8 (ofN 0)])]⟩
  let S3 : St := ⟨[(35, .tu []), (34, aO 3 ((dl z.natAbs).length)), (30, aB (decide (z < 0))), (29, aP 1 0), (1, aP 1 0), (3, aO 3 ((dl z.natAbs).length)), (4, aP 4 0)], [(3, .gr 5 .u8 ((dl z.natAbs).reverse)), (1, .sg 25 (iS z)), (3, .gr 5 .u8 (dl z.natAbs)), (4, .sg 23 [.row .u64 8 (ofN 0)])]⟩
  let S4 : St := ⟨[(33, aO 3 (((dl z.natAbs) ++ ([(45 : Int)])).length)), (32, aO 32 1), (30, aB (decide (z < 0))), (29, aP 1 0), (1, aP 1 0), (4, aP 4 0)], [(3, .gr 5 .u8 ((dl z.natAbs) ++ ([(45 : Int)]))), (32, .gr 5 .u8 ([(45 : Int)])), (1, .sg 25 (iS z)), (4, .sg 23 [.row .u64 8 (ofN 0)])]⟩
  let S6 : St := ⟨[(1, aP 1 0), (3, aO 3 0), (4, aP 4 0)], [(1, .sg 25 (iS z)), (3, .gr 5 .u8 ([])), (4, .sg 23 [.row .u64 8 (ofN z.natAbs)])]⟩
  let S10 : St := ⟨[(2, .c (.sc (.v (.string (txt z)))))], []⟩
  exact fwE (t := (.sp [oP 7 (aG (iS z)), .cut [1, 3, 4] [1, 4], .chk S6, .chk (txS z z.natAbs ([])), .lp (.x 0) (txS z 0 (dl z.natAbs))] (decide (z < 0)) (.leaf [.b true, .lp .n S4, .lp .n S0, .cut [2] [], .chk S10]) (.leaf [.b false, .lp .n S3, .cut [2] [], .chk S10]))) Try.func41 (fun ke => (aa (cP Try.f41 1 1 (show Fn PR 43 [.ag (nS neg x)] (aG (iS z)) from (canon_ok neg x (by first | assumption | omega | exact top_pos | exact Nat.mod_lt _ top_pos | (apply lt_tac; assumption)) _ hz))) (aa (show Ent 38 ⟨[(1, aP 1 0), (3, .c (.sc (.v (.slice none 0 0)))), (4, aP 4 0)], [(1, .sg 25 (iS z)), (4, .sg 23 [.row .u64 8 (ofN z.natAbs)])]⟩ S6 from (entNil (id := 3) (i := 3) (t := 5) (k := .u8) (ls := [1, 3, 4]) (hs := [1, 3, 4]) (by kernel_rfl))) (aa (show Ent 38 S6 (txS z z.natAbs ([])) from (ent_eqs (.cons rfl (.cons (rfl) (.cons rfl .nil))) (.cons rfl (.cons rfl (.cons rfl .nil))))) (aa (show LoopT PR 38 (lp Try.f41 0) (txS z z.natAbs ([])) (.x 0) (txS z 0 (dl z.natAbs)) from (tx_loop (abs_lt hx hz))) (sb (decide (z < 0)) (fun c0 => (aa c0 (aa (show OpT PR 38 (opr Try.f41 11 2) ⟨[(32, aO 32 1), (31, aO 3 ((dl z.natAbs).length)), (30, aB (decide (z < 0))), (29, aP 1 0), (1, aP 1 0), (3, aO 3 ((dl z.natAbs).length)), (4, aP 4 0)], [(32, .gr 5 .u8 ([(45 : Int)])), (1, .sg 25 (iS z)), (3, .gr 5 .u8 (dl z.natAbs)), (4, .sg 23 [.row .u64 8 (ofN 0)])]⟩ S4 from (appT tau_ok el_ok (O := [(dl z.natAbs).length = (dl z.natAbs).length, 1 = ([(45 : Int)]).length, (dl z.natAbs).length + ([(45 : Int)]).length ≤ 17592186044416]) (by kernel_rfl) ⟨rfl, rfl, (by have := dl_top rfl (abs_lt hx hz); simp only [List.length_append, List.length_cons, List.length_nil]; omega), trivial⟩ (by kernel_rfl))) (aa (show OpT PR 38 (opr Try.f41 12 1) ⟨[(34, aO 3 (((dl z.natAbs) ++ ([(45 : Int)])).length)), (3, aO 3 (((dl z.natAbs) ++ ([(45 : Int)])).length)), (33, aO 3 (((dl z.natAbs) ++ ([(45 : Int)])).length)), (32, aO 32 1), (30, aB (decide (z < 0))), (29, aP 1 0), (1, aP 1 0), (4, aP 4 0)], [(3, .gr 5 .u8 ((dl z.natAbs) ++ ([(45 : Int)]))), (32, .gr 5 .u8 ([(45 : Int)])), (1, .sg 25 (iS z)), (4, .sg 23 [.row .u64 8 (ofN 0)])]⟩ S0 from (revT (O := [((dl z.natAbs) ++ ([(45 : Int)])).length = ((dl z.natAbs) ++ ([(45 : Int)])).length, 0 < ((dl z.natAbs) ++ ([(45 : Int)])).length, ((dl z.natAbs) ++ ([(45 : Int)])).length ≤ 9223372036854775807]) (by kernel_rfl) ⟨rfl, (by have := dl_pos z.natAbs; (try simp only [List.length_append, List.length_cons, List.length_nil]); omega), (by have := dl_top rfl (abs_lt hx hz); (try simp only [List.length_append, List.length_cons, List.length_nil]); omega), trivial⟩ (by kernel_rfl))) (aa (show ((dl z.natAbs) ++ ([(45 : Int)])).length = (((dl z.natAbs) ++ ([(45 : Int)])).reverse).length from (by simp)) (aa (show Ent 38 ⟨[(2, .c (.sc (.v (.string (strOfNums (((dl z.natAbs) ++ ([(45 : Int)])).reverse))))))], []⟩ S10 from (ent_eqs (.cons (by unfold txt; rw [c0]; try rfl) .nil) .nil)) ke)))))) (fun c0 => (aa c0 (aa (show OpT PR 38 (opr Try.f41 12 1) ⟨[(34, aO 3 ((dl z.natAbs).length)), (30, aB (decide (z < 0))), (29, aP 1 0), (1, aP 1 0), (3, aO 3 ((dl z.natAbs).length)), (4, aP 4 0)], [(1, .sg 25 (iS z)), (3, .gr 5 .u8 (dl z.natAbs)), (4, .sg 23 [.row .u64 8 (ofN 0)])]⟩ S3 from (revT (O := [(dl z.natAbs).length = (dl z.natAbs).length, 0 < (dl z.natAbs).length, (dl z.natAbs).length ≤ 9223372036854775807]) (by kernel_rfl) ⟨rfl, (by have := dl_pos z.natAbs; (try simp only [List.length_append, List.length_cons, List.length_nil]); omega), (by have := dl_top rfl (abs_lt hx hz); (try simp only [List.length_append, List.length_cons, List.length_nil]); omega), trivial⟩ (by kernel_rfl))) (aa (show (dl z.natAbs).length = ((dl z.natAbs).reverse).length from (by simp)) (aa (show Ent 38 ⟨[(2, .c (.sc (.v (.string (strOfNums ((dl z.natAbs).reverse))))))], []⟩ S10 from (ent_eqs (.cons (by unfold txt; rw [c0]; try rfl) .nil) .nil)) ke))))))))))) (by kernel_rfl)

end Go.Proofs.Ytbbakacfhajohaa.Av
namespace Go.Proofs.Ytbbakacfhajohaa.Av
set_option linter.unusedVariables false

theorem sn_get (s : ByteArray) (i : Nat) : 0 ≤ (strNums s).getD i 0 ∧ (strNums s).getD i 0 < 256 := by
  unfold strNums
  rw [List.getD_eq_getElem?_getD, List.getElem?_map]
  cases h : s.data.toList[i]? with
  | none => simp
  | some b => have := b.toNat_lt; simp; omega
/-- Every byte is a digit by the base. -/
def okd (base : Int) (bs : List Int) : Prop := ∀ i, i < bs.length → vald (bs.getD i 0) < base
/-- What the first i digits stand for. -/
def pacc (base : Int) (bs : List Int) : Nat → Int
  | 0 => 0
  | i + 1 => pacc base bs i * base + vald (bs.getD i 0)
theorem vald_pos (c : Int) : 0 ≤ vald c ∧ vald c ≤ 99 := by unfold vald; split <;> (try split) <;> (try split) <;> omega
theorem pacc_nonneg {base : Int} {bs : List Int} (hb : 0 ≤ base) : ∀ i, 0 ≤ pacc base bs i
  | 0 => Int.le_refl _
  | i + 1 => by
    have := Int.mul_nonneg (pacc_nonneg (bs := bs) hb i) hb
    have := (vald_pos (bs.getD i 0)).1
    show 0 ≤ pacc base bs i * base + vald (bs.getD i 0)
    omega
theorem all_next {base : Int} {bs : List Int} {i : Nat} (h : ∀ j, j < i → vald (bs.getD j 0) < base) (h2 : vald (bs.getD i 0) < base) : ∀ j, j < i + 1 → vald (bs.getD j 0) < base := by
  intro j hj
  rcases Nat.lt_or_ge j i with h3 | h3
  · exact h j h3
  · rw [show j = i by omega]; exact h2
theorem small_top {z : Int} (h0 : -9223372036854775808 ≤ z) (h1 : z ≤ 9223372036854775807) : z.natAbs < top := by
  have := wabs z
  rwa [w64_of h0 h1] at this
theorem vald_top (c : Int) : (vald c).natAbs < top := small_top (by have := vald_pos c; omega) (by have := vald_pos c; omega)
theorem pacc_le {base : Int} {bs : List Int} (hb : 1 ≤ base) (i : Nat) : pacc base bs i ≤ pacc base bs i * base ∧ pacc base bs i * base ≤ pacc base bs (i + 1) := by
  have h0 := pacc_nonneg (bs := bs) (show 0 ≤ base by omega) i
  refine ⟨?_, ?_⟩
  · have := Int.mul_le_mul_of_nonneg_left hb h0
    rwa [Int.mul_one] at this
  · have := (vald_pos (bs.getD i 0)).1
    show _ ≤ pacc base bs i * base + vald (bs.getD i 0)
    omega
theorem pacc_mono {base : Int} {bs : List Int} (hb : 1 ≤ base) {i : Nat} : ∀ {j : Nat}, i ≤ j → pacc base bs i ≤ pacc base bs j
  | 0, h => by rw [show i = 0 by omega]; exact Int.le_refl _
  | j + 1, h => by
    rcases Nat.eq_or_lt_of_le h with h1 | h1
    · rw [h1]; exact Int.le_refl _
    · have h2 := pacc_mono (bs := bs) hb (show i ≤ j by omega)
      have h3 := pacc_le (bs := bs) hb j
      omega
theorem pacc_fit {base : Int} {bs : List Int} {n i : Nat} (hb : 1 ≤ base) (hN : (pacc base bs n).natAbs < top) (hi : i < n) :
    (pacc base bs i).natAbs < top ∧ (pacc base bs i * base).natAbs < top ∧ (pacc base bs i * base + vald (bs.getD (i : Int).toNat 0)).natAbs < top := by
  have h1 := pacc_le (bs := bs) hb i
  have h2 := pacc_mono (bs := bs) hb (show i + 1 ≤ n by omega)
  have h0 := pacc_nonneg (bs := bs) (show 0 ≤ base by omega) i
  have h3 : pacc base bs i * base + vald (bs.getD (i : Int).toNat 0) = pacc base bs (i + 1) := rfl
  rw [h3]
  refine ⟨?_, ?_, ?_⟩ <;> omega
end Go.Proofs.Ytbbakacfhajohaa.Av
namespace Go.Proofs.Ytbbakacfhajohaa.Av
set_option linter.unusedVariables false
set_option linter.unusedSimpArgs false
set_option maxRecDepth 20000
set_option maxHeartbeats 1000000

def p0S (s : ByteArray) (base : Int) (i : Nat) : St := ⟨[(0, .c (.sc (.v (.string s)))), (1, .c (.sc (.v (.int .i64 base)))), (4, .c (.sc (.p 4 0))), (5, .c (.sc (.v .nilIface))), (36, .c (.sc (.rs .u8 (strNums s)))), (37, .c (.sc (.v (.int .i64 ((strNums s).length : Int))))), (38, .c (.sc (.v (.int .i64 ((i : Nat) : Int)))))], [(4, .sg 25 [.one (.v (.bool false)), .row .u64 8 z8])]⟩
theorem p0_loop {s : ByteArray} {base : Int} (hok : okd base (strNums s)) (hlen : (strNums s).length ≤ 9223372036854775806) : LoopT PR 80 (lp Try.f46 0) (p0S s base 0) (.x 1) (p0S s base (strNums s).length) := by
  refine loop_of (fun q st => ∃ i, i ≤ (strNums s).length ∧ q = (strNums s).length - i ∧ st = p0S s base i) (strNums s).length ⟨0, by omega, rfl, rfl⟩ ?_
  rintro q st ⟨i, hi, rfl, rfl⟩
  rcases Nat.lt_or_ge i (strNums s).length with hlt | hge
  · have hb := sn_get s i
    rw [show i = (i : Int).toNat from rfl] at hb
    have hk0 : decide ((i : Int) < ((strNums s).length : Int)) = true := by simp; omega
    have hv : decide ((vald ((strNums s).getD (i : Int).toNat 0)) ≥ base) = false := by rw [Int.toNat_natCast]; exact decide_eq_false (by have := hok i hlt; omega)
    exact twE (t := (.leaf [.b true, oP 43 (aI (vald ((strNums s).getD ((i : Nat) : Int).toNat 0))), .b false, .cut [0, 1, 4, 5, 36, 37, 38] [4], .chk (p0S s base (i + 1))])) (fun kq => (aa (show (decide (((i : Nat) : Int) < ((strNums s).length : Int))) = true from hk0) (aa (show 0 ≤ ((i : Nat) : Int) ∧ ((i : Nat) : Int) < ((strNums s).length : Int) from (by first | omega | (refine ⟨?_, ?_⟩ <;> omega))) (aa (cP Try.f46 8 1 (value_ok ((strNums s).getD ((i : Nat) : Int).toNat 0) (by first | assumption | omega) (by first | assumption | omega))) (aa (show (decide ((vald ((strNums s).getD ((i : Nat) : Int).toNat 0)) ≥ base)) = false from hv) (aa (show Ent 80 ⟨[(0, .c (.sc (.v (.string s)))), (1, aI base), (4, aP 4 0), (5, .c (.sc (.v .nilIface))), (36, .c (.sc (.rs .u8 (strNums s)))), (37, aI ((strNums s).length : Int)), (38, aI (IntKind.i64.wrap (((i : Nat) : Int) + (1 : Int))))], [(4, .sg 25 [.one (.v (.bool false)), .row .u64 8 z8])]⟩ (p0S s base (i + 1)) from (ent_eqs (.cons rfl (.cons rfl (.cons rfl (.cons rfl (.cons rfl (.cons rfl (.cons (by rw [w64_of (by omega) (by omega)]; try rfl) .nil))))))) (.cons rfl .nil))) (kq .n (p0S s base (i + 1)) (.inl ⟨rfl, (strNums s).length - (i + 1), by omega, i + 1, by omega, rfl, rfl⟩)))))))) (by kernel_rfl)
  · obtain rfl : i = (strNums s).length := by omega
    have hk0 : decide ((((strNums s).length : Nat) : Int) < ((strNums s).length : Int)) = false := by simp
    exact twE (t := (.leaf [.b false, .cut [0, 1, 4, 5, 36, 37, 38] [4]])) (fun kq => (aa (show (decide ((((strNums s).length : Nat) : Int) < ((strNums s).length : Int))) = false from hk0) (kq (.x 1) (p0S s base (strNums s).length) (.inr ⟨by simp, rfl, rfl⟩)))) (by kernel_rfl)

theorem p0_bad {s : ByteArray} {base : Int} (hok : ¬ okd base (strNums s)) (hlen : (strNums s).length ≤ 9223372036854775806) : LoopT PR 80 (lp Try.f46 0) (p0S s base 0) .r ⟨[(4, .c (.sc (.p 4 0))), (5, .c (.sc (.v (.iface 104 (.int .i64 13)))))], [(4, .sg 25 [.one (.v (.bool false)), .row .u64 8 z8])]⟩ := by
  refine loop_of (fun q st => ∃ i, i ≤ (strNums s).length ∧ (∀ j, j < i → vald ((strNums s).getD j 0) < base) ∧ q = (strNums s).length - i ∧ st = p0S s base i) (strNums s).length ⟨0, by omega, fun j h => by omega, rfl, rfl⟩ ?_
  rintro q st ⟨i, hi, hall, rfl, rfl⟩
  rcases Nat.lt_or_ge i (strNums s).length with hlt | hge
  · have hb := sn_get s i
    rw [show i = (i : Int).toNat from rfl] at hb
    have hk0 : decide ((i : Int) < ((strNums s).length : Int)) = true := by simp; omega
    exact twE (t := (.sp [.b true, oP 43 (aI (vald ((strNums s).getD ((i : Nat) : Int).toNat 0)))] (decide ((vald ((strNums s).getD ((i : Nat) : Int).toNat 0)) ≥ base)) (.leaf [.b true, .cut [4, 5] [4]]) (.leaf [.b false, .cut [0, 1, 4, 5, 36, 37, 38] [4], .chk (p0S s base (i + 1))]))) (fun kq => (aa (show (decide (((i : Nat) : Int) < ((strNums s).length : Int))) = true from hk0) (aa (show 0 ≤ ((i : Nat) : Int) ∧ ((i : Nat) : Int) < ((strNums s).length : Int) from (by first | omega | (refine ⟨?_, ?_⟩ <;> omega))) (aa (cP Try.f46 8 1 (value_ok ((strNums s).getD ((i : Nat) : Int).toNat 0) (by first | assumption | omega) (by first | assumption | omega))) (sb (decide ((vald ((strNums s).getD ((i : Nat) : Int).toNat 0)) ≥ base)) (fun c0 => (aa c0 (kq .r (⟨[(4, aP 4 0), (5, .c (.sc (.v (.iface 104 (.int .i64 13)))))], [(4, .sg 25 [.one (.v (.bool false)), .row .u64 8 z8])]⟩) (.inr ⟨by simp, rfl, rfl⟩)))) (fun c0 => (aa c0 (aa (show Ent 80 ⟨[(0, .c (.sc (.v (.string s)))), (1, aI base), (4, aP 4 0), (5, .c (.sc (.v .nilIface))), (36, .c (.sc (.rs .u8 (strNums s)))), (37, aI ((strNums s).length : Int)), (38, aI (IntKind.i64.wrap (((i : Nat) : Int) + (1 : Int))))], [(4, .sg 25 [.one (.v (.bool false)), .row .u64 8 z8])]⟩ (p0S s base (i + 1)) from (ent_eqs (.cons rfl (.cons rfl (.cons rfl (.cons rfl (.cons rfl (.cons rfl (.cons (by rw [w64_of (by omega) (by omega)]; try rfl) .nil))))))) (.cons rfl .nil))) (kq .n (p0S s base (i + 1)) (.inl ⟨rfl, (strNums s).length - (i + 1), by omega, i + 1, by omega, all_next hall (by have := of_decide_eq_false c0; rw [Int.toNat_natCast] at this; omega), rfl, rfl⟩)))))))))) (by kernel_rfl)
  · exact absurd (fun j hj => hall j (by omega)) hok

def p1S (s : ByteArray) (base : Int) (i : Nat) : St := ⟨[(1, .c (.sc (.v (.int .i64 base)))), (4, .c (.sc (.p 4 0))), (5, .c (.sc (.v .nilIface))), (8, .c (.sc (.p 8 0))), (50, .c (.sc (.rs .u8 (strNums s)))), (51, .c (.sc (.v (.int .i64 ((strNums s).length : Int))))), (52, .c (.sc (.v (.int .i64 ((i : Nat) : Int)))))], [(4, .sg 25 [.one (.v (.bool false)), .row .u64 8 z8]), (8, .sg 25 [.one (.v (.bool (decide (pacc base (strNums s) i < 0)))), .row .u64 8 (ofN (pacc base (strNums s) i).natAbs)])]⟩
theorem p1_loop {s : ByteArray} {base : Int} (hb2 : 2 ≤ base) (hb16 : base ≤ 16) (hlen : (strNums s).length ≤ 9223372036854775806) (hN : (pacc base (strNums s) (strNums s).length).natAbs < top) : LoopT PR 80 (lp Try.f46 1) (p1S s base 0) (.x 3) (p1S s base (strNums s).length) := by
  refine loop_of (fun q st => ∃ i, i ≤ (strNums s).length ∧ q = (strNums s).length - i ∧ st = p1S s base i) (strNums s).length ⟨0, by omega, rfl, rfl⟩ ?_
  rintro q st ⟨i, hi, rfl, rfl⟩
  rcases Nat.lt_or_ge i (strNums s).length with hlt | hge
  · have hb := sn_get s i
    rw [show i = (i : Int).toNat from rfl] at hb
    have hk0 : decide ((i : Int) < ((strNums s).length : Int)) = true := by simp; omega
    have hbt : base.natAbs < top := small_top (by omega) (by omega)
    have hvt := vald_top ((strNums s).getD (i : Int).toNat 0)
    have hvp := vald_pos ((strNums s).getD (i : Int).toNat 0)
    obtain ⟨g1, g2, g3⟩ := pacc_fit (by omega) hN hlt
    exact twE (t := (.leaf [.b true, oP 59 (aG (iS base)), oP 60 (.tu [.ag [.one (.v (.bool (decide ((pacc base (strNums s) i) * base < 0)))), .row .u64 8 (ofN ((pacc base (strNums s) i) * base).natAbs)], .sc (.v .nilIface)]), .b true, oP 68 (aI (vald ((strNums s).getD ((i : Nat) : Int).toNat 0))), oP 69 (aG [.one (.v (.bool (decide (vald ((strNums s).getD ((i : Nat) : Int).toNat 0) < 0)))), .row .u64 8 (ofN (vald ((strNums s).getD ((i : Nat) : Int).toNat 0)).natAbs)]), oP 70 (.tu [.ag [.one (.v (.bool (decide (((pacc base (strNums s) i) * base) + (vald ((strNums s).getD ((i : Nat) : Int).toNat 0)) < 0)))), .row .u64 8 (ofN (((pacc base (strNums s) i) * base) + (vald ((strNums s).getD ((i : Nat) : Int).toNat 0))).natAbs)], .sc (.v .nilIface)]), .b false, .cut [1, 4, 5, 8, 50, 51, 52] [4, 8], .chk (p1S s base (i + 1))])) (fun kq => (aa (show (decide (((i : Nat) : Int) < ((strNums s).length : Int))) = true from hk0) (aa (show 0 ≤ ((i : Nat) : Int) ∧ ((i : Nat) : Int) < ((strNums s).length : Int) from (by first | omega | (refine ⟨?_, ?_⟩ <;> omega))) (aa (cP Try.f46 15 2 (of_ok base (by first | omega | decide | exact w64_lo _) (by first | omega | decide | exact w64_hi _))) (aa (cP Try.f46 15 3 (mul_ok (decide (pacc base (strNums s) i < 0)) (decide (base < 0)) ((pacc base (strNums s) i).natAbs) base.natAbs (by first | assumption | (apply lt_tac; assumption)) (by first | assumption | (apply lt_tac; assumption)) (pacc base (strNums s) i) base (iz_can _) (iz_can _) g2)) (aa tt (aa (cP Try.f46 17 2 (value_ok ((strNums s).getD ((i : Nat) : Int).toNat 0) (by first | assumption | omega) (by first | assumption | omega))) (aa (cP Try.f46 17 3 (of_ok (vald ((strNums s).getD ((i : Nat) : Int).toNat 0)) (by first | omega | decide | exact w64_lo _) (by first | omega | decide | exact w64_hi _))) (aa (cP Try.f46 17 4 (add_ok (decide ((pacc base (strNums s) i) * base < 0)) (decide (vald ((strNums s).getD ((i : Nat) : Int).toNat 0) < 0)) (((pacc base (strNums s) i) * base).natAbs) ((vald ((strNums s).getD ((i : Nat) : Int).toNat 0)).natAbs) (by first | assumption | (apply lt_tac; assumption)) (by first | assumption | (apply lt_tac; assumption)) ((pacc base (strNums s) i) * base) (vald ((strNums s).getD ((i : Nat) : Int).toNat 0)) (iz_can _) (iz_can _) g3)) (aa ff (aa (show Ent 80 ⟨[(1, aI base), (4, aP 4 0), (5, .c (.sc (.v .nilIface))), (8, aP 8 0), (50, .c (.sc (.rs .u8 (strNums s)))), (51, aI ((strNums s).length : Int)), (52, aI (IntKind.i64.wrap (((i : Nat) : Int) + (1 : Int))))], [(4, .sg 25 [.one (.v (.bool false)), .row .u64 8 z8]), (8, .sg 25 [.one (.v (.bool (decide (((pacc base (strNums s) i) * base) + (vald ((strNums s).getD ((i : Nat) : Int).toNat 0)) < 0)))), .row .u64 8 (ofN (((pacc base (strNums s) i) * base) + (vald ((strNums s).getD ((i : Nat) : Int).toNat 0))).natAbs)])]⟩ (p1S s base (i + 1)) from (ent_eqs (.cons rfl (.cons rfl (.cons rfl (.cons rfl (.cons rfl (.cons rfl (.cons (by rw [w64_of (by omega) (by omega)]; try rfl) .nil))))))) (.cons rfl (.cons (rfl) .nil)))) (kq .n (p1S s base (i + 1)) (.inl ⟨rfl, (strNums s).length - (i + 1), by omega, i + 1, by omega, rfl, rfl⟩))))))))))))) (by kernel_rfl)
  · obtain rfl : i = (strNums s).length := by omega
    have hk0 : decide ((((strNums s).length : Nat) : Int) < ((strNums s).length : Int)) = false := by simp
    exact twE (t := (.leaf [.b false, .cut [1, 4, 5, 8, 50, 51, 52] [4, 8]])) (fun kq => (aa (show (decide ((((strNums s).length : Nat) : Int) < ((strNums s).length : Int))) = false from hk0) (kq (.x 3) (p1S s base (strNums s).length) (.inr ⟨by simp, rfl, rfl⟩)))) (by kernel_rfl)

theorem p1_bad {s : ByteArray} {base : Int} (hb2 : 2 ≤ base) (hb16 : base ≤ 16) (hlen : (strNums s).length ≤ 9223372036854775806) (hN : ¬ (pacc base (strNums s) (strNums s).length).natAbs < top) : LoopT PR 80 (lp Try.f46 1) (p1S s base 0) .r ⟨[(4, .c (.sc (.p 4 0))), (5, .c (.sc (.v (.iface 104 (.int .i64 9)))))], [(4, .sg 25 [.one (.v (.bool false)), .row .u64 8 z8])]⟩ := by
  refine loop_of (fun q st => ∃ i, i ≤ (strNums s).length ∧ (pacc base (strNums s) i).natAbs < top ∧ q = (strNums s).length - i ∧ st = p1S s base i) (strNums s).length ⟨0, by omega, top_pos, rfl, rfl⟩ ?_
  rintro q st ⟨i, hi, g1, rfl, rfl⟩
  rcases Nat.lt_or_ge i (strNums s).length with hlt | hge
  · have hb := sn_get s i
    rw [show i = (i : Int).toNat from rfl] at hb
    have hk0 : decide ((i : Int) < ((strNums s).length : Int)) = true := by simp; omega
    have hbt : base.natAbs < top := small_top (by omega) (by omega)
    have hvt := vald_top ((strNums s).getD (i : Int).toNat 0)
    have hvp := vald_pos ((strNums s).getD (i : Int).toNat 0)
    have T0 : (pacc base (strNums s) i).natAbs < top := by first | assumption | (apply lt_tac; assumption)
    have T1 : base.natAbs < top := by first | assumption | (apply lt_tac; assumption)
    have T3 : (vald ((strNums s).getD ((i : Nat) : Int).toNat 0)).natAbs < top := by first | assumption | (apply lt_tac; assumption)
    let S1 : St := ⟨[(4, aP 4 0), (5, .c (.sc (.v (.iface 104 (.int .i64 9)))))], [(4, .sg 25 [.one (.v (.bool false)), .row .u64 8 z8])]⟩
    exact twE (t := (.spP [.b true] (((pacc base (strNums s) i) * base).natAbs < top) (.spP [oP 59 (aG (iS base)), oP 60 (.tu [.ag [.one (.v (.bool (decide ((pacc base (strNums s) i) * base < 0)))), .row .u64 8 (ofN ((pacc base (strNums s) i) * base).natAbs)], .sc (.v .nilIface)]), .b true] ((((pacc base (strNums s) i) * base) + (vald ((strNums s).getD ((i : Nat) : Int).toNat 0))).natAbs < top) (.leaf [oP 68 (aI (vald ((strNums s).getD ((i : Nat) : Int).toNat 0))), oP 69 (aG [.one (.v (.bool (decide (vald ((strNums s).getD ((i : Nat) : Int).toNat 0) < 0)))), .row .u64 8 (ofN (vald ((strNums s).getD ((i : Nat) : Int).toNat 0)).natAbs)]), oP 70 (.tu [.ag [.one (.v (.bool (decide (((pacc base (strNums s) i) * base) + (vald ((strNums s).getD ((i : Nat) : Int).toNat 0)) < 0)))), .row .u64 8 (ofN (((pacc base (strNums s) i) * base) + (vald ((strNums s).getD ((i : Nat) : Int).toNat 0))).natAbs)], .sc (.v .nilIface)]), .b false, .cut [1, 4, 5, 8, 50, 51, 52] [4, 8], .chk (p1S s base (i + 1))]) (.leaf [oP 68 (aI (vald ((strNums s).getD ((i : Nat) : Int).toNat 0))), oP 69 (aG [.one (.v (.bool (decide (vald ((strNums s).getD ((i : Nat) : Int).toNat 0) < 0)))), .row .u64 8 (ofN (vald ((strNums s).getD ((i : Nat) : Int).toNat 0)).natAbs)]), oP 70 (.tu [.ag [.one (.v (.bool false)), .row .u64 8 z8], .sc (.v (.iface 104 (.int .i64 9)))]), .b true, .cut [4, 5] [4]])) (.leaf [oP 59 (aG (iS base)), oP 60 (.tu [.ag [.one (.v (.bool false)), .row .u64 8 z8], .sc (.v (.iface 104 (.int .i64 9)))]), .b false, .b true, .cut [4, 5] [4]]))) (fun kq => (aa (show (decide (((i : Nat) : Int) < ((strNums s).length : Int))) = true from hk0) (sp (((pacc base (strNums s) i) * base).natAbs < top) (fun c0 => (aa (show 0 ≤ ((i : Nat) : Int) ∧ ((i : Nat) : Int) < ((strNums s).length : Int) from (by first | omega | (refine ⟨?_, ?_⟩ <;> omega))) (aa (cP Try.f46 15 2 (of_ok base (by first | omega | decide | exact w64_lo _) (by first | omega | decide | exact w64_hi _))) (aa (cP Try.f46 15 3 (mul_ok (decide (pacc base (strNums s) i < 0)) (decide (base < 0)) ((pacc base (strNums s) i).natAbs) base.natAbs T0 T1 (pacc base (strNums s) i) base (iz_can _) (iz_can _) c0)) (aa tt (sp ((((pacc base (strNums s) i) * base) + (vald ((strNums s).getD ((i : Nat) : Int).toNat 0))).natAbs < top) (fun c1 => (aa (cP Try.f46 17 2 (value_ok ((strNums s).getD ((i : Nat) : Int).toNat 0) (by first | assumption | omega) (by first | assumption | omega))) (aa (cP Try.f46 17 3 (of_ok (vald ((strNums s).getD ((i : Nat) : Int).toNat 0)) (by first | omega | decide | exact w64_lo _) (by first | omega | decide | exact w64_hi _))) (aa (cP Try.f46 17 4 (add_ok (decide ((pacc base (strNums s) i) * base < 0)) (decide (vald ((strNums s).getD ((i : Nat) : Int).toNat 0) < 0)) (((pacc base (strNums s) i) * base).natAbs) ((vald ((strNums s).getD ((i : Nat) : Int).toNat 0)).natAbs) (by first | assumption | (apply lt_tac; assumption)) T3 ((pacc base (strNums s) i) * base) (vald ((strNums s).getD ((i : Nat) : Int).toNat 0)) (iz_can _) (iz_can _) c1)) (aa ff (aa (show Ent 80 ⟨[(1, aI base), (4, aP 4 0), (5, .c (.sc (.v .nilIface))), (8, aP 8 0), (50, .c (.sc (.rs .u8 (strNums s)))), (51, aI ((strNums s).length : Int)), (52, aI (IntKind.i64.wrap (((i : Nat) : Int) + (1 : Int))))], [(4, .sg 25 [.one (.v (.bool false)), .row .u64 8 z8]), (8, .sg 25 [.one (.v (.bool (decide (((pacc base (strNums s) i) * base) + (vald ((strNums s).getD ((i : Nat) : Int).toNat 0)) < 0)))), .row .u64 8 (ofN (((pacc base (strNums s) i) * base) + (vald ((strNums s).getD ((i : Nat) : Int).toNat 0))).natAbs)])]⟩ (p1S s base (i + 1)) from (ent_eqs (.cons rfl (.cons rfl (.cons rfl (.cons rfl (.cons rfl (.cons rfl (.cons (by rw [w64_of (by omega) (by omega)]; try rfl) .nil))))))) (.cons rfl (.cons (rfl) .nil)))) (kq .n (p1S s base (i + 1)) (.inl ⟨rfl, (strNums s).length - (i + 1), by omega, i + 1, by omega, c1, rfl, rfl⟩)))))))) (fun c1 => (aa (cP Try.f46 17 2 (value_ok ((strNums s).getD ((i : Nat) : Int).toNat 0) (by first | assumption | omega) (by first | assumption | omega))) (aa (cP Try.f46 17 3 (of_ok (vald ((strNums s).getD ((i : Nat) : Int).toNat 0)) (by first | omega | decide | exact w64_lo _) (by first | omega | decide | exact w64_hi _))) (aa (cP Try.f46 17 4 (add_no (decide ((pacc base (strNums s) i) * base < 0)) (decide (vald ((strNums s).getD ((i : Nat) : Int).toNat 0) < 0)) (((pacc base (strNums s) i) * base).natAbs) ((vald ((strNums s).getD ((i : Nat) : Int).toNat 0)).natAbs) (by first | assumption | (apply lt_tac; assumption)) T3 ((pacc base (strNums s) i) * base) (vald ((strNums s).getD ((i : Nat) : Int).toNat 0)) (iz_can _) (iz_can _) c1)) (aa tt (kq .r S1 (.inr ⟨by simp, rfl, rfl⟩))))))))))))) (fun c0 => (aa (show 0 ≤ ((i : Nat) : Int) ∧ ((i : Nat) : Int) < ((strNums s).length : Int) from (by first | omega | (refine ⟨?_, ?_⟩ <;> omega))) (aa (cP Try.f46 15 2 (of_ok base (by first | omega | decide | exact w64_lo _) (by first | omega | decide | exact w64_hi _))) (aa (cP Try.f46 15 3 (mul_no (decide (pacc base (strNums s) i < 0)) (decide (base < 0)) ((pacc base (strNums s) i).natAbs) base.natAbs T0 T1 (pacc base (strNums s) i) base (iz_can _) (iz_can _) c0)) (aa ff (aa tt (kq .r S1 (.inr ⟨by simp, rfl, rfl⟩))))))))))) (by kernel_rfl)
  · exact absurd (by rw [show (strNums s).length = i by omega]; exact g1) hN

theorem parse_arg (s : ByteArray) (base : Int) (h2 : base ≠ 2) (h8 : base ≠ 8) (h10 : base ≠ 10) (h16 : base ≠ 16) : Fn PR 46 [.sc (.v (.string s)), kI base] (.tu [.ag [.one (.v (.bool false)), .row .u64 8 z8], .sc (.v (.iface 104 (.int .i64 1)))]) := by
  exact fwE (t := (.leaf [.b true, .b true, .b true, .b true, .b true, .b true, .b true, .cut [4, 5] [4]])) Try.func46 (fun ke => (aa (show (base != (2 : Int)) = true from (bne_iff_ne.2 h2)) (aa (show (base != (2 : Int)) = true from (bne_iff_ne.2 h2)) (aa (bif_t (y := false) (show (base != (2 : Int)) = true from (bne_iff_ne.2 h2)) (show (base != (8 : Int)) = true from (bne_iff_ne.2 h8))) (aa (bif_t (y := false) (show (base != (2 : Int)) = true from (bne_iff_ne.2 h2)) (show (base != (8 : Int)) = true from (bne_iff_ne.2 h8))) (aa (bif_t (y := false) (bif_t (y := false) (show (base != (2 : Int)) = true from (bne_iff_ne.2 h2)) (show (base != (8 : Int)) = true from (bne_iff_ne.2 h8))) (show (base != (10 : Int)) = true from (bne_iff_ne.2 h10))) (aa (bif_t (y := false) (bif_t (y := false) (show (base != (2 : Int)) = true from (bne_iff_ne.2 h2)) (show (base != (8 : Int)) = true from (bne_iff_ne.2 h8))) (show (base != (10 : Int)) = true from (bne_iff_ne.2 h10))) (aa (bif_t (y := false) (bif_t (y := false) (bif_t (y := false) (show (base != (2 : Int)) = true from (bne_iff_ne.2 h2)) (show (base != (8 : Int)) = true from (bne_iff_ne.2 h8))) (show (base != (10 : Int)) = true from (bne_iff_ne.2 h10))) (show (base != (16 : Int)) = true from (bne_iff_ne.2 h16))) ke)))))))) (by kernel_rfl)

theorem parse_cut (s : ByteArray) (base : Int) (hbase : base = 2 ∨ base = 8 ∨ base = 10 ∨ base = 16) (he : (s.toList == ByteArray.empty.toList) = true) : Fn PR 46 [.sc (.v (.string s)), kI base] (.tu [.ag [.one (.v (.bool false)), .row .u64 8 z8], .sc (.v (.iface 104 (.int .i64 12)))]) := by
  rcases Bool.eq_false_or_eq_true (base != (2 : Int)) with c0 | c0
  · rcases Bool.eq_false_or_eq_true (base != (8 : Int)) with c1 | c1
    · rcases Bool.eq_false_or_eq_true (base != (10 : Int)) with c2 | c2
      · rcases Bool.eq_false_or_eq_true (base != (16 : Int)) with c3 | c3
        · exact absurd hbase (by simp at c0 c1 c2 c3; omega)
        · exact fwE (t := (.leaf [.b true, .b true, .b true, .b true, .b true, .b true, .b false, .b true, .cut [4, 5] [4]])) Try.func46 (fun ke => (aa c0 (aa c0 (aa (bif_t (y := false) c0 c1) (aa (bif_t (y := false) c0 c1) (aa (bif_t (y := false) (bif_t (y := false) c0 c1) c2) (aa (bif_t (y := false) (bif_t (y := false) c0 c1) c2) (aa (bif_t (y := false) (bif_t (y := false) (bif_t (y := false) c0 c1) c2) c3) (aa (show (s.toList == ByteArray.empty.toList) = true from he) ke))))))))) (by kernel_rfl)
      · exact fwE (t := (.leaf [.b true, .b true, .b true, .b true, .b false, .b false, .b false, .b true, .cut [4, 5] [4]])) Try.func46 (fun ke => (aa c0 (aa c0 (aa (bif_t (y := false) c0 c1) (aa (bif_t (y := false) c0 c1) (aa (bif_t (y := false) (bif_t (y := false) c0 c1) c2) (aa (bif_t (y := false) (bif_t (y := false) c0 c1) c2) (aa (bif_t (y := false) (bif_t (y := false) c0 c1) c2) (aa ff (aa (show (s.toList == ByteArray.empty.toList) = true from he) ke)))))))))) (by kernel_rfl)
    · exact fwE (t := (.leaf [.b true, .b true, .b false, .b false, .b false, .b false, .b false, .b true, .cut [4, 5] [4]])) Try.func46 (fun ke => (aa c0 (aa c0 (aa (bif_t (y := false) c0 c1) (aa (bif_t (y := false) c0 c1) (aa (bif_t (y := false) c0 c1) (aa ff (aa ff (aa ff (aa ff (aa (show (s.toList == ByteArray.empty.toList) = true from he) ke))))))))))) (by kernel_rfl)
  · exact fwE (t := (.leaf [.b false, .b false, .b false, .b false, .b false, .b false, .b false, .b true, .cut [4, 5] [4]])) Try.func46 (fun ke => (aa c0 (aa c0 (aa c0 (aa ff (aa ff (aa ff (aa ff (aa ff (aa ff (aa ff (aa (show (s.toList == ByteArray.empty.toList) = true from he) ke)))))))))))) (by kernel_rfl)

theorem parse_digit (s : ByteArray) (base : Int) (hbase : base = 2 ∨ base = 8 ∨ base = 10 ∨ base = 16) (he : (s.toList == ByteArray.empty.toList) = false) (hlen : (strNums s).length ≤ 9223372036854775806) (hok : ¬ okd base (strNums s)) : Fn PR 46 [.sc (.v (.string s)), kI base] (.tu [.ag [.one (.v (.bool false)), .row .u64 8 z8], .sc (.v (.iface 104 (.int .i64 13)))]) := by
  rcases Bool.eq_false_or_eq_true (base != (2 : Int)) with c0 | c0
  · rcases Bool.eq_false_or_eq_true (base != (8 : Int)) with c1 | c1
    · rcases Bool.eq_false_or_eq_true (base != (10 : Int)) with c2 | c2
      · rcases Bool.eq_false_or_eq_true (base != (16 : Int)) with c3 | c3
        · exact absurd hbase (by simp at c0 c1 c2 c3; omega)
        · let S1 : St := ⟨[(4, aP 4 0), (5, .c (.sc (.v (.iface 104 (.int .i64 13)))))], [(4, .sg 25 [.one (.v (.bool false)), .row .u64 8 z8])]⟩
          exact fwE (t := (.leaf [.b true, .b true, .b true, .b true, .b true, .b true, .b false, .b false, .cut [0, 1, 4, 5, 36, 37, 38] [4], .chk (p0S s base 0), .lp .r S1, .cut [4, 5] [4]])) Try.func46 (fun ke => (aa c0 (aa c0 (aa (bif_t (y := false) c0 c1) (aa (bif_t (y := false) c0 c1) (aa (bif_t (y := false) (bif_t (y := false) c0 c1) c2) (aa (bif_t (y := false) (bif_t (y := false) c0 c1) c2) (aa (bif_t (y := false) (bif_t (y := false) (bif_t (y := false) c0 c1) c2) c3) (aa (show (s.toList == ByteArray.empty.toList) = false from he) (aa (show Ent 80 ⟨[(0, .c (.sc (.v (.string s)))), (1, aI base), (4, aP 4 0), (5, .c (.sc (.v .nilIface))), (36, .c (.sc (.rs .u8 (strNums s)))), (37, aI ((strNums s).length : Int)), (38, aI 0)], [(4, .sg 25 [.one (.v (.bool false)), .row .u64 8 z8])]⟩ (p0S s base 0) from (ent_eqs (.cons rfl (.cons rfl (.cons rfl (.cons rfl (.cons rfl (.cons rfl (.cons rfl .nil))))))) (.cons rfl .nil))) (aa (show LoopT PR 80 (lp Try.f46 0) (p0S s base 0) .r S1 from (p0_bad hok hlen)) ke))))))))))) (by kernel_rfl)
      · let S1 : St := ⟨[(4, aP 4 0), (5, .c (.sc (.v (.iface 104 (.int .i64 13)))))], [(4, .sg 25 [.one (.v (.bool false)), .row .u64 8 z8])]⟩
        exact fwE (t := (.leaf [.b true, .b true, .b true, .b true, .b false, .b false, .b false, .b false, .cut [0, 1, 4, 5, 36, 37, 38] [4], .chk (p0S s base 0), .lp .r S1, .cut [4, 5] [4]])) Try.func46 (fun ke => (aa c0 (aa c0 (aa (bif_t (y := false) c0 c1) (aa (bif_t (y := false) c0 c1) (aa (bif_t (y := false) (bif_t (y := false) c0 c1) c2) (aa (bif_t (y := false) (bif_t (y := false) c0 c1) c2) (aa (bif_t (y := false) (bif_t (y := false) c0 c1) c2) (aa ff (aa (show (s.toList == ByteArray.empty.toList) = false from he) (aa (show Ent 80 ⟨[(0, .c (.sc (.v (.string s)))), (1, aI base), (4, aP 4 0), (5, .c (.sc (.v .nilIface))), (36, .c (.sc (.rs .u8 (strNums s)))), (37, aI ((strNums s).length : Int)), (38, aI 0)], [(4, .sg 25 [.one (.v (.bool false)), .row .u64 8 z8])]⟩ (p0S s base 0) from (ent_eqs (.cons rfl (.cons rfl (.cons rfl (.cons rfl (.cons rfl (.cons rfl (.cons rfl .nil))))))) (.cons rfl .nil))) (aa (show LoopT PR 80 (lp Try.f46 0) (p0S s base 0) .r S1 from (p0_bad hok hlen)) ke)))))))))))) (by kernel_rfl)
    · let S1 : St := ⟨[(4, aP 4 0), (5, .c (.sc (.v (.iface 104 (.int .i64 13)))))], [(4, .sg 25 [.one (.v (.bool false)), .row .u64 8 z8])]⟩
      exact fwE (t := (.leaf [.b true, .b true, .b false, .b false, .b false, .b false, .b false, .b false, .cut [0, 1, 4, 5, 36, 37, 38] [4], .chk (p0S s base 0), .lp .r S1, .cut [4, 5] [4]])) Try.func46 (fun ke => (aa c0 (aa c0 (aa (bif_t (y := false) c0 c1) (aa (bif_t (y := false) c0 c1) (aa (bif_t (y := false) c0 c1) (aa ff (aa ff (aa ff (aa ff (aa (show (s.toList == ByteArray.empty.toList) = false from he) (aa (show Ent 80 ⟨[(0, .c (.sc (.v (.string s)))), (1, aI base), (4, aP 4 0), (5, .c (.sc (.v .nilIface))), (36, .c (.sc (.rs .u8 (strNums s)))), (37, aI ((strNums s).length : Int)), (38, aI 0)], [(4, .sg 25 [.one (.v (.bool false)), .row .u64 8 z8])]⟩ (p0S s base 0) from (ent_eqs (.cons rfl (.cons rfl (.cons rfl (.cons rfl (.cons rfl (.cons rfl (.cons rfl .nil))))))) (.cons rfl .nil))) (aa (show LoopT PR 80 (lp Try.f46 0) (p0S s base 0) .r S1 from (p0_bad hok hlen)) ke))))))))))))) (by kernel_rfl)
  · let S1 : St := ⟨[(4, aP 4 0), (5, .c (.sc (.v (.iface 104 (.int .i64 13)))))], [(4, .sg 25 [.one (.v (.bool false)), .row .u64 8 z8])]⟩
    exact fwE (t := (.leaf [.b false, .b false, .b false, .b false, .b false, .b false, .b false, .b false, .cut [0, 1, 4, 5, 36, 37, 38] [4], .chk (p0S s base 0), .lp .r S1, .cut [4, 5] [4]])) Try.func46 (fun ke => (aa c0 (aa c0 (aa c0 (aa ff (aa ff (aa ff (aa ff (aa ff (aa ff (aa ff (aa (show (s.toList == ByteArray.empty.toList) = false from he) (aa (show Ent 80 ⟨[(0, .c (.sc (.v (.string s)))), (1, aI base), (4, aP 4 0), (5, .c (.sc (.v .nilIface))), (36, .c (.sc (.rs .u8 (strNums s)))), (37, aI ((strNums s).length : Int)), (38, aI 0)], [(4, .sg 25 [.one (.v (.bool false)), .row .u64 8 z8])]⟩ (p0S s base 0) from (ent_eqs (.cons rfl (.cons rfl (.cons rfl (.cons rfl (.cons rfl (.cons rfl (.cons rfl .nil))))))) (.cons rfl .nil))) (aa (show LoopT PR 80 (lp Try.f46 0) (p0S s base 0) .r S1 from (p0_bad hok hlen)) ke)))))))))))))) (by kernel_rfl)

theorem parse_over (s : ByteArray) (base : Int) (hbase : base = 2 ∨ base = 8 ∨ base = 10 ∨ base = 16) (he : (s.toList == ByteArray.empty.toList) = false) (hlen : (strNums s).length ≤ 9223372036854775806) (hok : okd base (strNums s)) (hN : ¬ (pacc base (strNums s) (strNums s).length).natAbs < top) : Fn PR 46 [.sc (.v (.string s)), kI base] (.tu [.ag [.one (.v (.bool false)), .row .u64 8 z8], .sc (.v (.iface 104 (.int .i64 9)))]) := by
  rcases Bool.eq_false_or_eq_true (base != (2 : Int)) with c0 | c0
  · rcases Bool.eq_false_or_eq_true (base != (8 : Int)) with c1 | c1
    · rcases Bool.eq_false_or_eq_true (base != (10 : Int)) with c2 | c2
      · rcases Bool.eq_false_or_eq_true (base != (16 : Int)) with c3 | c3
        · exact absurd hbase (by simp at c0 c1 c2 c3; omega)
        · let S2 : St := ⟨[(4, aP 4 0), (5, .c (.sc (.v (.iface 104 (.int .i64 9)))))], [(4, .sg 25 [.one (.v (.bool false)), .row .u64 8 z8])]⟩
          exact fwE (t := (.leaf [.b true, .b true, .b true, .b true, .b true, .b true, .b false, .b false, .cut [0, 1, 4, 5, 36, 37, 38] [4], .chk (p0S s base 0), .lp (.x 1) (p0S s base (strNums s).length), .cut [1, 4, 5, 8, 50, 51, 52] [4, 8], .chk (p1S s base 0), .lp .r S2, .cut [4, 5] [4]])) Try.func46 (fun ke => (aa c0 (aa c0 (aa (bif_t (y := false) c0 c1) (aa (bif_t (y := false) c0 c1) (aa (bif_t (y := false) (bif_t (y := false) c0 c1) c2) (aa (bif_t (y := false) (bif_t (y := false) c0 c1) c2) (aa (bif_t (y := false) (bif_t (y := false) (bif_t (y := false) c0 c1) c2) c3) (aa (show (s.toList == ByteArray.empty.toList) = false from he) (aa (show Ent 80 ⟨[(0, .c (.sc (.v (.string s)))), (1, aI base), (4, aP 4 0), (5, .c (.sc (.v .nilIface))), (36, .c (.sc (.rs .u8 (strNums s)))), (37, aI ((strNums s).length : Int)), (38, aI 0)], [(4, .sg 25 [.one (.v (.bool false)), .row .u64 8 z8])]⟩ (p0S s base 0) from (ent_eqs (.cons rfl (.cons rfl (.cons rfl (.cons rfl (.cons rfl (.cons rfl (.cons rfl .nil))))))) (.cons rfl .nil))) (aa (show LoopT PR 80 (lp Try.f46 0) (p0S s base 0) (.x 1) (p0S s base (strNums s).length) from (p0_loop hok hlen)) (aa (show Ent 80 ⟨[(1, aI base), (4, aP 4 0), (5, .c (.sc (.v .nilIface))), (8, aP 8 0), (50, .c (.sc (.rs .u8 (strNums s)))), (51, aI ((strNums s).length : Int)), (52, aI 0)], [(4, .sg 25 [.one (.v (.bool false)), .row .u64 8 z8]), (8, .sg 25 [.one (.v (.bool false)), .row .u64 8 z8])]⟩ (p1S s base 0) from (ent_eqs (.cons rfl (.cons rfl (.cons rfl (.cons rfl (.cons rfl (.cons rfl (.cons rfl .nil))))))) (.cons rfl (.cons (by rw [z8_eq]; try rfl) .nil)))) (aa (show LoopT PR 80 (lp Try.f46 1) (p1S s base 0) .r S2 from (p1_bad (by omega) (by omega) hlen hN)) ke))))))))))))) (by kernel_rfl)
      · let S2 : St := ⟨[(4, aP 4 0), (5, .c (.sc (.v (.iface 104 (.int .i64 9)))))], [(4, .sg 25 [.one (.v (.bool false)), .row .u64 8 z8])]⟩
        exact fwE (t := (.leaf [.b true, .b true, .b true, .b true, .b false, .b false, .b false, .b false, .cut [0, 1, 4, 5, 36, 37, 38] [4], .chk (p0S s base 0), .lp (.x 1) (p0S s base (strNums s).length), .cut [1, 4, 5, 8, 50, 51, 52] [4, 8], .chk (p1S s base 0), .lp .r S2, .cut [4, 5] [4]])) Try.func46 (fun ke => (aa c0 (aa c0 (aa (bif_t (y := false) c0 c1) (aa (bif_t (y := false) c0 c1) (aa (bif_t (y := false) (bif_t (y := false) c0 c1) c2) (aa (bif_t (y := false) (bif_t (y := false) c0 c1) c2) (aa (bif_t (y := false) (bif_t (y := false) c0 c1) c2) (aa ff (aa (show (s.toList == ByteArray.empty.toList) = false from he) (aa (show Ent 80 ⟨[(0, .c (.sc (.v (.string s)))), (1, aI base), (4, aP 4 0), (5, .c (.sc (.v .nilIface))), (36, .c (.sc (.rs .u8 (strNums s)))), (37, aI ((strNums s).length : Int)), (38, aI 0)], [(4, .sg 25 [.one (.v (.bool false)), .row .u64 8 z8])]⟩ (p0S s base 0) from (ent_eqs (.cons rfl (.cons rfl (.cons rfl (.cons rfl (.cons rfl (.cons rfl (.cons rfl .nil))))))) (.cons rfl .nil))) (aa (show LoopT PR 80 (lp Try.f46 0) (p0S s base 0) (.x 1) (p0S s base (strNums s).length) from (p0_loop hok hlen)) (aa (show Ent 80 ⟨[(1, aI base), (4, aP 4 0), (5, .c (.sc (.v .nilIface))), (8, aP 8 0), (50, .c (.sc (.rs .u8 (strNums s)))), (51, aI ((strNums s).length : Int)), (52, aI 0)], [(4, .sg 25 [.one (.v (.bool false)), .row .u64 8 z8]), (8, .sg 25 [.one (.v (.bool false)), .row .u64 8 z8])]⟩ (p1S s base 0) from (ent_eqs (.cons rfl (.cons rfl (.cons rfl (.cons rfl (.cons rfl (.cons rfl (.cons rfl .nil))))))) (.cons rfl (.cons (by rw [z8_eq]; try rfl) .nil)))) (aa (show LoopT PR 80 (lp Try.f46 1) (p1S s base 0) .r S2 from (p1_bad (by omega) (by omega) hlen hN)) ke)))))))))))))) (by kernel_rfl)
    · let S2 : St := ⟨[(4, aP 4 0), (5, .c (.sc (.v (.iface 104 (.int .i64 9)))))], [(4, .sg 25 [.one (.v (.bool false)), .row .u64 8 z8])]⟩
      exact fwE (t := (.leaf [.b true, .b true, .b false, .b false, .b false, .b false, .b false, .b false, .cut [0, 1, 4, 5, 36, 37, 38] [4], .chk (p0S s base 0), .lp (.x 1) (p0S s base (strNums s).length), .cut [1, 4, 5, 8, 50, 51, 52] [4, 8], .chk (p1S s base 0), .lp .r S2, .cut [4, 5] [4]])) Try.func46 (fun ke => (aa c0 (aa c0 (aa (bif_t (y := false) c0 c1) (aa (bif_t (y := false) c0 c1) (aa (bif_t (y := false) c0 c1) (aa ff (aa ff (aa ff (aa ff (aa (show (s.toList == ByteArray.empty.toList) = false from he) (aa (show Ent 80 ⟨[(0, .c (.sc (.v (.string s)))), (1, aI base), (4, aP 4 0), (5, .c (.sc (.v .nilIface))), (36, .c (.sc (.rs .u8 (strNums s)))), (37, aI ((strNums s).length : Int)), (38, aI 0)], [(4, .sg 25 [.one (.v (.bool false)), .row .u64 8 z8])]⟩ (p0S s base 0) from (ent_eqs (.cons rfl (.cons rfl (.cons rfl (.cons rfl (.cons rfl (.cons rfl (.cons rfl .nil))))))) (.cons rfl .nil))) (aa (show LoopT PR 80 (lp Try.f46 0) (p0S s base 0) (.x 1) (p0S s base (strNums s).length) from (p0_loop hok hlen)) (aa (show Ent 80 ⟨[(1, aI base), (4, aP 4 0), (5, .c (.sc (.v .nilIface))), (8, aP 8 0), (50, .c (.sc (.rs .u8 (strNums s)))), (51, aI ((strNums s).length : Int)), (52, aI 0)], [(4, .sg 25 [.one (.v (.bool false)), .row .u64 8 z8]), (8, .sg 25 [.one (.v (.bool false)), .row .u64 8 z8])]⟩ (p1S s base 0) from (ent_eqs (.cons rfl (.cons rfl (.cons rfl (.cons rfl (.cons rfl (.cons rfl (.cons rfl .nil))))))) (.cons rfl (.cons (by rw [z8_eq]; try rfl) .nil)))) (aa (show LoopT PR 80 (lp Try.f46 1) (p1S s base 0) .r S2 from (p1_bad (by omega) (by omega) hlen hN)) ke))))))))))))))) (by kernel_rfl)
  · let S2 : St := ⟨[(4, aP 4 0), (5, .c (.sc (.v (.iface 104 (.int .i64 9)))))], [(4, .sg 25 [.one (.v (.bool false)), .row .u64 8 z8])]⟩
    exact fwE (t := (.leaf [.b false, .b false, .b false, .b false, .b false, .b false, .b false, .b false, .cut [0, 1, 4, 5, 36, 37, 38] [4], .chk (p0S s base 0), .lp (.x 1) (p0S s base (strNums s).length), .cut [1, 4, 5, 8, 50, 51, 52] [4, 8], .chk (p1S s base 0), .lp .r S2, .cut [4, 5] [4]])) Try.func46 (fun ke => (aa c0 (aa c0 (aa c0 (aa ff (aa ff (aa ff (aa ff (aa ff (aa ff (aa ff (aa (show (s.toList == ByteArray.empty.toList) = false from he) (aa (show Ent 80 ⟨[(0, .c (.sc (.v (.string s)))), (1, aI base), (4, aP 4 0), (5, .c (.sc (.v .nilIface))), (36, .c (.sc (.rs .u8 (strNums s)))), (37, aI ((strNums s).length : Int)), (38, aI 0)], [(4, .sg 25 [.one (.v (.bool false)), .row .u64 8 z8])]⟩ (p0S s base 0) from (ent_eqs (.cons rfl (.cons rfl (.cons rfl (.cons rfl (.cons rfl (.cons rfl (.cons rfl .nil))))))) (.cons rfl .nil))) (aa (show LoopT PR 80 (lp Try.f46 0) (p0S s base 0) (.x 1) (p0S s base (strNums s).length) from (p0_loop hok hlen)) (aa (show Ent 80 ⟨[(1, aI base), (4, aP 4 0), (5, .c (.sc (.v .nilIface))), (8, aP 8 0), (50, .c (.sc (.rs .u8 (strNums s)))), (51, aI ((strNums s).length : Int)), (52, aI 0)], [(4, .sg 25 [.one (.v (.bool false)), .row .u64 8 z8]), (8, .sg 25 [.one (.v (.bool false)), .row .u64 8 z8])]⟩ (p1S s base 0) from (ent_eqs (.cons rfl (.cons rfl (.cons rfl (.cons rfl (.cons rfl (.cons rfl (.cons rfl .nil))))))) (.cons rfl (.cons (by rw [z8_eq]; try rfl) .nil)))) (aa (show LoopT PR 80 (lp Try.f46 1) (p1S s base 0) .r S2 from (p1_bad (by omega) (by omega) hlen hN)) ke)))))))))))))))) (by kernel_rfl)

theorem parse_ok (s : ByteArray) (base : Int) (hbase : base = 2 ∨ base = 8 ∨ base = 10 ∨ base = 16) (he : (s.toList == ByteArray.empty.toList) = false) (hlen : (strNums s).length ≤ 9223372036854775806) (hok : okd base (strNums s)) (hN : (pacc base (strNums s) (strNums s).length).natAbs < top) : Fn PR 46 [.sc (.v (.string s)), kI base] (.tu [.ag [.one (.v (.bool (decide (pacc base (strNums s) (strNums s).length < 0)))), .row .u64 8 (ofN (pacc base (strNums s) (strNums s).length).natAbs)], .sc (.v .nilIface)]) := by
  rcases Bool.eq_false_or_eq_true (base != (2 : Int)) with c0 | c0
  · rcases Bool.eq_false_or_eq_true (base != (8 : Int)) with c1 | c1
    · rcases Bool.eq_false_or_eq_true (base != (10 : Int)) with c2 | c2
      · rcases Bool.eq_false_or_eq_true (base != (16 : Int)) with c3 | c3
        · exact absurd hbase (by simp at c0 c1 c2 c3; omega)
        · let S3 : St := ⟨[(4, aP 4 0), (5, .c (.sc (.v .nilIface)))], [(4, .sg 25 [.one (.v (.bool (decide (pacc base (strNums s) (strNums s).length < 0)))), .row .u64 8 (ofN (pacc base (strNums s) (strNums s).length).natAbs)])]⟩
          exact fwE (t := (.leaf [.b true, .b true, .b true, .b true, .b true, .b true, .b false, .b false, .cut [0, 1, 4, 5, 36, 37, 38] [4], .chk (p0S s base 0), .lp (.x 1) (p0S s base (strNums s).length), .cut [1, 4, 5, 8, 50, 51, 52] [4, 8], .chk (p1S s base 0), .lp (.x 3) (p1S s base (strNums s).length), .cut [4, 5] [4], .chk S3])) Try.func46 (fun ke => (aa c0 (aa c0 (aa (bif_t (y := false) c0 c1) (aa (bif_t (y := false) c0 c1) (aa (bif_t (y := false) (bif_t (y := false) c0 c1) c2) (aa (bif_t (y := false) (bif_t (y := false) c0 c1) c2) (aa (bif_t (y := false) (bif_t (y := false) (bif_t (y := false) c0 c1) c2) c3) (aa (show (s.toList == ByteArray.empty.toList) = false from he) (aa (show Ent 80 ⟨[(0, .c (.sc (.v (.string s)))), (1, aI base), (4, aP 4 0), (5, .c (.sc (.v .nilIface))), (36, .c (.sc (.rs .u8 (strNums s)))), (37, aI ((strNums s).length : Int)), (38, aI 0)], [(4, .sg 25 [.one (.v (.bool false)), .row .u64 8 z8])]⟩ (p0S s base 0) from (ent_eqs (.cons rfl (.cons rfl (.cons rfl (.cons rfl (.cons rfl (.cons rfl (.cons rfl .nil))))))) (.cons rfl .nil))) (aa (show LoopT PR 80 (lp Try.f46 0) (p0S s base 0) (.x 1) (p0S s base (strNums s).length) from (p0_loop hok hlen)) (aa (show Ent 80 ⟨[(1, aI base), (4, aP 4 0), (5, .c (.sc (.v .nilIface))), (8, aP 8 0), (50, .c (.sc (.rs .u8 (strNums s)))), (51, aI ((strNums s).length : Int)), (52, aI 0)], [(4, .sg 25 [.one (.v (.bool false)), .row .u64 8 z8]), (8, .sg 25 [.one (.v (.bool false)), .row .u64 8 z8])]⟩ (p1S s base 0) from (ent_eqs (.cons rfl (.cons rfl (.cons rfl (.cons rfl (.cons rfl (.cons rfl (.cons rfl .nil))))))) (.cons rfl (.cons (by rw [z8_eq]; try rfl) .nil)))) (aa (show LoopT PR 80 (lp Try.f46 1) (p1S s base 0) (.x 3) (p1S s base (strNums s).length) from (p1_loop (by omega) (by omega) hlen hN)) (aa (show Ent 80 ⟨[(4, aP 4 0), (5, .c (.sc (.v .nilIface)))], [(4, .sg 25 [.one (.v (.bool (decide (pacc base (strNums s) ((strNums s).length) < 0)))), .row .u64 8 (ofN (pacc base (strNums s) ((strNums s).length)).natAbs)])]⟩ S3 from (ent_eqs (.cons rfl (.cons rfl .nil)) (.cons (rfl) .nil))) ke)))))))))))))) (by kernel_rfl)
      · let S3 : St := ⟨[(4, aP 4 0), (5, .c (.sc (.v .nilIface)))], [(4, .sg 25 [.one (.v (.bool (decide (pacc base (strNums s) (strNums s).length < 0)))), .row .u64 8 (ofN (pacc base (strNums s) (strNums s).length).natAbs)])]⟩
        exact fwE (t := (.leaf [.b true, .b true, .b true, .b true, .b false, .b false, .b false, .b false, .cut [0, 1, 4, 5, 36, 37, 38] [4], .chk (p0S s base 0), .lp (.x 1) (p0S s base (strNums s).length), .cut [1, 4, 5, 8, 50, 51, 52] [4, 8], .chk (p1S s base 0), .lp (.x 3) (p1S s base (strNums s).length), .cut [4, 5] [4], .chk S3])) Try.func46 (fun ke => (aa c0 (aa c0 (aa (bif_t (y := false) c0 c1) (aa (bif_t (y := false) c0 c1) (aa (bif_t (y := false) (bif_t (y := false) c0 c1) c2) (aa (bif_t (y := false) (bif_t (y := false) c0 c1) c2) (aa (bif_t (y := false) (bif_t (y := false) c0 c1) c2) (aa ff (aa (show (s.toList == ByteArray.empty.toList) = false from he) (aa (show Ent 80 ⟨[(0, .c (.sc (.v (.string s)))), (1, aI base), (4, aP 4 0), (5, .c (.sc (.v .nilIface))), (36, .c (.sc (.rs .u8 (strNums s)))), (37, aI ((strNums s).length : Int)), (38, aI 0)], [(4, .sg 25 [.one (.v (.bool false)), .row .u64 8 z8])]⟩ (p0S s base 0) from (ent_eqs (.cons rfl (.cons rfl (.cons rfl (.cons rfl (.cons rfl (.cons rfl (.cons rfl .nil))))))) (.cons rfl .nil))) (aa (show LoopT PR 80 (lp Try.f46 0) (p0S s base 0) (.x 1) (p0S s base (strNums s).length) from (p0_loop hok hlen)) (aa (show Ent 80 ⟨[(1, aI base), (4, aP 4 0), (5, .c (.sc (.v .nilIface))), (8, aP 8 0), (50, .c (.sc (.rs .u8 (strNums s)))), (51, aI ((strNums s).length : Int)), (52, aI 0)], [(4, .sg 25 [.one (.v (.bool false)), .row .u64 8 z8]), (8, .sg 25 [.one (.v (.bool false)), .row .u64 8 z8])]⟩ (p1S s base 0) from (ent_eqs (.cons rfl (.cons rfl (.cons rfl (.cons rfl (.cons rfl (.cons rfl (.cons rfl .nil))))))) (.cons rfl (.cons (by rw [z8_eq]; try rfl) .nil)))) (aa (show LoopT PR 80 (lp Try.f46 1) (p1S s base 0) (.x 3) (p1S s base (strNums s).length) from (p1_loop (by omega) (by omega) hlen hN)) (aa (show Ent 80 ⟨[(4, aP 4 0), (5, .c (.sc (.v .nilIface)))], [(4, .sg 25 [.one (.v (.bool (decide (pacc base (strNums s) ((strNums s).length) < 0)))), .row .u64 8 (ofN (pacc base (strNums s) ((strNums s).length)).natAbs)])]⟩ S3 from (ent_eqs (.cons rfl (.cons rfl .nil)) (.cons (rfl) .nil))) ke))))))))))))))) (by kernel_rfl)
    · let S3 : St := ⟨[(4, aP 4 0), (5, .c (.sc (.v .nilIface)))], [(4, .sg 25 [.one (.v (.bool (decide (pacc base (strNums s) (strNums s).length < 0)))), .row .u64 8 (ofN (pacc base (strNums s) (strNums s).length).natAbs)])]⟩
      exact fwE (t := (.leaf [.b true, .b true, .b false, .b false, .b false, .b false, .b false, .b false, .cut [0, 1, 4, 5, 36, 37, 38] [4], .chk (p0S s base 0), .lp (.x 1) (p0S s base (strNums s).length), .cut [1, 4, 5, 8, 50, 51, 52] [4, 8], .chk (p1S s base 0), .lp (.x 3) (p1S s base (strNums s).length), .cut [4, 5] [4], .chk S3])) Try.func46 (fun ke => (aa c0 (aa c0 (aa (bif_t (y := false) c0 c1) (aa (bif_t (y := false) c0 c1) (aa (bif_t (y := false) c0 c1) (aa ff (aa ff (aa ff (aa ff (aa (show (s.toList == ByteArray.empty.toList) = false from he) (aa (show Ent 80 ⟨[(0, .c (.sc (.v (.string s)))), (1, aI base), (4, aP 4 0), (5, .c (.sc (.v .nilIface))), (36, .c (.sc (.rs .u8 (strNums s)))), (37, aI ((strNums s).length : Int)), (38, aI 0)], [(4, .sg 25 [.one (.v (.bool false)), .row .u64 8 z8])]⟩ (p0S s base 0) from (ent_eqs (.cons rfl (.cons rfl (.cons rfl (.cons rfl (.cons rfl (.cons rfl (.cons rfl .nil))))))) (.cons rfl .nil))) (aa (show LoopT PR 80 (lp Try.f46 0) (p0S s base 0) (.x 1) (p0S s base (strNums s).length) from (p0_loop hok hlen)) (aa (show Ent 80 ⟨[(1, aI base), (4, aP 4 0), (5, .c (.sc (.v .nilIface))), (8, aP 8 0), (50, .c (.sc (.rs .u8 (strNums s)))), (51, aI ((strNums s).length : Int)), (52, aI 0)], [(4, .sg 25 [.one (.v (.bool false)), .row .u64 8 z8]), (8, .sg 25 [.one (.v (.bool false)), .row .u64 8 z8])]⟩ (p1S s base 0) from (ent_eqs (.cons rfl (.cons rfl (.cons rfl (.cons rfl (.cons rfl (.cons rfl (.cons rfl .nil))))))) (.cons rfl (.cons (by rw [z8_eq]; try rfl) .nil)))) (aa (show LoopT PR 80 (lp Try.f46 1) (p1S s base 0) (.x 3) (p1S s base (strNums s).length) from (p1_loop (by omega) (by omega) hlen hN)) (aa (show Ent 80 ⟨[(4, aP 4 0), (5, .c (.sc (.v .nilIface)))], [(4, .sg 25 [.one (.v (.bool (decide (pacc base (strNums s) ((strNums s).length) < 0)))), .row .u64 8 (ofN (pacc base (strNums s) ((strNums s).length)).natAbs)])]⟩ S3 from (ent_eqs (.cons rfl (.cons rfl .nil)) (.cons (rfl) .nil))) ke)))))))))))))))) (by kernel_rfl)
  · let S3 : St := ⟨[(4, aP 4 0), (5, .c (.sc (.v .nilIface)))], [(4, .sg 25 [.one (.v (.bool (decide (pacc base (strNums s) (strNums s).length < 0)))), .row .u64 8 (ofN (pacc base (strNums s) (strNums s).length).natAbs)])]⟩
    exact fwE (t := (.leaf [.b false, .b false, .b false, .b false, .b false, .b false, .b false, .b false, .cut [0, 1, 4, 5, 36, 37, 38] [4], .chk (p0S s base 0), .lp (.x 1) (p0S s base (strNums s).length), .cut [1, 4, 5, 8, 50, 51, 52] [4, 8], .chk (p1S s base 0), .lp (.x 3) (p1S s base (strNums s).length), .cut [4, 5] [4], .chk S3])) Try.func46 (fun ke => (aa c0 (aa c0 (aa c0 (aa ff (aa ff (aa ff (aa ff (aa ff (aa ff (aa ff (aa (show (s.toList == ByteArray.empty.toList) = false from he) (aa (show Ent 80 ⟨[(0, .c (.sc (.v (.string s)))), (1, aI base), (4, aP 4 0), (5, .c (.sc (.v .nilIface))), (36, .c (.sc (.rs .u8 (strNums s)))), (37, aI ((strNums s).length : Int)), (38, aI 0)], [(4, .sg 25 [.one (.v (.bool false)), .row .u64 8 z8])]⟩ (p0S s base 0) from (ent_eqs (.cons rfl (.cons rfl (.cons rfl (.cons rfl (.cons rfl (.cons rfl (.cons rfl .nil))))))) (.cons rfl .nil))) (aa (show LoopT PR 80 (lp Try.f46 0) (p0S s base 0) (.x 1) (p0S s base (strNums s).length) from (p0_loop hok hlen)) (aa (show Ent 80 ⟨[(1, aI base), (4, aP 4 0), (5, .c (.sc (.v .nilIface))), (8, aP 8 0), (50, .c (.sc (.rs .u8 (strNums s)))), (51, aI ((strNums s).length : Int)), (52, aI 0)], [(4, .sg 25 [.one (.v (.bool false)), .row .u64 8 z8]), (8, .sg 25 [.one (.v (.bool false)), .row .u64 8 z8])]⟩ (p1S s base 0) from (ent_eqs (.cons rfl (.cons rfl (.cons rfl (.cons rfl (.cons rfl (.cons rfl (.cons rfl .nil))))))) (.cons rfl (.cons (by rw [z8_eq]; try rfl) .nil)))) (aa (show LoopT PR 80 (lp Try.f46 1) (p1S s base 0) (.x 3) (p1S s base (strNums s).length) from (p1_loop (by omega) (by omega) hlen hN)) (aa (show Ent 80 ⟨[(4, aP 4 0), (5, .c (.sc (.v .nilIface)))], [(4, .sg 25 [.one (.v (.bool (decide (pacc base (strNums s) ((strNums s).length) < 0)))), .row .u64 8 (ofN (pacc base (strNums s) ((strNums s).length)).natAbs)])]⟩ S3 from (ent_eqs (.cons rfl (.cons rfl .nil)) (.cons (rfl) .nil))) ke))))))))))))))))) (by kernel_rfl)

end Go.Proofs.Ytbbakacfhajohaa.Av
namespace Go.Proofs.Ytbbakacfhajohaa.Av
set_option linter.unusedVariables false
theorem or_tl {a b : Bool} (h : a = true) : (a || b) = true := by rw [h]; rfl
theorem or_tr {a b : Bool} (k : b = true) : (a || b) = true := by rw [k, Bool.or_true]
theorem or_f {a b : Bool} (h : a = false) (k : b = false) : (a || b) = false := by rw [h, k]; rfl
def fit (z : Int) : Bool := decide (z.natAbs < top)
def clip (z : Int) : Int := bif fit z then z else 0
def ov (z : Int) : Int := bif fit z then 0 else 9
theorem fit_t {z : Int} : fit z = true ↔ z.natAbs < top := decide_eq_true_iff
theorem fit_f {z : Int} : fit z = false ↔ ¬ z.natAbs < top := decide_eq_false_iff_not
theorem clip_of {z : Int} (h : z.natAbs < top) : clip z = z := by unfold clip; rw [fit_t.2 h]; rfl
theorem clip_no {z : Int} (h : ¬ z.natAbs < top) : clip z = 0 := by unfold clip; rw [fit_f.2 h]; rfl
theorem ov_of {z : Int} (h : z.natAbs < top) : ov z = 0 := by unfold ov; rw [fit_t.2 h]; rfl
theorem ov_no {z : Int} (h : ¬ z.natAbs < top) : ov z = 9 := by unfold ov; rw [fit_f.2 h]; rfl
theorem ov_z {z : Int} : (ov z == 0) = true ↔ z.natAbs < top := by
  constructor
  · intro h
    refine Decidable.byContradiction fun hn => ?_
    rw [ov_no hn] at h; cases h
  · intro h; rw [ov_of h]; rfl
theorem ov_nz {z : Int} : (ov z == 0) = false ↔ ¬ z.natAbs < top := by
  constructor
  · intro h hn; rw [ov_of hn] at h; cases h
  · intro h; rw [ov_no h]; rfl
theorem clip_top (z : Int) : (clip z).natAbs < top := by
  unfold clip fit
  cases h : decide (z.natAbs < top)
  · exact top_pos
  · exact of_decide_eq_true h
theorem iS_zero : zI = iS 0 := by unfold zI iS; rw [z8_eq]; rfl
def erT : Nat := 104
theorem two_u {f : FuncId} {args : List Cm} {z : Int} (h1 : z.natAbs < top → Fn PR f args (.tu [.ag (iS z), .sc (.v .nilIface)])) (h2 : ¬ z.natAbs < top → Fn PR f args (.tu [.ag zI, .sc (.v (.iface erT (.int .i64 9)))])) :
    Fn PR f args (.tu [.ag (iS (clip z)), .sc (.ee erT (ov z))]) := by
  by_cases h : z.natAbs < top
  · rw [clip_of h]
    exact (h1 h).le (AV.le_tu (.cons rfl (.le (le_nil (ov_of h)) .nil)))
  · rw [clip_no h, ← iS_zero]
    exact (h2 h).le (AV.le_tu (.cons rfl (.le (le_err (ov_no h) rfl) .nil)))
section
variable (n m : Bool) (x y : Nat) (hx : x < top) (hy : y < top) (a b : Int) (ha : iz n x = a) (hb : iz m y = b)
include hx hy ha hb
theorem add_u : Fn PR 19 [.ag (nS n x), .ag (nS m y)] (.tu [.ag (iS (clip (a + b))), .sc (.ee erT (ov (a + b)))]) := two_u (add_ok n m x y hx hy a b ha hb) (add_no n m x y hx hy a b ha hb)
theorem sub_u : Fn PR 47 [.ag (nS n x), .ag (nS m y)] (.tu [.ag (iS (clip (a - b))), .sc (.ee erT (ov (a - b)))]) := two_u (sub_ok n m x y hx hy a b ha hb) (sub_no n m x y hx hy a b ha hb)
theorem mul_u : Fn PR 18 [.ag (nS n x), .ag (nS m y)] (.tu [.ag (iS (clip (a * b))), .sc (.ee erT (ov (a * b)))]) := two_u (mul_ok n m x y hx hy a b ha hb) (mul_no n m x y hx hy a b ha hb)
end
/-- LimbLaws: the sum's part. -/
theorem laws_tail {a b c : Int} (h1 : (ov (a + b) == 0) = true) (h2 : (ov (clip (a + b) * c) == 0) = true) (h3 : (ov (a * c) == 0) = true) (h4 : (ov (b * c) == 0) = true) (h5 : (ov (clip (a * c) + clip (b * c)) == 0) = true) :
    ((sg (clip (clip (a + b) * c)) (clip (clip (a * c) + clip (b * c)))) == (0 : Int)) = true := by
  rw [ov_z] at h1 h2 h3 h4 h5
  rw [clip_of h2, clip_of h5, clip_of h1, clip_of h3, clip_of h4, Int.add_mul]
  simp [sg]
end Go.Proofs.Ytbbakacfhajohaa.Av
namespace Go.Proofs.Ytbbakacfhajohaa.Av
set_option linter.unusedVariables false
/-- The text of a number that is not below 0. -/
def dtx (n : Nat) : ByteArray := strOfNums (dl n).reverse
theorem dl_dig : ∀ x, ∀ c ∈ dl x, 48 ≤ c ∧ c ≤ 57 := by
  intro x
  induction x using Nat.strongRecOn with
  | ind x ih =>
    intro c hc
    rw [dl] at hc
    split at hc
    · rw [List.mem_singleton] at hc; omega
    · rcases List.mem_cons.1 hc with rfl | hc
      · omega
      · exact ih (x / 10) (by omega) c hc
theorem strNums_of {l : List Int} (h : ∀ c ∈ l, 0 ≤ c ∧ c < 256) : strNums (strOfNums l) = l := by
  unfold strNums strOfNums
  simp only [List.map_map]
  refine (List.map_congr_left (fun c hc => ?_)).trans (List.map_id l)
  obtain ⟨h0, h1⟩ := h c hc
  simp
  omega
theorem strNums_dtx (n : Nat) : strNums (dtx n) = (dl n).reverse := strNums_of fun c hc => by have := dl_dig n c (List.mem_reverse.1 hc); omega
theorem size_strOf (l : List Int) : (strOfNums l).size = l.length := by simp [strOfNums, ByteArray.size]
theorem size_dtx (n : Nat) : (dtx n).size = (dl n).length := by unfold dtx; rw [size_strOf, List.length_reverse]
theorem sbyte_strOf {l : List Int} (h : ∀ c ∈ l, 0 ≤ c ∧ c < 256) (j : Nat) (hj : j < l.length) : sbyte (strOfNums l) (j : Int) = l.getD j 0 := by
  unfold sbyte strOfNums
  simp only [Int.toNat_natCast, List.getD_eq_getElem?_getD, List.getElem?_map, List.getElem?_eq_getElem hj, Option.map_some, Option.getD_some]
  obtain ⟨h0, h1⟩ := h l[j] (List.getElem_mem hj)
  simp
  omega
theorem txt_pos {z : Int} (h : ¬ z < 0) : txt z = dtx z.natAbs := by unfold txt dtx; rw [decide_eq_false h]; rfl
theorem txt_nat (n : Nat) : txt (n : Int) = dtx n := txt_pos (by omega)
theorem txt_neg {z : Int} (h : z < 0) : txt z = strOfNums (45 :: (dl z.natAbs).reverse) := by unfold txt; rw [decide_eq_true h]; simp
theorem txt_cut {z : Int} (h : z < 0) : (txt z).extract (1 : Int).toNat (txt z).size = dtx z.natAbs := by
  rw [txt_neg h]
  unfold dtx strOfNums
  apply ByteArray.ext
  apply Array.ext'
  simp [ByteArray.data_extract, ByteArray.size]
  rw [List.take_of_length_le (by simp)]
theorem dl_one (x : Nat) : (dl x).length = 1 ∨ (dl x).reverse.getD 0 0 ≠ 48 := by
  induction x using Nat.strongRecOn with
  | ind x ih =>
    rw [dl]
    split
    · exact .inl rfl
    · rename_i hx
      right
      have hne := dl_pos (x / 10)
      rw [List.reverse_cons, List.getD_eq_getElem?_getD, List.getElem?_append_left (by simpa using hne), ← List.getD_eq_getElem?_getD]
      rcases ih (x / 10) (by omega) with h | h
      · rw [dl] at h ⊢
        split at h
        · rename_i h10
          rw [if_pos h10]
          show ((48 + x / 10 % 10 : Nat) : Int) ≠ 48
          omega
        · have := dl_pos (x / 10 / 10)
          rw [List.length_cons] at h; omega
      · exact h
theorem vald_dig {c : Int} (h0 : 48 ≤ c) (h1 : c ≤ 57) : vald c = c - 48 := by unfold vald; rw [if_pos (by omega)]
theorem pacc_congr {base : Int} {l m : List Int} : ∀ {k : Nat}, (∀ i, i < k → l.getD i 0 = m.getD i 0) → pacc base l k = pacc base m k
  | 0, _ => rfl
  | k + 1, h => by simp only [pacc]; rw [pacc_congr (fun i hi => h i (by omega)), h k (by omega)]
theorem pacc_snoc (base : Int) (l : List Int) (c : Int) : pacc base (l ++ [c]) (l.length + 1) = pacc base l l.length * base + vald c := by
  simp only [pacc]
  rw [pacc_congr (m := l) (fun i hi => by rw [List.getD_eq_getElem?_getD, List.getElem?_append_left hi, ← List.getD_eq_getElem?_getD])]
  simp [List.getD_eq_getElem?_getD]
theorem pacc_dl (x : Nat) : pacc 10 (dl x).reverse (dl x).length = x := by
  induction x using Nat.strongRecOn with
  | ind x ih =>
    rw [dl]
    split
    · show (0 : Int) * 10 + vald ((48 + x % 10 : Nat) : Int) = x
      rw [vald_dig (by omega) (by omega)]; omega
    · rw [List.reverse_cons, List.length_cons]
      have := pacc_snoc 10 (dl (x / 10)).reverse ((48 + x % 10 : Nat) : Int)
      rw [List.length_reverse] at this
      rw [this, ih (x / 10) (by omega), vald_dig (by omega) (by omega)]
      omega
theorem toList_ne {s : ByteArray} (h : 0 < s.size) : (s.toList == ByteArray.empty.toList) = false := by
  rw [beq_eq_false_iff_ne]
  intro e
  have h1 := (toList_nil_iff_emptyBytes s).1 (e.trans ((toList_nil_iff_emptyBytes ByteArray.empty).2 rfl))
  rw [h1] at h; exact absurd h (by decide)
theorem parse_dtx (n : Nat) (hn : n < top) : Fn PR 46 [.sc (.v (.string (dtx n))), .sc (.v (.int .i64 10))] (.tu [.ag (iS (n : Int)), .sc (.v .nilIface)]) := by
  have hl := dl_top rfl hn
  have h1 := dl_pos n
  have e : pacc 10 (strNums (dtx n)) (strNums (dtx n)).length = n := by rw [strNums_dtx, List.length_reverse]; exact pacc_dl n
  have := parse_ok (dtx n) 10 (.inr (.inr (.inl rfl))) (toList_ne (by rw [size_dtx]; exact h1)) (by rw [strNums_dtx, List.length_reverse]; omega) (fun i hi => by
    rw [strNums_dtx] at hi ⊢
    have hm : (dl n).reverse.getD i 0 ∈ dl n := by
      rw [List.getD_eq_getElem?_getD, List.getElem?_eq_getElem hi]; exact List.mem_reverse.1 (List.getElem_mem hi)
    have := dl_dig n _ hm
    rw [vald_dig this.1 this.2]; omega) (by rw [e]; exact hn)
  rw [e] at this
  exact this
/-! ### LimbReads -/
theorem rd_first_neg {z : Int} (h : z < 0) : ((sbyte (txt z) (0 : Int)) == (45 : Int)) = true := by
  rw [txt_neg h]; unfold strOfNums sbyte; simp
theorem rd_first_pos {z : Int} (h : ¬ z < 0) : ((sbyte (txt z) (0 : Int)) == (45 : Int)) = false := by
  rw [txt_pos h, beq_eq_false_iff_ne]
  have h1 := dl_pos z.natAbs
  have := sbyte_strOf (l := (dl z.natAbs).reverse) (fun c hc => by have := dl_dig _ c (List.mem_reverse.1 hc); omega) 0 (by simpa using h1)
  unfold dtx
  have hm : (dl z.natAbs).reverse.getD 0 0 ∈ dl z.natAbs := by
    rw [List.getD_eq_getElem?_getD, List.getElem?_eq_getElem (by simpa using h1)]; exact List.mem_reverse.1 (List.getElem_mem _)
  have hd := dl_dig _ _ hm
  rw [show (0 : Int) = ((0 : Nat) : Int) from rfl, this]
  omega
theorem rd_size (z : Int) : decide (((txt z).size : Int) > (0 : Int)) = true := by
  refine decide_eq_true ?_
  unfold txt
  rw [size_strOf]
  have := dl_pos z.natAbs
  cases decide (z < 0) <;> simp <;> omega
theorem rd_pos {s : ByteArray} {n : Nat} (h : s = dtx n) : decide ((s.size : Int) > (0 : Int)) = true := by
  rw [h, size_dtx]; have := dl_pos n; exact decide_eq_true (by omega)
theorem rd_lead {s : ByteArray} {n : Nat} (h : s = dtx n) (h1 : ((s.size : Int) == (1 : Int)) = false) : (!(sbyte s (0 : Int) == (48 : Int))) = true := by
  subst h
  have hp := dl_pos n
  rw [size_dtx, beq_eq_false_iff_ne] at h1
  have := sbyte_strOf (l := (dl n).reverse) (fun c hc => by have := dl_dig _ c (List.mem_reverse.1 hc); omega) 0 (by simpa using hp)
  unfold dtx
  rw [show (0 : Int) = ((0 : Nat) : Int) from rfl, this]
  rcases dl_one n with h | h
  · omega
  · simpa using h
end Go.Proofs.Ytbbakacfhajohaa.Av
namespace Go.Proofs.Ytbbakacfhajohaa.Av
set_option linter.unusedVariables false
def pB (i : Nat) : Nat := 65536 ^ i
theorem pB_zero : pB 0 = 1 := rfl
theorem pB_succ (i : Nat) : pB (i + 1) = pB i * 65536 := Nat.pow_succ ..
theorem pB_pos (i : Nat) : 0 < pB i := Nat.pow_pos (by decide)
theorem pB_add (i j : Nat) : pB (i + j) = pB i * pB j := Nat.pow_add ..
theorem pB_le {i j : Nat} (h : i ≤ j) : pB i ≤ pB j := Nat.pow_le_pow_right (by decide) h
theorem pB_lt {i j : Nat} (h : i < j) : pB i < pB j := Nat.pow_lt_pow_right (by decide) h
def dgt (n i : Nat) : Nat := n / pB i % 65536
theorem dgt_lt (n i : Nat) : dgt n i < 65536 := Nat.mod_lt _ (by decide)
theorem dgt_zero (n : Nat) : dgt n 0 = n % 65536 := by unfold dgt; rw [pB_zero, Nat.div_one]
theorem dgt_succ (n i : Nat) : dgt n (i + 1) = dgt (n / 65536) i := by unfold dgt; rw [pB_succ, Nat.mul_comm, Nat.div_div_eq_div_mul]
theorem dgt_big {n i : Nat} (h : n < pB i) : dgt n i = 0 := by unfold dgt; rw [Nat.div_eq_of_lt h]
theorem dgt_big' {n i k : Nat} (h : n < pB k) (hi : k ≤ i) : dgt n i = 0 := dgt_big (Nat.lt_of_lt_of_le h (pB_le hi))
/-- A number by its lowest digits and the rest. -/
theorem mod_succ (n i : Nat) : n % pB (i + 1) = n % pB i + pB i * dgt n i := by unfold dgt; rw [pB_succ, Nat.mod_mul]
theorem div_split (n i : Nat) : n = pB i * (n / pB i) + n % pB i := (Nat.div_add_mod n (pB i)).symm
theorem div_succ (n i : Nat) : n / pB (i + 1) = n / pB i / 65536 := by rw [pB_succ, Nat.div_div_eq_div_mul]
theorem div_dgt (n i : Nat) : n / pB i = n / pB (i + 1) * 65536 + dgt n i := by rw [div_succ]; unfold dgt; omega
def dk (n k : Nat) : List Int := (List.range k).map fun i => ((dgt n i : Nat) : Int)
theorem dk_len (n k : Nat) : (dk n k).length = k := by simp [dk]
theorem dk_get {n k i : Nat} (h : i < k) : (dk n k).getD i 0 = ((dgt n i : Nat) : Int) := by
  unfold dk
  rw [List.getD_eq_getElem?_getD, List.getElem?_map, List.getElem?_range h]; rfl
theorem dk_get' {n k i : Nat} (h : n < pB k) : (dk n k).getD i 0 = ((dgt n i : Nat) : Int) := by
  rcases Nat.lt_or_ge i k with hi | hi
  · exact dk_get hi
  · rw [dgt_big' h hi, List.getD_eq_getElem?_getD, List.getElem?_eq_none (by rw [dk_len]; exact hi)]; rfl
theorem dk_getI {n k : Nat} {i : Int} (h0 : 0 ≤ i) (h : i < (k : Int)) : (dk n k).getD i.toNat 0 = ((dgt n i.toNat : Nat) : Int) := dk_get (by omega)
theorem dk_zero (n : Nat) : dk n 0 = [] := rfl
theorem dk_snoc (n k : Nat) : dk n k ++ [((dgt n k : Nat) : Int)] = dk n (k + 1) := by simp [dk, List.range_succ]
theorem dk_take {n k j : Nat} (h : j ≤ k) : (dk n k).take j = dk n j := by
  unfold dk; rw [← List.map_take, List.take_range, Nat.min_eq_left h]
theorem dk_congr {n m k : Nat} (h : ∀ i, i < k → dgt n i = dgt m i) : dk n k = dk m k := by
  unfold dk; exact List.map_congr_left fun i hi => by rw [h i (List.mem_range.1 hi)]
theorem dgt_mod {n i k : Nat} (h : i < k) : dgt (n % pB k) i = dgt n i := by
  have e : pB k = pB i * pB (k - i) := by rw [← pB_add]; congr 1; omega
  have e2 : pB (k - i) = 65536 * pB (k - i - 1) := by rw [Nat.mul_comm, ← pB_succ]; congr 1; omega
  unfold dgt
  rw [e, Nat.mod_mul_right_div_self, e2, Nat.mod_mul_right_mod]
theorem dk_mod (n k : Nat) : dk (n % pB k) k = dk n k := dk_congr fun i hi => dgt_mod hi
theorem mod_of_dgt {x y : Nat} : ∀ k, (∀ i, i < k → dgt x i = dgt y i) → x % pB k = y % pB k
  | 0, _ => by simp [pB_zero, Nat.mod_one]
  | k + 1, h => by rw [mod_succ, mod_succ, mod_of_dgt k (fun i hi => h i (by omega)), h k (by omega)]
/-- Digits of m + w B^i, m below B^i. -/
theorem dgt_low {m w i j : Nat} (hj : j < i) : dgt (m + w * pB i) j = dgt m j := by
  have : (m + w * pB i) % pB i = m % pB i := by rw [Nat.add_mul_mod_self_right]
  rw [← dgt_mod (n := m + w * pB i) hj, this, dgt_mod hj]
theorem dgt_high {m w i j : Nat} (hm : m < pB i) : dgt (m + w * pB i) (i + j) = dgt w j := by
  unfold dgt
  rw [pB_add, ← Nat.div_div_eq_div_mul, Nat.add_mul_div_right _ _ (pB_pos i), Nat.div_eq_of_lt hm, Nat.zero_add]
/-- One digit set: v = lo + B^i (d + B hi). -/
theorem dk_set {lo d w hi i k : Nat} (hk : i < k) (hlo : lo < pB i) (hd : d < 65536) (hw : w < 65536) :
    (dk (lo + (d + hi * 65536) * pB i) k).set i ((w : Nat) : Int) = dk (lo + (w + hi * 65536) * pB i) k := by
  refine List.ext_getElem? (fun j => ?_)
  unfold dk
  rw [List.getElem?_set, List.length_map, List.length_range]
  by_cases hij : i = j
  · subst hij
    rw [if_pos rfl, if_pos hk, List.getElem?_map, List.getElem?_range hk, Option.map_some]
    have := dgt_high (w := w + hi * 65536) (j := 0) hlo
    rw [Nat.add_zero] at this
    rw [this, dgt_zero]
    congr 2; omega
  · rw [if_neg hij]
    rcases Nat.lt_or_ge j k with hj | hj
    · rw [List.getElem?_map, List.getElem?_map, List.getElem?_range hj, Option.map_some, Option.map_some]
      rcases Nat.lt_or_ge j i with h | h
      · rw [dgt_low h, dgt_low h]
      · obtain ⟨q, rfl⟩ : ∃ q, j = i + (q + 1) := ⟨j - i - 1, by omega⟩
        rw [dgt_high hlo, dgt_high hlo, dgt_succ, dgt_succ]
        rw [show (d + hi * 65536) / 65536 = hi by omega, show (w + hi * 65536) / 65536 = hi by omega]
    · rw [List.getElem?_eq_none (by simpa using hj), List.getElem?_eq_none (by simpa using hj)]
/-- The same, said of any number. -/
theorem dk_set_of {v i k w : Nat} (hk : i < k) (hw : w < 65536) : (dk v k).set i ((w : Nat) : Int) = dk (v % pB i + (w + v / pB (i + 1) * 65536) * pB i) k := by
  have e : v = v % pB i + (dgt v i + v / pB (i + 1) * 65536) * pB i := by
    have h1 := div_split v i
    have h2 := div_dgt v i
    rw [Nat.add_comm (dgt v i), ← h2, Nat.mul_comm]
    omega
  have := dk_set (k := k) hk (Nat.mod_lt v (pB_pos i)) (dgt_lt v i) (hi := v / pB (i + 1)) hw
  rw [← e] at this
  exact this
/-- How many digits. -/
def nd (n : Nat) : Nat := if n = 0 then 0 else nd (n / 65536) + 1
termination_by n
decreasing_by omega
theorem nd_zero : nd 0 = 0 := by rw [nd]; rfl
theorem nd_succ {n : Nat} (h : n ≠ 0) : nd n = nd (n / 65536) + 1 := by rw [nd, if_neg h]
theorem nd_lt (n : Nat) : n < pB (nd n) := by
  induction n using Nat.strongRecOn with
  | ind n ih =>
    by_cases h : n = 0
    · subst h; rw [nd_zero]; decide
    · rw [nd_succ h, pB_succ]
      have := ih (n / 65536) (by omega)
      omega
theorem nd_ge {n : Nat} (h : n ≠ 0) : pB (nd n - 1) ≤ n := by
  induction n using Nat.strongRecOn with
  | ind n ih =>
    rw [nd_succ h, Nat.add_sub_cancel]
    by_cases h0 : n / 65536 = 0
    · rw [h0, nd_zero, pB_zero]; omega
    · have h1 := ih (n / 65536) (by omega) h0
      have h2 : nd (n / 65536) = nd (n / 65536) - 1 + 1 := by rw [nd_succ h0]; rfl
      rw [h2, pB_succ]
      omega
theorem nd_le {n k : Nat} : n < pB k ↔ nd n ≤ k := by
  constructor
  · intro h
    refine Decidable.byContradiction fun hn => ?_
    have h0 : n ≠ 0 := by intro e; subst e; rw [nd_zero] at hn; omega
    have h1 := nd_ge h0
    have h2 := pB_le (i := k) (j := nd n - 1) (by omega)
    omega
  · intro h; exact Nat.lt_of_lt_of_le (nd_lt n) (pB_le h)
theorem nd_eq {n k : Nat} (h1 : n < pB k) (h2 : k = 0 ∨ pB (k - 1) ≤ n) : nd n = k := by
  have h3 := nd_le.1 h1
  rcases h2 with h2 | h2
  · omega
  · refine Decidable.byContradiction fun hn => ?_
    have := nd_le.2 (show nd n ≤ k - 1 by omega)
    omega
theorem nd_pos {n : Nat} : 0 < nd n ↔ n ≠ 0 := by
  constructor
  · intro h e; subst e; rw [nd_zero] at h; omega
  · intro h; rw [nd_succ h]; omega
theorem nd_top {n : Nat} (h : 0 < nd n) : dgt n (nd n - 1) ≠ 0 := by
  have h0 := nd_pos.1 h
  have h1 := nd_ge h0
  have h2 := nd_lt n
  rw [show nd n = nd n - 1 + 1 by omega, pB_succ] at h2
  unfold dgt
  have h3 : n / pB (nd n - 1) < 65536 := (Nat.div_lt_iff_lt_mul (pB_pos _)).2 (by rw [Nat.mul_comm]; exact h2)
  have h4 : 0 < n / pB (nd n - 1) := Nat.div_pos h1 (pB_pos _)
  omega
theorem nd_mono {n m : Nat} (h : n ≤ m) : nd n ≤ nd m := nd_le.1 (Nat.lt_of_le_of_lt h (nd_lt m))
def dg (n : Nat) : List Int := dk n (nd n)
theorem dg_len (n : Nat) : (dg n).length = nd n := dk_len ..
theorem dg_zero : dg 0 = [] := by unfold dg; rw [nd_zero]; rfl
theorem dg_get (n i : Nat) : (dg n).getD i 0 = ((dgt n i : Nat) : Int) := dk_get' (nd_lt n)
/-- A number of the reference's. -/
def dS (z : Int) : List Seg := [.one (.v (.bool (decide (z < 0)))), .one (.rs .i64 (dg z.natAbs))]
theorem top_pB {k j : Nat} (h : k = 32) (hj : j = 8 := by rfl) : top = pB k := by
  rw [top_k hj]; unfold pB
  rw [show (65536 : Nat) = 2 ^ 16 by rfl, ← Nat.pow_mul, show 16 * k = 64 * j by omega]
/-! ### trim -/
theorem tr_bool {neg : Bool} {x : Nat} {z : Int} (hz : iz neg x = z) : (bif neg then decide (((nd x : Nat) : Int) > (0 : Int)) else false) = decide (z < 0) := by
  have h := @nd_pos x
  subst hz
  unfold iz
  cases neg
  · simp
  · simp only [cond_true, decide_eq_decide]; omega
theorem tr_bool' {neg : Bool} {x : Nat} {z : Int} {b : Bool} (c : neg = b) (hz : iz neg x = z) : (bif neg then decide (((nd x : Nat) : Int) > (0 : Int)) else false) = decide (z < 0) := tr_bool hz
theorem tr_len {neg : Bool} {x : Nat} {z : Int} (hz : iz neg x = z) : z.natAbs = x := by rw [← hz, iz_abs]
theorem tr_num {neg : Bool} {x : Nat} {z : Int} (hz : iz neg x = z) : [Seg.one (.v (.bool (decide (z < 0)))), Seg.one (.rs .i64 (dk x (nd x)))] = dS z := by unfold dS; rw [tr_len hz]; rfl
theorem tr_false {neg : Bool} {x : Nat} {z : Int} (c : neg = false) (hz : iz neg x = z) : decide (z < 0) = false := by subst hz; rw [c]; refine decide_eq_false ?_; show ¬ ((x : Int) < 0); omega
theorem tr_step {x k n : Nat} (hn : n + 1 ≤ k) (hx : x < pB (n + 1)) (h : ((dk x k).getD ((((n + 1 : Nat) : Int)) - 1).toNat 0 == (0 : Int)) = true) : x < pB n := by
  rw [show ((((n + 1 : Nat) : Int)) - 1).toNat = n by omega, dk_get (by omega)] at h
  have h : dgt x n = 0 := by have := eq_of_beq h; omega
  have h1 := mod_succ x n
  rw [h, Nat.mod_eq_of_lt hx] at h1
  have := Nat.mod_lt x (pB_pos n)
  omega
theorem tr_end {x k n : Nat} (hn : n + 1 ≤ k) (hx : x < pB (n + 1)) (h : ((dk x k).getD ((((n + 1 : Nat) : Int)) - 1).toNat 0 == (0 : Int)) = false) : n + 1 = nd x := by
  rw [show ((((n + 1 : Nat) : Int)) - 1).toNat = n by omega, dk_get (by omega)] at h
  refine (nd_eq hx (.inr ?_)).symm
  refine Decidable.byContradiction fun hlt => ?_
  rw [Nat.add_sub_cancel] at hlt
  rw [dgt_big (by omega)] at h
  simp at h
/-! ### plus -/
def pc (x y i : Nat) : Nat := (x % pB i + y % pB i) / pB i
theorem pc_zero (x y : Nat) : pc x y 0 = 0 := by simp [pc, pB_zero, Nat.mod_one]
theorem pc_le (x y i : Nat) : pc x y i ≤ 1 := by
  unfold pc
  have h1 := Nat.mod_lt x (pB_pos i)
  have h2 := Nat.mod_lt y (pB_pos i)
  have : (x % pB i + y % pB i) / pB i < 2 := (Nat.div_lt_iff_lt_mul (pB_pos i)).2 (by omega)
  omega
theorem pc_next (x y i : Nat) : (dgt x i + dgt y i + pc x y i) / 65536 = pc x y (i + 1) := by
  unfold pc
  rw [mod_succ, mod_succ, pB_succ, ← Nat.div_div_eq_div_mul]
  rw [show x % pB i + pB i * dgt x i + (y % pB i + pB i * dgt y i) = (x % pB i + y % pB i) + pB i * (dgt x i + dgt y i) by rw [Nat.mul_add]; omega, Nat.add_mul_div_left _ _ (pB_pos i), Nat.add_comm (dgt x i + dgt y i)]
theorem pc_dgt (x y i : Nat) : (dgt x i + dgt y i + pc x y i) % 65536 = dgt (x + y) i := by
  have e : (x + y) / pB i = x / pB i + y / pB i + pc x y i := by
    unfold pc
    have hx := div_split x i
    have hy := div_split y i
    have : x + y = (x % pB i + y % pB i) + pB i * (x / pB i + y / pB i) := by rw [Nat.mul_add]; omega
    rw [this, Nat.add_mul_div_left _ _ (pB_pos i), Nat.add_comm]
  have hd : ∀ n, dgt n i = n / pB i % 65536 := fun _ => rfl
  rw [hd (x + y), e, hd x, hd y]
  omega
theorem plus_app (x y i : Nat) : dk (x + y) i ++ [(((dgt x i : Nat) : Int) + ((dgt y i : Nat) : Int) + ((pc x y i : Nat) : Int)) % (65536 : Int)] = dk (x + y) (i + 1) := by
  rw [← dk_snoc, ← pc_dgt]; congr 2
theorem rplus_c (x y i : Nat) : (((dgt x i : Nat) : Int) + ((dgt y i : Nat) : Int) + ((pc x y i : Nat) : Int)) / (65536 : Int) = ((pc x y (i + 1) : Nat) : Int) := by
  rw [← pc_next]; omega
/-- How many digits 'plus' makes. -/
def pl (k l s : Nat) : Nat := if s < pB (max k l) then max k l else max k l + 1
theorem pl_le (k l s : Nat) : pl k l s ≤ max k l + 1 := by unfold pl; split <;> omega
theorem pl_ge (k l s : Nat) : max k l ≤ pl k l s := by unfold pl; split <;> omega
theorem pl_lt {x y k l : Nat} (hx : x < pB k) (hy : y < pB l) : x + y < pB (pl k l (x + y)) := by
  have h1 := pB_le (show k ≤ max k l by omega)
  have h2 := pB_le (show l ≤ max k l by omega)
  unfold pl
  split
  · assumption
  · rw [pB_succ]; omega
theorem pl_go {x y k l i : Nat} (hx : x < pB k) (hy : y < pB l) (hi : i < pl k l (x + y)) (h1 : ¬ i < k) (h2 : ¬ i < l) : 0 < pc x y i := by
  have e := pl_le k l (x + y)
  unfold pl at hi
  split at hi
  · omega
  · rename_i hs
    obtain rfl : i = max k l := by omega
    have g1 := Nat.lt_of_lt_of_le hx (pB_le (show k ≤ max k l by omega))
    have g2 := Nat.lt_of_lt_of_le hy (pB_le (show l ≤ max k l by omega))
    unfold pc
    rw [Nat.mod_eq_of_lt g1, Nat.mod_eq_of_lt g2]
    exact Nat.div_pos (by omega) (pB_pos _)
theorem pl_stop {x y k l : Nat} (hx : x < pB k) (hy : y < pB l) : pc x y (pl k l (x + y)) = 0 := by
  have h := pl_lt hx hy
  have g1 := Nat.lt_of_lt_of_le hx (pB_le (Nat.le_trans (show k ≤ max k l by omega) (pl_ge k l (x + y))))
  have g2 := Nat.lt_of_lt_of_le hy (pB_le (Nat.le_trans (show l ≤ max k l by omega) (pl_ge k l (x + y))))
  unfold pc
  rw [Nat.mod_eq_of_lt g1, Nat.mod_eq_of_lt g2, Nat.div_eq_of_lt h]
theorem pl_dg (x y : Nat) : pl (nd x) (nd y) (x + y) = nd (x + y) := by
  refine (nd_eq (pl_lt (nd_lt x) (nd_lt y)) ?_).symm
  have hm : max (nd x) (nd y) ≤ nd (x + y) := Nat.max_le.2 ⟨nd_mono (by omega), nd_mono (by omega)⟩
  unfold pl
  split
  · rcases Nat.eq_zero_or_pos (max (nd x) (nd y)) with h | h
    · exact .inl h
    · right
      have h0 : x + y ≠ 0 := nd_pos.1 (by omega)
      exact Nat.le_trans (pB_le (by omega)) (nd_ge h0)
  · right
    rw [Nat.add_sub_cancel]; omega
/-! ### minus, Order -/
theorem minus_app {d i : Nat} {w : Int} (h : w = ((dgt d i : Nat) : Int)) : dk d i ++ [w] = dk d (i + 1) := by rw [h, dk_snoc]
theorem minus_facts {x y : Nat} (h : y ≤ x) (i : Nat) : dgt x i = (dgt y i + dgt (x - y) i + pc y (x - y) i) % 65536 ∧ pc y (x - y) (i + 1) = (dgt y i + dgt (x - y) i + pc y (x - y) i) / 65536 := by
  have h1 := pc_dgt y (x - y) i
  rw [show y + (x - y) = x by omega] at h1
  exact ⟨h1.symm, (pc_next y (x - y) i).symm⟩
theorem ord_len {x y : Nat} (h : nd x < nd y) : x < y := Decidable.byContradiction fun hn => by have := nd_mono (show y ≤ x by omega); omega
theorem ord_start {x y : Nat} (h : nd x = nd y) : x / pB (nd x) = y / pB (nd x) := by
  rw [Nat.div_eq_of_lt (nd_lt x), h, Nat.div_eq_of_lt (nd_lt y)]
theorem ord_same {x y m : Nat} (h : x / pB (m + 1) = y / pB (m + 1)) (h2 : dgt x m = dgt y m) : x / pB m = y / pB m := by
  rw [div_dgt x m, div_dgt y m, h, h2]
theorem ord_less {x y m : Nat} (h : x / pB (m + 1) = y / pB (m + 1)) (h2 : dgt x m < dgt y m) : x < y := by
  have h3 : x / pB m < y / pB m := by rw [div_dgt x m, div_dgt y m, h]; omega
  exact Decidable.byContradiction fun hn => by have := Nat.div_le_div_right (c := pB m) (show y ≤ x by omega); omega
theorem ord_zero {x y : Nat} (h : x / pB 0 = y / pB 0) : x = y := by simpa [pB_zero] using h
theorem sg_lt' {a b : Int} (h : a < b) : sg a b = -1 := by unfold sg; rw [if_pos h]
theorem sg_gt' {a b : Int} (h : b < a) : sg a b = 1 := by unfold sg; rw [if_neg (by omega), if_pos h]
theorem ordl_lt {x y : Nat} (h : decide (((dg x).length : Int) < ((dg y).length : Int)) = true) : (x : Int) < (y : Int) := by
  have h := of_decide_eq_true h
  rw [dg_len, dg_len] at h
  have := ord_len (x := x) (y := y) (by omega)
  omega
theorem ordl_gt {x y : Nat} (h : (((dg x).length : Int) != ((dg y).length : Int)) = true) (h2 : decide (((dg x).length : Int) < ((dg y).length : Int)) = false) : (y : Int) < (x : Int) := by
  have h := bne_iff_ne.1 h
  have h2 := of_decide_eq_false h2
  rw [dg_len, dg_len] at h h2
  have := ord_len (x := y) (y := x) (by omega)
  omega
theorem ordl_eq {x y : Nat} (h : (((dg x).length : Int) != ((dg y).length : Int)) = false) : nd x = nd y := by
  have h : ((dg x).length : Int) = ((dg y).length : Int) := by simpa using h
  rw [dg_len, dg_len] at h; omega
theorem nat_i {x : Nat} {z : Int} (h : z.natAbs = x) (h0 : ¬ z < 0) : z = (x : Int) := by omega
/-! ### Cmp, Add -/
theorem rc1 {a b : Int} (c0 : (decide (a < 0) == decide (b < 0)) = false) (c1 : decide (a < 0) = true) : sg a b = -1 := by
  have h1 := of_decide_eq_true c1
  rw [c1] at c0
  have h2 : ¬ b < 0 := fun h => by rw [decide_eq_true h] at c0; cases c0
  exact sg_lt' (by omega)
theorem rc2 {a b : Int} (c0 : (decide (a < 0) == decide (b < 0)) = false) (c1 : decide (a < 0) = false) : sg a b = 1 := by
  have h1 := of_decide_eq_false c1
  rw [c1] at c0
  have h2 : b < 0 := Decidable.byContradiction fun h => by rw [decide_eq_false h] at c0; cases c0
  exact sg_gt' (by omega)
theorem rc3 {a b : Int} (c0 : (decide (a < 0) == decide (b < 0)) = true) (c1 : decide (a < 0) = true) : sg (b.natAbs : Int) (a.natAbs : Int) = sg a b := by
  have h1 := of_decide_eq_true c1
  rw [c1] at c0
  have h2 : b < 0 := Decidable.byContradiction fun h => by rw [decide_eq_false h] at c0; cases c0
  unfold sg
  split <;> split <;> (try split) <;> (try split) <;> omega
theorem rc4 {a b : Int} (c0 : (decide (a < 0) == decide (b < 0)) = true) (c1 : decide (a < 0) = false) : sg (a.natAbs : Int) (b.natAbs : Int) = sg a b := by
  have h1 := of_decide_eq_false c1
  rw [c1] at c0
  have h2 : ¬ b < 0 := fun h => by rw [decide_eq_true h] at c0; cases c0
  unfold sg
  split <;> split <;> (try split) <;> (try split) <;> omega
theorem izd {a : Int} {x : Nat} : iz (decide (a < 0)) x = if a < 0 then -(x : Int) else x := by
  unfold iz; by_cases h : a < 0 <;> simp [h]
theorem ra0 {a b : Int} (c0 : (decide (a < 0) == decide (b < 0)) = true) : (a < 0 ↔ b < 0) := by have := eq_of_beq c0; simpa using this
theorem ra0' {a b : Int} (c0 : (decide (a < 0) == decide (b < 0)) = false) : ¬ (a < 0 ↔ b < 0) := fun h => by
  have : decide (a < 0) = decide (b < 0) := by simpa using h
  rw [this, beq_self_eq_true] at c0; cases c0
theorem ra1 {a b : Int} (c0 : (decide (a < 0) == decide (b < 0)) = true) : iz (decide (a < 0)) (a.natAbs + b.natAbs) = a + b := by
  have := ra0 c0
  rw [izd]; split <;> omega
theorem ra2 {a b : Int} (c0 : (decide (a < 0) == decide (b < 0)) = false) (h : decide (sg (a.natAbs : Int) (b.natAbs : Int) ≥ (0 : Int)) = true) : iz (decide (a < 0)) (a.natAbs - b.natAbs) = a + b := by
  have := ra0' c0
  have := (sg_ge _ _).1 (of_decide_eq_true h)
  rw [izd]; split <;> omega
theorem ra3 {a b : Int} (c0 : (decide (a < 0) == decide (b < 0)) = false) (h : decide (sg (a.natAbs : Int) (b.natAbs : Int) ≥ (0 : Int)) = false) : iz (decide (b < 0)) (b.natAbs - a.natAbs) = a + b := by
  have := ra0' c0
  have := mt (sg_ge _ _).2 (of_decide_eq_false h)
  rw [izd]; split <;> omega
theorem ra_le {a b : Int} (h : decide (sg (a.natAbs : Int) (b.natAbs : Int) ≥ (0 : Int)) = true) : b.natAbs ≤ a.natAbs := by
  have := (sg_ge _ _).1 (of_decide_eq_true h); omega
theorem ra_ge {a b : Int} (h : decide (sg (a.natAbs : Int) (b.natAbs : Int) ≥ (0 : Int)) = false) : a.natAbs ≤ b.natAbs := by
  have := mt (sg_ge _ _).2 (of_decide_eq_false h); omega
/-! ### How many digits results have -/
theorem nd_add (x y : Nat) : nd (x + y) ≤ max (nd x) (nd y) + 1 := by rw [← pl_dg]; exact pl_le ..
theorem nd_mul (x y : Nat) : nd (x * y) ≤ nd x + nd y := by
  refine nd_le.1 ?_
  rw [pB_add]
  rcases Nat.eq_zero_or_pos (x * y) with h | h
  · rw [h]; exact Nat.mul_pos (pB_pos _) (pB_pos _)
  · exact Nat.mul_lt_mul'' (nd_lt x) (nd_lt y)
theorem ndi_add (a b : Int) : nd (a + b).natAbs ≤ max (nd a.natAbs) (nd b.natAbs) + 1 := Nat.le_trans (nd_mono (show (a + b).natAbs ≤ a.natAbs + b.natAbs by omega)) (nd_add ..)
theorem ndi_neg (a : Int) : nd (-a).natAbs = nd a.natAbs := by rw [Int.natAbs_neg]
theorem ndi_sub (a b : Int) : nd (a - b).natAbs ≤ max (nd a.natAbs) (nd b.natAbs) + 1 := Nat.le_trans (nd_mono (show (a - b).natAbs ≤ a.natAbs + b.natAbs by omega)) (nd_add ..)
theorem ndi_mul (a b : Int) : nd (a * b).natAbs ≤ nd a.natAbs + nd b.natAbs := by rw [Int.natAbs_mul]; exact nd_mul ..
theorem ndi_tdiv (a b : Int) : nd (a.tdiv b).natAbs ≤ nd a.natAbs := nd_mono (by rw [Int.natAbs_tdiv]; exact Nat.div_le_self ..)
theorem ndi_tmod (a b : Int) : nd (a.tmod b).natAbs ≤ nd a.natAbs := nd_mono (by rw [Int.natAbs_tmod]; exact Nat.mod_le ..)
theorem nd_of_top {x : Nat} (h : x < top) : nd x ≤ 32 := nd_le.1 (by rw [← top_pB rfl]; exact h)
theorem top_of_nd {x : Nat} (h : nd x ≤ 32) : x < top := by rw [top_pB rfl]; exact nd_le.2 h
end Go.Proofs.Ytbbakacfhajohaa.Av

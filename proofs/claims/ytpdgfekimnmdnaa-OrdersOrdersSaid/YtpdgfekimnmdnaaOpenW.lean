/- Orders: reading an order, a report's telling, a word, as arguments. -/
import Derived.Test.YtpdgfekimnmdnaaWorks
import Derived.Test.YtpdgfekimnmdnaaOpen
set_option linter.unusedVariables false
set_option linter.unusedSimpArgs false
namespace Go.Proofs.Ytpdgfekimnmdnaa
open Go.ChangeShapes Go.WideShapes Go.ChangeAt Go.RowKit
set_option maxRecDepth 20000

section
variable {H : Type} {enc : TypeId × Value → H} {W : World} {spare : Nat → Bool} {held : Bool} {base fuel : Nat} {x : DataW H × List MemPlace}
theorem open_bytes_cell {t e : TypeId} {v : Value} (ht : Try.prog.underlying t = some (.slice e)) (he : Try.prog.underlying e = some (.int .u8)) (hc : Try.prog.cellsOf e = 1) (hf : DataW.trod enc Try.prog W base spare held fuel t [v] = some x) : ∃ bs : List UInt8, RdB W v bs ∧ bs.length ≤ maxLen := by
  rcases open_ints ht he hc hf with ⟨hcs, _⟩ | ⟨a, len', cap', zs, hcs, _, hl, hm, hz, _, hcell, hwz⟩
  · injection hcs with hcs _
    subst hcs
    exact ⟨[], ⟨_, _, rfl, Nat.le_refl _, fun j u hj => by simp [bytesV] at hj⟩, by unfold maxLen; simp⟩
  · injection hcs with hcs _
    subst hcs
    obtain ⟨bs, h1, h2⟩ := bytes_of_ints (zs.take len') fun n hn => hwz n (List.mem_of_mem_take hn)
    have hzl : len' ≤ zs.length := by rw [hz]; split <;> omega
    have hbl : bs.length = len' := by rw [h2, List.length_take]; omega
    refine ⟨bs, ⟨_, _, by rw [hbl], by omega, fun j u hj => ⟨a, rfl, ?_⟩⟩, by omega⟩
    rw [← h1] at hj
    have hjl : j < len' := by
      have := (List.getElem?_eq_some_iff.1 hj).1
      simp at this
      omega
    rw [hcell j (by omega)]
    simp only [List.getElem?_map, List.getElem?_take, hjl, if_true] at hj
    rw [List.getD_eq_getElem?_getD]
    cases hzj : zs[j]? with
    | none => rw [hzj] at hj; simp at hj
    | some z => rw [hzj] at hj; simp at hj; simp [hj]
theorem open_order_cells {cs : List Value} (h : DataW.trod enc Try.prog W base spare held fuel 25 cs = some x) : ∃ (k e t v : Int) (u : Value) (bu : List UInt8), cs = ordL k e t v u ∧ RdB W u bu ∧ bu.length ≤ maxLen := by
  obtain ⟨xs, k, hk, hxy, hlen, hxl, hf⟩ := DataW.trod_struct Try.underlying25 h
  rw [show Try.prog.cellsOf 25 = 5 by kernel_rfl] at hlen
  match xs, hxl, cs, hlen with
  | [y0, y1, y2, y3, y4], _, [v0, v1, v2, v3, v4], _ =>
    have q0 : DataW.trod enc Try.prog W base spare held k 22 [v0] = some y0 := hf 0 _ rfl
    have q1 : DataW.trod enc Try.prog W base spare held k 2 [v1] = some y1 := hf 1 _ rfl
    have q2 : DataW.trod enc Try.prog W base spare held k 2 [v2] = some y2 := hf 2 _ rfl
    have q3 : DataW.trod enc Try.prog W base spare held k 2 [v3] = some y3 := hf 3 _ rfl
    have q4 : DataW.trod enc Try.prog W base spare held k 23 [v4] = some y4 := hf 4 _ rfl
    obtain ⟨z0, hz0, _, _⟩ := DataW.trod_int Try.underlying22 q0
    obtain ⟨z1, hz1, _, _⟩ := DataW.trod_int Try.underlying2 q1
    obtain ⟨z2, hz2, _, _⟩ := DataW.trod_int Try.underlying2 q2
    obtain ⟨z3, hz3, _, _⟩ := DataW.trod_int Try.underlying2 q3
    obtain ⟨bs, hr, hbl⟩ := open_bytes_cell Try.underlying23 Try.underlying5 (by kernel_rfl) q4
    injection hz0 with hz0 _
    injection hz1 with hz1 _
    injection hz2 with hz2 _
    injection hz3 with hz3 _
    subst hz0
    subst hz1
    subst hz2
    subst hz3
    exact ⟨z0, z1, z2, z3, v4, bs, rfl, hr, hbl⟩
theorem open_report_cells {cs : List Value} (h : DataW.trod enc Try.prog W base spare held fuel 36 cs = some x) : ∃ (k e t v : Int), cs = [.int .i64 k, .int .i64 e, .int .i64 t, .int .i64 v] := by
  obtain ⟨xs, k, hk, hxy, hlen, hxl, hf⟩ := DataW.trod_struct Try.underlying36 h
  rw [show Try.prog.cellsOf 36 = 4 by kernel_rfl] at hlen
  match xs, hxl, cs, hlen with
  | [y0, y1, y2, y3], _, [v0, v1, v2, v3], _ =>
    have q0 : DataW.trod enc Try.prog W base spare held k 34 [v0] = some y0 := hf 0 _ rfl
    have q1 : DataW.trod enc Try.prog W base spare held k 2 [v1] = some y1 := hf 1 _ rfl
    have q2 : DataW.trod enc Try.prog W base spare held k 2 [v2] = some y2 := hf 2 _ rfl
    have q3 : DataW.trod enc Try.prog W base spare held k 2 [v3] = some y3 := hf 3 _ rfl
    obtain ⟨z0, hz0, _, _⟩ := DataW.trod_int Try.underlying34 q0
    obtain ⟨z1, hz1, _, _⟩ := DataW.trod_int Try.underlying2 q1
    obtain ⟨z2, hz2, _, _⟩ := DataW.trod_int Try.underlying2 q2
    obtain ⟨z3, hz3, _, _⟩ := DataW.trod_int Try.underlying2 q3
    injection hz0 with hz0 _
    injection hz1 with hz1 _
    injection hz2 with hz2 _
    injection hz3 with hz3 _
    subst hz0
    subst hz1
    subst hz2
    subst hz3
    exact ⟨z0, z1, z2, z3, rfl⟩
theorem open_told_cells {cs : List Value} (h : DataW.trod enc Try.prog W base spare held fuel 43 cs = some x) : ∃ (n k e t v : Int) (b : Bool), cs = tolL n k e t v b := by
  obtain ⟨xs, k, hk, hxy, hlen, hxl, hf⟩ := DataW.trod_struct Try.underlying43 h
  rw [show Try.prog.cellsOf 43 = 6 by kernel_rfl] at hlen
  match xs, hxl, cs, hlen with
  | [y0, y1, y2], _, [v0, v1, v2, v3, v4, v5], _ =>
    have q0 : DataW.trod enc Try.prog W base spare held k 3 [v0] = some y0 := hf 0 _ rfl
    have q1 : DataW.trod enc Try.prog W base spare held k 36 [v1, v2, v3, v4] = some y1 := hf 1 _ rfl
    have q2 : DataW.trod enc Try.prog W base spare held k 4 [v5] = some y2 := hf 2 _ rfl
    obtain ⟨z0, hz0, _, _⟩ := DataW.trod_int Try.underlying3 q0
    obtain ⟨z1, z2, z3, z4, hz⟩ := open_report_cells q1
    obtain ⟨b, hb, _⟩ := DataW.trod_bool Try.underlying4 q2
    injection hz0 with hz0 _
    injection hb with hb _
    subst hz0
    subst hb
    injection hz with g1 hz
    injection hz with g2 hz
    injection hz with g3 hz
    injection hz with g4 hz
    subst g1
    subst g2
    subst g3
    subst g4
    exact ⟨z0, z1, z2, z3, z4, b, rfl⟩
theorem open_word_cells {cs : List Value} (h : DataW.trod enc Try.prog W base spare held fuel 48 cs = some x) : ∃ (y : WorD) (u : Value), cs = wordL y.k y.e y.t y.v u y.node y.rk y.re y.rt y.rv y.well ∧ RdB W u y.bundle ∧ y.bundle.length ≤ maxLen := by
  obtain ⟨xs, k, hk, hxy, hlen, hxl, hf⟩ := DataW.trod_struct Try.underlying48 h
  rw [show Try.prog.cellsOf 48 = 11 by kernel_rfl] at hlen
  match xs, hxl, cs, hlen with
  | [y0, y1], _, [v0, v1, v2, v3, v4, v5, v6, v7, v8, v9, v10], _ =>
    have q0 : DataW.trod enc Try.prog W base spare held k 25 [v0, v1, v2, v3, v4] = some y0 := hf 0 _ rfl
    have q1 : DataW.trod enc Try.prog W base spare held k 43 [v5, v6, v7, v8, v9, v10] = some y1 := hf 1 _ rfl
    obtain ⟨k, e, t, v, u, bu, ho, hr, hl⟩ := open_order_cells q0
    obtain ⟨n, rk, re, rt, rv, b, ht⟩ := open_told_cells q1
    refine ⟨⟨k, e, t, v, bu, n, rk, re, rt, rv, b⟩, u, ?_, hr, hl⟩
    have : [v0, v1, v2, v3, v4, v5, v6, v7, v8, v9, v10] = [v0, v1, v2, v3, v4] ++ [v5, v6, v7, v8, v9, v10] := rfl
    rw [this, ho, ht]
    rfl
end
section
variable {H : Type} {enc : TypeId × Value → H} {W : World} {spare : Nat → Bool} {held : Bool} {base b0 : Nat} {r : Reach} {v : Value} {d : DataW H} {ps : List MemPlace}
theorem agg_of {cs : Array Value} {l : List Value} (h : cs.toList = l) : (Value.agg cs) = .agg l.toArray := by subst h; simp
theorem open_word (hok : Value.okWide Try.prog W r b0 48 v) (h : DataW.Trod enc Try.prog W base spare held 48 v d ps) : ∃ y : WorD, ∃ u, v = y.V u ∧ RdB W u y.bundle ∧ y.bundle.length ≤ maxLen := by
  obtain ⟨cs, rfl, _⟩ := okWide_struct Try.underlying48 hok
  obtain ⟨fuel, hf⟩ := h
  obtain ⟨y, u, h1, h2, h3⟩ := open_word_cells hf
  exact ⟨y, u, agg_of h1, h2, h3⟩
theorem open_order (hok : Value.okWide Try.prog W r b0 25 v) (h : DataW.Trod enc Try.prog W base spare held 25 v d ps) : ∃ (k e t vv : Int) (u : Value) (bu : List UInt8), v = .agg (ordL k e t vv u).toArray ∧ RdB W u bu ∧ bu.length ≤ maxLen := by
  obtain ⟨cs, rfl, _⟩ := okWide_struct Try.underlying25 hok
  obtain ⟨fuel, hf⟩ := h
  obtain ⟨k, e, t, vv, u, bu, h1, h2, h3⟩ := open_order_cells hf
  exact ⟨k, e, t, vv, u, bu, agg_of h1, h2, h3⟩
theorem open_told (hok : Value.okWide Try.prog W r b0 43 v) (h : DataW.Trod enc Try.prog W base spare held 43 v d ps) : ∃ (n k e t vv : Int) (b : Bool), v = .agg (tolL n k e t vv b).toArray := by
  obtain ⟨cs, rfl, _⟩ := okWide_struct Try.underlying43 hok
  obtain ⟨fuel, hf⟩ := h
  obtain ⟨n, k, e, t, vv, b, h1⟩ := open_told_cells hf
  exact ⟨n, k, e, t, vv, b, agg_of h1⟩
end
end Go.Proofs.Ytpdgfekimnmdnaa

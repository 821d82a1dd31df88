/- The law of what a writer lays, first part: its calls as data; whether they are few. -/
import Derived.Test.YtfbpobhbkadblaaWireT
set_option linter.unusedVariables false
set_option linter.unusedSimpArgs false
namespace Go.Proofs.Ytfbpobhbkadblaa
open Go.RowKit
set_option maxRecDepth 20000

/-- A slice of calls that lay. -/
def RdA (w : World) (v : Value) (xs : List AddD) : Prop := ∃ ad cap, v = .slice ad xs.length cap ∧ xs.length ≤ cap ∧ xs.length ≤ maxLen ∧ ∀ j x, xs[j]? = some x → x.n ≤ 9223372036854775807 ∧ x.bytes.length ≤ maxLen ∧
  ∃ a u, ad = some a ∧ w.cell? ((a.add (j * 3)).add 0) = some (.int .i64 x.what) ∧ w.cell? ((a.add (j * 3)).add 1) = some (.int .i64 x.n) ∧ w.cell? ((a.add (j * 3)).add 2) = some u ∧ RdB w u x.bytes
theorem cell_keep0 {w w' : World} {a : Addr} {v : Value} (h : w.cell? a = some v) (k : Keep [] w w') : w'.cell? a = some v := by
  have hl : a.block < w.heap.size := by
    simp only [World.cell?] at h
    cases hq : w.heap[a.block]? with
    | none => rw [hq] at h; simp at h
    | some o => exact (Array.getElem?_eq_some_iff.1 hq).1
  rw [World.cell?_of_block (w := w) (k.block a.block hl (by simp))]
  exact h
theorem RdA.keep0 {w w' : World} {v : Value} {xs : List AddD} (h : RdA w v xs) (k : Keep [] w w') : RdA w' v xs := by
  obtain ⟨ad, cap, h1, h2, h2', h3⟩ := h
  refine ⟨ad, cap, h1, h2, h2', fun j x hj => ?_⟩
  obtain ⟨b1, b2, a, u, c1, c2, c3, c4, c5⟩ := h3 j x hj
  exact ⟨b1, b2, a, u, c1, cell_keep0 c2 k, cell_keep0 c3 k, cell_keep0 c4 k, c5.keep0 k⟩

def fewN (xs : List AddD) : Nat := (xs.map fun x => 30 + min x.bytes.length 4001).sum
theorem fewN_take {xs : List AddD} {j : Nat} {x : AddD} (h : xs[j]? = some x) : fewN (xs.take (j + 1)) = fewN (xs.take j) + (30 + min x.bytes.length 4001) := by
  unfold fewN
  rw [List.take_add_one, h]
  simp
theorem fewN_le (xs : List AddD) (j : Nat) : fewN (xs.take j) ≤ fewN xs := by
  have h : fewN xs = fewN (xs.take j) + fewN (xs.drop j) := by
    simp only [fewN]
    rw [← List.sum_append, ← List.map_append, List.take_append_drop]
  omega

theorem few_ok (v : Value) (xs : List AddD) (w : World) (hv : RdA w v xs) : Fn Try.prog 23 [v] w fun r w' => r = .bool (decide (fewN xs ≤ 4000)) ∧ w = w' := by
  obtain ⟨ad, cap, rfl, hcap, hml, hx⟩ := hv
  have hml' : xs.length ≤ 9223372036854775807 := by unfold maxLen at hml; omega
  refine fn_enter Try.func23 rfl rfl ?_
  refine es rfl ?_
  refine es rfl ?_
  refine ew_seq (es rfl ?_)
  refine ew_block ?_
  refine ew_loop (α := Nat) (fun i => [(0, .slice ad xs.length cap), (3, .int .i64 ((fewN (xs.take i) : Nat) : Int)), (4, .int .i64 (i : Int))])
    (fun i w' => i ≤ xs.length ∧ fewN (xs.take i) ≤ 8031 ∧ w = w') (fun i => xs.length - i) 0 ⟨rfl, int_eq (by simp [fewN]), rfl, trivial⟩ ⟨Nat.zero_le _, by simp [fewN], rfl⟩ ?_
  rintro i ρ w1 hd ⟨hi, hf, rfl⟩
  have hfl := fewN_le xs i
  refine ew_seq (spn 4 rfl ?_)
  by_cases hlt : i < xs.length
  · refine el_as (v' := .bool true) (bool_eq (decide_eq_true (by omega))) ?_
    refine ep rfl ?_
    by_cases hle : fewN (xs.take i) ≤ 4000
    · refine ew_cond_t rfl (decide_eq_true (by omega)) ?_
      refine ew_skip ?_
      obtain ⟨x, hxi⟩ : ∃ x, xs[i]? = some x := ⟨_, List.getElem?_eq_getElem hlt⟩
      obtain ⟨b1, b2, a, u, rfl, c2, c3, c4, c5⟩ := hx i x hxi
      obtain ⟨ad2, cap2, rfl, hc2⟩ := c5.slice
      have hst := fewN_take hxi
      have hmin : (if (4001 : Int) < (x.bytes.length : Int) then (4001 : Int) else (x.bytes.length : Int)) = ((min x.bytes.length 4001 : Nat) : Int) := by split <;> omega
      refine ew_seq (ew_block ?_)
      refine gp rfl ?_
      refine el_index (e := 46) (j := i) (p := i * 3) rfl rfl rfl rfl rfl rfl hlt rfl rfl ?_
      refine pp rfl ?_
      refine el_load rfl rfl rfl rfl rfl c4 ?_
      refine pp rfl ?_
      refine el_min rfl rfl rfl rfl ?_
      refine ppn 1 rfl ?_
      refine el_as (v' := .int .i64 ((fewN (xs.take (i + 1)) : Nat) : Int)) (int_eq (by rw [hmin, hst, wrap_i64 (n := ((fewN (xs.take i) : Nat) : Int) + 30) (by omega) (by omega), wrap_i64 (by omega) (by omega)]; omega)) ?_
      refine ep rfl ?_
      refine eg rfl ?_
      exact ⟨by exact hd, i + 1, ⟨rfl, rfl, int_eq (by rw [wrap_i64 (by omega) (by omega)]; omega), trivial⟩, ⟨hlt, by omega, rfl⟩, by omega⟩
    · refine ew_cond_f rfl (decide_eq_false (by omega)) ?_
      refine ew_exit ?_
      refine es rfl ?_
      refine ew_ret (ret_1 (.bool (decide ((fewN (xs.take i) : Int) ≤ 4000))) rfl rfl (by exact hd) rfl ⟨bool_eq ?_, rfl⟩)
      rw [decide_eq_false (by omega), decide_eq_false (by omega)]
  · obtain rfl : i = xs.length := by omega
    refine el_as (v' := .bool false) (bool_eq (decide_eq_false (by omega))) ?_
    refine ep rfl ?_
    refine ew_cond_f rfl rfl ?_
    refine ew_exit ?_
    refine es rfl ?_
    refine ew_ret (ret_1 (.bool (decide ((fewN (xs.take xs.length) : Int) ≤ 4000))) rfl rfl (by exact hd) rfl ⟨bool_eq ?_, rfl⟩)
    rw [List.take_length]
    by_cases h : fewN xs ≤ 4000
    · rw [decide_eq_true h, decide_eq_true (by omega)]
    · rw [decide_eq_false h, decide_eq_false (by omega)]
end Go.Proofs.Ytfbpobhbkadblaa

/- The law of what a writer lays, first part: its calls as data; whether they are few. -/
import Derived.Test.YtpdgfekimnmdnaaWireT
set_option linter.unusedVariables false
set_option linter.unusedSimpArgs false
namespace Go.Proofs.Ytpdgfekimnmdnaa
open Go.RowKit
set_option maxRecDepth 20000

/-- A slice of calls that lay. -/
def RdA (w : World) (v : Value) (xs : List AddD) : Prop := ∃ ad cap, v = .slice ad xs.length cap ∧ xs.length ≤ cap ∧ xs.length ≤ maxLen ∧ ∀ j x, xs[j]? = some x → x.n ≤ 9223372036854775807 ∧ x.bytes.length ≤ maxLen ∧
  ∃ a u, ad = some a ∧ w.cell? ((a.add (j * 3)).add 0) = some (.int .i64 x.what) ∧ w.cell? ((a.add (j * 3)).add 1) = some (.int .i64 x.n) ∧ w.cell? ((a.add (j * 3)).add 2) = some u ∧ RdB w u x.bytes
theorem cell_keep0 {w w' : World} {a : Addr} {v : Value} (h : w.cell? a = some v) (k : Keep [] w w') : w'.cell? a = some v := by
  have hl : a.block < w.heap.size := by
    simp only [World.cell?] at h
    cases hq : w.heap[a.block]? with
    | none => rw [hq] at h; simp at h
    | some o => exact (Array.getElem?_eq_some_iff.1 hq).1
  rw [World.cell?_of_block (w := w) (k.block a.block hl (by simp))]
  exact h
theorem RdA.keep0 {w w' : World} {v : Value} {xs : List AddD} (h : RdA w v xs) (k : Keep [] w w') : RdA w' v xs := by
  obtain ⟨ad, cap, h1, h2, h2', h3⟩ := h
  refine ⟨ad, cap, h1, h2, h2', fun j x hj => ?_⟩
  obtain ⟨b1, b2, a, u, c1, c2, c3, c4, c5⟩ := h3 j x hj
  exact ⟨b1, b2, a, u, c1, cell_keep0 c2 k, cell_keep0 c3 k, cell_keep0 c4 k, c5.keep0 k⟩

def fewN (xs : List AddD) : Nat := (xs.map fun x => 30 + min x.bytes.length 4001).sum
theorem fewN_take {xs : List AddD} {j : Nat} {x : AddD} (h : xs[j]? = some x) : fewN (xs.take (j + 1)) = fewN (xs.take j) + (30 + min x.bytes.length 4001) := by
  unfold fewN
  rw [List.take_add_one, h]
  simp
theorem fewN_le (xs : List AddD) (j : Nat) : fewN (xs.take j) ≤ fewN xs := by
  have h : fewN xs = fewN (xs.take j) + fewN (xs.drop j) := by
    simp only [fewN]
    rw [← List.sum_append, ← List.map_append, List.take_append_drop]
  omega

end Go.Proofs.Ytpdgfekimnmdnaa

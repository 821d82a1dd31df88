/- What was laid is taken off again. -/
import Derived.Test.YtpdgfekimnmdnaaWireV
import Derived.Test.YtpdgfekimnmdnaaWireY
set_option linter.unusedVariables false
set_option linter.unusedSimpArgs false
namespace Go.Proofs.Ytpdgfekimnmdnaa
open Go.RowKit
set_option maxRecDepth 20000

theorem rd_num_laid (n : Nat) (hn : n < 9223372036854775808) (g : Int) (hg : (n : Int) ≤ g) (all r : List UInt8) (p : Nat) (h : all.drop p = numB n ++ r) : (rdStep 0 all p 0 true fun l => numR l g) = ((n : Int), 0, p + (numB n).length, 0) := by
  have hs := scan_numB n r hn
  have hq := numR_ok (g := g) hs (by omega)
  rw [rdStep_go, h, hq]
  rfl
theorem rd_bytes_laid (bs : List UInt8) (hn : bs.length < 9223372036854775808) (all r : List UInt8) (p : Nat) (h : all.drop p = numB bs.length ++ bs ++ r) : (rdStep [] all p 0 true fun l => bytesR l (bs.length : Int)) = (bs, 0, p + (numB bs.length ++ bs).length, 0) := by
  have hs := scan_numB bs.length (bs ++ r) hn
  have hq := numR_ok (g := (bs.length : Int)) hs (by omega)
  rw [← List.append_assoc] at hq
  have hB : bytesR (numB bs.length ++ bs ++ r) (bs.length : Int) = (bs, 0, (numB bs.length).length + bs.length) := by
    unfold bytesR
    rw [hq]
    simp
  rw [rdStep_go, h, hB]
  simp
theorem rd_truth_laid (b : Bool) (all r : List UInt8) (p : Nat) (h : all.drop p = (if b then 1 else 0) :: r) : (rdStep false all p 0 true truthR) = (b, 0, p + 1, 0) := by
  rw [rdStep_go, h]
  cases b <;> rfl

end Go.Proofs.Ytpdgfekimnmdnaa

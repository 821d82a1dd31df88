/- The law of signed numbers. -/
import Derived.Test.YtpdgfekimnmdnaaWireL
set_option linter.unusedVariables false
set_option linter.unusedSimpArgs false
namespace Go.Proofs.Ytpdgfekimnmdnaa
open Go.RowKit
set_option maxRecDepth 20000

theorem rd_signed (n : Int) (h0 : -4611686018427387904 ≤ n) (h1 : n < 4611686018427387904) (r : List UInt8) :
    (rdStep 0 (numB (zig n) ++ r) 0 0 true fun l => numR l 9223372036854775807) = ((zig n : Int), 0, (numB (zig n)).length, 0) := by
  have hz : zig n < 9223372036854775808 := by unfold zig; split <;> omega
  have hs := scan_numB (zig n) r hz
  have hn := numR_ok (g := 9223372036854775807) hs (by omega)
  simp [rdStep, hn]

end Go.Proofs.Ytpdgfekimnmdnaa

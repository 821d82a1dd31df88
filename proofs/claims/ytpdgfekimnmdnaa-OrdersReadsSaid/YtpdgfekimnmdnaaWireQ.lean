/- The law of numbers. -/
import Derived.Test.YtpdgfekimnmdnaaWireP
set_option linter.unusedVariables false
set_option linter.unusedSimpArgs false
namespace Go.Proofs.Ytpdgfekimnmdnaa
open Go.RowKit
set_option maxRecDepth 20000

theorem rdStep_at {α : Type} (z : α) (all : List UInt8) (at_ : Nat) (flaw : Int) (fine : Bool) (res : List UInt8 → α × Int × Nat) (h : at_ ≤ all.length) (hr : (res (all.drop at_)).2.1 = 0 → (res (all.drop at_)).2.2 ≤ (all.drop at_).length) : (rdStep z all at_ flaw fine res).2.2.1 ≤ all.length := by
  unfold rdStep
  split
  · exact h
  · split
    · exact h
    · split
      · rename_i h1
        have := hr h1
        simp at this
        show at_ + _ ≤ _
        omega
      · exact h

end Go.Proofs.Ytpdgfekimnmdnaa

/-
  No cell of these rows narrows 'for every input' (looked for: loops, veiled, ifaces, maps, wideKeys, modest, calm, conditions, laid).
  DERIVED. THE GIVEN ROWS OF THIS SEAT. 7 by the template 'for every input the law returns true; each argument reads behind the call as it read before'; 0 by the template 'total and deterministic' (their statements: YtpdgfekimnmdnaaTotals.lean).
  GIVEN WITH THE SEED: the statements are not yours to turn. If you find one false, say at which input.
  Laid BY PROGRAM, IN A SANDBOX (cutbox-rows.mjs): the forced cells as the released guide's own fill.sh prints them over the translation 0930ef199b598797… (all of the seat's roots in one cut). By AI agents, Wed Nov 11 2026. No macro, syntax, notation, axiom, sorry.
-/
import Derived.Test.YtpdgfekimnmdnaaChecked
import GoSem.Claim
import GoSem.ClaimJoined
import GoSem.ClaimMapViews
import Derived.JoinedTies
import Derived.KernelRfl
namespace Go.Proofs.Ytpdgfekimnmdnaa
/- THE CELL 'sum', in the pinned program and in every row, IS THE sha256 OF THE DUMP (.gsa) THAT YtpdgfekimnmdnaaProg.lean LOADS. Nothing in Lean hashes anything: it is a label: what it is worth is what the hold of that sum in a sandbox is worth. -/
noncomputable def Try.pinned : Pinned := { name := "ytpdgfekimnmdnaa", sum := "0930ef199b5987974597d25df0c78b80f3c213c0c3a867cf665d99acb0ae499a", checked := Try.checked }
namespace Rows
def none {H : Type} : Left H := { results := [], args := [] }

/-- 'cachetlaw17.OrdersOrders': WHATEVER THE INPUT: true; the input reads as it did. -/
def ordersOrdersSpec : ChangeSpec := { name := "ordersOrders", fn := fun _ => fun
  | [d] => { results := [.lit (.bool true)], args := [d] }
  | _ => none }
def ordersOrdersRow : OpenClaim := { program := "ytpdgfekimnmdnaa", sum := "0930ef199b5987974597d25df0c78b80f3c213c0c3a867cf665d99acb0ae499a", func := "cachet/cachetlaw17.OrdersOrders", spec := "ordersOrders", unfollowed := true, recurses := true, apart := false }
def OrdersOrdersSaid : Prop := ordersOrdersRow.holds Try.pinned (OpenSpec.ofChange ordersOrdersSpec)

/-- ITS FALSE NEIGHBOUR: 'it returns false'. Refute it at one input. -/
def ordersOrdersWrong : ChangeSpec := { name := "ordersOrders", fn := fun _ => fun
  | [d] => { results := [.lit (.bool false)], args := [d] }
  | _ => none }
def OrdersOrdersWrongFalsely : Prop := ordersOrdersRow.holds Try.pinned (OpenSpec.ofChange ordersOrdersWrong)

/-- 'cachetlaw17.OrdersReports': WHATEVER THE INPUT: true; the input reads as it did. -/
def ordersReportsSpec : ChangeSpec := { name := "ordersReports", fn := fun _ => fun
  | [d] => { results := [.lit (.bool true)], args := [d] }
  | _ => none }
def ordersReportsRow : OpenClaim := { program := "ytpdgfekimnmdnaa", sum := "0930ef199b5987974597d25df0c78b80f3c213c0c3a867cf665d99acb0ae499a", func := "cachet/cachetlaw17.OrdersReports", spec := "ordersReports", unfollowed := true, recurses := true, apart := false }
def OrdersReportsSaid : Prop := ordersReportsRow.holds Try.pinned (OpenSpec.ofChange ordersReportsSpec)

/-- ITS FALSE NEIGHBOUR: 'it returns false'. Refute it at one input. -/
def ordersReportsWrong : ChangeSpec := { name := "ordersReports", fn := fun _ => fun
  | [d] => { results := [.lit (.bool false)], args := [d] }
  | _ => none }
def OrdersReportsWrongFalsely : Prop := ordersReportsRow.holds Try.pinned (OpenSpec.ofChange ordersReportsWrong)

/-- 'cachetlaw17.OrdersReads': WHATEVER THE INPUT: true; the input reads as it did. -/
def ordersReadsSpec : ChangeSpec := { name := "ordersReads", fn := fun _ => fun
  | [d] => { results := [.lit (.bool true)], args := [d] }
  | _ => none }
def ordersReadsRow : OpenClaim := { program := "ytpdgfekimnmdnaa", sum := "0930ef199b5987974597d25df0c78b80f3c213c0c3a867cf665d99acb0ae499a", func := "cachet/cachetlaw17.OrdersReads", spec := "ordersReads", unfollowed := true, recurses := true, apart := false }
def OrdersReadsSaid : Prop := ordersReadsRow.holds Try.pinned (OpenSpec.ofChange ordersReadsSpec)

/-- ITS FALSE NEIGHBOUR: 'it returns false'. Refute it at one input. -/
def ordersReadsWrong : ChangeSpec := { name := "ordersReads", fn := fun _ => fun
  | [d] => { results := [.lit (.bool false)], args := [d] }
  | _ => none }
def OrdersReadsWrongFalsely : Prop := ordersReadsRow.holds Try.pinned (OpenSpec.ofChange ordersReadsWrong)

/-- 'cachetlaw17.OrdersLong': WHATEVER THE INPUT: true; the input reads as it did. -/
def ordersLongSpec : ChangeSpec := { name := "ordersLong", fn := fun _ => fun
  | [] => { results := [.lit (.bool true)], args := [] }
  | _ => none }
def ordersLongRow : OpenClaim := { program := "ytpdgfekimnmdnaa", sum := "0930ef199b5987974597d25df0c78b80f3c213c0c3a867cf665d99acb0ae499a", func := "cachet/cachetlaw17.OrdersLong", spec := "ordersLong", unfollowed := true, recurses := true, apart := false }
def OrdersLongSaid : Prop := ordersLongRow.holds Try.pinned (OpenSpec.ofChange ordersLongSpec)

/-- ITS FALSE NEIGHBOUR: 'it returns false'. Refute it at one input. -/
def ordersLongWrong : ChangeSpec := { name := "ordersLong", fn := fun _ => fun
  | [] => { results := [.lit (.bool false)], args := [] }
  | _ => none }
def OrdersLongWrongFalsely : Prop := ordersLongRow.holds Try.pinned (OpenSpec.ofChange ordersLongWrong)

/-- 'cachetlaw17.OrdersSame': WHATEVER THE INPUT: true; the input reads as it did. -/
def ordersSameSpec : ChangeSpec := { name := "ordersSame", fn := fun _ => fun
  | [d1, d2] => { results := [.lit (.bool true)], args := [d1, d2] }
  | _ => none }
def ordersSameRow : OpenClaim := { program := "ytpdgfekimnmdnaa", sum := "0930ef199b5987974597d25df0c78b80f3c213c0c3a867cf665d99acb0ae499a", func := "cachet/cachetlaw17.OrdersSame", spec := "ordersSame", unfollowed := true, recurses := true, apart := false }
def OrdersSameSaid : Prop := ordersSameRow.holds Try.pinned (OpenSpec.ofChange ordersSameSpec)

/-- ITS FALSE NEIGHBOUR: 'it returns false'. Refute it at one input. -/
def ordersSameWrong : ChangeSpec := { name := "ordersSame", fn := fun _ => fun
  | [d1, d2] => { results := [.lit (.bool false)], args := [d1, d2] }
  | _ => none }
def OrdersSameWrongFalsely : Prop := ordersSameRow.holds Try.pinned (OpenSpec.ofChange ordersSameWrong)

/-- 'cachetlaw17.OrdersWords': WHATEVER THE INPUT: true; the input reads as it did. -/
def ordersWordsSpec : ChangeSpec := { name := "ordersWords", fn := fun _ => fun
  | [d] => { results := [.lit (.bool true)], args := [d] }
  | _ => none }
def ordersWordsRow : OpenClaim := { program := "ytpdgfekimnmdnaa", sum := "0930ef199b5987974597d25df0c78b80f3c213c0c3a867cf665d99acb0ae499a", func := "cachet/cachetlaw17.OrdersWords", spec := "ordersWords", unfollowed := true, recurses := true, apart := false }
def OrdersWordsSaid : Prop := ordersWordsRow.holds Try.pinned (OpenSpec.ofChange ordersWordsSpec)

/-- ITS FALSE NEIGHBOUR: 'it returns false'. Refute it at one input. -/
def ordersWordsWrong : ChangeSpec := { name := "ordersWords", fn := fun _ => fun
  | [d] => { results := [.lit (.bool false)], args := [d] }
  | _ => none }
def OrdersWordsWrongFalsely : Prop := ordersWordsRow.holds Try.pinned (OpenSpec.ofChange ordersWordsWrong)

/-- 'cachetlaw17.OrdersBack': WHATEVER THE INPUT: true; the input reads as it did. -/
def ordersBackSpec : ChangeSpec := { name := "ordersBack", fn := fun _ => fun
  | [d1, d2, d3] => { results := [.lit (.bool true)], args := [d1, d2, d3] }
  | _ => none }
def ordersBackRow : OpenClaim := { program := "ytpdgfekimnmdnaa", sum := "0930ef199b5987974597d25df0c78b80f3c213c0c3a867cf665d99acb0ae499a", func := "cachet/cachetlaw17.OrdersBack", spec := "ordersBack", unfollowed := true, recurses := true, apart := false }
def OrdersBackSaid : Prop := ordersBackRow.holds Try.pinned (OpenSpec.ofChange ordersBackSpec)

/-- ITS FALSE NEIGHBOUR: 'it returns false'. Refute it at one input. -/
def ordersBackWrong : ChangeSpec := { name := "ordersBack", fn := fun _ => fun
  | [d1, d2, d3] => { results := [.lit (.bool false)], args := [d1, d2, d3] }
  | _ => none }
def OrdersBackWrongFalsely : Prop := ordersBackRow.holds Try.pinned (OpenSpec.ofChange ordersBackWrong)

/- THE SECOND FORM. 'bulk': how many values and letters a reading holds, each counted each time it is reached (what is shared counts as often as it is met; a slice's spare places count too). A statement '..UptoSaid' is the law's where the arguments, and the package variables that the reading takes, are together of bulk at most 1048576: NARROWER than '..Said'. Prove '..Said' where nothing that the law and all that it calls make is longer than what came in: it says more and counts as full. Else prove '..UptoSaid'. A law counts once. -/
mutual
def uptoBulk {H : Type} : DataW H → Nat
  | .lit (.string bytes) => bytes.length + 1
  | .lit _ => 1
  | .nil => 1
  | .ptr d => uptoBulk d + 1
  | .slice elems spare => uptoBulkAll elems + uptoBulkAll spare + 1
  | .agg parts => uptoBulkAll parts + 1
  | .iface _ d => uptoBulk d + 1
  | .map entries => uptoBulkEntries entries + 1
  | .held _ => 1
def uptoBulkAll {H : Type} : List (DataW H) → Nat
  | [] => 0
  | d :: r => uptoBulk d + uptoBulkAll r
def uptoBulkEntries {H : Type} : List (Lit × DataW H) → Nat
  | [] => 0
  | x :: r => uptoBulkEntry x + uptoBulkEntries r
def uptoBulkEntry {H : Type} : Lit × DataW H → Nat
  | (.string bytes, d) => bytes.length + uptoBulk d + 1
  | (_, d) => uptoBulk d + 1
 end
def uptoSmall : (H : Type) → List (DataW H) → Bool := fun _ ds => decide (uptoBulkAll ds ≤ 1048576)
def OpenSpec.upto (s : _root_.Go.ChangeSpec) : _root_.Go.OpenSpec := { _root_.Go.OpenSpec.ofChange s with cond := some uptoSmall }

/-- 'cachetlaw17.OrdersOrders', WHERE WHAT IT READS IS OF BULK AT MOST 1048576: true; the input reads as it did. -/
def ordersOrdersUptoRow : OpenClaim := { program := "ytpdgfekimnmdnaa", sum := "0930ef199b5987974597d25df0c78b80f3c213c0c3a867cf665d99acb0ae499a", func := "cachet/cachetlaw17.OrdersOrders", spec := "ordersOrders", unfollowed := true, recurses := true, apart := false, narrowed := true }
def OrdersOrdersUptoSaid : Prop := ordersOrdersUptoRow.holds Try.pinned (OpenSpec.upto ordersOrdersSpec)

/-- 'cachetlaw17.OrdersReports', WHERE WHAT IT READS IS OF BULK AT MOST 1048576: true; the input reads as it did. -/
def ordersReportsUptoRow : OpenClaim := { program := "ytpdgfekimnmdnaa", sum := "0930ef199b5987974597d25df0c78b80f3c213c0c3a867cf665d99acb0ae499a", func := "cachet/cachetlaw17.OrdersReports", spec := "ordersReports", unfollowed := true, recurses := true, apart := false, narrowed := true }
def OrdersReportsUptoSaid : Prop := ordersReportsUptoRow.holds Try.pinned (OpenSpec.upto ordersReportsSpec)

/-- 'cachetlaw17.OrdersReads', WHERE WHAT IT READS IS OF BULK AT MOST 1048576: true; the input reads as it did. -/
def ordersReadsUptoRow : OpenClaim := { program := "ytpdgfekimnmdnaa", sum := "0930ef199b5987974597d25df0c78b80f3c213c0c3a867cf665d99acb0ae499a", func := "cachet/cachetlaw17.OrdersReads", spec := "ordersReads", unfollowed := true, recurses := true, apart := false, narrowed := true }
def OrdersReadsUptoSaid : Prop := ordersReadsUptoRow.holds Try.pinned (OpenSpec.upto ordersReadsSpec)

/-- 'cachetlaw17.OrdersLong', WHERE WHAT IT READS IS OF BULK AT MOST 1048576: true; the input reads as it did. -/
def ordersLongUptoRow : OpenClaim := { program := "ytpdgfekimnmdnaa", sum := "0930ef199b5987974597d25df0c78b80f3c213c0c3a867cf665d99acb0ae499a", func := "cachet/cachetlaw17.OrdersLong", spec := "ordersLong", unfollowed := true, recurses := true, apart := false, narrowed := true }
def OrdersLongUptoSaid : Prop := ordersLongUptoRow.holds Try.pinned (OpenSpec.upto ordersLongSpec)

/-- 'cachetlaw17.OrdersSame', WHERE WHAT IT READS IS OF BULK AT MOST 1048576: true; the input reads as it did. -/
def ordersSameUptoRow : OpenClaim := { program := "ytpdgfekimnmdnaa", sum := "0930ef199b5987974597d25df0c78b80f3c213c0c3a867cf665d99acb0ae499a", func := "cachet/cachetlaw17.OrdersSame", spec := "ordersSame", unfollowed := true, recurses := true, apart := false, narrowed := true }
def OrdersSameUptoSaid : Prop := ordersSameUptoRow.holds Try.pinned (OpenSpec.upto ordersSameSpec)

/-- 'cachetlaw17.OrdersWords', WHERE WHAT IT READS IS OF BULK AT MOST 1048576: true; the input reads as it did. -/
def ordersWordsUptoRow : OpenClaim := { program := "ytpdgfekimnmdnaa", sum := "0930ef199b5987974597d25df0c78b80f3c213c0c3a867cf665d99acb0ae499a", func := "cachet/cachetlaw17.OrdersWords", spec := "ordersWords", unfollowed := true, recurses := true, apart := false, narrowed := true }
def OrdersWordsUptoSaid : Prop := ordersWordsUptoRow.holds Try.pinned (OpenSpec.upto ordersWordsSpec)

/-- 'cachetlaw17.OrdersBack', WHERE WHAT IT READS IS OF BULK AT MOST 1048576: true; the input reads as it did. -/
def ordersBackUptoRow : OpenClaim := { program := "ytpdgfekimnmdnaa", sum := "0930ef199b5987974597d25df0c78b80f3c213c0c3a867cf665d99acb0ae499a", func := "cachet/cachetlaw17.OrdersBack", spec := "ordersBack", unfollowed := true, recurses := true, apart := false, narrowed := true }
def OrdersBackUptoSaid : Prop := ordersBackUptoRow.holds Try.pinned (OpenSpec.upto ordersBackSpec)

end Rows
end Go.Proofs.Ytpdgfekimnmdnaa

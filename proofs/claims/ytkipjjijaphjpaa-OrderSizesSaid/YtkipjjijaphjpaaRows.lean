/-
  No cell of these rows narrows 'for every input' (looked for: loops, veiled, ifaces, maps, wideKeys, modest, calm, conditions, laid).
  DERIVED. THE GIVEN ROWS OF THIS SEAT. 6 by the template 'for every input the law returns true; each argument reads behind the call as it read before'; 0 by the template 'total and deterministic' (their statements: YtkipjjijaphjpaaTotals.lean).
  GIVEN WITH THE SEED: the statements are not yours to turn. If you find one false, say at which input.
  Laid BY PROGRAM, IN A SANDBOX (cutbox-rows.mjs): the forced cells as the released guide's own fill.sh prints them over the translation 9e6d42e5c018525e… (all of the seat's roots in one cut). By AI agents, Wed Nov 11 2026. No macro, syntax, notation, axiom, sorry.
-/
import Derived.Test.YtkipjjijaphjpaaChecked
import GoSem.Claim
import GoSem.ClaimJoined
import GoSem.ClaimMapViews
import Derived.JoinedTies
import Derived.KernelRfl
namespace Go.Proofs.Ytkipjjijaphjpaa
/- THE CELL 'sum', in the pinned program and in every row, IS THE sha256 OF THE DUMP (.gsa) THAT YtkipjjijaphjpaaProg.lean LOADS. Nothing in Lean hashes anything: it is a label: what it is worth is what the hold of that sum in a sandbox is worth. -/
noncomputable def Try.pinned : Pinned := { name := "ytkipjjijaphjpaa", sum := "9e6d42e5c018525e2dde79767e4b1de79fcec680ce9242f56d0fd5f5d917e84c", checked := Try.checked }
namespace Rows
def none {H : Type} : Left H := { results := [], args := [] }

/-- 'tillerlaw10.OrderTotals': WHATEVER THE INPUT: true; the input reads as it did. -/
def orderTotalsSpec : ChangeSpec := { name := "orderTotals", fn := fun _ => fun
  | [d1, d2] => { results := [.lit (.bool true)], args := [d1, d2] }
  | _ => none }
def orderTotalsRow : OpenClaim := { program := "ytkipjjijaphjpaa", sum := "9e6d42e5c018525e2dde79767e4b1de79fcec680ce9242f56d0fd5f5d917e84c", func := "tiller/tillerlaw10.OrderTotals", spec := "orderTotals", apart := false }
def OrderTotalsSaid : Prop := orderTotalsRow.holds Try.pinned (OpenSpec.ofChange orderTotalsSpec)

/-- ITS FALSE NEIGHBOUR: 'it returns false'. Refute it at one input. -/
def orderTotalsWrong : ChangeSpec := { name := "orderTotals", fn := fun _ => fun
  | [d1, d2] => { results := [.lit (.bool false)], args := [d1, d2] }
  | _ => none }
def OrderTotalsWrongFalsely : Prop := orderTotalsRow.holds Try.pinned (OpenSpec.ofChange orderTotalsWrong)

/-- 'tillerlaw10.OrderAll': WHATEVER THE INPUT: true; the input reads as it did. -/
def orderAllSpec : ChangeSpec := { name := "orderAll", fn := fun _ => fun
  | [d1, d2, d3] => { results := [.lit (.bool true)], args := [d1, d2, d3] }
  | _ => none }
def orderAllRow : OpenClaim := { program := "ytkipjjijaphjpaa", sum := "9e6d42e5c018525e2dde79767e4b1de79fcec680ce9242f56d0fd5f5d917e84c", func := "tiller/tillerlaw10.OrderAll", spec := "orderAll", apart := false }
def OrderAllSaid : Prop := orderAllRow.holds Try.pinned (OpenSpec.ofChange orderAllSpec)

/-- ITS FALSE NEIGHBOUR: 'it returns false'. Refute it at one input. -/
def orderAllWrong : ChangeSpec := { name := "orderAll", fn := fun _ => fun
  | [d1, d2, d3] => { results := [.lit (.bool false)], args := [d1, d2, d3] }
  | _ => none }
def OrderAllWrongFalsely : Prop := orderAllRow.holds Try.pinned (OpenSpec.ofChange orderAllWrong)

/-- 'tillerlaw10.OrderCompares': WHATEVER THE INPUT: true; the input reads as it did. -/
def orderComparesSpec : ChangeSpec := { name := "orderCompares", fn := fun _ => fun
  | [d1, d2] => { results := [.lit (.bool true)], args := [d1, d2] }
  | _ => none }
def orderComparesRow : OpenClaim := { program := "ytkipjjijaphjpaa", sum := "9e6d42e5c018525e2dde79767e4b1de79fcec680ce9242f56d0fd5f5d917e84c", func := "tiller/tillerlaw10.OrderCompares", spec := "orderCompares", apart := false }
def OrderComparesSaid : Prop := orderComparesRow.holds Try.pinned (OpenSpec.ofChange orderComparesSpec)

/-- ITS FALSE NEIGHBOUR: 'it returns false'. Refute it at one input. -/
def orderComparesWrong : ChangeSpec := { name := "orderCompares", fn := fun _ => fun
  | [d1, d2] => { results := [.lit (.bool false)], args := [d1, d2] }
  | _ => none }
def OrderComparesWrongFalsely : Prop := orderComparesRow.holds Try.pinned (OpenSpec.ofChange orderComparesWrong)

/-- 'tillerlaw10.OrderPicks': WHATEVER THE INPUT: true; the input reads as it did. -/
def orderPicksSpec : ChangeSpec := { name := "orderPicks", fn := fun _ => fun
  | [d1, d2] => { results := [.lit (.bool true)], args := [d1, d2] }
  | _ => none }
def orderPicksRow : OpenClaim := { program := "ytkipjjijaphjpaa", sum := "9e6d42e5c018525e2dde79767e4b1de79fcec680ce9242f56d0fd5f5d917e84c", func := "tiller/tillerlaw10.OrderPicks", spec := "orderPicks", apart := false }
def OrderPicksSaid : Prop := orderPicksRow.holds Try.pinned (OpenSpec.ofChange orderPicksSpec)

/-- ITS FALSE NEIGHBOUR: 'it returns false'. Refute it at one input. -/
def orderPicksWrong : ChangeSpec := { name := "orderPicks", fn := fun _ => fun
  | [d1, d2] => { results := [.lit (.bool false)], args := [d1, d2] }
  | _ => none }
def OrderPicksWrongFalsely : Prop := orderPicksRow.holds Try.pinned (OpenSpec.ofChange orderPicksWrong)

/-- 'tillerlaw10.OrderSizes': WHATEVER THE INPUT: true; the input reads as it did. -/
def orderSizesSpec : ChangeSpec := { name := "orderSizes", fn := fun _ => fun
  | [d1, d2] => { results := [.lit (.bool true)], args := [d1, d2] }
  | _ => none }
def orderSizesRow : OpenClaim := { program := "ytkipjjijaphjpaa", sum := "9e6d42e5c018525e2dde79767e4b1de79fcec680ce9242f56d0fd5f5d917e84c", func := "tiller/tillerlaw10.OrderSizes", spec := "orderSizes", apart := false }
def OrderSizesSaid : Prop := orderSizesRow.holds Try.pinned (OpenSpec.ofChange orderSizesSpec)

/-- ITS FALSE NEIGHBOUR: 'it returns false'. Refute it at one input. -/
def orderSizesWrong : ChangeSpec := { name := "orderSizes", fn := fun _ => fun
  | [d1, d2] => { results := [.lit (.bool false)], args := [d1, d2] }
  | _ => none }
def OrderSizesWrongFalsely : Prop := orderSizesRow.holds Try.pinned (OpenSpec.ofChange orderSizesWrong)

/-- 'tillerlaw10.OrderBoth': WHATEVER THE INPUT: true; the input reads as it did. -/
def orderBothSpec : ChangeSpec := { name := "orderBoth", fn := fun _ => fun
  | [d1, d2] => { results := [.lit (.bool true)], args := [d1, d2] }
  | _ => none }
def orderBothRow : OpenClaim := { program := "ytkipjjijaphjpaa", sum := "9e6d42e5c018525e2dde79767e4b1de79fcec680ce9242f56d0fd5f5d917e84c", func := "tiller/tillerlaw10.OrderBoth", spec := "orderBoth", apart := false }
def OrderBothSaid : Prop := orderBothRow.holds Try.pinned (OpenSpec.ofChange orderBothSpec)

/-- ITS FALSE NEIGHBOUR: 'it returns false'. Refute it at one input. -/
def orderBothWrong : ChangeSpec := { name := "orderBoth", fn := fun _ => fun
  | [d1, d2] => { results := [.lit (.bool false)], args := [d1, d2] }
  | _ => none }
def OrderBothWrongFalsely : Prop := orderBothRow.holds Try.pinned (OpenSpec.ofChange orderBothWrong)

/- THE SECOND FORM. 'bulk': how many values and letters a reading holds, each counted each time it is reached (what is shared counts as often as it is met; a slice's spare places count too). A statement '..UptoSaid' is the law's where the arguments, and the package variables that the reading takes, are together of bulk at most 1048576: NARROWER than '..Said'. Prove '..Said' where nothing that the law and all that it calls make is longer than what came in: it says more and counts as full. Else prove '..UptoSaid'. A law counts once. -/
mutual
def uptoBulk {H : Type} : DataW H → Nat
  | .lit (.string bytes) => bytes.length + 1
  | .lit _ => 1
  | .nil => 1
  | .ptr d => uptoBulk d + 1
  | .slice elems spare => uptoBulkAll elems + uptoBulkAll spare + 1
  | .agg parts => uptoBulkAll parts + 1
  | .iface _ d => uptoBulk d + 1
  | .map entries => uptoBulkEntries entries + 1
  | .held _ => 1
def uptoBulkAll {H : Type} : List (DataW H) → Nat
  | [] => 0
  | d :: r => uptoBulk d + uptoBulkAll r
def uptoBulkEntries {H : Type} : List (Lit × DataW H) → Nat
  | [] => 0
  | x :: r => uptoBulkEntry x + uptoBulkEntries r
def uptoBulkEntry {H : Type} : Lit × DataW H → Nat
  | (.string bytes, d) => bytes.length + uptoBulk d + 1
  | (_, d) => uptoBulk d + 1
 end
def uptoSmall : (H : Type) → List (DataW H) → Bool := fun _ ds => decide (uptoBulkAll ds ≤ 1048576)
def OpenSpec.upto (s : _root_.Go.ChangeSpec) : _root_.Go.OpenSpec := { _root_.Go.OpenSpec.ofChange s with cond := some uptoSmall }

/-- 'tillerlaw10.OrderTotals', WHERE WHAT IT READS IS OF BULK AT MOST 1048576: true; the input reads as it did. -/
def orderTotalsUptoRow : OpenClaim := { program := "ytkipjjijaphjpaa", sum := "9e6d42e5c018525e2dde79767e4b1de79fcec680ce9242f56d0fd5f5d917e84c", func := "tiller/tillerlaw10.OrderTotals", spec := "orderTotals", apart := false, narrowed := true }
def OrderTotalsUptoSaid : Prop := orderTotalsUptoRow.holds Try.pinned (OpenSpec.upto orderTotalsSpec)

/-- 'tillerlaw10.OrderAll', WHERE WHAT IT READS IS OF BULK AT MOST 1048576: true; the input reads as it did. -/
def orderAllUptoRow : OpenClaim := { program := "ytkipjjijaphjpaa", sum := "9e6d42e5c018525e2dde79767e4b1de79fcec680ce9242f56d0fd5f5d917e84c", func := "tiller/tillerlaw10.OrderAll", spec := "orderAll", apart := false, narrowed := true }
def OrderAllUptoSaid : Prop := orderAllUptoRow.holds Try.pinned (OpenSpec.upto orderAllSpec)

/-- 'tillerlaw10.OrderCompares', WHERE WHAT IT READS IS OF BULK AT MOST 1048576: true; the input reads as it did. -/
def orderComparesUptoRow : OpenClaim := { program := "ytkipjjijaphjpaa", sum := "9e6d42e5c018525e2dde79767e4b1de79fcec680ce9242f56d0fd5f5d917e84c", func := "tiller/tillerlaw10.OrderCompares", spec := "orderCompares", apart := false, narrowed := true }
def OrderComparesUptoSaid : Prop := orderComparesUptoRow.holds Try.pinned (OpenSpec.upto orderComparesSpec)

/-- 'tillerlaw10.OrderPicks', WHERE WHAT IT READS IS OF BULK AT MOST 1048576: true; the input reads as it did. -/
def orderPicksUptoRow : OpenClaim := { program := "ytkipjjijaphjpaa", sum := "9e6d42e5c018525e2dde79767e4b1de79fcec680ce9242f56d0fd5f5d917e84c", func := "tiller/tillerlaw10.OrderPicks", spec := "orderPicks", apart := false, narrowed := true }
def OrderPicksUptoSaid : Prop := orderPicksUptoRow.holds Try.pinned (OpenSpec.upto orderPicksSpec)

/-- 'tillerlaw10.OrderSizes', WHERE WHAT IT READS IS OF BULK AT MOST 1048576: true; the input reads as it did. -/
def orderSizesUptoRow : OpenClaim := { program := "ytkipjjijaphjpaa", sum := "9e6d42e5c018525e2dde79767e4b1de79fcec680ce9242f56d0fd5f5d917e84c", func := "tiller/tillerlaw10.OrderSizes", spec := "orderSizes", apart := false, narrowed := true }
def OrderSizesUptoSaid : Prop := orderSizesUptoRow.holds Try.pinned (OpenSpec.upto orderSizesSpec)

/-- 'tillerlaw10.OrderBoth', WHERE WHAT IT READS IS OF BULK AT MOST 1048576: true; the input reads as it did. -/
def orderBothUptoRow : OpenClaim := { program := "ytkipjjijaphjpaa", sum := "9e6d42e5c018525e2dde79767e4b1de79fcec680ce9242f56d0fd5f5d917e84c", func := "tiller/tillerlaw10.OrderBoth", spec := "orderBoth", apart := false, narrowed := true }
def OrderBothUptoSaid : Prop := orderBothUptoRow.holds Try.pinned (OpenSpec.upto orderBothSpec)

end Rows
end Go.Proofs.Ytkipjjijaphjpaa

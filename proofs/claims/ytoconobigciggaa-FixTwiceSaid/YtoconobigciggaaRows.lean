/-
  No cell of these rows narrows 'for every input' (looked for: loops, veiled, ifaces, maps, wideKeys, modest, calm, conditions, laid).
  DERIVED. THE GIVEN ROWS OF THIS SEAT. 3 by the template 'for every input the law returns true; each argument reads behind the call as it read before'; 0 by the template 'total and deterministic' (their statements: YtoconobigciggaaTotals.lean).
  GIVEN WITH THE SEED: the statements are not yours to turn. If you find one false, say at which input.
  Laid BY PROGRAM, IN A SANDBOX (cutbox-rows.mjs): the forced cells as the released guide's own fill.sh prints them over the translation b2a950f9a980f2af… (all of the seat's roots in one cut). By AI agents, Wed Nov 11 2026. No macro, syntax, notation, axiom, sorry.
-/
import Derived.Test.YtoconobigciggaaChecked
import GoSem.Claim
import GoSem.ClaimJoined
import GoSem.ClaimMapViews
import Derived.JoinedTies
import Derived.KernelRfl
namespace Go.Proofs.Ytoconobigciggaa
/- THE CELL 'sum', in the pinned program and in every row, IS THE sha256 OF THE DUMP (.gsa) THAT YtoconobigciggaaProg.lean LOADS. Nothing in Lean hashes anything: it is a label: what it is worth is what the hold of that sum in a sandbox is worth. -/
noncomputable def Try.pinned : Pinned := { name := "ytoconobigciggaa", sum := "b2a950f9a980f2afbb71c14e9d7aadd746c2fc85e03076958f70c6c93e939d93", checked := Try.checked }
namespace Rows
def none {H : Type} : Left H := { results := [], args := [] }

/-- 'tillerlaw15.FixMuls': WHATEVER THE INPUT: true; the input reads as it did. -/
def fixMulsSpec : ChangeSpec := { name := "fixMuls", fn := fun _ => fun
  | [d1, d2] => { results := [.lit (.bool true)], args := [d1, d2] }
  | _ => none }
def fixMulsRow : OpenClaim := { program := "ytoconobigciggaa", sum := "b2a950f9a980f2afbb71c14e9d7aadd746c2fc85e03076958f70c6c93e939d93", func := "tiller/tillerlaw15.FixMuls", spec := "fixMuls", inPlace := ["math/bits.Add64", "math/bits.Sub64"], apart := false }
def FixMulsSaid : Prop := fixMulsRow.holds Try.pinned (OpenSpec.ofChange fixMulsSpec)

/-- ITS FALSE NEIGHBOUR: 'it returns false'. Refute it at one input. -/
def fixMulsWrong : ChangeSpec := { name := "fixMuls", fn := fun _ => fun
  | [d1, d2] => { results := [.lit (.bool false)], args := [d1, d2] }
  | _ => none }
def FixMulsWrongFalsely : Prop := fixMulsRow.holds Try.pinned (OpenSpec.ofChange fixMulsWrong)

/-- 'tillerlaw15.FixRound': WHATEVER THE INPUT: true; the input reads as it did. -/
def fixRoundSpec : ChangeSpec := { name := "fixRound", fn := fun _ => fun
  | [d] => { results := [.lit (.bool true)], args := [d] }
  | _ => none }
def fixRoundRow : OpenClaim := { program := "ytoconobigciggaa", sum := "b2a950f9a980f2afbb71c14e9d7aadd746c2fc85e03076958f70c6c93e939d93", func := "tiller/tillerlaw15.FixRound", spec := "fixRound", inPlace := ["math/bits.Add64", "math/bits.Sub64"], apart := false }
def FixRoundSaid : Prop := fixRoundRow.holds Try.pinned (OpenSpec.ofChange fixRoundSpec)

/-- ITS FALSE NEIGHBOUR: 'it returns false'. Refute it at one input. -/
def fixRoundWrong : ChangeSpec := { name := "fixRound", fn := fun _ => fun
  | [d] => { results := [.lit (.bool false)], args := [d] }
  | _ => none }
def FixRoundWrongFalsely : Prop := fixRoundRow.holds Try.pinned (OpenSpec.ofChange fixRoundWrong)

/-- 'tillerlaw15.FixTwice': WHATEVER THE INPUT: true; the input reads as it did. -/
def fixTwiceSpec : ChangeSpec := { name := "fixTwice", fn := fun _ => fun
  | [d] => { results := [.lit (.bool true)], args := [d] }
  | _ => none }
def fixTwiceRow : OpenClaim := { program := "ytoconobigciggaa", sum := "b2a950f9a980f2afbb71c14e9d7aadd746c2fc85e03076958f70c6c93e939d93", func := "tiller/tillerlaw15.FixTwice", spec := "fixTwice", inPlace := ["math/bits.Sub64", "math/bits.Add64"], apart := false }
def FixTwiceSaid : Prop := fixTwiceRow.holds Try.pinned (OpenSpec.ofChange fixTwiceSpec)

/-- ITS FALSE NEIGHBOUR: 'it returns false'. Refute it at one input. -/
def fixTwiceWrong : ChangeSpec := { name := "fixTwice", fn := fun _ => fun
  | [d] => { results := [.lit (.bool false)], args := [d] }
  | _ => none }
def FixTwiceWrongFalsely : Prop := fixTwiceRow.holds Try.pinned (OpenSpec.ofChange fixTwiceWrong)

/- THE SECOND FORM. 'bulk': how many values and letters a reading holds, each counted each time it is reached (what is shared counts as often as it is met; a slice's spare places count too). A statement '..UptoSaid' is the law's where the arguments, and the package variables that the reading takes, are together of bulk at most 1048576: NARROWER than '..Said'. Prove '..Said' where nothing that the law and all that it calls make is longer than what came in: it says more and counts as full. Else prove '..UptoSaid'. A law counts once. -/
mutual
def uptoBulk {H : Type} : DataW H → Nat
  | .lit (.string bytes) => bytes.length + 1
  | .lit _ => 1
  | .nil => 1
  | .ptr d => uptoBulk d + 1
  | .slice elems spare => uptoBulkAll elems + uptoBulkAll spare + 1
  | .agg parts => uptoBulkAll parts + 1
  | .iface _ d => uptoBulk d + 1
  | .map entries => uptoBulkEntries entries + 1
  | .held _ => 1
def uptoBulkAll {H : Type} : List (DataW H) → Nat
  | [] => 0
  | d :: r => uptoBulk d + uptoBulkAll r
def uptoBulkEntries {H : Type} : List (Lit × DataW H) → Nat
  | [] => 0
  | x :: r => uptoBulkEntry x + uptoBulkEntries r
def uptoBulkEntry {H : Type} : Lit × DataW H → Nat
  | (.string bytes, d) => bytes.length + uptoBulk d + 1
  | (_, d) => uptoBulk d + 1
 end
def uptoSmall : (H : Type) → List (DataW H) → Bool := fun _ ds => decide (uptoBulkAll ds ≤ 1048576)
def OpenSpec.upto (s : _root_.Go.ChangeSpec) : _root_.Go.OpenSpec := { _root_.Go.OpenSpec.ofChange s with cond := some uptoSmall }

/-- 'tillerlaw15.FixMuls', WHERE WHAT IT READS IS OF BULK AT MOST 1048576: true; the input reads as it did. -/
def fixMulsUptoRow : OpenClaim := { program := "ytoconobigciggaa", sum := "b2a950f9a980f2afbb71c14e9d7aadd746c2fc85e03076958f70c6c93e939d93", func := "tiller/tillerlaw15.FixMuls", spec := "fixMuls", inPlace := ["math/bits.Add64", "math/bits.Sub64"], apart := false, narrowed := true }
def FixMulsUptoSaid : Prop := fixMulsUptoRow.holds Try.pinned (OpenSpec.upto fixMulsSpec)

/-- 'tillerlaw15.FixRound', WHERE WHAT IT READS IS OF BULK AT MOST 1048576: true; the input reads as it did. -/
def fixRoundUptoRow : OpenClaim := { program := "ytoconobigciggaa", sum := "b2a950f9a980f2afbb71c14e9d7aadd746c2fc85e03076958f70c6c93e939d93", func := "tiller/tillerlaw15.FixRound", spec := "fixRound", inPlace := ["math/bits.Add64", "math/bits.Sub64"], apart := false, narrowed := true }
def FixRoundUptoSaid : Prop := fixRoundUptoRow.holds Try.pinned (OpenSpec.upto fixRoundSpec)

/-- 'tillerlaw15.FixTwice', WHERE WHAT IT READS IS OF BULK AT MOST 1048576: true; the input reads as it did. -/
def fixTwiceUptoRow : OpenClaim := { program := "ytoconobigciggaa", sum := "b2a950f9a980f2afbb71c14e9d7aadd746c2fc85e03076958f70c6c93e939d93", func := "tiller/tillerlaw15.FixTwice", spec := "fixTwice", inPlace := ["math/bits.Sub64", "math/bits.Add64"], apart := false, narrowed := true }
def FixTwiceUptoSaid : Prop := fixTwiceUptoRow.holds Try.pinned (OpenSpec.upto fixTwiceSpec)

end Rows
end Go.Proofs.Ytoconobigciggaa

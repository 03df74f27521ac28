/-
  No cell of these rows narrows 'for every input' (looked for: loops, veiled, ifaces, maps, wideKeys, modest, calm, conditions, laid).
  DERIVED. THE GIVEN ROWS OF THIS SEAT. 8 by the template 'for every input the law returns true; each argument reads behind the call as it read before'; 0 by the template 'total and deterministic' (their statements: YtpppedolgipikaaTotals.lean).
  GIVEN WITH THE SEED: the statements are not yours to turn. If you find one false, say at which input.
  Laid BY PROGRAM, IN A SANDBOX (cutbox-rows.mjs): the forced cells as the released guide's own fill.sh prints them over the translation ee4aa78d351c4c44… (all of the seat's roots in one cut). By AI agents, Wed Nov 11 2026. No macro, syntax, notation, axiom, sorry.
-/
import Derived.Test.YtpppedolgipikaaChecked
import GoSem.Claim
import GoSem.ClaimJoined
import GoSem.ClaimMapViews
import Derived.JoinedTies
import Derived.KernelRfl
namespace Go.Proofs.Ytpppedolgipikaa
/- THE CELL 'sum', in the pinned program and in every row, IS THE sha256 OF THE DUMP (.gsa) THAT YtpppedolgipikaaProg.lean LOADS. Nothing in Lean hashes anything: it is a label: what it is worth is what the hold of that sum in a sandbox is worth. -/
noncomputable def Try.pinned : Pinned := { name := "ytpppedolgipikaa", sum := "ee4aa78d351c4c449a70e95e62dc9213381d7d2e7d5497e1a701a78cec3db319", checked := Try.checked }
namespace Rows
def none {H : Type} : Left H := { results := [], args := [] }

/-- 'tillerlaw01.WideRoots': WHATEVER THE INPUT: true; the input reads as it did. -/
def wideRootsSpec : ChangeSpec := { name := "wideRoots", fn := fun _ => fun
  | [d] => { results := [.lit (.bool true)], args := [d] }
  | _ => none }
def wideRootsRow : OpenClaim := { program := "ytpppedolgipikaa", sum := "ee4aa78d351c4c449a70e95e62dc9213381d7d2e7d5497e1a701a78cec3db319", func := "tiller/tillerlaw01.WideRoots", spec := "wideRoots", inPlace := ["math/bits.Add64", "math/bits.Sub64"], apart := false }
def WideRootsSaid : Prop := wideRootsRow.holds Try.pinned (OpenSpec.ofChange wideRootsSpec)

/-- ITS FALSE NEIGHBOUR: 'it returns false'. Refute it at one input. -/
def wideRootsWrong : ChangeSpec := { name := "wideRoots", fn := fun _ => fun
  | [d] => { results := [.lit (.bool false)], args := [d] }
  | _ => none }
def WideRootsWrongFalsely : Prop := wideRootsRow.holds Try.pinned (OpenSpec.ofChange wideRootsWrong)

/-- 'tillerlaw01.WideBits': WHATEVER THE INPUT: true; the input reads as it did. -/
def wideBitsSpec : ChangeSpec := { name := "wideBits", fn := fun _ => fun
  | [d1, d2, d3] => { results := [.lit (.bool true)], args := [d1, d2, d3] }
  | _ => none }
def wideBitsRow : OpenClaim := { program := "ytpppedolgipikaa", sum := "ee4aa78d351c4c449a70e95e62dc9213381d7d2e7d5497e1a701a78cec3db319", func := "tiller/tillerlaw01.WideBits", spec := "wideBits", inPlace := ["math/bits.Sub64", "math/bits.Add64"], apart := false }
def WideBitsSaid : Prop := wideBitsRow.holds Try.pinned (OpenSpec.ofChange wideBitsSpec)

/-- ITS FALSE NEIGHBOUR: 'it returns false'. Refute it at one input. -/
def wideBitsWrong : ChangeSpec := { name := "wideBits", fn := fun _ => fun
  | [d1, d2, d3] => { results := [.lit (.bool false)], args := [d1, d2, d3] }
  | _ => none }
def WideBitsWrongFalsely : Prop := wideBitsRow.holds Try.pinned (OpenSpec.ofChange wideBitsWrong)

/-- 'tillerlaw01.WideSums': WHATEVER THE INPUT: true; the input reads as it did. -/
def wideSumsSpec : ChangeSpec := { name := "wideSums", fn := fun _ => fun
  | [d1, d2] => { results := [.lit (.bool true)], args := [d1, d2] }
  | _ => none }
def wideSumsRow : OpenClaim := { program := "ytpppedolgipikaa", sum := "ee4aa78d351c4c449a70e95e62dc9213381d7d2e7d5497e1a701a78cec3db319", func := "tiller/tillerlaw01.WideSums", spec := "wideSums", inPlace := ["math/bits.Add64", "math/bits.Sub64"], apart := false }
def WideSumsSaid : Prop := wideSumsRow.holds Try.pinned (OpenSpec.ofChange wideSumsSpec)

/-- ITS FALSE NEIGHBOUR: 'it returns false'. Refute it at one input. -/
def wideSumsWrong : ChangeSpec := { name := "wideSums", fn := fun _ => fun
  | [d1, d2] => { results := [.lit (.bool false)], args := [d1, d2] }
  | _ => none }
def WideSumsWrongFalsely : Prop := wideSumsRow.holds Try.pinned (OpenSpec.ofChange wideSumsWrong)

/-- 'tillerlaw01.WideOrder': WHATEVER THE INPUT: true; the input reads as it did. -/
def wideOrderSpec : ChangeSpec := { name := "wideOrder", fn := fun _ => fun
  | [d1, d2] => { results := [.lit (.bool true)], args := [d1, d2] }
  | _ => none }
def wideOrderRow : OpenClaim := { program := "ytpppedolgipikaa", sum := "ee4aa78d351c4c449a70e95e62dc9213381d7d2e7d5497e1a701a78cec3db319", func := "tiller/tillerlaw01.WideOrder", spec := "wideOrder", inPlace := ["math/bits.Sub64", "math/bits.Add64"], apart := false }
def WideOrderSaid : Prop := wideOrderRow.holds Try.pinned (OpenSpec.ofChange wideOrderSpec)

/-- ITS FALSE NEIGHBOUR: 'it returns false'. Refute it at one input. -/
def wideOrderWrong : ChangeSpec := { name := "wideOrder", fn := fun _ => fun
  | [d1, d2] => { results := [.lit (.bool false)], args := [d1, d2] }
  | _ => none }
def WideOrderWrongFalsely : Prop := wideOrderRow.holds Try.pinned (OpenSpec.ofChange wideOrderWrong)

/-- 'tillerlaw01.WideMoves': WHATEVER THE INPUT: true; the input reads as it did. -/
def wideMovesSpec : ChangeSpec := { name := "wideMoves", fn := fun _ => fun
  | [d1, d2] => { results := [.lit (.bool true)], args := [d1, d2] }
  | _ => none }
def wideMovesRow : OpenClaim := { program := "ytpppedolgipikaa", sum := "ee4aa78d351c4c449a70e95e62dc9213381d7d2e7d5497e1a701a78cec3db319", func := "tiller/tillerlaw01.WideMoves", spec := "wideMoves", inPlace := ["math/bits.Sub64", "math/bits.Add64"], apart := false }
def WideMovesSaid : Prop := wideMovesRow.holds Try.pinned (OpenSpec.ofChange wideMovesSpec)

/-- ITS FALSE NEIGHBOUR: 'it returns false'. Refute it at one input. -/
def wideMovesWrong : ChangeSpec := { name := "wideMoves", fn := fun _ => fun
  | [d1, d2] => { results := [.lit (.bool false)], args := [d1, d2] }
  | _ => none }
def WideMovesWrongFalsely : Prop := wideMovesRow.holds Try.pinned (OpenSpec.ofChange wideMovesWrong)

/-- 'tillerlaw01.WideBack': WHATEVER THE INPUT: true; the input reads as it did. -/
def wideBackSpec : ChangeSpec := { name := "wideBack", fn := fun _ => fun
  | [d1, d2, d3] => { results := [.lit (.bool true)], args := [d1, d2, d3] }
  | _ => none }
def wideBackRow : OpenClaim := { program := "ytpppedolgipikaa", sum := "ee4aa78d351c4c449a70e95e62dc9213381d7d2e7d5497e1a701a78cec3db319", func := "tiller/tillerlaw01.WideBack", spec := "wideBack", inPlace := ["math/bits.Add64", "math/bits.Sub64"], apart := false }
def WideBackSaid : Prop := wideBackRow.holds Try.pinned (OpenSpec.ofChange wideBackSpec)

/-- ITS FALSE NEIGHBOUR: 'it returns false'. Refute it at one input. -/
def wideBackWrong : ChangeSpec := { name := "wideBack", fn := fun _ => fun
  | [d1, d2, d3] => { results := [.lit (.bool false)], args := [d1, d2, d3] }
  | _ => none }
def WideBackWrongFalsely : Prop := wideBackRow.holds Try.pinned (OpenSpec.ofChange wideBackWrong)

/-- 'tillerlaw01.WideLens': WHATEVER THE INPUT: true; the input reads as it did. -/
def wideLensSpec : ChangeSpec := { name := "wideLens", fn := fun _ => fun
  | [d1, d2] => { results := [.lit (.bool true)], args := [d1, d2] }
  | _ => none }
def wideLensRow : OpenClaim := { program := "ytpppedolgipikaa", sum := "ee4aa78d351c4c449a70e95e62dc9213381d7d2e7d5497e1a701a78cec3db319", func := "tiller/tillerlaw01.WideLens", spec := "wideLens", inPlace := ["math/bits.Sub64", "math/bits.Add64"], apart := false }
def WideLensSaid : Prop := wideLensRow.holds Try.pinned (OpenSpec.ofChange wideLensSpec)

/-- ITS FALSE NEIGHBOUR: 'it returns false'. Refute it at one input. -/
def wideLensWrong : ChangeSpec := { name := "wideLens", fn := fun _ => fun
  | [d1, d2] => { results := [.lit (.bool false)], args := [d1, d2] }
  | _ => none }
def WideLensWrongFalsely : Prop := wideLensRow.holds Try.pinned (OpenSpec.ofChange wideLensWrong)

/-- 'tillerlaw01.WideMuls': WHATEVER THE INPUT: true; the input reads as it did. -/
def wideMulsSpec : ChangeSpec := { name := "wideMuls", fn := fun _ => fun
  | [d1, d2] => { results := [.lit (.bool true)], args := [d1, d2] }
  | _ => none }
def wideMulsRow : OpenClaim := { program := "ytpppedolgipikaa", sum := "ee4aa78d351c4c449a70e95e62dc9213381d7d2e7d5497e1a701a78cec3db319", func := "tiller/tillerlaw01.WideMuls", spec := "wideMuls", inPlace := ["math/bits.Add64", "math/bits.Sub64"], apart := false }
def WideMulsSaid : Prop := wideMulsRow.holds Try.pinned (OpenSpec.ofChange wideMulsSpec)

/-- ITS FALSE NEIGHBOUR: 'it returns false'. Refute it at one input. -/
def wideMulsWrong : ChangeSpec := { name := "wideMuls", fn := fun _ => fun
  | [d1, d2] => { results := [.lit (.bool false)], args := [d1, d2] }
  | _ => none }
def WideMulsWrongFalsely : Prop := wideMulsRow.holds Try.pinned (OpenSpec.ofChange wideMulsWrong)

/- THE SECOND FORM. 'bulk': how many values and letters a reading holds, each counted each time it is reached (what is shared counts as often as it is met; a slice's spare places count too). A statement '..UptoSaid' is the law's where the arguments, and the package variables that the reading takes, are together of bulk at most 1048576: NARROWER than '..Said'. Prove '..Said' where nothing that the law and all that it calls make is longer than what came in: it says more and counts as full. Else prove '..UptoSaid'. A law counts once. -/
mutual
def uptoBulk {H : Type} : DataW H → Nat
  | .lit (.string bytes) => bytes.length + 1
  | .lit _ => 1
  | .nil => 1
  | .ptr d => uptoBulk d + 1
  | .slice elems spare => uptoBulkAll elems + uptoBulkAll spare + 1
  | .agg parts => uptoBulkAll parts + 1
  | .iface _ d => uptoBulk d + 1
  | .map entries => uptoBulkEntries entries + 1
  | .held _ => 1
def uptoBulkAll {H : Type} : List (DataW H) → Nat
  | [] => 0
  | d :: r => uptoBulk d + uptoBulkAll r
def uptoBulkEntries {H : Type} : List (Lit × DataW H) → Nat
  | [] => 0
  | x :: r => uptoBulkEntry x + uptoBulkEntries r
def uptoBulkEntry {H : Type} : Lit × DataW H → Nat
  | (.string bytes, d) => bytes.length + uptoBulk d + 1
  | (_, d) => uptoBulk d + 1
 end
def uptoSmall : (H : Type) → List (DataW H) → Bool := fun _ ds => decide (uptoBulkAll ds ≤ 1048576)
def OpenSpec.upto (s : _root_.Go.ChangeSpec) : _root_.Go.OpenSpec := { _root_.Go.OpenSpec.ofChange s with cond := some uptoSmall }

/-- 'tillerlaw01.WideRoots', WHERE WHAT IT READS IS OF BULK AT MOST 1048576: true; the input reads as it did. -/
def wideRootsUptoRow : OpenClaim := { program := "ytpppedolgipikaa", sum := "ee4aa78d351c4c449a70e95e62dc9213381d7d2e7d5497e1a701a78cec3db319", func := "tiller/tillerlaw01.WideRoots", spec := "wideRoots", inPlace := ["math/bits.Add64", "math/bits.Sub64"], apart := false, narrowed := true }
def WideRootsUptoSaid : Prop := wideRootsUptoRow.holds Try.pinned (OpenSpec.upto wideRootsSpec)

/-- 'tillerlaw01.WideBits', WHERE WHAT IT READS IS OF BULK AT MOST 1048576: true; the input reads as it did. -/
def wideBitsUptoRow : OpenClaim := { program := "ytpppedolgipikaa", sum := "ee4aa78d351c4c449a70e95e62dc9213381d7d2e7d5497e1a701a78cec3db319", func := "tiller/tillerlaw01.WideBits", spec := "wideBits", inPlace := ["math/bits.Sub64", "math/bits.Add64"], apart := false, narrowed := true }
def WideBitsUptoSaid : Prop := wideBitsUptoRow.holds Try.pinned (OpenSpec.upto wideBitsSpec)

/-- 'tillerlaw01.WideSums', WHERE WHAT IT READS IS OF BULK AT MOST 1048576: true; the input reads as it did. -/
def wideSumsUptoRow : OpenClaim := { program := "ytpppedolgipikaa", sum := "ee4aa78d351c4c449a70e95e62dc9213381d7d2e7d5497e1a701a78cec3db319", func := "tiller/tillerlaw01.WideSums", spec := "wideSums", inPlace := ["math/bits.Add64", "math/bits.Sub64"], apart := false, narrowed := true }
def WideSumsUptoSaid : Prop := wideSumsUptoRow.holds Try.pinned (OpenSpec.upto wideSumsSpec)

/-- 'tillerlaw01.WideOrder', WHERE WHAT IT READS IS OF BULK AT MOST 1048576: true; the input reads as it did. -/
def wideOrderUptoRow : OpenClaim := { program := "ytpppedolgipikaa", sum := "ee4aa78d351c4c449a70e95e62dc9213381d7d2e7d5497e1a701a78cec3db319", func := "tiller/tillerlaw01.WideOrder", spec := "wideOrder", inPlace := ["math/bits.Sub64", "math/bits.Add64"], apart := false, narrowed := true }
def WideOrderUptoSaid : Prop := wideOrderUptoRow.holds Try.pinned (OpenSpec.upto wideOrderSpec)

/-- 'tillerlaw01.WideMoves', WHERE WHAT IT READS IS OF BULK AT MOST 1048576: true; the input reads as it did. -/
def wideMovesUptoRow : OpenClaim := { program := "ytpppedolgipikaa", sum := "ee4aa78d351c4c449a70e95e62dc9213381d7d2e7d5497e1a701a78cec3db319", func := "tiller/tillerlaw01.WideMoves", spec := "wideMoves", inPlace := ["math/bits.Sub64", "math/bits.Add64"], apart := false, narrowed := true }
def WideMovesUptoSaid : Prop := wideMovesUptoRow.holds Try.pinned (OpenSpec.upto wideMovesSpec)

/-- 'tillerlaw01.WideBack', WHERE WHAT IT READS IS OF BULK AT MOST 1048576: true; the input reads as it did. -/
def wideBackUptoRow : OpenClaim := { program := "ytpppedolgipikaa", sum := "ee4aa78d351c4c449a70e95e62dc9213381d7d2e7d5497e1a701a78cec3db319", func := "tiller/tillerlaw01.WideBack", spec := "wideBack", inPlace := ["math/bits.Add64", "math/bits.Sub64"], apart := false, narrowed := true }
def WideBackUptoSaid : Prop := wideBackUptoRow.holds Try.pinned (OpenSpec.upto wideBackSpec)

/-- 'tillerlaw01.WideLens', WHERE WHAT IT READS IS OF BULK AT MOST 1048576: true; the input reads as it did. -/
def wideLensUptoRow : OpenClaim := { program := "ytpppedolgipikaa", sum := "ee4aa78d351c4c449a70e95e62dc9213381d7d2e7d5497e1a701a78cec3db319", func := "tiller/tillerlaw01.WideLens", spec := "wideLens", inPlace := ["math/bits.Sub64", "math/bits.Add64"], apart := false, narrowed := true }
def WideLensUptoSaid : Prop := wideLensUptoRow.holds Try.pinned (OpenSpec.upto wideLensSpec)

/-- 'tillerlaw01.WideMuls', WHERE WHAT IT READS IS OF BULK AT MOST 1048576: true; the input reads as it did. -/
def wideMulsUptoRow : OpenClaim := { program := "ytpppedolgipikaa", sum := "ee4aa78d351c4c449a70e95e62dc9213381d7d2e7d5497e1a701a78cec3db319", func := "tiller/tillerlaw01.WideMuls", spec := "wideMuls", inPlace := ["math/bits.Add64", "math/bits.Sub64"], apart := false, narrowed := true }
def WideMulsUptoSaid : Prop := wideMulsUptoRow.holds Try.pinned (OpenSpec.upto wideMulsSpec)

end Rows
end Go.Proofs.Ytpppedolgipikaa

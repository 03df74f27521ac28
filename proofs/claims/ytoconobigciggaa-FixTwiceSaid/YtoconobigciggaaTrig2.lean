/- PLAIN LEMMAS: the squares of the sums are together 1, but for less than a unit; and the sum of twice an angle. No program, no statement. -/
import Derived.Test.YtoconobigciggaaTrig
namespace Go.Proofs.Ytoconobigciggaa.Trig
open Go Go.Proofs.Ytoconobigciggaa.Sinp
set_option linter.unusedVariables false
set_option linter.unusedSimpArgs false
theorem okSq_t : okSq = true := by decide +kernel
def P4 : List Int := (List.range 100).map fun k => co 2 k * 4 ^ k
theorem g_P4 (X Z : Int) : ∀ n, g X Z ((List.range n).map fun k => co 2 k * 4 ^ k) = g (4 * X) Z (P 2 n)
  | 0 => rfl
  | n + 1 => by
    rw [P_succ, List.range_succ, List.map_append, List.map_cons, List.map_nil, g_snoc, g_snoc, g_P4 X Z n, P_len, List.length_map, List.length_range, Int.mul_pow]
    simp only [Int.mul_assoc]
def tw : List Int := addP (mulP (P 2 100) (P 1 100)) (scale (-(F : Int)) P4 ++ List.replicate 99 0)
def okTw : Bool := decide (nrm tw * 2 ^ 248 * 2 ^ 248 < (F * F : Nat))
theorem okTw_t : okTw = true := by decide +kernel
end Go.Proofs.Ytoconobigciggaa.Trig

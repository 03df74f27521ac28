/- PLAIN FACTS on chapter 10: the reference's choice of one of two patterns. No statement is proved here. -/
import Derived.Test.YtkipjjijaphjpaaOrd2
namespace Go.Proofs.Ytkipjjijaphjpaa.Ordp
open Go Go.RowKit Go.Proofs.Ytkipjjijaphjpaa.Eng Go.Proofs.Ytkipjjijaphjpaa.Fns Go.Proofs.Ytkipjjijaphjpaa.Bw Go.Proofs.Ytkipjjijaphjpaa.Dig Go.Proofs.Ytkipjjijaphjpaa.Rn
set_option linter.unusedVariables false
set_option linter.unusedSimpArgs false
/-- the choice, by a relation -/
def chosen (c : Int) (a b : Int) (less : Bool) : Int :=
  let c1 := if c = 0 ∧ 9223372036854775808 ≤ a ∧ b < 9223372036854775808 then -1 else c
  let c2 := if c1 = 0 ∧ a < 9223372036854775808 ∧ 9223372036854775808 ≤ b then 1 else c1
  if decide (c2 < 0) = less then a else b
noncomputable def relN (a b : Int) (size : Bool) : Int := if size = true ∧ (cmpN (a % 9223372036854775808) (b % 9223372036854775808)).1 ≠ 0 then (cmpN (a % 9223372036854775808) (b % 9223372036854775808)).1 else (cmpN a b).1
noncomputable def pickR (a b : Int) (less size number : Bool) : Int × Int :=
  if number = true ∧ nanB a ≠ nanB b then (if nanB a = true then (b, loudN a b) else (a, loudN a b))
  else if nanB a = true ∨ nanB b = true then (9221120237041090560, loudN a b)
  else (chosen (relN a b size) a b less, 0)
theorem pickR_eq (N : Nat) (hN : 300 ≤ N) (hN2 : N < 17592186044416) (a b : Int) (h0 : 0 ≤ a) (h1 : a < 18446744073709551616) (g0 : 0 ≤ b) (g1 : b < 18446744073709551616) (less size number : Bool) :
    fn_tillerref10_Pick N a b less size number = some (pickR a b less size number) := by
  unfold fn_tillerref10_Pick
  rw [nanR_eq N a h0 h1, nanR_eq N b g0 g1, noneR_eq N a b h0 h1 g0 g1, absR_eq N a h0, absR_eq N b g0, cmpR_eq N hN hN2 a b h0 h1 g0 g1]
  simp only [Option.bind_some]
  rw [cmpR_eq N hN hN2 _ _ (by omega) (by omega) (by omega) (by omega)]
  simp only [Option.bind_some]
  unfold pickR relN chosen
  generalize (cmpN (a % 9223372036854775808) (b % 9223372036854775808)).1 = d
  generalize (cmpN a b).1 = c
  by_cases s1 : 9223372036854775808 ≤ a <;> by_cases s2 : 9223372036854775808 ≤ b
  all_goals
    simp only [leI_eq, ltI_eq, eqI_eq, eqB_eq, s1, s2, decide_true, decide_false, cond_true, cond_false, show (a < 9223372036854775808) = ¬ (9223372036854775808 ≤ a) from propext (by omega), show (b < 9223372036854775808) = ¬ (9223372036854775808 ≤ b) from propext (by omega), not_true_eq_false, not_false_eq_true, and_true, and_false]
    cases number <;> cases size <;> cases nanB a <;> cases nanB b <;> simp (config := { decide := false }) <;> (try (by_cases hd : d = 0 <;> simp [hd])) <;> (try (by_cases hc : c = 0 <;> simp [hc])) <;> (cases less <;> simp [cond_if]) <;> (repeat' split) <;> (try rfl) <;> (exfalso; omega)
end Go.Proofs.Ytkipjjijaphjpaa.Ordp

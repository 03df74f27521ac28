/- PROVED HERE: OrderTotals' pure statement, over the functions that eng2.py printed: whether any pattern is not behind any other one. No condition beyond the arguments' kinds. -/
import Derived.Test.YtkipjjijaphjpaaOrd2
import Derived.Test.YtkipjjijaphjpaaFnOrderTotals
namespace Go.Proofs.Ytkipjjijaphjpaa
open Go Eng Fns Bw Dig Rn Ordp
set_option linter.unusedSimpArgs false
def rankZ (c : Int) : Int := if c = 0 then 0 else if c = 1 then 1 else if c = 2 then 1 else if c = 3 then 2 else if c = 4 then 4 else 3
theorem cls_rng (a : Int) : 0 ≤ clsR a ∧ clsR a ≤ 5 := by unfold clsR; repeat' split <;> omega
theorem rank_eq (N : Nat) (a : Int) (h0 : 0 ≤ a) (h1 : a < 18446744073709551616) : fn_tillerref10_rank N a = some (rankZ (clsR a)) := by
  unfold fn_tillerref10_rank
  rw [takeR_eq N a h0 h1, Option.bind_some]
  show cond (leI 0 (clsR a)) (cond (ltI (clsR a) ([0, 1, 1, 2, 4, 3].length : Int)) (some (lrd [0, 1, 1, 2, 4, 3] (clsR a))) none) none = _
  obtain ⟨h, g⟩ := cls_rng a
  have : clsR a = 0 ∨ clsR a = 1 ∨ clsR a = 2 ∨ clsR a = 3 ∨ clsR a = 4 ∨ clsR a = 5 := by omega
  rcases this with h | h | h | h | h | h <;> rw [h] <;> rfl
theorem rank_at (a : Int) (h0 : 0 ≤ a) (h1 : a < 9223372036854775808) : rankZ (clsR a) = if a < 1 then 0 else if a < 9218868437227405312 then 1 else if a < 9218868437227405313 then 2 else if a < 9221120237041090560 then 3 else 4 := by
  unfold clsR eN fN
  repeat' split
  all_goals first | rfl | (exfalso; omega)
theorem ahead_eq (N : Nat) (a b : Int) (h0 : 0 ≤ a) (h1 : a < 9223372036854775808) (g0 : 0 ≤ b) (g1 : b < 9223372036854775808) : fn_tillerref10_ahead N a b = some (decide (a ≤ b)) := by
  unfold fn_tillerref10_ahead
  rw [rank_eq N a h0 (by omega), rank_eq N b g0 (by omega)]
  simp only [Option.bind_some, cond_if, eqI_eq, ltI_eq, leI_eq, Bool.not_eq_true', decide_eq_false_iff_not, ite_not]
  by_cases h : rankZ (clsR a) = rankZ (clsR b)
  · rw [if_pos h]
  · rw [if_neg h]
    congr 1
    rw [decide_eq_decide]
    rw [rank_at a h0 h1, rank_at b g0 g1] at h ⊢
    revert h
    repeat' split
    all_goals (intro h; omega)
theorem pure_OrderTotals : ∀ (a0 : Int) (a1 : Int), okN .u64 a0 → okN .u64 a1 → ∃ N, fn_tillerlaw10_OrderTotals N a0 a1 = some true := by
  intro a b ha hb
  obtain ⟨a0, a1⟩ := u64_in ha
  obtain ⟨b0, b1⟩ := u64_in hb
  refine ⟨300, ?_⟩
  unfold fn_tillerlaw10_OrderTotals
  rw [total_eq 300 a b a0 a1 b0 b1, Option.bind_some]
  have e : fn_tillerref10_Total 300 a b = some (decide (keyN a ≤ keyN b)) := by
    unfold fn_tillerref10_Total
    by_cases h1 : 9223372036854775808 ≤ a <;> by_cases h2 : 9223372036854775808 ≤ b
    · rw [leI_t h1, leI_t h2, cond_true, cond_true, absR_eq 300 a a0, absR_eq 300 b b0, Option.bind_some, Option.bind_some, ahead_eq 300 _ _ (by omega) (by omega) (by omega) (by omega), Option.bind_some]
      congr 1; rw [decide_eq_decide]; unfold keyN; rw [if_neg (by omega), if_neg (by omega)]; omega
    · rw [leI_t h1, leI_f h2, cond_true, cond_false, cond_true]
      congr 1; symm; rw [decide_eq_true_eq]; unfold keyN; rw [if_neg (by omega), if_pos (by omega)]; omega
    · rw [leI_f h1, leI_t h2, cond_false, cond_false, cond_true]
      congr 1; symm; rw [decide_eq_false_iff_not]; unfold keyN; rw [if_pos (by omega), if_neg (by omega)]; omega
    · rw [leI_f h1, leI_f h2, cond_false, cond_false, cond_false, ahead_eq 300 _ _ (by omega) (by omega) (by omega) (by omega), Option.bind_some]
      congr 1; rw [decide_eq_decide]; unfold keyN; rw [if_pos (by omega), if_pos (by omega)]
  rw [e, Option.bind_some, sure_eq]
  simp [eqB_eq]
end Go.Proofs.Ytkipjjijaphjpaa

/- PROVED HERE: OrderPicks' pure statement, over the functions that eng2.py printed: the less and the greater one of any two patterns, in all ways, and the flags. No condition beyond the arguments' kinds. -/
import Derived.Test.YtkipjjijaphjpaaOrd3
import Derived.Test.YtkipjjijaphjpaaFnOrderPicks
namespace Go.Proofs.Ytkipjjijaphjpaa
open Go Eng Fns Bw Dig Rn Ordp
set_option linter.unusedSimpArgs false
theorem loud_rng (a b : Int) : loudN a b = 0 ∨ loudN a b = 1 := by unfold loudN; split <;> (try split) <;> simp
/-- the program's choice is the reference's -/
theorem pick_chosen (a b : Int) (h0 : 0 ≤ a) (h1 : a < 18446744073709551616) (g0 : 0 ≤ b) (g1 : b < 18446744073709551616) (less : Bool) (hn : nanB a = false) (hm : nanB b = false) :
    (if decide (keyN a ≤ keyN b) = less then a else b) = chosen (cmpN a b).1 a b less := by
  unfold cmpN chosen keyN
  rw [hn, hm]
  simp only [Bool.false_eq_true, or_self, if_false]
  cases less <;> simp only [decide_eq_true_eq, decide_eq_false_iff_not]
  all_goals
    by_cases s1 : a < 9223372036854775808 <;> by_cases s2 : b < 9223372036854775808 <;> simp only [s1, s2, if_true, if_false, show (9223372036854775808 ≤ a) = ¬ (a < 9223372036854775808) from propext (by omega), show (9223372036854775808 ≤ b) = ¬ (b < 9223372036854775808) from propext (by omega), not_true_eq_false, not_false_eq_true, and_true, and_false] <;> (repeat' split) <;> omega
theorem pick_same (a b : Int) (h0 : 0 ≤ a) (h1 : a < 18446744073709551616) (g0 : 0 ≤ b) (g1 : b < 18446744073709551616) (less : Bool) : pickN a b less = pickR a b less false false := by
  unfold pickN pickR relN
  have h := pick_chosen a b h0 h1 g0 g1 less
  cases hn : nanB a <;> cases hm : nanB b <;> simp
  rw [← h hn hm]
  split <;> rfl
theorem number_same (a b : Int) (h0 : 0 ≤ a) (h1 : a < 18446744073709551616) (g0 : 0 ≤ b) (g1 : b < 18446744073709551616) (less : Bool) : numberN a b less = pickR a b less false true := by
  unfold numberN
  rw [pick_same a b h0 h1 g0 g1]
  unfold pickR
  cases hn : nanB a <;> cases hm : nanB b <;> simp
theorem flag_rng (a b : Int) (l s n : Bool) : (pickR a b l s n).2 = 0 ∨ (pickR a b l s n).2 = 1 := by
  have := loud_rng a b
  unfold pickR
  repeat' split
  all_goals first | exact this | exact .inl rfl
theorem cv_flag {f : Int} (h : f = 0 ∨ f = 1) : cvI .i64 f = f := by rcases h with rfl | rfl <;> simp [cvI, wrap_i64]
theorem pure_OrderPicks : ∀ (a0 : Int) (a1 : Int), okN .u64 a0 → okN .u64 a1 → ∃ N, fn_tillerlaw10_OrderPicks N a0 a1 = some true := by
  intro a b ha hb
  obtain ⟨a0, a1⟩ := u64_in ha
  obtain ⟨b0, b1⟩ := u64_in hb
  refine ⟨300, ?_⟩
  unfold fn_tillerlaw10_OrderPicks
  simp only [min_eq 300 a b a0 a1 b0 b1, max_eq 300 a b a0 a1 b0 b1, minNumber_eq 300 a b a0 a1 b0 b1, maxNumber_eq 300 a b a0 a1 b0 b1, pickR_eq 300 (by omega) (by omega) a b a0 a1 b0 b1, Option.bind_some, pick_same a b a0 a1 b0 b1, number_same a b a0 a1 b0 b1, cv_flag (flag_rng a b _ _ _), eqI_eq, decide_true, Bool.not_true, cond_true, cond_false, sure_eq]
end Go.Proofs.Ytkipjjijaphjpaa

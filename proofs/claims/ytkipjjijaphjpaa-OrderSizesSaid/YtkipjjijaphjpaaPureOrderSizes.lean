/- PROVED HERE: OrderSizes' pure statement, over the functions that eng2.py printed: the one of the less and of the greater size of any two patterns, and the flags. No condition beyond the arguments' kinds. -/
import Derived.Test.YtkipjjijaphjpaaOrd3
import Derived.Test.YtkipjjijaphjpaaFnOrderSizes
namespace Go.Proofs.Ytkipjjijaphjpaa
open Go Eng Fns Bw Dig Rn Ordp
set_option linter.unusedSimpArgs false
theorem loud_rng (a b : Int) : loudN a b = 0 ∨ loudN a b = 1 := by unfold loudN; split <;> (try split) <;> simp
theorem size_chosen (a b : Int) (h0 : 0 ≤ a) (h1 : a < 18446744073709551616) (g0 : 0 ≤ b) (g1 : b < 18446744073709551616) (less : Bool) (hn : nanB a = false) (hm : nanB b = false) :
    (if a % 9223372036854775808 = b % 9223372036854775808 then (if decide (keyN a ≤ keyN b) = less then a else b) else if decide (a % 9223372036854775808 < b % 9223372036854775808) = less then a else b) = chosen (relN a b true) a b less := by
  have hn2 : nanB (a % 9223372036854775808) = false := by unfold nanB at *; rw [show a % 9223372036854775808 % 9223372036854775808 = a % 9223372036854775808 by omega]; exact hn
  have hm2 : nanB (b % 9223372036854775808) = false := by unfold nanB at *; rw [show b % 9223372036854775808 % 9223372036854775808 = b % 9223372036854775808 by omega]; exact hm
  unfold relN cmpN chosen keyN
  rw [hn, hm, hn2, hm2]
  have e1 : a % 9223372036854775808 % 9223372036854775808 = a % 9223372036854775808 := by omega
  have e2 : b % 9223372036854775808 % 9223372036854775808 = b % 9223372036854775808 := by omega
  have e3 : a % 9223372036854775808 < 9223372036854775808 := by omega
  have e4 : b % 9223372036854775808 < 9223372036854775808 := by omega
  rw [e1, e2, if_pos e3, if_pos e4]
  simp only [Bool.false_eq_true, or_self, if_false, true_and]
  rcases Int.lt_trichotomy (a % 9223372036854775808) (b % 9223372036854775808) with h | h | h
  · have q1 : ¬ (a % 9223372036854775808 = b % 9223372036854775808) := by omega
    have q2 : ¬ ((a % 9223372036854775808 = 0 ∧ b % 9223372036854775808 = 0) ∨ a % 9223372036854775808 = b % 9223372036854775808) := by omega
    rw [if_neg q1, if_neg q2, if_pos h]
    simp [h]
  · have q2 : (a % 9223372036854775808 = 0 ∧ b % 9223372036854775808 = 0) ∨ a % 9223372036854775808 = b % 9223372036854775808 := .inr h
    simp only [q2, if_true, ne_eq, not_true_eq_false, if_false]
    rw [if_pos h]
    cases less <;> simp only [decide_eq_true_eq, decide_eq_false_iff_not]
    all_goals
      by_cases s1 : a < 9223372036854775808 <;> by_cases s2 : b < 9223372036854775808 <;> simp only [s1, s2, if_true, if_false, show (9223372036854775808 ≤ a) = ¬ (a < 9223372036854775808) from propext (by omega), show (9223372036854775808 ≤ b) = ¬ (b < 9223372036854775808) from propext (by omega), not_true_eq_false, not_false_eq_true, and_true, and_false] <;> (repeat' split) <;> omega
  · have q1 : ¬ (a % 9223372036854775808 = b % 9223372036854775808) := by omega
    have q2 : ¬ ((a % 9223372036854775808 = 0 ∧ b % 9223372036854775808 = 0) ∨ a % 9223372036854775808 = b % 9223372036854775808) := by omega
    have q3 : ¬ (a % 9223372036854775808 < b % 9223372036854775808) := by omega
    rw [if_neg q1, if_neg q2, if_neg q3]
    simp [q3]
theorem size_same (a b : Int) (h0 : 0 ≤ a) (h1 : a < 18446744073709551616) (g0 : 0 ≤ b) (g1 : b < 18446744073709551616) (less : Bool) : sizeN a b less = pickR a b less true false := by
  unfold sizeN pickN pickR
  have h := size_chosen a b h0 h1 g0 g1 less
  cases hn : nanB a <;> cases hm : nanB b <;> simp
  rw [← h hn hm]
  repeat' split
  all_goals first | rfl | (exfalso; simp_all; done)
theorem flag_rng (a b : Int) (l s n : Bool) : (pickR a b l s n).2 = 0 ∨ (pickR a b l s n).2 = 1 := by
  have := loud_rng a b
  unfold pickR
  repeat' split
  all_goals first | exact this | exact .inl rfl
theorem cv_flag {f : Int} (h : f = 0 ∨ f = 1) : cvI .i64 f = f := by rcases h with rfl | rfl <;> simp [cvI, wrap_i64]
theorem pure_OrderSizes : ∀ (a0 : Int) (a1 : Int), okN .u64 a0 → okN .u64 a1 → ∃ N, fn_tillerlaw10_OrderSizes N a0 a1 = some true := by
  intro a b ha hb
  obtain ⟨a0, a1⟩ := u64_in ha
  obtain ⟨b0, b1⟩ := u64_in hb
  refine ⟨300, ?_⟩
  unfold fn_tillerlaw10_OrderSizes
  simp only [minSize_eq 300 a b a0 a1 b0 b1, maxSize_eq 300 a b a0 a1 b0 b1, pickR_eq 300 (by omega) (by omega) a b a0 a1 b0 b1, Option.bind_some, size_same a b a0 a1 b0 b1, cv_flag (flag_rng a b _ _ _), eqI_eq, decide_true, Bool.not_true, cond_true, cond_false, sure_eq]
end Go.Proofs.Ytkipjjijaphjpaa

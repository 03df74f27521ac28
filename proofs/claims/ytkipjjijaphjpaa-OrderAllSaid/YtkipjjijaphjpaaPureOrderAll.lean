/- PROVED HERE: OrderAll's pure statement, over the functions that eng.py printed: of any two patterns one is ahead; both ways only the same one; what is ahead of what is ahead of a third one is ahead of that; numbers that are less are ahead. No condition beyond the arguments' kinds. -/
import Derived.Test.YtkipjjijaphjpaaOrd
import Derived.Test.YtkipjjijaphjpaaFnOrderAll
namespace Go.Proofs.Ytkipjjijaphjpaa
open Go Eng Fns Bw Ordp
set_option linter.unusedSimpArgs false
theorem cmp_two (a b : Int) : (cmpN a b).1 = 2 → (cmpN b a).1 = 2 := by
  unfold cmpN
  cases nanB a <;> cases nanB b <;> simp
  split
  · simp
  · split <;> simp
theorem cmp_neg (a b : Int) (a0 : 0 ≤ a) (b0 : 0 ≤ b) : (cmpN a b).1 ≠ 2 → (cmpN a b).1 = subI .i64 0 (cmpN b a).1 := by
  have inj := key_inj a b a0 b0
  unfold cmpN
  cases nanB a <;> cases nanB b <;> simp
  by_cases h : (a % 9223372036854775808 = 0 ∧ b % 9223372036854775808 = 0) ∨ a = b
  · have h' : (b % 9223372036854775808 = 0 ∧ a % 9223372036854775808 = 0) ∨ b = a := by omega
    simp [h, h', subI, wrap_i64]
  · have h' : ¬ ((b % 9223372036854775808 = 0 ∧ a % 9223372036854775808 = 0) ∨ b = a) := by omega
    rw [if_neg h, if_neg h']
    rcases Int.lt_trichotomy (keyN a) (keyN b) with hk | hk | hk
    · rw [if_pos hk, if_neg (by omega)]; simp [subI, wrap_i64]
    · exact absurd (inj hk) (by omega)
    · rw [if_neg (by omega), if_pos hk]; simp [subI, wrap_i64]
theorem cmp_less (a b : Int) : (cmpN a b).1 = -1 → keyN a < keyN b := by
  unfold cmpN
  cases nanB a <;> cases nanB b <;> simp
  split
  · simp
  · split <;> simp; assumption
theorem pure_OrderAll : ∀ (a0 : Int) (a1 : Int) (a2 : Int), okN .u64 a0 → okN .u64 a1 → okN .u64 a2 → ∃ N, fn_tillerlaw10_OrderAll N a0 a1 a2 = some true := by
  intro a b c ha hb hc
  obtain ⟨a0, a1⟩ := u64_in ha
  obtain ⟨b0, b1⟩ := u64_in hb
  obtain ⟨c0, c1⟩ := u64_in hc
  refine ⟨0, ?_⟩
  unfold fn_tillerlaw10_OrderAll
  simp only [total_eq 0 a b a0 a1 b0 b1, total_eq 0 b a b0 b1 a0 a1, total_eq 0 b c b0 b1 c0 c1, total_eq 0 a c a0 a1 c0 c1, Option.bind_some, cmp_eq 0 a b a0 a1 b0 b1, cmp_eq 0 b a b0 b1 a0 a1, sure_eq]
  have inj := key_inj a b a0 b0
  have e : a = b → keyN a = keyN b := fun h => by rw [h]
  have f1 := cmp_two a b
  have f2 := cmp_neg a b a0 b0
  have f3 := cmp_less a b
  generalize hd : (cmpN a b).1 = d at *
  generalize he : (cmpN b a).1 = d' at *
  clear hd he
  have g1 : eqI a b = decide (keyN a ≤ keyN b ∧ keyN b ≤ keyN a) := by
    rw [eqI_eq]; by_cases h : a = b
    · simp [h]
    · simp only [h, decide_false]; symm; simp; intro h1; have : keyN a ≠ keyN b := fun h2 => h (inj h2); omega
  rw [g1]
  generalize keyN a = x at *
  generalize keyN b = y at *
  generalize keyN c = z at *
  clear g1 inj e
  simp only [eqI_eq, eqB_eq]
  by_cases h1 : x ≤ y <;> by_cases h2 : y ≤ x <;> by_cases h3 : y ≤ z <;> by_cases h4 : x ≤ z <;> first | (exfalso; omega) | skip
  all_goals
    simp only [h1, h2, h3, h4, and_self, and_true, true_and, and_false, false_and, decide_true, decide_false, Bool.not_true, Bool.not_false, cond_true, cond_false]
    by_cases h5 : d = 2
    · simp [h5, f1 h5]
    · have := f2 h5
      rw [← this]
      by_cases h6 : d = -1
      · have := f3 h6
        simp [h6] <;> omega
      · simp [h5, h6]
end Go.Proofs.Ytkipjjijaphjpaa

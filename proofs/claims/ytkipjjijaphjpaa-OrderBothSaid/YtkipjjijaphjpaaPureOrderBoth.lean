/- PROVED HERE: OrderBoth's pure statement, over the functions that eng.py printed: of two numbers the less and the greater one are these two, both ways round; and so by their sizes; one that is no number gives way to one that is. No condition beyond the arguments' kinds. -/
import Derived.Test.YtkipjjijaphjpaaOrd
import Derived.Test.YtkipjjijaphjpaaFnOrderBoth
namespace Go.Proofs.Ytkipjjijaphjpaa
open Go Eng Fns Bw Ordp
set_option linter.unusedSimpArgs false
theorem pure_OrderBoth : ∀ (a0 : Int) (a1 : Int), okN .u64 a0 → okN .u64 a1 → ∃ N, fn_tillerlaw10_OrderBoth N a0 a1 = some true := by
  intro a b ha hb
  obtain ⟨a0, a1⟩ := u64_in ha
  obtain ⟨b0, b1⟩ := u64_in hb
  refine ⟨0, ?_⟩
  unfold fn_tillerlaw10_OrderBoth
  simp only [min_eq 0 a b a0 a1 b0 b1, max_eq 0 a b a0 a1 b0 b1, min_eq 0 b a b0 b1 a0 a1, minSize_eq 0 a b a0 a1 b0 b1, maxSize_eq 0 a b a0 a1 b0 b1, minNumber_eq 0 a b a0 a1 b0 b1, maxNumber_eq 0 a b a0 a1 b0 b1, Option.bind_some, sure_eq, bicI, andNot_sign a a0 a1, andNot_sign b b0 b1]
  have inj := key_inj a b a0 b0
  have hl := loud_comm a b
  have e : a = b → keyN a = keyN b := fun h => by rw [h]
  have na : ltI 9218868437227405312 (a % 9223372036854775808) = nanB a := rfl
  have nb : ltI 9218868437227405312 (b % 9223372036854775808) = nanB b := rfl
  have es : nanB a = nanB b ∨ a % 9223372036854775808 ≠ b % 9223372036854775808 := by
    by_cases h : a % 9223372036854775808 = b % 9223372036854775808
    · left; unfold nanB; rw [h]
    · right; exact h
  simp only [na, nb]
  unfold sizeN numberN pickN
  rw [← hl]
  clear hl na nb
  generalize loudN a b = l at *
  cases h1 : nanB a <;> cases h2 : nanB b
  · by_cases h3 : keyN a ≤ keyN b <;> by_cases h4 : keyN b ≤ keyN a <;> by_cases h5 : a % 9223372036854775808 = b % 9223372036854775808 <;> by_cases h6 : a % 9223372036854775808 < b % 9223372036854775808 <;> first | (exfalso; omega) | skip
    all_goals
      try (have h7 : a = b := inj (by omega))
      try subst h7
      simp [h1, h2, h3, h4, h5, h6, eqI_eq, leI_eq, ltI_eq]
      try simp only [bicI, andNot_sign a a0 a1, andNot_sign b b0 b1, cond_if]
      try (simp; omega)
  all_goals simp [h1, h2, eqI_eq, leI_eq, ltI_eq]
end Go.Proofs.Ytkipjjijaphjpaa

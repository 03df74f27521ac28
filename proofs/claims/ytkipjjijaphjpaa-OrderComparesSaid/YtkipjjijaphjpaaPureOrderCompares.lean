/- PROVED HERE: OrderCompares' pure statement, over the functions that eng2.py printed: which of any two patterns is less, quietly and not, and the flags. No condition beyond the arguments' kinds. -/
import Derived.Test.YtkipjjijaphjpaaOrd2
import Derived.Test.YtkipjjijaphjpaaFnOrderCompares
namespace Go.Proofs.Ytkipjjijaphjpaa
open Go Eng Fns Bw Dig Rn Ordp
set_option linter.unusedSimpArgs false
theorem loud_rng (a b : Int) : loudN a b = 0 ∨ loudN a b = 1 := by unfold loudN; split <;> (try split) <;> simp
theorem cmp_rng (a b : Int) : ((cmpN a b).1 = 2 ∧ ((cmpN a b).2 = 0 ∨ (cmpN a b).2 = 1)) ∨ ((cmpN a b).1 ≠ 2 ∧ (cmpN a b).2 = 0) := by
  unfold cmpN
  have := loud_rng a b
  split
  · exact .inl ⟨rfl, this⟩
  · split
    · exact .inr ⟨by simp, rfl⟩
    · split <;> exact .inr ⟨by simp, rfl⟩
theorem pure_OrderCompares : ∀ (a0 : Int) (a1 : Int), okN .u64 a0 → okN .u64 a1 → ∃ N, fn_tillerlaw10_OrderCompares N a0 a1 = some true := by
  intro a b ha hb
  obtain ⟨a0, a1⟩ := u64_in ha
  obtain ⟨b0, b1⟩ := u64_in hb
  refine ⟨300, ?_⟩
  unfold fn_tillerlaw10_OrderCompares fn_order_Signal
  rw [cmpR_eq 300 (by omega) (by omega) a b a0 a1 b0 b1, Ordp.cmp_eq 300 a b a0 a1 b0 b1, sure_eq]
  simp only [Option.bind_some]
  have h := cmp_rng a b
  generalize cmpN a b = c at *
  obtain ⟨c, f⟩ := c
  simp only at h ⊢
  rcases h with ⟨rfl, rfl | rfl⟩ | ⟨h, rfl⟩
  · simp [eqI_eq, cvI, wrap_i64]
  · simp [eqI_eq, cvI, wrap_i64]
  · simp [eqI_eq, cvI, wrap_i64, h]
end Go.Proofs.Ytkipjjijaphjpaa

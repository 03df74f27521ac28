/- PROVED HERE: PatSigns' pure statement, over the functions that eng2.py printed: any pattern with the other sign, without it, with another one's. No condition beyond the arguments' kinds. -/
import Derived.Test.YtfcmenjachkleaaDoorPatp
import Derived.Test.YtfcmenjachkleaaDoorFnPatSigns
namespace Go.Proofs.YtfcmenjachkleaaDoor
open Go Eng Fns Bw Dig Patp
set_option linter.unusedSimpArgs false
theorem sure_eq : fn_tillerlaw03_sure 300 = some true := by kernel_rfl
theorem pure_PatSigns : ∀ (a0 : Int) (a1 : Int), okN .u64 a0 → okN .u64 a1 → ∃ N, fn_tillerlaw03_PatSigns N a0 a1 = some true := by
  intro a b ha hb
  obtain ⟨a0, a1⟩ := u64_in ha
  obtain ⟨b0, b1⟩ := u64_in hb
  refine ⟨300, ?_⟩
  unfold fn_tillerlaw03_PatSigns
  rw [absR_eq 300 a a0, Option.bind_some]
  by_cases h : 9223372036854775808 ≤ b
  · rw [leI_t h, cond_true, negR_eq 300 _ (by omega) (by omega), Option.bind_some, negP_eq 300 a a0 a1, negR_eq 300 a a0 a1, abs_eq 300 a a0 a1, copyP_eq 300 a b a0 a1 b0 b1, if_pos (show a % 9223372036854775808 < 9223372036854775808 by omega), if_neg (show ¬ b < 9223372036854775808 by omega)]
    simp only [Option.bind_some, eqI_eq, decide_true, cond_true, sure_eq]
  · rw [leI_f h, cond_false, negP_eq 300 a a0 a1, negR_eq 300 a a0 a1, abs_eq 300 a a0 a1, copyP_eq 300 a b a0 a1 b0 b1, if_pos (show b < 9223372036854775808 by omega)]
    simp only [Option.bind_some, eqI_eq, decide_true, cond_true, sure_eq]
end Go.Proofs.YtfcmenjachkleaaDoor

/- PROVED HERE: PatTakes' pure statement, over the functions that eng2.py printed: the parts of any pattern, its class, whether it is a number, and finite. No condition beyond the arguments' kinds. -/
import Derived.Test.YtfcmenjachkleaaDoorPatp
import Derived.Test.YtfcmenjachkleaaDoorFnPatTakes
namespace Go.Proofs.YtfcmenjachkleaaDoor
open Go Eng Fns Bw Dig Patp
set_option linter.unusedSimpArgs false
theorem sure_eq : fn_tillerlaw03_sure 300 = some true := by kernel_rfl
theorem pure_PatTakes : ∀ (a0 : Int), okN .u64 a0 → ∃ N, fn_tillerlaw03_PatTakes N a0 = some true := by
  intro a ha
  obtain ⟨a0, a1⟩ := u64_in ha
  refine ⟨300, ?_⟩
  unfold fn_tillerlaw03_PatTakes
  simp only [takeP_eq 300 a a0 a1, takeR_eq 300 a a0 a1, clsP_eq 300 a a0 a1, nan_eq 300 a a0 a1, nanR_eq 300 a a0 a1, finP_eq 300 a a0 a1 (by omega), finR_eq 300 a a0 a1, Option.bind_some, eqB_eq, eqI_eq, decide_true, Bool.and_self, cond_true, sure_eq]
end Go.Proofs.YtfcmenjachkleaaDoor

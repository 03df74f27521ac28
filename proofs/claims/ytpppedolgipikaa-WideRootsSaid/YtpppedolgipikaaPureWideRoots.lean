/- PROVED HERE: WideRoots' pure statement, over the functions that eng.py printed: the root's square and the rest are the number, the rest at most twice the root. No condition beyond the arguments' kinds. -/
import Derived.Test.YtpppedolgipikaaWid7
import Derived.Test.YtpppedolgipikaaWid9
import Derived.Test.YtpppedolgipikaaFnWideRoots
namespace Go.Proofs.Ytpppedolgipikaa
open Go Eng Fns Bw Wid
theorem pure_WideRoots : ∀ (a0 : Vec 4), okL .u64 a0.1 → ∃ N, fn_tillerlaw01_WideRoots N a0 = some true := by
  intro a ha
  obtain ⟨x, hx, rfl⟩ := W_all a ha
  refine ⟨300, ?_⟩
  unfold fn_tillerlaw01_WideRoots
  obtain ⟨r, h1, h2, h3⟩ := sqrt_eq 300 (by omega) x hx
  have hrl : r < 2 ^ 128 := lt_of_sq (Nat.lt_of_le_of_lt h1 (Nat.lt_of_lt_of_eq hx (by rw [← Nat.pow_add])))
  have hs : (r + 1) * (r + 1) = r * r + 2 * r + 1 := by rw [Nat.add_mul, Nat.mul_add]; omega
  have hr : r < 2 ^ 256 := by omega
  rw [h3, Option.bind_some]
  simp only
  rw [refMul_eq 300 (by omega) r r hr hr, Option.bind_some]
  simp only
  rw [Nat.mod_eq_of_lt (by omega), Nat.div_eq_of_lt (by omega), refAdd_eq 300 (by omega) (r * r) (x - r * r) (by omega) (by omega), Option.bind_some, refAdd_eq 300 (by omega) r r hr hr, Option.bind_some]
  simp only
  rw [show r * r + (x - r * r) = x by omega, Nat.mod_eq_of_lt hx, Nat.mod_eq_of_lt (show r + r < 2 ^ 256 by omega), refCmp_eq 300 (by omega) _ _ (by omega) (by omega), Option.bind_some, W_zero, W_eq (by decide) (by decide), W_eq hx hx, decide_eq_false (show ¬ (2 ^ 256 ≤ x) by omega), decide_eq_false (show ¬ (2 ^ 256 ≤ r + r) by omega), decide_eq_true rfl, decide_eq_true rfl, sure_eq]
  have hc : leI (cmpZ (x - r * r) (r + r)) 0 = true := by
    apply leI_t
    unfold cmpZ
    split
    · decide
    · rw [if_pos (by omega)]; decide
  rw [hc]
  rfl
end Go.Proofs.Ytpppedolgipikaa

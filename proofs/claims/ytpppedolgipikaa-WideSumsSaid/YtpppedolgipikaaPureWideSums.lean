/- PROVED HERE: WideSums' pure statement, over the functions that eng.py printed: the sum and the difference of any two numbers, and which is less. No condition beyond the arguments' kinds. -/
import Derived.Test.YtpppedolgipikaaWid3
import Derived.Test.YtpppedolgipikaaFnWideSums
namespace Go.Proofs.Ytpppedolgipikaa
open Go Eng Fns Bw Wid
theorem pure_WideSums : ∀ (a0 : Vec 4) (a1 : Vec 4), okL .u64 a0.1 → okL .u64 a1.1 → ∃ N, fn_tillerlaw01_WideSums N a0 a1 = some true := by
  intro a b ha hb
  obtain ⟨x, hx, rfl⟩ := W_all a ha
  obtain ⟨y, hy, rfl⟩ := W_all b hb
  refine ⟨300, ?_⟩
  unfold fn_tillerlaw01_WideSums
  have hm : ∀ u : Nat, u % 2 ^ 256 < 2 ^ 256 := fun u => Nat.mod_lt _ (by decide)
  simp only [add_eq 300 (by omega) x y hx hy, refAdd_eq 300 (by omega) x y hx hy, sub_eq 300 (by omega) x y hx hy, refSub_eq 300 (by omega) x y hx hy, cmp_eq 300 (by omega) x y hx hy, refCmp_eq 300 (by omega) x y hx hy, sure_eq, Option.bind_some, W_eq (hm _) (hm _), eqB_eq, eqI_eq, decide_true, cond_true]
end Go.Proofs.Ytpppedolgipikaa

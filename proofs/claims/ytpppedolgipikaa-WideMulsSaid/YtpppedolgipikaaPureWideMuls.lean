/- PROVED HERE: WideMuls' pure statement, over the functions that eng.py printed: the product of any two numbers, all its bits. No condition beyond the arguments' kinds. -/
import Derived.Test.YtpppedolgipikaaWid8
import Derived.Test.YtpppedolgipikaaFnWideMuls
namespace Go.Proofs.Ytpppedolgipikaa
open Go Eng Fns Bw Wid
theorem pure_WideMuls : ∀ (a0 : Vec 4) (a1 : Vec 4), okL .u64 a0.1 → okL .u64 a1.1 → ∃ N, fn_tillerlaw01_WideMuls N a0 a1 = some true := by
  intro a b ha hb
  obtain ⟨x, hx, rfl⟩ := W_all a ha
  obtain ⟨y, hy, rfl⟩ := W_all b hb
  refine ⟨300, ?_⟩
  unfold fn_tillerlaw01_WideMuls
  have h1 : eqL (W (x * y % 2 ^ 256)).1 (W (x * y % 2 ^ 256)).1 = true := (eqL_iff _ _).2 rfl
  have h2 : eqL (W (x * y / 2 ^ 256)).1 (W (x * y / 2 ^ 256)).1 = true := (eqL_iff _ _).2 rfl
  simp only [mul_eq 300 (by omega) x y hx hy, refMul_eq 300 (by omega) x y hx hy, sure_eq, Option.bind_some, h1, h2, cond_true]
end Go.Proofs.Ytpppedolgipikaa

/- PROVED HERE: WideMoves' pure statement, over the functions that eng.py printed: any number with its bits moved up and down, and whether one is lost. No condition beyond the arguments' kinds. -/
import Derived.Test.YtpppedolgipikaaWid6
import Derived.Test.YtpppedolgipikaaFnWideMoves
namespace Go.Proofs.Ytpppedolgipikaa
open Go Eng Fns Bw Wid
theorem pure_WideMoves : ∀ (a0 : Vec 4) (a1 : Int), okL .u64 a0.1 → okN .i64 a1 → ∃ N, fn_tillerlaw01_WideMoves N a0 a1 = some true := by
  intro a n ha hn
  obtain ⟨x, hx, rfl⟩ := W_all a ha
  refine ⟨300, ?_⟩
  unfold fn_tillerlaw01_WideMoves
  simp only [shr_eq 300 (by omega) x hx, refShr_eq 300 (by omega) x hx n (i64_in hn).2, shl_eq 300 (by omega), refShl_eq 300 (by omega), Option.bind_some, W_eq (shl_lt x hx n) (shl_lt x hx n), W_eq (shr_lt x hx n) (shr_lt x hx n), decide_true, cond_true, eqB_eq, sure_eq]
end Go.Proofs.Ytpppedolgipikaa

/- PROVED HERE: WideBits' pure statement, over the functions that eng.py printed: how many bits any number has, and each of them. No condition beyond the arguments' kinds. -/
import Derived.Test.YtpppedolgipikaaWid6
import Derived.Test.YtpppedolgipikaaFnWideBits
namespace Go.Proofs.Ytpppedolgipikaa
open Go Eng Fns Bw Wid
theorem pure_WideBits : ∀ (a0 : Vec 4) (a1 : Int) (a2 : Int), okL .u64 a0.1 → okN .i64 a1 → okN .u64 a2 → ∃ N, fn_tillerlaw01_WideBits N a0 a1 a2 = some true := by
  intro a n k ha hn hk
  obtain ⟨x, hx, rfl⟩ := W_all a ha
  refine ⟨300, ?_⟩
  unfold fn_tillerlaw01_WideBits
  have hb := bitZ_lt x n
  have ho : Vec.st (Vec.zero 4) 0 k = Vec.st (Vec.zero 4) 0 k := rfl
  have he : eqL (Vec.st (Vec.zero 4) 0 k).1 (Vec.st (Vec.zero 4) 0 k).1 = true := (eqL_iff _ _).2 rfl
  simp only [len_eq 300 (by omega) x hx, refLen_eq 300 (by omega) x hx, wbit_eq, refBit_eq 300 (by omega), Option.bind_some, eqI_t rfl, cond_true, cvI_i (show -9223372036854775808 ≤ bitZ x n by omega) (by omega), fn_wide_Of, he, sure_eq]
end Go.Proofs.Ytpppedolgipikaa

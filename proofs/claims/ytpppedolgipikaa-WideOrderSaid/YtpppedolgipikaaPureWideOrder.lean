/- PROVED HERE: WideOrder's pure statement, over the functions that eng.py printed: of two numbers one is less, or they are the same; what is less is less by a difference that is there. No condition beyond the arguments' kinds. -/
import Derived.Test.YtpppedolgipikaaWid3
import Derived.Test.YtpppedolgipikaaFnWideOrder
namespace Go.Proofs.Ytpppedolgipikaa
open Go Eng Fns Bw Wid
theorem pure_WideOrder : ∀ (a0 : Vec 4) (a1 : Vec 4), okL .u64 a0.1 → okL .u64 a1.1 → ∃ N, fn_tillerlaw01_WideOrder N a0 a1 = some true := by
  intro a b ha hb
  obtain ⟨x, hx, rfl⟩ := W_all a ha
  obtain ⟨y, hy, rfl⟩ := W_all b hb
  refine ⟨300, ?_⟩
  unfold fn_tillerlaw01_WideOrder
  have hm : ∀ u : Nat, u % 2 ^ 256 < 2 ^ 256 := fun u => Nat.mod_lt _ (by decide)
  simp only [sub_eq 300 (by omega) x y hx hy, cmp_eq 300 (by omega) x y hx hy, cmp_eq 300 (by omega) y x hy hx, sure_eq, Option.bind_some, W_zero, W_eq (hm _) (show 0 < 2 ^ 256 by decide), W_eq hx hy]
  rcases Nat.lt_trichotomy x y with h | h | h
  · have e1 : cmpZ x y = -1 := by unfold cmpZ; rw [if_pos h]
    have e2 : cmpZ y x = 1 := by unfold cmpZ; rw [if_neg (by omega), if_neg (by omega)]
    have e3 : ¬ x = y := by omega
    simp [e1, e2, h, e3, eqI_eq, eqB_eq, ltI_eq, subI, wrap_i64]
  · subst h
    have e1 : cmpZ x x = 0 := by unfold cmpZ; simp
    have e2 : (2 ^ 256 + x - x) % 2 ^ 256 = 0 := by omega
    rw [e1, e2]
    simp [eqI_eq, eqB_eq, ltI_eq, subI, wrap_i64]
  · have e1 : cmpZ y x = -1 := by unfold cmpZ; rw [if_pos h]
    have e2 : cmpZ x y = 1 := by unfold cmpZ; rw [if_neg (by omega), if_neg (by omega)]
    have e3 : ¬ x = y := by omega
    have e4 : ¬ x < y := by omega
    simp [e1, e2, e4, e3, eqI_eq, eqB_eq, ltI_eq, subI, wrap_i64]
end Go.Proofs.Ytpppedolgipikaa

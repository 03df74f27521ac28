/- PROVED HERE: WideParts' pure statement, over the functions that eng2.py printed: quotient times divisor and rest are the number, the rest below the divisor; by nothing there is none. No condition beyond the arguments' kinds. -/
import Derived.Test.YtbdfjjgkjpnahaaDoorWide2
import Derived.Test.YtbdfjjgkjpnahaaDoorFnWideParts
namespace Go.Proofs.YtbdfjjgkjpnahaaDoor
open Go Eng Fns Bw Wid Num
set_option linter.unusedSimpArgs false
theorem sure_eq : fn_tillerlaw01_sure 300 = some true := by kernel_rfl
theorem pure_WideParts : ∀ (a0 : Vec 4) (a1 : Vec 4), okL .u64 a0.1 → okL .u64 a1.1 → ∃ N, fn_tillerlaw01_WideParts N a0 a1 = some true := by
  intro a b ha hb
  obtain ⟨x, hx, rfl⟩ := W_all a ha
  obtain ⟨y, hy, rfl⟩ := W_all b hb
  refine ⟨300, ?_⟩
  have hself : ∀ y, y < 2 ^ 256 → eqL (W y).1 (W y).1 = true := fun y hy => by rw [W_eq hy hy]; simp
  unfold fn_tillerlaw01_WideParts
  by_cases h0 : y = 0
  · subst h0
    rw [divmod_zero, Option.bind_some, W_zero]
    simp only [hself 0 (by decide), cond_true]
    unfold fn_num
    rw [Option.bind_some, eqI_t (show (some (5 : Int)).getD 0 = 5 from rfl), cond_true, sure_eq]; rfl
  · have hp : 0 < y := Nat.pos_of_ne_zero h0
    have hz : eqL (W y).1 (Vec.zero 4).1 = false := by rw [W_zero, W_eq hy (by decide)]; simp [h0]
    have hdm := Nat.div_add_mod x y
    have hr := Nat.mod_lt x hp
    have hqx : x / y < 2 ^ 256 := Nat.lt_of_le_of_lt (Nat.div_le_self _ _) hx
    have hm : x / y * y = y * (x / y) := Nat.mul_comm _ _
    have hle : x / y * y ≤ x := by omega
    have hrx : x % y < 2 ^ 256 := Nat.lt_trans hr hy
    have e1 : x / y * y % 2 ^ 256 = x / y * y := Nat.mod_eq_of_lt (Nat.lt_of_le_of_lt hle hx)
    have e2 : x / y * y / 2 ^ 256 = 0 := Nat.div_eq_of_lt (Nat.lt_of_le_of_lt hle hx)
    have e3 : x / y * y + x % y = x := by omega
    rw [divmod_eq 300 (by omega) x y hx hy hp, Option.bind_some, hz, cond_false]
    simp only
    rw [refMul_eq 300 (by omega) _ _ hqx hy, Option.bind_some]
    simp only
    rw [e1, e2, refAdd_eq 300 (by omega) _ _ (Nat.lt_of_le_of_lt hle hx) hrx, Option.bind_some, e3, Nat.mod_eq_of_lt hx, decide_eq_false (by omega), W_zero, refCmp_eq 300 (by omega) _ _ hrx hy]
    have hc : cmpZ (x % y) y = -1 := by unfold cmpZ; rw [if_pos hr]
    simp only [isNoneI, cond_true, hself 0 (by decide), hself x hx, Bool.not_false, Option.bind_some, hc, sure_eq]
    rfl
end Go.Proofs.YtbdfjjgkjpnahaaDoor

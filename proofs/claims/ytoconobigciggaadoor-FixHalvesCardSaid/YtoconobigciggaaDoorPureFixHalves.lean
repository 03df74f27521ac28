/- PROVED HERE: FixHalves' pure statement, over the functions that eng2.py printed: times a half is moved down by one; times 1 it stays; a number parted by itself is 1. No condition beyond the arguments' kinds. -/
import Derived.Test.YtoconobigciggaaDoorFixq
import Derived.Test.YtoconobigciggaaDoorFnFixHalves
namespace Go.Proofs.YtoconobigciggaaDoor
open Go Eng Fns Bw Dig Rn Wid Fixp Num
set_option linter.unusedSimpArgs false
theorem sure_eq : fn_tillerlaw15_sure 300 = some true := by kernel_rfl
theorem one_eq : fn_tillerlaw15_one 300 = some (W (2 ^ 248)) := by kernel_rfl
theorem half_of : fn_fix_Of 300 1 2 = some (W (2 ^ 247), none) := by kernel_rfl
theorem half_mul (x A B : Nat) (hA : A = 2 ^ 247) (hB : B = 2 ^ 248) (hx : x < 2 ^ 256) : x * A / B % 2 ^ 256 = x / 2 ∧ decide (B ≤ x * A / 2 ^ 256) = false := by
  have h1 : B = A * 2 := by rw [hA, hB]
  have hA0 : 0 < A := by rw [hA]; decide
  have h2 : x * A / B = x / 2 := by rw [h1, Nat.mul_comm A, Nat.mul_div_mul_right _ _ hA0]
  refine ⟨by rw [h2]; omega, ?_⟩
  have h3 : x * A / 2 ^ 256 < B := by
    apply Nat.div_lt_of_lt_mul
    have : x * A < 2 ^ 256 * A := Nat.mul_lt_mul_of_pos_right hx hA0
    have : 2 ^ 256 * A ≤ 2 ^ 256 * B := Nat.mul_le_mul_left _ (by omega)
    omega
  exact decide_eq_false (by omega)
theorem one_mul (x B : Nat) (hB : B = 2 ^ 248) (hx : x < 2 ^ 256) : x * B / B % 2 ^ 256 = x ∧ decide (B ≤ x * B / 2 ^ 256) = false := by
  have hB0 : 0 < B := by rw [hB]; decide
  refine ⟨by rw [Nat.mul_div_cancel _ hB0]; omega, ?_⟩
  have h3 : x * B / 2 ^ 256 < B := by
    apply Nat.div_lt_of_lt_mul
    exact Nat.mul_lt_mul_of_pos_right hx hB0
  exact decide_eq_false (by omega)
theorem pure_FixHalves : ∀ (a0 : Vec 4) (a1 : Int), okL .u64 a0.1 → okN .u64 a1 → ∃ N, fn_tillerlaw15_FixHalves N a0 a1 = some true := by
  intro a b ha hb
  obtain ⟨x, hx, rfl⟩ := W_all a ha
  obtain ⟨b0, b1⟩ := u64_in hb
  obtain ⟨n, rfl⟩ := Int.eq_ofNat_of_zero_le b0
  refine ⟨300, ?_⟩
  have hn : n < 2 ^ 64 := by omega
  unfold fn_tillerlaw15_FixHalves
  obtain ⟨p1, p2⟩ := half_mul x (2 ^ 247) (2 ^ 248) rfl rfl hx
  obtain ⟨q1, q2⟩ := one_mul x (2 ^ 248) rfl hx
  have hs : shrZ x 1 = x / 2 := by unfold shrZ; rw [if_neg (by omega)]; rfl
  have hself : ∀ y, y < 2 ^ 256 → eqL (W y).1 (W y).1 = true := fun y hy => by rw [W_eq hy hy]; simp
  rw [half_of, Option.bind_some]
  simp only
  rw [fixMul_eq 300 x (2 ^ 247) (by omega) hx (by decide), Option.bind_some, Wid.shr_eq 300 (by omega) x hx 1, Option.bind_some, one_eq, Option.bind_some, fixMul_eq 300 x (2 ^ 248) (by omega) hx (by decide), Option.bind_some, p1, p2, q1, q2, hs]
  simp only [isNoneI, cond_true, Bool.not_false, hself (x / 2) (by omega), hself x hx]
  by_cases h0 : n = 0
  · subst h0
    have e : fn_fix_Of 300 ((0 : Nat) : Int) ((0 : Nat) : Int) = some (W 0, some 5) := by unfold fn_fix_Of; rw [eqI_t (by omega), cond_true, W_zero]
    rw [e, Option.bind_some, eqI_t (by omega), cond_true]
    unfold fn_num
    rw [Option.bind_some, eqI_t (show (some (5 : Int)).getD 0 = 5 from rfl), cond_true, sure_eq]; rfl
  · have hq : n / n < 256 := by rw [Nat.div_self (by omega)]; omega
    obtain ⟨h1, h2⟩ := progOf_eq 300 (by omega) n n (2 ^ 128) (2 ^ 120) rfl rfl hn hn (by omega) hq
    rw [show (2 : Nat) ^ 128 * 2 ^ 120 = 2 ^ 248 from (Nat.pow_add 2 128 120).symm, Nat.mul_div_cancel_left _ (by omega)] at h1 h2
    rw [h1, Option.bind_some, eqI_f (by omega), cond_false]
    simp only [isNoneI, cond_true, Option.bind_some, hself (2 ^ 248) (by decide), sure_eq]
end Go.Proofs.YtoconobigciggaaDoor

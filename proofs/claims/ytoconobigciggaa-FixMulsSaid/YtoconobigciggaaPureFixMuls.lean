/- PROVED HERE: FixMuls' pure statement, over the functions that eng2.py printed: the product of any two fractions, cut, and whether it is too great. No condition beyond the arguments' kinds. -/
import Derived.Test.YtoconobigciggaaFixp
import Derived.Test.YtoconobigciggaaFnFixMuls
namespace Go.Proofs.Ytoconobigciggaa
open Go Eng Fns Bw Dig Rn Wid Fixp
set_option linter.unusedSimpArgs false
theorem sure_eq : fn_tillerlaw15_sure 300 = some true := by kernel_rfl
theorem pure_FixMuls : ∀ (a0 : Vec 4) (a1 : Vec 4), okL .u64 a0.1 → okL .u64 a1.1 → ∃ N, fn_tillerlaw15_FixMuls N a0 a1 = some true := by
  intro a b ha hb
  obtain ⟨x, hx, rfl⟩ := W_all a ha
  obtain ⟨y, hy, rfl⟩ := W_all b hb
  refine ⟨300, ?_⟩
  have hp : x * y < 65536 ^ 32 := by
    rw [show (32 : Nat) = 16 + 16 from rfl, Nat.pow_add]
    exact Nat.mul_lt_mul'' (Nat.lt_of_lt_of_eq hx (by decide)) (Nat.lt_of_lt_of_eq hy (by decide))
  have d1 : dl 65536 x ≤ 16 := dlX hx
  have d2 : dl 65536 y ≤ 16 := dlX hy
  have d3 : dl 65536 (x * y) ≤ 32 := dl_le b16 hp
  have hq : x * y / 2 ^ 248 < 65536 ^ 32 := Nat.lt_of_le_of_lt (Nat.div_le_self _ _) hp
  have d4 : dl 65536 (x * y / 2 ^ 248) ≤ 32 := dl_le b16 hq
  have d5 : dl 65536 (x * y / 2 ^ 248 / 2 ^ 256) ≤ 32 := dl_le b16 (Nat.lt_of_le_of_lt (Nat.div_le_self _ _) hq)
  have hle : x * y / 2 ^ 248 / 2 ^ 256 * 2 ^ 256 ≤ x * y / 2 ^ 248 := Nat.div_mul_le_self _ _
  have hm : x * y / 2 ^ 248 - x * y / 2 ^ 248 / 2 ^ 256 * 2 ^ 256 = x * y / 2 ^ 248 % 2 ^ 256 := by
    have := Nat.div_add_mod (x * y / 2 ^ 248) (2 ^ 256); omega
  have hmlt : x * y / 2 ^ 248 % 2 ^ 256 < 2 ^ 256 := Nat.mod_lt _ (by decide)
  have d6 : dl 65536 (x * y / 2 ^ 248 % 2 ^ 256) ≤ 16 := dlX hmlt
  unfold fn_tillerlaw15_FixMuls
  rw [fixMul_eq 300 x y (by omega) hx hy, Option.bind_some, Fixp.of_eq 300 x (by omega) hx, Option.bind_some, Fixp.of_eq 300 y (by omega) hy, Option.bind_some, Rn.mul_eq 300 x y (by omega) (by omega), Option.bind_some]
  have s1 := Rn.shr_eq 300 (x * y) 248 (by omega) (by omega) (by omega) (by omega)
  have s2 := Rn.shr_eq 300 (x * y / 2 ^ 248) 256 (by omega) (by omega) (by omega) (by omega)
  have s3 := Rn.shl_eq 300 (x * y / 2 ^ 248 / 2 ^ 256) 256 (by omega) (by omega)
  have n1 : ((248 : Nat) : Int) = 248 := rfl
  have n2 : ((256 : Nat) : Int) = 256 := rfl
  rw [n1] at s1; rw [n2] at s2 s3
  rw [s1, Option.bind_some]
  simp only
  rw [s2, Option.bind_some]
  simp only
  rw [s3, Option.bind_some, Rn.sub_eq 300 _ _ hle (by omega) (by omega), Option.bind_some, hm, Fixp.of_eq 300 _ (by omega) hmlt, Option.bind_some, Rn.cmp_eq 300 _ _ (by omega) (by omega) (by omega), Option.bind_some]
  have hc : Rn.cmpZ (x * y / 2 ^ 248 % 2 ^ 256) (x * y / 2 ^ 248 % 2 ^ 256) = 0 := by unfold Rn.cmpZ; simp
  have hb : eqB (decide (2 ^ 248 ≤ x * y / 2 ^ 256)) (ltI 0 ((X (x * y / 2 ^ 248 / 2 ^ 256)).length : Int)) = true := by
    rw [eqB_eq, decide_eq_true_eq, D_len, ltI_eq, decide_eq_decide]
    have := dl_nil (b := 65536) (n := x * y / 2 ^ 248 / 2 ^ 256) b16
    rw [Nat.div_div_eq_div_mul, Nat.mul_comm (2 ^ 248), ← Nat.div_div_eq_div_mul] at this ⊢
    generalize x * y / 2 ^ 256 = t at *
    omega
  rw [hc, hb, eqI_t rfl, cond_true, cond_true, sure_eq]; rfl
end Go.Proofs.Ytoconobigciggaa

/- PROVED HERE: FixOf's pure statement, over the functions that eng2.py printed: any whole number parted by any other one, or the error; half a turn. No condition beyond the arguments' kinds. -/
import Derived.Test.YtoconobigciggaaDoorFixp
import Derived.Test.YtoconobigciggaaDoorFixq
import Derived.Test.YtoconobigciggaaDoorFnFixOf
namespace Go.Proofs.YtoconobigciggaaDoor
open Go Eng Fns Bw Dig Rn Wid Fixp Num
set_option linter.unusedSimpArgs false
theorem pi_ok : ((fn_tillerref15_Pi 70000).bind fun r3 => (fn_tillerref02_Shr 70000 r3 72).bind fun r4 => (fn_fix_Pi 70000).bind fun r8 => (fn_tillerlaw15_of 70000 r8).bind fun r9 => fn_tillerref02_Cmp 70000 r9 r4.1) = some 0 := by kernel_rfl
theorem sure_eq : fn_tillerlaw15_sure 70000 = some true := by kernel_rfl
theorem pure_FixOf : ∀ (a0 : Int) (a1 : Int), okN .u64 a0 → okN .u64 a1 → ∃ N, fn_tillerlaw15_FixOf N a0 a1 = some true := by
  intro a b ha hb
  obtain ⟨a0, a1⟩ := u64_in ha
  obtain ⟨b0, b1⟩ := u64_in hb
  obtain ⟨n, rfl⟩ := Int.eq_ofNat_of_zero_le a0
  obtain ⟨y, rfl⟩ := Int.eq_ofNat_of_zero_le b0
  refine ⟨70000, ?_⟩
  have hn : n < 2 ^ 64 := by omega
  have hy : y < 2 ^ 64 := by omega
  obtain ⟨r3, p1, p2⟩ := Option.bind_eq_some_iff.1 pi_ok
  obtain ⟨r4, p3, p4⟩ := Option.bind_eq_some_iff.1 p2
  obtain ⟨r8, p5, p6⟩ := Option.bind_eq_some_iff.1 p4
  obtain ⟨r9, p7, p8⟩ := Option.bind_eq_some_iff.1 p6
  unfold fn_tillerlaw15_FixOf
  obtain ⟨v, e, f1, f2, f3⟩ := of_both 70000 (by omega) (by omega) n y hn hy
  rw [f1, Option.bind_some, f2, Option.bind_some, p1, Option.bind_some, p3, Option.bind_some]
  simp only
  unfold fn_num
  rw [Option.bind_some, eqI_t rfl, cond_true, Fixp.of_eq 70000 v (by omega) f3, Option.bind_some, Rn.cmp_eq 70000 _ _ (by have := dlX (k := 16) f3; omega) (by have := dlX (k := 16) f3; omega) (by omega), Option.bind_some]
  have hc : Rn.cmpZ v v = 0 := by unfold Rn.cmpZ; simp
  rw [hc, eqI_t rfl, cond_true, p5, Option.bind_some, p7, Option.bind_some, p8, Option.bind_some, eqI_t rfl, cond_true, sure_eq]; rfl
end Go.Proofs.YtoconobigciggaaDoor

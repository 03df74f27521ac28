/- PROVED HERE: NatMuls' pure statement, over the functions that eng2.py printed: the product of any two numbers. No condition beyond the arguments' kinds. -/
import Derived.Test.YtoihjgfnocimjaaDoorNat3
import Derived.Test.YtoihjgfnocimjaaDoorRn3
import Derived.Test.YtoihjgfnocimjaaDoorFnNatMuls
namespace Go.Proofs.YtoihjgfnocimjaaDoor
open Go Eng Fns Bw Dig Nt Num Slc
open Rn (X Y b32 b16 cmpZ)
set_option linter.unusedSimpArgs false
theorem sure_eq : fn_tillerlaw02_sure 100000 = some true := by kernel_rfl
theorem mul_bad (N : Nat) (xs ys : List Int) (h : fn_nat_both N xs ys = some (some 1)) : fn_nat_Mul N xs ys = some ([], some 1) := by
  unfold fn_nat_Mul
  rw [h, Option.bind_some]; rfl
theorem dl_mul32 (m n : Nat) : dl 4294967296 (m * n) ≤ dl 4294967296 m + dl 4294967296 n := by
  apply dl_le b32
  rw [Nat.pow_add]
  exact Nat.mul_lt_mul'' (dl_lt b32 m) (dl_lt b32 n)
theorem mul_eq (N m n : Nat) (hm : dl 4294967296 m ≤ 8192) (hn : dl 4294967296 n ≤ 8192) (hN : 20000 < N) (hN2 : N < 17592186044416) : fn_nat_Mul N (Y m) (Y n) = some (if 8193 < dl 4294967296 m + dl 4294967296 n then ([], some 2) else bnd32 (m * n)) := by
  unfold fn_nat_Mul
  have e1 : addI .i64 (dl 4294967296 m : Int) (dl 4294967296 n : Int) = ((dl 4294967296 m + dl 4294967296 n : Nat) : Int) := addN (by simp only [lim]; omega)
  have hd := dl_mul32 m n
  rw [both_Y N m n hm hn, Option.bind_some, show isNoneI none = true from rfl, Bool.not_true, cond_false, D_len, D_len, e1]
  by_cases h : 8193 < dl 4294967296 m + dl 4294967296 n
  · rw [ltI_t (by omega), cond_true, if_pos h]
  · rw [ltI_f (by omega), cond_false, if_neg h, times_eq N m n (by omega) hN2, Option.bind_some, bounded_Y N _ (by omega) (by omega), Option.bind_some]
theorem pure_NatMuls : ∀ (a0 a1 : List Int), okL .u32 a0 ∧ a0.length ≤ maxLen → okL .u32 a1 ∧ a1.length ≤ maxLen → ∃ N, fn_tillerlaw02_NatMuls N a0 a1 = some true := by
  intro a b ⟨ha, hal⟩ ⟨hb, hbl⟩
  refine ⟨100000, ?_⟩
  unfold fn_tillerlaw02_NatMuls
  rw [sure_eq]
  simp only [Option.bind_some]
  by_cases h1 : 60 < a.length
  · rw [ltI_t (by omega), cond_true]
  rw [ltI_f (by omega), cond_false]
  by_cases h2 : 60 < b.length
  · rw [ltI_t (by omega), cond_true]
  rw [ltI_f (by omega), cond_false]
  rcases nat_cases a ha with ⟨m, hm, hml, rfl⟩ | hbad
  rotate_left
  · have hbo := both_bad1 100000 a b hbad (by omega)
    rw [mul_bad _ _ _ hbo, Option.bind_some, is_bad _ _ hbad (by omega)]
    rfl
  rcases nat_cases b hb with ⟨n, hn, hnl, rfl⟩ | hbad
  rotate_left
  · have hbo := both_bad2 100000 m b hm hbad (by omega)
    rw [mul_bad _ _ _ hbo, Option.bind_some, is_Y _ _ hm, is_bad _ _ hbad (by omega)]
    rfl
  have m1 := dl_16_le m
  have n1 := dl_16_le n
  have hd := dl_mul32 m n
  have s1 := dl_16_le (m * n)
  rw [mul_eq 100000 m n hm hn (by omega) (by omega), Option.bind_some, is_Y _ _ hm, is_Y _ _ hn]
  simp only [Option.bind_some]
  rw [Rn.from_Y 100000 m (by omega) (by omega), Rn.from_Y 100000 n (by omega) (by omega)]
  simp only [Option.bind_some]
  rw [if_neg (by omega), bnd32, if_pos (by omega), Rn.mul_eq 100000 m n (by omega) (by omega), Option.bind_some, Words_eq 100000 (m * n) (by omega) (by omega), Option.bind_some, words_Y 100000 _ _ (by omega) (by omega), Option.bind_some, decide_eq_true rfl]
  rfl
end Go.Proofs.YtoihjgfnocimjaaDoor

/- PROVED HERE: NatSums' pure statement, over the functions that eng2.py printed: the sum and the difference of any two numbers, which is less, or the errors; whether words are a number. No condition beyond the arguments' kinds. -/
import Derived.Test.YtoihjgfnocimjaaDoorNat3
import Derived.Test.YtoihjgfnocimjaaDoorFnNatSums
namespace Go.Proofs.YtoihjgfnocimjaaDoor
open Go Eng Fns Bw Dig Nt Num Slc
open Rn (X Y b32 b16 cmpZ)
set_option linter.unusedSimpArgs false
theorem sure_eq : fn_tillerlaw02_sure 100000 = some true := by kernel_rfl
theorem cmp_Y (N m n : Nat) (hm : dl 4294967296 m ≤ 8192) (hn : dl 4294967296 n ≤ 8192) (hN : 8192 < N) (hN2 : N < 4611686018427387904) : fn_nat_Cmp N (Y m) (Y n) = some (cmpZ m n, none) := by
  unfold fn_nat_Cmp
  rw [both_Y N m n hm hn, Option.bind_some, show isNoneI none = true from rfl, Bool.not_true, cond_false, compare_eq N m n (by omega) hN2, Option.bind_some]
theorem cmp_bad (N : Nat) (xs ys : List Int) (h : fn_nat_both N xs ys = some (some 1)) : fn_nat_Cmp N xs ys = some (0, some 1) := by
  unfold fn_nat_Cmp
  rw [h, Option.bind_some]; rfl
theorem pure_NatSums : ∀ (a0 a1 : List Int), okL .u32 a0 ∧ a0.length ≤ maxLen → okL .u32 a1 ∧ a1.length ≤ maxLen → ∃ N, fn_tillerlaw02_NatSums N a0 a1 = some true := by
  intro a b ⟨ha, hal⟩ ⟨hb, hbl⟩
  refine ⟨100000, ?_⟩
  unfold fn_tillerlaw02_NatSums
  rw [sure_eq]
  simp only [Option.bind_some]
  by_cases h1 : 300 < a.length
  · rw [ltI_t (by omega), cond_true]
  rw [ltI_f (by omega), cond_false]
  by_cases h2 : 300 < b.length
  · rw [ltI_t (by omega), cond_true]
  rw [ltI_f (by omega), cond_false]
  rcases nat_cases a ha with ⟨m, hm, hml, rfl⟩ | hbad
  rotate_left
  · have hbo := both_bad1 100000 a b hbad (by omega)
    rw [add_bad _ _ _ hbo, Option.bind_some, sub_bad _ _ _ hbo, Option.bind_some, cmp_bad _ _ _ hbo, Option.bind_some, check_bad _ _ hbad (by omega), Option.bind_some, is_bad _ _ hbad (by omega)]
    rfl
  rcases nat_cases b hb with ⟨n, hn, hnl, rfl⟩ | hbad
  rotate_left
  · have hbo := both_bad2 100000 m b hm hbad (by omega)
    rw [add_bad _ _ _ hbo, Option.bind_some, sub_bad _ _ _ hbo, Option.bind_some, cmp_bad _ _ _ hbo, Option.bind_some, check_Y _ _ hm, Option.bind_some, is_Y _ _ hm, is_bad _ _ hbad (by omega)]
    rfl
  have hm3 : dl 4294967296 m ≤ 300 := by omega
  have hn3 : dl 4294967296 n ≤ 300 := by omega
  have m1 := dl_16_le m
  have n1 := dl_16_le n
  have hsum : dl 4294967296 (m + n) ≤ 301 := by
    obtain ⟨K, hK⟩ : ∃ K, K = 300 := ⟨_, rfl⟩
    have hm2 : m < 4294967296 ^ K := Nat.lt_of_lt_of_le (dl_lt b32 m) (Nat.pow_le_pow_right (by decide) (by omega))
    have hn2 : n < 4294967296 ^ K := Nat.lt_of_lt_of_le (dl_lt b32 n) (Nat.pow_le_pow_right (by decide) (by omega))
    have := dl_le b32 (two hm2 hn2)
    omega
  have s1 := dl_16_le (m + n)
  rw [add_eq 100000 m n hm hn (by omega) (by omega), Option.bind_some, sub_eq 100000 m n hm hn (by omega) (by omega), Option.bind_some, cmp_Y 100000 m n hm hn (by omega) (by omega), Option.bind_some, check_Y _ _ hm, Option.bind_some, is_Y _ _ hm, is_Y _ _ hn]
  simp only [Option.bind_some]
  rw [Rn.from_Y 100000 m (by omega) (by omega), Rn.from_Y 100000 n (by omega) (by omega)]
  simp only [Option.bind_some]
  rw [bnd32, if_pos (by omega), Rn.cmp_eq 100000 m n (by omega) (by omega) (by omega), Option.bind_some, Rn.add_eq 100000 m n (by omega) (by omega), Option.bind_some, Words_eq 100000 (m + n) (by omega) (by omega), Option.bind_some, words_Y 100000 _ _ (by omega) (by omega), Option.bind_some, eqI_t rfl, cmpZ_lt]
  simp only [isNoneI, eqB, Bool.not_true, cond_false, decide_true, beq_self_eq_true]
  by_cases h : m < n
  · rw [if_pos h, decide_eq_true h, cond_true]; rfl
  · have d1 : dl 4294967296 (m - n) ≤ dl 4294967296 m := dl_le b32 (Nat.lt_of_le_of_lt (Nat.sub_le _ _) (dl_lt b32 m))
    have d2 := dl_16_le (m - n)
    rw [if_neg h, decide_eq_false h, cond_false, Rn.sub_eq 100000 m n (by omega) (by omega) (by omega), Option.bind_some, Words_eq 100000 (m - n) (by omega) (by omega), Option.bind_some, words_Y 100000 _ _ (by omega) (by omega), Option.bind_some, decide_eq_true rfl]
    rfl
where
  two {m n k : Nat} (h1 : m < 4294967296 ^ k) (h2 : n < 4294967296 ^ k) : m + n < 4294967296 ^ (k + 1) := by rw [Nat.pow_succ]; omega
end Go.Proofs.YtoihjgfnocimjaaDoor

/- PLAIN FACTS on the reference's numbers of chapter 2 (parts of 16 bits): Parts (quotient and rest). No statement is proved here. -/
import Derived.Test.YtoconobigciggaaRn4
namespace Go.Proofs.Ytoconobigciggaa.Rn
open Go Go.RowKit Go.Proofs.Ytoconobigciggaa.Eng Go.Proofs.Ytoconobigciggaa.Fns Go.Proofs.Ytoconobigciggaa.Bw Go.Proofs.Ytoconobigciggaa.Dig
set_option linter.unusedVariables false
set_option linter.unusedSimpArgs false
theorem at_neg (N : Nat) (xs : List Int) (i : Int) (h : i < 0) : fn_tillerref02_at N xs i = some 0 := by
  unfold fn_tillerref02_at; rw [leI_f (by omega), cond_false]
theorem shlU (a s : Nat) (hs : s ≤ 64) (h : a * 2 ^ s < 18446744073709551616) : shlI .u64 (a : Int) (s : Int) = ((a * 2 ^ s : Nat) : Int) := by
  rw [shlI_n hs, Nat.mod_eq_of_lt h]
/-- a digit put ahead -/
theorem front_eq (N a r : Nat) (ha : a < 65536) (hN : dl 65536 r + 2 < N) (hN2 : N < 17592186044416) : fn_tillerref02_trim N ([(a : Int)] ++ X r) = some (X (a + 65536 * r)) := by
  have h := T_append (b := 65536) (by decide) 1 (dl 65536 r) a r (by simpa using ha)
  have e : T 65536 1 a = [(a : Int)] := by simp [T, List.range, List.range.loop]; omega
  rw [e, Nat.pow_one] at h
  have hr := dl_lt b16 r
  rw [show X r = T 65536 (dl 65536 r) r from rfl, h, trim_eq N _ _ (by omega) (by omega), Nat.mod_eq_of_lt]
  rw [Nat.add_comm 1, Nat.pow_succ]; omega
theorem cmpZ_pos (a b : Nat) : ltI 0 (cmpZ a b) = decide (b < a) := by
  unfold cmpZ; rw [ltI_eq, decide_eq_decide]; split <;> (try split) <;> omega
theorem cmpZ_neg (a b : Nat) : ltI (cmpZ a b) 0 = decide (a < b) := by
  unfold cmpZ; rw [ltI_eq, decide_eq_decide]; split <;> (try split) <;> omega
theorem guess_ge (R n P : Nat) (hn : 0 < n / P) (hP : 0 < P) : R / n ≤ R / P / (n / P) := by
  rw [Nat.le_div_iff_mul_le hn, Nat.le_div_iff_mul_le hP, Nat.mul_assoc]
  exact Nat.le_trans (Nat.mul_le_mul_left _ (Nat.div_mul_le_self n P)) (Nat.div_mul_le_self R n)
end Go.Proofs.Ytoconobigciggaa.Rn

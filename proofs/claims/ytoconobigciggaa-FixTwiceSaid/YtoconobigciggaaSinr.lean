/- PLAIN FACTS on chapter 15: the reference's series, sines and cosines, bounds. No statement is proved here. -/
import Derived.Test.YtoconobigciggaaSinq
namespace Go.Proofs.Ytoconobigciggaa.Sinq
open Go Go.RowKit Go.Proofs.Ytoconobigciggaa.Eng Go.Proofs.Ytoconobigciggaa.Fns Go.Proofs.Ytoconobigciggaa.Bw Go.Proofs.Ytoconobigciggaa.Dig Go.Proofs.Ytoconobigciggaa.Rn Go.Proofs.Ytoconobigciggaa.Wid Go.Proofs.Ytoconobigciggaa.Fixp Go.Proofs.Ytoconobigciggaa.Sinp
set_option linter.unusedVariables false
set_option linter.unusedSimpArgs false
theorem around_eq (N s : Nat) (hN : 300 ≤ N) (hs : s < 2 ^ 250) : fn_fix_around N (W s) = some (W (s - 512), W (s + 512), none) := by
  unfold fn_fix_around
  have m1 : (s + 512) % 2 ^ 256 = s + 512 := by omega
  rw [show (512 : Int) = ((512 : Nat) : Int) from rfl, of_small N 512 (by decide)]
  simp only [Option.bind_some]
  rw [Wid.sub_eq N hN _ _ (by omega) (by decide), Wid.add_eq N hN _ _ (by omega) (by decide), m1]
  simp only [Option.bind_some]
  by_cases h : s < 512
  · rw [decide_eq_true h, cond_true, W_zero, show s - 512 = 0 by omega]
  · have m2 : (2 ^ 256 + s - 512) % 2 ^ 256 = s - 512 := by omega
    rw [decide_eq_false h, cond_false, m2]
theorem cmp_le {a b : Nat} (h : a ≤ b) : leI (Rn.cmpZ a b) 0 = true := by
  rw [leI_eq, decide_eq_true_eq]; unfold Rn.cmpZ; split <;> (try split) <;> omega
theorem dl_add {a b k : Nat} (ha : dl 65536 a ≤ k) (hb : dl 65536 b ≤ k) : dl 65536 (a + b) ≤ k + 1 := dl_le b16 (by
  have h1 := Nat.lt_of_lt_of_le (dl_lt b16 a) (Nat.pow_le_pow_right (by decide) ha)
  have h2 := Nat.lt_of_lt_of_le (dl_lt b16 b) (Nat.pow_le_pow_right (by decide) hb)
  rw [Nat.pow_succ]
  generalize 65536 ^ k = P at *
  omega)
theorem dl_mul {a b k l : Nat} (ha : dl 65536 a ≤ k) (hb : dl 65536 b ≤ l) : dl 65536 (a * b) ≤ k + l := dl_le b16 (by
  rw [Nat.pow_add]
  exact Nat.mul_lt_mul'' (Nat.lt_of_lt_of_le (dl_lt b16 a) (Nat.pow_le_pow_right (by decide) ha)) (Nat.lt_of_lt_of_le (dl_lt b16 b) (Nat.pow_le_pow_right (by decide) hb)))
end Go.Proofs.Ytoconobigciggaa.Sinq

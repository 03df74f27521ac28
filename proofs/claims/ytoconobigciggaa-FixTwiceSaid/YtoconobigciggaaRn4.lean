/- PLAIN FACTS on the reference's numbers of chapter 2 (parts of 16 bits): Small, Len, Parts. No statement is proved here. -/
import Derived.Test.YtoconobigciggaaRn3
namespace Go.Proofs.Ytoconobigciggaa.Rn
open Go Go.RowKit Go.Proofs.Ytoconobigciggaa.Eng Go.Proofs.Ytoconobigciggaa.Fns Go.Proofs.Ytoconobigciggaa.Bw Go.Proofs.Ytoconobigciggaa.Dig
set_option linter.unusedVariables false
set_option linter.unusedSimpArgs false
/-! ### times a small number -/
def smc (n q m i : Nat) : Nat := (n % 65536 ^ i * q + m) / 65536 ^ i
theorem smc_div (n q m i : Nat) : (n * q + m) / 65536 ^ i = smc n q m i + n / 65536 ^ i * q := by
  have h := Nat.div_add_mod n (65536 ^ i)
  have e : n * q + m = (n % 65536 ^ i * q + m) + 65536 ^ i * (n / 65536 ^ i * q) := by
    conv => lhs; rw [← h]
    rw [Nat.add_mul, Nat.mul_assoc]; omega
  unfold smc
  rw [e, Nat.add_mul_div_left _ _ (p16 i)]
theorem smc_le (n q m i : Nat) : smc n q m i ≤ q + m := by
  unfold smc
  have hp := p16 i
  have h1 := Nat.mod_lt n hp
  apply Nat.div_le_of_le_mul
  have h2 : n % 65536 ^ i * q ≤ 65536 ^ i * q := Nat.mul_le_mul_right q (Nat.le_of_lt h1)
  have h3 : m ≤ 65536 ^ i * m := Nat.le_mul_of_pos_left m hp
  rw [Nat.mul_add]; omega
theorem smc_succ (n q m i : Nat) : smc n q m (i + 1) = (smc n q m i + n / 65536 ^ i % 65536 * q) / 65536 := by
  unfold smc
  rw [mod16, Nat.pow_succ, ← Nat.div_div_eq_div_mul]
  congr 1
  rw [Nat.add_mul, Nat.add_right_comm, Nat.mul_assoc, Nat.add_mul_div_left _ _ (p16 i)]
theorem b2 : (1 : Nat) < 2 := by decide
theorem bits_down (n : Nat) : ∀ k, 0 < n / 2 ^ k → dl 2 n = k + dl 2 (n / 2 ^ k)
  | 0, _ => by simp
  | k + 1, h => by
    have e : n / 2 ^ (k + 1) = n / 2 ^ k / 2 := by rw [Nat.pow_succ, Nat.div_div_eq_div_mul]
    have h2 : 0 < n / 2 ^ k := by
      apply Nat.pos_of_ne_zero; intro h3; rw [e, h3] at h; simp at h
    rw [bits_down n k h2, dl_pos b2 h2, e]; omega
end Go.Proofs.Ytoconobigciggaa.Rn

/- PLAIN FACTS on the reference's numbers of chapter 2 (parts of 16 bits): Mul, Shr. No statement is proved here. -/
import Derived.Test.YtoihjgfnocimjaaRn2
namespace Go.Proofs.Ytoihjgfnocimjaa.Rn
open Go Go.RowKit Go.Proofs.Ytoihjgfnocimjaa.Eng Go.Proofs.Ytoihjgfnocimjaa.Fns Go.Proofs.Ytoihjgfnocimjaa.Bw Go.Proofs.Ytoihjgfnocimjaa.Dig
set_option linter.unusedVariables false
set_option linter.unusedSimpArgs false
theorem mod16 (n i : Nat) : n % 65536 ^ (i + 1) = n % 65536 ^ i + 65536 ^ i * (n / 65536 ^ i % 65536) := by rw [Nat.pow_succ, Nat.mod_mul]
/-- a digit put in place of another one -/
theorem set_val (a i v : Nat) : a % 65536 ^ i + 65536 ^ i * v + 65536 ^ (i + 1) * (a / 65536 ^ (i + 1)) + 65536 ^ i * (a / 65536 ^ i % 65536) = a + 65536 ^ i * v := by
  have h := Nat.div_add_mod a (65536 ^ (i + 1))
  rw [mod16] at h
  omega
theorem digit_down (n i t : Nat) (ht : t ≤ 15) : n / 65536 ^ i / 2 ^ t % 65536 = n / 65536 ^ i % 65536 / 2 ^ t + n / 65536 ^ (i + 1) % 65536 % 2 ^ t * (65536 / 2 ^ t) := by
  have e : 65536 = 2 ^ t * 2 ^ (16 - t) := by rw [← Nat.pow_add, show t + (16 - t) = 16 by omega]
  have e2 : 65536 / 2 ^ t = 2 ^ (16 - t) := Nat.div_eq_of_eq_mul_right (Nat.pow_pos (by decide)) e
  rw [e2, Nat.pow_succ, ← Nat.div_div_eq_div_mul]
  generalize n / 65536 ^ i = q
  have h1 : q = 65536 * (q / 65536) + q % 65536 := (Nat.div_add_mod q 65536).symm
  have hp : 0 < 2 ^ t := Nat.pow_pos (by decide)
  have hp2 : 0 < 2 ^ (16 - t) := Nat.pow_pos (by decide)
  have h2 : q / 2 ^ t = q % 65536 / 2 ^ t + 2 ^ (16 - t) * (q / 65536) := by
    conv => lhs; rw [h1]
    rw [show 65536 * (q / 65536) = 2 ^ t * (2 ^ (16 - t) * (q / 65536)) by rw [← Nat.mul_assoc, ← e], Nat.add_comm, Nat.add_mul_div_left _ _ hp]
  have h3 : q % 65536 / 2 ^ t < 2 ^ (16 - t) := by
    rw [Nat.div_lt_iff_lt_mul hp, Nat.mul_comm, ← e]; exact Nat.mod_lt _ (by decide)
  have h4 : q / 65536 % 65536 % 2 ^ t = q / 65536 % 2 ^ t := Nat.mod_mod_of_dvd _ ⟨2 ^ (16 - t), e⟩
  rw [h4, h2]
  have h5 : 65536 = 2 ^ (16 - t) * 2 ^ t := by rw [Nat.mul_comm]; exact e
  clear h4 h2 h1
  generalize q % 65536 / 2 ^ t = A at *
  generalize q / 65536 = B at *
  conv => lhs; rw [h5]
  rw [Nat.mod_mul, Nat.add_mul_mod_self_left, Nat.mod_eq_of_lt h3, Nat.add_mul_div_left _ _ hp2, Nat.div_eq_of_lt h3, Nat.zero_add, Nat.mul_comm (2 ^ (16 - t))]
theorem lost_succ (n i : Nat) : (decide (n % 65536 ^ (i + 1) ≠ 0)) = (decide (n % 65536 ^ i ≠ 0) || decide (n / 65536 ^ i % 65536 ≠ 0)) := by
  rw [mod16]
  have hp := p16 i
  by_cases h1 : n % 65536 ^ i = 0
  · by_cases h2 : n / 65536 ^ i % 65536 = 0
    · rw [h1, h2]; simp
    · have : 0 < 65536 ^ i * (n / 65536 ^ i % 65536) := Nat.mul_pos hp (by omega)
      rw [decide_eq_true (by omega), decide_eq_true (p := n / 65536 ^ i % 65536 ≠ 0) h2]; simp
  · rw [decide_eq_true (by omega), decide_eq_true (p := n % 65536 ^ i ≠ 0) h1]; simp
theorem orz (g0 P g : Nat) (hp : 0 < P) : (decide (g0 ≠ 0) || decide (g ≠ 0)) = decide (g0 + P * g ≠ 0) := by
  by_cases h3 : g0 = 0 <;> by_cases h4 : g = 0 <;> simp [h3, h4] <;> first | omega | exact Nat.ne_of_gt (Nat.mul_pos hp (by omega))
end Go.Proofs.Ytoihjgfnocimjaa.Rn

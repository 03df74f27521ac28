/- PLAIN FACTS on chapter 15: a whole number parted by another one: the program's and the reference's. No statement is proved here. -/
import Derived.Test.YtoconobigciggaaFixp
import Derived.Test.YtoconobigciggaaWide2
import Derived.Test.YtoconobigciggaaRn5
namespace Go.Proofs.Ytoconobigciggaa.Fixp
open Go Go.RowKit Go.Proofs.Ytoconobigciggaa.Eng Go.Proofs.Ytoconobigciggaa.Fns Go.Proofs.Ytoconobigciggaa.Bw Go.Proofs.Ytoconobigciggaa.Dig Go.Proofs.Ytoconobigciggaa.Rn Go.Proofs.Ytoconobigciggaa.Wid
set_option linter.unusedVariables false
set_option linter.unusedSimpArgs false
/-- long division in three steps -/
theorem three (n y A B : Nat) (hy : 0 < y) : n * (A * B) / y = n / y * (A * B) + n % y * A / y * B + n % y * A % y * B / y := by
  have h1 := Nat.div_add_mod n y
  have h2 := Nat.div_add_mod (n % y * A) y
  have h3 := Nat.div_add_mod (n % y * A % y * B) y
  have l3 := Nat.mod_lt (n % y * A % y * B) hy
  generalize n % y * A % y * B / y = c at *
  generalize n % y * A % y * B % y = d at *
  generalize n % y * A % y = r2 at *
  generalize n % y * A / y = b at *
  generalize n % y = r at *
  generalize n / y = q at *
  have e : n * (A * B) = d + y * (q * (A * B) + b * B + c) := by
    have e1 : n * (A * B) = y * (q * (A * B)) + r * A * B := by rw [← h1, Nat.add_mul, Nat.mul_assoc, Nat.mul_assoc r]
    have e2 : r * A * B = y * (b * B) + r2 * B := by rw [← h2, Nat.add_mul, Nat.mul_assoc]
    rw [e1, e2, ← h3, Nat.mul_add, Nat.mul_add]; omega
  rw [e, Nat.add_mul_div_left _ _ hy, Nat.div_eq_of_lt l3, Nat.zero_add]
theorem shlZ_n (x s : Nat) (h0 : 0 < s) (h : s < 256) (hx : x * 2 ^ s < 2 ^ 256) : shlZ x (s : Int) = x * 2 ^ s := by
  unfold shlZ; rw [if_neg (by omega), if_neg (by omega), Int.toNat_natCast, Nat.mod_eq_of_lt hx]
theorem progOf_eq (N : Nat) (hN : 300 ≤ N) (n y A B : Nat) (hA : A = 2 ^ 128) (hB : B = 2 ^ 120) (hn : n < 2 ^ 64) (hy : y < 2 ^ 64) (h0 : 0 < y) (hq : n / y < 256) : fn_fix_Of N (n : Int) (y : Int) = some (W (n * (A * B) / y), none) ∧ n * (A * B) / y < 2 ^ 256 := by
  have h3 := three n y A B h0
  have hAB : A * B = 2 ^ 248 := by rw [hA, hB, ← Nat.pow_add]
  have hr : n % y < 2 ^ 64 := Nat.lt_trans (Nat.mod_lt _ h0) hy
  have hr2 : n % y * A % y < 2 ^ 64 := Nat.lt_trans (Nat.mod_lt _ h0) hy
  have hb : n % y * A / y < A := by
    rw [Nat.div_lt_iff_lt_mul h0, Nat.mul_comm]; exact Nat.mul_lt_mul_of_pos_left (Nat.mod_lt _ h0) (by rw [hA]; decide)
  have hc : n % y * A % y * B / y < B := by
    rw [Nat.div_lt_iff_lt_mul h0, Nat.mul_comm B]; exact Nat.mul_lt_mul_of_pos_right (Nat.mod_lt _ h0) (by rw [hB]; decide)
  have m1 : n % y * A < 2 ^ 256 := by rw [hA]; generalize n % y = r at *; omega
  have m2 : n % y * A % y * B < 2 ^ 256 := by rw [hB]; generalize n % y * A % y = r at *; omega
  have m3 : n / y * (A * B) < 2 ^ 256 := by rw [hAB]; generalize n / y = r at *; omega
  have m4 : n % y * A / y * B < 2 ^ 256 := by rw [hB]; rw [hA] at hb ⊢; generalize n % y * 2 ^ 128 / y = r at *; omega
  have s1 : shlZ (n % y) 128 = n % y * A := by have := shlZ_n (n % y) 128 (by omega) (by omega) (by rw [← hA]; exact m1); rw [hA]; exact this
  have s2 : shlZ (n % y * A % y) 120 = n % y * A % y * B := by have := shlZ_n (n % y * A % y) 120 (by omega) (by omega) (by rw [← hB]; exact m2); rw [hB]; exact this
  have s3 : shlZ (n / y) 248 = n / y * (A * B) := by have := shlZ_n (n / y) 248 (by omega) (by omega) (by rw [← hAB]; exact m3); rw [hAB]; exact this
  have s4 : shlZ (n % y * A / y) 120 = n % y * A / y * B := by have := shlZ_n (n % y * A / y) 120 (by omega) (by omega) (by rw [← hB]; exact m4); rw [hB]; exact this
  have hsum1 : n / y * (A * B) + n % y * A / y * B < 2 ^ 256 := by
    have t1 : n / y * (A * B) ≤ 255 * (A * B) := Nat.mul_le_mul_right _ (by omega)
    have t2 : (n % y * A / y + 1) * B ≤ A * B := Nat.mul_le_mul_right _ hb
    rw [Nat.add_mul, Nat.one_mul] at t2
    have hB0 : 0 < B := by rw [hB]; decide
    generalize n / y * (A * B) = u at *
    generalize n % y * A / y * B = v at *
    rw [hAB] at t1 t2
    omega
  have hlt : n * (A * B) / y < 2 ^ 256 := by
    rw [h3]
    have t1 : n / y * (A * B) ≤ 255 * (A * B) := Nat.mul_le_mul_right _ (by omega)
    have t2 : (n % y * A / y + 1) * B ≤ A * B := Nat.mul_le_mul_right _ hb
    rw [Nat.add_mul, Nat.one_mul] at t2
    generalize n / y * (A * B) = u at *
    generalize n % y * A / y * B = v at *
    generalize n % y * A % y * B / y = w at *
    rw [hAB] at t1 t2
    omega
  refine ⟨?_, hlt⟩
  unfold fn_fix_Of
  have eq : quoI .u64 (n : Int) (y : Int) = ((n / y : Nat) : Int) := quoN (by simp only [lim]; omega)
  have hn2 : n < 2 ^ 256 := Nat.lt_trans hn (by decide)
  have hy2 : y < 2 ^ 256 := Nat.lt_trans hy (by decide)
  have hc2 : n % y * A % y * B / y < 2 ^ 256 := Nat.lt_of_le_of_lt (Nat.div_le_self _ _) m2
  rw [eqI_f (by omega), cond_false, cond_false, eq, leI_f (by omega), cond_false, of_small N n hn, Option.bind_some, of_small N y hy]
  simp only [Option.bind_some]
  rw [divmod_eq N hN n y hn2 hy2 h0]
  simp only [Option.bind_some, isNoneI, Bool.not_true, cond_false]
  rw [Wid.shl_eq N hN _ 128, s1]
  simp only [Option.bind_some]
  rw [divmod_eq N hN _ y m1 hy2 h0]
  simp only [Option.bind_some, isNoneI, Bool.not_true, cond_false]
  rw [Wid.shl_eq N hN _ 120, Wid.shl_eq N hN _ 248, Wid.shl_eq N hN _ 120, s2, s3, s4]
  simp only [Option.bind_some]
  rw [divmod_eq N hN _ y m2 hy2 h0]
  simp only [Option.bind_some]
  rw [Wid.add_eq N hN _ _ m3 m4, Nat.mod_eq_of_lt hsum1]
  simp only [Option.bind_some]
  rw [Wid.add_eq N hN _ _ hsum1 hc2, ← h3, Nat.mod_eq_of_lt hlt]
  rfl
end Go.Proofs.Ytoconobigciggaa.Fixp

/- PLAIN FACTS on chapter 15: the program's sine and cosine beside the series without rests. No statement is proved here. -/
import Derived.Test.YtoconobigciggaaSinr
import Derived.Test.YtoconobigciggaaTrig3
namespace Go.Proofs.Ytoconobigciggaa.Sinq
open Go Go.RowKit Go.Proofs.Ytoconobigciggaa.Eng Go.Proofs.Ytoconobigciggaa.Fns Go.Proofs.Ytoconobigciggaa.Bw Go.Proofs.Ytoconobigciggaa.Dig Go.Proofs.Ytoconobigciggaa.Rn Go.Proofs.Ytoconobigciggaa.Wid Go.Proofs.Ytoconobigciggaa.Fixp Go.Proofs.Ytoconobigciggaa.Sinp
open Go.Proofs.Ytoconobigciggaa.Trig (su F)
set_option linter.unusedVariables false
set_option linter.unusedSimpArgs false
theorem one_eq : fn_tillerlaw15_one 300 = some (W (2 ^ 248)) := by kernel_rfl
theorem fone_eq : fn_fix_one 300 = some (W (2 ^ 248)) := by kernel_rfl
theorem fct_big (f : Nat) (hf : f = 1 ∨ f = 2) : 2 ^ 248 < fct f 80 := by
  rcases hf with rfl | rfl <;> decide +kernel
/-- a square at two scales -/
theorem sq_near (x A S : Nat) (hA : 0 < A) (hS : 0 < S) (hx : x ≤ S) : x * x / S ≤ S ∧ (A * x) * (A * x) / (A * S) ≤ A * S ∧ A * (x * x / S) ≤ (A * x) * (A * x) / (A * S) ∧ (A * x) * (A * x) / (A * S) ≤ A * (x * x / S) + A := by
  have e : (A * x) * (A * x) / (A * S) = A * (x * x) / S := by
    rw [show A * x * (A * x) = A * (A * (x * x)) by simp only [Nat.mul_assoc, Nat.mul_left_comm], Nat.mul_div_mul_left _ _ hA]
  have h1 : x * x / S ≤ S := by
    apply Nat.div_le_of_le_mul
    exact Nat.mul_le_mul hx hx
  have h2 := Nat.div_add_mod (x * x) S
  have h3 := Nat.mod_lt (x * x) hS
  refine ⟨h1, ?_, ?_, ?_⟩
  · rw [e]
    apply Nat.div_le_of_le_mul
    rw [show S * (A * S) = A * (S * S) by simp only [Nat.mul_left_comm]]
    exact Nat.mul_le_mul_left _ (Nat.mul_le_mul hx hx)
  · rw [e, Nat.le_div_iff_mul_le hS, Nat.mul_assoc]
    apply Nat.mul_le_mul_left
    rw [Nat.mul_comm]; omega
  · rw [e]
    apply Nat.div_le_of_le_mul
    rw [show S * (A * (x * x / S) + A) = A * (S * (x * x / S) + S) by rw [Nat.mul_add, Nat.mul_add, Nat.mul_left_comm, Nat.mul_comm S A]]
    apply Nat.mul_le_mul_left
    omega
theorem near_ok {s r A : Nat} (h1 : A * s ≤ r + 512 * A) (h2 : r ≤ A * s + 512 * A) : (s - 512) * A ≤ r ∧ r ≤ (s + 512) * A := by
  constructor
  · by_cases h : s < 512
    · rw [show s - 512 = 0 by omega]; omega
    · obtain ⟨u, rfl⟩ : ∃ u, s = u + 512 := ⟨s - 512, by omega⟩
      rw [Nat.add_sub_cancel, Nat.mul_comm u]
      rw [Nat.mul_add, Nat.mul_comm A 512] at h1; omega
  · rw [Nat.add_mul, Nat.mul_comm s]; omega
theorem A_pos {S A : Nat} (hS : S = 2 ^ 248) (hA : A = F * S ^ 200) : 0 < A := by
  rw [hA]
  exact Nat.mul_pos (Trig.fct_pos (by omega) 99) (Nat.pow_pos (by rw [hS]; decide))
theorem sq_eq {x S : Nat} (hS : S = 2 ^ 248) (hx : x ≤ S) : fn_fix_Mul 300 (W x) (W x) = some (W (x * x / S), decide (2 ^ 248 ≤ x * x / 2 ^ 256)) ∧ ltI 0 (Wid.cmpZ x S) = false := by
  have hS0 : 0 < S := by rw [hS]; decide
  obtain ⟨q1, _⟩ := sq_near x 1 S (by decide) hS0 hx
  have x256 : x < 2 ^ 256 := by omega
  constructor
  · rw [fixMul_eq 300 x x (by omega) x256 x256, ← hS, Nat.mod_eq_of_lt (by omega)]
  · unfold Wid.cmpZ; split
    · rfl
    · rw [if_pos (by omega)]; rfl
theorem sin_at (x S A : Nat) (hS : S = 2 ^ 248) (hA : A = F * S ^ 200) (hx : x ≤ S) : ∃ s, s ≤ 2 * S ∧ fn_fix_Sin 300 (W x) = some (W (s - 512), W (s + 512), none) ∧ (s - 512) * A ≤ su A S x 2 x ∧ su A S x 2 x ≤ (s + 512) * A := by
  have hS0 : 0 < S := by rw [hS]; decide
  have hS8 : 8 ≤ S := by rw [hS]; decide
  have hSlt : 4 * S + 4096 < 2 ^ 256 := by rw [hS]; decide
  have hS250 : 2 * S < 2 ^ 250 := by rw [hS]; decide
  have hf2 : S < fct 2 80 := by rw [hS]; exact fct_big 2 (.inr rfl)
  have hA0 := A_pos hS hA
  obtain ⟨q1, q2, q3, q4⟩ := sq_near x A S hA0 hS0 hx
  obtain ⟨n1, n2⟩ := sums_near (f := 2) (t0 := x) hS8 hA0 q1 q2 q3 q4 (by omega) hx hf2
  have pS := prog_series 300 S (x * x / S) 2 x (by omega) hS q1 (by omega) (by omega) hx
  have lS := evod_lt (f := 2) (t0 := x) hS0 q1 (by omega) hx 80
  obtain ⟨fsq, le0⟩ := sq_eq hS hx
  have x256 : x < 2 ^ 256 := by omega
  have S256 : S < 2 ^ 256 := by omega
  generalize hs : ev (tm S (x * x / S) 2 x) 80 - od (tm S (x * x / S) 2 x) 80 = s at *
  refine ⟨s, by omega, ?_, near_ok n1 n2⟩
  unfold fn_fix_Sin
  rw [fone_eq, ← hS, Option.bind_some, Wid.cmp_eq 300 (by omega) _ _ x256 S256, Option.bind_some, le0, cond_false, fsq, Option.bind_some]
  simp only
  rw [show (2 : Int) = ((2 : Nat) : Int) from rfl, pS, Option.bind_some, around_eq 300 s (by omega) (by omega), Option.bind_some]
theorem cos_at (x S A : Nat) (hS : S = 2 ^ 248) (hA : A = F * S ^ 200) (hx : x ≤ S) : ∃ c, c ≤ 2 * S ∧ fn_fix_Cos 300 (W x) = some (W (c - 512), W (c + 512), none) ∧ (c - 512) * A ≤ su A S x 1 S ∧ su A S x 1 S ≤ (c + 512) * A := by
  have hS0 : 0 < S := by rw [hS]; decide
  have hS8 : 8 ≤ S := by rw [hS]; decide
  have hSlt : 4 * S + 4096 < 2 ^ 256 := by rw [hS]; decide
  have hS250 : 2 * S < 2 ^ 250 := by rw [hS]; decide
  have hf1 : S < fct 1 80 := by rw [hS]; exact fct_big 1 (.inl rfl)
  have hA0 := A_pos hS hA
  obtain ⟨q1, q2, q3, q4⟩ := sq_near x A S hA0 hS0 hx
  obtain ⟨n1, n2⟩ := sums_near (f := 1) (t0 := S) hS8 hA0 q1 q2 q3 q4 (by omega) (Nat.le_refl _) hf1
  have pC := prog_series 300 S (x * x / S) 1 S (by omega) hS q1 (by omega) (by omega) (Nat.le_refl _)
  have lC := evod_lt (f := 1) (t0 := S) hS0 q1 (by omega) (Nat.le_refl _) 80
  obtain ⟨fsq, le0⟩ := sq_eq hS hx
  have x256 : x < 2 ^ 256 := by omega
  have S256 : S < 2 ^ 256 := by omega
  generalize hc : ev (tm S (x * x / S) 1 S) 80 - od (tm S (x * x / S) 1 S) 80 = c at *
  refine ⟨c, by omega, ?_, near_ok n1 n2⟩
  unfold fn_fix_Cos
  rw [fone_eq, ← hS, Option.bind_some, Wid.cmp_eq 300 (by omega) _ _ x256 S256, Option.bind_some, le0, cond_false, fsq, Option.bind_some, Option.bind_some]
  simp only
  rw [show (1 : Int) = ((1 : Nat) : Int) from rfl, pC, Option.bind_some, around_eq 300 c (by omega) (by omega), Option.bind_some]
theorem sin_over (x S : Nat) (hS : S = 2 ^ 248) (hx : x < 2 ^ 256) (hxs : S < x) : fn_fix_Sin 300 (W x) = some (Vec.zero 4, Vec.zero 4, some 1) ∧ fn_fix_Cos 300 (W x) = some (Vec.zero 4, Vec.zero 4, some 1) ∧ ltI 0 (Wid.cmpZ x S) = true := by
  have S256 : S < 2 ^ 256 := by omega
  have hc : Wid.cmpZ x S = 1 := by unfold Wid.cmpZ; rw [if_neg (by omega), if_neg (by omega)]
  have gt0 : ltI 0 (Wid.cmpZ x S) = true := by rw [hc]; rfl
  refine ⟨?_, ?_, gt0⟩
  · unfold fn_fix_Sin
    rw [fone_eq, ← hS, Option.bind_some, Wid.cmp_eq 300 (by omega) _ _ hx S256, Option.bind_some, gt0, cond_true]
  · unfold fn_fix_Cos
    rw [fone_eq, ← hS, Option.bind_some, Wid.cmp_eq 300 (by omega) _ _ hx S256, Option.bind_some, gt0, cond_true]
/-- whole numbers, at a scale -/
theorem sq_cut {a c A S E : Nat} (hA : 0 < A) (h : A * A * E < A * S * (A * S) + A * A) : E ≤ S * S := by
  have e : A * S * (A * S) + A * A = A * A * (S * S + 1) := by
    rw [Nat.mul_add, Nat.mul_one]
    simp only [Nat.mul_assoc, Nat.mul_left_comm, Nat.mul_comm]
  rw [e] at h
  have := Nat.lt_of_mul_lt_mul_left h
  omega
end Go.Proofs.Ytoconobigciggaa.Sinq

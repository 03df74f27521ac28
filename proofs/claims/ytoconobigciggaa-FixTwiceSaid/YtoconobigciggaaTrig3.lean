/- PLAIN LEMMAS: the sums' squares and products, but for less than a unit. No program, no statement. -/
import Derived.Test.YtoconobigciggaaTrig2
namespace Go.Proofs.Ytoconobigciggaa.Trig
open Go Go.Proofs.Ytoconobigciggaa.Sinp
set_option linter.unusedVariables false
set_option linter.unusedSimpArgs false
/-- the sum, without rests -/
def su (A S x f t0 : Nat) : Nat := ev (tm (A * S) (A * x * (A * x) / (A * S)) f (A * t0)) 100 - od (tm (A * S) (A * x * (A * x) / (A * S)) f (A * t0)) 100
theorem su_eq {S x f t0 A : Nat} (hf : f = 1 ∨ f = 2) (hS : 0 < S) (hA : A = F * S ^ 200) (hx : x ≤ S) : ((su A S x f t0 : Nat) : Int) = t0 * ((S : Int) ^ 2 * g ((x : Int) ^ 2) ((S : Int) ^ 2) (P f 100)) := by
  have h := sum_exact (x := x) (t0 := t0) hf hS hA 100 (Nat.le_refl _)
  have hF : 0 < F := fct_pos (by omega) 99
  have hA0 : 0 < A := by rw [hA]; exact Nat.mul_pos hF (Nat.pow_pos hS)
  have hq : A * x * (A * x) / (A * S) ≤ A * S := by
    apply Nat.div_le_of_le_mul
    exact Nat.mul_le_mul (Nat.mul_le_mul_left _ hx) (Nat.mul_le_mul_left _ hx)
  have ho := od_le _ (tm_half (t0 := A * t0) (Nat.mul_pos hA0 hS) hq (show 1 ≤ f by omega)) 100
  unfold su
  rw [Int.natCast_sub ho, h, show 101 - 100 = 1 from rfl, Int.pow_one]
theorem lt_of_abs {a b c : Int} (h1 : a ≤ b) (h2 : -b ≤ a) (h3 : b < c) : a < c ∧ -c < a := ⟨by omega, by omega⟩
section
variable {S x A : Nat}
theorem Z_eq (hS : S = 2 ^ 248) : (S : Int) ^ 2 = 2 ^ 248 * 2 ^ 248 := by rw [hS, Int.pow_succ, Int.pow_succ, Int.pow_zero, Int.one_mul]; rfl
theorem A_sq (hA : A = F * S ^ 200) : (A : Int) * A = ((F * F : Nat) : Int) * ((S : Int) ^ 2) ^ 200 := by
  rw [← Int.pow_mul, hA]
  simp only [Int.natCast_mul, Int.natCast_pow]
  rw [show 2 * 200 = 200 + 200 from rfl, Int.pow_add]
  generalize (S : Int) ^ 200 = Q
  simp only [Int.mul_assoc, Int.mul_left_comm, Int.mul_comm]
/-- a rest that is small -/
theorem rest_lt {Z X n G : Int} {r : List Int} (hZ : 0 < Z) (hX : 0 ≤ X) (hXZ : X ≤ Z) (hl : r.length = 199) (hn : nrm r * Z < n) (hG : 0 ≤ G) (hG2 : G ≤ Z * Z) : G * (g X Z r * Z) < n * Z ^ 200 ∧ -(n * Z ^ 200) < G * (g X Z r * Z) := by
  obtain ⟨h1, h2⟩ := g_le X Z hX hXZ r
  rw [hl] at h1 h2
  have hp : 0 < Z ^ 199 := Int.pow_pos hZ
  have hnn := nrm_nn r
  have b0 : 0 ≤ nrm r * Z ^ 199 := Int.mul_nonneg hnn (Int.le_of_lt hp)
  have a1 := Int.mul_le_mul_of_nonneg_left h1 hG
  have a2 := Int.mul_le_mul_of_nonneg_left h2 hG
  have a3 := Int.mul_le_mul_of_nonneg_right hG2 b0
  have a4 : nrm r * Z * Z ^ 200 < n * Z ^ 200 := Int.mul_lt_mul_of_pos_right hn (Int.pow_pos hZ)
  have e : Z * Z * (nrm r * Z ^ 199) = nrm r * Z * Z ^ 200 := by
    rw [show Z ^ 200 = Z ^ 199 * Z from Int.pow_succ ..]
    simp only [Int.mul_assoc, Int.mul_left_comm, Int.mul_comm]
  rw [Int.mul_neg] at a2
  omega
theorem x_sq (hx : x ≤ S) : (0 : Int) ≤ (x : Int) ^ 2 ∧ (x : Int) ^ 2 ≤ (S : Int) ^ 2 := by
  have h1 := Nat.mul_le_mul hx hx
  have e1 : (x : Int) ^ 2 = ((x * x : Nat) : Int) := by rw [Int.natCast_mul, Int.pow_succ, Int.pow_succ, Int.pow_zero, Int.one_mul]
  have e2 : (S : Int) ^ 2 = ((S * S : Nat) : Int) := by rw [Int.natCast_mul, Int.pow_succ, Int.pow_succ, Int.pow_zero, Int.one_mul]
  rw [e1, e2]; omega
theorem squares_near (hS : S = 2 ^ 248) (hA : A = F * S ^ 200) (hx : x ≤ S) :
    su A S x 2 x * su A S x 2 x + su A S x 1 S * su A S x 1 S < A * S * (A * S) + A * A ∧ A * S * (A * S) < su A S x 2 x * su A S x 2 x + su A S x 1 S * su A S x 1 S + A * A := by
  have hS0 : 0 < S := by rw [hS]; decide
  have hu := su_eq (x := x) (t0 := x) (f := 2) (.inr rfl) hS0 hA hx
  have hv := su_eq (x := x) (t0 := S) (f := 1) (.inl rfl) hS0 hA hx
  obtain ⟨hX, hXZ⟩ := x_sq hx
  have hZ : (0 : Int) < (S : Int) ^ 2 := Int.pow_pos (by omega)
  have hAA := A_sq hA
  have hZe := Z_eq hS
  have ok := okSq_t
  unfold okSq at ok
  cases hq : sq1 with
  | nil => rw [hq] at ok; cases ok
  | cons c r =>
    rw [hq] at ok
    simp only [Bool.and_eq_true, beq_iff_eq, decide_eq_true_eq] at ok
    obtain ⟨hc, hn⟩ := ok
    rw [Int.mul_assoc, ← hZe] at hn
    have l1 : (mulP (P 2 100) (P 2 100)).length = 199 := by rw [mulP_len _ _ (by rw [P_len]; decide) (by rw [P_len]; decide), P_len]
    have l2 : (mulP (P 1 100) (P 1 100)).length = 199 := by rw [mulP_len _ _ (by rw [P_len]; decide) (by rw [P_len]; decide), P_len]
    have hll : (0 :: mulP (P 2 100) (P 2 100)).length = (mulP (P 1 100) (P 1 100) ++ [0]).length := by simp [l1, l2]
    have hlen : r.length = 199 := by
      have : sq1.length = 200 := by unfold sq1; rw [addP_len _ _ hll, List.length_cons, l1]
      rw [hq, List.length_cons] at this; omega
    have hg : ∀ X Z : Int, X * (g X Z (P 2 100) * g X Z (P 2 100)) + Z * (g X Z (P 1 100) * g X Z (P 1 100)) = c * Z ^ 199 + X * g X Z r := by
      intro X Z
      have : g X Z sq1 = c * Z ^ r.length + X * g X Z r := by rw [hq]; rfl
      rw [hlen] at this
      rw [← this]
      unfold sq1
      rw [g_add X Z _ _ hll, g_snoc, g_mul X Z _ _ (by rw [P_len]; decide) (by rw [P_len]; decide)]
      have : g X Z (0 :: mulP (P 2 100) (P 2 100)) = 0 * Z ^ (mulP (P 2 100) (P 2 100)).length + X * g X Z (mulP (P 2 100) (P 2 100)) := rfl
      rw [this, g_mul X Z _ _ (by rw [P_len]; decide) (by rw [P_len]; decide), Int.zero_mul, Int.zero_mul, Int.zero_add, Int.add_zero]
    have hgg := hg ((x : Int) ^ 2) ((S : Int) ^ 2)
    have hr := rest_lt (r := r) (n := ((F * F : Nat) : Int)) (G := (S : Int) ^ 2 * (x : Int) ^ 2) hZ hX hXZ hlen hn (Int.mul_nonneg (Int.le_of_lt hZ) hX) (Int.mul_le_mul_of_nonneg_left hXZ (Int.le_of_lt hZ))
    rw [← hAA] at hr
    have eX : (x : Int) * x = (x : Int) ^ 2 := by rw [Int.pow_succ, Int.pow_succ, Int.pow_zero, Int.one_mul]
    have eZ : (S : Int) * S = (S : Int) ^ 2 := by rw [Int.pow_succ, Int.pow_succ, Int.pow_zero, Int.one_mul]
    have main : ((su A S x 2 x * su A S x 2 x + su A S x 1 S * su A S x 1 S : Nat) : Int) = ((A * S * (A * S) : Nat) : Int) + (S : Int) ^ 2 * (x : Int) ^ 2 * (g ((x : Int) ^ 2) ((S : Int) ^ 2) r * (S : Int) ^ 2) := by
      rw [Int.natCast_add, Int.natCast_mul, Int.natCast_mul, hu, hv]
      have e3 : ((A * S * (A * S) : Nat) : Int) = (A : Int) * A * ((S : Int) ^ 2) := by
        simp only [Int.natCast_mul]
        rw [← eZ]
        simp only [Int.mul_assoc, Int.mul_left_comm, Int.mul_comm]
      rw [e3, hAA, ← hc]
      generalize g ((x : Int) ^ 2) ((S : Int) ^ 2) (P 2 100) = p at *
      generalize g ((x : Int) ^ 2) ((S : Int) ^ 2) (P 1 100) = q at *
      generalize g ((x : Int) ^ 2) ((S : Int) ^ 2) r = R at *
      rw [← eX] at *
      have a1 : (x : Int) * ((S : Int) ^ 2 * p) * (x * ((S : Int) ^ 2 * p)) = (S : Int) ^ 2 * (S : Int) ^ 2 * ((x : Int) * x * (p * p)) := by
        generalize (S : Int) ^ 2 = Z
        simp only [Int.mul_assoc, Int.mul_left_comm, Int.mul_comm]
      have a2 : (S : Int) * ((S : Int) ^ 2 * q) * (S * ((S : Int) ^ 2 * q)) = (S : Int) ^ 2 * (S : Int) ^ 2 * ((S : Int) ^ 2 * (q * q)) := by
        have : (S : Int) * ((S : Int) ^ 2 * q) * (S * ((S : Int) ^ 2 * q)) = (S : Int) * S * ((S : Int) ^ 2 * q * ((S : Int) ^ 2 * q)) := by
          generalize (S : Int) ^ 2 = Z
          simp only [Int.mul_assoc, Int.mul_left_comm, Int.mul_comm]
        rw [this, eZ]
        generalize (S : Int) ^ 2 = Z
        simp only [Int.mul_assoc, Int.mul_left_comm, Int.mul_comm]
      rw [a1, a2, ← Int.mul_add, hgg, Int.mul_add]
      rw [show ((S : Int) ^ 2) ^ 200 = ((S : Int) ^ 2) ^ 199 * (S : Int) ^ 2 from Int.pow_succ ..]
      generalize (S : Int) ^ 2 = Z
      generalize Z ^ 199 = Q
      simp only [Int.mul_assoc, Int.mul_left_comm, Int.mul_comm]
    have eAA : ((A * A : Nat) : Int) = (A : Int) * A := Int.natCast_mul ..
    rw [← eAA] at hr
    omega
theorem twice_near {h : Nat} (hS : S = 2 ^ 248) (hA : A = F * S ^ 200) (hx : 2 * h ≤ S) :
    2 * (su A S h 2 h * su A S h 1 S) < A * S * su A S (2 * h) 2 (2 * h) + A * A ∧ A * S * su A S (2 * h) 2 (2 * h) < 2 * (su A S h 2 h * su A S h 1 S) + A * A := by
  have hS0 : 0 < S := by rw [hS]; decide
  have hu := su_eq (x := h) (t0 := h) (f := 2) (.inr rfl) hS0 hA (by omega)
  have hv := su_eq (x := h) (t0 := S) (f := 1) (.inl rfl) hS0 hA (by omega)
  have hw := su_eq (x := 2 * h) (t0 := 2 * h) (f := 2) (.inr rfl) hS0 hA hx
  obtain ⟨hX, hXZ⟩ := x_sq (show h ≤ S by omega)
  have hZ : (0 : Int) < (S : Int) ^ 2 := Int.pow_pos (by omega)
  have hAA := A_sq hA
  have hZe := Z_eq hS
  have ok := okTw_t
  unfold okTw at ok
  rw [decide_eq_true_eq, Int.mul_assoc, ← hZe] at ok
  have l1 : (mulP (P 2 100) (P 1 100)).length = 199 := by rw [mulP_len _ _ (by rw [P_len]; decide) (by rw [P_len]; decide), P_len, P_len]
  have lP : P4.length = 100 := by simp [P4]
  have l2 : (scale (-(F : Int)) P4 ++ List.replicate 99 0).length = 199 := by simp [scale, lP]
  have hlen : tw.length = 199 := by unfold tw; rw [addP_len _ _ (by rw [l1, l2]), l1]
  have hg : ∀ X Z : Int, g X Z tw = g X Z (P 2 100) * g X Z (P 1 100) + -((F : Int) * g (4 * X) Z (P 2 100) * Z ^ 99) := by
    intro X Z
    unfold tw
    rw [g_add X Z _ _ (by rw [l1, l2]), g_mul X Z _ _ (by rw [P_len]; decide) (by rw [P_len]; decide), g_pad, g_scale, Int.neg_mul, Int.neg_mul]
    congr 4
    unfold P4
    exact g_P4 X Z 100
  have hgg := hg ((h : Int) ^ 2) ((S : Int) ^ 2)
  have eX : ((2 * h : Nat) : Int) ^ 2 = 4 * (h : Int) ^ 2 := by
    rw [Int.natCast_mul, Int.mul_pow]; rfl
  rw [eX] at hw
  have eZ : (S : Int) * S = (S : Int) ^ 2 := by rw [Int.pow_succ, Int.pow_succ, Int.pow_zero, Int.one_mul]
  have hG2 : 2 * (h : Int) * S * (S : Int) ^ 2 ≤ (S : Int) ^ 2 * (S : Int) ^ 2 := by
    apply Int.mul_le_mul_of_nonneg_right _ (Int.le_of_lt hZ)
    rw [← eZ]
    exact Int.mul_le_mul_of_nonneg_right (by omega) (by omega)
  have hG : 0 ≤ 2 * (h : Int) * S * (S : Int) ^ 2 := Int.mul_nonneg (Int.mul_nonneg (by omega) (by omega)) (Int.le_of_lt hZ)
  have hr := rest_lt (r := tw) (n := ((F * F : Nat) : Int)) hZ hX hXZ hlen ok hG hG2
  rw [← hAA, hgg] at hr
  have main : ((2 * (su A S h 2 h * su A S h 1 S) : Nat) : Int) = ((A * S * su A S (2 * h) 2 (2 * h) : Nat) : Int) + 2 * (h : Int) * S * (S : Int) ^ 2 * ((g ((h : Int) ^ 2) ((S : Int) ^ 2) (P 2 100) * g ((h : Int) ^ 2) ((S : Int) ^ 2) (P 1 100) + -((F : Int) * g (4 * (h : Int) ^ 2) ((S : Int) ^ 2) (P 2 100) * ((S : Int) ^ 2) ^ 99)) * (S : Int) ^ 2) := by
    simp only [Int.natCast_mul]
    rw [hu, hv, hw]
    have eA : (A : Int) = F * ((S : Int) ^ 2) ^ 99 * (S : Int) ^ 2 := by
      rw [← Int.pow_mul, Int.mul_assoc, ← Int.pow_add, hA, Int.natCast_mul, Int.natCast_pow]
    rw [eA]
    generalize g ((h : Int) ^ 2) ((S : Int) ^ 2) (P 2 100) = p
    generalize g ((h : Int) ^ 2) ((S : Int) ^ 2) (P 1 100) = q
    generalize g (4 * (h : Int) ^ 2) ((S : Int) ^ 2) (P 2 100) = w
    generalize ((S : Int) ^ 2) ^ 99 = Q
    generalize (S : Int) ^ 2 = Z
    rw [Int.add_mul, Int.mul_add, Int.neg_mul, Int.mul_neg]
    simp only [Int.natCast_mul]
    have e1 : (F : Int) * Q * Z * S * (((2 : Nat) : Int) * h * (Z * w)) = 2 * (h : Int) * S * Z * (F * w * Q * Z) := by
      rw [show ((2 : Nat) : Int) = 2 from rfl]
      simp only [Int.mul_assoc, Int.mul_left_comm, Int.mul_comm]
    have e2 : ((2 : Nat) : Int) * (h * (Z * p) * (S * (Z * q))) = 2 * (h : Int) * S * Z * (p * q * Z) := by
      rw [show ((2 : Nat) : Int) = 2 from rfl]
      simp only [Int.mul_assoc, Int.mul_left_comm, Int.mul_comm]
    rw [e1, e2]; omega
  have eAA : ((A * A : Nat) : Int) = (A : Int) * A := Int.natCast_mul ..
  rw [← eAA] at hr
  omega
end
end Go.Proofs.Ytoconobigciggaa.Trig

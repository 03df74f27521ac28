/- PLAIN LEMMAS: the series of the sine and of the cosine, without rests, as lists of whole numbers: the squares together, and the sine of twice an angle. No program, no statement. -/
import Derived.Test.YtoconobigciggaaSinp
import Derived.KernelRfl
namespace Go.Proofs.Ytoconobigciggaa.Trig
open Go Go.Proofs.Ytoconobigciggaa.Sinp
set_option linter.unusedVariables false
set_option linter.unusedSimpArgs false
/-! ### lists as forms in two numbers -/
section
variable (X Z : Int)
def g : List Int → Int
  | [] => 0
  | c :: p => c * Z ^ p.length + X * g p
theorem g_snoc (p : List Int) (c : Int) : g X Z (p ++ [c]) = Z * g X Z p + c * X ^ p.length := by
  induction p with
  | nil => simp [g]
  | cons a p ih =>
    simp only [List.cons_append, g, ih, List.length_append, List.length_cons, List.length_nil, Int.pow_succ, Nat.zero_add, Int.mul_add]
    simp only [Int.mul_assoc, Int.mul_left_comm, Int.mul_comm]
    omega
def scale (c : Int) (q : List Int) : List Int := q.map (c * ·)
def addP : List Int → List Int → List Int
  | a :: p, b :: q => (a + b) :: addP p q
  | [], q => q
  | p, [] => p
theorem g_scale (c : Int) (q : List Int) : g X Z (scale c q) = c * g X Z q := by
  induction q with
  | nil => simp [scale, g]
  | cons a q ih =>
    simp only [scale, List.map_cons, g, List.length_map] at ih ⊢
    rw [ih]
    simp only [Int.mul_add, Int.mul_assoc, Int.mul_left_comm]
theorem addP_len : ∀ (p q : List Int), p.length = q.length → (addP p q).length = p.length
  | [], [], _ => rfl
  | a :: p, b :: q, h => by simp [addP, addP_len p q (by simpa using h)]
  | [], _ :: _, h => by cases h
  | _ :: _, [], h => by cases h
theorem g_add : ∀ (p q : List Int), p.length = q.length → g X Z (addP p q) = g X Z p + g X Z q
  | [], [], _ => by simp [addP, g]
  | a :: p, b :: q, h => by
    have h : p.length = q.length := by simpa using h
    simp only [addP, g, addP_len p q h, g_add p q h, Int.add_mul, Int.mul_add, h]
    omega
  | [], _ :: _, h => by cases h
  | _ :: _, [], h => by cases h
theorem g_pad (p : List Int) : ∀ m, g X Z (p ++ List.replicate m 0) = g X Z p * Z ^ m
  | 0 => by simp
  | m + 1 => by
    rw [List.replicate_succ', ← List.append_assoc, g_snoc, g_pad p m, Int.pow_succ]
    simp only [Int.zero_mul, Int.add_zero, Int.mul_assoc, Int.mul_left_comm, Int.mul_comm]
def mulP : List Int → List Int → List Int
  | [], _ => []
  | [c], q => scale c q
  | c :: d :: p, q => addP (scale c q ++ List.replicate (p.length + 1) 0) (0 :: mulP (d :: p) q)
theorem mulP_len : ∀ (p q : List Int), 0 < p.length → 0 < q.length → (mulP p q).length = p.length + q.length - 1
  | [c], q, _, h => by simp [mulP, scale]
  | c :: d :: p, q, _, h => by
    have ih := mulP_len (d :: p) q (by simp) h
    simp only [List.length_cons] at ih
    rw [mulP, addP_len]
    · simp [scale]; omega
    · simp [scale, ih]; omega
theorem g_mul : ∀ (p q : List Int), 0 < p.length → 0 < q.length → g X Z (mulP p q) = g X Z p * g X Z q
  | [c], q, _, h => by simp [mulP, g, g_scale]
  | c :: d :: p, q, _, h => by
    have ih := g_mul (d :: p) q (by simp) h
    have hl := mulP_len (d :: p) q (by simp) h
    simp only [List.length_cons] at hl
    rw [mulP, g_add]
    · have e1 : g X Z (c :: d :: p) = c * Z ^ (p.length + 1) + X * g X Z (d :: p) := rfl
      have e2 : g X Z (0 :: mulP (d :: p) q) = 0 * Z ^ (mulP (d :: p) q).length + X * g X Z (mulP (d :: p) q) := rfl
      rw [g_pad, g_scale, e1, e2, ih, Int.add_mul, Int.zero_mul, Int.zero_add]
      generalize g X Z (d :: p) = G
      simp only [List.length_cons, Int.mul_assoc, Int.mul_left_comm, Int.mul_comm]
    · simp [scale, hl]; omega
def nrm : List Int → Int
  | [] => 0
  | c :: p => c.natAbs + nrm p
theorem nrm_nn : ∀ p, 0 ≤ nrm p
  | [] => by simp [nrm]
  | c :: p => by have := nrm_nn p; simp only [nrm]; omega
theorem g_le (hX : 0 ≤ X) (hXZ : X ≤ Z) : ∀ p : List Int, g X Z p * Z ≤ nrm p * Z ^ p.length ∧ -(nrm p * Z ^ p.length) ≤ g X Z p * Z
  | [] => by simp [g, nrm]
  | c :: p => by
    obtain ⟨h1, h2⟩ := g_le hX hXZ p
    have hZ : 0 ≤ Z := by omega
    have hp : 0 ≤ Z ^ p.length := Int.pow_nonneg hZ
    have hn := nrm_nn p
    have a1 : c * Z ^ p.length ≤ (c.natAbs : Int) * Z ^ p.length := Int.mul_le_mul_of_nonneg_right (by omega) hp
    have a2 : -(c.natAbs : Int) * Z ^ p.length ≤ c * Z ^ p.length := Int.mul_le_mul_of_nonneg_right (by omega) hp
    have b0 : 0 ≤ nrm p * Z ^ p.length := Int.mul_nonneg hn hp
    have b1 : X * (g X Z p * Z) ≤ X * (nrm p * Z ^ p.length) := Int.mul_le_mul_of_nonneg_left h1 hX
    have b2 : X * (-(nrm p * Z ^ p.length)) ≤ X * (g X Z p * Z) := Int.mul_le_mul_of_nonneg_left h2 hX
    have b3 : X * (nrm p * Z ^ p.length) ≤ Z * (nrm p * Z ^ p.length) := Int.mul_le_mul_of_nonneg_right hXZ b0
    have c1 := Int.mul_le_mul_of_nonneg_right a1 hZ
    have c2 := Int.mul_le_mul_of_nonneg_right a2 hZ
    simp only [g, nrm, List.length_cons, Int.pow_succ]
    rw [Int.add_mul, Int.add_mul]
    have e1 : X * g X Z p * Z = X * (g X Z p * Z) := Int.mul_assoc ..
    have e2 : (c.natAbs : Int) * (Z ^ p.length * Z) = c.natAbs * Z ^ p.length * Z := (Int.mul_assoc ..).symm
    have e3 : nrm p * (Z ^ p.length * Z) = Z * (nrm p * Z ^ p.length) := by rw [← Int.mul_assoc, Int.mul_comm]
    rw [e1, e2, e3]
    rw [Int.mul_neg] at b2
    rw [Int.neg_mul, Int.neg_mul] at c2
    constructor <;> omega
end
/-! ### the series -/
/-- 199 factorial -/
def F : Nat := fct 2 99
def gk (f k : Nat) : Nat := F / fct f k
def co (f k : Nat) : Int := if k % 2 = 0 then (gk f k : Int) else -(gk f k : Int)
def P (f n : Nat) : List Int := (List.range n).map (co f)
theorem P_len (f n : Nat) : (P f n).length = n := by simp [P]
theorem P_succ (f n : Nat) : P f (n + 1) = P f n ++ [co f n] := by unfold P; rw [List.range_succ, List.map_append]; rfl
theorem F_dvd : ((List.range 100).all fun k => F % fct 1 k == 0 && F % fct 2 k == 0) = true := by decide +kernel
theorem gk_mul {f k : Nat} (hf : f = 1 ∨ f = 2) (hk : k < 100) : gk f k * fct f k = F := by
  have h := List.all_eq_true.1 F_dvd k (by simpa using hk)
  simp only [Bool.and_eq_true, beq_iff_eq] at h
  unfold gk
  rcases hf with rfl | rfl
  · exact Nat.div_mul_cancel (Nat.dvd_of_mod_eq_zero h.1)
  · exact Nat.div_mul_cancel (Nat.dvd_of_mod_eq_zero h.2)
theorem fct_pos {f : Nat} (hf : 1 ≤ f) : ∀ k, 0 < fct f k
  | 0 => Nat.one_pos
  | k + 1 => Nat.mul_pos (fct_pos hf k) (by have := d_ge hf k; omega)
theorem gk_step {f k : Nat} (hf : f = 1 ∨ f = 2) (hk : k + 1 < 100) : gk f k = gk f (k + 1) * ((f + 2 * k) * (f + 2 * k + 1)) := by
  have h1 := gk_mul hf (show k < 100 by omega)
  have h2 := gk_mul hf hk
  have hp : 0 < fct f k := fct_pos (by omega) k
  rw [← h1] at h2
  apply Nat.eq_of_mul_eq_mul_right hp
  rw [← h2]
  show gk f (k + 1) * (fct f k * _) = _
  rw [Nat.mul_assoc]; congr 1; exact Nat.mul_comm ..
/-- the terms, without rests -/
theorem tm_exact {S x f t0 A : Nat} (hf : f = 1 ∨ f = 2) (hS : 0 < S) (hA : A = F * S ^ 200) : ∀ k, k < 100 → tm (A * S) (A * x * (A * x) / (A * S)) f (A * t0) k = gk f k * x ^ (2 * k) * S ^ (200 - 2 * k) * t0
  | 0, _ => by
    have : gk f 0 = F := by have := gk_mul hf (show 0 < 100 by omega); simpa [fct] using this
    show A * t0 = _
    rw [this, hA]; simp
  | k + 1, hk => by
    have ih := tm_exact (x := x) (t0 := t0) hf hS hA k (by omega)
    have hF : 0 < F := fct_pos (by omega) 99
    have hq : A * x * (A * x) / (A * S) = F * S ^ 199 * x ^ 2 := by
      apply Nat.div_eq_of_eq_mul_left
      · rw [hA]; exact Nat.mul_pos (Nat.mul_pos hF (Nat.pow_pos hS)) hS
      · rw [hA, show S ^ 200 = S ^ 199 * S from Nat.pow_succ .., Nat.pow_two]
        simp only [Nat.mul_assoc, Nat.mul_left_comm, Nat.mul_comm]
    show tm (A * S) (A * x * (A * x) / (A * S)) f (A * t0) k * (A * x * (A * x) / (A * S)) / (A * S) / ((f + 2 * k) * (f + 2 * k + 1)) = _
    rw [ih, hq, gk_step hf hk]
    have hd := d_ge (show 1 ≤ f by omega) k
    generalize (f + 2 * k) * (f + 2 * k + 1) = d at *
    have e1 : 200 - 2 * k = 200 - 2 * (k + 1) + 2 := by omega
    rw [e1]
    generalize 200 - 2 * (k + 1) = n
    have e2 : gk f (k + 1) * d * x ^ (2 * k) * S ^ (n + 2) * t0 * (F * S ^ 199 * x ^ 2) = (A * S) * (gk f (k + 1) * x ^ (2 * (k + 1)) * S ^ n * t0 * d) := by
      rw [hA, show S ^ 200 = S ^ 199 * S from Nat.pow_succ .., Nat.pow_add S n 2, Nat.pow_two S, show 2 * (k + 1) = 2 * k + 2 by omega, Nat.pow_add x]
      simp only [Nat.mul_assoc, Nat.mul_left_comm, Nat.mul_comm]
    rw [e2, Nat.mul_div_cancel_left _ (by rw [hA]; exact Nat.mul_pos (Nat.mul_pos hF (Nat.pow_pos hS)) hS), Nat.mul_div_cancel _ (by omega)]
/-- the sum, without rests -/
theorem sum_exact {S x f t0 A : Nat} (hf : f = 1 ∨ f = 2) (hS : 0 < S) (hA : A = F * S ^ 200) : ∀ n, n ≤ 100 →
    ((ev (tm (A * S) (A * x * (A * x) / (A * S)) f (A * t0)) n : Nat) : Int) - ((od (tm (A * S) (A * x * (A * x) / (A * S)) f (A * t0)) n : Nat) : Int) = t0 * (((S : Int) ^ 2) ^ (101 - n) * g ((x : Int) ^ 2) ((S : Int) ^ 2) (P f n))
  | 0, _ => by simp [ev, od, P, g]
  | n + 1, hn => by
    have ih := sum_exact (x := x) (t0 := t0) hf hS hA n (by omega)
    have ht := tm_exact (x := x) (t0 := t0) hf hS hA n (by omega)
    have e1 : 101 - n = 101 - (n + 1) + 1 := by omega
    have e2 : 200 - 2 * n = 2 * (101 - (n + 1)) := by omega
    rw [e1, Int.pow_succ] at ih
    rw [e2] at ht
    rw [P_succ, g_snoc, P_len]
    simp only [ev, od]
    have ht' : ((tm (A * S) (A * x * (A * x) / (A * S)) f (A * t0) n : Nat) : Int) = t0 * (((S : Int) ^ 2) ^ (101 - (n + 1)) * ((gk f n : Int) * ((x : Int) ^ 2) ^ n)) := by
      rw [ht, ← Int.pow_mul, ← Int.pow_mul]
      simp only [Int.natCast_mul, Int.natCast_pow]
      simp only [Int.mul_assoc, Int.mul_left_comm, Int.mul_comm]
    generalize tm (A * S) (A * x * (A * x) / (A * S)) f (A * t0) n = t at *
    generalize ev (tm (A * S) (A * x * (A * x) / (A * S)) f (A * t0)) n = a at *
    generalize od (tm (A * S) (A * x * (A * x) / (A * S)) f (A * t0)) n = b at *
    generalize ((S : Int) ^ 2) ^ (101 - (n + 1)) = Q at *
    generalize ((x : Int) ^ 2) ^ n = Xn at *
    generalize g ((x : Int) ^ 2) ((S : Int) ^ 2) (P f n) = G at *
    generalize (S : Int) ^ 2 = Z at *
    unfold co
    by_cases h : n % 2 = 0
    · rw [if_pos h, if_pos h, if_pos h, Nat.add_zero, Int.mul_add, Int.mul_add, ← ht']
      have : (t0 : Int) * (Q * Z * G) = t0 * (Q * (Z * G)) := by simp only [Int.mul_assoc]
      omega
    · rw [if_neg h, if_neg h, if_neg h, Nat.add_zero, Int.mul_add, Int.mul_add, Int.neg_mul, Int.mul_neg, Int.mul_neg, ← ht']
      have : (t0 : Int) * (Q * Z * G) = t0 * (Q * (Z * G)) := by simp only [Int.mul_assoc]
      omega
/-! ### the squares together -/
def sq1 : List Int := addP (0 :: mulP (P 2 100) (P 2 100)) (mulP (P 1 100) (P 1 100) ++ [0])
def okSq : Bool := match sq1 with
  | c :: r => c == (F * F : Nat) && decide (nrm r * 2 ^ 248 * 2 ^ 248 < (F * F : Nat))
  | [] => false
end Go.Proofs.Ytoconobigciggaa.Trig

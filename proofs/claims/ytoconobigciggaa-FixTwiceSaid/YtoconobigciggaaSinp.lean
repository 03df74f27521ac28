/- PLAIN LEMMAS: a series with terms that change their signs, at two scales; how far the two sums are apart. No program, no statement. -/
import Derived.Test.YtoconobigciggaaDig
namespace Go.Proofs.Ytoconobigciggaa.Sinp
set_option linter.unusedVariables false
set_option linter.unusedSimpArgs false
/-- the terms -/
def tm (S sq f t0 : Nat) : Nat → Nat
  | 0 => t0
  | k + 1 => tm S sq f t0 k * sq / S / ((f + 2 * k) * (f + 2 * k + 1))
def ev (s : Nat → Nat) : Nat → Nat
  | 0 => 0
  | n + 1 => ev s n + if n % 2 = 0 then s n else 0
def od (s : Nat → Nat) : Nat → Nat
  | 0 => 0
  | n + 1 => od s n + if n % 2 = 0 then 0 else s n
section
variable {S sq f t0 : Nat}
theorem d_ge (hf : 1 ≤ f) (k : Nat) : 2 ≤ (f + 2 * k) * (f + 2 * k + 1) := by
  have : 1 * 2 ≤ (f + 2 * k) * (f + 2 * k + 1) := Nat.mul_le_mul (by omega) (by omega)
  omega
theorem tm_half (hS : 0 < S) (hsq : sq ≤ S) (hf : 1 ≤ f) (k : Nat) : 2 * tm S sq f t0 (k + 1) ≤ tm S sq f t0 k := by
  have hd := d_ge hf k
  have h1 : tm S sq f t0 k * sq / S ≤ tm S sq f t0 k := by
    apply Nat.div_le_of_le_mul
    rw [Nat.mul_comm S]
    exact Nat.mul_le_mul_left _ hsq
  have h2 : tm S sq f t0 (k + 1) * ((f + 2 * k) * (f + 2 * k + 1)) ≤ tm S sq f t0 k * sq / S := Nat.div_mul_le_self _ _
  have h3 : tm S sq f t0 (k + 1) * 2 ≤ tm S sq f t0 (k + 1) * ((f + 2 * k) * (f + 2 * k + 1)) := Nat.mul_le_mul_left _ hd
  omega
theorem tm_le (hS : 0 < S) (hsq : sq ≤ S) (hf : 1 ≤ f) : ∀ k, tm S sq f t0 k ≤ t0
  | 0 => Nat.le_refl _
  | k + 1 => by have := tm_half (t0 := t0) hS hsq hf k; have := tm_le hS hsq hf k; omega
theorem tm_zero {k : Nat} (h : tm S sq f t0 k = 0) : ∀ j, tm S sq f t0 (k + j) = 0
  | 0 => h
  | j + 1 => by
    show tm S sq f t0 (k + j) * sq / S / _ = 0
    rw [tm_zero h j]; simp
end
theorem ev_le_tot (s : Nat → Nat) (h : ∀ k, 2 * s (k + 1) ≤ s k) : ∀ n, ev s n + od s n + 2 * s n ≤ 2 * s 0
  | 0 => by simp [ev, od]
  | n + 1 => by
    have h1 := ev_le_tot s h n
    have h2 := h n
    simp only [ev, od]
    split <;> omega
theorem od_le_ev (s : Nat → Nat) (h : ∀ k, 2 * s (k + 1) ≤ s k) : ∀ n, (n % 2 = 0 → od s n ≤ ev s n) ∧ (n % 2 = 1 → od s n + s n ≤ ev s n)
  | 0 => ⟨fun _ => Nat.le_refl _, fun h => by cases h⟩
  | n + 1 => by
    obtain ⟨h1, h2⟩ := od_le_ev s h n
    have h3 := h n
    simp only [ev, od]
    constructor
    · intro hn
      have := h2 (by omega)
      rw [if_neg (by omega), if_neg (by omega)]; omega
    · intro hn
      have := h1 (by omega)
      rw [if_pos (by omega), if_pos (by omega)]; omega
theorem od_le (s : Nat → Nat) (h : ∀ k, 2 * s (k + 1) ≤ s k) (n : Nat) : od s n ≤ ev s n := by
  obtain ⟨h1, h2⟩ := od_le_ev s h n
  rcases Nat.mod_two_eq_zero_or_one n with h3 | h3
  · exact h1 h3
  · have := h2 h3; omega
theorem ev_rest (s : Nat → Nat) {k : Nat} (h : ∀ j, s (k + j) = 0) : ∀ j, ev s (k + j) = ev s k ∧ od s (k + j) = od s k
  | 0 => ⟨rfl, rfl⟩
  | j + 1 => by
    obtain ⟨h1, h2⟩ := ev_rest s h j
    have h3 := h j
    show ev s (k + j) + (if (k + j) % 2 = 0 then s (k + j) else 0) = _ ∧ od s (k + j) + (if (k + j) % 2 = 0 then 0 else s (k + j)) = _
    rw [h1, h2, h3]; simp
theorem ev_near (p q : Nat → Nat) (A B : Nat) (h : ∀ k, A * p k ≤ q k ∧ q k ≤ A * p k + B) : ∀ n, (A * ev p n ≤ ev q n ∧ ev q n ≤ A * ev p n + n * B) ∧ (A * od p n ≤ od q n ∧ od q n ≤ A * od p n + n * B)
  | 0 => by simp [ev, od]
  | n + 1 => by
    obtain ⟨⟨h1, h2⟩, h3, h4⟩ := ev_near p q A B h n
    obtain ⟨h5, h6⟩ := h n
    simp only [ev, od]
    rw [Nat.succ_mul]
    split
    · simp only [Nat.mul_add, Nat.add_zero]; refine ⟨⟨by omega, by omega⟩, by omega, by omega⟩
    · simp only [Nat.mul_add, Nat.add_zero]; refine ⟨⟨by omega, by omega⟩, by omega, by omega⟩
/-- the terms at two scales -/
theorem tm_near {S A sq sqR f t0 : Nat} (hS : 8 ≤ S) (hA : 0 < A) (hsq : sq ≤ S) (h1 : A * sq ≤ sqR) (h2 : sqR ≤ A * sq + A) (hf : 1 ≤ f) (ht : t0 ≤ S) :
    ∀ k, A * tm S sq f t0 k ≤ tm (A * S) sqR f (A * t0) k ∧ tm (A * S) sqR f (A * t0) k ≤ A * tm S sq f t0 k + 5 * A
  | 0 => ⟨Nat.le_refl _, Nat.le_add_right _ _⟩
  | k + 1 => by
    obtain ⟨h3, h4⟩ := tm_near hS hA hsq h1 h2 hf ht k
    have hd := d_ge hf k
    have hle := tm_le (t0 := t0) (by omega) hsq hf k
    have hP : tm S sq f t0 (k + 1) = tm S sq f t0 k * sq / S / ((f + 2 * k) * (f + 2 * k + 1)) := rfl
    have hQ : tm (A * S) sqR f (A * t0) (k + 1) = tm (A * S) sqR f (A * t0) k * sqR / (A * S) / ((f + 2 * k) * (f + 2 * k + 1)) := rfl
    generalize tm S sq f t0 (k + 1) = P' at *
    generalize tm (A * S) sqR f (A * t0) (k + 1) = Q' at *
    generalize tm S sq f t0 k = p at *
    generalize tm (A * S) sqR f (A * t0) k = q at *
    generalize (f + 2 * k) * (f + 2 * k + 1) = d at *
    have hS0 : 0 < S := by omega
    have hd0 : 0 < d := by omega
    rw [Nat.div_div_eq_div_mul] at hP hQ
    have hSd : 0 < S * d := Nat.mul_pos hS0 hd0
    have hASd : 0 < A * S * d := Nat.mul_pos (Nat.mul_pos hA hS0) hd0
    constructor
    · rw [hQ, Nat.le_div_iff_mul_le hASd, hP]
      have e1 : p * sq / (S * d) * (S * d) ≤ p * sq := Nat.div_mul_le_self _ _
      have e2 : A * (p * sq / (S * d)) * (A * S * d) = A * A * (p * sq / (S * d) * (S * d)) := by
        simp only [Nat.mul_assoc, Nat.mul_left_comm, Nat.mul_comm]
      have e3 : A * A * (p * sq) = (A * p) * (A * sq) := by simp only [Nat.mul_assoc, Nat.mul_left_comm, Nat.mul_comm]
      rw [e2]
      calc A * A * (p * sq / (S * d) * (S * d)) ≤ A * A * (p * sq) := Nat.mul_le_mul_left _ e1
        _ = (A * p) * (A * sq) := e3
        _ ≤ q * sqR := Nat.mul_le_mul h3 h1
    · rw [hQ]
      apply Nat.div_le_of_le_mul
      have e1 : p * sq < S * d * (P' + 1) := by
        have := Nat.lt_div_mul_add hSd (a := p * sq)
        rw [← hP] at this
        rw [Nat.mul_add, Nat.mul_one, Nat.mul_comm (S * d)]; exact this
      have e2 : q * sqR ≤ (A * p + 5 * A) * (A * sq + A) := Nat.mul_le_mul h4 h2
      have e3 : (A * p + 5 * A) * (A * sq + A) = A * A * ((p + 5) * (sq + 1)) := by
        rw [show A * p + 5 * A = A * (p + 5) by rw [Nat.mul_add, Nat.mul_comm A 5], show A * sq + A = A * (sq + 1) by rw [Nat.mul_add, Nat.mul_one]]
        simp only [Nat.mul_assoc, Nat.mul_left_comm]
      have e4 : A * S * d * (A * P' + 5 * A) = A * A * (S * d * (P' + 5)) := by
        rw [show A * P' + 5 * A = A * (P' + 5) by rw [Nat.mul_add, Nat.mul_comm A 5]]
        simp only [Nat.mul_assoc, Nat.mul_left_comm]
      rw [e4]
      refine Nat.le_trans e2 ?_
      rw [e3]
      apply Nat.mul_le_mul_left
      have e5 : (p + 5) * (sq + 1) = p * sq + p + 5 * sq + 5 := by rw [Nat.add_mul, Nat.mul_add, Nat.mul_add]; omega
      have e6 : S * d * (P' + 5) = S * d * (P' + 1) + 4 * (S * d) := by rw [Nat.mul_add, Nat.mul_add]; omega
      have e7 : S * 2 ≤ S * d := Nat.mul_le_mul_left _ hd
      rw [e5, e6]; omega
/-- the product of all divisors so far -/
def fct (f : Nat) : Nat → Nat
  | 0 => 1
  | k + 1 => fct f k * ((f + 2 * k) * (f + 2 * k + 1))
theorem tm_fct {S sq f t0 : Nat} (hS : 0 < S) (hsq : sq ≤ S) : ∀ k, tm S sq f t0 k * fct f k ≤ t0
  | 0 => by simp [tm, fct]
  | k + 1 => by
    have ih := tm_fct (f := f) (t0 := t0) hS hsq k
    have h1 : tm S sq f t0 k * sq / S ≤ tm S sq f t0 k := by
      apply Nat.div_le_of_le_mul
      rw [Nat.mul_comm S]
      exact Nat.mul_le_mul_left _ hsq
    have h2 : tm S sq f t0 (k + 1) * ((f + 2 * k) * (f + 2 * k + 1)) ≤ tm S sq f t0 k * sq / S := Nat.div_mul_le_self _ _
    have e : tm S sq f t0 (k + 1) * fct f (k + 1) = tm S sq f t0 (k + 1) * ((f + 2 * k) * (f + 2 * k + 1)) * fct f k := by
      show tm S sq f t0 (k + 1) * (fct f k * ((f + 2 * k) * (f + 2 * k + 1))) = _
      rw [Nat.mul_assoc (tm S sq f t0 (k + 1)), Nat.mul_comm (fct f k)]
    rw [e]
    exact Nat.le_trans (Nat.mul_le_mul_right _ (Nat.le_trans h2 h1)) ih
theorem tm_gone {S sq f t0 : Nat} (hS : 0 < S) (hsq : sq ≤ S) (ht : t0 ≤ S) {k : Nat} (h : S < fct f k) : tm S sq f t0 k = 0 := by
  apply Nat.eq_zero_of_not_pos
  intro h0
  have h1 := tm_fct (f := f) (t0 := t0) hS hsq k
  have h2 : 1 * fct f k ≤ tm S sq f t0 k * fct f k := Nat.mul_le_mul_right _ h0
  omega
/-- the tail -/
theorem tail_le (s : Nat → Nat) (h : ∀ k, 2 * s (k + 1) ≤ s k) (m : Nat) : ∀ j, ev s (m + j) + od s (m + j) + 2 * s (m + j) ≤ ev s m + od s m + 2 * s m ∧ ev s m ≤ ev s (m + j) ∧ od s m ≤ od s (m + j)
  | 0 => ⟨Nat.le_refl _, Nat.le_refl _, Nat.le_refl _⟩
  | j + 1 => by
    obtain ⟨h1, h2, h3⟩ := tail_le s h m j
    have h4 := h (m + j)
    show ev s (m + j) + (if (m + j) % 2 = 0 then s (m + j) else 0) + (od s (m + j) + (if (m + j) % 2 = 0 then 0 else s (m + j))) + 2 * s (m + j + 1) ≤ _ ∧ _ ≤ ev s (m + j) + (if (m + j) % 2 = 0 then s (m + j) else 0) ∧ _ ≤ od s (m + j) + (if (m + j) % 2 = 0 then 0 else s (m + j))
    split <;> refine ⟨by omega, by omega, by omega⟩
/-- THE TWO SUMS: within 512 units -/
theorem sums_near {S A sq sqR f t0 : Nat} (hS : 8 ≤ S) (hA : 0 < A) (hsq : sq ≤ S) (hsqR : sqR ≤ A * S) (h1 : A * sq ≤ sqR) (h2 : sqR ≤ A * sq + A) (hf : 1 ≤ f) (ht : t0 ≤ S) (hfct : S < fct f 80) :
    A * (ev (tm S sq f t0) 80 - od (tm S sq f t0) 80) ≤ ev (tm (A * S) sqR f (A * t0)) 100 - od (tm (A * S) sqR f (A * t0)) 100 + 512 * A ∧
    ev (tm (A * S) sqR f (A * t0)) 100 - od (tm (A * S) sqR f (A * t0)) 100 ≤ A * (ev (tm S sq f t0) 80 - od (tm S sq f t0) 80) + 512 * A := by
  have hS0 : 0 < S := by omega
  have hAS : 0 < A * S := Nat.mul_pos hA hS0
  have hp := tm_half (t0 := t0) hS0 hsq hf
  have hq := tm_half (t0 := A * t0) hAS hsqR hf
  have hn := tm_near hS hA hsq h1 h2 hf ht
  obtain ⟨⟨e1, e2⟩, e3, e4⟩ := ev_near _ _ A (5 * A) hn 80
  have h80 := (hn 80).2
  rw [tm_gone hS0 hsq ht hfct] at h80
  obtain ⟨t1, t2, t3⟩ := tail_le _ hq 80 20
  have o1 := od_le _ hp 80
  have o2 := od_le _ hq 100
  rw [show 80 + 20 = 100 from rfl] at t1 t2 t3
  generalize ev (tm S sq f t0) 80 = a at *
  generalize od (tm S sq f t0) 80 = b at *
  generalize tm (A * S) sqR f (A * t0) 80 = z at *
  generalize tm (A * S) sqR f (A * t0) 100 = z2 at *
  generalize ev (tm (A * S) sqR f (A * t0)) 80 = c at *
  generalize od (tm (A * S) sqR f (A * t0)) 80 = d at *
  generalize ev (tm (A * S) sqR f (A * t0)) 100 = c' at *
  generalize od (tm (A * S) sqR f (A * t0)) 100 = d' at *
  obtain ⟨u, rfl⟩ : ∃ u, a = b + u := ⟨a - b, by omega⟩
  rw [Nat.mul_add] at *
  rw [Nat.add_sub_cancel_left]
  omega
end Go.Proofs.Ytoconobigciggaa.Sinp

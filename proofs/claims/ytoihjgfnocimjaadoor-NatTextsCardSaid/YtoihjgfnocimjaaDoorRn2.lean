/- PLAIN FACTS on the reference's numbers of chapter 2 (parts of 16 bits): From, Add, Sub, Mul, Shr. No statement is proved here. -/
import Derived.Test.YtoihjgfnocimjaaDoorRn1
namespace Go.Proofs.YtoihjgfnocimjaaDoor.Rn
open Go Go.RowKit Go.Proofs.YtoihjgfnocimjaaDoor.Eng Go.Proofs.YtoihjgfnocimjaaDoor.Fns Go.Proofs.YtoihjgfnocimjaaDoor.Bw Go.Proofs.YtoihjgfnocimjaaDoor.Dig
set_option linter.unusedVariables false
set_option linter.unusedSimpArgs false
abbrev Y (n : Nat) : List Int := D 4294967296 n
theorem b32 : (1 : Nat) < 4294967296 := by decide
theorem pow32 (i : Nat) : 4294967296 ^ i = 65536 ^ (2 * i) := by rw [Nat.pow_mul]
theorem p16 (i : Nat) : 0 < 65536 ^ i := Nat.pow_pos (by decide)
theorem from_loop (N k n : Nat) (hN : 2 * k < N) (hk : 2 * k < 17592186044416) : ∀ (r i f : Nat), i + r = k → r < f →
    l16_0 N f (T 4294967296 k n) (i : Int) (T 65536 (2 * i) n) = some (X (n % 65536 ^ (2 * k))) := by
  intro r
  induction r with
  | zero =>
    intro i f hi hf
    obtain ⟨f, rfl⟩ : ∃ n', f = n' + 1 := ⟨f - 1, by omega⟩
    show s16_0 N _ _ _ _ = _
    unfold s16_0
    rw [T_len, ltI_f (by omega), cond_false, trim_eq N _ _ (by omega) (by omega), Option.bind_some, show i = k by omega]
  | succ r ih =>
    intro i f hi hf
    obtain ⟨f, rfl⟩ : ∃ n', f = n' + 1 := ⟨f - 1, by omega⟩
    show s16_0 N (l16_0 N f) _ _ _ = _
    unfold s16_0
    rw [T_len, ltI_t (by omega), cond_true, leI_t (by omega), cond_true, cond_true, cond_true, cond_true, T_len, fit_t (by simp; omega), cond_true, succI i (by omega), lrd_T (by omega), pow32]
    have e1 : remI .u32 ((n / 65536 ^ (2 * i) % 4294967296 : Nat) : Int) 65536 = ((n / 65536 ^ (2 * i) % 65536 : Nat) : Int) := by
      rw [show remI .u32 ((n / 65536 ^ (2 * i) % 4294967296 : Nat) : Int) 65536 = ((n / 65536 ^ (2 * i) % 4294967296 % 65536 : Nat) : Int) from rfl]
      congr 1; omega
    have e2 : quoI .u32 ((n / 65536 ^ (2 * i) % 4294967296 : Nat) : Int) 65536 = ((n / 65536 ^ (2 * i + 1) % 65536 : Nat) : Int) := by
      have : quoI .u32 ((n / 65536 ^ (2 * i) % 4294967296 : Nat) : Int) 65536 = ((n / 65536 ^ (2 * i) % 4294967296 / 65536 : Nat) : Int) := quoN (by simp only [lim]; omega)
      rw [this, Nat.pow_succ, ← Nat.div_div_eq_div_mul]
      congr 1; omega
    have e3 : T 65536 (2 * i) n ++ [((n / 65536 ^ (2 * i) % 65536 : Nat) : Int), ((n / 65536 ^ (2 * i + 1) % 65536 : Nat) : Int)] = T 65536 (2 * (i + 1)) n := by
      rw [show 2 * (i + 1) = 2 * i + 1 + 1 by omega, T_succ, T_succ, List.append_assoc]; rfl
    rw [e1, e2, e3]
    exact ih (i + 1) f (by omega) (by omega)
theorem from_eq (N k n : Nat) (hN : 2 * k < N) (hk : 2 * k < 17592186044416) : fn_tillerref02_From N (T 4294967296 k n) = some (X (n % 65536 ^ (2 * k))) :=
  from_loop N k n hN hk k 0 N (by omega) (by omega)
theorem from_Y (N n : Nat) (hN : 2 * dl 4294967296 n < N) (hk : 2 * dl 4294967296 n < 17592186044416) : fn_tillerref02_From N (Y n) = some (X n) := by
  have h := from_eq N (dl 4294967296 n) n hN hk
  rw [← pow32, Nat.mod_eq_of_lt (dl_lt b32 n)] at h
  exact h

/-! ### sums -/
def car (m n i : Nat) : Nat := (m % 65536 ^ i + n % 65536 ^ i) / 65536 ^ i
theorem car_lt (m n i : Nat) : car m n i < 2 := by
  unfold car
  have h1 := Nat.mod_lt m (p16 i)
  have h2 := Nat.mod_lt n (p16 i)
  rw [Nat.div_lt_iff_lt_mul (p16 i)]; omega
theorem sum_div (m n i : Nat) : (m + n) / 65536 ^ i = m / 65536 ^ i + n / 65536 ^ i + car m n i := by
  have h1 := Nat.div_add_mod m (65536 ^ i)
  have h2 := Nat.div_add_mod n (65536 ^ i)
  have e : m + n = (m % 65536 ^ i + n % 65536 ^ i) + 65536 ^ i * (m / 65536 ^ i + n / 65536 ^ i) := by rw [Nat.mul_add]; omega
  unfold car
  conv => lhs; rw [e]
  rw [Nat.add_mul_div_left _ _ (p16 i)]; omega
theorem car_succ (m n i : Nat) : car m n (i + 1) = (car m n i + m / 65536 ^ i % 65536 + n / 65536 ^ i % 65536) / 65536 := by
  have h := sum_div m n i
  have h' := sum_div m n (i + 1)
  rw [Nat.pow_succ, ← Nat.div_div_eq_div_mul, ← Nat.div_div_eq_div_mul, ← Nat.div_div_eq_div_mul, h] at h'
  omega
theorem add_step (N m n i : Nat) (hi : i < 4611686018427387904) : addI .u32 (addI .u32 (car m n i : Int) ((m / 65536 ^ i % 65536 : Nat) : Int)) ((n / 65536 ^ i % 65536 : Nat) : Int) = ((car m n i + m / 65536 ^ i % 65536 + n / 65536 ^ i % 65536 : Nat) : Int) := by
  have := car_lt m n i
  rw [addN (by simp only [lim]; omega), addN (by simp only [lim]; omega)]
theorem add_digit (m n i : Nat) : T 65536 i (m + n) ++ [remI .u32 ((car m n i + m / 65536 ^ i % 65536 + n / 65536 ^ i % 65536 : Nat) : Int) 65536] = T 65536 (i + 1) (m + n) := by
  rw [T_succ, sum_div]
  congr 2
  show (((car m n i + m / 65536 ^ i % 65536 + n / 65536 ^ i % 65536) % 65536 : Nat) : Int) = _
  congr 1; omega
theorem add_quo (m n i : Nat) : quoI .u32 ((car m n i + m / 65536 ^ i % 65536 + n / 65536 ^ i % 65536 : Nat) : Int) 65536 = (car m n (i + 1) : Int) := by
  have := car_lt m n i
  have h : quoI .u32 ((car m n i + m / 65536 ^ i % 65536 + n / 65536 ^ i % 65536 : Nat) : Int) 65536 = (((car m n i + m / 65536 ^ i % 65536 + n / 65536 ^ i % 65536) / 65536 : Nat) : Int) := quoN (by simp only [lim]; omega)
  rw [h, car_succ]
theorem add_loop (N m n : Nat) (hN : max (dl 65536 m) (dl 65536 n) + 2 < N) (hN2 : N < 17592186044416) : ∀ (r i f : Nat), i + r = max (dl 65536 m) (dl 65536 n) + 1 → r < f →
    l32_0 N f (X m) (X n) (car m n i : Int) (i : Int) (T 65536 i (m + n)) = some (X (m + n)) := by
  have hm := dl_lt b16 m
  have hn := dl_lt b16 n
  generalize hL : max (dl 65536 m) (dl 65536 n) = L at *
  have hm2 : m < 65536 ^ L := Nat.lt_of_lt_of_le hm (Nat.pow_le_pow_right (by decide) (by omega))
  have hn2 : n < 65536 ^ L := Nat.lt_of_lt_of_le hn (Nat.pow_le_pow_right (by decide) (by omega))
  have fin : ∀ i, m + n < 65536 ^ i → i ≤ L + 1 → fn_tillerref02_trim N (T 65536 i (m + n)) = some (X (m + n)) := by
    intro i h hi
    rw [trim_eq N i _ (by omega) (by omega), Nat.mod_eq_of_lt h]
  intro r
  induction r with
  | zero =>
    intro i f hi hf
    obtain ⟨f, rfl⟩ : ∃ n', f = n' + 1 := ⟨f - 1, by omega⟩
    show s32_0 N _ _ _ _ _ _ = _
    unfold s32_0
    have hlt : m + n < 65536 ^ i := by rw [show i = L + 1 by omega, Nat.pow_succ]; omega
    have hc : car m n i = 0 := by
      unfold car; rw [Nat.mod_eq_of_lt (by omega), Nat.mod_eq_of_lt (by omega), Nat.div_eq_of_lt hlt]
    rw [D_len, D_len, ltI_f (by omega), cond_false, ltI_f (by omega), cond_false, hc, ltI_f (by omega), cond_false, fin i hlt (by omega), Option.bind_some]
  | succ r ih =>
    intro i f hi hf
    obtain ⟨f, rfl⟩ : ∃ n', f = n' + 1 := ⟨f - 1, by omega⟩
    show s32_0 N (l32_0 N f) _ _ _ _ _ = _
    unfold s32_0
    rw [D_len, D_len, at_eq, at_eq, T_len]
    simp only [Option.bind_some]
    rw [add_step N m n i (by omega), add_digit, add_quo, succI i (by omega), fit_t (by simp; omega), cond_true]
    have := ih (i + 1) f (by omega) (by omega)
    by_cases h1 : i < dl 65536 m
    · rw [ltI_t (by omega), cond_true]; exact this
    · rw [ltI_f (by omega), cond_false]
      by_cases h2 : i < dl 65536 n
      · rw [ltI_t (by omega), cond_true]; exact this
      · rw [ltI_f (by omega), cond_false]
        have hi2 : i = L := by omega
        by_cases hc : car m n i = 0
        · rw [hc, ltI_f (by omega), cond_false]
          have hlt : m + n < 65536 ^ i := by
            have h := sum_div m n i
            rw [hc, hi2, Nat.div_eq_of_lt hm2, Nat.div_eq_of_lt hn2] at h
            rw [hi2]
            exact (Nat.div_eq_zero_iff_lt (p16 L)).1 h
          rw [fin i hlt (by omega), Option.bind_some]
        · rw [ltI_t (by omega), cond_true]; exact this
theorem add_eq (N m n : Nat) (hN : max (dl 65536 m) (dl 65536 n) + 2 < N) (hN2 : N < 17592186044416) : fn_tillerref02_Add N (X m) (X n) = some (X (m + n)) := by
  have h := add_loop N m n hN hN2 (max (dl 65536 m) (dl 65536 n) + 1) 0 N (by omega) (by omega)
  have : car m n 0 = 0 := by unfold car; simp [Nat.mod_one]
  rw [this] at h
  exact h

/-! ### differences -/
def brw (m n i : Nat) : Nat := if m % 65536 ^ i < n % 65536 ^ i then 1 else 0
theorem brw_lt (m n i : Nat) : brw m n i < 2 := by unfold brw; split <;> omega
theorem sub_div (m n i : Nat) (h : n ≤ m) : (m - n) / 65536 ^ i + n / 65536 ^ i + brw m n i = m / 65536 ^ i := by
  have h1 := Nat.div_add_mod m (65536 ^ i)
  have h2 := Nat.div_add_mod n (65536 ^ i)
  have l1 := Nat.mod_lt m (p16 i)
  have l2 := Nat.mod_lt n (p16 i)
  have hq : n / 65536 ^ i ≤ m / 65536 ^ i := Nat.div_le_div_right h
  unfold brw
  generalize 65536 ^ i = P at *
  generalize m / P = a at *
  generalize n / P = b at *
  generalize m % P = r at *
  generalize n % P = s at *
  obtain ⟨d, rfl⟩ : ∃ d, a = b + d := ⟨a - b, by omega⟩
  rw [Nat.mul_add] at h1
  split
  · rename_i hlt
    cases d with
    | zero => rw [Nat.mul_zero] at h1; omega
    | succ d =>
      rw [Nat.mul_succ] at h1
      have : m - n = (P + r - s) + P * d := by omega
      rw [this, Nat.add_mul_div_left _ _ (by omega), Nat.div_eq_of_lt (by omega)]; omega
  · have : m - n = (r - s) + P * d := by omega
    rw [this, Nat.add_mul_div_left _ _ (by omega), Nat.div_eq_of_lt (by omega)]; omega
theorem brw_succ (m n i : Nat) : brw m n (i + 1) = 1 - (65536 + m / 65536 ^ i % 65536 - n / 65536 ^ i % 65536 - brw m n i) / 65536 := by
  have l1 := Nat.mod_lt m (p16 i)
  have l2 := Nat.mod_lt n (p16 i)
  have l3 : m / 65536 ^ i % 65536 < 65536 := Nat.mod_lt _ (by decide)
  have l4 : n / 65536 ^ i % 65536 < 65536 := Nat.mod_lt _ (by decide)
  unfold brw
  rw [Nat.pow_succ, Nat.mod_mul, Nat.mod_mul]
  generalize 65536 ^ i = P at *
  generalize m / P % 65536 = a at *
  generalize n / P % 65536 = b at *
  generalize m % P = r at *
  generalize n % P = s at *
  rcases Nat.lt_trichotomy a b with h | h | h
  · have := Nat.mul_le_mul_left P h
    rw [Nat.mul_succ] at this
    rw [if_pos (by omega)]
    split <;> omega
  · subst h
    by_cases hr : r < s
    · rw [if_pos (by omega), if_pos hr]; omega
    · rw [if_neg (by omega), if_neg hr]; omega
  · have := Nat.mul_le_mul_left P h
    rw [Nat.mul_succ] at this
    rw [if_neg (by omega)]
    split <;> omega
theorem sub_loop (N m n : Nat) (h : n ≤ m) (hN : dl 65536 m + 2 < N) (hN2 : N < 17592186044416) : ∀ (r i f : Nat), i + r = dl 65536 m → r < f →
    l33_0 N f (X m) (X n) (brw m n i : Int) (i : Int) (T 65536 i (m - n)) = some (X (m - n)) := by
  intro r
  induction r with
  | zero =>
    intro i f hi hf
    obtain ⟨f, rfl⟩ : ∃ n', f = n' + 1 := ⟨f - 1, by omega⟩
    show s33_0 N _ _ _ _ _ _ = _
    unfold s33_0
    have hm := dl_lt b16 m
    rw [D_len, ltI_f (by omega), cond_false, trim_eq N i _ (by omega) (by omega), Option.bind_some, Nat.mod_eq_of_lt (by rw [show i = dl 65536 m by omega]; omega)]
  | succ r ih =>
    intro i f hi hf
    obtain ⟨f, rfl⟩ : ∃ n', f = n' + 1 := ⟨f - 1, by omega⟩
    show s33_0 N (l33_0 N f) _ _ _ _ _ = _
    unfold s33_0
    rw [D_len, at_eq, at_eq, T_len]
    simp only [Option.bind_some]
    have hb := brw_lt m n i
    have hs := brw_succ m n i
    have hd := sub_div m n i h
    have l3 : m / 65536 ^ i % 65536 < 65536 := Nat.mod_lt _ (by decide)
    have l4 : n / 65536 ^ i % 65536 < 65536 := Nat.mod_lt _ (by decide)
    have dig : (m - n) / 65536 ^ i % 65536 = (65536 + m / 65536 ^ i % 65536 - n / 65536 ^ i % 65536 - brw m n i) % 65536 := by omega
    have e0 : addI .u32 65536 ((m / 65536 ^ i % 65536 : Nat) : Int) = ((65536 + m / 65536 ^ i % 65536 : Nat) : Int) := addN (a := 65536) (by simp only [lim]; omega)
    rw [e0, subN (by omega) (by simp only [lim]; omega), subN (by omega) (by simp only [lim]; omega), succI i (by omega), fit_t (by simp; omega), cond_true, ltI_t (by omega), cond_true]
    generalize hz : 65536 + m / 65536 ^ i % 65536 - n / 65536 ^ i % 65536 - brw m n i = z at *
    have e1 : quoI .u32 (z : Int) 65536 = ((z / 65536 : Nat) : Int) := quoN (by simp only [lim]; omega)
    have e2 : subI .u32 1 ((z / 65536 : Nat) : Int) = ((1 - z / 65536 : Nat) : Int) := subN (a := 1) (by omega) (by simp only [lim]; omega)
    have e3 : T 65536 i (m - n) ++ [remI .u32 (z : Int) 65536] = T 65536 (i + 1) (m - n) := by
      rw [T_succ, dig]; rfl
    rw [e1, e2, e3, ← hs]
    exact ih (i + 1) f (by omega) (by omega)
theorem sub_eq (N m n : Nat) (h : n ≤ m) (hN : dl 65536 m + 2 < N) (hN2 : N < 17592186044416) : fn_tillerref02_Sub N (X m) (X n) = some (X (m - n)) := by
  have h := sub_loop N m n h hN hN2 (dl 65536 m) 0 N (by omega) (by omega)
  have : brw m n 0 = 0 := by unfold brw; simp [Nat.mod_one]
  rw [this] at h
  exact h
end Go.Proofs.YtoihjgfnocimjaaDoor.Rn

/- PLAIN FACTS on chapter 1's functions: the program's square root. No statement is proved here. -/
import Derived.Test.YtpppedolgipikaaWid6
namespace Go.Proofs.Ytpppedolgipikaa.Wid
open Go Go.RowKit Go.Proofs.Ytpppedolgipikaa.Eng Go.Proofs.Ytpppedolgipikaa.Fns Go.Proofs.Ytpppedolgipikaa.Bw
set_option linter.unusedVariables false
set_option linter.unusedSimpArgs false
theorem or_word (a b j : Nat) : (a ||| b) / 2 ^ (64 * j) % 2 ^ 64 = (a / 2 ^ (64 * j) % 2 ^ 64) ||| (b / 2 ^ (64 * j) % 2 ^ 64) := by
  apply Nat.eq_of_testBit_eq
  intro i
  simp only [Nat.testBit_or, Nat.testBit_mod_two_pow, Nat.testBit_div_two_pow]
  by_cases h : i < 64 <;> simp [h]
theorem pow_word_at (n j : Nat) : 2 ^ n / 2 ^ (64 * j) % 2 ^ 64 = if j = n / 64 then 2 ^ (n % 64) else 0 := by
  by_cases h : 64 * j ≤ n
  · rw [Nat.pow_div h (by decide)]
    by_cases h2 : j = n / 64
    · rw [if_pos h2, show n - 64 * j = n % 64 by omega, Nat.mod_eq_of_lt (Nat.pow_lt_pow_right (by decide) (by omega))]
    · rw [if_neg h2]
      have e : 2 ^ (n - 64 * j) = 2 ^ 64 * 2 ^ (n - 64 * j - 64) := by rw [← Nat.pow_add]; congr 1; omega
      rw [e, Nat.mul_mod_right]
  · rw [if_neg (by omega), Nat.div_eq_of_lt (Nat.pow_lt_pow_right (by decide) (by omega))]
theorem p64 (k : Nat) (h : k < 64) : 2 ^ k < 2 ^ 64 := Nat.pow_lt_pow_right (by decide) h
/-- a bit set, above which the number is whole -/
theorem set_bit (q n : Nat) (hn : n < 256) : Vec.st (W (2 ^ (n + 1) * q)) ((n / 64 : Nat) : Int) (orI .u64 (Vec.rd (W (2 ^ (n + 1) * q)) ((n / 64 : Nat) : Int)) (shlI .u64 1 ((n % 64 : Nat) : Int))) = W (2 ^ (n + 1) * q + 2 ^ n) := by
  have e1 : shlI .u64 1 ((n % 64 : Nat) : Int) = ((2 ^ (n % 64) : Nat) : Int) := by
    rw [show (1 : Int) = ((1 : Nat) : Int) from rfl, shlI_n (by omega), Nat.one_mul, Nat.mod_eq_of_lt (p64 (n % 64) (by omega))]
  rw [e1, rd_W (by omega), orI_n (Nat.mod_lt _ (by decide)) (p64 (n % 64) (by omega)), Nat.two_pow_add_eq_or_of_lt (Nat.pow_lt_pow_right (by decide) (by omega))]
  unfold W
  rw [st_tab (by omega)]
  apply tab_congr
  intro j hj
  rw [or_word, pow_word_at]
  by_cases h : j = n / 64
  · rw [if_pos h, if_pos h, h]
  · rw [if_neg h, if_neg h, Nat.or_zero]
theorem sq_add (r p : Nat) : (r + p) * (r + p) = r * r + (r * (p * 2) + p * p) := by
  rw [Nat.add_mul, Nat.mul_add, Nat.mul_add, Nat.mul_comm p r, ← Nat.mul_assoc]; omega
theorem lt_of_sq {a b : Nat} (h : a * a < b * b) : a < b := by
  apply Nat.lt_of_not_le
  intro h2
  exact absurd (Nat.mul_le_mul h2 h2) (by omega)
theorem sqrt_loop (N : Nat) (hN : 300 ≤ N) (x : Nat) (hx : x < 2 ^ 256) (v w : Vec 4) : ∀ n f : Nat, n ≤ 128 → n < f → ∀ q, 2 ^ n * q * (2 ^ n * q) ≤ x → x < (2 ^ n * q + 2 ^ n) * (2 ^ n * q + 2 ^ n) →
    ∃ r, r * r ≤ x ∧ x < (r + 1) * (r + 1) ∧ l11_0 N f ((n : Int) - 1) v w (W (2 ^ n * q)) (W (x - 2 ^ n * q * (2 ^ n * q))) = some (W r, W (x - r * r)) := by
  intro n
  induction n with
  | zero =>
    intro f _ hf q h1 h2
    obtain ⟨f, rfl⟩ : ∃ n', f = n' + 1 := ⟨f - 1, by omega⟩
    refine ⟨2 ^ 0 * q, h1, h2, ?_⟩
    show s11_0 N _ _ _ _ _ _ = _
    unfold s11_0
    rw [leI_f (by omega), cond_false]
  | succ n ih =>
    intro f hn hf q h1 h2
    obtain ⟨f, rfl⟩ : ∃ n', f = n' + 1 := ⟨f - 1, by omega⟩
    have e0 : ((n + 1 : Nat) : Int) - 1 = (n : Int) := by omega
    rw [e0]
    generalize hr : 2 ^ (n + 1) * q = r at *
    have hrl : r < 2 ^ 128 := lt_of_sq (Nat.lt_of_le_of_lt h1 (Nat.lt_of_lt_of_eq hx (by rw [← Nat.pow_add])))
    have hq : q < 2 ^ (127 - n) := by
      apply Nat.lt_of_not_le
      intro h
      have h3 : 2 ^ (n + 1) * 2 ^ (127 - n) ≤ 2 ^ (n + 1) * q := Nat.mul_le_mul_left _ h
      rw [← Nat.pow_add, show n + 1 + (127 - n) = 128 by omega, hr] at h3
      omega
    have hmore : r * 2 ^ (n + 1) + 2 ^ n * 2 ^ n < 2 ^ 256 := by
      have h3 : (q + 1) * (2 ^ (n + 1) * 2 ^ (n + 1)) ≤ 2 ^ (127 - n) * (2 ^ (n + 1) * 2 ^ (n + 1)) := Nat.mul_le_mul_right _ hq
      have h4 : 2 ^ (127 - n) * (2 ^ (n + 1) * 2 ^ (n + 1)) ≤ 2 ^ 256 := by
        rw [← Nat.pow_add, ← Nat.pow_add]
        exact Nat.pow_le_pow_right (by decide) (by omega)
      rw [Nat.add_mul, Nat.one_mul] at h3
      have h5 : r * 2 ^ (n + 1) = q * (2 ^ (n + 1) * 2 ^ (n + 1)) := by rw [← hr, Nat.mul_comm (2 ^ (n + 1)) q, Nat.mul_assoc]
      have h6 : 2 ^ n * 2 ^ n < 2 ^ (n + 1) * 2 ^ (n + 1) := by
        have := pow_pos' n
        rw [Nat.pow_succ]
        have h7 : 2 ^ n * 2 ^ n < 2 ^ n * 2 * (2 ^ n) := Nat.mul_lt_mul_of_pos_right (by omega) this
        have h8 : 2 ^ n * 2 * 2 ^ n ≤ 2 ^ n * 2 * (2 ^ n * 2) := Nat.mul_le_mul_left _ (by omega)
        omega
      rw [h5]; omega
    have hsq : (r + 2 ^ n) * (r + 2 ^ n) = r * r + (r * 2 ^ (n + 1) + 2 ^ n * 2 ^ n) := by rw [sq_add, Nat.pow_succ]
    have z1 : shlZ r ((n + 1 : Nat) : Int) = r * 2 ^ (n + 1) := by unfold shlZ; rw [if_neg (by omega), if_neg (by omega), Int.toNat_natCast, Nat.mod_eq_of_lt (by omega)]
    have z2 : shlZ 1 ((2 * n : Nat) : Int) = 2 ^ n * 2 ^ n := by
      rw [← Nat.pow_add, ← Nat.two_mul]
      unfold shlZ
      by_cases h3 : n = 0
      · subst h3; rfl
      · rw [if_neg (by omega), if_neg (by omega), Int.toNat_natCast, Nat.one_mul, Nat.mod_eq_of_lt (Nat.pow_lt_pow_right (by decide) (by omega))]
    have e1 : addI .i64 (n : Int) 1 = ((n + 1 : Nat) : Int) := by rw [addI_i (by omega) (by omega)]; omega
    have e2 : mulI .i64 2 (n : Int) = ((2 * n : Nat) : Int) := by rw [mulI_i (by omega) (by omega)]; omega
    have e3 : subI .i64 (n : Int) 1 = (n : Int) - 1 := subI_i (by omega) (by omega)
    have e4 : quoI .i64 (n : Int) 64 = ((n / 64 : Nat) : Int) := by rw [show (64 : Int) = ((64 : Nat) : Int) from rfl, quoI_i (by omega)]
    have e5 : remI .i64 (n : Int) 64 = ((n % 64 : Nat) : Int) := by rw [show (64 : Int) = ((64 : Nat) : Int) from rfl, remI_n]
    have e6 : fn_wide_Of N 1 = some (W 1) := of_small N 1 (by decide)
    have hmx : x - r * r < 2 ^ 256 := by omega
    have step : l11_0 N (f + 1) (n : Int) v w (W r) (W (x - r * r)) = s11_0 N (l11_0 N f) (n : Int) v w (W r) (W (x - r * r)) := rfl
    rw [step]
    unfold s11_0
    rw [leI_t (by omega), cond_true, e1, e2, e3, e4, e5, e6, shl_eq N hN, Option.bind_some, Option.bind_some, shl_eq N hN, Option.bind_some, z1, z2, add_eq N hN _ _ (by omega) (by omega), Option.bind_some, Nat.mod_eq_of_lt hmore, sub_eq N hN _ _ hmx hmore, Option.bind_some]
    simp only
    by_cases hb : x - r * r < r * 2 ^ (n + 1) + 2 ^ n * 2 ^ n
    · rw [decide_eq_true hb, Bool.not_true, cond_false]
      have hq1 : 2 ^ n * (2 * q) = r := by rw [← Nat.mul_assoc, ← Nat.pow_succ, hr]
      have := ih f (by omega) (by omega) (2 * q) (by rw [hq1]; exact h1) (by rw [hq1, hsq]; omega)
      rw [hq1] at this
      exact this
    · rw [decide_eq_false hb, Bool.not_false, cond_true, leI_t (by omega), cond_true, ltI_t (by omega), cond_true, ltI_f (by omega), cond_false, cond_true, cond_true]
      have hs := set_bit q n (by omega)
      rw [hr] at hs
      rw [hs]
      have hq2 : 2 ^ n * (2 * q + 1) = r + 2 ^ n := by rw [Nat.mul_add, Nat.mul_one, ← Nat.mul_assoc, ← Nat.pow_succ, hr]
      have := ih f (by omega) (by omega) (2 * q + 1) (by rw [hq2, hsq]; omega) (by
        rw [hq2, show r + 2 ^ n + 2 ^ n = r + 2 ^ (n + 1) by rw [Nat.pow_succ]; omega]; exact h2)
      rw [hq2, hsq] at this
      have em : (2 ^ 256 + (x - r * r) - (r * 2 ^ (n + 1) + 2 ^ n * 2 ^ n)) % 2 ^ 256 = x - (r * r + (r * 2 ^ (n + 1) + 2 ^ n * 2 ^ n)) := by omega
      rw [em]
      exact this
theorem sqrt_eq (N : Nat) (hN : 300 ≤ N) (x : Nat) (hx : x < 2 ^ 256) : ∃ r, r * r ≤ x ∧ x < (r + 1) * (r + 1) ∧ fn_wide_Sqrt N (W x) = some (W r, W (x - r * r)) := by
  unfold fn_wide_Sqrt t11
  rw [len_eq N hN x hx, Option.bind_some]
  obtain ⟨l1, _⟩ := lenN_spec x
  have l3 := lenN_le hx
  obtain ⟨n, hn, en, hxn⟩ : ∃ n : Nat, n < 128 ∧ quoI .i64 (subI .i64 (lenN x : Int) 1) 2 = (n : Int) ∧ x < 2 ^ (n + 1) * 2 ^ (n + 1) := by
    by_cases h : lenN x = 0
    · refine ⟨0, by omega, by rw [h]; rfl, ?_⟩
      rw [h] at l1
      have : x = 0 := by simpa using l1
      rw [this]; decide
    · refine ⟨(lenN x - 1) / 2, by omega, ?_, ?_⟩
      · have e : subI .i64 (lenN x : Int) 1 = ((lenN x - 1 : Nat) : Int) := by rw [subI_i (by omega) (by omega)]; omega
        rw [e, show (2 : Int) = ((2 : Nat) : Int) from rfl, quoI_i (by omega)]
      · rw [← Nat.pow_add]
        exact Nat.lt_of_lt_of_le l1 (Nat.pow_le_pow_right (by decide) (by omega))
  rw [en]
  have h := sqrt_loop N hN x hx (Vec.zero 4) (Vec.zero 4) (n + 1) N (by omega) (by omega) 0 (by simp) (by simpa using hxn)
  rw [show ((n + 1 : Nat) : Int) - 1 = (n : Int) by omega, Nat.mul_zero, Nat.mul_zero, Nat.sub_zero] at h
  rw [W_zero] at h ⊢
  exact h
end Go.Proofs.Ytpppedolgipikaa.Wid

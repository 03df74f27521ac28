/- PLAIN FACTS on chapter 1's functions: the program's quotient and rest. No statement is proved here. -/
import Derived.Test.YtopcajgknbmbcaaGreatDoorWide
namespace Go.Proofs.YtopcajgknbmbcaaGreatDoor.Wid
open Go Go.RowKit Go.Proofs.YtopcajgknbmbcaaGreatDoor.Eng Go.Proofs.YtopcajgknbmbcaaGreatDoor.Fns Go.Proofs.YtopcajgknbmbcaaGreatDoor.Bw
set_option linter.unusedVariables false
set_option linter.unusedSimpArgs false
theorem div_loop (N : Nat) (hN : 300 ≤ N) (x y : Nat) (hx : x < 2 ^ 256) (hy : 0 < y) (v3 v4 : Vec 4) : ∀ n f : Nat, n ≤ 256 → n < f → y * 2 ^ n ≤ 2 ^ 257 → (n = 0 ∨ y * 2 ^ (n - 1) < 2 ^ 256) → ∀ q, 2 ^ n * q * y ≤ x → x < (2 ^ n * q + 2 ^ n) * y →
    l26_0 N f ((n : Int) - 1) (W (x - 2 ^ n * q * y)) (W y) v3 v4 (W (2 ^ n * q)) = some (W (x / y), W (x % y), none) := by
  intro n
  induction n with
  | zero =>
    intro f _ hf _ _ q h1 h2
    obtain ⟨f, rfl⟩ : ∃ n', f = n' + 1 := ⟨f - 1, by omega⟩
    show s26_0 N _ _ _ _ _ _ _ = _
    unfold s26_0
    rw [leI_f (by omega), cond_false]
    rw [Nat.pow_zero, Nat.one_mul] at *
    have hq : x / y = q := by
      rw [Nat.add_mul, Nat.one_mul] at h2
      rw [Nat.div_eq_iff hy]
      constructor
      · exact h1
      · omega
    have hr : x % y = x - q * y := by
      have := Nat.div_add_mod x y
      rw [hq, Nat.mul_comm] at this; omega
    rw [hq, hr]
  | succ n ih =>
    intro f hn hf hyn hyb q h1 h2
    obtain ⟨f, rfl⟩ : ∃ n', f = n' + 1 := ⟨f - 1, by omega⟩
    have e0 : ((n + 1 : Nat) : Int) - 1 = (n : Int) := by omega
    rw [e0]
    show s26_0 N (l26_0 N f) _ _ _ _ _ _ = _
    unfold s26_0
    have hyb : y * 2 ^ n < 2 ^ 256 := by
      rcases hyb with h | h
      · omega
      · rwa [Nat.add_sub_cancel] at h
    have hq1 : 2 ^ (n + 1) * q = 2 ^ n * (2 * q) := by rw [Nat.pow_succ, Nat.mul_assoc]
    have hqs : 2 ^ n * (2 * q + 1) = 2 ^ (n + 1) * q + 2 ^ n := by rw [hq1, Nat.mul_add, Nat.mul_one]
    have hy2 : y * 2 ^ n = 2 ^ n * y := Nat.mul_comm ..
    have hqlt : 2 ^ (n + 1) * q < 2 ^ 256 := by
      have : 2 ^ (n + 1) * q * 1 ≤ 2 ^ (n + 1) * q * y := Nat.mul_le_mul_left _ hy
      omega
    have hset := set_bit q n (by omega)
    have ih' := fun q => ih f (by omega) (by omega) (by rw [Nat.pow_succ, ← Nat.mul_assoc] at hyn; omega) (by
      rcases Nat.eq_zero_or_pos n with h | h
      · exact .inl h
      · right
        have : y * 2 ^ (n - 1) * 2 = y * 2 ^ n := by rw [Nat.mul_assoc, ← Nat.pow_succ, show (n - 1).succ = n by omega]
        omega) q
    have z1 : shlZ y (n : Int) = y * 2 ^ n := by
      unfold shlZ
      by_cases h : (n : Int) < 1
      · have : n = 0 := by omega
        subst this; rw [if_pos h]; simp
      · rw [if_neg h, if_neg (by omega), Int.toNat_natCast, Nat.mod_eq_of_lt hyb]
    have e3 : subI .i64 (n : Int) 1 = (n : Int) - 1 := subI_i (by omega) (by omega)
    have e4 : quoI .i64 (n : Int) 64 = ((n / 64 : Nat) : Int) := by rw [show (64 : Int) = ((64 : Nat) : Int) from rfl, quoI_i (by omega)]
    have e5 : remI .i64 (n : Int) 64 = ((n % 64 : Nat) : Int) := by rw [show (64 : Int) = ((64 : Nat) : Int) from rfl, remI_n]
    have hxs : x - 2 ^ (n + 1) * q * y < 2 ^ 256 := by omega
    rw [leI_t (by omega), cond_true, shl_eq N hN, Option.bind_some, z1, sub_eq N hN _ _ hxs hyb, Option.bind_some, e3, e4, e5]
    simp only
    have hadd : (2 ^ (n + 1) * q + 2 ^ n) * y = 2 ^ (n + 1) * q * y + y * 2 ^ n := by rw [Nat.add_mul, hy2]
    have hsum : (2 ^ (n + 1) * q + 2 ^ (n + 1)) * y = 2 ^ (n + 1) * q * y + y * 2 ^ n + y * 2 ^ n := by
      rw [Nat.add_mul, Nat.pow_succ, Nat.mul_comm (2 ^ n * 2) y, ← Nat.mul_assoc]; omega
    by_cases hb : x - 2 ^ (n + 1) * q * y < y * 2 ^ n
    · rw [decide_eq_true hb, Bool.not_true, cond_false]
      have := ih' (2 * q) (by rw [← hq1]; exact h1) (by rw [← hq1, hadd]; omega)
      rw [← hq1] at this
      exact this
    · rw [decide_eq_false hb, Bool.not_false, cond_true, leI_t (by omega), cond_true, ltI_t (by omega), cond_true, ltI_f (by omega), cond_false, cond_true, cond_true, hset]
      have := ih' (2 * q + 1) (by rw [hqs, hadd]; omega) (by
        rw [hqs, show 2 ^ (n + 1) * q + 2 ^ n + 2 ^ n = 2 ^ (n + 1) * q + 2 ^ (n + 1) by rw [Nat.pow_succ]; omega]; exact h2)
      rw [hqs, hadd] at this
      have em : (2 ^ 256 + (x - 2 ^ (n + 1) * q * y) - y * 2 ^ n) % 2 ^ 256 = x - (2 ^ (n + 1) * q * y + y * 2 ^ n) := by omega
      rw [em]
      exact this
theorem divmod_eq (N : Nat) (hN : 300 ≤ N) (x y : Nat) (hx : x < 2 ^ 256) (hy : y < 2 ^ 256) (h0 : 0 < y) : fn_wide_DivMod N (W x) (W y) = some (W (x / y), W (x % y), none) := by
  unfold fn_wide_DivMod t26
  have hz : eqL (W y).1 (Vec.zero 4).1 = false := by rw [W_zero, W_eq hy (by decide)]; simp; omega
  rw [hz, cond_false, len_eq N hN x hx, Option.bind_some, len_eq N hN y hy, Option.bind_some, W_zero]
  obtain ⟨a1, a2⟩ := lenN_spec x
  obtain ⟨c1, c2⟩ := lenN_spec y
  have ax := lenN_le hx
  have ay := lenN_le hy
  have hly : lenN y ≠ 0 := by intro h; rw [h] at c1; omega
  have c2 := c2.resolve_left hly
  by_cases h : lenN x < lenN y
  · have e : subI .i64 (lenN x : Int) (lenN y : Int) = (lenN x : Int) - (lenN y : Int) := subI_i (by omega) (by omega)
    have hlt : x < y := Nat.lt_of_lt_of_le (Nat.lt_of_lt_of_le a1 (Nat.pow_le_pow_right (by decide) (by omega))) c2
    rw [e, Nat.div_eq_of_lt hlt, Nat.mod_eq_of_lt hlt]
    obtain ⟨M, rfl⟩ : ∃ M, N = M + 1 := ⟨N - 1, by omega⟩
    show s26_0 (M + 1) _ _ _ _ _ _ _ = _
    unfold s26_0
    rw [leI_f (by omega), cond_false]
  · obtain ⟨k, hk⟩ : ∃ k, lenN x = lenN y + k := ⟨lenN x - lenN y, by omega⟩
    have e : subI .i64 (lenN x : Int) (lenN y : Int) = ((k + 1 : Nat) : Int) - 1 := by rw [subI_i (by omega) (by omega)]; omega
    have hyk : y * 2 ^ k < 2 ^ 256 := by
      calc y * 2 ^ k < 2 ^ lenN y * 2 ^ k := Nat.mul_lt_mul_of_pos_right c1 (Nat.pow_pos (by decide))
        _ = 2 ^ (lenN y + k) := (Nat.pow_add ..).symm
        _ ≤ 2 ^ 256 := Nat.pow_le_pow_right (by decide) (by omega)
    have hxk : x < y * 2 ^ (k + 1) := by
      calc x < 2 ^ lenN x := a1
        _ = 2 ^ (lenN y - 1) * 2 ^ (k + 1) := by rw [← Nat.pow_add]; congr 1; omega
        _ ≤ y * 2 ^ (k + 1) := Nat.mul_le_mul_right _ c2
    have h2 := div_loop N hN x y hx h0 (W 0) (W 0) (k + 1) N (by omega) (by omega) (by rw [Nat.pow_succ, ← Nat.mul_assoc]; omega) (.inr (by rw [Nat.add_sub_cancel]; exact hyk)) 0 (by simp) (by rw [Nat.mul_zero, Nat.zero_add, Nat.mul_comm]; exact hxk)
    rw [Nat.mul_zero, Nat.zero_mul, Nat.sub_zero] at h2
    rw [e]; exact h2
theorem divmod_zero (N : Nat) (x : Nat) : fn_wide_DivMod N (W x) (W 0) = some (W 0, W 0, some 5) := by
  unfold fn_wide_DivMod t26
  have hz : eqL (W 0).1 (Vec.zero 4).1 = true := by rw [W_zero, W_eq (by decide) (by decide)]; simp
  rw [hz, cond_true, W_zero]
end Go.Proofs.YtopcajgknbmbcaaGreatDoor.Wid

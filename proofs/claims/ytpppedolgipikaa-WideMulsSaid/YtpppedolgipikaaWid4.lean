/- PLAIN FACTS on chapter 1's functions: lengths and moves, the document's own and the program's. No statement is proved here. -/
import Derived.Test.YtpppedolgipikaaWid3
namespace Go.Proofs.Ytpppedolgipikaa.Wid
open Go Go.RowKit Go.Proofs.Ytpppedolgipikaa.Eng Go.Proofs.Ytpppedolgipikaa.Fns Go.Proofs.Ytpppedolgipikaa.Bw
set_option linter.unusedVariables false
set_option linter.unusedSimpArgs false
theorem tb (x i : Nat) : x.testBit i = decide (bitN x i = 1) := Nat.testBit_eq_decide_div_mod_eq
theorem bit_tb (x i : Nat) : bitN x i = if x.testBit i = true then 1 else 0 := by
  rw [tb]; have := bit_lt x i
  by_cases h : bitN x i = 1
  · simp [h]
  · have : bitN x i = 0 := by omega
    simp [this]
/-! ### moves up -/
theorem shl_word (x k s : Nat) (hs : s < 64) : x * 2 ^ s / 2 ^ (64 * (k + 1)) % 2 ^ 64 = (x / 2 ^ (64 * (k + 1)) % 2 ^ 64 * 2 ^ s % 2 ^ 64) ||| (x / 2 ^ (64 * k) % 2 ^ 64 / 2 ^ (64 - s)) := by
  apply Nat.eq_of_testBit_eq
  intro j
  simp only [Nat.testBit_or, Nat.testBit_mod_two_pow, Nat.testBit_div_two_pow, Nat.testBit_mul_two_pow]
  by_cases h1 : j < 64
  · by_cases h2 : s ≤ j
    · have e : j - s + 64 * (k + 1) = j + 64 * (k + 1) - s := by omega
      have h3 : ¬ (j + (64 - s) < 64) := by omega
      have h4 : s ≤ j + 64 * (k + 1) := by omega
      have h5 : j - s < 64 := by omega
      simp [h1, h2, h3, h4, h5, e]
    · have e : j + (64 - s) + 64 * k = j + 64 * (k + 1) - s := by omega
      have h3 : j + (64 - s) < 64 := by omega
      have h4 : s ≤ j + 64 * (k + 1) := by omega
      simp [h1, h2, h3, h4, e]
  · have h3 : ¬ (j + (64 - s) < 64) := by omega
    simp [h1, h3]
theorem shl_word0 (x s : Nat) : x * 2 ^ s % 2 ^ 64 = x % 2 ^ 64 * 2 ^ s % 2 ^ 64 := by rw [Nat.mod_mul_mod]
theorem shl_top (x b s k : Nat) : x * 2 ^ (64 * b + s) / 2 ^ (64 * (b + k)) = x * 2 ^ s / 2 ^ (64 * k) := by
  rw [Nat.pow_add, Nat.mul_add, Nat.pow_add, ← Nat.mul_assoc, Nat.mul_comm x, Nat.mul_assoc, Nat.mul_div_mul_left _ _ (pow_pos' _)]
theorem shl_low (x b s i : Nat) (h : i < b) : x * 2 ^ (64 * b + s) / 2 ^ (64 * i) % 2 ^ 64 = 0 := by
  obtain ⟨c, rfl⟩ : ∃ c, b = i + 1 + c := ⟨b - i - 1, by omega⟩
  have e : 2 ^ (64 * (i + 1 + c) + s) = 2 ^ (64 * i) * (2 ^ 64 * 2 ^ (64 * c + s)) := by rw [← Nat.pow_add, ← Nat.pow_add]; congr 1; omega
  rw [e, Nat.mul_left_comm, Nat.mul_div_cancel_left _ (pow_pos' _), Nat.mul_left_comm]
  exact Nat.mul_mod_right ..
theorem shl_loop (N : Nat) (x b s : Nat) (hb : b < 4) (hs : s < 64) (z : Vec 4) : ∀ k n : Nat, b + k ≤ 4 → k < n →
    l27_0 N n ((64 * b + s : Nat) : Int) (b : Int) ((b : Int) + (k : Int) - 1) (W x) z (tab 4 fun j => if b + k ≤ j then ((x * 2 ^ (64 * b + s) / 2 ^ (64 * j) % 2 ^ 64 : Nat) : Int) else 0) = some (W (x * 2 ^ (64 * b + s))) := by
  intro k
  induction k with
  | zero =>
    intro n hk hn
    obtain ⟨n, rfl⟩ : ∃ n', n = n' + 1 := ⟨n - 1, by omega⟩
    show s27_0 N _ _ _ _ _ _ _ = _
    unfold s27_0
    rw [leI_f (by omega), cond_false]
    congr 1
    apply tab_congr
    intro j hj
    split
    · rfl
    · rw [shl_low x b s j (by omega)]; rfl
  | succ k ih =>
    intro n hk hn
    obtain ⟨n, rfl⟩ : ∃ n', n = n' + 1 := ⟨n - 1, by omega⟩
    show s27_0 N (l27_0 N n) _ _ _ _ _ _ = _
    unfold s27_0
    have e0 : (b : Int) + ((k + 1 : Nat) : Int) - 1 = ((b + k : Nat) : Int) := by omega
    have e1 : subI .i64 ((b + k : Nat) : Int) (b : Int) = (k : Int) := by rw [subI_i (by omega) (by omega)]; omega
    have e2 : remI .i64 ((64 * b + s : Nat) : Int) 64 = (s : Int) := by rw [show (64 : Int) = ((64 : Nat) : Int) from rfl, remI_n]; congr 1; omega
    have e3 : subI .i64 64 (s : Int) = ((64 - s : Nat) : Int) := by rw [subI_i (by omega) (by omega)]; omega
    rw [e0, e1, e2, e3]
    rw [leI_t (show (b : Int) ≤ ((b + k : Nat) : Int) by omega), cond_true, leI_t (show (0 : Int) ≤ (k : Int) by omega), cond_true, ltI_t (show (k : Int) < 4 by omega), cond_true, ltI_f (show ¬ ((s : Int) < 0) by omega), cond_false, leI_t (show (0 : Int) ≤ ((b + k : Nat) : Int) by omega), cond_true, ltI_t (show ((b + k : Nat) : Int) < 4 by omega), cond_true]
    have e4 : subI .i64 ((b + k : Nat) : Int) 1 = (b : Int) + (k : Int) - 1 := by rw [subI_i (by omega) (by omega)]; omega
    rw [e4, rd_W (by omega), shlI_n (by omega), st_tab (by omega)]
    have hk' := ih n (by omega) (by omega)
    rcases k with _ | k
    · rw [ltI_f (by omega), cond_false]
      refine Eq.trans ?_ hk'
      congr 1
      apply tab_congr
      intro j hj
      have := shl_top x b s 0
      by_cases h1 : j = b + 0
      · rw [if_pos h1, if_pos (by omega), h1, this]
        simp only [Nat.mul_zero, Nat.pow_zero, Nat.div_one]
        rw [shl_word0 x s]
      · rw [if_neg h1]
        by_cases h2 : b + 1 ≤ j
        · rw [if_pos (by omega), if_pos (by omega)]
        · rw [if_neg (by omega), if_neg (by omega)]
    · have e5 : subI .i64 ((k + 1 : Nat) : Int) 1 = (k : Int) := by rw [subI_i (by omega) (by omega)]; omega
      rw [ltI_t (by omega), cond_true, e5, cond_true, cond_true, leI_t (by omega), cond_true, ltI_t (by omega), cond_true, ltI_f (by omega), cond_false, cond_true, cond_true]
      have hw : x / 2 ^ (64 * k) % 2 ^ 64 < 2 ^ 64 := Nat.mod_lt _ (by decide)
      rw [rd_tab (by omega), if_pos rfl, rd_W (by omega), shrI_n (k := .u64) (show 64 - s ≤ 64 by omega), orI_n (Nat.mod_lt _ (by decide)) (Nat.lt_of_le_of_lt (Nat.div_le_self ..) hw), st_tab (by omega)]
      refine Eq.trans ?_ hk'
      congr 1
      apply tab_congr
      intro j hj
      by_cases h1 : j = b + (k + 1)
      · subst h1
        rw [if_pos rfl, if_pos (by omega), shl_top x b s (k + 1), shl_word x k s hs]
      · rw [if_neg h1, if_neg h1]
        by_cases h2 : b + (k + 1 + 1) ≤ j
        · rw [if_pos (by omega), if_pos (by omega)]
        · rw [if_neg (by omega), if_neg (by omega)]
def shlZ (x : Nat) (n : Int) : Nat := if n < 1 then x else if 256 ≤ n then 0 else x * 2 ^ n.toNat % 2 ^ 256
theorem shl_eq (N : Nat) (hN : 300 ≤ N) (x : Nat) (n : Int) : fn_wide_Shl N (W x) n = some (W (shlZ x n)) := by
  unfold fn_wide_Shl t27 shlZ
  by_cases h1 : n < 1
  · rw [ltI_t h1, cond_true, if_pos h1]
  · rw [ltI_f h1, cond_false, if_neg h1]
    by_cases h2 : 256 ≤ n
    · rw [leI_t h2, cond_true, if_pos h2, W_zero]
    · rw [leI_f h2, cond_false, if_neg h2, W_mod]
      obtain ⟨m, rfl⟩ := Int.eq_ofNat_of_zero_le (show 0 ≤ n by omega)
      have h := shl_loop N x (m / 64) (m % 64) (by omega) (by omega) (Vec.zero 4) (4 - m / 64) N (by omega) (by omega)
      rw [show 64 * (m / 64) + m % 64 = m by omega] at h
      rw [Int.toNat_natCast, ← h, show (64 : Int) = ((64 : Nat) : Int) from rfl, quoI_i (by omega)]
      congr 1
      · omega
      · rw [zero_tab]
        apply tab_congr
        intro j hj
        rw [if_neg (by omega)]
theorem shl_lt (x : Nat) (hx : x < 2 ^ 256) (n : Int) : shlZ x n < 2 ^ 256 := by
  unfold shlZ; split
  · exact hx
  · split
    · decide
    · exact Nat.mod_lt _ (by decide)
theorem bit_shl (x n i : Nat) : bitN (x * 2 ^ n) i = if i < n then 0 else bitN x (i - n) := by
  rw [bit_tb, bit_tb, Nat.testBit_mul_two_pow]
  by_cases h : i < n
  · simp [h, show ¬ n ≤ i by omega]
  · simp [h, show n ≤ i by omega]
theorem refShl_loop (N : Nat) (hN : 65 ≤ N) (x s : Nat) (hs : s < 256) (z : Vec 4) : ∀ m i n : Nat, i + m = 256 → s ≤ i → m < n → l28_0 N n (s : Int) (i : Int) z (B x) (tab 256 fun j => if j < i then (bitN (x * 2 ^ s) j : Int) else 0) = some (W (x * 2 ^ s)) := by
  intro m
  induction m with
  | zero =>
    intro i n hi _ hn
    obtain ⟨n, rfl⟩ : ∃ n', n = n' + 1 := ⟨n - 1, by omega⟩
    show s28_0 N _ _ _ _ _ _ = _
    unfold s28_0
    rw [ltI_f (by omega), cond_false, of_eq N hN (x * 2 ^ s) _ (fun i hi => by rw [if_pos (by omega)]), Option.bind_some]
  | succ m ih =>
    intro i n hi his hn
    obtain ⟨n, rfl⟩ : ∃ n', n = n' + 1 := ⟨n - 1, by omega⟩
    show s28_0 N (l28_0 N n) _ _ _ _ _ = _
    unfold s28_0
    have e : subI .i64 (i : Int) (s : Int) = ((i - s : Nat) : Int) := by rw [subI_i (by omega) (by omega)]; omega
    rw [e]
    simp only [ltI_t (show (i : Int) < 256 by omega), leI_t (show (0 : Int) ≤ i by omega), leI_t (show (0 : Int) ≤ ((i - s : Nat) : Int) by omega), ltI_t (show ((i - s : Nat) : Int) < 256 by omega), cond_true]
    rw [B, rd_tab (by omega), st_tab (by omega), addI_i (by omega) (by omega)]
    refine Eq.trans ?_ (ih (i + 1) n (by omega) (by omega) (by omega))
    congr 1
    apply tab_congr
    intro j hj
    by_cases h1 : j = i
    · subst h1; rw [if_pos rfl, if_pos (by omega), bit_shl, if_neg (by omega)]
    · rw [if_neg h1]
      by_cases h2 : j < i
      · rw [if_pos h2, if_pos (by omega)]
      · rw [if_neg h2, if_neg (by omega)]
theorem refShl_eq (N : Nat) (hN : 300 ≤ N) (x : Nat) (n : Int) : fn_tillerref01_Shl N (W x) n = some (W (shlZ x n)) := by
  unfold fn_tillerref01_Shl t28 shlZ
  by_cases h1 : n < 1
  · rw [ltI_t h1, cond_true, if_pos h1]
  · rw [ltI_f h1, cond_false, if_neg h1]
    by_cases h2 : 256 ≤ n
    · rw [ltI_t (by omega), cond_true, if_pos h2, W_zero]
    · rw [ltI_f (by omega), cond_false, if_neg h2, W_mod, bitsOf_eq N (by omega), Option.bind_some]
      obtain ⟨m, rfl⟩ := Int.eq_ofNat_of_zero_le (show 0 ≤ n by omega)
      refine Eq.trans ?_ (refShl_loop N (by omega) x m (by omega) (Vec.zero 4) (256 - m) m N (by omega) (by omega) (by omega))
      congr 1
      rw [zero_tab]
      apply tab_congr
      intro j hj
      split
      · rw [bit_shl, if_pos (by omega)]; rfl
      · rfl
end Go.Proofs.Ytpppedolgipikaa.Wid

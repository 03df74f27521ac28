/- PLAIN FACTS on chapter 1's functions: moves down, the document's own and the program's. No statement is proved here. -/
import Derived.Test.YtpppedolgipikaaWid4
namespace Go.Proofs.Ytpppedolgipikaa.Wid
open Go Go.RowKit Go.Proofs.Ytpppedolgipikaa.Eng Go.Proofs.Ytpppedolgipikaa.Fns Go.Proofs.Ytpppedolgipikaa.Bw
set_option linter.unusedVariables false
set_option linter.unusedSimpArgs false
theorem shr_word (x b s i : Nat) (hs : s < 64) : x / 2 ^ (64 * b + s) / 2 ^ (64 * i) % 2 ^ 64 = (x / 2 ^ (64 * (i + b)) % 2 ^ 64 / 2 ^ s) ||| (x / 2 ^ (64 * (i + b + 1)) % 2 ^ 64 * 2 ^ (64 - s) % 2 ^ 64) := by
  apply Nat.eq_of_testBit_eq
  intro j
  simp only [Nat.testBit_or, Nat.testBit_mod_two_pow, Nat.testBit_div_two_pow, Nat.testBit_mul_two_pow]
  have e0 : j + 64 * i + (64 * b + s) = j + s + 64 * (i + b) := by omega
  rw [e0]
  by_cases h1 : j < 64
  · by_cases h2 : j + s < 64
    · have h3 : ¬ (64 - s ≤ j) := by omega
      simp [h1, h2, h3]
    · have h3 : 64 - s ≤ j := by omega
      have h4 : j - (64 - s) < 64 := by omega
      have e : j - (64 - s) + 64 * (i + b + 1) = j + s + 64 * (i + b) := by omega
      simp [h1, h2, h3, h4, e]
  · have h3 : ¬ (j + s < 64) := by omega
    simp [h1, h3]
theorem shr_loop (N : Nat) (hN : 300 ≤ N) (x b s : Nat) (hx : x < 2 ^ 256) (hb : b < 4) (hs : s < 64) (z : Vec 4) : ∀ k i n : Nat, b + i + k = 4 → k < n →
    l25_0 N n ((64 * b + s : Nat) : Int) (b : Int) ((4 - b : Nat) : Int) (i : Int) (W x) z (tab 4 fun j => if j < i then ((x / 2 ^ (64 * b + s) / 2 ^ (64 * j) % 2 ^ 64 : Nat) : Int) else 0) = some (W (x / 2 ^ (64 * b + s)), !(eqL (W (shlZ (x / 2 ^ (64 * b + s)) ((64 * b + s : Nat) : Int))).1 (W x).1)) := by
  intro k
  induction k with
  | zero =>
    intro i n hk hn
    obtain ⟨n, rfl⟩ : ∃ n', n = n' + 1 := ⟨n - 1, by omega⟩
    show s25_0 N _ _ _ _ _ _ _ _ = _
    unfold s25_0
    have e : (tab 4 fun j => if j < i then ((x / 2 ^ (64 * b + s) / 2 ^ (64 * j) % 2 ^ 64 : Nat) : Int) else 0) = W (x / 2 ^ (64 * b + s)) := by
      apply tab_congr
      intro j hj
      split
      · rfl
      · have h1 : x / 2 ^ (64 * b + s) / 2 ^ (64 * j) = 0 := by
          rw [Nat.div_div_eq_div_mul, ← Nat.pow_add]
          exact Nat.div_eq_of_lt (Nat.lt_of_lt_of_le hx (Nat.pow_le_pow_right (by decide) (by omega)))
        rw [h1]; rfl
    rw [ltI_f (by omega), cond_false, e, shl_eq N hN, Option.bind_some]
  | succ k ih =>
    intro i n hk hn
    obtain ⟨n, rfl⟩ : ∃ n', n = n' + 1 := ⟨n - 1, by omega⟩
    show s25_0 N (l25_0 N n) _ _ _ _ _ _ _ = _
    unfold s25_0
    have e1 : addI .i64 (i : Int) (b : Int) = ((i + b : Nat) : Int) := by rw [addI_i (by omega) (by omega)]; omega
    have e2 : remI .i64 ((64 * b + s : Nat) : Int) 64 = (s : Int) := by rw [show (64 : Int) = ((64 : Nat) : Int) from rfl, remI_n]; congr 1; omega
    have e3 : subI .i64 64 (s : Int) = ((64 - s : Nat) : Int) := by rw [subI_i (by omega) (by omega)]; omega
    have e4 : addI .i64 ((i + b : Nat) : Int) 1 = ((i + b + 1 : Nat) : Int) := by rw [addI_i (by omega) (by omega)]; omega
    have e5 : addI .i64 (i : Int) 1 = ((i + 1 : Nat) : Int) := by rw [addI_i (by omega) (by omega)]; omega
    rw [e1, e2, e3, e4, e5]
    have c1 : ltI (i : Int) ((4 - b : Nat) : Int) = true := ltI_t (by omega)
    have c2 : leI (0 : Int) ((i + b : Nat) : Int) = true := leI_t (by omega)
    have c3 : ltI ((i + b : Nat) : Int) 4 = true := ltI_t (by omega)
    have c4 : ltI (s : Int) 0 = false := ltI_f (by omega)
    have c5 : leI (0 : Int) (i : Int) = true := leI_t (by omega)
    have c6 : ltI (i : Int) 4 = true := ltI_t (by omega)
    have c7 : leI (0 : Int) ((i + b + 1 : Nat) : Int) = true := leI_t (by omega)
    have c8 : ltI ((64 - s : Nat) : Int) 0 = false := ltI_f (by omega)
    simp only [c1, c2, c3, c4, c5, c6, c7, c8, cond_true, cond_false]
    have hw : x / 2 ^ (64 * (i + b)) % 2 ^ 64 < 2 ^ 64 := Nat.mod_lt _ (by decide)
    have hi := ih (i + 1) n (by omega) (by omega)
    rw [rd_W (by omega), shrI_n (k := .u64) (show s ≤ 64 by omega), st_tab (by omega)]
    by_cases h : i + b + 1 < 4
    · rw [ltI_t (show ((i + b + 1 : Nat) : Int) < 4 by omega)]
      simp only [cond_true]
      rw [rd_tab (by omega), if_pos rfl, rd_W (by omega), shlI_n (by omega), orI_n (Nat.lt_of_le_of_lt (Nat.div_le_self ..) hw) (Nat.mod_lt _ (by decide)), st_tab (by omega)]
      refine Eq.trans ?_ hi
      congr 1
      apply tab_congr
      intro j hj
      by_cases h1 : j = i
      · rw [if_pos h1, if_pos (by omega), h1, shr_word x b s i hs]
      · rw [if_neg h1, if_neg h1]
        by_cases h2 : j < i
        · rw [if_pos h2, if_pos (by omega)]
        · rw [if_neg h2, if_neg (by omega)]
    · rw [ltI_f (show ¬ (((i + b + 1 : Nat) : Int) < 4) by omega), cond_false]
      refine Eq.trans ?_ hi
      congr 1
      apply tab_congr
      intro j hj
      by_cases h1 : j = i
      · have h0 : x / 2 ^ (64 * (i + b + 1)) = 0 := Nat.div_eq_of_lt (Nat.lt_of_lt_of_le hx (Nat.pow_le_pow_right (by decide) (by omega)))
        rw [if_pos h1, if_pos (by omega), h1, shr_word x b s i hs, h0]; simp
      · rw [if_neg h1]
        by_cases h2 : j < i
        · rw [if_pos h2, if_pos (by omega)]
        · rw [if_neg h2, if_neg (by omega)]
def shrZ (x : Nat) (n : Int) : Nat := if n < 1 then x else x / 2 ^ n.toNat
def lostZ (x : Nat) (n : Int) : Bool := if n < 1 then false else decide (x % 2 ^ n.toNat ≠ 0)
theorem shr_lt (x : Nat) (hx : x < 2 ^ 256) (n : Int) : shrZ x n < 2 ^ 256 := by
  unfold shrZ; split
  · exact hx
  · exact Nat.lt_of_le_of_lt (Nat.div_le_self ..) hx
theorem back (x n : Nat) (hx : x < 2 ^ 256) (hn : n < 256) : x / 2 ^ n * 2 ^ n % 2 ^ 256 = x ↔ x % 2 ^ n = 0 := by
  have h := Nat.div_add_mod x (2 ^ n)
  rw [Nat.mul_comm] at h
  rw [Nat.mod_eq_of_lt (by omega)]
  omega
theorem shr_eq (N : Nat) (hN : 300 ≤ N) (x : Nat) (hx : x < 2 ^ 256) (n : Int) : fn_wide_Shr N (W x) n = some (W (shrZ x n), lostZ x n) := by
  unfold fn_wide_Shr t25 shrZ lostZ
  by_cases h1 : n < 1
  · rw [ltI_t h1, cond_true, if_pos h1, if_pos h1]
  · rw [ltI_f h1, cond_false, if_neg h1, if_neg h1]
    obtain ⟨m, rfl⟩ := Int.eq_ofNat_of_zero_le (show 0 ≤ n by omega)
    rw [Int.toNat_natCast]
    by_cases h2 : 256 ≤ m
    · have hp : x < 2 ^ m := Nat.lt_of_lt_of_le hx (Nat.pow_le_pow_right (by decide) h2)
      rw [leI_t (by omega), cond_true, Nat.div_eq_of_lt hp, Nat.mod_eq_of_lt hp, W_zero, W_eq hx (by decide)]
      by_cases h3 : x = 0 <;> simp [h3]
    · rw [leI_f (by omega), cond_false]
      have h := shr_loop N hN x (m / 64) (m % 64) hx (by omega) (by omega) (Vec.zero 4) (4 - m / 64) 0 N (by omega) (by omega)
      rw [show 64 * (m / 64) + m % 64 = m by omega] at h
      have e1 : quoI .i64 (m : Int) 64 = ((m / 64 : Nat) : Int) := by rw [show (64 : Int) = ((64 : Nat) : Int) from rfl, quoI_i (by omega)]
      have e2 : subI .i64 4 ((m / 64 : Nat) : Int) = ((4 - m / 64 : Nat) : Int) := by rw [subI_i (by omega) (by omega)]; omega
      rw [e1, e2]
      refine Eq.trans ?_ (h.trans ?_)
      · congr 1
      · rw [W_eq (shl_lt _ (Nat.lt_of_le_of_lt (Nat.div_le_self ..) hx) _) hx]
        have hz : shlZ (x / 2 ^ m) (m : Int) = x / 2 ^ m * 2 ^ m % 2 ^ 256 := by
          unfold shlZ; rw [if_neg (by omega), if_neg (by omega), Int.toNat_natCast]
        rw [hz]
        have hb := back x m hx (by omega)
        by_cases h3 : x % 2 ^ m = 0
        · simp [h3, hb.2 h3]
        · have : ¬ (x / 2 ^ m * 2 ^ m % 2 ^ 256 = x) := fun h => h3 (hb.1 h)
          simp [h3, this]
theorem bit_shr (x n i : Nat) : bitN (x / 2 ^ n) i = bitN x (i + n) := by
  unfold bitN
  rw [Nat.div_div_eq_div_mul, ← Nat.pow_add, Nat.add_comm n i]
theorem lost_step (x i : Nat) : x % 2 ^ (i + 1) ≠ 0 ↔ x % 2 ^ i ≠ 0 ∨ bitN x i = 1 := by
  rw [mod_succ]
  have h1 := bit_lt x i; have h2 := pow_pos' i
  obtain h | h : bitN x i = 0 ∨ bitN x i = 1 := by omega
  · rw [h]; simp
  · rw [h]; simp
theorem refShr_loop (N : Nat) (hN : 300 ≤ N) (x s : Nat) (hs0 : 0 < s) (hs : s < 9223372036854775808) (hx : x < 2 ^ 256) (z : Vec 4) : ∀ m i n : Nat, i + m = 256 → m < n → l26_0 N n (s : Int) (decide (x % 2 ^ (min i s) ≠ 0)) (i : Int) z (B x) (tab 256 fun j => if j + s < i then (bitN (x / 2 ^ s) j : Int) else 0) = some (W (x / 2 ^ s), decide (x % 2 ^ s ≠ 0)) := by
  intro m
  induction m with
  | zero =>
    intro i n hi hn
    obtain ⟨n, rfl⟩ : ∃ n', n = n' + 1 := ⟨n - 1, by omega⟩
    obtain rfl : i = 256 := by omega
    show s26_0 N _ _ _ _ _ _ _ = _
    unfold s26_0
    have e : x % 2 ^ (min 256 s) = x % 2 ^ s := by
      by_cases h : s ≤ 256
      · rw [Nat.min_eq_right h]
      · rw [Nat.min_eq_left (by omega), Nat.mod_eq_of_lt hx, Nat.mod_eq_of_lt (Nat.lt_of_lt_of_le hx (Nat.pow_le_pow_right (by decide) (by omega)))]
    rw [ltI_f (by omega), cond_false, of_eq N (by omega) (x / 2 ^ s) _ (fun i hi => by
      split
      · rfl
      · rw [bit_shr]; unfold bitN
        rw [Nat.div_eq_of_lt (Nat.lt_of_lt_of_le hx (Nat.pow_le_pow_right (by decide) (by omega)))]; rfl), Option.bind_some, e]
  | succ m ih =>
    intro i n hi hn
    obtain ⟨n, rfl⟩ : ∃ n', n = n' + 1 := ⟨n - 1, by omega⟩
    show s26_0 N (l26_0 N n) _ _ _ _ _ _ = _
    unfold s26_0
    have hi' := ih (i + 1) n (by omega) (by omega)
    have e5 : addI .i64 (i : Int) 1 = ((i + 1 : Nat) : Int) := by rw [addI_i (by omega) (by omega)]; omega
    have c1 : leI (0 : Int) (i : Int) = true := leI_t (by omega)
    have c2 : ltI (i : Int) 256 = true := ltI_t (by omega)
    rw [e5]
    simp only [c1, c2, cond_true]
    by_cases h : i < s
    · rw [lt_n, decide_eq_true h, cond_true]
      have et : (tab 256 fun j => if j + s < i then (bitN (x / 2 ^ s) j : Int) else 0) = (tab 256 fun j => if j + s < i + 1 then (bitN (x / 2 ^ s) j : Int) else 0) := by
        apply tab_congr
        intro j hj
        rw [if_neg (by omega), if_neg (by omega)]
      have em : min (i + 1) s = i + 1 := Nat.min_eq_left (by omega)
      have em' : min i s = i := Nat.min_eq_left (by omega)
      rw [em] at hi'
      rw [em', et]
      have hl := lost_step x i
      by_cases h2 : x % 2 ^ i ≠ 0
      · rw [decide_eq_true h2, cond_true]
        rw [decide_eq_true (hl.2 (.inl h2))] at hi'
        exact hi'
      · rw [decide_eq_false h2, cond_false, B, rd_tab (by omega), show (1 : Int) = ((1 : Nat) : Int) from rfl, eq_n]
        have : decide (bitN x i = 1) = decide (x % 2 ^ (i + 1) ≠ 0) := by rw [decide_eq_decide]; constructor
                                                                          · intro h3; exact hl.2 (.inr h3)
                                                                          · intro h3; rcases hl.1 h3 with h4 | h4
                                                                            · exact absurd h4 h2
                                                                            · exact h4
        rw [this]
        exact hi'
    · rw [lt_n, decide_eq_false h, cond_false]
      have e : subI .i64 (i : Int) (s : Int) = ((i - s : Nat) : Int) := by rw [subI_i (by omega) (by omega)]; omega
      have em : min (i + 1) s = min i s := by omega
      rw [e, leI_t (by omega), cond_true, ltI_t (by omega), cond_true, B, rd_tab (by omega), st_tab (by omega)]
      rw [em] at hi'
      have et : (tab 256 fun k => if k = i - s then (bitN x i : Int) else if k + s < i then (bitN (x / 2 ^ s) k : Int) else 0) = (tab 256 fun j => if j + s < i + 1 then (bitN (x / 2 ^ s) j : Int) else 0) := by
        apply tab_congr
        intro j hj
        by_cases h1 : j = i - s
        · rw [if_pos h1, if_pos (by omega), bit_shr, h1, Nat.sub_add_cancel (by omega)]
        · rw [if_neg h1]
          by_cases h2 : j + s < i
          · rw [if_pos h2, if_pos (by omega)]
          · rw [if_neg h2, if_neg (by omega)]
      rw [et]
      exact hi'
theorem refShr_eq (N : Nat) (hN : 300 ≤ N) (x : Nat) (hx : x < 2 ^ 256) (n : Int) (hn : n < 9223372036854775808) : fn_tillerref01_Shr N (W x) n = some (W (shrZ x n), lostZ x n) := by
  unfold fn_tillerref01_Shr t26 shrZ lostZ
  by_cases h1 : n < 1
  · rw [ltI_t h1, cond_true, if_pos h1, if_pos h1]
  · rw [ltI_f h1, cond_false, if_neg h1, if_neg h1, bitsOf_eq N (by omega), Option.bind_some]
    obtain ⟨m, rfl⟩ := Int.eq_ofNat_of_zero_le (show 0 ≤ n by omega)
    rw [Int.toNat_natCast]
    have h := refShr_loop N hN x m (by omega) (by omega) hx (Vec.zero 4) 256 0 N (by omega) (by omega)
    have h0 : decide (x % 2 ^ (min 0 m) ≠ 0) = false := by simp [Nat.mod_one]
    have et : (tab 256 fun j => if j + m < 0 then (bitN (x / 2 ^ m) j : Int) else 0) = Vec.zero 256 := by
      rw [zero_tab]
      apply tab_congr
      intro j hj
      rw [if_neg (by omega)]
    rw [h0, et] at h
    exact h
end Go.Proofs.Ytpppedolgipikaa.Wid

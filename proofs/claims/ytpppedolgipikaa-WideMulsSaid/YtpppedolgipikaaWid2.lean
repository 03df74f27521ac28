/- PLAIN FACTS on chapter 1's functions (the document's own): sums, differences, order, bits, length, moves. No statement is proved here. -/
import Derived.Test.YtpppedolgipikaaWid1
namespace Go.Proofs.Ytpppedolgipikaa.Wid
open Go Go.RowKit Go.Proofs.Ytpppedolgipikaa.Eng Go.Proofs.Ytpppedolgipikaa.Fns Go.Proofs.Ytpppedolgipikaa.Bw
set_option linter.unusedVariables false
set_option linter.unusedSimpArgs false
theorem pow_pos' (i : Nat) : 0 < 2 ^ i := Nat.pow_pos (by decide)
theorem mod_succ (x i : Nat) : x % 2 ^ (i + 1) = x % 2 ^ i + 2 ^ i * bitN x i := by unfold bitN; rw [Nat.pow_succ, Nat.mod_mul]
/-! ### the sum -/
def carry (x y i : Nat) : Nat := (x % 2 ^ i + y % 2 ^ i) / 2 ^ i
theorem carry_lt (x y i : Nat) : carry x y i < 2 := by
  unfold carry
  have h1 := Nat.mod_lt x (pow_pos' i); have h2 := Nat.mod_lt y (pow_pos' i)
  rw [Nat.div_lt_iff_lt_mul (pow_pos' i)]; omega
theorem sum_split (x y i : Nat) : (x + y) / 2 ^ i = x / 2 ^ i + y / 2 ^ i + carry x y i := by
  unfold carry
  have h1 := Nat.div_add_mod x (2 ^ i); have h2 := Nat.div_add_mod y (2 ^ i)
  rw [show x + y = (x % 2 ^ i + y % 2 ^ i) + 2 ^ i * (x / 2 ^ i + y / 2 ^ i) by rw [Nat.mul_add]; omega, Nat.add_mul_div_left _ _ (pow_pos' i)]
  omega
theorem carry_bit (x y i : Nat) : (bitN x i + bitN y i + carry x y i) % 2 = bitN (x + y) i := by
  have := sum_split x y i
  unfold bitN; rw [this]; omega
theorem carry_next (x y i : Nat) : (bitN x i + bitN y i + carry x y i) / 2 = carry x y (i + 1) := by
  have h1 := sum_split x y i; have h2 := sum_split x y (i + 1)
  rw [Nat.pow_succ, ← Nat.div_div_eq_div_mul, ← Nat.div_div_eq_div_mul, ← Nat.div_div_eq_div_mul] at h2
  unfold bitN at *; rw [h1] at h2; omega
theorem add_loop (N : Nat) (hN : 65 ≤ N) (x y : Nat) (z : Vec 4) : ∀ m i n : Nat, i + m = 256 → m < n → l13_0 N n (carry x y i : Int) i z (tab 256 fun j => if j < i then (bitN (x + y) j : Int) else (bitN x j : Int)) (B y) = some (W (x + y), decide (carry x y 256 = 1)) := by
  intro m
  induction m with
  | zero =>
    intro i n hi hn
    obtain ⟨n, rfl⟩ : ∃ n', n = n' + 1 := ⟨n - 1, by omega⟩
    obtain rfl : i = 256 := by omega
    show s13_0 N _ _ _ _ _ _ = _
    unfold s13_0
    rw [ltI_f (by omega), cond_false, of_eq N hN (x + y) _ (fun i hi => by rw [if_pos hi]), Option.bind_some, show (1 : Int) = ((1 : Nat) : Int) from rfl, eq_n]
  | succ m ih =>
    intro i n hi hn
    obtain ⟨n, rfl⟩ : ∃ n', n = n' + 1 := ⟨n - 1, by omega⟩
    show s13_0 N (l13_0 N n) _ _ _ _ _ = _
    unfold s13_0
    have hx := bit_lt x i; have hy := bit_lt y i; have hc := carry_lt x y i
    have e : addI .i64 (addI .i64 (bitN x i : Int) (bitN y i : Int)) (carry x y i : Int) = ((bitN x i + bitN y i + carry x y i : Nat) : Int) := by
      rw [addI_i (a := (bitN x i : Int)) (by omega) (by omega), addI_i (by omega) (by omega)]; omega
    simp only [ltI_t (show (i : Int) < 256 by omega), leI_t (show (0 : Int) ≤ i by omega), cond_true]
    rw [B, rd_tab (by omega), rd_tab (by omega), if_neg (by omega), e, show (2 : Int) = ((2 : Nat) : Int) from rfl, quoI_i (by omega), remI_n, carry_bit, carry_next, st_tab (by omega), addI_i (by omega) (by omega)]
    refine Eq.trans ?_ (ih (i + 1) n (by omega) (by omega))
    congr 1
    apply tab_congr
    intro j hj
    by_cases h1 : j = i
    · subst h1; simp
    · simp only [h1, if_false]
      by_cases h2 : j < i
      · rw [if_pos h2, if_pos (by omega)]
      · rw [if_neg h2, if_neg (by omega)]
theorem W_mod (x : Nat) : W (x % 2 ^ 256) = W x := by
  apply tab_congr
  intro i hi
  congr 1
  have h : 64 * i + 64 ≤ 256 := by omega
  rw [show (2 : Nat) ^ 256 = 2 ^ (64 * i) * 2 ^ (256 - 64 * i) by rw [← Nat.pow_add]; congr 1; omega, Nat.mod_mul_right_div_self, Nat.mod_mod_of_dvd _ (Nat.pow_dvd_pow 2 (by omega))]
theorem refAdd_eq (N : Nat) (hN : 300 ≤ N) (x y : Nat) (hx : x < 2 ^ 256) (hy : y < 2 ^ 256) : fn_tillerref01_Add N (W x) (W y) = some (W ((x + y) % 2 ^ 256), decide (2 ^ 256 ≤ x + y)) := by
  unfold fn_tillerref01_Add t13
  rw [bitsOf_eq N (by omega), bitsOf_eq N (by omega), Option.bind_some, Option.bind_some, W_mod]
  have h := add_loop N (by omega) x y (Vec.zero 4) 256 0 N (by omega) (by omega)
  have h0 : carry x y 0 = 0 := by unfold carry; simp [Nat.mod_one]
  rw [h0] at h
  refine Eq.trans ?_ (h.trans ?_)
  · congr 1
  · congr 2
    unfold carry
    rw [Nat.mod_eq_of_lt hx, Nat.mod_eq_of_lt hy, decide_eq_decide]
    omega
/-! ### the difference -/
def borrow (x y i : Nat) : Nat := if x % 2 ^ i < y % 2 ^ i then 1 else 0
theorem borrow_lt (x y i : Nat) : borrow x y i < 2 := by unfold borrow; split <;> omega
theorem borrow_next (x y i : Nat) : 1 - (2 + bitN x i - bitN y i - borrow x y i) / 2 = borrow x y (i + 1) := by
  unfold borrow
  rw [mod_succ, mod_succ]
  have h1 := Nat.mod_lt x (pow_pos' i); have h2 := Nat.mod_lt y (pow_pos' i)
  have hx := bit_lt x i; have hy := bit_lt y i
  obtain hx | hx : bitN x i = 0 ∨ bitN x i = 1 := by omega
  all_goals obtain hy | hy : bitN y i = 0 ∨ bitN y i = 1 := by omega
  all_goals rw [hx, hy]; simp only [Nat.mul_zero, Nat.mul_one, Nat.add_zero]
  all_goals generalize x % 2 ^ i = a at *; generalize y % 2 ^ i = b at *; generalize 2 ^ i = c at *
  all_goals (split <;> (try split) <;> omega)
theorem diff_split (x y i n : Nat) (hi : i ≤ n) (hy : y < 2 ^ n) : (2 ^ n + x - y) / 2 ^ i + y / 2 ^ i + borrow x y i = 2 ^ (n - i) + x / 2 ^ i := by
  have hp := pow_pos' i
  have e : 2 ^ n = 2 ^ i * 2 ^ (n - i) := by rw [← Nat.pow_add]; congr 1; omega
  have h1 := Nat.div_add_mod x (2 ^ i); have h2 := Nat.div_add_mod y (2 ^ i)
  have l1 := Nat.mod_lt x hp; have l2 := Nat.mod_lt y hp
  unfold borrow
  have hyq : y / 2 ^ i < 2 ^ (n - i) := by rw [Nat.div_lt_iff_lt_mul hp, Nat.mul_comm, ← e]; exact hy
  generalize hq : x / 2 ^ i = q at *
  generalize hr : y / 2 ^ i = r at *
  split
  · rename_i hlt
    have : 2 ^ n + x - y = (2 ^ i + x % 2 ^ i - y % 2 ^ i) + 2 ^ i * (2 ^ (n - i) + q - r - 1) := by
      obtain ⟨k, hk⟩ : ∃ k, 2 ^ (n - i) = r + 1 + k := ⟨2 ^ (n - i) - r - 1, by omega⟩
      rw [e, hk, show r + 1 + k + q - r - 1 = k + q by omega]
      simp only [Nat.mul_add] at *
      omega
    rw [this, Nat.add_mul_div_left _ _ hp, Nat.div_eq_of_lt (by omega)]
    omega
  · rename_i hlt
    have : 2 ^ n + x - y = (x % 2 ^ i - y % 2 ^ i) + 2 ^ i * (2 ^ (n - i) + q - r) := by
      obtain ⟨k, hk⟩ : ∃ k, 2 ^ (n - i) = r + 1 + k := ⟨2 ^ (n - i) - r - 1, by omega⟩
      rw [e, hk, show r + 1 + k + q - r = 1 + k + q by omega]
      simp only [Nat.mul_add] at *
      omega
    rw [this, Nat.add_mul_div_left _ _ hp, Nat.div_eq_of_lt (by omega)]
    omega
theorem diff_bit (x y i : Nat) (hi : i < 256) (hy : y < 2 ^ 256) : (2 + bitN x i - bitN y i - borrow x y i) % 2 = bitN (2 ^ 256 + x - y) i := by
  have h := diff_split x y i 256 (by omega) hy
  have e : 2 ^ (256 - i) = 2 * 2 ^ (255 - i) := by rw [← Nat.pow_succ']; congr 1; omega
  rw [e] at h
  have h1 := borrow_lt x y i
  unfold bitN
  generalize 2 ^ (255 - i) = c at *
  omega
theorem sub_loop (N : Nat) (hN : 65 ≤ N) (x y : Nat) (hy : y < 2 ^ 256) (z : Vec 4) : ∀ m i n : Nat, i + m = 256 → m < n → l23_0 N n (borrow x y i : Int) i z (tab 256 fun j => if j < i then (bitN (2 ^ 256 + x - y) j : Int) else (bitN x j : Int)) (B y) = some (W (2 ^ 256 + x - y), decide (borrow x y 256 = 1)) := by
  intro m
  induction m with
  | zero =>
    intro i n hi hn
    obtain ⟨n, rfl⟩ : ∃ n', n = n' + 1 := ⟨n - 1, by omega⟩
    obtain rfl : i = 256 := by omega
    show s23_0 N _ _ _ _ _ _ = _
    unfold s23_0
    rw [ltI_f (by omega), cond_false, of_eq N hN (2 ^ 256 + x - y) _ (fun i hi => by rw [if_pos hi]), Option.bind_some, show (1 : Int) = ((1 : Nat) : Int) from rfl, eq_n]
  | succ m ih =>
    intro i n hi hn
    obtain ⟨n, rfl⟩ : ∃ n', n = n' + 1 := ⟨n - 1, by omega⟩
    show s23_0 N (l23_0 N n) _ _ _ _ _ = _
    unfold s23_0
    have hx := bit_lt x i; have hb := bit_lt y i; have hc := borrow_lt x y i
    have e : subI .i64 (subI .i64 (addI .i64 2 (bitN x i : Int)) (bitN y i : Int)) (borrow x y i : Int) = ((2 + bitN x i - bitN y i - borrow x y i : Nat) : Int) := by
      rw [addI_i (by omega) (by omega), subI_i (a := 2 + (bitN x i : Int)) (by omega) (by omega), subI_i (by omega) (by omega)]; omega
    have e2 : subI .i64 1 (((2 + bitN x i - bitN y i - borrow x y i) / 2 : Nat) : Int) = (borrow x y (i + 1) : Int) := by
      rw [← borrow_next, subI_i (by omega) (by omega)]; omega
    simp only [ltI_t (show (i : Int) < 256 by omega), leI_t (show (0 : Int) ≤ i by omega), cond_true]
    rw [B, rd_tab (by omega), rd_tab (by omega), if_neg (by omega), e, show (2 : Int) = ((2 : Nat) : Int) from rfl, quoI_i (by omega), remI_n, diff_bit x y i (by omega) hy, e2, st_tab (by omega), addI_i (by omega) (by omega)]
    refine Eq.trans ?_ (ih (i + 1) n (by omega) (by omega))
    congr 1
    apply tab_congr
    intro j hj
    by_cases h1 : j = i
    · subst h1; simp
    · simp only [h1, if_false]
      by_cases h2 : j < i
      · rw [if_pos h2, if_pos (by omega)]
      · rw [if_neg h2, if_neg (by omega)]
theorem refSub_eq (N : Nat) (hN : 300 ≤ N) (x y : Nat) (hx : x < 2 ^ 256) (hy : y < 2 ^ 256) : fn_tillerref01_Sub N (W x) (W y) = some (W ((2 ^ 256 + x - y) % 2 ^ 256), decide (x < y)) := by
  unfold fn_tillerref01_Sub t23
  rw [bitsOf_eq N (by omega), bitsOf_eq N (by omega), Option.bind_some, Option.bind_some, W_mod]
  have h := sub_loop N (by omega) x y hy (Vec.zero 4) 256 0 N (by omega) (by omega)
  have h0 : borrow x y 0 = 0 := by unfold borrow; simp [Nat.mod_one]
  rw [h0] at h
  refine Eq.trans ?_ (h.trans ?_)
  · congr 1
  · congr 2
    unfold borrow
    rw [Nat.mod_eq_of_lt hx, Nat.mod_eq_of_lt hy, decide_eq_decide]
    split <;> omega
end Go.Proofs.Ytpppedolgipikaa.Wid

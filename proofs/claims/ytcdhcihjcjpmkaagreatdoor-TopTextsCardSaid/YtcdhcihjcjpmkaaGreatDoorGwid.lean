/- Plain facts on the functions that were printed. Texts in one: Wide, Wide2, Patp. No statement is proved here. -/
import Derived.Test.YtcdhcihjcjpmkaaGreatDoorFn2
import Derived.Test.YtcdhcihjcjpmkaaGreatDoorGbas
import Derived.Laws.Bits64
namespace Go.Proofs.YtcdhcihjcjpmkaaGreatDoor.Wid
open Go Go.RowKit Go.Proofs.YtcdhcihjcjpmkaaGreatDoor.Eng Go.Proofs.YtcdhcihjcjpmkaaGreatDoor.Fns Go.Proofs.YtcdhcihjcjpmkaaGreatDoor.Bw
set_option linter.unusedVariables false
set_option linter.unusedSimpArgs false
theorem pow_pos' (i : Nat) : 0 < 2 ^ i := Nat.pow_pos (by decide)
theorem mod_succ (x i : Nat) : x % 2 ^ (i + 1) = x % 2 ^ i + 2 ^ i * bitN x i := by unfold bitN; rw [Nat.pow_succ, Nat.mod_mul]
/-! ### the sum -/
def carry (x y i : Nat) : Nat := (x % 2 ^ i + y % 2 ^ i) / 2 ^ i
theorem carry_lt (x y i : Nat) : carry x y i < 2 := by
  unfold carry
  have h1 := Nat.mod_lt x (pow_pos' i); have h2 := Nat.mod_lt y (pow_pos' i)
  rw [Nat.div_lt_iff_lt_mul (pow_pos' i)]; omega
theorem sum_split (x y i : Nat) : (x + y) / 2 ^ i = x / 2 ^ i + y / 2 ^ i + carry x y i := by
  unfold carry
  have h1 := Nat.div_add_mod x (2 ^ i); have h2 := Nat.div_add_mod y (2 ^ i)
  rw [show x + y = (x % 2 ^ i + y % 2 ^ i) + 2 ^ i * (x / 2 ^ i + y / 2 ^ i) by rw [Nat.mul_add]; omega, Nat.add_mul_div_left _ _ (pow_pos' i)]
  omega
theorem carry_bit (x y i : Nat) : (bitN x i + bitN y i + carry x y i) % 2 = bitN (x + y) i := by
  have := sum_split x y i
  unfold bitN; rw [this]; omega
theorem carry_next (x y i : Nat) : (bitN x i + bitN y i + carry x y i) / 2 = carry x y (i + 1) := by
  have h1 := sum_split x y i; have h2 := sum_split x y (i + 1)
  rw [Nat.pow_succ, ← Nat.div_div_eq_div_mul, ← Nat.div_div_eq_div_mul, ← Nat.div_div_eq_div_mul] at h2
  unfold bitN at *; rw [h1] at h2; omega
theorem W_mod (x : Nat) : W (x % 2 ^ 256) = W x := by
  apply tab_congr
  intro i hi
  congr 1
  have h : 64 * i + 64 ≤ 256 := by omega
  rw [show (2 : Nat) ^ 256 = 2 ^ (64 * i) * 2 ^ (256 - 64 * i) by rw [← Nat.pow_add]; congr 1; omega, Nat.mod_mul_right_div_self, Nat.mod_mod_of_dvd _ (Nat.pow_dvd_pow 2 (by omega))]
def borrow (x y i : Nat) : Nat := if x % 2 ^ i < y % 2 ^ i then 1 else 0
theorem borrow_lt (x y i : Nat) : borrow x y i < 2 := by unfold borrow; split <;> omega
theorem borrow_next (x y i : Nat) : 1 - (2 + bitN x i - bitN y i - borrow x y i) / 2 = borrow x y (i + 1) := by
  unfold borrow
  rw [mod_succ, mod_succ]
  have h1 := Nat.mod_lt x (pow_pos' i); have h2 := Nat.mod_lt y (pow_pos' i)
  have hx := bit_lt x i; have hy := bit_lt y i
  obtain hx | hx : bitN x i = 0 ∨ bitN x i = 1 := by omega
  all_goals obtain hy | hy : bitN y i = 0 ∨ bitN y i = 1 := by omega
  all_goals rw [hx, hy]; simp only [Nat.mul_zero, Nat.mul_one, Nat.add_zero]
  all_goals generalize x % 2 ^ i = a at *; generalize y % 2 ^ i = b at *; generalize 2 ^ i = c at *
  all_goals (split <;> (try split) <;> omega)
theorem diff_split (x y i n : Nat) (hi : i ≤ n) (hy : y < 2 ^ n) : (2 ^ n + x - y) / 2 ^ i + y / 2 ^ i + borrow x y i = 2 ^ (n - i) + x / 2 ^ i := by
  have hp := pow_pos' i
  have e : 2 ^ n = 2 ^ i * 2 ^ (n - i) := by rw [← Nat.pow_add]; congr 1; omega
  have h1 := Nat.div_add_mod x (2 ^ i); have h2 := Nat.div_add_mod y (2 ^ i)
  have l1 := Nat.mod_lt x hp; have l2 := Nat.mod_lt y hp
  unfold borrow
  have hyq : y / 2 ^ i < 2 ^ (n - i) := by rw [Nat.div_lt_iff_lt_mul hp, Nat.mul_comm, ← e]; exact hy
  generalize hq : x / 2 ^ i = q at *
  generalize hr : y / 2 ^ i = r at *
  split
  · rename_i hlt
    have : 2 ^ n + x - y = (2 ^ i + x % 2 ^ i - y % 2 ^ i) + 2 ^ i * (2 ^ (n - i) + q - r - 1) := by
      obtain ⟨k, hk⟩ : ∃ k, 2 ^ (n - i) = r + 1 + k := ⟨2 ^ (n - i) - r - 1, by omega⟩
      rw [e, hk, show r + 1 + k + q - r - 1 = k + q by omega]
      simp only [Nat.mul_add] at *
      omega
    rw [this, Nat.add_mul_div_left _ _ hp, Nat.div_eq_of_lt (by omega)]
    omega
  · rename_i hlt
    have : 2 ^ n + x - y = (x % 2 ^ i - y % 2 ^ i) + 2 ^ i * (2 ^ (n - i) + q - r) := by
      obtain ⟨k, hk⟩ : ∃ k, 2 ^ (n - i) = r + 1 + k := ⟨2 ^ (n - i) - r - 1, by omega⟩
      rw [e, hk, show r + 1 + k + q - r = 1 + k + q by omega]
      simp only [Nat.mul_add] at *
      omega
    rw [this, Nat.add_mul_div_left _ _ hp, Nat.div_eq_of_lt (by omega)]
    omega
theorem diff_bit (x y i : Nat) (hi : i < 256) (hy : y < 2 ^ 256) : (2 + bitN x i - bitN y i - borrow x y i) % 2 = bitN (2 ^ 256 + x - y) i := by
  have h := diff_split x y i 256 (by omega) hy
  have e : 2 ^ (256 - i) = 2 * 2 ^ (255 - i) := by rw [← Nat.pow_succ']; congr 1; omega
  rw [e] at h
  have h1 := borrow_lt x y i
  unfold bitN
  generalize 2 ^ (255 - i) = c at *
  omega
def bitZ (x : Nat) (n : Int) : Int := if n < 0 ∨ 255 < n then 0 else (bitN x n.toNat : Int)
def cmpZ (x y : Nat) : Int := if x < y then -1 else if x = y then 0 else 1
theorem div_lt {x y c : Nat} (h : x / c < y / c) : x < y := by
  apply Nat.lt_of_not_le
  intro h2
  exact absurd (Nat.div_le_div_right (c := c) h2) (by omega)
theorem half (x i : Nat) : x / 2 ^ i = 2 * (x / 2 ^ (i + 1)) + bitN x i := by unfold bitN; rw [Nat.pow_succ, ← Nat.div_div_eq_div_mul]; omega
theorem word_half (x i : Nat) : x / 2 ^ (64 * i) = 2 ^ 64 * (x / 2 ^ (64 * (i + 1))) + x / 2 ^ (64 * i) % 2 ^ 64 := by
  rw [show 64 * (i + 1) = 64 * i + 64 by omega, Nat.pow_add, ← Nat.div_div_eq_div_mul]
  exact (Nat.div_add_mod _ _).symm
theorem cmp_loop (N : Nat) (x y : Nat) : ∀ i n : Nat, i ≤ 4 → i < n → x / 2 ^ (64 * i) = y / 2 ^ (64 * i) → l98_0 N n ((i : Int) - 1) (W x) (W y) = some (cmpZ x y) := by
  intro i
  induction i with
  | zero =>
    intro n _ hn he
    obtain ⟨n, rfl⟩ : ∃ n', n = n' + 1 := ⟨n - 1, by omega⟩
    show s98_0 N _ _ _ _ = _
    unfold s98_0
    simp only [Nat.mul_zero, Nat.pow_zero, Nat.div_one] at he
    rw [leI_f (by omega), cond_false]; simp [cmpZ, he]
  | succ i ih =>
    intro n hi hn he
    obtain ⟨n, rfl⟩ : ∃ n', n = n' + 1 := ⟨n - 1, by omega⟩
    show s98_0 N (l98_0 N n) _ _ _ = _
    unfold s98_0
    have e : ((i + 1 : Nat) : Int) - 1 = (i : Int) := by omega
    rw [e]
    simp only [leI_t (show (0 : Int) ≤ i by omega), ltI_t (show (i : Int) < 4 by omega), cond_true, rd_W (show i < 4 by omega), lt_n]
    have h1 := word_half x i; have h2 := word_half y i
    by_cases hb : x / 2 ^ (64 * i) % 2 ^ 64 < y / 2 ^ (64 * i) % 2 ^ 64
    · rw [decide_eq_true hb, cond_true]
      have : x < y := div_lt (c := 2 ^ (64 * i)) (by omega)
      simp [cmpZ, this]
    · rw [decide_eq_false hb, cond_false]
      by_cases hb2 : y / 2 ^ (64 * i) % 2 ^ 64 < x / 2 ^ (64 * i) % 2 ^ 64
      · rw [decide_eq_true hb2, cond_true]
        have : y < x := div_lt (c := 2 ^ (64 * i)) (by omega)
        unfold cmpZ; rw [if_neg (by omega), if_neg (by omega)]
      · rw [decide_eq_false hb2, cond_false, subI_i (by omega) (by omega)]
        exact ih n (by omega) (by omega) (by omega)
theorem cmp_eq (N : Nat) (hN : 300 ≤ N) (x y : Nat) (hx : x < 2 ^ 256) (hy : y < 2 ^ 256) : fn_wide_Cmp N (W x) (W y) = some (cmpZ x y) := by
  unfold fn_wide_Cmp t98
  exact cmp_loop N x y 4 N (by omega) (by omega) (by rw [Nat.div_eq_of_lt hx, Nat.div_eq_of_lt hy])
/-! ### sums by words -/
theorem add64_n (a b c : Nat) (hc : c < 2) : add64 (a : Int) (b : Int) (c : Int) = some ((((a + b + c) % 2 ^ 64 : Nat) : Int), (((a + b + c) / 2 ^ 64 : Nat) : Int)) := by
  unfold add64
  rw [leI_t (by omega), leI_t (by omega), leI_t (by omega), leI_t (by omega)]
  simp only [Bool.and_self, cond_true]
  congr 2 <;> omega
theorem sub64_n (a b c : Nat) (ha : a < 2 ^ 64) (hb : b < 2 ^ 64) (hc : c < 2) : sub64 (a : Int) (b : Int) (c : Int) = some ((((2 ^ 64 + a - b - c) % 2 ^ 64 : Nat) : Int), ((if a < b + c then 1 else 0 : Nat) : Int)) := by
  unfold sub64
  rw [leI_t (by omega), leI_t (by omega), leI_t (by omega), leI_t (by omega), ltI_t (by omega), ltI_t (by omega)]
  simp only [Bool.and_self, cond_true]
  congr 2
  · omega
  · by_cases h : a < b + c
    · rw [if_pos h, ltI_t (by omega)]; rfl
    · rw [if_neg h, ltI_f (by omega)]; rfl
theorem pow_word (i : Nat) : 2 ^ (64 * (i + 1)) = 2 ^ (64 * i) * 2 ^ 64 := by rw [← Nat.pow_add]; congr 1
theorem carry_word (x y i : Nat) : (x / 2 ^ (64 * i) % 2 ^ 64 + y / 2 ^ (64 * i) % 2 ^ 64 + carry x y (64 * i)) % 2 ^ 64 = (x + y) / 2 ^ (64 * i) % 2 ^ 64 := by
  rw [sum_split x y (64 * i)]; omega
theorem carry_word_next (x y i : Nat) : (x / 2 ^ (64 * i) % 2 ^ 64 + y / 2 ^ (64 * i) % 2 ^ 64 + carry x y (64 * i)) / 2 ^ 64 = carry x y (64 * (i + 1)) := by
  have h1 := sum_split x y (64 * i); have h2 := sum_split x y (64 * (i + 1))
  rw [pow_word, ← Nat.div_div_eq_div_mul, ← Nat.div_div_eq_div_mul, ← Nat.div_div_eq_div_mul, h1] at h2
  omega
theorem wadd_loop (N : Nat) (x y : Nat) (z : Vec 4) : ∀ m i n : Nat, i + m = 4 → m < n → l94_0 N n (carry x y (64 * i) : Int) i (tab 4 fun j => if j < i then (((x + y) / 2 ^ (64 * j) % 2 ^ 64 : Nat) : Int) else ((x / 2 ^ (64 * j) % 2 ^ 64 : Nat) : Int)) (W y) z = some (W (x + y), decide (carry x y 256 = 1)) := by
  intro m
  induction m with
  | zero =>
    intro i n hi hn
    obtain ⟨n, rfl⟩ : ∃ n', n = n' + 1 := ⟨n - 1, by omega⟩
    obtain rfl : i = 4 := by omega
    show s94_0 N _ _ _ _ _ _ = _
    unfold s94_0
    have hc := carry_lt x y 256
    rw [ltI_f (by omega), cond_false, show (0 : Int) = ((0 : Nat) : Int) from rfl, eq_n]
    have e : (!decide (carry x y (64 * 4) = 0)) = decide (carry x y 256 = 1) := by
      by_cases h : carry x y 256 = 1
      · simp [h]
      · have : carry x y 256 = 0 := by omega
        simp [this]
    rw [e]
    congr 2
  | succ m ih =>
    intro i n hi hn
    obtain ⟨n, rfl⟩ : ∃ n', n = n' + 1 := ⟨n - 1, by omega⟩
    show s94_0 N (l94_0 N n) _ _ _ _ _ = _
    unfold s94_0
    simp only [ltI_t (show (i : Int) < 4 by omega), leI_t (show (0 : Int) ≤ i by omega), cond_true]
    rw [rd_tab (show i < 4 by omega), rd_W (by omega), if_neg (by omega), add64_n _ _ _ (carry_lt x y _), Option.bind_some, carry_word, carry_word_next, st_tab (by omega), addI_i (by omega) (by omega)]
    refine Eq.trans ?_ (ih (i + 1) n (by omega) (by omega))
    congr 1
    apply tab_congr
    intro j hj
    by_cases h1 : j = i
    · subst h1; simp
    · simp only [h1, if_false]
      by_cases h2 : j < i
      · rw [if_pos h2, if_pos (by omega)]
      · rw [if_neg h2, if_neg (by omega)]
theorem add_eq (N : Nat) (hN : 300 ≤ N) (x y : Nat) (hx : x < 2 ^ 256) (hy : y < 2 ^ 256) : fn_wide_Add N (W x) (W y) = some (W ((x + y) % 2 ^ 256), decide (2 ^ 256 ≤ x + y)) := by
  unfold fn_wide_Add t94
  have h := wadd_loop N x y (Vec.zero 4) 4 0 N (by omega) (by omega)
  have h0 : carry x y (64 * 0) = 0 := by unfold carry; simp [Nat.mod_one]
  rw [h0] at h
  rw [W_mod]
  refine Eq.trans ?_ (h.trans ?_)
  · congr 1
  · congr 2
    unfold carry
    rw [Nat.mod_eq_of_lt hx, Nat.mod_eq_of_lt hy, decide_eq_decide]
    omega
theorem borrow_word_next (x y i : Nat) : (if x / 2 ^ (64 * i) % 2 ^ 64 < y / 2 ^ (64 * i) % 2 ^ 64 + borrow x y (64 * i) then 1 else 0) = borrow x y (64 * (i + 1)) := by
  unfold borrow
  rw [pow_word, Nat.mod_mul, Nat.mod_mul]
  have h1 := Nat.mod_lt x (pow_pos' (64 * i)); have h2 := Nat.mod_lt y (pow_pos' (64 * i))
  generalize x / 2 ^ (64 * i) % 2 ^ 64 = p at *
  generalize y / 2 ^ (64 * i) % 2 ^ 64 = q at *
  generalize x % 2 ^ (64 * i) = a at *
  generalize y % 2 ^ (64 * i) = b at *
  generalize 2 ^ (64 * i) = c at *
  rcases Nat.lt_trichotomy p q with h | h | h
  · have := Nat.mul_le_mul_left c (show p + 1 ≤ q from h)
    rw [Nat.mul_add, Nat.mul_one] at this
    rw [if_pos (by omega), if_pos (by omega)]
  · subst h
    by_cases hab : a < b
    · rw [if_pos hab, if_pos (by omega), if_pos (by omega)]
    · rw [if_neg hab, if_neg (by omega), if_neg (by omega)]
  · have := Nat.mul_le_mul_left c (show q + 1 ≤ p from h)
    rw [Nat.mul_add, Nat.mul_one] at this
    rw [if_neg (by split <;> omega), if_neg (by omega)]
theorem borrow_word (x y i : Nat) (hi : i < 4) (hy : y < 2 ^ 256) : (2 ^ 64 + x / 2 ^ (64 * i) % 2 ^ 64 - y / 2 ^ (64 * i) % 2 ^ 64 - borrow x y (64 * i)) % 2 ^ 64 = (2 ^ 256 + x - y) / 2 ^ (64 * i) % 2 ^ 64 := by
  have h := diff_split x y (64 * i) 256 (by omega) hy
  have e : 2 ^ (256 - 64 * i) = 2 ^ 64 * 2 ^ (192 - 64 * i) := by rw [← Nat.pow_add]; congr 1; omega
  rw [e] at h
  have h1 := borrow_lt x y (64 * i)
  generalize 2 ^ (192 - 64 * i) = c at *
  omega
theorem wsub_loop (N : Nat) (x y : Nat) (hy : y < 2 ^ 256) (z : Vec 4) : ∀ m i n : Nat, i + m = 4 → m < n → l99_0 N n (borrow x y (64 * i) : Int) i (tab 4 fun j => if j < i then (((2 ^ 256 + x - y) / 2 ^ (64 * j) % 2 ^ 64 : Nat) : Int) else ((x / 2 ^ (64 * j) % 2 ^ 64 : Nat) : Int)) (W y) z = some (W (2 ^ 256 + x - y), decide (borrow x y 256 = 1)) := by
  intro m
  induction m with
  | zero =>
    intro i n hi hn
    obtain ⟨n, rfl⟩ : ∃ n', n = n' + 1 := ⟨n - 1, by omega⟩
    obtain rfl : i = 4 := by omega
    show s99_0 N _ _ _ _ _ _ = _
    unfold s99_0
    have hc := borrow_lt x y 256
    rw [ltI_f (by omega), cond_false, show (0 : Int) = ((0 : Nat) : Int) from rfl, eq_n]
    have e : (!decide (borrow x y (64 * 4) = 0)) = decide (borrow x y 256 = 1) := by
      by_cases h : borrow x y 256 = 1
      · simp [h]
      · have : borrow x y 256 = 0 := by omega
        simp [this]
    rw [e]
    congr 2
  | succ m ih =>
    intro i n hi hn
    obtain ⟨n, rfl⟩ : ∃ n', n = n' + 1 := ⟨n - 1, by omega⟩
    show s99_0 N (l99_0 N n) _ _ _ _ _ = _
    unfold s99_0
    have hm : ∀ u : Nat, u % 2 ^ 64 < 2 ^ 64 := fun u => Nat.mod_lt _ (by decide)
    simp only [ltI_t (show (i : Int) < 4 by omega), leI_t (show (0 : Int) ≤ i by omega), cond_true]
    rw [rd_tab (show i < 4 by omega), rd_W (by omega), if_neg (by omega), sub64_n _ _ _ (hm _) (hm _) (borrow_lt x y _), Option.bind_some, borrow_word x y i (by omega) hy, borrow_word_next, st_tab (by omega), addI_i (by omega) (by omega)]
    refine Eq.trans ?_ (ih (i + 1) n (by omega) (by omega))
    congr 1
    apply tab_congr
    intro j hj
    by_cases h1 : j = i
    · subst h1; simp
    · simp only [h1, if_false]
      by_cases h2 : j < i
      · rw [if_pos h2, if_pos (by omega)]
      · rw [if_neg h2, if_neg (by omega)]
theorem sub_eq (N : Nat) (hN : 300 ≤ N) (x y : Nat) (hx : x < 2 ^ 256) (hy : y < 2 ^ 256) : fn_wide_Sub N (W x) (W y) = some (W ((2 ^ 256 + x - y) % 2 ^ 256), decide (x < y)) := by
  unfold fn_wide_Sub t99
  have h := wsub_loop N x y hy (Vec.zero 4) 4 0 N (by omega) (by omega)
  have h0 : borrow x y (64 * 0) = 0 := by unfold borrow; simp [Nat.mod_one]
  rw [h0] at h
  rw [W_mod]
  refine Eq.trans ?_ (h.trans ?_)
  · congr 1
  · congr 2
    unfold borrow
    rw [Nat.mod_eq_of_lt hx, Nat.mod_eq_of_lt hy, decide_eq_decide]
    split <;> omega
theorem tb (x i : Nat) : x.testBit i = decide (bitN x i = 1) := Nat.testBit_eq_decide_div_mod_eq
theorem bit_tb (x i : Nat) : bitN x i = if x.testBit i = true then 1 else 0 := by
  rw [tb]; have := bit_lt x i
  by_cases h : bitN x i = 1
  · simp [h]
  · have : bitN x i = 0 := by omega
    simp [this]
/-! ### moves up -/
theorem shl_word (x k s : Nat) (hs : s < 64) : x * 2 ^ s / 2 ^ (64 * (k + 1)) % 2 ^ 64 = (x / 2 ^ (64 * (k + 1)) % 2 ^ 64 * 2 ^ s % 2 ^ 64) ||| (x / 2 ^ (64 * k) % 2 ^ 64 / 2 ^ (64 - s)) := by
  apply Nat.eq_of_testBit_eq
  intro j
  simp only [Nat.testBit_or, Nat.testBit_mod_two_pow, Nat.testBit_div_two_pow, Nat.testBit_mul_two_pow]
  by_cases h1 : j < 64
  · by_cases h2 : s ≤ j
    · have e : j - s + 64 * (k + 1) = j + 64 * (k + 1) - s := by omega
      have h3 : ¬ (j + (64 - s) < 64) := by omega
      have h4 : s ≤ j + 64 * (k + 1) := by omega
      have h5 : j - s < 64 := by omega
      simp [h1, h2, h3, h4, h5, e]
    · have e : j + (64 - s) + 64 * k = j + 64 * (k + 1) - s := by omega
      have h3 : j + (64 - s) < 64 := by omega
      have h4 : s ≤ j + 64 * (k + 1) := by omega
      simp [h1, h2, h3, h4, e]
  · have h3 : ¬ (j + (64 - s) < 64) := by omega
    simp [h1, h3]
theorem shl_word0 (x s : Nat) : x * 2 ^ s % 2 ^ 64 = x % 2 ^ 64 * 2 ^ s % 2 ^ 64 := by rw [Nat.mod_mul_mod]
theorem shl_top (x b s k : Nat) : x * 2 ^ (64 * b + s) / 2 ^ (64 * (b + k)) = x * 2 ^ s / 2 ^ (64 * k) := by
  rw [Nat.pow_add, Nat.mul_add, Nat.pow_add, ← Nat.mul_assoc, Nat.mul_comm x, Nat.mul_assoc, Nat.mul_div_mul_left _ _ (pow_pos' _)]
theorem shl_low (x b s i : Nat) (h : i < b) : x * 2 ^ (64 * b + s) / 2 ^ (64 * i) % 2 ^ 64 = 0 := by
  obtain ⟨c, rfl⟩ : ∃ c, b = i + 1 + c := ⟨b - i - 1, by omega⟩
  have e : 2 ^ (64 * (i + 1 + c) + s) = 2 ^ (64 * i) * (2 ^ 64 * 2 ^ (64 * c + s)) := by rw [← Nat.pow_add, ← Nat.pow_add]; congr 1; omega
  rw [e, Nat.mul_left_comm, Nat.mul_div_cancel_left _ (pow_pos' _), Nat.mul_left_comm]
  exact Nat.mul_mod_right ..
theorem shl_loop (N : Nat) (x b s : Nat) (hb : b < 4) (hs : s < 64) (z : Vec 4) : ∀ k n : Nat, b + k ≤ 4 → k < n →
    l78_0 N n ((64 * b + s : Nat) : Int) (b : Int) ((b : Int) + (k : Int) - 1) (W x) z (tab 4 fun j => if b + k ≤ j then ((x * 2 ^ (64 * b + s) / 2 ^ (64 * j) % 2 ^ 64 : Nat) : Int) else 0) = some (W (x * 2 ^ (64 * b + s))) := by
  intro k
  induction k with
  | zero =>
    intro n hk hn
    obtain ⟨n, rfl⟩ : ∃ n', n = n' + 1 := ⟨n - 1, by omega⟩
    show s78_0 N _ _ _ _ _ _ _ = _
    unfold s78_0
    rw [leI_f (by omega), cond_false]
    congr 1
    apply tab_congr
    intro j hj
    split
    · rfl
    · rw [shl_low x b s j (by omega)]; rfl
  | succ k ih =>
    intro n hk hn
    obtain ⟨n, rfl⟩ : ∃ n', n = n' + 1 := ⟨n - 1, by omega⟩
    show s78_0 N (l78_0 N n) _ _ _ _ _ _ = _
    unfold s78_0
    have e0 : (b : Int) + ((k + 1 : Nat) : Int) - 1 = ((b + k : Nat) : Int) := by omega
    have e1 : subI .i64 ((b + k : Nat) : Int) (b : Int) = (k : Int) := by rw [subI_i (by omega) (by omega)]; omega
    have e2 : remI .i64 ((64 * b + s : Nat) : Int) 64 = (s : Int) := by rw [show (64 : Int) = ((64 : Nat) : Int) from rfl, remI_n]; congr 1; omega
    have e3 : subI .i64 64 (s : Int) = ((64 - s : Nat) : Int) := by rw [subI_i (by omega) (by omega)]; omega
    rw [e0, e1, e2, e3]
    rw [leI_t (show (b : Int) ≤ ((b + k : Nat) : Int) by omega), cond_true, leI_t (show (0 : Int) ≤ (k : Int) by omega), cond_true, ltI_t (show (k : Int) < 4 by omega), cond_true, ltI_f (show ¬ ((s : Int) < 0) by omega), cond_false, leI_t (show (0 : Int) ≤ ((b + k : Nat) : Int) by omega), cond_true, ltI_t (show ((b + k : Nat) : Int) < 4 by omega), cond_true]
    have e4 : subI .i64 ((b + k : Nat) : Int) 1 = (b : Int) + (k : Int) - 1 := by rw [subI_i (by omega) (by omega)]; omega
    rw [e4, rd_W (by omega), shlI_n (by omega), st_tab (by omega)]
    have hk' := ih n (by omega) (by omega)
    rcases k with _ | k
    · rw [ltI_f (by omega), cond_false]
      refine Eq.trans ?_ hk'
      congr 1
      apply tab_congr
      intro j hj
      have := shl_top x b s 0
      by_cases h1 : j = b + 0
      · rw [if_pos h1, if_pos (by omega), h1, this]
        simp only [Nat.mul_zero, Nat.pow_zero, Nat.div_one]
        rw [shl_word0 x s]
      · rw [if_neg h1]
        by_cases h2 : b + 1 ≤ j
        · rw [if_pos (by omega), if_pos (by omega)]
        · rw [if_neg (by omega), if_neg (by omega)]
    · have e5 : subI .i64 ((k + 1 : Nat) : Int) 1 = (k : Int) := by rw [subI_i (by omega) (by omega)]; omega
      rw [ltI_t (by omega), cond_true, e5, cond_true, cond_true, leI_t (by omega), cond_true, ltI_t (by omega), cond_true, ltI_f (by omega), cond_false, cond_true, cond_true]
      have hw : x / 2 ^ (64 * k) % 2 ^ 64 < 2 ^ 64 := Nat.mod_lt _ (by decide)
      rw [rd_tab (by omega), if_pos rfl, rd_W (by omega), shrI_n (k := .u64) (show 64 - s ≤ 64 by omega), orI_n (Nat.mod_lt _ (by decide)) (Nat.lt_of_le_of_lt (Nat.div_le_self ..) hw), st_tab (by omega)]
      refine Eq.trans ?_ hk'
      congr 1
      apply tab_congr
      intro j hj
      by_cases h1 : j = b + (k + 1)
      · subst h1
        rw [if_pos rfl, if_pos (by omega), shl_top x b s (k + 1), shl_word x k s hs]
      · rw [if_neg h1, if_neg h1]
        by_cases h2 : b + (k + 1 + 1) ≤ j
        · rw [if_pos (by omega), if_pos (by omega)]
        · rw [if_neg (by omega), if_neg (by omega)]
def shlZ (x : Nat) (n : Int) : Nat := if n < 1 then x else if 256 ≤ n then 0 else x * 2 ^ n.toNat % 2 ^ 256
theorem shl_eq (N : Nat) (hN : 300 ≤ N) (x : Nat) (n : Int) : fn_wide_Shl N (W x) n = some (W (shlZ x n)) := by
  unfold fn_wide_Shl t78 shlZ
  by_cases h1 : n < 1
  · rw [ltI_t h1, cond_true, if_pos h1]
  · rw [ltI_f h1, cond_false, if_neg h1]
    by_cases h2 : 256 ≤ n
    · rw [leI_t h2, cond_true, if_pos h2, W_zero]
    · rw [leI_f h2, cond_false, if_neg h2, W_mod]
      obtain ⟨m, rfl⟩ := Int.eq_ofNat_of_zero_le (show 0 ≤ n by omega)
      have h := shl_loop N x (m / 64) (m % 64) (by omega) (by omega) (Vec.zero 4) (4 - m / 64) N (by omega) (by omega)
      rw [show 64 * (m / 64) + m % 64 = m by omega] at h
      rw [Int.toNat_natCast, ← h, show (64 : Int) = ((64 : Nat) : Int) from rfl, quoI_i (by omega)]
      congr 1
      · omega
      · rw [zero_tab]
        apply tab_congr
        intro j hj
        rw [if_neg (by omega)]
theorem shl_lt (x : Nat) (hx : x < 2 ^ 256) (n : Int) : shlZ x n < 2 ^ 256 := by
  unfold shlZ; split
  · exact hx
  · split
    · decide
    · exact Nat.mod_lt _ (by decide)
theorem bit_shl (x n i : Nat) : bitN (x * 2 ^ n) i = if i < n then 0 else bitN x (i - n) := by
  rw [bit_tb, bit_tb, Nat.testBit_mul_two_pow]
  by_cases h : i < n
  · simp [h, show ¬ n ≤ i by omega]
  · simp [h, show n ≤ i by omega]
theorem shr_word (x b s i : Nat) (hs : s < 64) : x / 2 ^ (64 * b + s) / 2 ^ (64 * i) % 2 ^ 64 = (x / 2 ^ (64 * (i + b)) % 2 ^ 64 / 2 ^ s) ||| (x / 2 ^ (64 * (i + b + 1)) % 2 ^ 64 * 2 ^ (64 - s) % 2 ^ 64) := by
  apply Nat.eq_of_testBit_eq
  intro j
  simp only [Nat.testBit_or, Nat.testBit_mod_two_pow, Nat.testBit_div_two_pow, Nat.testBit_mul_two_pow]
  have e0 : j + 64 * i + (64 * b + s) = j + s + 64 * (i + b) := by omega
  rw [e0]
  by_cases h1 : j < 64
  · by_cases h2 : j + s < 64
    · have h3 : ¬ (64 - s ≤ j) := by omega
      simp [h1, h2, h3]
    · have h3 : 64 - s ≤ j := by omega
      have h4 : j - (64 - s) < 64 := by omega
      have e : j - (64 - s) + 64 * (i + b + 1) = j + s + 64 * (i + b) := by omega
      simp [h1, h2, h3, h4, e]
  · have h3 : ¬ (j + s < 64) := by omega
    simp [h1, h3]
theorem shr_loop (N : Nat) (hN : 300 ≤ N) (x b s : Nat) (hx : x < 2 ^ 256) (hb : b < 4) (hs : s < 64) (z : Vec 4) : ∀ k i n : Nat, b + i + k = 4 → k < n →
    l66_0 N n ((64 * b + s : Nat) : Int) (b : Int) ((4 - b : Nat) : Int) (i : Int) (W x) z (tab 4 fun j => if j < i then ((x / 2 ^ (64 * b + s) / 2 ^ (64 * j) % 2 ^ 64 : Nat) : Int) else 0) = some (W (x / 2 ^ (64 * b + s)), !(eqL (W (shlZ (x / 2 ^ (64 * b + s)) ((64 * b + s : Nat) : Int))).1 (W x).1)) := by
  intro k
  induction k with
  | zero =>
    intro i n hk hn
    obtain ⟨n, rfl⟩ : ∃ n', n = n' + 1 := ⟨n - 1, by omega⟩
    show s66_0 N _ _ _ _ _ _ _ _ = _
    unfold s66_0
    have e : (tab 4 fun j => if j < i then ((x / 2 ^ (64 * b + s) / 2 ^ (64 * j) % 2 ^ 64 : Nat) : Int) else 0) = W (x / 2 ^ (64 * b + s)) := by
      apply tab_congr
      intro j hj
      split
      · rfl
      · have h1 : x / 2 ^ (64 * b + s) / 2 ^ (64 * j) = 0 := by
          rw [Nat.div_div_eq_div_mul, ← Nat.pow_add]
          exact Nat.div_eq_of_lt (Nat.lt_of_lt_of_le hx (Nat.pow_le_pow_right (by decide) (by omega)))
        rw [h1]; rfl
    rw [ltI_f (by omega), cond_false, e, shl_eq N hN, Option.bind_some]
  | succ k ih =>
    intro i n hk hn
    obtain ⟨n, rfl⟩ : ∃ n', n = n' + 1 := ⟨n - 1, by omega⟩
    show s66_0 N (l66_0 N n) _ _ _ _ _ _ _ = _
    unfold s66_0
    have e1 : addI .i64 (i : Int) (b : Int) = ((i + b : Nat) : Int) := by rw [addI_i (by omega) (by omega)]; omega
    have e2 : remI .i64 ((64 * b + s : Nat) : Int) 64 = (s : Int) := by rw [show (64 : Int) = ((64 : Nat) : Int) from rfl, remI_n]; congr 1; omega
    have e3 : subI .i64 64 (s : Int) = ((64 - s : Nat) : Int) := by rw [subI_i (by omega) (by omega)]; omega
    have e4 : addI .i64 ((i + b : Nat) : Int) 1 = ((i + b + 1 : Nat) : Int) := by rw [addI_i (by omega) (by omega)]; omega
    have e5 : addI .i64 (i : Int) 1 = ((i + 1 : Nat) : Int) := by rw [addI_i (by omega) (by omega)]; omega
    rw [e1, e2, e3, e4, e5]
    have c1 : ltI (i : Int) ((4 - b : Nat) : Int) = true := ltI_t (by omega)
    have c2 : leI (0 : Int) ((i + b : Nat) : Int) = true := leI_t (by omega)
    have c3 : ltI ((i + b : Nat) : Int) 4 = true := ltI_t (by omega)
    have c4 : ltI (s : Int) 0 = false := ltI_f (by omega)
    have c5 : leI (0 : Int) (i : Int) = true := leI_t (by omega)
    have c6 : ltI (i : Int) 4 = true := ltI_t (by omega)
    have c7 : leI (0 : Int) ((i + b + 1 : Nat) : Int) = true := leI_t (by omega)
    have c8 : ltI ((64 - s : Nat) : Int) 0 = false := ltI_f (by omega)
    simp only [c1, c2, c3, c4, c5, c6, c7, c8, cond_true, cond_false]
    have hw : x / 2 ^ (64 * (i + b)) % 2 ^ 64 < 2 ^ 64 := Nat.mod_lt _ (by decide)
    have hi := ih (i + 1) n (by omega) (by omega)
    rw [rd_W (by omega), shrI_n (k := .u64) (show s ≤ 64 by omega), st_tab (by omega)]
    by_cases h : i + b + 1 < 4
    · rw [ltI_t (show ((i + b + 1 : Nat) : Int) < 4 by omega)]
      simp only [cond_true]
      rw [rd_tab (by omega), if_pos rfl, rd_W (by omega), shlI_n (by omega), orI_n (Nat.lt_of_le_of_lt (Nat.div_le_self ..) hw) (Nat.mod_lt _ (by decide)), st_tab (by omega)]
      refine Eq.trans ?_ hi
      congr 1
      apply tab_congr
      intro j hj
      by_cases h1 : j = i
      · rw [if_pos h1, if_pos (by omega), h1, shr_word x b s i hs]
      · rw [if_neg h1, if_neg h1]
        by_cases h2 : j < i
        · rw [if_pos h2, if_pos (by omega)]
        · rw [if_neg h2, if_neg (by omega)]
    · rw [ltI_f (show ¬ (((i + b + 1 : Nat) : Int) < 4) by omega), cond_false]
      refine Eq.trans ?_ hi
      congr 1
      apply tab_congr
      intro j hj
      by_cases h1 : j = i
      · have h0 : x / 2 ^ (64 * (i + b + 1)) = 0 := Nat.div_eq_of_lt (Nat.lt_of_lt_of_le hx (Nat.pow_le_pow_right (by decide) (by omega)))
        rw [if_pos h1, if_pos (by omega), h1, shr_word x b s i hs, h0]; simp
      · rw [if_neg h1]
        by_cases h2 : j < i
        · rw [if_pos h2, if_pos (by omega)]
        · rw [if_neg h2, if_neg (by omega)]
def shrZ (x : Nat) (n : Int) : Nat := if n < 1 then x else x / 2 ^ n.toNat
def lostZ (x : Nat) (n : Int) : Bool := if n < 1 then false else decide (x % 2 ^ n.toNat ≠ 0)
theorem shr_lt (x : Nat) (hx : x < 2 ^ 256) (n : Int) : shrZ x n < 2 ^ 256 := by
  unfold shrZ; split
  · exact hx
  · exact Nat.lt_of_le_of_lt (Nat.div_le_self ..) hx
theorem back (x n : Nat) (hx : x < 2 ^ 256) (hn : n < 256) : x / 2 ^ n * 2 ^ n % 2 ^ 256 = x ↔ x % 2 ^ n = 0 := by
  have h := Nat.div_add_mod x (2 ^ n)
  rw [Nat.mul_comm] at h
  rw [Nat.mod_eq_of_lt (by omega)]
  omega
theorem shr_eq (N : Nat) (hN : 300 ≤ N) (x : Nat) (hx : x < 2 ^ 256) (n : Int) : fn_wide_Shr N (W x) n = some (W (shrZ x n), lostZ x n) := by
  unfold fn_wide_Shr t66 shrZ lostZ
  by_cases h1 : n < 1
  · rw [ltI_t h1, cond_true, if_pos h1, if_pos h1]
  · rw [ltI_f h1, cond_false, if_neg h1, if_neg h1]
    obtain ⟨m, rfl⟩ := Int.eq_ofNat_of_zero_le (show 0 ≤ n by omega)
    rw [Int.toNat_natCast]
    by_cases h2 : 256 ≤ m
    · have hp : x < 2 ^ m := Nat.lt_of_lt_of_le hx (Nat.pow_le_pow_right (by decide) h2)
      rw [leI_t (by omega), cond_true, Nat.div_eq_of_lt hp, Nat.mod_eq_of_lt hp, W_zero, W_eq hx (by decide)]
      by_cases h3 : x = 0 <;> simp [h3]
    · rw [leI_f (by omega), cond_false]
      have h := shr_loop N hN x (m / 64) (m % 64) hx (by omega) (by omega) (Vec.zero 4) (4 - m / 64) 0 N (by omega) (by omega)
      rw [show 64 * (m / 64) + m % 64 = m by omega] at h
      have e1 : quoI .i64 (m : Int) 64 = ((m / 64 : Nat) : Int) := by rw [show (64 : Int) = ((64 : Nat) : Int) from rfl, quoI_i (by omega)]
      have e2 : subI .i64 4 ((m / 64 : Nat) : Int) = ((4 - m / 64 : Nat) : Int) := by rw [subI_i (by omega) (by omega)]; omega
      rw [e1, e2]
      refine Eq.trans ?_ (h.trans ?_)
      · congr 1
      · rw [W_eq (shl_lt _ (Nat.lt_of_le_of_lt (Nat.div_le_self ..) hx) _) hx]
        have hz : shlZ (x / 2 ^ m) (m : Int) = x / 2 ^ m * 2 ^ m % 2 ^ 256 := by
          unfold shlZ; rw [if_neg (by omega), if_neg (by omega), Int.toNat_natCast]
        rw [hz]
        have hb := back x m hx (by omega)
        by_cases h3 : x % 2 ^ m = 0
        · simp [h3, hb.2 h3]
        · have : ¬ (x / 2 ^ m * 2 ^ m % 2 ^ 256 = x) := fun h => h3 (hb.1 h)
          simp [h3, this]
theorem bit_shr (x n i : Nat) : bitN (x / 2 ^ n) i = bitN x (i + n) := by
  unfold bitN
  rw [Nat.div_div_eq_div_mul, ← Nat.pow_add, Nat.add_comm n i]
theorem lost_step (x i : Nat) : x % 2 ^ (i + 1) ≠ 0 ↔ x % 2 ^ i ≠ 0 ∨ bitN x i = 1 := by
  rw [mod_succ]
  have h1 := bit_lt x i; have h2 := pow_pos' i
  obtain h | h : bitN x i = 0 ∨ bitN x i = 1 := by omega
  · rw [h]; simp
  · rw [h]; simp
def lenN (x : Nat) : Nat := if x = 0 then 0 else Nat.log2 x + 1
theorem lenU {x n : Nat} (h1 : x < 2 ^ n) (h2 : n = 0 ∨ 2 ^ (n - 1) ≤ x) : lenN x = n := by
  unfold lenN
  rcases n with _ | m
  · have : x = 0 := by simpa using h1
    simp [this]
  · have h3 : 2 ^ m ≤ x := by simpa using h2
    have h4 : x ≠ 0 := by have := pow_pos' m; omega
    rw [if_neg h4, (Nat.log2_eq_iff h4).2 ⟨h3, h1⟩]
theorem lenN_spec (x : Nat) : x < 2 ^ lenN x ∧ (lenN x = 0 ∨ 2 ^ (lenN x - 1) ≤ x) := by
  unfold lenN
  by_cases h : x = 0
  · simp [h]
  · rw [if_neg h]
    obtain ⟨h1, h2⟩ := (Nat.log2_eq_iff h).1 rfl
    exact ⟨h2, .inr (by simpa using h1)⟩
theorem lenN_le {x n : Nat} (h : x < 2 ^ n) : lenN x ≤ n := by
  obtain ⟨_, h2⟩ := lenN_spec x
  rcases h2 with h2 | h2
  · omega
  · apply Nat.le_of_not_lt
    intro h3
    have := Nat.pow_le_pow_right (show 0 < 2 by decide) (show n ≤ lenN x - 1 by omega)
    omega
theorem lenN_shift {x k : Nat} (h : x / 2 ^ k ≠ 0) : lenN x = k + lenN (x / 2 ^ k) := by
  obtain ⟨h1, h2⟩ := lenN_spec (x / 2 ^ k)
  have h3 : lenN (x / 2 ^ k) ≠ 0 := fun h4 => by rw [h4, Nat.pow_zero] at h1; exact h (Nat.lt_one_iff.1 h1)
  apply lenU
  · rw [Nat.pow_add, Nat.mul_comm]
    exact (Nat.div_lt_iff_lt_mul (pow_pos' k)).1 h1
  · right
    have h5 : 2 ^ (lenN (x / 2 ^ k) - 1) ≤ x / 2 ^ k := by omega
    rw [show k + lenN (x / 2 ^ k) - 1 = (lenN (x / 2 ^ k) - 1) + k by omega, Nat.pow_add]
    exact (Nat.le_div_iff_mul_le (pow_pos' k)).1 h5
theorem tb_all : ((List.range 256).all fun b => sAt str0 (b : Int) == (lenN b : Int)) = true := by decide +kernel
theorem tb_eq (b : Nat) (h : b < 256) : sAt str0 (b : Int) = (lenN b : Int) := by
  have := List.all_eq_true.1 tb_all b (by simpa using h)
  simpa using this
theorem str_size : (str0.size : Int) = 256 := by decide +kernel
theorem wrap_u8 (a : Int) : IntKind.u8.wrap a = a % 256 := by simp [IntKind.wrap, IntKind.bits, IntKind.signed]
theorem fin8 (b c : Nat) (hb : b < 256) (hc : c ≤ 56) : cond (leI 0 (cvI .u8 (b : Int))) (cond (ltI (cvI .u8 (b : Int)) (str0.size : Int)) (some (addI .i64 (c : Int) (cvI .i64 (sAt str0 (cvI .u8 (b : Int)))))) none) none = some ((c + lenN b : Nat) : Int) := by
  have e : cvI .u8 (b : Int) = (b : Int) := by unfold cvI; rw [wrap_u8]; omega
  have hl := lenN_le (show b < 2 ^ 8 from hb)
  rw [e, str_size, leI_t (by omega), cond_true, ltI_t (by omega), cond_true, tb_eq b hb, cvI_i (by omega) (by omega), addI_i (by omega) (by omega)]
  rfl
theorem ge_n (c x : Nat) : leI ((c : Nat) : Int) (x : Int) = decide (c ≤ x) := le_n
theorem len64_eq (N x : Nat) (hx : x < 2 ^ 64) : fn_bits_Len64 N (x : Int) = some (lenN x : Int) := by
  have s32 : ∀ y : Nat, shrI .u64 (y : Int) 32 = ((y / 2 ^ 32 : Nat) : Int) := fun y => shrI_n (k := .u64) (show 32 ≤ 64 by decide)
  have s16 : ∀ y : Nat, shrI .u64 (y : Int) 16 = ((y / 2 ^ 16 : Nat) : Int) := fun y => shrI_n (k := .u64) (show 16 ≤ 64 by decide)
  have s8 : ∀ y : Nat, shrI .u64 (y : Int) 8 = ((y / 2 ^ 8 : Nat) : Int) := fun y => shrI_n (k := .u64) (show 8 ≤ 64 by decide)
  have g1 : leI 4294967296 (x : Int) = decide (2 ^ 32 ≤ x) := ge_n (2 ^ 32) x
  have g2 : ∀ y : Nat, leI 65536 (y : Int) = decide (2 ^ 16 ≤ y) := ge_n (2 ^ 16)
  have g3 : ∀ y : Nat, leI 256 (y : Int) = decide (2 ^ 8 ≤ y) := ge_n (2 ^ 8)
  unfold fn_bits_Len64
  simp only [s32, s16, s8, g1, g2, g3]
  have a1 : addI .i64 (addI .i64 (addI .i64 32 16) 8) = addI .i64 ((56 : Nat) : Int) := rfl
  have a2 : addI .i64 (addI .i64 32 16) = addI .i64 ((48 : Nat) : Int) := rfl
  have a3 : addI .i64 (addI .i64 32 8) = addI .i64 ((40 : Nat) : Int) := rfl
  have a4 : addI .i64 (32 : Int) = addI .i64 ((32 : Nat) : Int) := rfl
  have a5 : addI .i64 (addI .i64 (addI .i64 0 16) 8) = addI .i64 ((24 : Nat) : Int) := rfl
  have a6 : addI .i64 (addI .i64 0 16) = addI .i64 ((16 : Nat) : Int) := rfl
  have a7 : addI .i64 (addI .i64 0 8) = addI .i64 ((8 : Nat) : Int) := rfl
  have a8 : addI .i64 (0 : Int) = addI .i64 ((0 : Nat) : Int) := rfl
  by_cases h1 : 2 ^ 32 ≤ x
  · rw [decide_eq_true h1, cond_true]
    by_cases h2 : 2 ^ 16 ≤ x / 2 ^ 32
    · rw [decide_eq_true h2, cond_true]
      by_cases h3 : 2 ^ 8 ≤ x / 2 ^ 32 / 2 ^ 16
      · rw [decide_eq_true h3, cond_true, a1, fin8 _ _ (by omega) (by omega), Nat.div_div_eq_div_mul, Nat.div_div_eq_div_mul, lenN_shift (x := x) (k := 56) (by omega)]
      · rw [decide_eq_false h3, cond_false, a2, fin8 _ _ (by omega) (by omega), Nat.div_div_eq_div_mul, lenN_shift (x := x) (k := 48) (by omega)]
    · rw [decide_eq_false h2, cond_false]
      by_cases h3 : 2 ^ 8 ≤ x / 2 ^ 32
      · rw [decide_eq_true h3, cond_true, a3, fin8 _ _ (by omega) (by omega), Nat.div_div_eq_div_mul, lenN_shift (x := x) (k := 40) (by omega)]
      · rw [decide_eq_false h3, cond_false, a4, fin8 _ _ (by omega) (by omega), lenN_shift (x := x) (k := 32) (by omega)]
  · rw [decide_eq_false h1, cond_false]
    by_cases h2 : 2 ^ 16 ≤ x
    · rw [decide_eq_true h2, cond_true]
      by_cases h3 : 2 ^ 8 ≤ x / 2 ^ 16
      · rw [decide_eq_true h3, cond_true, a5, fin8 _ _ (by omega) (by omega), Nat.div_div_eq_div_mul, lenN_shift (x := x) (k := 24) (by omega)]
      · rw [decide_eq_false h3, cond_false, a6, fin8 _ _ (by omega) (by omega), lenN_shift (x := x) (k := 16) (by omega)]
    · rw [decide_eq_false h2, cond_false]
      by_cases h3 : 2 ^ 8 ≤ x
      · rw [decide_eq_true h3, cond_true, a7, fin8 _ _ (by omega) (by omega), lenN_shift (x := x) (k := 8) (by omega)]
      · rw [decide_eq_false h3, cond_false, a8, fin8 _ _ (by omega) (by omega), Nat.zero_add]
theorem len_loop (N x : Nat) : ∀ i n : Nat, i ≤ 4 → i < n → x < 2 ^ (64 * i) → l63_0 N n ((i : Int) - 1) (W x) = some (lenN x : Int) := by
  intro i
  induction i with
  | zero =>
    intro n _ hn hx
    obtain ⟨n, rfl⟩ : ∃ n', n = n' + 1 := ⟨n - 1, by omega⟩
    show s63_0 N _ _ _ = _
    unfold s63_0
    have : x = 0 := by simpa using hx
    rw [leI_f (by omega), cond_false, this]; rfl
  | succ i ih =>
    intro n hi hn hx
    obtain ⟨n, rfl⟩ : ∃ n', n = n' + 1 := ⟨n - 1, by omega⟩
    show s63_0 N (l63_0 N n) _ _ = _
    unfold s63_0
    have e : ((i + 1 : Nat) : Int) - 1 = (i : Int) := by omega
    have hq : x / 2 ^ (64 * i) < 2 ^ 64 := by rw [Nat.div_lt_iff_lt_mul (pow_pos' _), ← Nat.pow_add, Nat.add_comm]; exact hx
    rw [e]
    simp only [leI_t (show (0 : Int) ≤ i by omega), ltI_t (show (i : Int) < 4 by omega), cond_true, rd_W (show i < 4 by omega)]
    rw [Nat.mod_eq_of_lt hq, show (0 : Int) = ((0 : Nat) : Int) from rfl, eq_n]
    by_cases h : x / 2 ^ (64 * i) = 0
    · rw [decide_eq_true h, Bool.not_true, cond_false, subI_i (by omega) (by omega)]
      refine ih n (by omega) (by omega) ?_
      have := (Nat.div_eq_zero_iff).1 h
      rcases this with h2 | h2
      · exact absurd h2 (Nat.ne_of_gt (pow_pos' _))
      · exact h2
    · have hl := lenN_le hq
      rw [decide_eq_false h, Bool.not_false, cond_true, len64_eq N _ hq, Option.bind_some, lenN_shift h, mulI_i (by omega) (by omega), addI_i (by omega) (by omega)]
      rfl
theorem len_eq (N : Nat) (hN : 300 ≤ N) (x : Nat) (hx : x < 2 ^ 256) : fn_wide_Len N (W x) = some (lenN x : Int) := by
  unfold fn_wide_Len t63
  exact len_loop N x 4 N (by omega) (by omega) hx
theorem wbit_eq (N x : Nat) (n : Int) : fn_wide_Bit N (W x) n = some (bitZ x n) := by
  unfold fn_wide_Bit bitZ
  by_cases h0 : n < 0
  · rw [ltI_t h0, cond_true, if_pos (.inl h0)]
  · rw [ltI_f h0, cond_false]
    by_cases h1 : 256 ≤ n
    · rw [leI_t h1, cond_true, if_pos (.inr (by omega))]
    · rw [leI_f h1, cond_false, if_neg (by omega)]
      obtain ⟨i, rfl⟩ := Int.eq_ofNat_of_zero_le (show 0 ≤ n by omega)
      rw [Int.toNat_natCast, show (64 : Int) = ((64 : Nat) : Int) from rfl, quoI_i (by omega), remI_n, leI_t (by omega), cond_true, ltI_t (by omega), cond_true, ltI_f (by omega), cond_false, rd_W (by omega), shrI_n (k := .u64) (show i % 64 ≤ 64 by omega)]
      have hw : x / 2 ^ (64 * (i / 64)) % 2 ^ 64 < 2 ^ 64 := Nat.mod_lt _ (by decide)
      rw [show (1 : Int) = ((1 : Nat) : Int) from rfl, andI_n (Nat.lt_of_le_of_lt (Nat.div_le_self ..) hw) (by decide), Nat.and_one_is_mod, bit_word (by omega), show 64 * (i / 64) + i % 64 = i by omega]
theorem bitZ_lt (x : Nat) (n : Int) : 0 ≤ bitZ x n ∧ bitZ x n ≤ 1 := by
  unfold bitZ; have := bit_lt x n.toNat
  split <;> omega
theorem of_small (N k : Nat) (hk : k < 2 ^ 64) : fn_wide_Of N (k : Int) = some (W k) := by
  unfold fn_wide_Of
  congr 1
  rw [zero_tab, show (0 : Int) = ((0 : Nat) : Int) from rfl, st_tab (by omega)]
  apply tab_congr
  intro i hi
  match i, hi with
  | 0, _ => simp; omega
  | 1, _ => simp; omega
  | 2, _ => simp; omega
  | 3, _ => simp; omega
def part (x i : Nat) : Nat := x / 2 ^ (16 * i) % 2 ^ 16
theorem part_lt (x i : Nat) : part x i < 65536 := Nat.mod_lt _ (by decide)
def wsum (z : Nat → Nat) : Nat → Nat
  | 0 => 0
  | n + 1 => wsum z n + z n * 2 ^ (16 * n)
theorem wsum_part (x : Nat) : ∀ n, wsum (part x) n = x % 2 ^ (16 * n)
  | 0 => by simp [wsum, Nat.mod_one]
  | n + 1 => by
    rw [wsum, wsum_part x n, show 16 * (n + 1) = 16 * n + 16 by omega, Nat.pow_add, Nat.mod_mul]
    unfold part
    rw [Nat.mul_comm (x / 2 ^ (16 * n) % 2 ^ 16)]
theorem wsum_upd (z : Nat → Nat) (j d : Nat) : ∀ n, wsum (fun k => if k = j then z k + d else z k) n = wsum z n + (if j < n then d * 2 ^ (16 * j) else 0)
  | 0 => by simp [wsum]
  | n + 1 => by
    rw [wsum, wsum, wsum_upd z j d n]
    by_cases h : n = j
    · subst h
      rw [if_pos rfl, if_neg (by omega), if_pos (by omega), Nat.add_mul]; omega
    · rw [if_neg h]
      by_cases h2 : j < n
      · rw [if_pos h2, if_pos (by omega)]; omega
      · rw [if_neg h2, if_neg (by omega)]; omega
theorem part_word {x k j : Nat} (h : j + 16 ≤ 64) : x / 2 ^ (64 * k) % 2 ^ 64 / 2 ^ j % 2 ^ 16 = x / 2 ^ (64 * k + j) % 2 ^ 16 := by
  have e : (2 : Nat) ^ 64 = 2 ^ j * 2 ^ (64 - j) := by rw [← Nat.pow_add]; congr 1; omega
  rw [e, Nat.mod_mul_right_div_self, Nat.mod_mod_of_dvd _ (Nat.pow_dvd_pow 2 (by omega)), Nat.div_div_eq_div_mul, ← Nat.pow_add]
theorem low_word (s q n : Nat) (h : 64 * q + 64 ≤ n) : s % 2 ^ n / 2 ^ (64 * q) % 2 ^ 64 = s / 2 ^ (64 * q) % 2 ^ 64 := by
  have e : 2 ^ n = 2 ^ (64 * q) * 2 ^ (n - 64 * q) := by rw [← Nat.pow_add]; congr 1; omega
  rw [e, Nat.mod_mul_right_div_self, Nat.mod_mod_of_dvd _ (Nat.pow_dvd_pow 2 (by omega))]
theorem prod_lt (n x y : Nat) (hx : x < 2 ^ n) (hy : y < 2 ^ n) : x * y < 2 ^ (n + n) := by
  rw [Nat.pow_add]
  exact Nat.lt_of_le_of_lt (Nat.mul_le_mul_left _ (Nat.le_of_lt hy)) (Nat.mul_lt_mul_of_pos_right hx (pow_pos' n))
theorem top_zero (a b c n : Nat) (h : a + c * 2 ^ n = b) (hb : b < 2 ^ n) : a = b := by
  rcases c with _ | c
  · omega
  · rw [Nat.add_mul, Nat.one_mul] at h; omega
theorem word_low {u d i w : Nat} (h : 64 * (w + 1) ≤ 16 * i) : (u + 2 ^ (16 * i) * d) / 2 ^ (64 * w) % 2 ^ 64 = u / 2 ^ (64 * w) % 2 ^ 64 := by
  have e : 2 ^ (16 * i) = 2 ^ (64 * w) * (2 ^ 64 * 2 ^ (16 * i - 64 * (w + 1))) := by rw [← Nat.pow_add, ← Nat.pow_add]; congr 1; omega
  rw [e, Nat.mul_assoc, Nat.add_mul_div_left _ _ (pow_pos' _), Nat.mul_assoc, Nat.add_mul_mod_self_left]
theorem wsum_mono (z : Nat → Nat) : ∀ n, wsum z (n + 1) = wsum z n + 2 ^ (16 * n) * z n := fun n => by rw [wsum, Nat.mul_comm]
theorem digits_step (z : Nat → Nat) (i : Nat) : wsum z (i + 1) % 2 ^ (16 * (i + 1)) = wsum z i % 2 ^ (16 * i) + 2 ^ (16 * i) * ((wsum z i / 2 ^ (16 * i) + z i) % 2 ^ 16) := by
  rw [show 16 * (i + 1) = 16 * i + 16 by omega, Nat.pow_add, Nat.mod_mul, wsum_mono, Nat.add_mul_mod_self_left, Nat.add_mul_div_left _ _ (pow_pos' _)]
theorem carry_step (z : Nat → Nat) (i : Nat) : wsum z (i + 1) / 2 ^ (16 * (i + 1)) = (wsum z i / 2 ^ (16 * i) + z i) / 2 ^ 16 := by
  rw [show 16 * (i + 1) = 16 * i + 16 by omega, Nat.pow_add, ← Nat.div_div_eq_div_mul, wsum_mono, Nat.add_mul_div_left _ _ (pow_pos' _)]
theorem fin_sum (z : Nat → Nat) (x y n m : Nat) (hn : n = 32) (hm : m = 256) (hx : x < 2 ^ m) (hy : y < 2 ^ m) (hz : wsum z (n + 1) = x * y) : wsum z n = x * y :=
  top_zero _ _ _ (16 * n) hz (Nat.lt_of_lt_of_le (prod_lt m x y hx hy) (Nat.pow_le_pow_right (by decide) (by omega)))
/-- one word -/
def wd (s q : Nat) : Nat := s / 2 ^ (64 * q) % 2 ^ 64
theorem W_low (s : Nat) : W (s % 2 ^ 256) = tab 4 fun i => (wd s i : Int) := by rw [W_mod]; rfl
theorem W_high (s : Nat) : W (s / 2 ^ 256) = tab 4 fun i => (wd s (i + 4) : Int) := by
  apply tab_congr
  intro i hi
  unfold wd
  rw [Nat.div_div_eq_div_mul, ← Nat.pow_add, show 256 + 64 * i = 64 * (i + 4) by omega]
theorem and_mask (x : Nat) (hx : x < 2 ^ 64) : andI .u64 (x : Int) 4294967295 = ((x % 2 ^ 32 : Nat) : Int) := by
  rw [show (4294967295 : Int) = ((2 ^ 32 - 1 : Nat) : Int) from rfl, andI_n hx (by decide), Nat.and_two_pow_sub_one_eq_mod]
theorem mul_nn (x y : Nat) : (x : Int) * (y : Int) = ((x * y : Nat) : Int) := (Int.natCast_mul x y).symm
theorem mul64_eq (N x y : Nat) (hx : x < 2 ^ 64) (hy : y < 2 ^ 64) : fn_bits_Mul64 N (x : Int) (y : Int) = some (((x * y / 2 ^ 64 : Nat) : Int), ((x * y % 2 ^ 64 : Nat) : Int)) := by
  unfold fn_bits_Mul64
  have s32 : ∀ y : Nat, shrI .u64 (y : Int) 32 = ((y / 2 ^ 32 : Nat) : Int) := fun y => shrI_n (k := .u64) (show 32 ≤ 64 by decide)
  rw [and_mask x hx, and_mask y hy, s32, s32]
  have ha : x / 2 ^ 32 < 2 ^ 32 := by omega
  have hb : x % 2 ^ 32 < 2 ^ 32 := by omega
  have hc : y / 2 ^ 32 < 2 ^ 32 := by omega
  have hd : y % 2 ^ 32 < 2 ^ 32 := by omega
  have ex : x = 2 ^ 32 * (x / 2 ^ 32) + x % 2 ^ 32 := by omega
  have ey : y = 2 ^ 32 * (y / 2 ^ 32) + y % 2 ^ 32 := by omega
  generalize x / 2 ^ 32 = a at *
  generalize x % 2 ^ 32 = b at *
  generalize y / 2 ^ 32 = c at *
  generalize y % 2 ^ 32 = d at *
  have pm : ∀ u v : Nat, u < 2 ^ 32 → v < 2 ^ 32 → u * v ≤ 18446744065119617025 := fun u v h1 h2 => Nat.mul_le_mul (show u ≤ 4294967295 by omega) (show v ≤ 4294967295 by omega)
  have p1 := pm a c ha hc; have p2 := pm a d ha hd; have p3 := pm b c hb hc; have p4 := pm b d hb hd
  have exy : x * y = 18446744073709551616 * (a * c) + 4294967296 * (a * d) + 4294967296 * (b * c) + b * d := by
    rw [ex, ey, Nat.add_mul, Nat.mul_add, Nat.mul_add]
    have e1 : 2 ^ 32 * a * (2 ^ 32 * c) = 18446744073709551616 * (a * c) := by rw [Nat.mul_mul_mul_comm]
    have e2 : 2 ^ 32 * a * d = 4294967296 * (a * d) := by rw [Nat.mul_assoc]
    have e3 : b * (2 ^ 32 * c) = 4294967296 * (b * c) := by rw [Nat.mul_left_comm]
    rw [e1, e2, e3]; omega
  have mm : ∀ u v : Nat, u * v ≤ 18446744065119617025 → mulI .u64 (u : Int) (v : Int) = ((u * v : Nat) : Int) := fun u v h => by
    rw [mulI_u (by rw [mul_nn]; omega) (by rw [mul_nn]; omega), mul_nn]
  rw [mm a c p1, mm a d p2, mm b c p3, mm b d p4]
  have elo : mulI .u64 (x : Int) (y : Int) = ((x * y % 2 ^ 64 : Nat) : Int) := by
    unfold mulI; rw [wrap_u64, mul_nn]; rfl
  rw [elo]
  generalize a * c = A at *
  generalize a * d = D at *
  generalize b * c = C at *
  generalize b * d = F at *
  rw [s32]
  have t1 : addI .u64 (D : Int) ((F / 2 ^ 32 : Nat) : Int) = ((D + F / 2 ^ 32 : Nat) : Int) := by rw [addI_u (by omega) (by omega)]; omega
  rw [t1, s32, and_mask _ (by omega)]
  have t2 : addI .u64 (((D + F / 2 ^ 32) % 2 ^ 32 : Nat) : Int) (C : Int) = (((D + F / 2 ^ 32) % 2 ^ 32 + C : Nat) : Int) := by rw [addI_u (by omega) (by omega)]; omega
  rw [t2, s32]
  have t3 : addI .u64 (A : Int) (((D + F / 2 ^ 32) / 2 ^ 32 : Nat) : Int) = ((A + (D + F / 2 ^ 32) / 2 ^ 32 : Nat) : Int) := by rw [addI_u (by omega) (by omega)]; omega
  rw [t3]
  have t4 : addI .u64 ((A + (D + F / 2 ^ 32) / 2 ^ 32 : Nat) : Int) ((((D + F / 2 ^ 32) % 2 ^ 32 + C) / 2 ^ 32 : Nat) : Int) = ((A + (D + F / 2 ^ 32) / 2 ^ 32 + ((D + F / 2 ^ 32) % 2 ^ 32 + C) / 2 ^ 32 : Nat) : Int) := by rw [addI_u (by omega) (by omega)]; omega
  rw [t4, exy]
  congr 3
  omega
def vs (z : Nat → Nat) : Nat → Nat
  | 0 => 0
  | n + 1 => vs z n + z n * 2 ^ (64 * n)
theorem vs_lt (z : Nat → Nat) (hz : ∀ j, z j < 2 ^ 64) : ∀ n, vs z n < 2 ^ (64 * n)
  | 0 => by simp [vs]
  | n + 1 => by
    rw [vs, pow_word]
    have h1 := vs_lt z hz n
    have h2 : (z n + 1) * 2 ^ (64 * n) ≤ 2 ^ 64 * 2 ^ (64 * n) := Nat.mul_le_mul_right _ (hz n)
    rw [Nat.add_mul, Nat.one_mul] at h2
    rw [Nat.mul_comm (2 ^ (64 * n)) (2 ^ 64)]
    omega
theorem vs_wd (z : Nat → Nat) (hz : ∀ j, z j < 2 ^ 64) : ∀ n j, j < n → wd (vs z n) j = z j
  | 0, j, h => by omega
  | n + 1, j, h => by
    unfold wd
    rw [vs]
    by_cases h1 : j = n
    · subst h1
      rw [Nat.mul_comm (z j), Nat.add_mul_div_left _ _ (pow_pos' _), Nat.div_eq_of_lt (vs_lt z hz j), Nat.zero_add, Nat.mod_eq_of_lt (hz j)]
    · have ih := vs_wd z hz n j (by omega)
      unfold wd at ih
      have e : 2 ^ (64 * n) = 2 ^ (64 * j) * (2 ^ 64 * 2 ^ (64 * n - 64 * (j + 1))) := by rw [← Nat.pow_add, ← Nat.pow_add]; congr 1; omega
      rw [e, Nat.mul_comm (z n), Nat.mul_assoc, Nat.add_mul_div_left _ _ (pow_pos' _), Nat.mul_assoc, Nat.add_mul_mod_self_left, ih]
theorem vs_set (z : Nat → Nat) (j v : Nat) : ∀ n, j < n → vs (fun k => if k = j then v else z k) n + z j * 2 ^ (64 * j) = vs z n + v * 2 ^ (64 * j) := by
  have same : ∀ n, n ≤ j → vs (fun k => if k = j then v else z k) n = vs z n := by
    intro n
    induction n with
    | zero => intro _; rfl
    | succ n ih => intro h; rw [vs, vs, ih (by omega), if_neg (by omega)]
  intro n
  induction n with
  | zero => intro h; omega
  | succ n ih =>
    intro h
    rw [vs, vs]
    by_cases h1 : n = j
    · subst h1; rw [if_pos rfl, same n (by omega)]; omega
    · have := ih (by omega)
      rw [if_neg h1]; omega
theorem sub_get {n : Nat} {f : Nat → Int} {off m i : Nat} {h : off + m ≤ n} (hi : i < m) (ho : off + i < n) : ((tab n f).sub off m h).1[i]? = some (f (off + i)) := by
  unfold Vec.sub
  simp only [List.getElem?_take_of_lt hi, List.getElem?_drop]
  exact tab_get ho
theorem or_word (a b j : Nat) : (a ||| b) / 2 ^ (64 * j) % 2 ^ 64 = (a / 2 ^ (64 * j) % 2 ^ 64) ||| (b / 2 ^ (64 * j) % 2 ^ 64) := by
  apply Nat.eq_of_testBit_eq
  intro i
  simp only [Nat.testBit_or, Nat.testBit_mod_two_pow, Nat.testBit_div_two_pow]
  by_cases h : i < 64 <;> simp [h]
theorem pow_word_at (n j : Nat) : 2 ^ n / 2 ^ (64 * j) % 2 ^ 64 = if j = n / 64 then 2 ^ (n % 64) else 0 := by
  by_cases h : 64 * j ≤ n
  · rw [Nat.pow_div h (by decide)]
    by_cases h2 : j = n / 64
    · rw [if_pos h2, show n - 64 * j = n % 64 by omega, Nat.mod_eq_of_lt (Nat.pow_lt_pow_right (by decide) (by omega))]
    · rw [if_neg h2]
      have e : 2 ^ (n - 64 * j) = 2 ^ 64 * 2 ^ (n - 64 * j - 64) := by rw [← Nat.pow_add]; congr 1; omega
      rw [e, Nat.mul_mod_right]
  · rw [if_neg (by omega), Nat.div_eq_of_lt (Nat.pow_lt_pow_right (by decide) (by omega))]
theorem p64 (k : Nat) (h : k < 64) : 2 ^ k < 2 ^ 64 := Nat.pow_lt_pow_right (by decide) h
/-- a bit set, above which the number is whole -/
theorem set_bit (q n : Nat) (hn : n < 256) : Vec.st (W (2 ^ (n + 1) * q)) ((n / 64 : Nat) : Int) (orI .u64 (Vec.rd (W (2 ^ (n + 1) * q)) ((n / 64 : Nat) : Int)) (shlI .u64 1 ((n % 64 : Nat) : Int))) = W (2 ^ (n + 1) * q + 2 ^ n) := by
  have e1 : shlI .u64 1 ((n % 64 : Nat) : Int) = ((2 ^ (n % 64) : Nat) : Int) := by
    rw [show (1 : Int) = ((1 : Nat) : Int) from rfl, shlI_n (by omega), Nat.one_mul, Nat.mod_eq_of_lt (p64 (n % 64) (by omega))]
  rw [e1, rd_W (by omega), orI_n (Nat.mod_lt _ (by decide)) (p64 (n % 64) (by omega)), Nat.two_pow_add_eq_or_of_lt (Nat.pow_lt_pow_right (by decide) (by omega))]
  unfold W
  rw [st_tab (by omega)]
  apply tab_congr
  intro j hj
  rw [or_word, pow_word_at]
  by_cases h : j = n / 64
  · rw [if_pos h, if_pos h, h]
  · rw [if_neg h, if_neg h, Nat.or_zero]
theorem sq_add (r p : Nat) : (r + p) * (r + p) = r * r + (r * (p * 2) + p * p) := by
  rw [Nat.add_mul, Nat.mul_add, Nat.mul_add, Nat.mul_comm p r, ← Nat.mul_assoc]; omega
theorem lt_of_sq {a b : Nat} (h : a * a < b * b) : a < b := by
  apply Nat.lt_of_not_le
  intro h2
  exact absurd (Nat.mul_le_mul h2 h2) (by omega)
end Go.Proofs.YtcdhcihjcjpmkaaGreatDoor.Wid
/- PLAIN FACTS on chapter 1's functions: the program's quotient and rest. No statement is proved here. -/
namespace Go.Proofs.YtcdhcihjcjpmkaaGreatDoor.Wid
open Go Go.RowKit Go.Proofs.YtcdhcihjcjpmkaaGreatDoor.Eng Go.Proofs.YtcdhcihjcjpmkaaGreatDoor.Fns Go.Proofs.YtcdhcihjcjpmkaaGreatDoor.Bw
set_option linter.unusedVariables false
set_option linter.unusedSimpArgs false
end Go.Proofs.YtcdhcihjcjpmkaaGreatDoor.Wid
/- PLAIN FACTS on chapter 3: a pattern's parts, its class, its signs: the program's and the reference's. No statement is proved here. -/
namespace Go.Proofs.YtcdhcihjcjpmkaaGreatDoor.Patp
open Go Go.RowKit Go.Proofs.YtcdhcihjcjpmkaaGreatDoor.Eng Go.Proofs.YtcdhcihjcjpmkaaGreatDoor.Fns Go.Proofs.YtcdhcihjcjpmkaaGreatDoor.Bw Go.Proofs.YtcdhcihjcjpmkaaGreatDoor.Dig
set_option linter.unusedVariables false
set_option linter.unusedSimpArgs false
variable (N : Nat)
theorem abs_eq (a : Int) (h0 : 0 ≤ a) (h1 : a < 18446744073709551616) : fn_pat_Abs N a = some (a % 9223372036854775808) := by
  unfold fn_pat_Abs bicI; rw [andNot_sign a h0 h1]
def nanB (a : Int) : Bool := decide (9218868437227405312 < a % 9223372036854775808)
theorem nan_eq (a : Int) (h0 : 0 ≤ a) (h1 : a < 18446744073709551616) : fn_pat_IsNaN N a = some (nanB a) := by
  unfold fn_pat_IsNaN; rw [abs_eq N a h0 h1, Option.bind_some, ltI_eq]; rfl
def eN (a : Int) : Int := a / 4503599627370496 % 2048
def fN (a : Int) : Int := a % 4503599627370496
def clsR (a : Int) : Int := if eN a = 2047 then (if 2251799813685248 ≤ fN a then 4 else if 0 < fN a then 5 else 3) else if eN a = 0 then (if 0 < fN a then 1 else 0) else 2
def expR (a : Int) : Int := if eN a = 2047 then 0 else if eN a = 0 then -1074 else eN a - 1075
def sigR (a : Int) : Int := if eN a = 2047 then fN a else if eN a = 0 then fN a else fN a + 4503599627370496
theorem quo_pos {a : Int} (c : Nat) (h0 : 0 ≤ a) (h1 : a < 18446744073709551616) : quoI .u64 a (c : Int) = a / (c : Int) := by
  obtain ⟨n, rfl⟩ := Int.eq_ofNat_of_zero_le h0
  rw [quoN (by simp only [lim]; omega)]; rfl
theorem rem_pos {k : IntKind} {a : Int} (c : Nat) (h0 : 0 ≤ a) : remI k a (c : Int) = a % (c : Int) := by
  obtain ⟨n, rfl⟩ := Int.eq_ofNat_of_zero_le h0
  rfl
theorem takeP_eq (a : Int) (h0 : 0 ≤ a) (h1 : a < 18446744073709551616) : fn_pat_Take N a = some (decide (9223372036854775808 ≤ a), clsR a, expR a, sigR a) := by
  have e1 : shrI .u64 a 52 = a / 4503599627370496 := by
    obtain ⟨n, rfl⟩ := Int.eq_ofNat_of_zero_le h0
    rw [show (52 : Int) = ((52 : Nat) : Int) from rfl, shrN (by decide)]; rfl
  have wi : ∀ n : Int, 0 ≤ n → n < 2 ^ 63 → IntKind.i64.wrap n = n := fun n g0 g1 => by rw [wrap_i64]; omega
  have e2 : andI .i64 (cvI .i64 (a / 4503599627370496)) 2047 = eN a := by
    rw [cvI_i (by omega) (by omega)]
    exact bits_mask .i64 63 (by decide) wi 11 (by decide) _ (by omega) (by omega)
  have e3 : andI .u64 a 4503599627370495 = fN a := bits_mask .u64 64 (by decide) w64 52 (by decide) a h0 (by omega)
  have b2 : 0 ≤ fN a ∧ fN a < 4503599627370496 := by unfold fN; omega
  have b1 : 0 ≤ eN a ∧ eN a < 2048 := by unfold eN; omega
  have e4 : eqI (andI .u64 (fN a) 2251799813685248) 0 = !(decide (2251799813685248 ≤ fN a)) := by
    obtain ⟨n, hn⟩ := Int.eq_ofNat_of_zero_le b2.1
    rw [hn]
    have := and_pow 51 (by decide) n (by omega)
    unfold andI
    rw [show (2251799813685248 : Int) = ((2 ^ 51 : Nat) : Int) from rfl, this]
    by_cases h : n / 2 ^ 51 % 2 = 1
    · rw [if_pos h, decide_eq_true (by omega)]; rfl
    · rw [if_neg h, decide_eq_false (by omega)]; rfl
  have e5 : (!(eqI (andI .u64 a 9223372036854775808) 0)) = decide (9223372036854775808 ≤ a) := by
    unfold andI
    rw [and_sign a h0 h1, eqI_eq]
    by_cases h : a < 9223372036854775808
    · rw [if_pos h, decide_eq_true rfl, decide_eq_false (by omega)]; rfl
    · rw [if_neg h, decide_eq_false (by omega), decide_eq_true (by omega)]; rfl
  have e6 : orI .u64 (fN a) 4503599627370496 = fN a + 4503599627370496 := by
    obtain ⟨n, hn⟩ := Int.eq_ofNat_of_zero_le b2.1
    rw [hn, show (4503599627370496 : Int) = ((2 ^ 52 : Nat) : Int) from rfl, orI_n (by omega) (by decide), Nat.or_comm]
    have := Nat.two_pow_add_eq_or_of_lt (i := 52) (b := n) (by omega) 1
    rw [Nat.mul_one] at this
    rw [← this]; omega
  have e7 : subI .i64 (addI .i64 (eN a) (-1074)) 1 = eN a - 1075 := by rw [addI_i (by omega) (by omega), subI_i (by omega) (by omega)]; omega
  unfold fn_pat_Take clsR expR sigR
  rw [e1, e2, e3, e4, e5, e6, e7]
  have z1 : (eN a = 2047) ∨ (eN a ≠ 2047 ∧ eN a = 0) ∨ (eN a ≠ 2047 ∧ 0 < eN a) := by omega
  have z2 : (fN a = 0) ∨ (0 < fN a ∧ ¬ 2251799813685248 ≤ fN a) ∨ (0 < fN a ∧ 2251799813685248 ≤ fN a) := by omega
  simp only [cond_if, eqI_eq, ltI_eq, leI_eq, decide_eq_true_eq, Bool.not_eq_true', Bool.not_not, Bool.not_eq_eq_eq_not, Bool.not_true, decide_eq_false_iff_not]
  repeat' split
  all_goals first | rfl | (exfalso; omega) | skip
theorem finP_eq (a : Int) (h0 : 0 ≤ a) (h1 : a < 18446744073709551616) (hN : 0 < N) : fn_pat_Finite N a = some (decide (a % 9223372036854775808 < 9218868437227405312)) := by
  obtain ⟨k, rfl⟩ : ∃ k, N = k + 1 := ⟨N - 1, by omega⟩
  show fb_57 (k + 1) a = _
  unfold fb_57; rw [abs_eq (k + 1) a h0 h1, Option.bind_some, ltI_eq]
theorem clsP_eq (a : Int) (h0 : 0 ≤ a) (h1 : a < 18446744073709551616) : fn_pat_Class N a = some (clsR a) := by
  unfold fn_pat_Class; rw [takeP_eq N a h0 h1]; rfl
theorem xor_sign (a : Int) (h0 : 0 ≤ a) (h1 : a < 18446744073709551616) : xorI .u64 a 9223372036854775808 = if a < 9223372036854775808 then a + 9223372036854775808 else a - 9223372036854775808 := by
  obtain ⟨n, rfl⟩ := Int.eq_ofNat_of_zero_le h0
  have hn : n < 2 ^ 64 := by omega
  have e : xorI .u64 (n : Int) 9223372036854775808 = ((n ^^^ 2 ^ 63 : Nat) : Int) := by
    unfold xorI
    rw [show (9223372036854775808 : Int) = ((2 ^ 63 : Nat) : Int) from rfl]
    exact bits_xor_u64_nat n (2 ^ 63) (by omega) (by decide)
  rw [e]
  have key : n ^^^ 2 ^ 63 = if n < 2 ^ 63 then n + 2 ^ 63 else n - 2 ^ 63 := by
    apply Nat.eq_of_testBit_eq
    intro i
    have hb : (n ^^^ 2 ^ 63).testBit i = (n.testBit i ^^ decide (63 = i)) := by rw [Nat.testBit_xor, Nat.testBit_two_pow]
    rw [hb]
    by_cases h : n < 2 ^ 63
    · rw [if_pos h]
      have h2 := Nat.two_pow_add_eq_or_of_lt (i := 63) (b := n) h 1
      rw [Nat.mul_one, Nat.add_comm] at h2
      rw [h2, Nat.testBit_or, Nat.testBit_two_pow]
      by_cases hi : 63 = i
      · subst hi; rw [Nat.testBit_lt_two_pow h]; rfl
      · simp [hi]
    · rw [if_neg h]
      have hr : n - 2 ^ 63 < 2 ^ 63 := by omega
      have h2 := Nat.two_pow_add_eq_or_of_lt (i := 63) (b := n - 2 ^ 63) hr 1
      rw [Nat.mul_one, Nat.add_sub_cancel' (by omega)] at h2
      have h3 : n.testBit i = (decide (63 = i) || (n - 2 ^ 63).testBit i) := by
        conv => lhs; rw [h2]
        rw [Nat.testBit_or, Nat.testBit_two_pow]
      rw [h3]
      by_cases hi : 63 = i
      · subst hi; rw [Nat.testBit_lt_two_pow hr]; rfl
      · simp [hi]
  rw [key]
  split <;> rename_i hh <;> (first | rw [if_pos (by omega)] | rw [if_neg (by omega)]) <;> omega
theorem negP_eq (a : Int) (h0 : 0 ≤ a) (h1 : a < 18446744073709551616) : fn_pat_Neg N a = some (if a < 9223372036854775808 then a + 9223372036854775808 else a - 9223372036854775808) := by
  unfold fn_pat_Neg; rw [xor_sign a h0 h1]
theorem copyP_eq (a b : Int) (h0 : 0 ≤ a) (h1 : a < 18446744073709551616) (g0 : 0 ≤ b) (g1 : b < 18446744073709551616) : fn_pat_Copy N a b = some (if b < 9223372036854775808 then a % 9223372036854775808 else a % 9223372036854775808 + 9223372036854775808) := by
  unfold fn_pat_Copy
  rw [abs_eq N a h0 h1]
  simp only [Option.bind_some, andI]
  rw [and_sign b g0 g1]
  obtain ⟨n, hn⟩ := Int.eq_ofNat_of_zero_le (show 0 ≤ a % 9223372036854775808 by omega)
  rw [hn]
  have hlt : n < 2 ^ 63 := by omega
  by_cases h : b < 9223372036854775808
  · rw [if_pos h, if_pos h, show (0 : Int) = ((0 : Nat) : Int) from rfl, orI_n (by omega) (by decide), Nat.or_zero]
  · rw [if_neg h, if_neg h, show (9223372036854775808 : Int) = ((2 ^ 63 : Nat) : Int) from rfl, orI_n (by omega) (by decide), Nat.or_comm]
    have h2 := Nat.two_pow_add_eq_or_of_lt (i := 63) (b := n) hlt 1
    rw [Nat.mul_one] at h2
    rw [← h2]; congr 1; omega
end Go.Proofs.YtcdhcihjcjpmkaaGreatDoor.Patp

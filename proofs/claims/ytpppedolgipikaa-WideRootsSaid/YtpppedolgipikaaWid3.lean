/- PLAIN FACTS on chapter 1's functions: one bit, the order (the document's own and the program's), the program's sum and difference. No statement is proved here. -/
import Derived.Test.YtpppedolgipikaaWid2
namespace Go.Proofs.Ytpppedolgipikaa.Wid
open Go Go.RowKit Go.Proofs.Ytpppedolgipikaa.Eng Go.Proofs.Ytpppedolgipikaa.Fns Go.Proofs.Ytpppedolgipikaa.Bw
set_option linter.unusedVariables false
set_option linter.unusedSimpArgs false
theorem bit_loop (N : Nat) (i w : Nat) (hi : i < 256) (hw : w < 2 ^ 64) : ∀ m j n : Nat, j + m = i % 64 → m < n → l19_0 N n (i : Int) ((w / 2 ^ j : Nat) : Int) (j : Int) = some ((w / 2 ^ (i % 64) % 2 : Nat) : Int) := by
  intro m
  induction m with
  | zero =>
    intro j n hj hn
    obtain ⟨n, rfl⟩ : ∃ n', n = n' + 1 := ⟨n - 1, by omega⟩
    show s19_0 N _ _ _ _ = _
    unfold s19_0
    rw [show (64 : Int) = ((64 : Nat) : Int) from rfl, remI_n, ltI_f (by omega), cond_false, show (2 : Int) = ((2 : Nat) : Int) from rfl, remI_n, cvI_i (by omega) (by omega)]
    rw [show j = i % 64 by omega]
  | succ m ih =>
    intro j n hj hn
    obtain ⟨n, rfl⟩ : ∃ n', n = n' + 1 := ⟨n - 1, by omega⟩
    show s19_0 N (l19_0 N n) _ _ _ = _
    unfold s19_0
    have h0 : w / 2 ^ j < 2 ^ 64 := Nat.lt_of_le_of_lt (Nat.div_le_self ..) hw
    rw [show (64 : Int) = ((64 : Nat) : Int) from rfl, remI_n, ltI_t (by omega), cond_true, show (2 : Int) = ((2 : Nat) : Int) from rfl, quoI_u (by omega), Nat.div_div_eq_div_mul, ← Nat.pow_succ, addI_i (by omega) (by omega)]
    exact ih (j + 1) n (by omega) (by omega)
theorem refBit_in (N : Nat) (hN : 65 ≤ N) (x i : Nat) (hi : i < 256) : fn_tillerref01_Bit N (W x) (i : Int) = some (bitN x i : Int) := by
  unfold fn_tillerref01_Bit t19
  have h := bit_loop N i (x / 2 ^ (64 * (i / 64)) % 2 ^ 64) hi (Nat.mod_lt _ (by decide)) (i % 64) 0 N (by omega) (by omega)
  rw [Nat.pow_zero, Nat.div_one, bit_word (by omega), show 64 * (i / 64) + i % 64 = i by omega] at h
  rw [ltI_f (by omega), cond_false, ltI_f (by omega), cond_false, show (64 : Int) = ((64 : Nat) : Int) from rfl, quoI_i (by omega), leI_t (by omega), cond_true, ltI_t (by omega), cond_true, rd_W (by omega)]
  exact h
def bitZ (x : Nat) (n : Int) : Int := if n < 0 ∨ 255 < n then 0 else (bitN x n.toNat : Int)
theorem refBit_eq (N : Nat) (hN : 65 ≤ N) (x : Nat) (n : Int) : fn_tillerref01_Bit N (W x) n = some (bitZ x n) := by
  unfold bitZ
  by_cases h : n < 0 ∨ 255 < n
  · rw [if_pos h]
    unfold fn_tillerref01_Bit t19
    by_cases h0 : n < 0
    · rw [ltI_t h0]; rfl
    · rw [ltI_f h0, cond_false, ltI_t (by omega)]; rfl
  · rw [if_neg h]
    obtain ⟨i, rfl⟩ := Int.eq_ofNat_of_zero_le (show 0 ≤ n by omega)
    exact refBit_in N hN x i (by omega)
/-! ### order -/
def cmpZ (x y : Nat) : Int := if x < y then -1 else if x = y then 0 else 1
theorem div_lt {x y c : Nat} (h : x / c < y / c) : x < y := by
  apply Nat.lt_of_not_le
  intro h2
  exact absurd (Nat.div_le_div_right (c := c) h2) (by omega)
theorem half (x i : Nat) : x / 2 ^ i = 2 * (x / 2 ^ (i + 1)) + bitN x i := by unfold bitN; rw [Nat.pow_succ, ← Nat.div_div_eq_div_mul]; omega
theorem refCmp_loop (N : Nat) (hN : 65 ≤ N) (x y : Nat) : ∀ i n : Nat, i ≤ 256 → i < n → x / 2 ^ i = y / 2 ^ i → l14_0 N n ((i : Int) - 1) (W x) (W y) = some (cmpZ x y) := by
  intro i
  induction i with
  | zero =>
    intro n _ hn he
    obtain ⟨n, rfl⟩ : ∃ n', n = n' + 1 := ⟨n - 1, by omega⟩
    show s14_0 N _ _ _ _ = _
    unfold s14_0
    simp only [Nat.pow_zero, Nat.div_one] at he
    rw [leI_f (by omega), cond_false]; simp [cmpZ, he]
  | succ i ih =>
    intro n hi hn he
    obtain ⟨n, rfl⟩ : ∃ n', n = n' + 1 := ⟨n - 1, by omega⟩
    show s14_0 N (l14_0 N n) _ _ _ = _
    unfold s14_0
    have e : ((i + 1 : Nat) : Int) - 1 = (i : Int) := by omega
    have hx := bit_lt x i; have hy := bit_lt y i
    rw [e, leI_t (by omega), cond_true, refBit_in N hN x i (by omega), refBit_in N hN y i (by omega)]
    simp only [Option.bind_some]
    rw [eq_n]
    have h1 := half x i; have h2 := half y i
    by_cases hb : bitN x i = bitN y i
    · rw [decide_eq_true hb, Bool.not_true, cond_false, subI_i (by omega) (by omega)]
      exact ih n (by omega) (by omega) (by omega)
    · rw [decide_eq_false hb, Bool.not_false, cond_true, subI_i (by omega) (by omega)]
      unfold cmpZ
      rcases Nat.lt_or_gt_of_ne hb with h | h
      · have : x < y := div_lt (c := 2 ^ i) (by omega)
        rw [if_pos this]; congr 1; omega
      · have : y < x := div_lt (c := 2 ^ i) (by omega)
        rw [if_neg (by omega), if_neg (by omega)]; congr 1; omega
theorem refCmp_eq (N : Nat) (hN : 300 ≤ N) (x y : Nat) (hx : x < 2 ^ 256) (hy : y < 2 ^ 256) : fn_tillerref01_Cmp N (W x) (W y) = some (cmpZ x y) := by
  unfold fn_tillerref01_Cmp t14
  exact refCmp_loop N (by omega) x y 256 N (by omega) (by omega) (by rw [Nat.div_eq_of_lt hx, Nat.div_eq_of_lt hy])
theorem word_half (x i : Nat) : x / 2 ^ (64 * i) = 2 ^ 64 * (x / 2 ^ (64 * (i + 1))) + x / 2 ^ (64 * i) % 2 ^ 64 := by
  rw [show 64 * (i + 1) = 64 * i + 64 by omega, Nat.pow_add, ← Nat.div_div_eq_div_mul]
  exact (Nat.div_add_mod _ _).symm
theorem cmp_loop (N : Nat) (x y : Nat) : ∀ i n : Nat, i ≤ 4 → i < n → x / 2 ^ (64 * i) = y / 2 ^ (64 * i) → l24_0 N n ((i : Int) - 1) (W x) (W y) = some (cmpZ x y) := by
  intro i
  induction i with
  | zero =>
    intro n _ hn he
    obtain ⟨n, rfl⟩ : ∃ n', n = n' + 1 := ⟨n - 1, by omega⟩
    show s24_0 N _ _ _ _ = _
    unfold s24_0
    simp only [Nat.mul_zero, Nat.pow_zero, Nat.div_one] at he
    rw [leI_f (by omega), cond_false]; simp [cmpZ, he]
  | succ i ih =>
    intro n hi hn he
    obtain ⟨n, rfl⟩ : ∃ n', n = n' + 1 := ⟨n - 1, by omega⟩
    show s24_0 N (l24_0 N n) _ _ _ = _
    unfold s24_0
    have e : ((i + 1 : Nat) : Int) - 1 = (i : Int) := by omega
    rw [e]
    simp only [leI_t (show (0 : Int) ≤ i by omega), ltI_t (show (i : Int) < 4 by omega), cond_true, rd_W (show i < 4 by omega), lt_n]
    have h1 := word_half x i; have h2 := word_half y i
    by_cases hb : x / 2 ^ (64 * i) % 2 ^ 64 < y / 2 ^ (64 * i) % 2 ^ 64
    · rw [decide_eq_true hb, cond_true]
      have : x < y := div_lt (c := 2 ^ (64 * i)) (by omega)
      simp [cmpZ, this]
    · rw [decide_eq_false hb, cond_false]
      by_cases hb2 : y / 2 ^ (64 * i) % 2 ^ 64 < x / 2 ^ (64 * i) % 2 ^ 64
      · rw [decide_eq_true hb2, cond_true]
        have : y < x := div_lt (c := 2 ^ (64 * i)) (by omega)
        unfold cmpZ; rw [if_neg (by omega), if_neg (by omega)]
      · rw [decide_eq_false hb2, cond_false, subI_i (by omega) (by omega)]
        exact ih n (by omega) (by omega) (by omega)
theorem cmp_eq (N : Nat) (hN : 300 ≤ N) (x y : Nat) (hx : x < 2 ^ 256) (hy : y < 2 ^ 256) : fn_wide_Cmp N (W x) (W y) = some (cmpZ x y) := by
  unfold fn_wide_Cmp t24
  exact cmp_loop N x y 4 N (by omega) (by omega) (by rw [Nat.div_eq_of_lt hx, Nat.div_eq_of_lt hy])
/-! ### sums by words -/
theorem add64_n (a b c : Nat) (hc : c < 2) : add64 (a : Int) (b : Int) (c : Int) = some ((((a + b + c) % 2 ^ 64 : Nat) : Int), (((a + b + c) / 2 ^ 64 : Nat) : Int)) := by
  unfold add64
  rw [leI_t (by omega), leI_t (by omega), leI_t (by omega), leI_t (by omega)]
  simp only [Bool.and_self, cond_true]
  congr 2 <;> omega
theorem sub64_n (a b c : Nat) (ha : a < 2 ^ 64) (hb : b < 2 ^ 64) (hc : c < 2) : sub64 (a : Int) (b : Int) (c : Int) = some ((((2 ^ 64 + a - b - c) % 2 ^ 64 : Nat) : Int), ((if a < b + c then 1 else 0 : Nat) : Int)) := by
  unfold sub64
  rw [leI_t (by omega), leI_t (by omega), leI_t (by omega), leI_t (by omega), ltI_t (by omega), ltI_t (by omega)]
  simp only [Bool.and_self, cond_true]
  congr 2
  · omega
  · by_cases h : a < b + c
    · rw [if_pos h, ltI_t (by omega)]; rfl
    · rw [if_neg h, ltI_f (by omega)]; rfl
theorem pow_word (i : Nat) : 2 ^ (64 * (i + 1)) = 2 ^ (64 * i) * 2 ^ 64 := by rw [← Nat.pow_add]; congr 1
theorem carry_word (x y i : Nat) : (x / 2 ^ (64 * i) % 2 ^ 64 + y / 2 ^ (64 * i) % 2 ^ 64 + carry x y (64 * i)) % 2 ^ 64 = (x + y) / 2 ^ (64 * i) % 2 ^ 64 := by
  rw [sum_split x y (64 * i)]; omega
theorem carry_word_next (x y i : Nat) : (x / 2 ^ (64 * i) % 2 ^ 64 + y / 2 ^ (64 * i) % 2 ^ 64 + carry x y (64 * i)) / 2 ^ 64 = carry x y (64 * (i + 1)) := by
  have h1 := sum_split x y (64 * i); have h2 := sum_split x y (64 * (i + 1))
  rw [pow_word, ← Nat.div_div_eq_div_mul, ← Nat.div_div_eq_div_mul, ← Nat.div_div_eq_div_mul, h1] at h2
  omega
theorem wadd_loop (N : Nat) (x y : Nat) (z : Vec 4) : ∀ m i n : Nat, i + m = 4 → m < n → l21_0 N n (carry x y (64 * i) : Int) i (tab 4 fun j => if j < i then (((x + y) / 2 ^ (64 * j) % 2 ^ 64 : Nat) : Int) else ((x / 2 ^ (64 * j) % 2 ^ 64 : Nat) : Int)) (W y) z = some (W (x + y), decide (carry x y 256 = 1)) := by
  intro m
  induction m with
  | zero =>
    intro i n hi hn
    obtain ⟨n, rfl⟩ : ∃ n', n = n' + 1 := ⟨n - 1, by omega⟩
    obtain rfl : i = 4 := by omega
    show s21_0 N _ _ _ _ _ _ = _
    unfold s21_0
    have hc := carry_lt x y 256
    rw [ltI_f (by omega), cond_false, show (0 : Int) = ((0 : Nat) : Int) from rfl, eq_n]
    have e : (!decide (carry x y (64 * 4) = 0)) = decide (carry x y 256 = 1) := by
      by_cases h : carry x y 256 = 1
      · simp [h]
      · have : carry x y 256 = 0 := by omega
        simp [this]
    rw [e]
    congr 2
  | succ m ih =>
    intro i n hi hn
    obtain ⟨n, rfl⟩ : ∃ n', n = n' + 1 := ⟨n - 1, by omega⟩
    show s21_0 N (l21_0 N n) _ _ _ _ _ = _
    unfold s21_0
    simp only [ltI_t (show (i : Int) < 4 by omega), leI_t (show (0 : Int) ≤ i by omega), cond_true]
    rw [rd_tab (show i < 4 by omega), rd_W (by omega), if_neg (by omega), add64_n _ _ _ (carry_lt x y _), Option.bind_some, carry_word, carry_word_next, st_tab (by omega), addI_i (by omega) (by omega)]
    refine Eq.trans ?_ (ih (i + 1) n (by omega) (by omega))
    congr 1
    apply tab_congr
    intro j hj
    by_cases h1 : j = i
    · subst h1; simp
    · simp only [h1, if_false]
      by_cases h2 : j < i
      · rw [if_pos h2, if_pos (by omega)]
      · rw [if_neg h2, if_neg (by omega)]
theorem add_eq (N : Nat) (hN : 300 ≤ N) (x y : Nat) (hx : x < 2 ^ 256) (hy : y < 2 ^ 256) : fn_wide_Add N (W x) (W y) = some (W ((x + y) % 2 ^ 256), decide (2 ^ 256 ≤ x + y)) := by
  unfold fn_wide_Add t21
  have h := wadd_loop N x y (Vec.zero 4) 4 0 N (by omega) (by omega)
  have h0 : carry x y (64 * 0) = 0 := by unfold carry; simp [Nat.mod_one]
  rw [h0] at h
  rw [W_mod]
  refine Eq.trans ?_ (h.trans ?_)
  · congr 1
  · congr 2
    unfold carry
    rw [Nat.mod_eq_of_lt hx, Nat.mod_eq_of_lt hy, decide_eq_decide]
    omega
theorem borrow_word_next (x y i : Nat) : (if x / 2 ^ (64 * i) % 2 ^ 64 < y / 2 ^ (64 * i) % 2 ^ 64 + borrow x y (64 * i) then 1 else 0) = borrow x y (64 * (i + 1)) := by
  unfold borrow
  rw [pow_word, Nat.mod_mul, Nat.mod_mul]
  have h1 := Nat.mod_lt x (pow_pos' (64 * i)); have h2 := Nat.mod_lt y (pow_pos' (64 * i))
  generalize x / 2 ^ (64 * i) % 2 ^ 64 = p at *
  generalize y / 2 ^ (64 * i) % 2 ^ 64 = q at *
  generalize x % 2 ^ (64 * i) = a at *
  generalize y % 2 ^ (64 * i) = b at *
  generalize 2 ^ (64 * i) = c at *
  rcases Nat.lt_trichotomy p q with h | h | h
  · have := Nat.mul_le_mul_left c (show p + 1 ≤ q from h)
    rw [Nat.mul_add, Nat.mul_one] at this
    rw [if_pos (by omega), if_pos (by omega)]
  · subst h
    by_cases hab : a < b
    · rw [if_pos hab, if_pos (by omega), if_pos (by omega)]
    · rw [if_neg hab, if_neg (by omega), if_neg (by omega)]
  · have := Nat.mul_le_mul_left c (show q + 1 ≤ p from h)
    rw [Nat.mul_add, Nat.mul_one] at this
    rw [if_neg (by split <;> omega), if_neg (by omega)]
theorem borrow_word (x y i : Nat) (hi : i < 4) (hy : y < 2 ^ 256) : (2 ^ 64 + x / 2 ^ (64 * i) % 2 ^ 64 - y / 2 ^ (64 * i) % 2 ^ 64 - borrow x y (64 * i)) % 2 ^ 64 = (2 ^ 256 + x - y) / 2 ^ (64 * i) % 2 ^ 64 := by
  have h := diff_split x y (64 * i) 256 (by omega) hy
  have e : 2 ^ (256 - 64 * i) = 2 ^ 64 * 2 ^ (192 - 64 * i) := by rw [← Nat.pow_add]; congr 1; omega
  rw [e] at h
  have h1 := borrow_lt x y (64 * i)
  generalize 2 ^ (192 - 64 * i) = c at *
  omega
theorem wsub_loop (N : Nat) (x y : Nat) (hy : y < 2 ^ 256) (z : Vec 4) : ∀ m i n : Nat, i + m = 4 → m < n → l22_0 N n (borrow x y (64 * i) : Int) i (tab 4 fun j => if j < i then (((2 ^ 256 + x - y) / 2 ^ (64 * j) % 2 ^ 64 : Nat) : Int) else ((x / 2 ^ (64 * j) % 2 ^ 64 : Nat) : Int)) (W y) z = some (W (2 ^ 256 + x - y), decide (borrow x y 256 = 1)) := by
  intro m
  induction m with
  | zero =>
    intro i n hi hn
    obtain ⟨n, rfl⟩ : ∃ n', n = n' + 1 := ⟨n - 1, by omega⟩
    obtain rfl : i = 4 := by omega
    show s22_0 N _ _ _ _ _ _ = _
    unfold s22_0
    have hc := borrow_lt x y 256
    rw [ltI_f (by omega), cond_false, show (0 : Int) = ((0 : Nat) : Int) from rfl, eq_n]
    have e : (!decide (borrow x y (64 * 4) = 0)) = decide (borrow x y 256 = 1) := by
      by_cases h : borrow x y 256 = 1
      · simp [h]
      · have : borrow x y 256 = 0 := by omega
        simp [this]
    rw [e]
    congr 2
  | succ m ih =>
    intro i n hi hn
    obtain ⟨n, rfl⟩ : ∃ n', n = n' + 1 := ⟨n - 1, by omega⟩
    show s22_0 N (l22_0 N n) _ _ _ _ _ = _
    unfold s22_0
    have hm : ∀ u : Nat, u % 2 ^ 64 < 2 ^ 64 := fun u => Nat.mod_lt _ (by decide)
    simp only [ltI_t (show (i : Int) < 4 by omega), leI_t (show (0 : Int) ≤ i by omega), cond_true]
    rw [rd_tab (show i < 4 by omega), rd_W (by omega), if_neg (by omega), sub64_n _ _ _ (hm _) (hm _) (borrow_lt x y _), Option.bind_some, borrow_word x y i (by omega) hy, borrow_word_next, st_tab (by omega), addI_i (by omega) (by omega)]
    refine Eq.trans ?_ (ih (i + 1) n (by omega) (by omega))
    congr 1
    apply tab_congr
    intro j hj
    by_cases h1 : j = i
    · subst h1; simp
    · simp only [h1, if_false]
      by_cases h2 : j < i
      · rw [if_pos h2, if_pos (by omega)]
      · rw [if_neg h2, if_neg (by omega)]
theorem sub_eq (N : Nat) (hN : 300 ≤ N) (x y : Nat) (hx : x < 2 ^ 256) (hy : y < 2 ^ 256) : fn_wide_Sub N (W x) (W y) = some (W ((2 ^ 256 + x - y) % 2 ^ 256), decide (x < y)) := by
  unfold fn_wide_Sub t22
  have h := wsub_loop N x y hy (Vec.zero 4) 4 0 N (by omega) (by omega)
  have h0 : borrow x y (64 * 0) = 0 := by unfold borrow; simp [Nat.mod_one]
  rw [h0] at h
  rw [W_mod]
  refine Eq.trans ?_ (h.trans ?_)
  · congr 1
  · congr 2
    unfold borrow
    rw [Nat.mod_eq_of_lt hx, Nat.mod_eq_of_lt hy, decide_eq_decide]
    split <;> omega
theorem sure_eq : fn_tillerlaw01_sure 300 = some true := by kernel_rfl
end Go.Proofs.Ytpppedolgipikaa.Wid

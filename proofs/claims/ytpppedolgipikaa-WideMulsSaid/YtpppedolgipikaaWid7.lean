/- PLAIN FACTS on chapter 1's functions: the document's own product, by parts of 16 bits. No statement is proved here. -/
import Derived.Test.YtpppedolgipikaaWid6
namespace Go.Proofs.Ytpppedolgipikaa.Wid
open Go Go.RowKit Go.Proofs.Ytpppedolgipikaa.Eng Go.Proofs.Ytpppedolgipikaa.Fns Go.Proofs.Ytpppedolgipikaa.Bw
set_option linter.unusedVariables false
set_option linter.unusedSimpArgs false
def part (x i : Nat) : Nat := x / 2 ^ (16 * i) % 2 ^ 16
theorem part_lt (x i : Nat) : part x i < 65536 := Nat.mod_lt _ (by decide)
def wsum (z : Nat → Nat) : Nat → Nat
  | 0 => 0
  | n + 1 => wsum z n + z n * 2 ^ (16 * n)
theorem wsum_part (x : Nat) : ∀ n, wsum (part x) n = x % 2 ^ (16 * n)
  | 0 => by simp [wsum, Nat.mod_one]
  | n + 1 => by
    rw [wsum, wsum_part x n, show 16 * (n + 1) = 16 * n + 16 by omega, Nat.pow_add, Nat.mod_mul]
    unfold part
    rw [Nat.mul_comm (x / 2 ^ (16 * n) % 2 ^ 16)]
theorem wsum_upd (z : Nat → Nat) (j d : Nat) : ∀ n, wsum (fun k => if k = j then z k + d else z k) n = wsum z n + (if j < n then d * 2 ^ (16 * j) else 0)
  | 0 => by simp [wsum]
  | n + 1 => by
    rw [wsum, wsum, wsum_upd z j d n]
    by_cases h : n = j
    · subst h
      rw [if_pos rfl, if_neg (by omega), if_pos (by omega), Nat.add_mul]; omega
    · rw [if_neg h]
      by_cases h2 : j < n
      · rw [if_pos h2, if_pos (by omega)]; omega
      · rw [if_neg h2, if_neg (by omega)]; omega
theorem part_word {x k j : Nat} (h : j + 16 ≤ 64) : x / 2 ^ (64 * k) % 2 ^ 64 / 2 ^ j % 2 ^ 16 = x / 2 ^ (64 * k + j) % 2 ^ 16 := by
  have e : (2 : Nat) ^ 64 = 2 ^ j * 2 ^ (64 - j) := by rw [← Nat.pow_add]; congr 1; omega
  rw [e, Nat.mod_mul_right_div_self, Nat.mod_mod_of_dvd _ (Nat.pow_dvd_pow 2 (by omega)), Nat.div_div_eq_div_mul, ← Nat.pow_add]
theorem mul_p1 (N : Nat) (x y : Nat) (z w : Vec 4) : ∀ m i n : Nat, i + m = 16 → m < n →
    l12_0 N n (i : Int) (W x) (W y) z w (tab 16 fun j => if j < i then (part x j : Int) else 0) (tab 16 fun j => if j < i then (part y j : Int) else 0) = l12_1 N N 0 z w (tab 16 fun j => (part x j : Int)) (tab 16 fun j => (part y j : Int)) (Vec.zero 33) := by
  intro m
  induction m with
  | zero =>
    intro i n hi hn
    obtain ⟨n, rfl⟩ : ∃ n', n = n' + 1 := ⟨n - 1, by omega⟩
    obtain rfl : i = 16 := by omega
    show s12_0 N _ _ _ _ _ _ _ _ _ = _
    unfold s12_0
    rw [ltI_f (by omega), cond_false]
    have e : ∀ u : Nat, (tab 16 fun j => if j < 16 then (part u j : Int) else 0) = tab 16 fun j => (part u j : Int) := fun u => tab_congr fun j hj => if_pos hj
    rw [e, e]
  | succ m ih =>
    intro i n hi hn
    obtain ⟨n, rfl⟩ : ∃ n', n = n' + 1 := ⟨n - 1, by omega⟩
    show s12_0 N (l12_0 N n) _ _ _ _ _ _ _ _ = _
    unfold s12_0
    have e1 : quoI .i64 (i : Int) 4 = ((i / 4 : Nat) : Int) := by rw [show (4 : Int) = ((4 : Nat) : Int) from rfl, quoI_i (by omega)]
    have e2 : mulI .i64 16 (remI .i64 (i : Int) 4) = ((16 * (i % 4) : Nat) : Int) := by rw [show (4 : Int) = ((4 : Nat) : Int) from rfl, remI_n, mulI_i (by omega) (by omega)]; omega
    have e3 : addI .i64 (i : Int) 1 = ((i + 1 : Nat) : Int) := by rw [addI_i (by omega) (by omega)]; omega
    have c1 : ltI (i : Int) 16 = true := ltI_t (by omega)
    have c2 : leI (0 : Int) (i : Int) = true := leI_t (by omega)
    have c3 : leI (0 : Int) ((i / 4 : Nat) : Int) = true := leI_t (by omega)
    have c4 : ltI ((i / 4 : Nat) : Int) 4 = true := ltI_t (by omega)
    have c5 : ltI ((16 * (i % 4) : Nat) : Int) 0 = false := ltI_f (by omega)
    rw [e1, e2, e3]
    simp only [c1, c2, c3, c4, c5, cond_true, cond_false]
    have ex : ∀ u : Nat, remI .u64 (shrI .u64 (Vec.rd (W u) ((i / 4 : Nat) : Int)) ((16 * (i % 4) : Nat) : Int)) 65536 = (part u i : Int) := by
      intro u
      rw [rd_W (by omega), shrI_n (k := .u64) (show 16 * (i % 4) ≤ 64 by omega), show (65536 : Int) = ((2 ^ 16 : Nat) : Int) from rfl, remI_n, part_word (by omega), show 64 * (i / 4) + 16 * (i % 4) = 16 * i by omega]
      rfl
    rw [ex, ex, st_tab (by omega), st_tab (by omega)]
    have et : ∀ u : Nat, (tab 16 fun k => if k = i then (part u i : Int) else if k < i then (part u k : Int) else 0) = tab 16 fun j => if j < i + 1 then (part u j : Int) else 0 := by
      intro u
      apply tab_congr
      intro j hj
      by_cases h1 : j = i
      · rw [if_pos h1, if_pos (by omega), h1]
      · rw [if_neg h1]
        by_cases h2 : j < i
        · rw [if_pos h2, if_pos (by omega)]
        · rw [if_neg h2, if_neg (by omega)]
    rw [et, et]
    exact ih (i + 1) n (by omega) (by omega)
/-- what the sums of products are, with k parts of row i taken -/
structure Rows2 (x y i k : Nat) (z : Nat → Nat) : Prop where
  sum : wsum z 33 = (x % 2 ^ (16 * i)) * y + part x i * 2 ^ (16 * i) * (y % 2 ^ (16 * k))
  le : ∀ j, z j ≤ (i + (if j < i + k then 1 else 0)) * 4294836225
theorem mul_in (N : Nat) (x y i : Nat) (hi : i < 16) (hy : y < 2 ^ 256) (E : Int → Vec 4 → Vec 4 → Vec 16 → Vec 16 → Vec 33 → Option (Vec 4 × Vec 4)) (v w : Vec 4) (R : Option (Vec 4 × Vec 4))
    (hE : ∀ z, Rows2 x y (i + 1) 0 z → E ((i + 1 : Nat) : Int) v w (tab 16 fun j => (part x j : Int)) (tab 16 fun j => (part y j : Int)) (tab 33 fun j => (z j : Int)) = R) :
    ∀ m k n : Nat, k + m = 16 → m < n → ∀ z, Rows2 x y i k z → l12_2 N E n (i : Int) (k : Int) v w (tab 16 fun j => (part x j : Int)) (tab 16 fun j => (part y j : Int)) (tab 33 fun j => (z j : Int)) = R := by
  intro m
  induction m with
  | zero =>
    intro k n hk hn z hz
    obtain ⟨n, rfl⟩ : ∃ n', n = n' + 1 := ⟨n - 1, by omega⟩
    obtain rfl : k = 16 := by omega
    show s12_2 N _ E _ _ _ _ _ _ _ = _
    unfold s12_2
    rw [ltI_f (by omega), cond_false, addI_i (by omega) (by omega)]
    apply hE
    constructor
    · rw [hz.sum, Nat.mod_eq_of_lt (show y < 2 ^ (16 * 16) from hy), show 16 * (i + 1) = 16 * i + 16 by omega, Nat.pow_add, Nat.mod_mul, Nat.mul_zero, Nat.pow_zero, Nat.mod_one, Nat.mul_zero, Nat.add_zero, Nat.add_mul]
      unfold part
      rw [Nat.mul_comm (2 ^ (16 * i))]
    · intro j
      refine Nat.le_trans (hz.le j) ?_
      split <;> split <;> omega
  | succ m ih =>
    intro k n hk hn z hz
    obtain ⟨n, rfl⟩ : ∃ n', n = n' + 1 := ⟨n - 1, by omega⟩
    show s12_2 N (l12_2 N E n) E _ _ _ _ _ _ _ = _
    unfold s12_2
    have e1 : addI .i64 (i : Int) (k : Int) = ((i + k : Nat) : Int) := by rw [addI_i (by omega) (by omega)]; omega
    have e3 : addI .i64 (k : Int) 1 = ((k + 1 : Nat) : Int) := by rw [addI_i (by omega) (by omega)]; omega
    have c1 : ltI (k : Int) 16 = true := ltI_t (by omega)
    have c2 : leI (0 : Int) (i : Int) = true := leI_t (by omega)
    have c3 : leI (0 : Int) ((i + k : Nat) : Int) = true := leI_t (by omega)
    have c4 : ltI ((i + k : Nat) : Int) 33 = true := ltI_t (by omega)
    have c5 : ltI (i : Int) 16 = true := ltI_t (by omega)
    have c6 : leI (0 : Int) (k : Int) = true := leI_t (by omega)
    rw [e1, e3]
    simp only [c1, c2, c3, c4, c5, c6, cond_true]
    rw [rd_tab (by omega), rd_tab (by omega), rd_tab (by omega)]
    have hp : part x i * part y k ≤ 4294836225 := by
      have h1 := part_lt x i; have h2 := part_lt y k
      exact Nat.mul_le_mul (show part x i ≤ 65535 by omega) (show part y k ≤ 65535 by omega)
    have hj := hz.le (i + k)
    rw [if_neg (by omega), Nat.add_zero] at hj
    have hj2 : i * 4294836225 ≤ 16 * 4294836225 := Nat.mul_le_mul_right _ (by omega)
    have e4 : addI .u64 (z (i + k) : Int) (mulI .u64 (part x i : Int) (part y k : Int)) = ((z (i + k) + part x i * part y k : Nat) : Int) := by
      have : ((part x i : Int) * (part y k : Int)) = ((part x i * part y k : Nat) : Int) := by simp
      rw [mulI_u (by rw [this]; omega) (by rw [this]; omega), this, addI_u (by omega) (by omega)]; omega
    rw [e4, st_tab (by omega)]
    have et : (tab 33 fun j => if j = i + k then ((z (i + k) + part x i * part y k : Nat) : Int) else (z j : Int)) = tab 33 fun j => ((if j = i + k then z j + part x i * part y k else z j : Nat) : Int) := by
      apply tab_congr
      intro j hj
      by_cases h : j = i + k
      · rw [if_pos h, if_pos h, h]
      · rw [if_neg h, if_neg h]
    rw [et]
    apply ih (k + 1) n (by omega) (by omega)
    constructor
    · rw [wsum_upd, hz.sum, if_pos (by omega), show 16 * (k + 1) = 16 * k + 16 by omega, Nat.pow_add, Nat.mod_mul (x := y), Nat.mul_add, Nat.mul_add, Nat.pow_add]
      rw [Nat.add_assoc]
      congr 2
      unfold part
      generalize x / 2 ^ (16 * i) % 2 ^ 16 = p
      generalize y / 2 ^ (16 * k) % 2 ^ 16 = q
      generalize 2 ^ (16 * i) = s
      generalize 2 ^ (16 * k) = t
      rw [Nat.mul_assoc, Nat.mul_assoc]
      congr 1
      rw [Nat.mul_left_comm, Nat.mul_comm q]
    · intro j
      have := hz.le j
      by_cases h : j = i + k
      · rw [if_pos h, if_pos (by omega), h, Nat.add_mul]
        omega
      · rw [if_neg h]
        refine Nat.le_trans this (Nat.mul_le_mul_right _ ?_)
        by_cases h2 : j < i + k
        · rw [if_pos h2, if_pos (by omega)]; exact Nat.le_refl _
        · rw [if_neg h2]; omega
theorem mul_out (N : Nat) (hN : 300 ≤ N) (x y : Nat) (hx : x < 2 ^ 256) (hy : y < 2 ^ 256) (v w : Vec 4) (R : Option (Vec 4 × Vec 4))
    (hE : ∀ z : Nat → Nat, wsum z 33 = x * y → (∀ j, z j ≤ 17 * 4294836225) → l12_3 N N 0 0 v w (tab 33 fun j => (z j : Int)) (Vec.zero 8) = R) :
    ∀ m i n : Nat, i + m = 16 → m < n → ∀ z, Rows2 x y i 0 z → l12_1 N n (i : Int) v w (tab 16 fun j => (part x j : Int)) (tab 16 fun j => (part y j : Int)) (tab 33 fun j => (z j : Int)) = R := by
  intro m
  induction m with
  | zero =>
    intro i n hi hn z hz
    obtain ⟨n, rfl⟩ : ∃ n', n = n' + 1 := ⟨n - 1, by omega⟩
    obtain rfl : i = 16 := by omega
    show s12_1 N _ _ _ _ _ _ _ _ = _
    unfold s12_1
    rw [ltI_f (by omega), cond_false]
    apply hE
    · rw [hz.sum, Nat.mul_zero, Nat.pow_zero, Nat.mod_one, Nat.mul_zero, Nat.add_zero, Nat.mod_eq_of_lt (show x < 2 ^ (16 * 16) from hx)]
    · intro j
      have := hz.le j
      split at this <;> omega
  | succ m ih =>
    intro i n hi hn z hz
    obtain ⟨n, rfl⟩ : ∃ n', n = n' + 1 := ⟨n - 1, by omega⟩
    show s12_1 N (l12_2 N (l12_1 N n) N) _ _ _ _ _ _ _ = _
    unfold s12_1
    rw [ltI_t (by omega), cond_true]
    exact mul_in N x y i (by omega) hy (l12_1 N n) v w R (fun z hz => ih (i + 1) n (by omega) (by omega) z hz) 16 0 N (by omega) (by omega) z hz
/-! ### the carries -/
theorem low_word (s q n : Nat) (h : 64 * q + 64 ≤ n) : s % 2 ^ n / 2 ^ (64 * q) % 2 ^ 64 = s / 2 ^ (64 * q) % 2 ^ 64 := by
  have e : 2 ^ n = 2 ^ (64 * q) * 2 ^ (n - 64 * q) := by rw [← Nat.pow_add]; congr 1; omega
  rw [e, Nat.mod_mul_right_div_self, Nat.mod_mod_of_dvd _ (Nat.pow_dvd_pow 2 (by omega))]
theorem prod_lt (n x y : Nat) (hx : x < 2 ^ n) (hy : y < 2 ^ n) : x * y < 2 ^ (n + n) := by
  rw [Nat.pow_add]
  exact Nat.lt_of_le_of_lt (Nat.mul_le_mul_left _ (Nat.le_of_lt hy)) (Nat.mul_lt_mul_of_pos_right hx (pow_pos' n))
theorem top_zero (a b c n : Nat) (h : a + c * 2 ^ n = b) (hb : b < 2 ^ n) : a = b := by
  rcases c with _ | c
  · omega
  · rw [Nat.add_mul, Nat.one_mul] at h; omega
theorem word_low {u d i w : Nat} (h : 64 * (w + 1) ≤ 16 * i) : (u + 2 ^ (16 * i) * d) / 2 ^ (64 * w) % 2 ^ 64 = u / 2 ^ (64 * w) % 2 ^ 64 := by
  have e : 2 ^ (16 * i) = 2 ^ (64 * w) * (2 ^ 64 * 2 ^ (16 * i - 64 * (w + 1))) := by rw [← Nat.pow_add, ← Nat.pow_add]; congr 1; omega
  rw [e, Nat.mul_assoc, Nat.add_mul_div_left _ _ (pow_pos' _), Nat.mul_assoc, Nat.add_mul_mod_self_left]
theorem wsum_mono (z : Nat → Nat) : ∀ n, wsum z (n + 1) = wsum z n + 2 ^ (16 * n) * z n := fun n => by rw [wsum, Nat.mul_comm]
theorem digits_step (z : Nat → Nat) (i : Nat) : wsum z (i + 1) % 2 ^ (16 * (i + 1)) = wsum z i % 2 ^ (16 * i) + 2 ^ (16 * i) * ((wsum z i / 2 ^ (16 * i) + z i) % 2 ^ 16) := by
  rw [show 16 * (i + 1) = 16 * i + 16 by omega, Nat.pow_add, Nat.mod_mul, wsum_mono, Nat.add_mul_mod_self_left, Nat.add_mul_div_left _ _ (pow_pos' _)]
theorem carry_step (z : Nat → Nat) (i : Nat) : wsum z (i + 1) / 2 ^ (16 * (i + 1)) = (wsum z i / 2 ^ (16 * i) + z i) / 2 ^ 16 := by
  rw [show 16 * (i + 1) = 16 * i + 16 by omega, Nat.pow_add, ← Nat.div_div_eq_div_mul, wsum_mono, Nat.add_mul_div_left _ _ (pow_pos' _)]
theorem fin_sum (z : Nat → Nat) (x y n m : Nat) (hn : n = 32) (hm : m = 256) (hx : x < 2 ^ m) (hy : y < 2 ^ m) (hz : wsum z (n + 1) = x * y) : wsum z n = x * y :=
  top_zero _ _ _ (16 * n) hz (Nat.lt_of_lt_of_le (prod_lt m x y hx hy) (Nat.pow_le_pow_right (by decide) (by omega)))
/-- one word -/
def wd (s q : Nat) : Nat := s / 2 ^ (64 * q) % 2 ^ 64
theorem W_low (s : Nat) : W (s % 2 ^ 256) = tab 4 fun i => (wd s i : Int) := by rw [W_mod]; rfl
theorem W_high (s : Nat) : W (s / 2 ^ 256) = tab 4 fun i => (wd s (i + 4) : Int) := by
  apply tab_congr
  intro i hi
  unfold wd
  rw [Nat.div_div_eq_div_mul, ← Nat.pow_add, show 256 + 64 * i = 64 * (i + 4) by omega]
theorem mul_end (N : Nat) (z : Nat → Nat) (hz : ∀ j, z j ≤ 17 * 4294836225) (v w : Vec 4) : ∀ m i n : Nat, i + m = 32 → m < n → wsum z i / 2 ^ (16 * i) < 2 ^ 40 →
    l12_3 N n ((wsum z i / 2 ^ (16 * i) : Nat) : Int) (i : Int) v w (tab 33 fun j => (z j : Int)) (tab 8 fun q => ((wsum z i % 2 ^ (16 * i) / 2 ^ (64 * q) % 2 ^ 64 : Nat) : Int)) = some (W (wsum z 32 % 2 ^ 256), W (wsum z 32 / 2 ^ 256)) := by
  intro m
  induction m with
  | zero =>
    intro i n hi hn hc
    obtain ⟨n, rfl⟩ : ∃ n', n = n' + 1 := ⟨n - 1, by omega⟩
    have hi32 : i = 32 := by omega
    show s12_3 N _ _ _ _ _ _ _ = _
    unfold s12_3
    rw [ltI_f (by omega), cond_false]
    have hr : ∀ q : Nat, q < 8 → Vec.rd (tab 8 fun q => ((wsum z i % 2 ^ (16 * i) / 2 ^ (64 * q) % 2 ^ 64 : Nat) : Int)) (q : Int) = (wd (wsum z 32) q : Int) := by
      intro q hq
      rw [rd_tab hq]
      refine congrArg (fun t : Nat => (t : Int)) ?_
      rw [low_word _ _ _ (by omega), hi32]; rfl
    have four : ∀ a b c d : Int, Vec.st (Vec.st (Vec.st (Vec.st (Vec.zero 4) 0 a) 1 b) 2 c) 3 d = ⟨[a, b, c, d], rfl⟩ := fun a b c d => rfl
    have r0 := hr 0 (by omega); have r1 := hr 1 (by omega); have r2 := hr 2 (by omega); have r3 := hr 3 (by omega)
    have r4 := hr 4 (by omega); have r5 := hr 5 (by omega); have r6 := hr 6 (by omega); have r7 := hr 7 (by omega)
    rw [four, four]
    generalize tab 8 (fun q => ((wsum z i % 2 ^ (16 * i) / 2 ^ (64 * q) % 2 ^ 64 : Nat) : Int)) = t at *
    simp only [Int.cast_ofNat_Int] at r0 r1 r2 r3 r4 r5 r6 r7
    have r0' : Vec.rd t 0 = (wd (wsum z 32) 0 : Int) := r0
    rw [r0', r1, r2, r3, r4, r5, r6, r7, W_low, W_high]
    rfl
  | succ m ih =>
    intro i n hi hn hc
    obtain ⟨n, rfl⟩ : ∃ n', n = n' + 1 := ⟨n - 1, by omega⟩
    show s12_3 N (l12_3 N n) _ _ _ _ _ _ = _
    unfold s12_3
    have hzi := hz i
    have hcn : wsum z (i + 1) / 2 ^ (16 * (i + 1)) < 2 ^ 40 := by rw [carry_step]; omega
    have hi' := ih (i + 1) n (by omega) (by omega) hcn
    rw [carry_step] at hi'
    have e1 : quoI .i64 (i : Int) 4 = ((i / 4 : Nat) : Int) := by rw [show (4 : Int) = ((4 : Nat) : Int) from rfl, quoI_i (by omega)]
    have e2 : mulI .i64 16 (remI .i64 (i : Int) 4) = ((16 * (i % 4) : Nat) : Int) := by rw [show (4 : Int) = ((4 : Nat) : Int) from rfl, remI_n, mulI_i (by omega) (by omega)]; omega
    have e3 : addI .i64 (i : Int) 1 = ((i + 1 : Nat) : Int) := by rw [addI_i (by omega) (by omega)]; omega
    have c1 : ltI (i : Int) 32 = true := ltI_t (by omega)
    have c2 : leI (0 : Int) (i : Int) = true := leI_t (by omega)
    have c3 : leI (0 : Int) ((i / 4 : Nat) : Int) = true := leI_t (by omega)
    have c4 : ltI ((i / 4 : Nat) : Int) 8 = true := ltI_t (by omega)
    have c5 : ltI ((16 * (i % 4) : Nat) : Int) 0 = false := ltI_f (by omega)
    have c6 : ltI (i : Int) 33 = true := ltI_t (by omega)
    rw [e1, e2, e3]
    simp only [c1, c2, c3, c4, c5, c6, cond_true, cond_false]
    have e4 : addI .u64 ((wsum z i / 2 ^ (16 * i) : Nat) : Int) (z i : Int) = ((wsum z i / 2 ^ (16 * i) + z i : Nat) : Int) := by
      generalize wsum z i / 2 ^ (16 * i) = c at *
      rw [addI_u (by omega) (by omega)]; omega
    rw [rd_tab (show i < 33 by omega), e4, show (65536 : Int) = ((2 ^ 16 : Nat) : Int) from rfl, quoI_u (by omega), remI_n, rd_tab (by omega), shlI_n (by omega)]
    have hst := digits_step z i
    generalize hd : (wsum z i / 2 ^ (16 * i) + z i) % 2 ^ 16 = d at *
    have hdl : d < 2 ^ 16 := by rw [← hd]; exact Nat.mod_lt _ (by decide)
    have hV : wsum z i % 2 ^ (16 * i) < 2 ^ (16 * i) := Nat.mod_lt _ (pow_pos' _)
    generalize wsum z i % 2 ^ (16 * i) = V at *
    have hw : V / 2 ^ (64 * (i / 4)) < 2 ^ (16 * (i % 4)) := by
      rw [Nat.div_lt_iff_lt_mul (pow_pos' _), ← Nat.pow_add]
      exact Nat.lt_of_lt_of_eq hV (by congr 1; omega)
    have hp : 2 ^ (16 * (i % 4)) ≤ 2 ^ 48 := Nat.pow_le_pow_right (by decide) (by omega)
    have hds : (d + 1) * 2 ^ (16 * (i % 4)) ≤ 2 ^ 16 * 2 ^ (16 * (i % 4)) := Nat.mul_le_mul_right _ hdl
    rw [Nat.add_mul, Nat.one_mul] at hds
    have hsum : V / 2 ^ (64 * (i / 4)) + d * 2 ^ (16 * (i % 4)) < 2 ^ 64 := by
      generalize V / 2 ^ (64 * (i / 4)) = p at *
      generalize d * 2 ^ (16 * (i % 4)) = q at *
      generalize 2 ^ (16 * (i % 4)) = r at *
      omega
    have e5 : addI .u64 ((V / 2 ^ (64 * (i / 4)) % 2 ^ 64 : Nat) : Int) ((d * 2 ^ (16 * (i % 4)) % 18446744073709551616 : Nat) : Int) = ((V / 2 ^ (64 * (i / 4)) + d * 2 ^ (16 * (i % 4)) : Nat) : Int) := by
      generalize V / 2 ^ (64 * (i / 4)) = p at *
      generalize d * 2 ^ (16 * (i % 4)) = q at *
      rw [Nat.mod_eq_of_lt (by omega), Nat.mod_eq_of_lt (by omega), addI_u (by omega) (by omega)]; omega
    rw [e5, st_tab (by omega)]
    refine Eq.trans ?_ hi'
    congr 1
    apply tab_congr
    intro q hq
    rw [hst]
    by_cases h1 : q = i / 4
    · rw [if_pos h1, h1]
      congr 1
      have e : 2 ^ (16 * i) = 2 ^ (64 * (i / 4)) * 2 ^ (16 * (i % 4)) := by rw [← Nat.pow_add]; congr 1; omega
      rw [e, Nat.mul_assoc, Nat.add_mul_div_left _ _ (pow_pos' _), Nat.mul_comm (2 ^ (16 * (i % 4))), Nat.mod_eq_of_lt hsum]
    · rw [if_neg h1]
      congr 1
      by_cases h2 : q < i / 4
      · rw [word_low (by omega)]
      · have hq0 : ∀ u, u < 2 ^ (16 * i + 16) → u / 2 ^ (64 * q) = 0 := fun u hu => Nat.div_eq_of_lt (Nat.lt_of_lt_of_le hu (Nat.pow_le_pow_right (by decide) (by omega)))
        have hVd : V + 2 ^ (16 * i) * d < 2 ^ (16 * i + 16) := by
          rw [Nat.pow_add]
          have : 2 ^ (16 * i) * (d + 1) ≤ 2 ^ (16 * i) * 2 ^ 16 := Nat.mul_le_mul_left _ (by omega)
          rw [Nat.mul_add, Nat.mul_one] at this
          omega
        rw [hq0 _ hVd, hq0 V (Nat.lt_of_lt_of_le hV (Nat.pow_le_pow_right (by decide) (by omega)))]
theorem refMul_eq (N : Nat) (hN : 300 ≤ N) (x y : Nat) (hx : x < 2 ^ 256) (hy : y < 2 ^ 256) : fn_tillerref01_Mul N (W x) (W y) = some (W (x * y % 2 ^ 256), W (x * y / 2 ^ 256)) := by
  unfold fn_tillerref01_Mul t12
  have h1 := mul_p1 N x y (Vec.zero 4) (Vec.zero 4) 16 0 N (by omega) (by omega)
  have h0 : ∀ u : Nat, (tab 16 fun j => if j < 0 then (part u j : Int) else 0) = Vec.zero 16 := by
    intro u; rw [zero_tab]; apply tab_congr; intro j hj; rw [if_neg (by omega)]
  rw [h0, h0] at h1
  refine h1.trans ?_
  have h2 := mul_out N hN x y hx hy (Vec.zero 4) (Vec.zero 4) (some (W (x * y % 2 ^ 256), W (x * y / 2 ^ 256))) (fun z hz hl => by
    have h3 := mul_end N z hl (Vec.zero 4) (Vec.zero 4) 32 0 N (by omega) (by omega) (by simp [wsum])
    have e : wsum z 32 = x * y := by
      exact fin_sum z x y 32 256 rfl rfl hx hy hz
    rw [e] at h3
    have et : (tab 8 fun q => ((wsum z 0 % 2 ^ (16 * 0) / 2 ^ (64 * q) % 2 ^ 64 : Nat) : Int)) = Vec.zero 8 := by
      rw [zero_tab]; apply tab_congr; intro j hj; simp [wsum]
    have e0 : ((wsum z 0 / 2 ^ (16 * 0) : Nat) : Int) = 0 := by simp [wsum]
    rw [et, e0] at h3
    exact h3) 16 0 N (by omega) (by omega) (fun _ => 0) ⟨by
      have : ∀ n, wsum (fun _ => 0) n = 0 := by
        intro n; induction n with
        | zero => rfl
        | succ n ih => rw [wsum, ih]; simp
      rw [this]; simp [Nat.mod_one], fun j => Nat.zero_le _⟩
  rw [zero_tab 33]
  exact h2
end Go.Proofs.Ytpppedolgipikaa.Wid

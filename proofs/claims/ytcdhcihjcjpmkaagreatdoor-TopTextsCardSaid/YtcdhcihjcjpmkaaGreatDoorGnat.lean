/- Plain facts on the functions that were printed. Texts in one: Rn1, Rn2, Nat1, Nat2, Nat3, Rn3, Rn4, Nat4, Nat5, Nat6, Txt1. No statement is proved here. -/
import Derived.Test.YtcdhcihjcjpmkaaGreatDoorFn2
import Derived.Test.YtcdhcihjcjpmkaaGreatDoorGbas
namespace Go.Proofs.YtcdhcihjcjpmkaaGreatDoor.Rn
open Go Go.RowKit Go.Proofs.YtcdhcihjcjpmkaaGreatDoor.Eng Go.Proofs.YtcdhcihjcjpmkaaGreatDoor.Fns Go.Proofs.YtcdhcihjcjpmkaaGreatDoor.Bw Go.Proofs.YtcdhcihjcjpmkaaGreatDoor.Dig
set_option linter.unusedVariables false
set_option linter.unusedSimpArgs false
/-- the number's parts of 16 bits -/
abbrev X (n : Nat) : List Int := D 65536 n
theorem b16 : (1 : Nat) < 65536 := by decide
def cmpZ (m n : Nat) : Int := if m < n then -1 else if n < m then 1 else 0
theorem shl_carry (n by_ i : Nat) : (n * by_) / 65536 ^ i = (n % 65536 ^ i * by_) / 65536 ^ i + n / 65536 ^ i * by_ := by
  have h := Nat.div_add_mod n (65536 ^ i)
  have e : n * by_ = n % 65536 ^ i * by_ + 65536 ^ i * (n / 65536 ^ i * by_) := by
    calc n * by_ = (65536 ^ i * (n / 65536 ^ i) + n % 65536 ^ i) * by_ := by rw [h]
      _ = _ := by rw [Nat.add_mul, Nat.mul_assoc, Nat.add_comm]
  rw [e, Nat.add_mul_div_left _ _ (pow_pos (by decide) i)]
theorem carry_lt (n by_ i : Nat) (h : 0 < by_) : (n % 65536 ^ i * by_) / 65536 ^ i < by_ := by
  rw [Nat.div_lt_iff_lt_mul (pow_pos (by decide) i), Nat.mul_comm by_]
  exact Nat.mul_lt_mul_of_pos_right (Nat.mod_lt _ (pow_pos (by decide) i)) h
theorem carry_step (n by_ i : Nat) : (n % 65536 ^ (i + 1) * by_) / 65536 ^ (i + 1) = ((n % 65536 ^ i * by_) / 65536 ^ i + n / 65536 ^ i % 65536 * by_) / 65536 := by
  have e := shl_carry (n % 65536 ^ (i + 1)) by_ i
  rw [Nat.pow_succ, ← Nat.div_div_eq_div_mul]
  rw [Nat.pow_succ] at e
  rw [e, Nat.mod_mul_right_mod, Nat.mod_mul_right_div_self]
end Go.Proofs.YtcdhcihjcjpmkaaGreatDoor.Rn
/- PLAIN FACTS on the reference's numbers of chapter 2 (parts of 16 bits): From, Add, Sub, Mul, Shr. No statement is proved here. -/
namespace Go.Proofs.YtcdhcihjcjpmkaaGreatDoor.Rn
open Go Go.RowKit Go.Proofs.YtcdhcihjcjpmkaaGreatDoor.Eng Go.Proofs.YtcdhcihjcjpmkaaGreatDoor.Fns Go.Proofs.YtcdhcihjcjpmkaaGreatDoor.Bw Go.Proofs.YtcdhcihjcjpmkaaGreatDoor.Dig
set_option linter.unusedVariables false
set_option linter.unusedSimpArgs false
abbrev Y (n : Nat) : List Int := D 4294967296 n
theorem b32 : (1 : Nat) < 4294967296 := by decide
theorem pow32 (i : Nat) : 4294967296 ^ i = 65536 ^ (2 * i) := by rw [Nat.pow_mul]
theorem p16 (i : Nat) : 0 < 65536 ^ i := Nat.pow_pos (by decide)
def car (m n i : Nat) : Nat := (m % 65536 ^ i + n % 65536 ^ i) / 65536 ^ i
theorem car_lt (m n i : Nat) : car m n i < 2 := by
  unfold car
  have h1 := Nat.mod_lt m (p16 i)
  have h2 := Nat.mod_lt n (p16 i)
  rw [Nat.div_lt_iff_lt_mul (p16 i)]; omega
theorem sum_div (m n i : Nat) : (m + n) / 65536 ^ i = m / 65536 ^ i + n / 65536 ^ i + car m n i := by
  have h1 := Nat.div_add_mod m (65536 ^ i)
  have h2 := Nat.div_add_mod n (65536 ^ i)
  have e : m + n = (m % 65536 ^ i + n % 65536 ^ i) + 65536 ^ i * (m / 65536 ^ i + n / 65536 ^ i) := by rw [Nat.mul_add]; omega
  unfold car
  conv => lhs; rw [e]
  rw [Nat.add_mul_div_left _ _ (p16 i)]; omega
theorem car_succ (m n i : Nat) : car m n (i + 1) = (car m n i + m / 65536 ^ i % 65536 + n / 65536 ^ i % 65536) / 65536 := by
  have h := sum_div m n i
  have h' := sum_div m n (i + 1)
  rw [Nat.pow_succ, ← Nat.div_div_eq_div_mul, ← Nat.div_div_eq_div_mul, ← Nat.div_div_eq_div_mul, h] at h'
  omega
theorem add_step (N m n i : Nat) (hi : i < 4611686018427387904) : addI .u32 (addI .u32 (car m n i : Int) ((m / 65536 ^ i % 65536 : Nat) : Int)) ((n / 65536 ^ i % 65536 : Nat) : Int) = ((car m n i + m / 65536 ^ i % 65536 + n / 65536 ^ i % 65536 : Nat) : Int) := by
  have := car_lt m n i
  rw [addN (by simp only [lim]; omega), addN (by simp only [lim]; omega)]
theorem add_digit (m n i : Nat) : T 65536 i (m + n) ++ [remI .u32 ((car m n i + m / 65536 ^ i % 65536 + n / 65536 ^ i % 65536 : Nat) : Int) 65536] = T 65536 (i + 1) (m + n) := by
  rw [T_succ, sum_div]
  congr 2
  show (((car m n i + m / 65536 ^ i % 65536 + n / 65536 ^ i % 65536) % 65536 : Nat) : Int) = _
  congr 1; omega
theorem add_quo (m n i : Nat) : quoI .u32 ((car m n i + m / 65536 ^ i % 65536 + n / 65536 ^ i % 65536 : Nat) : Int) 65536 = (car m n (i + 1) : Int) := by
  have := car_lt m n i
  have h : quoI .u32 ((car m n i + m / 65536 ^ i % 65536 + n / 65536 ^ i % 65536 : Nat) : Int) 65536 = (((car m n i + m / 65536 ^ i % 65536 + n / 65536 ^ i % 65536) / 65536 : Nat) : Int) := quoN (by simp only [lim]; omega)
  rw [h, car_succ]
def brw (m n i : Nat) : Nat := if m % 65536 ^ i < n % 65536 ^ i then 1 else 0
theorem brw_lt (m n i : Nat) : brw m n i < 2 := by unfold brw; split <;> omega
theorem sub_div (m n i : Nat) (h : n ≤ m) : (m - n) / 65536 ^ i + n / 65536 ^ i + brw m n i = m / 65536 ^ i := by
  have h1 := Nat.div_add_mod m (65536 ^ i)
  have h2 := Nat.div_add_mod n (65536 ^ i)
  have l1 := Nat.mod_lt m (p16 i)
  have l2 := Nat.mod_lt n (p16 i)
  have hq : n / 65536 ^ i ≤ m / 65536 ^ i := Nat.div_le_div_right h
  unfold brw
  generalize 65536 ^ i = P at *
  generalize m / P = a at *
  generalize n / P = b at *
  generalize m % P = r at *
  generalize n % P = s at *
  obtain ⟨d, rfl⟩ : ∃ d, a = b + d := ⟨a - b, by omega⟩
  rw [Nat.mul_add] at h1
  split
  · rename_i hlt
    cases d with
    | zero => rw [Nat.mul_zero] at h1; omega
    | succ d =>
      rw [Nat.mul_succ] at h1
      have : m - n = (P + r - s) + P * d := by omega
      rw [this, Nat.add_mul_div_left _ _ (by omega), Nat.div_eq_of_lt (by omega)]; omega
  · have : m - n = (r - s) + P * d := by omega
    rw [this, Nat.add_mul_div_left _ _ (by omega), Nat.div_eq_of_lt (by omega)]; omega
theorem brw_succ (m n i : Nat) : brw m n (i + 1) = 1 - (65536 + m / 65536 ^ i % 65536 - n / 65536 ^ i % 65536 - brw m n i) / 65536 := by
  have l1 := Nat.mod_lt m (p16 i)
  have l2 := Nat.mod_lt n (p16 i)
  have l3 : m / 65536 ^ i % 65536 < 65536 := Nat.mod_lt _ (by decide)
  have l4 : n / 65536 ^ i % 65536 < 65536 := Nat.mod_lt _ (by decide)
  unfold brw
  rw [Nat.pow_succ, Nat.mod_mul, Nat.mod_mul]
  generalize 65536 ^ i = P at *
  generalize m / P % 65536 = a at *
  generalize n / P % 65536 = b at *
  generalize m % P = r at *
  generalize n % P = s at *
  rcases Nat.lt_trichotomy a b with h | h | h
  · have := Nat.mul_le_mul_left P h
    rw [Nat.mul_succ] at this
    rw [if_pos (by omega)]
    split <;> omega
  · subst h
    by_cases hr : r < s
    · rw [if_pos (by omega), if_pos hr]; omega
    · rw [if_neg (by omega), if_neg hr]; omega
  · have := Nat.mul_le_mul_left P h
    rw [Nat.mul_succ] at this
    rw [if_neg (by omega)]
    split <;> omega
end Go.Proofs.YtcdhcihjcjpmkaaGreatDoor.Rn
/- PLAIN FACTS on the program's numbers of chapter 2 (words of 32 bits): trim, Of, Check, at, Add, Cmp, Sub. No statement is proved here. -/
namespace Go.Proofs.YtcdhcihjcjpmkaaGreatDoor.Nt
open Go Go.RowKit Go.Proofs.YtcdhcihjcjpmkaaGreatDoor.Eng Go.Proofs.YtcdhcihjcjpmkaaGreatDoor.Fns Go.Proofs.YtcdhcihjcjpmkaaGreatDoor.Bw Go.Proofs.YtcdhcihjcjpmkaaGreatDoor.Dig
open Go.Proofs.YtcdhcihjcjpmkaaGreatDoor.Rn (Y b32 cmpZ)
set_option linter.unusedVariables false
set_option linter.unusedSimpArgs false
theorem p32 (i : Nat) : 0 < 4294967296 ^ i := Nat.pow_pos (by decide)
theorem T_put {b k S i : Nat} (hb : 1 < b) (hi : i < k) : (T b k (S % b ^ i)).set i ((S / b ^ i % b : Nat) : Int) = T b k (S % b ^ (i + 1)) := by
  rw [T_set hb hi (Nat.mod_lt _ (by omega))]
  congr 1
  have h0 : S % b ^ i < b ^ i := Nat.mod_lt _ (pow_pos (by omega) i)
  have h1 : S % b ^ i / b ^ (i + 1) = 0 := Nat.div_eq_of_lt (Nat.lt_of_lt_of_le h0 (Nat.pow_le_pow_right (by omega) (by omega)))
  rw [h1, Nat.mul_zero, Nat.add_zero, Nat.mod_mod, Nat.pow_succ, Nat.mod_mul]
/-! ### sums and differences, digit by digit -/
def car (m n i : Nat) : Nat := (m % 4294967296 ^ i + n % 4294967296 ^ i) / 4294967296 ^ i
theorem car_lt (m n i : Nat) : car m n i < 2 := by
  unfold car
  have h1 := Nat.mod_lt m (p32 i)
  have h2 := Nat.mod_lt n (p32 i)
  rw [Nat.div_lt_iff_lt_mul (p32 i)]; omega
theorem sum_div (m n i : Nat) : (m + n) / 4294967296 ^ i = m / 4294967296 ^ i + n / 4294967296 ^ i + car m n i := by
  have h1 := Nat.div_add_mod m (4294967296 ^ i)
  have h2 := Nat.div_add_mod n (4294967296 ^ i)
  have e : m + n = (m % 4294967296 ^ i + n % 4294967296 ^ i) + 4294967296 ^ i * (m / 4294967296 ^ i + n / 4294967296 ^ i) := by rw [Nat.mul_add]; omega
  unfold car
  conv => lhs; rw [e]
  rw [Nat.add_mul_div_left _ _ (p32 i)]; omega
theorem car_succ (m n i : Nat) : car m n (i + 1) = (car m n i + m / 4294967296 ^ i % 4294967296 + n / 4294967296 ^ i % 4294967296) / 4294967296 := by
  have h := sum_div m n i
  have h' := sum_div m n (i + 1)
  rw [Nat.pow_succ, ← Nat.div_div_eq_div_mul, ← Nat.div_div_eq_div_mul, ← Nat.div_div_eq_div_mul, h] at h'
  omega
def brw (m n i : Nat) : Nat := if m % 4294967296 ^ i < n % 4294967296 ^ i then 1 else 0
theorem brw_lt (m n i : Nat) : brw m n i < 2 := by unfold brw; split <;> omega
theorem sub_div (m n i : Nat) (h : n ≤ m) : (m - n) / 4294967296 ^ i + n / 4294967296 ^ i + brw m n i = m / 4294967296 ^ i := by
  have h1 := Nat.div_add_mod m (4294967296 ^ i)
  have h2 := Nat.div_add_mod n (4294967296 ^ i)
  have l1 := Nat.mod_lt m (p32 i)
  have l2 := Nat.mod_lt n (p32 i)
  have hq : n / 4294967296 ^ i ≤ m / 4294967296 ^ i := Nat.div_le_div_right h
  unfold brw
  generalize 4294967296 ^ i = P at *
  generalize m / P = a at *
  generalize n / P = b at *
  generalize m % P = r at *
  generalize n % P = s at *
  obtain ⟨d, rfl⟩ : ∃ d, a = b + d := ⟨a - b, by omega⟩
  rw [Nat.mul_add] at h1
  split
  · rename_i hlt
    cases d with
    | zero => rw [Nat.mul_zero] at h1; omega
    | succ d =>
      rw [Nat.mul_succ] at h1
      have : m - n = (P + r - s) + P * d := by omega
      rw [this, Nat.add_mul_div_left _ _ (by omega), Nat.div_eq_of_lt (by omega)]; omega
  · have : m - n = (r - s) + P * d := by omega
    rw [this, Nat.add_mul_div_left _ _ (by omega), Nat.div_eq_of_lt (by omega)]; omega
theorem brw_succ (m n i : Nat) : brw m n (i + 1) = 1 - (4294967296 + m / 4294967296 ^ i % 4294967296 - n / 4294967296 ^ i % 4294967296 - brw m n i) / 4294967296 := by
  have l1 := Nat.mod_lt m (p32 i)
  have l2 := Nat.mod_lt n (p32 i)
  have l3 : m / 4294967296 ^ i % 4294967296 < 4294967296 := Nat.mod_lt _ (by decide)
  have l4 : n / 4294967296 ^ i % 4294967296 < 4294967296 := Nat.mod_lt _ (by decide)
  unfold brw
  rw [Nat.pow_succ, Nat.mod_mul, Nat.mod_mul]
  generalize 4294967296 ^ i = P at *
  generalize m / P % 4294967296 = a at *
  generalize n / P % 4294967296 = b at *
  generalize m % P = r at *
  generalize n % P = s at *
  rcases Nat.lt_trichotomy a b with h | h | h
  · have := Nat.mul_le_mul_left P h
    rw [Nat.mul_succ] at this
    rw [if_pos (by omega)]
    split <;> omega
  · subst h
    by_cases hr : r < s
    · rw [if_pos (by omega), if_pos hr]; omega
    · rw [if_neg (by omega), if_neg hr]; omega
  · have := Nat.mul_le_mul_left P h
    rw [Nat.mul_succ] at this
    rw [if_neg (by omega)]
    split <;> omega

/-! ### the program -/
theorem trim_loop (N : Nat) : ∀ (j f n : Nat), j < f → j < 4611686018427387904 → n < 4294967296 ^ j → l80_0 N f (T 4294967296 j n) = some (Y n) := by
  intro j
  induction j with
  | zero =>
    intro f n hf _ hn
    obtain ⟨f, rfl⟩ : ∃ n', f = n' + 1 := ⟨f - 1, by omega⟩
    have : n = 0 := by simpa using hn
    subst this
    show s80_0 N _ _ = _
    unfold s80_0
    rw [T_len, ltI_f (by omega), cond_false, T_zero, Y, D_nil]
  | succ j ih =>
    intro f n hf hj hn
    obtain ⟨f, rfl⟩ : ∃ n', f = n' + 1 := ⟨f - 1, by omega⟩
    show s80_0 N (l80_0 N f) _ = _
    unfold s80_0
    rw [T_len, predI j (by omega), ltI_t (by omega), cond_true, leI_t (by omega), cond_true, ltI_t (by omega), cond_true, lrd_T (by omega)]
    by_cases h0 : n / 4294967296 ^ j % 4294967296 = 0
    · rw [eqI_t (by omega), cond_true, leI_t (by omega), leI_t (by omega), leI_t (by omega)]
      have hle : leI ((j + 1 : Nat) : Int) ((j + 1 : Nat) : Int) = true := leI_t (by omega)
      simp only [Bool.and_self, Bool.or_self, cond_true]
      rw [Int.toNat_natCast, T_take (by omega), show (0 : Int).toNat = 0 from rfl, List.drop_zero]
      exact ih f n (by omega) (by omega) (T_cut b32 h0 hn)
    · rw [eqI_f (by omega), cond_false]
      have hge : 4294967296 ^ j ≤ n := by
        apply Nat.le_of_not_lt
        intro h; rw [Nat.div_eq_of_lt h] at h0; simp at h0
      rw [Y, D, dl_eq b32 hge hn]
theorem trim_eq (N k n : Nat) (hk : k < 4611686018427387904) (hN : k < N) (hn : n < 4294967296 ^ k) : fn_nat_trim N (T 4294967296 k n) = some (Y n) := by
  unfold fn_nat_trim t80
  exact trim_loop N k N n hN hk hn
theorem of_eq (N n : Nat) (hN : 2 < N) (hn : n < 18446744073709551616) : fn_nat_Of N (n : Int) = some (Y n) := by
  unfold fn_nat_Of
  have e : [cvI .u32 (n : Int), cvI .u32 (shrI .u64 (n : Int) 32)] = T 4294967296 2 n := by
    have q1 : shrI .u64 (n : Int) 32 = ((n / 2 ^ 32 : Nat) : Int) := shrN (k := .u64) (b := 32) (by decide)
    rw [q1, cvU32, cvU32]
    simp [T, List.range, List.range.loop]
  rw [e, trim_eq N 2 n (by omega) hN (by simpa using hn), Option.bind_some]
theorem len_pred (n : Nat) (h : 0 < n) (h2 : n < 9223372036854775808) : subI .i64 (n : Int) 1 = ((n - 1 : Nat) : Int) := by
  obtain ⟨k, rfl⟩ : ∃ k, n = k + 1 := ⟨n - 1, by omega⟩
  rw [predI k h2]; rfl
theorem check_Y (N n : Nat) (h : dl 4294967296 n ≤ 8192) : fn_nat_Check N (Y n) = some none := by
  unfold fn_nat_Check
  rw [D_len, ltI_f (by omega), cond_false]
  by_cases h0 : 0 < dl 4294967296 n
  · have hn : 0 < n := by
      apply Nat.pos_of_ne_zero; rintro rfl; rw [dl_zero] at h0; omega
    have ht := D_top b32 hn
    rw [ltI_t (by omega), cond_true, len_pred _ h0 (by omega), leI_t (by omega), cond_true, ltI_t (by omega), cond_true, lrd_D b32, Nat.mod_eq_of_lt ht.2, eqI_f (by omega), cond_false]
  · rw [ltI_f (by omega), cond_false]
/-- words that are no number -/
def bad (xs : List Int) : Prop := 8192 < xs.length ∨ (0 < xs.length ∧ lrd xs ((xs.length - 1 : Nat) : Int) = 0)
theorem check_bad (N : Nat) (xs : List Int) (h : bad xs) (hl : xs.length < 9223372036854775808) : fn_nat_Check N xs = some (some 1) := by
  unfold fn_nat_Check
  by_cases h1 : 8192 < xs.length
  · rw [ltI_t (by omega), cond_true]
  · rcases h with h | ⟨h2, h3⟩
    · exact absurd h h1
    · rw [ltI_f (by omega), cond_false, ltI_t (by omega), cond_true, len_pred _ h2 hl, leI_t (by omega), cond_true, ltI_t (by omega), cond_true, h3]; rfl
theorem nat_cases (xs : List Int) (h : okL .u32 xs) : (∃ n, dl 4294967296 n ≤ 8192 ∧ dl 4294967296 n = xs.length ∧ xs = Y n) ∨ bad xs := by
  by_cases h1 : 8192 < xs.length
  · exact .inr (.inl h1)
  · by_cases h2 : xs = [] ∨ lrd xs ((xs.length - 1 : Nat) : Int) ≠ 0
    · obtain ⟨n, hn, e⟩ := D_all b32 xs (fun x hx => by have := u32_in (h x hx); omega) h2
      have : dl 4294967296 n = xs.length := by rw [← D_len 4294967296 n, ← e]
      exact .inl ⟨n, by omega, this, e⟩
    · refine .inr (.inr ⟨?_, ?_⟩)
      · apply Nat.pos_of_ne_zero
        intro h3; exact h2 (.inl (List.eq_nil_of_length_eq_zero h3))
      · exact Classical.byContradiction fun h3 => h2 (.inr h3)
theorem both_Y (N m n : Nat) (hm : dl 4294967296 m ≤ 8192) (hn : dl 4294967296 n ≤ 8192) : fn_nat_both N (Y m) (Y n) = some none := by
  unfold fn_nat_both
  rw [check_Y N m hm, Option.bind_some, check_Y N n hn, Option.bind_some]; rfl
theorem both_bad1 (N : Nat) (xs ys : List Int) (h : bad xs) (hl : xs.length < 9223372036854775808) : fn_nat_both N xs ys = some (some 1) := by
  unfold fn_nat_both
  rw [check_bad N xs h hl, Option.bind_some]; rfl
theorem both_bad2 (N m : Nat) (ys : List Int) (hm : dl 4294967296 m ≤ 8192) (h : bad ys) (hl : ys.length < 9223372036854775808) : fn_nat_both N (Y m) ys = some (some 1) := by
  unfold fn_nat_both
  rw [check_Y N m hm, Option.bind_some, check_bad N ys h hl, Option.bind_some]; rfl
theorem at_eq (N n i : Nat) : fn_nat_N_at N (Y n) (i : Int) = some ((n / 4294967296 ^ i % 4294967296 : Nat) : Int) := by
  unfold fn_nat_N_at
  have h := lrd_D b32 n i
  by_cases hi : i < dl 4294967296 n
  · rw [D_len, ltI_t (by omega), cond_true, leI_t (by omega), cond_true, cond_true, h, cvN (by have := Nat.mod_lt (n / 4294967296 ^ i) (show 0 < 4294967296 by decide); simp only [lim]; omega)]
  · rw [D_len, ltI_f (by omega), cond_false]
    have e : n / 4294967296 ^ i = 0 := Nat.div_eq_of_lt (Nat.lt_of_lt_of_le (dl_lt b32 n) (Nat.pow_le_pow_right (by decide) (by omega)))
    rw [e]; rfl
theorem clip_eq (N : Nat) (xs : List Int) : fn_nat_N_uint32 N xs = some xs := by
  unfold fn_nat_N_uint32
  rw [leI_t (Int.le_refl 0), leI_t (by omega), leI_t (Int.le_refl _)]
  simp
/-- what a number becomes that may be too long -/
def bnd32 (n : Nat) : List Int × Option Int := if dl 4294967296 n ≤ 8192 then (Y n, none) else ([], some 2)
theorem bounded_eq (N k n : Nat) (hk : k < 4611686018427387904) (hN : k < N) (hn : n < 4294967296 ^ k) : fn_nat_bounded N (T 4294967296 k n) = some (bnd32 n) := by
  unfold fn_nat_bounded bnd32
  rw [trim_eq N k n hk hN hn, Option.bind_some, D_len]
  by_cases h : dl 4294967296 n ≤ 8192
  · rw [ltI_f (by omega), cond_false, clip_eq, if_pos h, Option.bind_some]
  · rw [ltI_t (by omega), cond_true, if_neg h]
theorem bounded_Y (N n : Nat) (hN : dl 4294967296 n < N) (hN2 : N < 4611686018427387904) : fn_nat_bounded N (Y n) = some (bnd32 n) := bounded_eq N _ n (by omega) hN (dl_lt b32 n)
theorem add_loop (N m n L : Nat) (hL : m + n < 4294967296 ^ L) (hN : L < N) (hN2 : N < 17592186044416) : ∀ (r i f : Nat), i + r = L → r < f →
    l86_0 N f (Y m) (Y n) (car m n i : Int) (L : Int) (i : Int) (T 4294967296 L ((m + n) % 4294967296 ^ i)) = some (bnd32 (m + n)) := by
  intro r
  induction r with
  | zero =>
    intro i f hi hf
    obtain ⟨f, rfl⟩ : ∃ n', f = n' + 1 := ⟨f - 1, by omega⟩
    show s86_0 N _ _ _ _ _ _ _ = _
    unfold s86_0
    have : i = L := by omega
    subst this
    rw [ltI_f (by omega), cond_false, Nat.mod_eq_of_lt hL, bounded_eq N _ _ (by omega) hN hL, Option.bind_some]
  | succ r ih =>
    intro i f hi hf
    obtain ⟨f, rfl⟩ : ∃ n', f = n' + 1 := ⟨f - 1, by omega⟩
    show s86_0 N (l86_0 N f) _ _ _ _ _ _ = _
    unfold s86_0
    have hc := car_lt m n i
    have h1 := Nat.mod_lt (m / 4294967296 ^ i) (show 0 < 4294967296 by decide)
    have h2 := Nat.mod_lt (n / 4294967296 ^ i) (show 0 < 4294967296 by decide)
    have hs := car_succ m n i
    have hd := sum_div m n i
    rw [ltI_t (by omega), cond_true, at_eq, at_eq, Option.bind_some, Option.bind_some, leI_t (by omega), cond_true, T_len, ltI_t (by omega), cond_true, succI i (by omega), addN (a := m / 4294967296 ^ i % 4294967296) (by simp only [lim]; omega), addN (by simp only [lim]; omega)]
    have e1 : shrI .u64 ((car m n i + (m / 4294967296 ^ i % 4294967296 + n / 4294967296 ^ i % 4294967296) : Nat) : Int) 32 = ((car m n (i + 1) : Nat) : Int) := by
      rw [show (32 : Int) = ((32 : Nat) : Int) from rfl, shrN (by decide), hs, Nat.add_assoc]
    have e2 : cvI .u32 ((car m n i + (m / 4294967296 ^ i % 4294967296 + n / 4294967296 ^ i % 4294967296) : Nat) : Int) = (((m + n) / 4294967296 ^ i % 4294967296 : Nat) : Int) := by
      rw [cvU32, hd]; congr 1; omega
    rw [e1, e2, Int.toNat_natCast, T_put b32 (by omega)]
    exact ih (i + 1) f (by omega) (by omega)
theorem add_eq (N m n : Nat) (hm : dl 4294967296 m ≤ 8192) (hn : dl 4294967296 n ≤ 8192) (hN : 8194 < N) (hN2 : N < 17592186044416) : fn_nat_Add N (Y m) (Y n) = some (bnd32 (m + n)) := by
  unfold fn_nat_Add t86
  have e1 : addI .i64 (maxI (dl 4294967296 m : Int) (dl 4294967296 n : Int)) 1 = ((max (dl 4294967296 m) (dl 4294967296 n) + 1 : Nat) : Int) := by rw [maxN, succI _ (by omega)]
  rw [both_Y N m n hm hn, Option.bind_some, D_len, D_len, e1, show isNoneI none = true from rfl, Bool.not_true, cond_false, leI_t (by omega), cond_true, leI_t (by omega), cond_true, Int.toNat_natCast, List.length_replicate]
  generalize hL : max (dl 4294967296 m) (dl 4294967296 n) = L
  have lt : m + n < 4294967296 ^ (L + 1) := by
    have hm2 : m < 4294967296 ^ L := Nat.lt_of_lt_of_le (dl_lt b32 m) (Nat.pow_le_pow_right (by decide) (by omega))
    have hn2 : n < 4294967296 ^ L := Nat.lt_of_lt_of_le (dl_lt b32 n) (Nat.pow_le_pow_right (by decide) (by omega))
    rw [Nat.pow_succ]; omega
  have h := add_loop N m n (L + 1) lt (by omega) hN2 (L + 1) 0 N (by omega) (by omega)
  have hc : car m n 0 = 0 := by unfold car; simp [Nat.mod_one]
  rw [hc, Nat.pow_zero, Nat.mod_one, T_nought (by decide), show ((0 : Nat) : Int) = 0 from rfl] at h
  exact h
theorem add_bad (N : Nat) (xs ys : List Int) (h : fn_nat_both N xs ys = some (some 1)) : fn_nat_Add N xs ys = some ([], some 1) := by
  unfold fn_nat_Add t86
  rw [h, Option.bind_some]; rfl
theorem cmp_loop (N m n L : Nat) (hm : dl 4294967296 m = L) (hn : dl 4294967296 n = L) : ∀ (j f : Nat), j ≤ L → j < 4611686018427387904 → j < f → m / 4294967296 ^ j = n / 4294967296 ^ j → l106_0 N f (Y m) (Y n) ((j : Int) - 1) = some (cmpZ m n) := by
  intro j
  induction j with
  | zero =>
    intro f _ _ hf h
    obtain ⟨f, rfl⟩ : ∃ n', f = n' + 1 := ⟨f - 1, by omega⟩
    have : m = n := by simpa using h
    subst this
    show s106_0 N _ _ _ _ = _
    unfold s106_0
    rw [leI_f (by omega), cond_false]; simp [cmpZ]
  | succ j ih =>
    intro f hj hj2 hf h
    obtain ⟨f, rfl⟩ : ∃ n', f = n' + 1 := ⟨f - 1, by omega⟩
    show s106_0 N (l106_0 N f) _ _ _ = _
    unfold s106_0
    have e0 : ((j + 1 : Nat) : Int) - 1 = (j : Int) := by omega
    have e1 : subI .i64 (j : Int) 1 = (j : Int) - 1 := subI_i (by omega) (by omega)
    rw [e0, e1, D_len, D_len, leI_t (by omega), hm, hn, ltI_t (show (j : Int) < (L : Int) by omega)]
    simp only [cond_true]
    rw [lrd_D b32, lrd_D b32]
    have hm := Nat.div_add_mod (m / 4294967296 ^ j) 4294967296
    have hn := Nat.div_add_mod (n / 4294967296 ^ j) 4294967296
    rw [Nat.div_div_eq_div_mul, ← Nat.pow_succ] at hm hn
    rw [h] at hm
    have lt : ∀ {a b : Nat}, a / 4294967296 ^ j < b / 4294967296 ^ j → a < b := fun {a b} h => by
      apply Nat.lt_of_not_le; intro h2; exact absurd (Nat.div_le_div_right (c := 4294967296 ^ j) h2) (by omega)
    have lt1 := lt (a := m) (b := n)
    have lt2 := lt (a := n) (b := m)
    have ih := fun h => ih f (by omega) (by omega) (by omega) h
    generalize m / 4294967296 ^ j = A at *
    generalize n / 4294967296 ^ j = B at *
    generalize n / 4294967296 ^ (j + 1) = C at *
    by_cases h1 : A % 4294967296 < B % 4294967296
    · rw [ltI_t (by omega), cond_true]
      have := lt1 (by omega)
      simp [cmpZ, this]
    · rw [ltI_f (by omega), cond_false]
      by_cases h2 : B % 4294967296 < A % 4294967296
      · rw [ltI_t (by omega), cond_true]
        have := lt2 (by omega)
        simp [cmpZ, this, show ¬ m < n by omega]
      · rw [ltI_f (by omega), cond_false]
        exact ih (by omega)
theorem dl_mono {m n : Nat} (h : dl 4294967296 m < dl 4294967296 n) : m < n := by
  apply Nat.lt_of_not_le
  intro h2
  have := dl_le b32 (Nat.lt_of_le_of_lt h2 (dl_lt b32 m))
  omega
theorem compare_eq (N m n : Nat) (hm : dl 4294967296 m < N) (hN : N < 4611686018427387904) : fn_nat_compare N (Y m) (Y n) = some (cmpZ m n) := by
  unfold fn_nat_compare t106
  rw [D_len, D_len]
  by_cases h : dl 4294967296 m = dl 4294967296 n
  · rw [eqI_t (by omega)]
    simp only [Bool.not_true, cond_false]
    rw [show subI .i64 (dl 4294967296 m : Int) 1 = (dl 4294967296 m : Int) - 1 from subI_i (by omega) (by omega)]
    refine cmp_loop N m n _ rfl h.symm _ N (Nat.le_refl _) (by omega) hm ?_
    rw [Nat.div_eq_of_lt (dl_lt b32 m), h, Nat.div_eq_of_lt (dl_lt b32 n)]
  · rw [eqI_f (by omega)]
    simp only [Bool.not_false, cond_true]
    by_cases h2 : dl 4294967296 m < dl 4294967296 n
    · have := dl_mono h2
      rw [ltI_t (by omega), cond_true]; simp [cmpZ, this]
    · have := dl_mono (show dl 4294967296 n < dl 4294967296 m by omega)
      rw [ltI_f (by omega), cond_false]; simp [cmpZ, this, show ¬ m < n by omega]
theorem cmpZ_lt {m n : Nat} : ltI (cmpZ m n) 0 = decide (m < n) := by unfold cmpZ; split <;> rename_i h <;> (try split) <;> simp [h, ltI_eq]
end Go.Proofs.YtcdhcihjcjpmkaaGreatDoor.Nt
/- PLAIN FACTS on the program's numbers of chapter 2 (words of 32 bits): times, Mul, up, Shl, Len, Pow. No statement is proved here. -/
namespace Go.Proofs.YtcdhcihjcjpmkaaGreatDoor.Nt
open Go Go.RowKit Go.Proofs.YtcdhcihjcjpmkaaGreatDoor.Eng Go.Proofs.YtcdhcihjcjpmkaaGreatDoor.Fns Go.Proofs.YtcdhcihjcjpmkaaGreatDoor.Bw Go.Proofs.YtcdhcihjcjpmkaaGreatDoor.Dig
open Go.Proofs.YtcdhcihjcjpmkaaGreatDoor.Rn (Y b32 cmpZ)
set_option linter.unusedVariables false
set_option linter.unusedSimpArgs false
theorem mod32 (n i : Nat) : n % 4294967296 ^ (i + 1) = n % 4294967296 ^ i + 4294967296 ^ i * (n / 4294967296 ^ i % 4294967296) := by rw [Nat.pow_succ, Nat.mod_mul]
/-- a digit put in place of another one -/
theorem set_val (a i v : Nat) : a % 4294967296 ^ i + 4294967296 ^ i * v + 4294967296 ^ (i + 1) * (a / 4294967296 ^ (i + 1)) + 4294967296 ^ i * (a / 4294967296 ^ i % 4294967296) = a + 4294967296 ^ i * v := by
  have h := Nat.div_add_mod a (4294967296 ^ (i + 1))
  rw [mod32] at h
  omega
theorem mul_in (N x y i : Nat) (hi : i < dl 4294967296 x) (hl : dl 4294967296 x + dl 4294967296 y < 4611686018427387904) (E : List Int → List Int → Int → Int → List Int → Option (List Int)) :
    ∀ (r k f acc c : Nat), k + r = dl 4294967296 y → r < f → c < 4294967296 → acc < 4294967296 ^ (i + dl 4294967296 y) → acc + c * 4294967296 ^ (i + k) = x % 4294967296 ^ i * y + x / 4294967296 ^ i % 4294967296 * 4294967296 ^ i * (y % 4294967296 ^ k) →
    l100_1 N E f (Y y) (i : Int) ((x / 4294967296 ^ i % 4294967296 : Nat) : Int) (c : Int) (Y x) (dl 4294967296 x : Int) (i : Int) (Y y) (dl 4294967296 y : Int) (k : Int) (T 4294967296 (dl 4294967296 x + dl 4294967296 y) acc) = E (Y y) (Y x) (dl 4294967296 x : Int) ((i + 1 : Nat) : Int) (T 4294967296 (dl 4294967296 x + dl 4294967296 y) (x % 4294967296 ^ (i + 1) * y)) := by
  intro r
  induction r with
  | zero =>
    intro k f acc c hk hf hc hacc hinv
    obtain ⟨f, rfl⟩ : ∃ n', f = n' + 1 := ⟨f - 1, by omega⟩
    show s100_1 N _ _ _ _ _ _ _ _ _ _ _ _ _ = _
    unfold s100_1
    have hk : k = dl 4294967296 y := by omega
    subst hk
    have e1 : addI .i64 (i : Int) (dl 4294967296 y : Int) = ((i + dl 4294967296 y : Nat) : Int) := addN (by simp only [lim]; omega)
    rw [D_len, ltI_f (by omega), cond_false, e1, T_len, leI_t (by omega), cond_true, ltI_t (by omega), cond_true, succI i (by omega), Int.toNat_natCast, cvU32, Nat.mod_eq_of_lt hc, T_set b32 (by omega) hc]
    congr 2
    rw [Nat.mod_eq_of_lt (dl_lt b32 y)] at hinv
    rw [Nat.mod_eq_of_lt hacc, Nat.div_eq_of_lt (Nat.lt_of_lt_of_le hacc (Nat.pow_le_pow_right (by decide) (by omega))), Nat.mul_zero, Nat.add_zero, Nat.mul_comm _ c, hinv, mod32, Nat.add_mul, Nat.mul_comm (4294967296 ^ i)]
  | succ r ih =>
    intro k f acc c hk hf hc hacc hinv
    obtain ⟨f, rfl⟩ : ∃ n', f = n' + 1 := ⟨f - 1, by omega⟩
    show s100_1 N (l100_1 N E f) E _ _ _ _ _ _ _ _ _ _ _ = _
    unfold s100_1
    have e1 : addI .i64 (i : Int) (k : Int) = ((i + k : Nat) : Int) := addN (by simp only [lim]; omega)
    have la : x / 4294967296 ^ i % 4294967296 < 4294967296 := Nat.mod_lt _ (by decide)
    have lb : y / 4294967296 ^ k % 4294967296 < 4294967296 := Nat.mod_lt _ (by decide)
    have ld : acc / 4294967296 ^ (i + k) % 4294967296 < 4294967296 := Nat.mod_lt _ (by decide)
    have lm : x / 4294967296 ^ i % 4294967296 * (y / 4294967296 ^ k % 4294967296) ≤ 4294967295 * 4294967295 := Nat.mul_le_mul (by omega) (by omega)
    rw [D_len, T_len, ltI_t (by omega), cond_true, leI_t (by omega), cond_true, cond_true, e1, leI_t (by omega), cond_true, ltI_t (by omega), cond_true, cond_true, cond_true,
      lrd_T (by omega), lrd_D b32, cvN (by simp only [lim]; omega), cvN (by simp only [lim]; omega), cvN (by simp only [lim]; omega), mulN (by simp only [lim]; omega), addN (by simp only [lim]; omega), addN (by simp only [lim]; omega),
      succI k (by omega), Int.toNat_natCast]
    have hy := mod32 y k
    have hs := set_val acc (i + k) ((c + (x / 4294967296 ^ i % 4294967296 * (y / 4294967296 ^ k % 4294967296) + acc / 4294967296 ^ (i + k) % 4294967296)) % 4294967296)
    have hpow : 4294967296 ^ (i + k) = 4294967296 ^ i * 4294967296 ^ k := Nat.pow_add ..
    generalize ha : x / 4294967296 ^ i % 4294967296 = a at *
    generalize hb : y / 4294967296 ^ k % 4294967296 = b at *
    generalize hd : acc / 4294967296 ^ (i + k) % 4294967296 = d at *
    generalize hz : c + (a * b + d) = z at *
    have e2 : shrI .u64 (z : Int) 32 = ((z / 4294967296 : Nat) : Int) := by
      rw [show (32 : Int) = ((32 : Nat) : Int) from rfl, shrN (by decide)]
    have e3 : cvI .u32 (z : Int) = ((z % 4294967296 : Nat) : Int) := cvU32 z
    rw [e2, e3, T_set b32 (by omega) (Nat.mod_lt _ (by decide))]
    generalize hacc' : acc % 4294967296 ^ (i + k) + 4294967296 ^ (i + k) * (z % 4294967296) + 4294967296 ^ (i + k + 1) * (acc / 4294967296 ^ (i + k + 1)) = acc' at *
    refine ih (k + 1) f acc' (z / 4294967296) (by omega) (by omega) (by omega) ?_ ?_
    · -- the digits stay below
      have h1 : acc / 4294967296 ^ (i + k + 1) < 4294967296 ^ (dl 4294967296 y - k - 1) := by
        rw [Nat.div_lt_iff_lt_mul (p32 _), ← Nat.pow_add]
        rw [show dl 4294967296 y - k - 1 + (i + k + 1) = i + dl 4294967296 y by omega]; exact hacc
      have h2 : 4294967296 ^ (i + k + 1) * (acc / 4294967296 ^ (i + k + 1) + 1) ≤ 4294967296 ^ (i + k + 1) * 4294967296 ^ (dl 4294967296 y - k - 1) := Nat.mul_le_mul_left _ h1
      rw [← Nat.pow_add, show i + k + 1 + (dl 4294967296 y - k - 1) = i + dl 4294967296 y by omega, Nat.mul_add, Nat.mul_one] at h2
      have h3 : acc % 4294967296 ^ (i + k) < 4294967296 ^ (i + k) := Nat.mod_lt _ (p32 _)
      have h4 : 4294967296 ^ (i + k) * (z % 4294967296 + 1) ≤ 4294967296 ^ (i + k) * 4294967296 := Nat.mul_le_mul_left _ (Nat.mod_lt _ (by decide))
      rw [← Nat.pow_succ, Nat.mul_add, Nat.mul_one, Nat.succ_eq_add_one] at h4
      omega
    · have hz2 := Nat.div_add_mod z 4294967296
      rw [hy, Nat.mul_add, ← Nat.add_assoc i k 1, Nat.pow_succ, ← Nat.add_assoc, ← hinv]
      have e4 : a * 4294967296 ^ i * (4294967296 ^ k * b) = 4294967296 ^ (i + k) * (a * b) := by
        rw [hpow, ← Nat.mul_assoc, Nat.mul_comm a, Nat.mul_assoc, Nat.mul_assoc, ← Nat.mul_assoc a, Nat.mul_comm a, Nat.mul_assoc, Nat.mul_assoc]
      rw [e4]
      generalize 4294967296 ^ (i + k) = P at *
      have e5 : z / 4294967296 * (P * 4294967296) = P * (4294967296 * (z / 4294967296)) := by rw [Nat.mul_comm (z / 4294967296), Nat.mul_assoc]
      have e6 : P * z = P * (4294967296 * (z / 4294967296)) + P * (z % 4294967296) := by rw [← Nat.mul_add, hz2]
      have e7 : P * z = P * c + (P * (a * b) + P * d) := by rw [← hz, Nat.mul_add, Nat.mul_add]
      rw [e5, Nat.mul_comm c]
      omega
theorem mul_out (N x y : Nat) (hl : dl 4294967296 x + dl 4294967296 y + 2 < N) (hN : N < 17592186044416) : ∀ (r i f : Nat), i + r = dl 4294967296 x → r < f →
    l100_0 N f (Y y) (Y x) (dl 4294967296 x : Int) (i : Int) (T 4294967296 (dl 4294967296 x + dl 4294967296 y) (x % 4294967296 ^ i * y)) = some (Y (x * y)) := by
  have hx := dl_lt b32 x
  have hy := dl_lt b32 y
  intro r
  induction r with
  | zero =>
    intro i f hi hf
    obtain ⟨f, rfl⟩ : ∃ n', f = n' + 1 := ⟨f - 1, by omega⟩
    show s100_0 N _ _ _ _ _ _ = _
    unfold s100_0
    have hxy : x * y < 4294967296 ^ (dl 4294967296 x + dl 4294967296 y) := by
      rw [Nat.pow_add]
      exact Nat.mul_lt_mul'' hx hy
    rw [ltI_f (by omega), cond_false, show i = dl 4294967296 x by omega, Nat.mod_eq_of_lt hx, trim_eq N _ _ (by omega) (by omega) hxy, Option.bind_some]
  | succ r ih =>
    intro i f hi hf
    obtain ⟨f, rfl⟩ : ∃ n', f = n' + 1 := ⟨f - 1, by omega⟩
    show s100_0 N (l100_1 N (l100_0 N f) N) _ _ _ _ _ = _
    unfold s100_0
    rw [D_len, ltI_t (by omega), cond_true, leI_t (by omega), cond_true, cond_true, lrd_D b32, D_len]
    have hacc : x % 4294967296 ^ i * y < 4294967296 ^ (i + dl 4294967296 y) := by
      rw [Nat.pow_add]
      exact Nat.mul_lt_mul'' (Nat.mod_lt _ (p32 i)) hy
    refine Eq.trans (mul_in N x y i (by omega) (by omega) (l100_0 N f) (dl 4294967296 y) 0 N (x % 4294967296 ^ i * y) 0 (by omega) (by omega) (by omega) hacc (by simp [Nat.mod_one])) ?_
    exact ih (i + 1) f (by omega) (by omega)
theorem times_eq (N x y : Nat) (hl : dl 4294967296 x + dl 4294967296 y + 2 < N) (hN : N < 17592186044416) : fn_nat_times N (Y x) (Y y) = some (Y (x * y)) := by
  unfold fn_nat_times t100
  have e1 : addI .i64 (dl 4294967296 x : Int) (dl 4294967296 y : Int) = ((dl 4294967296 x + dl 4294967296 y : Nat) : Int) := addN (by simp only [lim]; omega)
  rw [D_len, D_len, e1, leI_t (by omega), cond_true, leI_t (by omega), cond_true, Int.toNat_natCast]
  have h := mul_out N x y hl hN (dl 4294967296 x) 0 N (by omega) (by omega)
  rw [Nat.pow_zero, Nat.mod_one, Nat.zero_mul, T_nought (by decide)] at h
  exact h
/-! ### moved up -/
theorem w32 (n : Int) (h0 : 0 ≤ n) (h1 : n < 2 ^ 32) : IntKind.u32.wrap n = n := by rw [wrap_u32]; omega
theorem or32 {a b t : Nat} (ht : t ≤ 32) (ha : a < 2 ^ t) (hb : b < 2 ^ 32) (hd : 2 ^ t ∣ b) : orI .u32 (a : Int) (b : Int) = ((a + b : Nat) : Int) := by
  have h2 : a < 2 ^ 32 := Nat.lt_of_lt_of_le ha (Nat.pow_le_pow_right (by decide) ht)
  have h := (bits_nat .u32 32 (by decide) w32 a b h2 hb).2
  unfold orI
  rw [h]
  obtain ⟨q, rfl⟩ := hd
  rw [Nat.or_comm, ← Nat.two_pow_add_eq_or_of_lt ha, Nat.add_comm]
theorem pow2_32 (q : Nat) : 2 ^ (32 * q) = 4294967296 ^ q := by rw [Nat.pow_mul]
theorem up_loop (N n s q t L : Nat) (hq : q = s / 32) (ht : t = s % 32) (hL : L = dl 4294967296 n + q + 1) (hs : s < 4611686018427387904) (hN : L < N) (hN2 : N < 17592186044416) : ∀ (r i f : Nat), i + r = dl 4294967296 n → r < f →
    l103_0 N f (s : Int) (t : Int) (Y n) (dl 4294967296 n : Int) (i : Int) (T 4294967296 L (n % 4294967296 ^ i * 2 ^ s)) = some (Y (n * 2 ^ s)) := by
  have h2s : 2 ^ s = 4294967296 ^ q * 2 ^ t := by
    rw [← pow2_32, ← Nat.pow_add]; congr 1; omega
  have h2t : 2 ^ t ≤ 2147483648 := Nat.le_trans (Nat.pow_le_pow_right (by decide) (show t ≤ 31 by omega)) (by decide)
  have h2p : 0 < 2 ^ t := Nat.pow_pos (by decide)
  have hdv : 2 ^ t ∣ 4294967296 := by rw [show 4294967296 = 2 ^ 32 from rfl]; exact Nat.pow_dvd_pow 2 (by omega)
  intro r
  induction r with
  | zero =>
    intro i f hi hf
    obtain ⟨f, rfl⟩ : ∃ n', f = n' + 1 := ⟨f - 1, by omega⟩
    show s103_0 N _ _ _ _ _ _ _ = _
    unfold s103_0
    have hi : i = dl 4294967296 n := by omega
    have hn := dl_lt b32 n
    rw [← hi] at hn
    have hlt : n * 2 ^ s < 4294967296 ^ L := by
      rw [h2s, hL, ← hi, Nat.pow_succ, Nat.pow_add]
      calc n * (4294967296 ^ q * 2 ^ t) < 4294967296 ^ i * (4294967296 ^ q * 2 ^ t) := Nat.mul_lt_mul_of_pos_right hn (Nat.mul_pos (p32 q) h2p)
        _ = 4294967296 ^ i * 4294967296 ^ q * 2 ^ t := by rw [Nat.mul_assoc]
        _ ≤ 4294967296 ^ i * 4294967296 ^ q * 4294967296 := Nat.mul_le_mul_left _ (by omega)
    rw [ltI_f (by omega), cond_false, Nat.mod_eq_of_lt hn, trim_eq N L _ (by omega) hN hlt, Option.bind_some]
  | succ r ih =>
    intro i f hi hf
    obtain ⟨f, rfl⟩ : ∃ n', f = n' + 1 := ⟨f - 1, by omega⟩
    show s103_0 N (l103_0 N f) _ _ _ _ _ _ = _
    unfold s103_0
    have e1 : addI .i64 (i : Int) (quoI .i64 (s : Int) 32) = ((q + i : Nat) : Int) := by
      rw [show quoI .i64 (s : Int) 32 = ((s / 32 : Nat) : Int) from quoN (by simp only [lim]; omega), addN (by simp only [lim]; omega), ← hq, Nat.add_comm]
    have e2 : addI .i64 ((q + i : Nat) : Int) 1 = ((q + i + 1 : Nat) : Int) := succI _ (by omega)
    have hx : n / 4294967296 ^ i % 4294967296 < 4294967296 := Nat.mod_lt _ (by decide)
    have hm : n % 4294967296 ^ i < 4294967296 ^ i := Nat.mod_lt _ (p32 i)
    have hsucc : n % 4294967296 ^ (i + 1) * 2 ^ s = n % 4294967296 ^ i * 2 ^ s + 4294967296 ^ (q + i) * (n / 4294967296 ^ i % 4294967296 * 2 ^ t) := by
      rw [mod32, Nat.add_mul, h2s, Nat.pow_add]
      congr 1
      simp only [Nat.mul_assoc, Nat.mul_left_comm]
    have ih := ih (i + 1) f (by omega) (by omega)
    rw [hsucc] at ih
    have hplt : n % 4294967296 ^ i * 2 ^ s < 4294967296 ^ (q + i) * 2 ^ t := by
      rw [h2s, Nat.pow_add, ← Nat.mul_assoc, Nat.mul_comm (4294967296 ^ q)]
      apply Nat.mul_lt_mul_of_pos_right _ h2p
      exact Nat.mul_lt_mul_of_pos_right hm (p32 q)
    generalize hP : n % 4294967296 ^ i * 2 ^ s = P at *
    generalize hxx : n / 4294967296 ^ i % 4294967296 = x at *
    have hxt : x * 2 ^ t ≤ 4294967295 * 2147483648 := Nat.mul_le_mul (by omega) h2t
    have hc : P / 4294967296 ^ (q + i) < 2 ^ t := by rw [Nat.div_lt_iff_lt_mul (p32 _), Nat.mul_comm]; exact hplt
    have hPB : P < 4294967296 ^ (q + i + 1) := by
      rw [Nat.pow_succ]
      exact Nat.lt_of_lt_of_le hplt (Nat.mul_le_mul_left _ (by omega))
    have hdm := Nat.div_add_mod P (4294967296 ^ (q + i))
    have hQ0 := p32 (q + i)
    rw [ltI_t (by omega), cond_true, leI_t (by omega), cond_true, D_len, ltI_t (by omega), cond_true, ltI_f (by omega), cond_false, e1, leI_t (by omega), cond_true, T_len, ltI_t (by omega), cond_true, cond_true, cond_true, e2, leI_t (by omega), cond_true,
      List.length_set, T_len, ltI_t (by omega), cond_true, succI i (by omega), lrd_D b32, hxx, lrd_T (by omega), cvN (a := x) (by simp only [lim]; omega), Int.toNat_natCast, Int.toNat_natCast]
    have e3 : shlI .u64 (x : Int) (t : Int) = ((x * 2 ^ t : Nat) : Int) := by
      rw [shlI_n (by omega), Nat.mod_eq_of_lt (by omega)]
    have e4 : shrI .u64 ((x * 2 ^ t : Nat) : Int) 32 = ((x * 2 ^ t / 4294967296 : Nat) : Int) := by
      rw [show (32 : Int) = ((32 : Nat) : Int) from rfl, shrN (by decide)]
    rw [e3, e4, cvU32, cvU32, Nat.mod_eq_of_lt (show P / 4294967296 ^ (q + i) < 4294967296 by omega)]
    have hlow : 2 ^ t ∣ x * 2 ^ t % 4294967296 := (Nat.dvd_mod_iff hdv).2 (Nat.dvd_mul_left _ _)
    have hlowlt : x * 2 ^ t % 4294967296 < 4294967296 := Nat.mod_lt _ (by decide)
    rw [or32 (t := t) (by omega) hc (by omega) hlow]
    have hsum : P / 4294967296 ^ (q + i) + x * 2 ^ t % 4294967296 < 4294967296 := by
      obtain ⟨u, hu⟩ := hlow
      obtain ⟨v, hv⟩ := hdv
      have : u < v := by
        apply Nat.lt_of_not_le; intro h
        have := Nat.mul_le_mul_left (2 ^ t) h
        omega
      have := Nat.mul_le_mul_left (2 ^ t) this
      rw [Nat.mul_succ] at this
      omega
    have hyB : x * 2 ^ t / 4294967296 < 4294967296 := by omega
    rw [Nat.mod_eq_of_lt hyB, T_set b32 (by omega) hsum, T_set b32 (by omega) hyB]
    have hz : P / 4294967296 ^ (q + i + 1) = 0 := Nat.div_eq_of_lt hPB
    rw [hz, Nat.mul_zero, Nat.add_zero]
    generalize hg : P / 4294967296 ^ (q + i) = g at *
    generalize hy : x * 2 ^ t = y at *
    have hQs : 4294967296 ^ (q + i + 1) = 4294967296 ^ (q + i) * 4294967296 := Nat.pow_succ ..
    have hQss : 4294967296 ^ (q + i + 1 + 1) = 4294967296 ^ (q + i + 1) * 4294967296 := Nat.pow_succ ..
    generalize hZ : P % 4294967296 ^ (q + i) + 4294967296 ^ (q + i) * (g + y % 4294967296) = Z
    have hml : P % 4294967296 ^ (q + i) < 4294967296 ^ (q + i) := Nat.mod_lt _ hQ0
    have hZlt : Z < 4294967296 ^ (q + i + 1) := by
      have := Nat.mul_le_mul_left (4294967296 ^ (q + i)) hsum
      rw [Nat.mul_succ] at this
      omega
    have hfin : Z % 4294967296 ^ (q + i + 1) + 4294967296 ^ (q + i + 1) * (y / 4294967296) + 4294967296 ^ (q + i + 1 + 1) * (Z / 4294967296 ^ (q + i + 1 + 1)) = P + 4294967296 ^ (q + i) * y := by
      rw [Nat.mod_eq_of_lt hZlt, Nat.div_eq_of_lt (Nat.lt_of_lt_of_le hZlt (by rw [hQss]; omega)), Nat.mul_zero, Nat.add_zero, hQs, ← hZ]
      have hyd := Nat.div_add_mod y 4294967296
      have e9 : 4294967296 ^ (q + i) * y = 4294967296 ^ (q + i) * (4294967296 * (y / 4294967296)) + 4294967296 ^ (q + i) * (y % 4294967296) := by rw [← Nat.mul_add, hyd]
      rw [e9, Nat.mul_add, Nat.mul_assoc]
      omega
    rw [hfin]
    exact ih
theorem up_eq (N n s : Nat) (hs : s < 4611686018427387904) (hN : dl 4294967296 n + s / 32 + 2 < N) (hN2 : N < 17592186044416) : fn_nat_up N (Y n) (s : Int) = some (Y (n * 2 ^ s)) := by
  unfold fn_nat_up t103
  rw [D_len]
  by_cases h0 : n = 0
  · subst h0
    rw [dl_zero, Nat.zero_mul, Y, D_nil]; rfl
  · have hd : dl 4294967296 n ≠ 0 := fun h => h0 ((dl_nil b32).1 h)
    have e1 : addI .i64 (addI .i64 (dl 4294967296 n : Int) (quoI .i64 (s : Int) 32)) 1 = ((dl 4294967296 n + s / 32 + 1 : Nat) : Int) := by
      rw [show quoI .i64 (s : Int) 32 = ((s / 32 : Nat) : Int) from quoN (by simp only [lim]; omega), addN (by simp only [lim]; omega), succI _ (by omega)]
    rw [eqI_f (by omega), cond_false, e1, leI_t (by omega), cond_true, leI_t (by omega), cond_true, Int.toNat_natCast]
    have h := up_loop N n s (s / 32) (s % 32) _ rfl rfl rfl hs (by omega) hN2 (dl 4294967296 n) 0 N (by omega) (by omega)
    rw [Nat.pow_zero, Nat.mod_one, Nat.zero_mul, T_nought (by decide)] at h
    exact h
theorem shl_eq (N n s : Nat) (hn : dl 4294967296 n ≤ 8192) (hN : 20000 < N) (hN2 : N < 17592186044416) : fn_nat_Shl N (Y n) (s : Int) = some (if n = 0 then ([], none) else if 262144 < s then ([], some 2) else bnd32 (n * 2 ^ s)) := by
  unfold fn_nat_Shl
  rw [check_Y N n hn, Option.bind_some, show isNoneI none = true from rfl, Bool.not_true, cond_false, ltI_f (by omega), cond_false, D_len]
  by_cases h0 : n = 0
  · subst h0; rw [dl_zero, if_pos rfl]; rfl
  · have hd : dl 4294967296 n ≠ 0 := fun h => h0 ((dl_nil b32).1 h)
    rw [eqI_f (by omega), cond_false, if_neg h0]
    by_cases h1 : 262144 < s
    · rw [ltI_t (by omega), cond_true, if_pos h1]
    · obtain ⟨K, hK⟩ : ∃ K, K = 8193 := ⟨_, rfl⟩
      have hd2 : dl 4294967296 (n * 2 ^ s) ≤ dl 4294967296 n + K := by
        apply dl_le b32
        rw [Nat.pow_add]
        apply Nat.mul_lt_mul'' (dl_lt b32 n)
        rw [← pow2_32]
        exact Nat.pow_lt_pow_right (by decide) (by omega)
      rw [ltI_f (by omega), cond_false, if_neg h1, up_eq N n s (by omega) (by omega) hN2, Option.bind_some, bounded_Y N _ (by omega) (by omega), Option.bind_some]
theorem shl_bad (N : Nat) (xs : List Int) (s : Int) (h : fn_nat_Check N xs = some (some 1)) : fn_nat_Shl N xs s = some ([], some 1) := by
  unfold fn_nat_Shl
  rw [h, Option.bind_some]; rfl
theorem shl_neg (N n : Nat) (s : Int) (hn : dl 4294967296 n ≤ 8192) (h : s < 0) : fn_nat_Shl N (Y n) s = some ([], some 1) := by
  unfold fn_nat_Shl
  rw [check_Y N n hn, Option.bind_some, show isNoneI none = true from rfl, Bool.not_true, cond_false, ltI_t h, cond_true]
/-! ### how many bits -/
theorem b2 : (1 : Nat) < 2 := by decide
theorem bits_down (n : Nat) : ∀ k, 0 < n / 2 ^ k → dl 2 n = k + dl 2 (n / 2 ^ k)
  | 0, _ => by simp
  | k + 1, h => by
    have e : n / 2 ^ (k + 1) = n / 2 ^ k / 2 := by rw [Nat.pow_succ, Nat.div_div_eq_div_mul]
    have h2 : 0 < n / 2 ^ k := by
      apply Nat.pos_of_ne_zero; intro h3; rw [e, h3] at h; simp at h
    rw [bits_down n k h2, dl_pos b2 h2, e]; omega
def lenF : Nat → Nat → Nat
  | 0, _ => 0
  | k + 1, v => if v = 0 then 0 else lenF k (v / 2) + 1
theorem lenF_eq : ∀ (k v : Nat), v < 2 ^ k → lenF k v = dl 2 v
  | 0, v, h => by
    have : v = 0 := by simpa using h
    subst this; rw [dl_zero]; rfl
  | k + 1, v, h => by
    rw [lenF]
    by_cases h0 : v = 0
    · subst h0; rw [dl_zero, if_pos rfl]
    · rw [if_neg h0, dl_pos b2 (Nat.pos_of_ne_zero h0), lenF_eq k (v / 2) (by rw [Nat.pow_succ] at h; omega)]
theorem tb_all : ((List.range 256).all fun b => sAt str0 (b : Int) == (lenF 8 b : Int)) = true := by decide +kernel
theorem tb_eq (b : Nat) (h : b < 256) : sAt str0 (b : Int) = (dl 2 b : Int) := by
  have := List.all_eq_true.1 tb_all b (by simpa using h)
  rw [← lenF_eq 8 b h]
  simpa using this
theorem str_size : (str0.size : Int) = 256 := by decide +kernel
theorem wrap_u8 (a : Int) : IntKind.u8.wrap a = a % 256 := by simp [IntKind.wrap, IntKind.bits, IntKind.signed]
theorem fin8 (b c : Nat) (hb : b < 256) (hc : c ≤ 56) : cond (leI 0 (cvI .u8 (b : Int))) (cond (ltI (cvI .u8 (b : Int)) (str0.size : Int)) (some (addI .i64 (c : Int) (cvI .i64 (sAt str0 (cvI .u8 (b : Int)))))) none) none = some ((c + dl 2 b : Nat) : Int) := by
  have e : cvI .u8 (b : Int) = (b : Int) := by unfold cvI; rw [wrap_u8]; omega
  have hl : dl 2 b ≤ 8 := dl_le b2 hb
  rw [e, str_size, leI_t (by omega), cond_true, ltI_t (by omega), cond_true, tb_eq b hb, cvI_i (by omega) (by omega), addI_i (by omega) (by omega)]
  rfl
theorem len32_eq (N x : Nat) (hx : x < 4294967296) : fn_bits_Len32 N (x : Int) = some (dl 2 x : Int) := by
  have s16 : ∀ y : Nat, shrI .u32 (y : Int) 16 = ((y / 2 ^ 16 : Nat) : Int) := fun y => shrI_n (k := .u32) (show 16 ≤ 32 by decide)
  have s8 : ∀ y : Nat, shrI .u32 (y : Int) 8 = ((y / 2 ^ 8 : Nat) : Int) := fun y => shrI_n (k := .u32) (show 8 ≤ 32 by decide)
  have g2 : ∀ y : Nat, leI 65536 (y : Int) = decide (2 ^ 16 ≤ y) := fun y => le_n (a := 2 ^ 16)
  have g3 : ∀ y : Nat, leI 256 (y : Int) = decide (2 ^ 8 ≤ y) := fun y => le_n (a := 2 ^ 8)
  unfold fn_bits_Len32
  simp only [s16, s8, g2, g3]
  have a1 : addI .i64 (addI .i64 16 8) = addI .i64 ((24 : Nat) : Int) := rfl
  have a2 : addI .i64 (16 : Int) = addI .i64 ((16 : Nat) : Int) := rfl
  have a3 : addI .i64 (addI .i64 0 8) = addI .i64 ((8 : Nat) : Int) := rfl
  have a4 : addI .i64 (0 : Int) = addI .i64 ((0 : Nat) : Int) := rfl
  by_cases h1 : 2 ^ 16 ≤ x
  · rw [decide_eq_true h1, cond_true]
    by_cases h2 : 2 ^ 8 ≤ x / 2 ^ 16
    · rw [decide_eq_true h2, cond_true, a1, fin8 _ _ (by omega) (by omega), Nat.div_div_eq_div_mul, bits_down x 24 (by omega)]
    · rw [decide_eq_false h2, cond_false, a2, fin8 _ _ (by omega) (by omega), bits_down x 16 (by omega)]
  · rw [decide_eq_false h1, cond_false]
    by_cases h2 : 2 ^ 8 ≤ x
    · rw [decide_eq_true h2, cond_true, a3, fin8 _ _ (by omega) (by omega), bits_down x 8 (by omega)]
    · rw [decide_eq_false h2, cond_false, a4, fin8 _ _ (by omega) (by omega), Nat.zero_add]
theorem len_eq (N n : Nat) (hn : dl 4294967296 n ≤ 8192) : fn_nat_Len N (Y n) = some (dl 2 n : Int) := by
  unfold fn_nat_Len
  rw [check_Y N n hn, Option.bind_some, show isNoneI none = true from rfl, Bool.not_true, cond_false, D_len]
  by_cases h0 : n = 0
  · subst h0; rw [dl_zero, dl_zero]; rfl
  · have hd : dl 4294967296 n ≠ 0 := fun h => h0 ((dl_nil b32).1 h)
    obtain ⟨t1, t2⟩ := D_top b32 (Nat.pos_of_ne_zero h0)
    obtain ⟨l, hl⟩ : ∃ l, dl 4294967296 n = l + 1 := ⟨dl 4294967296 n - 1, by omega⟩
    rw [hl, Nat.add_sub_cancel] at t1 t2
    have e1 : mulI .i64 32 (l : Int) = ((32 * l : Nat) : Int) := mulN (a := 32) (by simp only [lim]; omega)
    have h2 : n / 4294967296 ^ l = n / 2 ^ (32 * l) := by rw [pow2_32]
    have hb : dl 2 (n / 4294967296 ^ l) ≤ 32 := dl_le b2 (by omega)
    rw [hl, eqI_f (by omega), cond_false, predI l (by omega), leI_t (by omega), cond_true, ltI_t (by omega), cond_true, lrd_D b32, Nat.mod_eq_of_lt t2, len32_eq N _ t2, Option.bind_some, e1, addN (by simp only [lim]; omega), bits_down n (32 * l) (by rw [← h2]; exact t1), h2]
theorem len_bad (N : Nat) (xs : List Int) (h : fn_nat_Check N xs = some (some 1)) : fn_nat_Len N xs = some 0 := by
  unfold fn_nat_Len
  rw [h, Option.bind_some]; rfl
end Go.Proofs.YtcdhcihjcjpmkaaGreatDoor.Nt
/- PLAIN FACTS: the reference's words out of its parts. No statement is proved here. -/
namespace Go.Proofs.YtcdhcihjcjpmkaaGreatDoor.Nt
open Go Go.RowKit Go.Proofs.YtcdhcihjcjpmkaaGreatDoor.Eng Go.Proofs.YtcdhcihjcjpmkaaGreatDoor.Fns Go.Proofs.YtcdhcihjcjpmkaaGreatDoor.Bw Go.Proofs.YtcdhcihjcjpmkaaGreatDoor.Dig
open Go.Proofs.YtcdhcihjcjpmkaaGreatDoor.Rn (X Y b32 b16 cmpZ)
set_option linter.unusedVariables false
set_option linter.unusedSimpArgs false
theorem p16_32 (j : Nat) : 65536 ^ (2 * j) = 4294967296 ^ j := by rw [Nat.pow_mul]
theorem dl_16_le (n : Nat) : dl 65536 n ≤ 2 * dl 4294967296 n := by
  apply dl_le b16
  rw [p16_32]; exact dl_lt b32 n
theorem dl_32_le (n : Nat) : 2 * dl 4294967296 n ≤ dl 65536 n + 1 := by
  obtain ⟨j, hj⟩ : ∃ j, j = (dl 65536 n + 1) / 2 := ⟨_, rfl⟩
  have h : dl 4294967296 n ≤ j := by
    apply dl_le b32
    rw [← p16_32]
    exact Nat.lt_of_lt_of_le (dl_lt b16 n) (Nat.pow_le_pow_right (by decide) (by omega))
  omega
end Go.Proofs.YtcdhcihjcjpmkaaGreatDoor.Nt
/- PLAIN FACTS on the reference's numbers of chapter 2 (parts of 16 bits): Mul, Shr. No statement is proved here. -/
namespace Go.Proofs.YtcdhcihjcjpmkaaGreatDoor.Rn
open Go Go.RowKit Go.Proofs.YtcdhcihjcjpmkaaGreatDoor.Eng Go.Proofs.YtcdhcihjcjpmkaaGreatDoor.Fns Go.Proofs.YtcdhcihjcjpmkaaGreatDoor.Bw Go.Proofs.YtcdhcihjcjpmkaaGreatDoor.Dig
set_option linter.unusedVariables false
set_option linter.unusedSimpArgs false
theorem mod16 (n i : Nat) : n % 65536 ^ (i + 1) = n % 65536 ^ i + 65536 ^ i * (n / 65536 ^ i % 65536) := by rw [Nat.pow_succ, Nat.mod_mul]
/-- a digit put in place of another one -/
theorem set_val (a i v : Nat) : a % 65536 ^ i + 65536 ^ i * v + 65536 ^ (i + 1) * (a / 65536 ^ (i + 1)) + 65536 ^ i * (a / 65536 ^ i % 65536) = a + 65536 ^ i * v := by
  have h := Nat.div_add_mod a (65536 ^ (i + 1))
  rw [mod16] at h
  omega
theorem digit_down (n i t : Nat) (ht : t ≤ 15) : n / 65536 ^ i / 2 ^ t % 65536 = n / 65536 ^ i % 65536 / 2 ^ t + n / 65536 ^ (i + 1) % 65536 % 2 ^ t * (65536 / 2 ^ t) := by
  have e : 65536 = 2 ^ t * 2 ^ (16 - t) := by rw [← Nat.pow_add, show t + (16 - t) = 16 by omega]
  have e2 : 65536 / 2 ^ t = 2 ^ (16 - t) := Nat.div_eq_of_eq_mul_right (Nat.pow_pos (by decide)) e
  rw [e2, Nat.pow_succ, ← Nat.div_div_eq_div_mul]
  generalize n / 65536 ^ i = q
  have h1 : q = 65536 * (q / 65536) + q % 65536 := (Nat.div_add_mod q 65536).symm
  have hp : 0 < 2 ^ t := Nat.pow_pos (by decide)
  have hp2 : 0 < 2 ^ (16 - t) := Nat.pow_pos (by decide)
  have h2 : q / 2 ^ t = q % 65536 / 2 ^ t + 2 ^ (16 - t) * (q / 65536) := by
    conv => lhs; rw [h1]
    rw [show 65536 * (q / 65536) = 2 ^ t * (2 ^ (16 - t) * (q / 65536)) by rw [← Nat.mul_assoc, ← e], Nat.add_comm, Nat.add_mul_div_left _ _ hp]
  have h3 : q % 65536 / 2 ^ t < 2 ^ (16 - t) := by
    rw [Nat.div_lt_iff_lt_mul hp, Nat.mul_comm, ← e]; exact Nat.mod_lt _ (by decide)
  have h4 : q / 65536 % 65536 % 2 ^ t = q / 65536 % 2 ^ t := Nat.mod_mod_of_dvd _ ⟨2 ^ (16 - t), e⟩
  rw [h4, h2]
  have h5 : 65536 = 2 ^ (16 - t) * 2 ^ t := by rw [Nat.mul_comm]; exact e
  clear h4 h2 h1
  generalize q % 65536 / 2 ^ t = A at *
  generalize q / 65536 = B at *
  conv => lhs; rw [h5]
  rw [Nat.mod_mul, Nat.add_mul_mod_self_left, Nat.mod_eq_of_lt h3, Nat.add_mul_div_left _ _ hp2, Nat.div_eq_of_lt h3, Nat.zero_add, Nat.mul_comm (2 ^ (16 - t))]
theorem lost_succ (n i : Nat) : (decide (n % 65536 ^ (i + 1) ≠ 0)) = (decide (n % 65536 ^ i ≠ 0) || decide (n / 65536 ^ i % 65536 ≠ 0)) := by
  rw [mod16]
  have hp := p16 i
  by_cases h1 : n % 65536 ^ i = 0
  · by_cases h2 : n / 65536 ^ i % 65536 = 0
    · rw [h1, h2]; simp
    · have : 0 < 65536 ^ i * (n / 65536 ^ i % 65536) := Nat.mul_pos hp (by omega)
      rw [decide_eq_true (by omega), decide_eq_true (p := n / 65536 ^ i % 65536 ≠ 0) h2]; simp
  · rw [decide_eq_true (by omega), decide_eq_true (p := n % 65536 ^ i ≠ 0) h1]; simp
theorem orz (g0 P g : Nat) (hp : 0 < P) : (decide (g0 ≠ 0) || decide (g ≠ 0)) = decide (g0 + P * g ≠ 0) := by
  by_cases h3 : g0 = 0 <;> by_cases h4 : g = 0 <;> simp [h3, h4] <;> first | omega | exact Nat.ne_of_gt (Nat.mul_pos hp (by omega))
end Go.Proofs.YtcdhcihjcjpmkaaGreatDoor.Rn
/- PLAIN FACTS on the reference's numbers of chapter 2 (parts of 16 bits): Small, Len, Parts. No statement is proved here. -/
namespace Go.Proofs.YtcdhcihjcjpmkaaGreatDoor.Rn
open Go Go.RowKit Go.Proofs.YtcdhcihjcjpmkaaGreatDoor.Eng Go.Proofs.YtcdhcihjcjpmkaaGreatDoor.Fns Go.Proofs.YtcdhcihjcjpmkaaGreatDoor.Bw Go.Proofs.YtcdhcihjcjpmkaaGreatDoor.Dig
set_option linter.unusedVariables false
set_option linter.unusedSimpArgs false
/-! ### times a small number -/
def smc (n q m i : Nat) : Nat := (n % 65536 ^ i * q + m) / 65536 ^ i
theorem smc_div (n q m i : Nat) : (n * q + m) / 65536 ^ i = smc n q m i + n / 65536 ^ i * q := by
  have h := Nat.div_add_mod n (65536 ^ i)
  have e : n * q + m = (n % 65536 ^ i * q + m) + 65536 ^ i * (n / 65536 ^ i * q) := by
    conv => lhs; rw [← h]
    rw [Nat.add_mul, Nat.mul_assoc]; omega
  unfold smc
  rw [e, Nat.add_mul_div_left _ _ (p16 i)]
theorem smc_le (n q m i : Nat) : smc n q m i ≤ q + m := by
  unfold smc
  have hp := p16 i
  have h1 := Nat.mod_lt n hp
  apply Nat.div_le_of_le_mul
  have h2 : n % 65536 ^ i * q ≤ 65536 ^ i * q := Nat.mul_le_mul_right q (Nat.le_of_lt h1)
  have h3 : m ≤ 65536 ^ i * m := Nat.le_mul_of_pos_left m hp
  rw [Nat.mul_add]; omega
theorem smc_succ (n q m i : Nat) : smc n q m (i + 1) = (smc n q m i + n / 65536 ^ i % 65536 * q) / 65536 := by
  unfold smc
  rw [mod16, Nat.pow_succ, ← Nat.div_div_eq_div_mul]
  congr 1
  rw [Nat.add_mul, Nat.add_right_comm, Nat.mul_assoc, Nat.add_mul_div_left _ _ (p16 i)]
theorem b2 : (1 : Nat) < 2 := by decide
theorem bits_down (n : Nat) : ∀ k, 0 < n / 2 ^ k → dl 2 n = k + dl 2 (n / 2 ^ k)
  | 0, _ => by simp
  | k + 1, h => by
    have e : n / 2 ^ (k + 1) = n / 2 ^ k / 2 := by rw [Nat.pow_succ, Nat.div_div_eq_div_mul]
    have h2 : 0 < n / 2 ^ k := by
      apply Nat.pos_of_ne_zero; intro h3; rw [e, h3] at h; simp at h
    rw [bits_down n k h2, dl_pos b2 h2, e]; omega
end Go.Proofs.YtcdhcihjcjpmkaaGreatDoor.Rn
/- PLAIN FACTS on the program's numbers of chapter 2: down, short, guess, take, parts (Knuth's way). No statement is proved here. -/
namespace Go.Proofs.YtcdhcihjcjpmkaaGreatDoor.Nt
open Go Go.RowKit Go.Proofs.YtcdhcihjcjpmkaaGreatDoor.Eng Go.Proofs.YtcdhcihjcjpmkaaGreatDoor.Fns Go.Proofs.YtcdhcihjcjpmkaaGreatDoor.Bw Go.Proofs.YtcdhcihjcjpmkaaGreatDoor.Dig
open Go.Proofs.YtcdhcihjcjpmkaaGreatDoor.Rn (Y b32 cmpZ)
set_option linter.unusedVariables false
set_option linter.unusedSimpArgs false
theorem hilo (r a : Nat) (hr : r < 4294967296) (ha : a < 4294967296) : orI .u64 (shlI .u64 (r : Int) 32) (a : Int) = ((r * 4294967296 + a : Nat) : Int) := by
  rw [show (32 : Int) = ((32 : Nat) : Int) from rfl, shlI_n (by omega), show (2 : Nat) ^ 32 = 4294967296 from rfl, Nat.mod_eq_of_lt (by omega), orI_n (by omega) (by omega)]
  congr 1
  have := Nat.two_pow_add_eq_or_of_lt (i := 32) (b := a) (by omega) r
  rw [show (2 : Nat) ^ 32 = 4294967296 from rfl, Nat.mul_comm] at this
  exact this.symm
theorem lohi (r a : Nat) (hr : r < 4294967296) (ha : a < 4294967296) : orI .u64 (a : Int) (shlI .u64 (r : Int) 32) = ((r * 4294967296 + a : Nat) : Int) := by
  have h := hilo r a hr ha
  rw [show (32 : Int) = ((32 : Nat) : Int) from rfl, shlI_n (by omega), show (2 : Nat) ^ 32 = 4294967296 from rfl, Nat.mod_eq_of_lt (by omega), orI_n (by omega) (by omega)] at h ⊢
  rw [Nat.or_comm]; exact h
/-- parting, a digit more -/
theorem div_step (m n i : Nat) (hn : 0 < n) : m / 4294967296 ^ i / n = (m / 4294967296 ^ i % 4294967296 + 4294967296 * (m / 4294967296 ^ (i + 1) % n)) / n + 4294967296 * (m / 4294967296 ^ (i + 1) / n) ∧
    m / 4294967296 ^ i % n = (m / 4294967296 ^ i % 4294967296 + 4294967296 * (m / 4294967296 ^ (i + 1) % n)) % n ∧ m / 4294967296 ^ i % 4294967296 + 4294967296 * (m / 4294967296 ^ (i + 1) % n) < 4294967296 * n := by
  have hr : m / 4294967296 ^ (i + 1) % n < n := Nat.mod_lt _ hn
  have ha : m / 4294967296 ^ i % 4294967296 < 4294967296 := Nat.mod_lt _ (by decide)
  have hM : m / 4294967296 ^ i = 4294967296 * (m / 4294967296 ^ (i + 1)) + m / 4294967296 ^ i % 4294967296 := by
    rw [Nat.pow_succ, ← Nat.div_div_eq_div_mul]; exact (Nat.div_add_mod _ _).symm
  have hMn := Nat.div_add_mod (m / 4294967296 ^ (i + 1)) n
  generalize hR : m / 4294967296 ^ i % 4294967296 + 4294967296 * (m / 4294967296 ^ (i + 1) % n) = R at *
  have hMR : m / 4294967296 ^ i = R + n * (4294967296 * (m / 4294967296 ^ (i + 1) / n)) := by
    have e5 : n * (4294967296 * (m / 4294967296 ^ (i + 1) / n)) = 4294967296 * (n * (m / 4294967296 ^ (i + 1) / n)) := by rw [← Nat.mul_assoc, Nat.mul_comm n, Nat.mul_assoc]
    rw [e5]; omega
  refine ⟨?_, ?_, by omega⟩
  · rw [hMR, Nat.add_mul_div_left _ _ hn]
  · rw [hMR, Nat.add_mul_mod_self_left]
theorem T_putq {L i A q : Nat} (hi : i < L) (hq : q < 4294967296) : (T 4294967296 L (A * 4294967296 ^ (i + 1))).set i (q : Int) = T 4294967296 L ((q + 4294967296 * A) * 4294967296 ^ i) := by
  rw [T_set b32 hi hq]
  have e7 : A * 4294967296 ^ (i + 1) % 4294967296 ^ i = 0 := by
    rw [Nat.pow_succ, Nat.mul_comm (4294967296 ^ i), ← Nat.mul_assoc]; exact Nat.mul_mod_left ..
  have e8 : A * 4294967296 ^ (i + 1) / 4294967296 ^ (i + 1) = A := Nat.mul_div_cancel _ (p32 _)
  rw [e7, e8, Nat.zero_add, Nat.add_mul, Nat.pow_succ, Nat.mul_comm q, Nat.mul_assoc, Nat.mul_assoc]
  congr 2
  rw [Nat.mul_left_comm, Nat.mul_comm A]
theorem short_loop (N m n : Nat) (hn : 0 < n) (hn2 : n < 4294967296) (hN : dl 4294967296 m < N) (hN2 : N < 17592186044416) : ∀ (j f : Nat), j ≤ dl 4294967296 m → j < f →
    l109_0 N f (Y m) (n : Int) ((m / 4294967296 ^ j % n : Nat) : Int) ((j : Int) - 1) (T 4294967296 (dl 4294967296 m) (m / 4294967296 ^ j / n * 4294967296 ^ j)) = some (Y (m / n), ((m % n : Nat) : Int)) := by
  have hml := dl_lt b32 m
  intro j
  induction j with
  | zero =>
    intro f hj hf
    obtain ⟨f, rfl⟩ : ∃ n', f = n' + 1 := ⟨f - 1, by omega⟩
    show s109_0 N _ _ _ _ _ _ = _
    unfold s109_0
    have hlt := Nat.mod_lt m hn
    rw [leI_f (by omega), cond_false, Nat.pow_zero, Nat.div_one, Nat.mul_one, trim_eq N _ _ (by omega) hN (Nat.lt_of_le_of_lt (Nat.div_le_self _ _) hml), Option.bind_some, cvN (by simp only [lim]; omega)]
  | succ i ih =>
    intro f hj hf
    obtain ⟨f, rfl⟩ : ∃ n', f = n' + 1 := ⟨f - 1, by omega⟩
    have ih := ih f (by omega) (by omega)
    show s109_0 N (l109_0 N f) _ _ _ _ _ = _
    unfold s109_0
    obtain ⟨h1, h2, h3⟩ := div_step m n i hn
    have hr : m / 4294967296 ^ (i + 1) % n < n := Nat.mod_lt _ hn
    have ha : m / 4294967296 ^ i % 4294967296 < 4294967296 := Nat.mod_lt _ (by decide)
    have e0 : ((i + 1 : Nat) : Int) - 1 = (i : Int) := by omega
    have e1 : subI .i64 (i : Int) 1 = (i : Int) - 1 := subI_i (by omega) (by omega)
    have hq : (m / 4294967296 ^ i % 4294967296 + 4294967296 * (m / 4294967296 ^ (i + 1) % n)) / n < 4294967296 := by rw [Nat.div_lt_iff_lt_mul hn]; exact h3
    rw [e0, e1, leI_t (by omega), cond_true, cond_true, D_len, ltI_t (by omega), cond_true, cvN (k := .u64) (a := n) (by simp only [lim]; omega), eqI_f (by omega), cond_false, cond_true, T_len, ltI_t (by omega), cond_true, cond_false,
      lrd_D b32, cvN (k := .u64) (by simp only [lim]; omega), hilo _ _ (by omega) ha, Nat.mul_comm _ 4294967296, Nat.add_comm (4294967296 * _) _, remN, quoN (by simp only [lim]; omega), cvU32, Nat.mod_eq_of_lt hq, Int.toNat_natCast, T_putq (by omega) hq, ← h1, ← h2]
    exact ih
theorem short_eq (N m n : Nat) (hn : 0 < n) (hn2 : n < 4294967296) (hN : dl 4294967296 m < N) (hN2 : N < 17592186044416) : fn_nat_short N (Y m) (n : Int) = some (Y (m / n), ((m % n : Nat) : Int)) := by
  unfold fn_nat_short t109
  have h := short_loop N m n hn hn2 hN hN2 (dl 4294967296 m) N (Nat.le_refl _) hN
  have h0 : m / 4294967296 ^ dl 4294967296 m = 0 := Nat.div_eq_of_lt (dl_lt b32 m)
  rw [h0, Nat.zero_mod, Nat.zero_div, Nat.zero_mul, T_nought (by decide)] at h
  have e1 : subI .i64 (dl 4294967296 m : Int) 1 = (dl 4294967296 m : Int) - 1 := subI_i (by omega) (by omega)
  rw [D_len, leI_t (by omega), cond_true, leI_t (by omega), cond_true, Int.toNat_natCast, e1]
  exact h
/-! ### moved down -/
theorem down_digit (x i s : Nat) (hs : s ≤ 32) : ((x / 4294967296 ^ (i + 1) % 4294967296) * 4294967296 + x / 4294967296 ^ i % 4294967296) / 2 ^ s % 4294967296 = x / 2 ^ s / 4294967296 ^ i % 4294967296 := by
  have e1 : x / 4294967296 ^ (i + 1) % 4294967296 * 4294967296 + x / 4294967296 ^ i % 4294967296 = x / 4294967296 ^ i % (4294967296 * 4294967296) := by
    rw [Nat.mod_mul, Nat.pow_succ, ← Nat.div_div_eq_div_mul]; omega
  rw [e1]
  have e2 : x / 2 ^ s / 4294967296 ^ i = x / 4294967296 ^ i / 2 ^ s := by rw [Nat.div_div_eq_div_mul, Nat.div_div_eq_div_mul, Nat.mul_comm]
  rw [e2]
  generalize x / 4294967296 ^ i = z
  have e3 : 4294967296 * 4294967296 = 2 ^ s * 2 ^ (64 - s) := by rw [← Nat.pow_add, show s + (64 - s) = 64 by omega]
  rw [e3, Nat.mod_mul_right_div_self]
  exact Nat.mod_mod_of_dvd _ (by
    rw [show (4294967296 : Nat) = 2 ^ 32 from rfl]
    exact Nat.pow_dvd_pow 2 (by omega))
theorem down_loop (N n s : Nat) (hs : s ≤ 32) (hN : dl 4294967296 n < N) (hN2 : N < 17592186044416) : ∀ (r i f : Nat), i + r = dl 4294967296 n → r < f →
    l128_0 N f (Y n) (s : Int) (dl 4294967296 n : Int) (i : Int) (T 4294967296 (dl 4294967296 n) (n / 2 ^ s % 4294967296 ^ i)) = some (Y (n / 2 ^ s)) := by
  have hlt : n / 2 ^ s < 4294967296 ^ dl 4294967296 n := Nat.lt_of_le_of_lt (Nat.div_le_self _ _) (dl_lt b32 n)
  intro r
  induction r with
  | zero =>
    intro i f hi hf
    obtain ⟨f, rfl⟩ : ∃ n', f = n' + 1 := ⟨f - 1, by omega⟩
    show s128_0 N _ _ _ _ _ _ = _
    unfold s128_0
    have hi2 : i = dl 4294967296 n := by omega
    rw [ltI_f (by omega), cond_false, hi2, Nat.mod_eq_of_lt hlt, trim_eq N _ _ (by omega) hN hlt, Option.bind_some]
  | succ r ih =>
    intro i f hi hf
    obtain ⟨f, rfl⟩ : ∃ n', f = n' + 1 := ⟨f - 1, by omega⟩
    show s128_0 N (l128_0 N f) _ _ _ _ _ = _
    unfold s128_0
    have h1 := Nat.mod_lt (n / 4294967296 ^ i) (show 0 < 4294967296 by decide)
    have h2 := Nat.mod_lt (n / 4294967296 ^ (i + 1)) (show 0 < 4294967296 by decide)
    rw [ltI_t (by omega), cond_true, at_eq, Option.bind_some, succI i (by omega), at_eq, Option.bind_some, ltI_f (by omega), cond_false, leI_t (by omega), cond_true, T_len, ltI_t (by omega), cond_true, lohi _ _ h2 h1, shrN (by simp only [IntKind.bits]; omega), cvU32, down_digit n i s hs, Int.toNat_natCast, T_put b32 (by omega)]
    exact ih (i + 1) f (by omega) (by omega)
theorem down_eq (N n s : Nat) (hs : s ≤ 32) (hN : dl 4294967296 n < N) (hN2 : N < 17592186044416) : fn_nat_down N (Y n) (s : Int) = some (Y (n / 2 ^ s)) := by
  unfold fn_nat_down t128
  have h := down_loop N n s hs hN hN2 (dl 4294967296 n) 0 N (by omega) hN
  rw [Nat.pow_zero, Nat.mod_one, T_nought (by decide)] at h
  rw [D_len, leI_t (by omega), cond_true, leI_t (by omega), cond_true, Int.toNat_natCast, List.length_replicate]
  exact h
/-! ### the guess -/
theorem guess_loop (N : Nat) (x : Vec 3) (y : Vec 2) (t2 v1 v2 n G V : Nat) (hVV : V = v1 * 4294967296 + v2) (h0 : Vec.rd y 0 = (v1 : Int)) (h1 : Vec.rd y 1 = (v2 : Int)) (h2 : Vec.rd x 2 = (t2 : Int)) (hv : 2147483648 ≤ v1) (hv1 : v1 < 4294967296) (hv2 : v2 < 4294967296) (ht : t2 < 4294967296) (hn : n < 4294967296 * v1 + 4294967296)
    (hG : G = min ((n * 4294967296 + t2) / V) (4294967296 - 1)) : ∀ (k f q r : Nat), q * v1 + r = n → r < 4294967296 → G ≤ q → q ≤ 4294967296 + 1 → 4294967296 ≤ r + k * v1 → k < f → l126_0 N f (q : Int) (r : Int) x y = some (G : Int) := by
  have hV : 0 < V := by omega
  intro k
  induction k with
  | zero => intro f q r _ hr _ _ hk _; omega
  | succ k ih =>
    intro f q r hqr hr hGq hq hk hf
    obtain ⟨f, rfl⟩ : ∃ n', f = n' + 1 := ⟨f - 1, by omega⟩
    show s126_0 N (l126_0 N f) _ _ _ _ = _
    unfold s126_0
    have hnb : n * 4294967296 = q * v1 * 4294967296 + r * 4294967296 := by rw [← hqr, Nat.add_mul]
    have hqv : q * v2 ≤ (4294967296 + 1) * (4294967296 - 1) := Nat.mul_le_mul hq (by omega)
    have hqV : q * V = q * v1 * 4294967296 + q * v2 := by rw [hVV, Nat.mul_add, Nat.mul_assoc]
    -- one less
    have dec : G ≤ q - 1 → 0 < q → cond (leI 4294967296 (addI .u64 (r : Int) (cvI .u64 (Vec.rd y 0)))) (some (subI .u64 (q : Int) 1)) (l126_0 N f (subI .u64 (q : Int) 1) (addI .u64 (r : Int) (cvI .u64 (Vec.rd y 0))) x y) = some (G : Int) := by
      intro hd hq0
      have e2 : subI .u64 (q : Int) 1 = ((q - 1 : Nat) : Int) := by
        have := subN (k := .u64) (a := q) (b := 1) (by omega) (by simp only [lim]; omega)
        rwa [show ((1 : Nat) : Int) = 1 from rfl] at this
      rw [h0, cvN (by simp only [lim]; omega), addN (by simp only [lim]; omega), e2]
      obtain ⟨p, rfl⟩ : ∃ p, q = p + 1 := ⟨q - 1, by omega⟩
      rw [Nat.add_sub_cancel] at *
      have e3 : p * v1 + (r + v1) = n := by rw [← hqr, Nat.add_mul, Nat.one_mul]; omega
      by_cases hb : 4294967296 ≤ r + v1
      · rw [leI_t (by omega), cond_true]
        have hp : p < 4294967296 := by
          apply Nat.lt_of_mul_lt_mul_right (a := v1)
          omega
        have e4 : n * 4294967296 = p * v1 * 4294967296 + (r + v1) * 4294967296 := by rw [← e3, Nat.add_mul]
        have e5 : p * V = p * v1 * 4294967296 + p * v2 := by rw [hVV, Nat.mul_add, Nat.mul_assoc]
        have e6 : p * v2 ≤ (4294967296 - 1) * (4294967296 - 1) := Nat.mul_le_mul (by omega) (by omega)
        have e7 : 4294967296 * 4294967296 ≤ (r + v1) * 4294967296 := Nat.mul_le_mul_right _ hb
        have e8 : p ≤ (n * 4294967296 + t2) / V := by
          rw [Nat.le_div_iff_mul_le hV, e5, e4]; omega
        have e9 : p ≤ G := by rw [hG]; exact Nat.le_min.2 ⟨e8, by omega⟩
        rw [Nat.le_antisymm hd e9]
      · rw [leI_f (by omega), cond_false]
        refine ih f p (r + v1) e3 (by omega) hd (by omega) ?_ (by omega)
        rw [Nat.add_mul, Nat.one_mul] at hk; omega
    by_cases hbig : 4294967296 ≤ q
    · rw [leI_t (by omega), cond_true]
      refine dec ?_ (by omega)
      have : G ≤ 4294967296 - 1 := by rw [hG]; exact Nat.min_le_right _ _
      omega
    · rw [leI_f (by omega), cond_false, h1, h2, cvN (k := .u64) (a := v2) (by simp only [lim]; omega), cvN (k := .u64) (a := t2) (by simp only [lim]; omega), hilo r t2 hr ht, mulN (by simp only [lim]; omega), lt_n]
      by_cases hlt : r * 4294967296 + t2 < q * v2
      · rw [decide_eq_true hlt, cond_true]
        have h3 : (n * 4294967296 + t2) / V < q := by
          rw [Nat.div_lt_iff_lt_mul hV, hqV, hnb, Nat.add_assoc]; exact Nat.add_lt_add_left hlt _
        have h4 : G ≤ (n * 4294967296 + t2) / V := by rw [hG]; exact Nat.min_le_left _ _
        exact dec (by omega) (by omega)
      · rw [decide_eq_false hlt, cond_false]
        have e8 : q ≤ (n * 4294967296 + t2) / V := by
          rw [Nat.le_div_iff_mul_le hV, hqV]; omega
        have e9 : q ≤ G := by rw [hG]; exact Nat.le_min.2 ⟨e8, by omega⟩
        rw [Nat.le_antisymm hGq e9]
theorem guess_eq (N : Nat) (hN : 3 < N) (x : Vec 3) (y : Vec 2) (t0 t1 t2 v1 v2 : Nat) (h0 : Vec.rd y 0 = (v1 : Int)) (h1 : Vec.rd y 1 = (v2 : Int)) (g0 : Vec.rd x 0 = (t0 : Int)) (g1 : Vec.rd x 1 = (t1 : Int)) (g2 : Vec.rd x 2 = (t2 : Int))
    (hv : 2147483648 ≤ v1) (hv1 : v1 < 4294967296) (hv2 : v2 < 4294967296) (ht0 : t0 ≤ v1) (ht1 : t1 < 4294967296) (ht2 : t2 < 4294967296) :
    fn_nat_guess N x y = some ((min (((t0 * 4294967296 + t1) * 4294967296 + t2) / (v1 * 4294967296 + v2)) (4294967296 - 1) : Nat) : Int) := by
  unfold fn_nat_guess t126
  have hd := Nat.div_add_mod (t0 * 4294967296 + t1) v1
  have hm := Nat.mod_lt (t0 * 4294967296 + t1) (show 0 < v1 by omega)
  have hn : t0 * 4294967296 + t1 < 4294967296 * v1 + 4294967296 := by omega
  obtain ⟨V, hVV⟩ : ∃ V, V = v1 * 4294967296 + v2 := ⟨_, rfl⟩
  rw [← hVV]
  have hV : 0 < V := by omega
  have hq : (t0 * 4294967296 + t1) / v1 ≤ 4294967296 + 1 := by
    rw [← Nat.lt_succ_iff, Nat.div_lt_iff_lt_mul (by omega)]; omega
  have hG : min (((t0 * 4294967296 + t1) * 4294967296 + t2) / V) (4294967296 - 1) ≤ (t0 * 4294967296 + t1) / v1 := by
    refine Nat.le_trans (Nat.min_le_left _ _) ?_
    rw [Nat.le_div_iff_mul_le (by omega)]
    refine (fun (key : ∀ g, g * V ≤ (t0 * 4294967296 + t1) * 4294967296 + t2 → g * v1 ≤ t0 * 4294967296 + t1) => key _ (Nat.div_mul_le_self _ _)) ?_
    intro g h5
    have h6 : g * V = g * v1 * 4294967296 + g * v2 := by rw [hVV, Nat.mul_add, Nat.mul_assoc]
    rw [h6] at h5
    have h7 : g * v1 * 4294967296 < (t0 * 4294967296 + t1 + 1) * 4294967296 := by
      rw [Nat.add_mul (t0 * 4294967296 + t1) 1, Nat.one_mul]
      exact Nat.lt_of_le_of_lt (Nat.le_trans (Nat.le_add_right _ _) h5) (Nat.add_lt_add_left ht2 _)
    exact Nat.le_of_lt_succ (Nat.lt_of_mul_lt_mul_right h7)
  rw [h0, g0, g1, cvN (k := .u64) (a := v1) (by simp only [lim]; omega), cvN (k := .u64) (a := t0) (by simp only [lim]; omega), cvN (k := .u64) (a := t1) (by simp only [lim]; omega), hilo t0 t1 (by omega) ht1, eqI_f (by omega), cond_false, cond_false, quoN (by simp only [lim]; omega), remN]
  refine guess_loop N x y t2 v1 v2 (t0 * 4294967296 + t1) _ V hVV h0 h1 g2 hv hv1 hv2 ht2 hn rfl 2 N _ _ ?_ (by omega) hG hq (by omega) (by omega)
  rw [Nat.mul_comm]; exact hd
end Go.Proofs.YtcdhcihjcjpmkaaGreatDoor.Nt
/- PLAIN FACTS on the program's numbers of chapter 2: take, parts (Knuth's way), DivMod. No statement is proved here. -/
namespace Go.Proofs.YtcdhcihjcjpmkaaGreatDoor.Nt
open Go Go.RowKit Go.Proofs.YtcdhcihjcjpmkaaGreatDoor.Eng Go.Proofs.YtcdhcihjcjpmkaaGreatDoor.Fns Go.Proofs.YtcdhcihjcjpmkaaGreatDoor.Bw Go.Proofs.YtcdhcihjcjpmkaaGreatDoor.Dig
open Go.Proofs.YtcdhcihjcjpmkaaGreatDoor.Rn (Y b32 cmpZ)
set_option linter.unusedVariables false
set_option linter.unusedSimpArgs false
/-! ### a window of a row -/
theorem win_eq (i k lo A B : Nat) : lo + 4294967296 ^ i * (A + 4294967296 ^ k * B) = lo + 4294967296 ^ i * A + 4294967296 ^ (i + k) * B := by
  rw [Nat.mul_add, ← Nat.mul_assoc, ← Nat.pow_add, Nat.add_assoc]
theorem win_lt {i k lo A : Nat} (hlo : lo < 4294967296 ^ i) (hA : A < 4294967296 ^ k) : lo + 4294967296 ^ i * A < 4294967296 ^ (i + k) := by
  rw [Nat.pow_add]
  have := Nat.mul_le_mul_left (4294967296 ^ i) (Nat.succ_le_of_lt hA)
  rw [Nat.mul_succ] at this
  omega
theorem win_div {i k lo A B : Nat} (hlo : lo < 4294967296 ^ i) (hA : A < 4294967296 ^ k) : (lo + 4294967296 ^ i * (A + 4294967296 ^ k * B)) / 4294967296 ^ (i + k) = B := by
  rw [win_eq, Nat.add_mul_div_left _ _ (p32 _), Nat.div_eq_of_lt (win_lt hlo hA), Nat.zero_add]
theorem win_get {K i k lo A B : Nat} (hlo : lo < 4294967296 ^ i) (hA : A < 4294967296 ^ k) (hK : i + k < K) : lrd (T 4294967296 K (lo + 4294967296 ^ i * (A + 4294967296 ^ k * B))) ((i + k : Nat) : Int) = ((B % 4294967296 : Nat) : Int) := by
  rw [lrd_T hK, win_div hlo hA]
theorem win_set {K i k lo A B v : Nat} (hlo : lo < 4294967296 ^ i) (hA : A < 4294967296 ^ k) (hv : v < 4294967296) (hK : i + k < K) :
    (T 4294967296 K (lo + 4294967296 ^ i * (A + 4294967296 ^ k * B))).set (i + k) (v : Int) = T 4294967296 K (lo + 4294967296 ^ i * (A + 4294967296 ^ k * v + 4294967296 ^ (k + 1) * (B / 4294967296))) := by
  rw [T_set b32 hK hv]
  have e1 : (lo + 4294967296 ^ i * (A + 4294967296 ^ k * B)) % 4294967296 ^ (i + k) = lo + 4294967296 ^ i * A := by
    rw [win_eq, Nat.add_mul_mod_self_left, Nat.mod_eq_of_lt (win_lt hlo hA)]
  have e2 : (lo + 4294967296 ^ i * (A + 4294967296 ^ k * B)) / 4294967296 ^ (i + k + 1) = B / 4294967296 := by
    rw [Nat.pow_succ, ← Nat.div_div_eq_div_mul, win_div hlo hA]
  rw [e1, e2]
  congr 1
  rw [Nat.mul_add, Nat.mul_add, ← Nat.mul_assoc, ← Nat.mul_assoc, ← Nat.pow_add, ← Nat.pow_add, Nat.add_assoc i k 1]
  omega
/-! ### a product, digit by digit -/
def mc (D g k : Nat) : Nat := D % 4294967296 ^ k * g / 4294967296 ^ k
theorem mc_div (D g k : Nat) : D * g / 4294967296 ^ k = mc D g k + D / 4294967296 ^ k * g := by
  unfold mc
  have h := Nat.div_add_mod D (4294967296 ^ k)
  have e : D * g = D % 4294967296 ^ k * g + 4294967296 ^ k * (D / 4294967296 ^ k * g) := by
    rw [← Nat.mul_assoc, ← Nat.add_mul]; congr 1; omega
  rw [e, Nat.add_mul_div_left _ _ (p32 _)]
theorem mc_le (D g k : Nat) : mc D g k ≤ g := by
  unfold mc
  apply Nat.div_le_of_le_mul
  exact Nat.mul_le_mul_right _ (Nat.le_of_lt (Nat.mod_lt _ (p32 _)))
theorem mc_succ (D g k : Nat) : mc D g (k + 1) = (mc D g k + D / 4294967296 ^ k % 4294967296 * g) / 4294967296 := by
  have h1 := mc_div D g k
  have h2 := mc_div D g (k + 1)
  rw [Nat.pow_succ, ← Nat.div_div_eq_div_mul, ← Nat.div_div_eq_div_mul, h1] at h2
  have h3 := Nat.div_add_mod (D / 4294967296 ^ k) 4294967296
  have e : mc D g k + D / 4294967296 ^ k * g = mc D g k + D / 4294967296 ^ k % 4294967296 * g + 4294967296 * (D / 4294967296 ^ k / 4294967296 * g) := by
    rw [← Nat.mul_assoc, Nat.add_assoc, ← Nat.add_mul]; congr 2; omega
  rw [e, Nat.add_mul_div_left _ _ (by decide)] at h2
  omega
theorem mc_dig (D g k : Nat) : D * g / 4294967296 ^ k % 4294967296 = (mc D g k + D / 4294967296 ^ k % 4294967296 * g) % 4294967296 := by
  have h1 := mc_div D g k
  have h3 := Nat.div_add_mod (D / 4294967296 ^ k) 4294967296
  have e : mc D g k + D / 4294967296 ^ k * g = mc D g k + D / 4294967296 ^ k % 4294967296 * g + 4294967296 * (D / 4294967296 ^ k / 4294967296 * g) := by
    rw [← Nat.mul_assoc, Nat.add_assoc, ← Nat.add_mul]; congr 2; omega
  rw [h1, e, Nat.add_mul_mod_self_left]
/-! ### taken away, and put back -/
theorem take_back (N K i lo Z D l : Nat) (hl : dl 4294967296 D = l) (hlo : lo < 4294967296 ^ i) (hZ : Z < 4294967296 ^ (l + 1)) (hK : i + l < K) (hN2 : N < 17592186044416) (hKN : K < N) : ∀ (r k f : Nat), k + r = l + 1 → r < f →
    l127_1 N K f (Y D) (i : Int) (car Z D k : Int) ((l + 1 : Nat) : Int) (k : Int) (T 4294967296 K (lo + 4294967296 ^ i * ((Z + D) % 4294967296 ^ k + 4294967296 ^ k * (Z / 4294967296 ^ k)))) = some (T 4294967296 K (lo + 4294967296 ^ i * ((Z + D) % 4294967296 ^ (l + 1))), true) := by
  intro r
  induction r with
  | zero =>
    intro k f hk hf
    obtain ⟨f, rfl⟩ : ∃ n', f = n' + 1 := ⟨f - 1, by omega⟩
    show s127_1 N K _ _ _ _ _ _ _ = _
    unfold s127_1
    have hk2 : k = l + 1 := by omega
    subst hk2
    rw [ltI_f (by omega), cond_false, T_len, Nat.beq_refl, cond_true, Nat.div_eq_of_lt hZ, Nat.mul_zero, Nat.add_zero]
  | succ r ih =>
    intro k f hk hf
    obtain ⟨f, rfl⟩ : ∃ n', f = n' + 1 := ⟨f - 1, by omega⟩
    show s127_1 N K (l127_1 N K f) _ _ _ _ _ _ = _
    unfold s127_1
    have hc := car_lt Z D k
    have hs := car_succ Z D k
    have hd := sum_div Z D k
    have h1 := Nat.mod_lt (Z / 4294967296 ^ k) (show 0 < 4294967296 by decide)
    have h2 := Nat.mod_lt (D / 4294967296 ^ k) (show 0 < 4294967296 by decide)
    have hA : (Z + D) % 4294967296 ^ k < 4294967296 ^ k := Nat.mod_lt _ (p32 _)
    have dig : (Z + D) / 4294967296 ^ k % 4294967296 = (car Z D k + Z / 4294967296 ^ k % 4294967296 + D / 4294967296 ^ k % 4294967296) % 4294967296 := by omega
    have ei : addI .i64 (i : Int) (k : Int) = ((i + k : Nat) : Int) := addN (by simp only [lim]; omega)
    rw [ltI_t (by omega), cond_true, ei, leI_t (by omega), cond_true, T_len, ltI_t (by omega), cond_true, at_eq, Option.bind_some, cond_true, cond_true, win_get hlo hA (by omega), cvN (k := .u64) (by simp only [lim]; omega),
      addN (k := .u64) (by simp only [lim]; omega), addN (k := .u64) (by simp only [lim]; omega), ← Nat.add_assoc, cvU32, ← dig, Int.toNat_natCast, show (32 : Int) = ((32 : Nat) : Int) from rfl, shrN (by decide), show (2 : Nat) ^ 32 = 4294967296 from rfl, ← hs, succI k (by omega),
      win_set hlo hA (Nat.mod_lt _ (by decide)) (by omega), ← mod32, Nat.div_div_eq_div_mul, ← Nat.pow_succ]
    exact ih (k + 1) f (by omega) (by omega)
theorem take_off (N K i lo S D g l P Z U : Nat) (hl : dl 4294967296 D = l) (hlo : lo < 4294967296 ^ i) (hS : S < 4294967296 ^ (l + 1)) (hK : i + l < K) (hN2 : N < 17592186044416) (hKN : K < N) (hg : g < 4294967296) (hP : P = D * g) (hU : U = S + 4294967296 ^ (l + 1)) (hZ : Z = U - P) (hPU : P ≤ U) :
    ∀ (r k f : Nat), k + r = l + 1 → r < f →
    l127_0 N K f (Y D) (i : Int) (g : Int) (brw U P k : Int) (mc D g k : Int) ((l + 1 : Nat) : Int) (k : Int) (T 4294967296 K (lo + 4294967296 ^ i * (Z % 4294967296 ^ k + 4294967296 ^ k * (S / 4294967296 ^ k)))) =
      if brw U P (l + 1) = 0 then some (T 4294967296 K (lo + 4294967296 ^ i * (Z % 4294967296 ^ (l + 1))), false) else l127_1 N K N (Y D) (i : Int) 0 ((l + 1 : Nat) : Int) 0 (T 4294967296 K (lo + 4294967296 ^ i * (Z % 4294967296 ^ (l + 1)))) := by
  intro r
  induction r with
  | zero =>
    intro k f hk hf
    obtain ⟨f, rfl⟩ : ∃ n', f = n' + 1 := ⟨f - 1, by omega⟩
    show s127_0 N K _ _ _ _ _ _ _ _ _ _ = _
    unfold s127_0
    have hk2 : k = l + 1 := by omega
    subst hk2
    have el : addI .i64 ((dl 4294967296 D : Nat) : Int) 1 = ((l + 1 : Nat) : Int) := by rw [hl]; exact succI l (by omega)
    rw [ltI_f (by omega), cond_false, Nat.div_eq_of_lt hS, Nat.mul_zero, Nat.add_zero (Z % 4294967296 ^ (l + 1)), T_len, Nat.beq_refl, cond_true, D_len, el]
    by_cases hb : brw U P (l + 1) = 0
    · rw [if_pos hb, hb, eqI_t (show ((0 : Nat) : Int) = 0 from rfl), cond_true]
    · rw [if_neg hb, eqI_f (by omega), cond_false]
  | succ r ih =>
    intro k f hk hf
    obtain ⟨f, rfl⟩ : ∃ n', f = n' + 1 := ⟨f - 1, by omega⟩
    show s127_0 N K (l127_0 N K f) _ _ _ _ _ _ _ _ _ = _
    unfold s127_0
    have hb := brw_lt U P k
    have hs := brw_succ U P k
    have hd := sub_div U P k hPU
    rw [← hZ] at hd
    have h2 := Nat.mod_lt (D / 4294967296 ^ k) (show 0 < 4294967296 by decide)
    have hm := mc_le D g k
    have hms := mc_succ D g k
    have hmd := mc_dig D g k
    rw [← hP] at hmd
    have hA : Z % 4294967296 ^ k < 4294967296 ^ k := Nat.mod_lt _ (p32 _)
    have hUS : U / 4294967296 ^ k % 4294967296 = S / 4294967296 ^ k % 4294967296 := by
      rw [hU, show l + 1 = k + (1 + r) by omega, Nat.pow_add, Nat.add_mul_div_left _ _ (p32 _), Nat.pow_add, Nat.pow_one, Nat.add_mul_mod_self_left]
    have h1 := Nat.mod_lt (S / 4294967296 ^ k) (show 0 < 4294967296 by decide)
    have h3 := Nat.mod_lt (P / 4294967296 ^ k) (show 0 < 4294967296 by decide)
    have hgd : g * (D / 4294967296 ^ k % 4294967296) ≤ (4294967296 - 1) * (4294967296 - 1) := Nat.mul_le_mul (by omega) (by omega)
    rw [Nat.mul_comm (D / 4294967296 ^ k % 4294967296) g] at hms hmd
    have dig : Z / 4294967296 ^ k % 4294967296 = (4294967296 + S / 4294967296 ^ k % 4294967296 - P / 4294967296 ^ k % 4294967296 - brw U P k) % 4294967296 := by omega
    rw [hUS] at hs
    have ei : addI .i64 (i : Int) (k : Int) = ((i + k : Nat) : Int) := addN (by simp only [lim]; omega)
    have em : andI .u64 ((mc D g k + g * (D / 4294967296 ^ k % 4294967296) : Nat) : Int) 4294967295 = ((P / 4294967296 ^ k % 4294967296 : Nat) : Int) := by
      rw [show (4294967295 : Int) = ((2 ^ 32 - 1 : Nat) : Int) from rfl, andI_n (by omega) (by decide), Nat.and_two_pow_sub_one_eq_mod, hmd]
    rw [ltI_t (by omega), cond_true, at_eq, Option.bind_some, ei, leI_t (by omega), cond_true, T_len, ltI_t (by omega), cond_true, cond_true, cond_true, win_get hlo hA (by omega), cvN (k := .u64) (by simp only [lim]; omega),
      mulN (by simp only [lim]; omega), addN (k := .u64) (by simp only [lim]; omega), em, succI k (by omega)]
    have e0 : subI .u64 (subI .u64 ((S / 4294967296 ^ k % 4294967296 : Nat) : Int) ((P / 4294967296 ^ k % 4294967296 : Nat) : Int)) (brw U P k : Int) =
        (((18446744073709551616 + S / 4294967296 ^ k % 4294967296 - P / 4294967296 ^ k % 4294967296 - brw U P k) % 18446744073709551616 : Nat) : Int) := by
      unfold subI; rw [wrap_u64, wrap_u64]; omega
    rw [e0]
    have e1 : shrI .u64 (((18446744073709551616 + S / 4294967296 ^ k % 4294967296 - P / 4294967296 ^ k % 4294967296 - brw U P k) % 18446744073709551616 : Nat) : Int) 63 = (brw U P (k + 1) : Int) := by
      rw [show (63 : Int) = ((63 : Nat) : Int) from rfl, shrN (by decide), hs]
      congr 1
      omega
    have e2 : cvI .u32 (((18446744073709551616 + S / 4294967296 ^ k % 4294967296 - P / 4294967296 ^ k % 4294967296 - brw U P k) % 18446744073709551616 : Nat) : Int) = ((Z / 4294967296 ^ k % 4294967296 : Nat) : Int) := by
      rw [cvU32, dig]; congr 1; omega
    rw [e1, e2, show (32 : Int) = ((32 : Nat) : Int) from rfl, shrN (by decide), show (2 : Nat) ^ 32 = 4294967296 from rfl, ← hms, Int.toNat_natCast, win_set hlo hA (Nat.mod_lt _ (by decide)) (by omega), ← mod32, Nat.div_div_eq_div_mul, ← Nat.pow_succ]
    exact ih (k + 1) f (by omega) (by omega)
theorem take_eq (N K i lo S D g l : Nat) (hl : dl 4294967296 D = l) (hlo : lo < 4294967296 ^ i) (hS : S < 4294967296 ^ (l + 1)) (hK : i + l < K) (hN2 : N < 17592186044416) (hKN : K < N) (hg : g < 4294967296) (hlow : D * g ≤ S + D) :
    fn_nat_take N (T 4294967296 K (lo + 4294967296 ^ i * S)) (Y D) (i : Int) (g : Int) = some (if S < D * g then (T 4294967296 K (lo + 4294967296 ^ i * (S + D - D * g)), true) else (T 4294967296 K (lo + 4294967296 ^ i * (S - D * g)), false)) := by
  unfold fn_nat_take t127
  have hD := dl_lt b32 D
  rw [hl] at hD
  have hb1 : 4294967296 ^ (l + 1) = 4294967296 ^ l * 4294967296 := Nat.pow_succ ..
  have hP : D * g < 4294967296 ^ (l + 1) := by rw [hb1]; exact Nat.mul_lt_mul'' hD hg
  have h := take_off N K i lo S D g l (D * g) (S + 4294967296 ^ (l + 1) - D * g) (S + 4294967296 ^ (l + 1)) hl hlo hS hK hN2 hKN hg rfl rfl rfl (by omega) (l + 1) 0 N (by omega) (by omega)
  have c0 : brw (S + 4294967296 ^ (l + 1)) (D * g) 0 = 0 := by unfold brw; simp [Nat.mod_one]
  have c1 : mc D g 0 = 0 := by unfold mc; simp [Nat.mod_one]
  rw [c0, c1, Nat.pow_zero, Nat.mod_one, Nat.zero_add, Nat.one_mul, Nat.div_one] at h
  have el : addI .i64 (dl 4294967296 D : Int) 1 = ((l + 1 : Nat) : Int) := by rw [hl]; exact succI l (by omega)
  rw [T_len, D_len, el]
  refine Eq.trans h ?_
  have hbr : brw (S + 4294967296 ^ (l + 1)) (D * g) (l + 1) = if S < D * g then 1 else 0 := by
    unfold brw
    rw [Nat.add_mod_right, Nat.mod_eq_of_lt hS, Nat.mod_eq_of_lt hP]
  rw [hbr]
  by_cases hlt : S < D * g
  · rw [if_pos hlt, if_pos hlt, if_neg (by decide), Nat.mod_eq_of_lt (by omega)]
    have h2 := take_back N K i lo (S + 4294967296 ^ (l + 1) - D * g) D l hl hlo (by omega) hK hN2 hKN (l + 1) 0 N (by omega) (by omega)
    have c2 : car (S + 4294967296 ^ (l + 1) - D * g) D 0 = 0 := by unfold car; simp [Nat.mod_one]
    rw [c2, Nat.pow_zero, Nat.mod_one, Nat.zero_add, Nat.one_mul, Nat.div_one] at h2
    refine Eq.trans h2 ?_
    have e : S + 4294967296 ^ (l + 1) - D * g + D = S + D - D * g + 4294967296 ^ (l + 1) := by omega
    have hll : 4294967296 ^ l ≤ 4294967296 ^ (l + 1) := Nat.pow_le_pow_right (by decide) (by omega)
    rw [e, Nat.add_mod_right, Nat.mod_eq_of_lt (by omega)]
  · rw [if_neg hlt, if_neg hlt, if_pos rfl]
    have e : S + 4294967296 ^ (l + 1) - D * g = S - D * g + 4294967296 ^ (l + 1) := by omega
    rw [e, Nat.add_mod_right, Nat.mod_eq_of_lt (by omega)]

/-! ### parts -/
theorem win_dig {K i k lo S : Nat} (hlo : lo < 4294967296 ^ i) (hK : i + k < K) : lrd (T 4294967296 K (lo + 4294967296 ^ i * S)) ((i + k : Nat) : Int) = ((S / 4294967296 ^ k % 4294967296 : Nat) : Int) := by
  have h := win_get (K := K) (i := i) (k := k) (lo := lo) (A := S % 4294967296 ^ k) (B := S / 4294967296 ^ k) hlo (Nat.mod_lt _ (p32 _)) hK
  rwa [Nat.mod_add_div] at h
theorem two_dig (x p : Nat) : x / 4294967296 ^ p = x / 4294967296 ^ (p + 1) * 4294967296 + x / 4294967296 ^ p % 4294967296 := by
  rw [Nat.pow_succ, ← Nat.div_div_eq_div_mul, Nat.mul_comm]; exact (Nat.div_add_mod _ _).symm
/-- the guess is right, or too great by one -/
theorem knuth {S D q g p : Nat} (hD : 4294967296 ^ (p + 1) ≤ D) (hS : S < 4294967296 * D) (hq : q = S / D) (hg : g = min (S / 4294967296 ^ p / (D / 4294967296 ^ p)) (4294967296 - 1)) : q ≤ g ∧ D * g ≤ S + D ∧ g < 4294967296 := by
  have hp : 0 < 4294967296 ^ p := p32 p
  have hpp : 4294967296 ^ (p + 1) = 4294967296 ^ p * 4294967296 := Nat.pow_succ ..
  have hD0 : 0 < D := Nat.lt_of_lt_of_le (p32 _) hD
  have hV : 0 < D / 4294967296 ^ p := Nat.div_pos (Nat.le_trans (Nat.pow_le_pow_right (by decide) (by omega)) hD) hp
  have hgV : g ≤ S / 4294967296 ^ p / (D / 4294967296 ^ p) := by rw [hg]; exact Nat.min_le_left _ _
  have hgb : g ≤ 4294967296 - 1 := by rw [hg]; exact Nat.min_le_right _ _
  refine ⟨?_, ?_, by omega⟩
  · rw [hg, hq]
    refine Nat.le_min.2 ⟨?_, ?_⟩
    · rw [Nat.le_div_iff_mul_le hV, Nat.le_div_iff_mul_le hp, Nat.mul_assoc]
      exact Nat.le_trans (Nat.mul_le_mul_left _ (Nat.div_mul_le_self D _)) (Nat.div_mul_le_self S D)
    · have : S / D < 4294967296 := by rw [Nat.div_lt_iff_lt_mul hD0]; exact hS
      omega
  · have h1 : g * (D / 4294967296 ^ p) ≤ S / 4294967296 ^ p := by rwa [Nat.le_div_iff_mul_le hV] at hgV
    have h2 : g * (D / 4294967296 ^ p) * 4294967296 ^ p ≤ S := by rwa [Nat.le_div_iff_mul_le hp] at h1
    have h3 := Nat.div_add_mod D (4294967296 ^ p)
    have h4 := Nat.mod_lt D hp
    have h5 : D * g = g * (D / 4294967296 ^ p) * 4294967296 ^ p + g * (D % 4294967296 ^ p) := by
      have h6 : g * D = g * (4294967296 ^ p * (D / 4294967296 ^ p) + D % 4294967296 ^ p) := by rw [h3]
      rw [Nat.mul_comm, h6, Nat.mul_add, Nat.mul_comm (4294967296 ^ p), Nat.mul_assoc]
    have h7 : g * (D % 4294967296 ^ p) ≤ 4294967296 * 4294967296 ^ p := Nat.mul_le_mul (by omega) (by omega)
    rw [Nat.mul_comm 4294967296] at h7
    omega
theorem knuth_q {S D q g : Nat} (hD : 0 < D) (hq : q = S / D) (h1 : q ≤ g) (h2 : D * g ≤ S + D) : (S < D * g → q = g - 1 ∧ 0 < g ∧ S + D - D * g = S % D) ∧ (¬ S < D * g → q = g ∧ S - D * g = S % D) := by
  have hd := Nat.div_add_mod S D
  have hm := Nat.mod_lt S hD
  rw [← hq] at hd
  constructor
  · intro hlt
    have h3 : q < g := by
      apply Nat.lt_of_not_le
      intro h
      have := Nat.mul_le_mul_left D h
      omega
    have h4 : g ≤ q + 1 := by
      apply Nat.le_of_not_lt
      intro h
      have := Nat.mul_le_mul_left D (show q + 2 ≤ g from h)
      rw [Nat.mul_add] at this
      omega
    obtain rfl : g = q + 1 := by omega
    rw [Nat.mul_add, Nat.mul_one] at *
    exact ⟨by omega, by omega, by omega⟩
  · intro hnl
    have h3 : g ≤ q := by
      rw [hq, Nat.le_div_iff_mul_le hD, Nat.mul_comm]; omega
    obtain rfl : q = g := by omega
    exact ⟨rfl, by omega⟩
theorem parts_loop (N M D s p la : Nat) (hs : s ≤ 32) (hD1 : 2147483648 * 4294967296 ^ (p + 1) ≤ D) (hD2 : D < 4294967296 ^ (p + 2)) (hl : dl 4294967296 D = p + 2) (hla : p + 2 ≤ la) (hM : M < 4294967296 ^ (la - (p + 2) + 1) * D) (hMl : M < 4294967296 ^ (la + 1)) (hN : la + 4 < N) (hN2 : N < 17592186044416) :
    ∀ (j f : Nat), j ≤ la - (p + 2) + 1 → j < f →
    l104_0 N f (s : Int) (Y D) ((p + 2 : Nat) : Int) ((j : Int) - 1) (T 4294967296 (la + 1) (M % 4294967296 ^ j + 4294967296 ^ j * (M / 4294967296 ^ j % D))) (T 4294967296 (la - (p + 2) + 1) (M / 4294967296 ^ j / D * 4294967296 ^ j)) = some (Y (M / D), Y (M % D / 2 ^ s)) := by
  have hD0 : 0 < D := Nat.lt_of_lt_of_le (Nat.mul_pos (by decide) (p32 _)) hD1
  have hDl : D < 4294967296 ^ (la + 1) := Nat.lt_of_lt_of_le hD2 (Nat.pow_le_pow_right (by decide) (by omega))
  have hDp : 4294967296 ^ (p + 1) ≤ D := by omega
  intro j
  induction j with
  | zero =>
    intro f hj hf
    obtain ⟨f, rfl⟩ : ∃ n', f = n' + 1 := ⟨f - 1, by omega⟩
    show s104_0 N _ _ _ _ _ _ _ = _
    unfold s104_0
    have h1 : M / D < 4294967296 ^ (la - (p + 2) + 1) := by rw [Nat.div_lt_iff_lt_mul hD0]; exact hM
    have h2 := Nat.mod_lt M hD0
    have h3 : dl 4294967296 (M % D) ≤ la + 1 := dl_le b32 (by omega)
    rw [leI_f (by omega), cond_false, Nat.pow_zero, Nat.div_one, Nat.mul_one, Nat.mod_one, Nat.zero_add, Nat.one_mul, trim_eq N _ _ (by omega) (by omega) h1, Option.bind_some, trim_eq N _ _ (by omega) (by omega) (by omega), Option.bind_some,
      down_eq N _ s hs (by omega) hN2, Option.bind_some]
  | succ i ih =>
    intro f hj hf
    obtain ⟨f, rfl⟩ : ∃ n', f = n' + 1 := ⟨f - 1, by omega⟩
    have ih := ih f (by omega) (by omega)
    show s104_0 N (l104_0 N f) _ _ _ _ _ _ = _
    unfold s104_0
    obtain ⟨h1, h2, h3⟩ := div_step M D i hD0
    have e0 : ((i + 1 : Nat) : Int) - 1 = (i : Int) := by omega
    have e1 : subI .i64 (i : Int) 1 = (i : Int) - 1 := subI_i (by omega) (by omega)
    have ea : addI .i64 (i : Int) ((p + 2 : Nat) : Int) = ((i + (p + 2) : Nat) : Int) := addN (by simp only [lim]; omega)
    have eb : subI .i64 ((i + (p + 2) : Nat) : Int) 1 = ((i + (p + 1) : Nat) : Int) := by rw [subI_i (by omega) (by omega)]; omega
    have ec : subI .i64 ((i + (p + 2) : Nat) : Int) 2 = ((i + p : Nat) : Int) := by rw [subI_i (by omega) (by omega)]; omega
    have ed : subI .i64 ((p + 2 : Nat) : Int) 1 = ((p + 1 : Nat) : Int) := by rw [subI_i (by omega) (by omega)]; omega
    have ee : subI .i64 ((p + 2 : Nat) : Int) 2 = (p : Int) := by rw [subI_i (by omega) (by omega)]; omega
    have hlo : M % 4294967296 ^ i < 4294967296 ^ i := Nat.mod_lt _ (p32 _)
    have hw : M % 4294967296 ^ (i + 1) + 4294967296 ^ (i + 1) * (M / 4294967296 ^ (i + 1) % D) = M % 4294967296 ^ i + 4294967296 ^ i * (M / 4294967296 ^ i % 4294967296 + 4294967296 * (M / 4294967296 ^ (i + 1) % D)) := by
      rw [mod32, Nat.mul_add, Nat.pow_succ, Nat.mul_assoc]; omega
    rw [hw]
    generalize hS : M / 4294967296 ^ i % 4294967296 + 4294967296 * (M / 4294967296 ^ (i + 1) % D) = S at *
    have hpb : 4294967296 ^ (p + 3) = 4294967296 * 4294967296 ^ (p + 2) := by rw [Nat.pow_succ, Nat.mul_comm]
    have hSb : S < 4294967296 ^ (p + 3) := by rw [hpb]; omega
    have t0e : S / 4294967296 ^ (p + 2) % 4294967296 = S / 4294967296 ^ (p + 2) := Nat.mod_eq_of_lt (by rw [Nat.div_lt_iff_lt_mul (p32 _), ← hpb]; exact hSb)
    have v1e : D / 4294967296 ^ (p + 1) % 4294967296 = D / 4294967296 ^ (p + 1) := Nat.mod_eq_of_lt (by rw [Nat.div_lt_iff_lt_mul (p32 _), Nat.mul_comm, ← Nat.pow_succ]; exact hD2)
    have v1lt : D / 4294967296 ^ (p + 1) < 4294967296 := by rw [← v1e]; exact Nat.mod_lt _ (by decide)
    have v1ge : 2147483648 ≤ D / 4294967296 ^ (p + 1) := by rw [Nat.le_div_iff_mul_le (p32 _)]; exact hD1
    have t0le : S / 4294967296 ^ (p + 2) ≤ D / 4294967296 ^ (p + 1) := by
      rw [show p + 2 = (p + 1) + 1 from rfl, Nat.pow_succ, Nat.mul_comm, ← Nat.div_div_eq_div_mul]
      apply Nat.div_le_div_right
      have : S / 4294967296 < D := by rw [Nat.div_lt_iff_lt_mul (by decide), Nat.mul_comm]; exact h3
      omega
    have hU3 : (S / 4294967296 ^ (p + 2) * 4294967296 + S / 4294967296 ^ (p + 1) % 4294967296) * 4294967296 + S / 4294967296 ^ p % 4294967296 = S / 4294967296 ^ p := by
      rw [← two_dig S (p + 1), ← two_dig S p]
    have hV : D / 4294967296 ^ (p + 1) * 4294967296 + D / 4294967296 ^ p % 4294967296 = D / 4294967296 ^ p := (two_dig D p).symm
    obtain ⟨g, hg⟩ : ∃ g, g = min (S / 4294967296 ^ p / (D / 4294967296 ^ p)) (4294967296 - 1) := ⟨_, rfl⟩
    obtain ⟨k1, k2, k3⟩ := knuth hDp h3 rfl hg
    obtain ⟨k4, k5⟩ := knuth_q hD0 rfl k1 k2
    have d0 := win_dig (K := la + 1) (i := i) (k := p + 2) (S := S) hlo (by omega)
    have d1 := win_dig (K := la + 1) (i := i) (k := p + 1) (S := S) hlo (by omega)
    have d2 := win_dig (K := la + 1) (i := i) (k := p) (S := S) hlo (by omega)
    rw [t0e] at d0
    have d3 : lrd (Y D) ((p + 1 : Nat) : Int) = ((D / 4294967296 ^ (p + 1) : Nat) : Int) := by rw [lrd_D b32, v1e]
    have d4 : lrd (Y D) (p : Int) = ((D / 4294967296 ^ p % 4294967296 : Nat) : Int) := lrd_D b32 ..
    rw [e0, leI_t (by omega), cond_true, ea, eb, ec, ed, ee, leI_t (by omega), cond_true, T_len, ltI_t (by omega), cond_true, leI_t (by omega), cond_true, ltI_t (by omega), cond_true, leI_t (by omega), cond_true, ltI_t (by omega), cond_true, leI_t (by omega), cond_true,
      D_len, hl, ltI_t (by omega), cond_true, leI_t (by omega), cond_true, ltI_t (by omega), cond_true, d0, d1, d2, d3, d4,
      guess_eq N (by omega) _ _ (S / 4294967296 ^ (p + 2)) (S / 4294967296 ^ (p + 1) % 4294967296) (S / 4294967296 ^ p % 4294967296) (D / 4294967296 ^ (p + 1)) (D / 4294967296 ^ p % 4294967296) rfl rfl rfl rfl rfl v1ge v1lt (Nat.mod_lt _ (by decide)) t0le (Nat.mod_lt _ (by decide)) (Nat.mod_lt _ (by decide)),
      hU3, hV, ← hg, Option.bind_some, take_eq N (la + 1) i _ S D g (p + 2) hl hlo hSb (by omega) hN2 (by omega) k3 k2, Option.bind_some]
    by_cases hlt : S < D * g
    · obtain ⟨m1, m2, m3⟩ := k4 hlt
      have eg : subI .u64 (g : Int) 1 = ((g - 1 : Nat) : Int) := by
        have := subN (k := .u64) (a := g) (b := 1) (by omega) (by simp only [lim]; omega)
        rwa [show ((1 : Nat) : Int) = 1 from rfl] at this
      rw [if_pos hlt]
      simp only [cond_true]
      rw [T_len, ltI_t (by omega), cond_true, eg, cvN (k := .u32) (by simp only [lim]; omega), e1, m3, Int.toNat_natCast, T_putq (by omega) (by omega), ← m1, ← h1, ← h2]
      exact ih
    · obtain ⟨m1, m3⟩ := k5 hlt
      rw [if_neg hlt]
      simp only [cond_true, cond_false]
      rw [T_len, ltI_t (by omega), cond_true, cvN (k := .u32) (by simp only [lim]; omega), e1, m3, Int.toNat_natCast, T_putq (by omega) (by omega), ← m1, ← h1, ← h2]
      exact ih
end Go.Proofs.YtcdhcihjcjpmkaaGreatDoor.Nt
/- PLAIN FACTS on the program's numbers of chapter 2: parts, DivMod. No statement is proved here. -/
namespace Go.Proofs.YtcdhcihjcjpmkaaGreatDoor.Nt
open Go Go.RowKit Go.Proofs.YtcdhcihjcjpmkaaGreatDoor.Eng Go.Proofs.YtcdhcihjcjpmkaaGreatDoor.Fns Go.Proofs.YtcdhcihjcjpmkaaGreatDoor.Bw Go.Proofs.YtcdhcihjcjpmkaaGreatDoor.Dig Go.Proofs.YtcdhcihjcjpmkaaGreatDoor.Slc
open Go.Proofs.YtcdhcihjcjpmkaaGreatDoor.Rn (Y b32 cmpZ)
set_option linter.unusedVariables false
set_option linter.unusedSimpArgs false

theorem cp_pad {k n : Nat} (h : n < 4294967296 ^ k) : cpL (List.replicate k 0) (Y n) = T 4294967296 k n := by
  unfold cpL
  have hd := dl_le b32 h
  rw [List.length_replicate, D_len, List.take_of_length_le (by rw [D_len]; exact hd), List.drop_replicate, ← D_pad b32 h]
/-- how far a number is moved up till its highest word has its highest bit -/
theorem norm_eq {n p s : Nat} (hl : dl 4294967296 n = p + 2) (hs : s + dl 2 (n / 4294967296 ^ (p + 1)) = 32) : s ≤ 31 ∧ 2147483648 * 4294967296 ^ (p + 1) ≤ n * 2 ^ s ∧ n * 2 ^ s < 4294967296 ^ (p + 2) ∧ dl 4294967296 (n * 2 ^ s) = p + 2 := by
  have hn0 : 0 < n := by
    apply Nat.pos_of_ne_zero
    intro h
    rw [h, dl_zero] at hl; omega
  have htop := D_top b32 hn0
  rw [hl, show p + 2 - 1 = p + 1 from rfl] at htop
  obtain ⟨h1, h2⟩ := dl_spec b2 (n / 4294967296 ^ (p + 1))
  obtain ⟨h2, h3⟩ := h2 htop.1
  generalize hd : dl 2 (n / 4294967296 ^ (p + 1)) = d at *
  have hp := p32 (p + 1)
  have hs31 : s ≤ 31 := by omega
  have e31 : 2 ^ (d - 1) * 2 ^ s = 2147483648 := by rw [← Nat.pow_add, show d - 1 + s = 31 by omega]
  have e32 : 2 ^ d * 2 ^ s = 4294967296 := by rw [← Nat.pow_add, show d + s = 32 by omega]
  have lo : 2147483648 * 4294967296 ^ (p + 1) ≤ n * 2 ^ s := by
    have h5 : 2 ^ (d - 1) * 4294967296 ^ (p + 1) ≤ n := by rwa [← Nat.le_div_iff_mul_le hp]
    have h6 := Nat.mul_le_mul_right (2 ^ s) h5
    rwa [Nat.mul_right_comm, e31] at h6
  have hi : n * 2 ^ s < 4294967296 ^ (p + 2) := by
    have h5 : n < 2 ^ d * 4294967296 ^ (p + 1) := by rwa [← Nat.div_lt_iff_lt_mul hp]
    have h6 := Nat.mul_lt_mul_of_pos_right h5 (show 0 < 2 ^ s from Nat.pow_pos (by decide))
    rwa [Nat.mul_right_comm, e32, Nat.mul_comm 4294967296, ← Nat.pow_succ] at h6
  exact ⟨hs31, lo, hi, dl_eq b32 (by omega) hi⟩
theorem dl_le_of {m n : Nat} (hn : 0 < n) (hlt : ¬ m < n) : 0 < dl 4294967296 n ∧ dl 4294967296 n ≤ dl 4294967296 m := by
  have hml := dl_lt b32 m
  refine ⟨((dl_spec b32 n).2 hn).2, ?_⟩
  have h1 := ((dl_spec b32 n).2 hn)
  apply Nat.le_of_not_lt
  intro h
  have h2 : 4294967296 ^ dl 4294967296 m ≤ 4294967296 ^ (dl 4294967296 n - 1) := Nat.pow_le_pow_right (by decide) (by omega)
  omega
theorem parts_less (N m n : Nat) (hlt : m < n) (hdm : dl 4294967296 m + 10 < N) (hN2 : N < 17592186044416) : fn_nat_parts N (Y m) (Y n) = some (Y (m / n), Y (m % n)) := by
  unfold fn_nat_parts t104
  rw [compare_eq N m n (by omega) (by omega), Option.bind_some, cmpZ_lt, decide_eq_true hlt, cond_true, Nat.div_eq_of_lt hlt, Nat.mod_eq_of_lt hlt, show (Y 0 : List Int) = [] from D_nil _]
  unfold Slc.fn_slices_Clone
  rw [D_len, leI_t (by omega), cond_true, Option.bind_some]
theorem parts_one (N m n : Nat) (hn : 0 < n) (hlt : ¬ m < n) (h1 : dl 4294967296 n = 1) (hdm : dl 4294967296 m + 10 < N) (hN2 : N < 17592186044416) : fn_nat_parts N (Y m) (Y n) = some (Y (m / n), Y (m % n)) := by
  unfold fn_nat_parts t104
  have hnl := dl_lt b32 n
  have hn2 : n < 4294967296 := by rw [h1, Nat.pow_one] at hnl; exact hnl
  have hm := Nat.mod_lt m hn
  have e0 : lrd (Y n) 0 = (n : Int) := by
    have := lrd_D b32 n 0
    rw [Nat.pow_zero, Nat.div_one, Nat.mod_eq_of_lt hn2] at this
    exact this
  have e2 : cvI .u64 ((m % n : Nat) : Int) = ((m % n : Nat) : Int) := cvN (by simp only [lim]; omega)
  have e3 := of_eq N (m % n) (by omega) (by omega)
  rw [compare_eq N m n (by omega) (by omega), Option.bind_some, cmpZ_lt, decide_eq_false hlt, cond_false, D_len, h1, eqI_t (show ((1 : Nat) : Int) = 1 from rfl), cond_true, ltI_t (by omega), cond_true, e0, short_eq N m n hn hn2 (by omega) hN2, Option.bind_some, e2, e3, Option.bind_some]
theorem parts_nums (m n p s la : Nat) (hn : 0 < n) (hml : m < 4294967296 ^ la) (hle : p + 2 ≤ la) (n1 : s ≤ 31) (n2 : 2147483648 * 4294967296 ^ (p + 1) ≤ n * 2 ^ s) : m * 2 ^ s < 4294967296 ^ (la + 1) ∧ m * 2 ^ s < 4294967296 ^ (la - (p + 2) + 1) * (n * 2 ^ s) := by
  have ps : 2 ^ s ≤ 2 ^ 31 := Nat.pow_le_pow_right (by decide) n1
  have e31 : (2 : Nat) ^ 31 = 2147483648 := rfl
  rw [e31] at ps
  constructor
  · rw [Nat.pow_succ]
    exact Nat.mul_lt_mul'' hml (by omega)
  · refine Nat.lt_of_lt_of_le (Nat.mul_lt_mul_of_lt_of_le hml ps (by decide)) ?_
    refine Nat.le_trans ?_ (Nat.mul_le_mul_left _ n2)
    rw [Nat.mul_left_comm, ← Nat.pow_add, show la - (p + 2) + 1 + (p + 1) = la by omega, Nat.mul_comm]
    exact Nat.le_refl _
theorem parts_big (N m n p la : Nat) (hn : 0 < n) (hlt : ¬ m < n) (hp : dl 4294967296 n = p + 2) (hla : dl 4294967296 m = la) (hle : p + 2 ≤ la) (hdm : la + 10 < N) (hN2 : N < 17592186044416) : fn_nat_parts N (Y m) (Y n) = some (Y (m / n), Y (m % n)) := by
  have e5 : addI .i64 (la : Int) 1 = ((la + 1 : Nat) : Int) := succI la (by omega)
  have e6 : subI .i64 (la : Int) ((p + 2 : Nat) : Int) = ((la - (p + 2) : Nat) : Int) := by rw [subI_i (by omega) (by omega)]; omega
  have e7 : addI .i64 ((la - (p + 2) : Nat) : Int) 1 = ((la - (p + 2) + 1 : Nat) : Int) := succI _ (by omega)
  have z3 : ((la - (p + 2) + 1 : Nat) : Int) - 1 = ((la - (p + 2) : Nat) : Int) := by omega
  have q1 : la + 4 < N := by omega
  have q3 : la - (p + 2) + 1 < N := by omega
  have q4 : dl 4294967296 n + 0 + 2 < N := by omega
  have q5 : dl 4294967296 m + 0 + 2 < N := by omega
  have q6 : dl 4294967296 m < N := by omega
  have q7 : N < 4611686018427387904 := by omega
  have y1 : ¬ ((p + 2 : Nat) : Int) = 1 := by omega
  have y2 : (0 : Int) ≤ ((p + 1 : Nat) : Int) := by omega
  have y3 : ((p + 1 : Nat) : Int) < ((p + 2 : Nat) : Int) := by omega
  have y4 : (0 : Int) ≤ ((la + 1 : Nat) : Int) := by omega
  have y5 : ((la + 1 : Nat) : Int) ≤ 17592186044416 := by omega
  have y6 : (0 : Int) ≤ ((la - (p + 2) + 1 : Nat) : Int) := by omega
  have y7 : ((la - (p + 2) + 1 : Nat) : Int) ≤ 17592186044416 := by omega
  have hml := dl_lt b32 m
  rw [hla] at hml
  have ed : subI .i64 ((p + 2 : Nat) : Int) 1 = ((p + 1 : Nat) : Int) := by rw [subI_i (by omega) (by omega)]; omega
  have htop := D_top b32 hn
  rw [hp, show p + 2 - 1 = p + 1 from rfl] at htop
  have e1 : lrd (Y n) ((p + 1 : Nat) : Int) = ((n / 4294967296 ^ (p + 1) : Nat) : Int) := by rw [lrd_D b32, Nat.mod_eq_of_lt htop.2]
  have hd2 : dl 2 (n / 4294967296 ^ (p + 1)) ≤ 32 := dl_le b2 htop.2
  obtain ⟨s, hs⟩ : ∃ s, s + dl 2 (n / 4294967296 ^ (p + 1)) = 32 := ⟨32 - dl 2 (n / 4294967296 ^ (p + 1)), by omega⟩
  obtain ⟨n1, n2, n3, n4⟩ := norm_eq hp hs
  have es : subI .i64 32 ((dl 2 (n / 4294967296 ^ (p + 1)) : Nat) : Int) = (s : Int) := by rw [subI_i (by omega) (by omega)]; omega
  have hz : fn_bits_LeadingZeros32 N ((n / 4294967296 ^ (p + 1) : Nat) : Int) = some (s : Int) := by
    unfold fn_bits_LeadingZeros32
    rw [len32_eq N _ htop.2, Option.bind_some, es]
  obtain ⟨hM1, hM2⟩ := parts_nums m n p s la hn hml hle n1 n2
  have pp : 0 < 2 ^ s := Nat.pow_pos (by decide)
  have h := parts_loop N (m * 2 ^ s) (n * 2 ^ s) s p la (Nat.le_trans n1 (by decide)) n2 n3 n4 hle hM2 hM1 q1 hN2 (la - (p + 2) + 1) N (Nat.le_refl _) q3
  have z1 : m * 2 ^ s / 4294967296 ^ (la - (p + 2) + 1) / (n * 2 ^ s) = 0 := by
    rw [Nat.div_div_eq_div_mul]; exact Nat.div_eq_of_lt hM2
  have z2 : m * 2 ^ s / 4294967296 ^ (la - (p + 2) + 1) % (n * 2 ^ s) = m * 2 ^ s / 4294967296 ^ (la - (p + 2) + 1) := by
    apply Nat.mod_eq_of_lt
    rw [Nat.div_lt_iff_lt_mul (p32 _), Nat.mul_comm (n * 2 ^ s)]; exact hM2
  rw [z1, z2, Nat.zero_mul, Nat.mod_add_div, T_nought (by decide), z3, Nat.mul_div_mul_right _ _ pp, Nat.mul_mod_mul_right, Nat.mul_div_cancel _ pp] at h
  have s0 : s / 32 = 0 := Nat.div_eq_of_lt (Nat.lt_of_le_of_lt n1 (by decide))
  have u1 := up_eq N n s (Nat.lt_of_le_of_lt n1 (by decide)) (by rw [s0]; exact q4) hN2
  have u2 := up_eq N m s (Nat.lt_of_le_of_lt n1 (by decide)) (by rw [s0]; exact q5) hN2
  have c1 := cp_pad hM1
  unfold fn_nat_parts t104
  rw [compare_eq N m n q6 q7, Option.bind_some, cmpZ_lt, decide_eq_false hlt, cond_false, D_len, hp, eqI_f y1, cond_false, ed, leI_t y2, cond_true, ltI_t y3, cond_true, e1, hz, Option.bind_some, u1, Option.bind_some, D_len, hla, e5, leI_t y4, cond_true, leI_t y5, cond_true,
    u2, Option.bind_some, D_len, n4, e6, e7, leI_t y6, cond_true, leI_t y7, cond_true, Int.toNat_natCast, Int.toNat_natCast, c1]
  exact h
theorem parts_eq (N m n : Nat) (hn : 0 < n) (hdm : dl 4294967296 m + 10 < N) (hdn : dl 4294967296 n + 10 < N) (hN2 : N < 17592186044416) : fn_nat_parts N (Y m) (Y n) = some (Y (m / n), Y (m % n)) := by
  by_cases hlt : m < n
  · exact parts_less N m n hlt hdm hN2
  obtain ⟨h0, hle⟩ := dl_le_of hn hlt
  by_cases h1 : dl 4294967296 n = 1
  · exact parts_one N m n hn hlt h1 hdm hN2
  exact parts_big N m n (dl 4294967296 n - 2) (dl 4294967296 m) hn hlt (by omega) rfl (by omega) hdm hN2
theorem divmod_eq (N m n : Nat) (hn : 0 < n) (hdm : dl 4294967296 m ≤ 8192) (hdn : dl 4294967296 n ≤ 8192) (hN : 20000 < N) (hN2 : N < 17592186044416) : fn_nat_DivMod N (Y m) (Y n) = some (Y (m / n), Y (m % n), none) := by
  unfold fn_nat_DivMod
  have hn1 : 0 < dl 4294967296 n := ((dl_spec b32 n).2 hn).2
  rw [both_Y N m n hdm hdn, Option.bind_some, show isNoneI none = true from rfl, Bool.not_true, cond_false, D_len, eqI_f (by omega), cond_false, parts_eq N m n hn (by omega) (by omega) hN2, Option.bind_some]
end Go.Proofs.YtcdhcihjcjpmkaaGreatDoor.Nt
/- PLAIN FACTS on chapter 2: a number's decimal digits: the program's Decimal and Parse. No statement is proved here. -/
namespace Go.Proofs.YtcdhcihjcjpmkaaGreatDoor.Nt
open Go Go.RowKit Go.Proofs.YtcdhcihjcjpmkaaGreatDoor.Eng Go.Proofs.YtcdhcihjcjpmkaaGreatDoor.Fns Go.Proofs.YtcdhcihjcjpmkaaGreatDoor.Bw Go.Proofs.YtcdhcihjcjpmkaaGreatDoor.Dig Go.Proofs.YtcdhcihjcjpmkaaGreatDoor.Slc
open Go.Proofs.YtcdhcihjcjpmkaaGreatDoor.Rn (Y b32 cmpZ)
set_option linter.unusedVariables false
set_option linter.unusedSimpArgs false
/-! ### bytes -/
def byte (s : ByteArray) (j : Nat) : Nat := if h : j < s.size then s[j].toNat else 0
theorem sAt_byte (s : ByteArray) (j : Nat) : sAt s (j : Int) = (byte s j : Int) := by
  unfold sAt byte
  rw [Int.toNat_natCast]
  split <;> rfl
theorem byte_lt (s : ByteArray) (j : Nat) : byte s j < 256 := by
  unfold byte
  split
  · exact UInt8.toNat_lt _
  · decide
def bs (l : List Nat) : ByteArray := ⟨(l.map UInt8.ofNat).toArray⟩
theorem bs_size (l : List Nat) : (bs l).size = l.length := by simp [bs, ByteArray.size]
theorem bs_cons (x : Nat) (l : List Nat) : bs [x] ++ bs l = bs (x :: l) := by
  apply ByteArray.ext
  rw [ByteArray.data_append]
  simp [bs]
theorem bs_byte {l : List Nat} {j x : Nat} (h : l[j]? = some x) (hx : x < 256) : byte (bs l) j = x := by
  obtain ⟨h1, h2⟩ := List.getElem?_eq_some_iff.1 h
  unfold byte
  rw [dif_pos (by rw [bs_size]; exact h1)]
  have : (bs l)[j]'(by rw [bs_size]; exact h1) = UInt8.ofNat x := by
    rw [ByteArray.getElem_eq_getElem_data]
    simp [bs, h2]
  rw [this]
  simp; omega
theorem bstr_eq : ∀ (xs : List Nat), bstr (xs.map fun n : Nat => (n : Int)) = bs xs := by
  have gen : ∀ (xs : List Nat) (r : ByteArray), (xs.map fun n : Nat => (n : Int)).foldl (fun r n => r.push (UInt8.ofNat n.toNat)) r = ⟨r.data ++ (xs.map UInt8.ofNat).toArray⟩ := by
    intro xs
    induction xs with
    | nil => intro r; simp
    | cons x xs ih =>
      intro r
      rw [List.map_cons, List.foldl_cons, ih]
      congr 1
      simp [ByteArray.push]
  intro xs
  unfold bstr
  rw [gen]
  simp [bs, ByteArray.empty, ByteArray.emptyWithCapacity]
  rfl
/-! ### decimal digits -/
/-- the lowest k digits of a number, the highest first -/
def dd (n : Nat) : Nat → List Nat
  | 0 => []
  | k + 1 => (48 + n / 10 ^ k % 10) :: dd n k
theorem dd_len (n : Nat) : ∀ k, (dd n k).length = k
  | 0 => rfl
  | k + 1 => by rw [dd, List.length_cons, dd_len n k]
theorem dd_get (n : Nat) : ∀ (k j : Nat), j < k → (dd n k)[j]? = some (48 + n / 10 ^ (k - 1 - j) % 10)
  | 0, j, h => by omega
  | k + 1, 0, h => by simp [dd]
  | k + 1, j + 1, h => by
    rw [dd, List.getElem?_cons_succ, dd_get n k j (by omega)]
    congr 5; omega
/-- a number's digits -/
def DS (n : Nat) : ByteArray := bs (dd n (max 1 (dl 10 n)))
/-- the same, the lowest first -/
def el (n k : Nat) : List Int := (List.range k).map fun j => ((48 + n / 10 ^ j % 10 : Nat) : Int)
theorem el_len (n k : Nat) : (el n k).length = k := by simp [el]
theorem el_succ (n k : Nat) : el n (k + 1) = el n k ++ [((48 + n / 10 ^ k % 10 : Nat) : Int)] := by
  unfold el
  rw [List.range_succ, List.map_append]; rfl
theorem el_rev (n : Nat) : ∀ k, (el n k).reverse = (dd n k).map fun n : Nat => (n : Int)
  | 0 => rfl
  | k + 1 => by rw [el_succ, List.reverse_append, el_rev n k]; rfl
theorem el_take (n k : Nat) : (el n (k + 1)).take k = el n k := by
  rw [el_succ, List.take_append, el_len, Nat.sub_self, List.take_zero, List.append_nil, List.take_of_length_le (by rw [el_len]; exact Nat.le_refl _)]
theorem el_last (n k : Nat) : lrd (el n (k + 1)) (k : Int) = ((48 + n / 10 ^ k % 10 : Nat) : Int) := by
  unfold lrd
  rw [Int.toNat_natCast, el_succ, List.getD_eq_getElem?_getD, List.getElem?_append_right (by rw [el_len]; exact Nat.le_refl _), el_len, Nat.sub_self]
  rfl
theorem b10 : (1 : Nat) < 10 := by decide
theorem lit48 : (⟨#[48]⟩ : ByteArray) = bs [48] := by decide
/-! ### Decimal -/
theorem dtrim_loop (N n : Nat) : ∀ (k f : Nat), n < 10 ^ k → k < f → k < 4611686018427387904 → l87_2 N f (el n k) = some (DS n, none) := by
  have fin : ∀ k, max 1 (dl 10 n) = k → bstr (List.reverse (el n k)) = DS n := by
    intro k hk
    rw [el_rev, bstr_eq, DS, hk]
  intro k
  induction k with
  | zero =>
    intro f hn hf hb
    obtain ⟨f, rfl⟩ : ∃ n', f = n' + 1 := ⟨f - 1, by omega⟩
    show s87_2 N _ _ = _
    unfold s87_2
    have : n = 0 := by rw [Nat.pow_zero] at hn; omega
    subst this
    have e : DS 0 = (⟨#[48]⟩ : ByteArray) := by
      unfold DS; rw [dl_zero]; decide
    rw [el_len, ltI_f (by omega), cond_false, eqI_t (show ((0 : Nat) : Int) = 0 from rfl), cond_true, e]
  | succ k ih =>
    intro f hn hf hb
    obtain ⟨f, rfl⟩ : ∃ n', f = n' + 1 := ⟨f - 1, by omega⟩
    show s87_2 N (l87_2 N f) _ = _
    unfold s87_2
    have e1 : subI .i64 ((k + 1 : Nat) : Int) 1 = (k : Int) := predI k (by omega)
    have hle : dl 10 n ≤ k + 1 := dl_le b10 hn
    rw [el_len, e1]
    by_cases hk : k = 0
    · subst hk
      rw [ltI_f (by omega), cond_false, eqI_f (by omega), cond_false, fin 1 (by omega)]
    · rw [ltI_t (by omega), cond_true, leI_t (by omega), cond_true, ltI_t (by omega), cond_true, el_last]
      have hq : n / 10 ^ k < 10 := by
        rw [Nat.div_lt_iff_lt_mul (Nat.pow_pos (by decide)), Nat.mul_comm, ← Nat.pow_succ]; exact hn
      by_cases hz : n / 10 ^ k = 0
      · have hn2 : n < 10 ^ k := by
          rcases Nat.div_eq_zero_iff.1 hz with h | h
          · have : 0 < 10 ^ k := Nat.pow_pos (by decide)
            omega
          · exact h
        rw [hz, eqI_t (show ((48 + 0 % 10 : Nat) : Int) = 48 from rfl), cond_true, leI_t (by omega)]
        simp only [Bool.and_self, cond_true, Int.toNat_natCast]
        rw [el_take]
        exact ih f hn2 (by omega) (by omega)
      · have hge : 10 ^ k ≤ n := by
          apply Nat.le_of_not_lt
          intro h
          exact hz (Nat.div_eq_of_lt h)
        have hdl : dl 10 n = k + 1 := dl_eq b10 hge hn
        rw [Nat.mod_eq_of_lt hq, eqI_f (by omega), cond_false, eqI_f (by omega), cond_false, fin (k + 1) (by omega)]
theorem dgroup_loop (N n t : Nat) (v0 : List Int) (E : List Int → List Int → Option (ByteArray × Option Int)) (ht : 9 * t < 17592186000000) : ∀ (r j f : Nat), j + r = 9 → r < f →
    l87_1 N E f v0 ((n / 10 ^ (9 * t) % 10 ^ 9 / 10 ^ j : Nat) : Int) (j : Int) (el n (9 * t + j)) = E v0 (el n (9 * t + 9)) := by
  intro r
  induction r with
  | zero =>
    intro j f hj hf
    obtain ⟨f, rfl⟩ : ∃ n', f = n' + 1 := ⟨f - 1, by omega⟩
    show s87_1 N _ _ _ _ _ _ = _
    unfold s87_1
    have : j = 9 := by omega
    subst this
    rw [ltI_f (by omega), cond_false]
  | succ r ih =>
    intro j f hj hf
    obtain ⟨f, rfl⟩ : ∃ n', f = n' + 1 := ⟨f - 1, by omega⟩
    show s87_1 N (l87_1 N E f) E _ _ _ _ = _
    unfold s87_1
    have ih := ih (j + 1) f (by omega) (by omega)
    have hlt : n / 10 ^ (9 * t) % 10 ^ 9 / 10 ^ j ≤ n / 10 ^ (9 * t) % 10 ^ 9 := Nat.div_le_self _ _
    have h9 : n / 10 ^ (9 * t) % 10 ^ 9 < 10 ^ 9 := Nat.mod_lt _ (by decide)
    have hdig : n / 10 ^ (9 * t) % 10 ^ 9 / 10 ^ j % 10 = n / 10 ^ (9 * t + j) % 10 := by
      rw [mod_pow_div (by decide) _ (show j < 9 by omega), Nat.div_div_eq_div_mul, ← Nat.pow_add]
    have hnext : n / 10 ^ (9 * t) % 10 ^ 9 / 10 ^ j / 10 = n / 10 ^ (9 * t) % 10 ^ 9 / 10 ^ (j + 1) := by
      rw [Nat.div_div_eq_div_mul, ← Nat.pow_succ]
    rw [show (10 : Nat) ^ 9 = 1000000000 from rfl] at h9
    rw [show (10 : Nat) ^ 9 = 1000000000 from rfl] at *
    generalize hv : n / 10 ^ (9 * t) % 1000000000 / 10 ^ j = v at *
    have e1 : remI .u32 (v : Int) 10 = ((v % 10 : Nat) : Int) := remN .u32 v 10
    have e2 : addI .u32 48 ((v % 10 : Nat) : Int) = ((48 + v % 10 : Nat) : Int) := addN (k := .u32) (a := 48) (by simp only [lim]; omega)
    have e3 : cvI .u8 ((48 + v % 10 : Nat) : Int) = ((48 + v % 10 : Nat) : Int) := by unfold cvI; rw [wrap_u8]; omega
    have e4 : quoI .u32 (v : Int) 10 = ((v / 10 : Nat) : Int) := quoN (k := .u32) (b := 10) (by simp only [lim]; omega)
    rw [ltI_t (by omega), cond_true, e1, e2, e3, e4, el_len, fit_t (by simp; omega), cond_true, hdig, ← el_succ, hnext, succI j (by omega)]
    exact ih
theorem dec_loop (N n : Nat) (hN : 2 * (9 * 2 * dl 4294967296 n) + 100 < N) (hN2 : N < 1000000000) : ∀ (r t f : Nat), n < 10 ^ (9 * (t + r)) → t + r ≤ 2 * dl 4294967296 n + 1 → r < f →
    l87_0 N f (Y (n / 10 ^ (9 * t))) (el n (9 * t)) = some (DS n, none) := by
  have stop : ∀ (t f : Nat), n < 10 ^ (9 * t) → t ≤ 2 * dl 4294967296 n + 1 → 0 < f → l87_0 N f (Y (n / 10 ^ (9 * t))) (el n (9 * t)) = some (DS n, none) := by
    intro t f hn ht hf
    obtain ⟨f, rfl⟩ : ∃ n', f = n' + 1 := ⟨f - 1, by omega⟩
    show s87_0 N _ (l87_2 N N) _ _ = _
    unfold s87_0
    rw [Nat.div_eq_of_lt hn, D_len, dl_zero, ltI_f (by omega), cond_false]
    exact dtrim_loop N n (9 * t) N hn (by omega) (by omega)
  intro r
  induction r with
  | zero => intro t f hn ht hf; exact stop t f hn (by omega) hf
  | succ r ih =>
    intro t f hn ht hf
    by_cases hz : n < 10 ^ (9 * t)
    · exact stop t f hz (by omega) (by omega)
    obtain ⟨f, rfl⟩ : ∃ n', f = n' + 1 := ⟨f - 1, by omega⟩
    show s87_0 N (l87_1 N (l87_0 N f) N) (l87_2 N N) _ _ = _
    unfold s87_0
    have hpos : 0 < n / 10 ^ (9 * t) := Nat.div_pos (by omega) (Nat.pow_pos (by decide))
    have hdl : dl 4294967296 (n / 10 ^ (9 * t)) ≤ dl 4294967296 n := dl_le b32 (Nat.lt_of_le_of_lt (Nat.div_le_self _ _) (dl_lt b32 n))
    have hdp : 0 < dl 4294967296 (n / 10 ^ (9 * t)) := ((dl_spec b32 _).2 hpos).2
    have hs := short_eq N (n / 10 ^ (9 * t)) 1000000000 (by decide) (by decide) (by omega) (by omega)
    have hnext : n / 10 ^ (9 * t) / 1000000000 = n / 10 ^ (9 * (t + 1)) := by
      rw [show 9 * (t + 1) = 9 * t + 9 by omega, Nat.pow_add, Nat.div_div_eq_div_mul]
    rw [hnext] at hs
    have hg := dgroup_loop N n t (Y (n / 10 ^ (9 * (t + 1)))) (l87_0 N f) (by omega) 9 0 N rfl (by omega)
    rw [Nat.pow_zero, Nat.div_one, Nat.add_zero] at hg
    rw [D_len, ltI_t (by omega), cond_true]
    rw [show ((1000000000 : Nat) : Int) = 1000000000 from rfl] at hs
    rw [hs, Option.bind_some]
    refine Eq.trans hg ?_
    exact ih (t + 1) f (by rw [show t + 1 + r = t + (r + 1) by omega]; exact hn) (by omega) (by omega)
theorem decimal_eq (N n : Nat) (hdn : dl 4294967296 n ≤ 8192) (hN : 2 * (9 * 2 * dl 4294967296 n) + 100 < N) (hN2 : N < 1000000000) : fn_nat_Decimal N (Y n) = some (DS n, none) := by
  unfold fn_nat_Decimal t87
  rw [check_Y N n hdn, Option.bind_some, show isNoneI none = true from rfl, Bool.not_true, cond_false]
  unfold fn_slices_Clone
  rw [D_len, leI_t (by omega), cond_true, Option.bind_some]
  have hb : n < 10 ^ (9 * (0 + 2 * dl 4294967296 n)) := by
    refine Nat.lt_of_lt_of_le (dl_lt b32 n) ?_
    have h1 : (4294967296 : Nat) ≤ 10 ^ 10 := by decide
    refine Nat.le_trans (Nat.pow_le_pow_left h1 _) ?_
    rw [← Nat.pow_mul]
    exact Nat.pow_le_pow_right (by decide) (by omega)
  have h := dec_loop N n hN hN2 (2 * dl 4294967296 n) 0 N hb (by omega) (by omega)
  rw [Nat.mul_zero, Nat.pow_zero, Nat.div_one] at h
  exact h
theorem decimal_bad (N : Nat) (xs : List Int) (h : fn_nat_Check N xs = some (some 1)) : fn_nat_Decimal N xs = some ((⟨#[]⟩ : ByteArray), some 1) := by
  unfold fn_nat_Decimal t87
  rw [h, Option.bind_some]; rfl
end Go.Proofs.YtcdhcihjcjpmkaaGreatDoor.Nt

/- PLAIN FACTS on the program's numbers of chapter 2 (words of 32 bits): trim, Of, Check, at, Add, Cmp, Sub. No statement is proved here. -/
import Derived.Test.YtoihjgfnocimjaaDoorRn2
namespace Go.Proofs.YtoihjgfnocimjaaDoor.Nt
open Go Go.RowKit Go.Proofs.YtoihjgfnocimjaaDoor.Eng Go.Proofs.YtoihjgfnocimjaaDoor.Fns Go.Proofs.YtoihjgfnocimjaaDoor.Bw Go.Proofs.YtoihjgfnocimjaaDoor.Dig
open Go.Proofs.YtoihjgfnocimjaaDoor.Rn (Y b32 cmpZ)
set_option linter.unusedVariables false
set_option linter.unusedSimpArgs false
theorem p32 (i : Nat) : 0 < 4294967296 ^ i := Nat.pow_pos (by decide)
theorem T_put {b k S i : Nat} (hb : 1 < b) (hi : i < k) : (T b k (S % b ^ i)).set i ((S / b ^ i % b : Nat) : Int) = T b k (S % b ^ (i + 1)) := by
  rw [T_set hb hi (Nat.mod_lt _ (by omega))]
  congr 1
  have h0 : S % b ^ i < b ^ i := Nat.mod_lt _ (pow_pos (by omega) i)
  have h1 : S % b ^ i / b ^ (i + 1) = 0 := Nat.div_eq_of_lt (Nat.lt_of_lt_of_le h0 (Nat.pow_le_pow_right (by omega) (by omega)))
  rw [h1, Nat.mul_zero, Nat.add_zero, Nat.mod_mod, Nat.pow_succ, Nat.mod_mul]
/-! ### sums and differences, digit by digit -/
def car (m n i : Nat) : Nat := (m % 4294967296 ^ i + n % 4294967296 ^ i) / 4294967296 ^ i
theorem car_lt (m n i : Nat) : car m n i < 2 := by
  unfold car
  have h1 := Nat.mod_lt m (p32 i)
  have h2 := Nat.mod_lt n (p32 i)
  rw [Nat.div_lt_iff_lt_mul (p32 i)]; omega
theorem sum_div (m n i : Nat) : (m + n) / 4294967296 ^ i = m / 4294967296 ^ i + n / 4294967296 ^ i + car m n i := by
  have h1 := Nat.div_add_mod m (4294967296 ^ i)
  have h2 := Nat.div_add_mod n (4294967296 ^ i)
  have e : m + n = (m % 4294967296 ^ i + n % 4294967296 ^ i) + 4294967296 ^ i * (m / 4294967296 ^ i + n / 4294967296 ^ i) := by rw [Nat.mul_add]; omega
  unfold car
  conv => lhs; rw [e]
  rw [Nat.add_mul_div_left _ _ (p32 i)]; omega
theorem car_succ (m n i : Nat) : car m n (i + 1) = (car m n i + m / 4294967296 ^ i % 4294967296 + n / 4294967296 ^ i % 4294967296) / 4294967296 := by
  have h := sum_div m n i
  have h' := sum_div m n (i + 1)
  rw [Nat.pow_succ, ← Nat.div_div_eq_div_mul, ← Nat.div_div_eq_div_mul, ← Nat.div_div_eq_div_mul, h] at h'
  omega
def brw (m n i : Nat) : Nat := if m % 4294967296 ^ i < n % 4294967296 ^ i then 1 else 0
theorem brw_lt (m n i : Nat) : brw m n i < 2 := by unfold brw; split <;> omega
theorem sub_div (m n i : Nat) (h : n ≤ m) : (m - n) / 4294967296 ^ i + n / 4294967296 ^ i + brw m n i = m / 4294967296 ^ i := by
  have h1 := Nat.div_add_mod m (4294967296 ^ i)
  have h2 := Nat.div_add_mod n (4294967296 ^ i)
  have l1 := Nat.mod_lt m (p32 i)
  have l2 := Nat.mod_lt n (p32 i)
  have hq : n / 4294967296 ^ i ≤ m / 4294967296 ^ i := Nat.div_le_div_right h
  unfold brw
  generalize 4294967296 ^ i = P at *
  generalize m / P = a at *
  generalize n / P = b at *
  generalize m % P = r at *
  generalize n % P = s at *
  obtain ⟨d, rfl⟩ : ∃ d, a = b + d := ⟨a - b, by omega⟩
  rw [Nat.mul_add] at h1
  split
  · rename_i hlt
    cases d with
    | zero => rw [Nat.mul_zero] at h1; omega
    | succ d =>
      rw [Nat.mul_succ] at h1
      have : m - n = (P + r - s) + P * d := by omega
      rw [this, Nat.add_mul_div_left _ _ (by omega), Nat.div_eq_of_lt (by omega)]; omega
  · have : m - n = (r - s) + P * d := by omega
    rw [this, Nat.add_mul_div_left _ _ (by omega), Nat.div_eq_of_lt (by omega)]; omega
theorem brw_succ (m n i : Nat) : brw m n (i + 1) = 1 - (4294967296 + m / 4294967296 ^ i % 4294967296 - n / 4294967296 ^ i % 4294967296 - brw m n i) / 4294967296 := by
  have l1 := Nat.mod_lt m (p32 i)
  have l2 := Nat.mod_lt n (p32 i)
  have l3 : m / 4294967296 ^ i % 4294967296 < 4294967296 := Nat.mod_lt _ (by decide)
  have l4 : n / 4294967296 ^ i % 4294967296 < 4294967296 := Nat.mod_lt _ (by decide)
  unfold brw
  rw [Nat.pow_succ, Nat.mod_mul, Nat.mod_mul]
  generalize 4294967296 ^ i = P at *
  generalize m / P % 4294967296 = a at *
  generalize n / P % 4294967296 = b at *
  generalize m % P = r at *
  generalize n % P = s at *
  rcases Nat.lt_trichotomy a b with h | h | h
  · have := Nat.mul_le_mul_left P h
    rw [Nat.mul_succ] at this
    rw [if_pos (by omega)]
    split <;> omega
  · subst h
    by_cases hr : r < s
    · rw [if_pos (by omega), if_pos hr]; omega
    · rw [if_neg (by omega), if_neg hr]; omega
  · have := Nat.mul_le_mul_left P h
    rw [Nat.mul_succ] at this
    rw [if_neg (by omega)]
    split <;> omega

/-! ### the program -/
theorem trim_loop (N : Nat) : ∀ (j f n : Nat), j < f → j < 4611686018427387904 → n < 4294967296 ^ j → l55_0 N f (T 4294967296 j n) = some (Y n) := by
  intro j
  induction j with
  | zero =>
    intro f n hf _ hn
    obtain ⟨f, rfl⟩ : ∃ n', f = n' + 1 := ⟨f - 1, by omega⟩
    have : n = 0 := by simpa using hn
    subst this
    show s55_0 N _ _ = _
    unfold s55_0
    rw [T_len, ltI_f (by omega), cond_false, T_zero, Y, D_nil]
  | succ j ih =>
    intro f n hf hj hn
    obtain ⟨f, rfl⟩ : ∃ n', f = n' + 1 := ⟨f - 1, by omega⟩
    show s55_0 N (l55_0 N f) _ = _
    unfold s55_0
    rw [T_len, predI j (by omega), ltI_t (by omega), cond_true, leI_t (by omega), cond_true, ltI_t (by omega), cond_true, lrd_T (by omega)]
    by_cases h0 : n / 4294967296 ^ j % 4294967296 = 0
    · rw [eqI_t (by omega), cond_true, leI_t (by omega), leI_t (by omega), leI_t (by omega)]
      have hle : leI ((j + 1 : Nat) : Int) ((j + 1 : Nat) : Int) = true := leI_t (by omega)
      simp only [Bool.and_self, Bool.or_self, cond_true]
      rw [Int.toNat_natCast, T_take (by omega), show (0 : Int).toNat = 0 from rfl, List.drop_zero]
      exact ih f n (by omega) (by omega) (T_cut b32 h0 hn)
    · rw [eqI_f (by omega), cond_false]
      have hge : 4294967296 ^ j ≤ n := by
        apply Nat.le_of_not_lt
        intro h; rw [Nat.div_eq_of_lt h] at h0; simp at h0
      rw [Y, D, dl_eq b32 hge hn]
theorem trim_eq (N k n : Nat) (hk : k < 4611686018427387904) (hN : k < N) (hn : n < 4294967296 ^ k) : fn_nat_trim N (T 4294967296 k n) = some (Y n) := by
  unfold fn_nat_trim t55
  exact trim_loop N k N n hN hk hn
theorem of_eq (N n : Nat) (hN : 2 < N) (hn : n < 18446744073709551616) : fn_nat_Of N (n : Int) = some (Y n) := by
  unfold fn_nat_Of
  have e : [cvI .u32 (n : Int), cvI .u32 (shrI .u64 (n : Int) 32)] = T 4294967296 2 n := by
    have q1 : shrI .u64 (n : Int) 32 = ((n / 2 ^ 32 : Nat) : Int) := shrN (k := .u64) (b := 32) (by decide)
    rw [q1, cvU32, cvU32]
    simp [T, List.range, List.range.loop]
  rw [e, trim_eq N 2 n (by omega) hN (by simpa using hn), Option.bind_some]
theorem len_pred (n : Nat) (h : 0 < n) (h2 : n < 9223372036854775808) : subI .i64 (n : Int) 1 = ((n - 1 : Nat) : Int) := by
  obtain ⟨k, rfl⟩ : ∃ k, n = k + 1 := ⟨n - 1, by omega⟩
  rw [predI k h2]; rfl
theorem check_Y (N n : Nat) (h : dl 4294967296 n ≤ 8192) : fn_nat_Check N (Y n) = some none := by
  unfold fn_nat_Check
  rw [D_len, ltI_f (by omega), cond_false]
  by_cases h0 : 0 < dl 4294967296 n
  · have hn : 0 < n := by
      apply Nat.pos_of_ne_zero; rintro rfl; rw [dl_zero] at h0; omega
    have ht := D_top b32 hn
    rw [ltI_t (by omega), cond_true, len_pred _ h0 (by omega), leI_t (by omega), cond_true, ltI_t (by omega), cond_true, lrd_D b32, Nat.mod_eq_of_lt ht.2, eqI_f (by omega), cond_false]
  · rw [ltI_f (by omega), cond_false]
/-- words that are no number -/
def bad (xs : List Int) : Prop := 8192 < xs.length ∨ (0 < xs.length ∧ lrd xs ((xs.length - 1 : Nat) : Int) = 0)
theorem check_bad (N : Nat) (xs : List Int) (h : bad xs) (hl : xs.length < 9223372036854775808) : fn_nat_Check N xs = some (some 1) := by
  unfold fn_nat_Check
  by_cases h1 : 8192 < xs.length
  · rw [ltI_t (by omega), cond_true]
  · rcases h with h | ⟨h2, h3⟩
    · exact absurd h h1
    · rw [ltI_f (by omega), cond_false, ltI_t (by omega), cond_true, len_pred _ h2 hl, leI_t (by omega), cond_true, ltI_t (by omega), cond_true, h3]; rfl
theorem is_Y (N n : Nat) (h : dl 4294967296 n ≤ 8192) : fn_tillerlaw02_is N (Y n) = some true := by
  unfold fn_tillerlaw02_is
  rw [D_len]
  by_cases h0 : 0 < dl 4294967296 n
  · have hn : 0 < n := by
      apply Nat.pos_of_ne_zero; rintro rfl; rw [dl_zero] at h0; omega
    have ht := D_top b32 hn
    rw [eqI_f (by omega), cond_false, leI_t (by omega), cond_true, len_pred _ h0 (by omega), leI_t (by omega), cond_true, ltI_t (by omega), cond_true, lrd_D b32, Nat.mod_eq_of_lt ht.2, eqI_f (by omega)]; rfl
  · rw [eqI_t (by omega), cond_true]
theorem is_bad (N : Nat) (xs : List Int) (h : bad xs) (hl : xs.length < 9223372036854775808) : fn_tillerlaw02_is N xs = some false := by
  unfold fn_tillerlaw02_is
  have h0 : 0 < xs.length := by rcases h with h | ⟨h, _⟩ <;> omega
  rw [eqI_f (by omega), cond_false]
  by_cases h1 : 8192 < xs.length
  · rw [leI_f (by omega), cond_false]
  · rcases h with h | ⟨h2, h3⟩
    · exact absurd h h1
    · rw [leI_t (by omega), cond_true, len_pred _ h2 hl, leI_t (by omega), cond_true, ltI_t (by omega), cond_true, h3]; rfl
theorem nat_cases (xs : List Int) (h : okL .u32 xs) : (∃ n, dl 4294967296 n ≤ 8192 ∧ dl 4294967296 n = xs.length ∧ xs = Y n) ∨ bad xs := by
  by_cases h1 : 8192 < xs.length
  · exact .inr (.inl h1)
  · by_cases h2 : xs = [] ∨ lrd xs ((xs.length - 1 : Nat) : Int) ≠ 0
    · obtain ⟨n, hn, e⟩ := D_all b32 xs (fun x hx => by have := u32_in (h x hx); omega) h2
      have : dl 4294967296 n = xs.length := by rw [← D_len 4294967296 n, ← e]
      exact .inl ⟨n, by omega, this, e⟩
    · refine .inr (.inr ⟨?_, ?_⟩)
      · apply Nat.pos_of_ne_zero
        intro h3; exact h2 (.inl (List.eq_nil_of_length_eq_zero h3))
      · exact Classical.byContradiction fun h3 => h2 (.inr h3)
theorem both_Y (N m n : Nat) (hm : dl 4294967296 m ≤ 8192) (hn : dl 4294967296 n ≤ 8192) : fn_nat_both N (Y m) (Y n) = some none := by
  unfold fn_nat_both
  rw [check_Y N m hm, Option.bind_some, check_Y N n hn, Option.bind_some]; rfl
theorem both_bad1 (N : Nat) (xs ys : List Int) (h : bad xs) (hl : xs.length < 9223372036854775808) : fn_nat_both N xs ys = some (some 1) := by
  unfold fn_nat_both
  rw [check_bad N xs h hl, Option.bind_some]; rfl
theorem both_bad2 (N m : Nat) (ys : List Int) (hm : dl 4294967296 m ≤ 8192) (h : bad ys) (hl : ys.length < 9223372036854775808) : fn_nat_both N (Y m) ys = some (some 1) := by
  unfold fn_nat_both
  rw [check_Y N m hm, Option.bind_some, check_bad N ys h hl, Option.bind_some]; rfl
theorem at_eq (N n i : Nat) : fn_nat_N_at N (Y n) (i : Int) = some ((n / 4294967296 ^ i % 4294967296 : Nat) : Int) := by
  unfold fn_nat_N_at
  have h := lrd_D b32 n i
  by_cases hi : i < dl 4294967296 n
  · rw [D_len, ltI_t (by omega), cond_true, leI_t (by omega), cond_true, cond_true, h, cvN (by have := Nat.mod_lt (n / 4294967296 ^ i) (show 0 < 4294967296 by decide); simp only [lim]; omega)]
  · rw [D_len, ltI_f (by omega), cond_false]
    have e : n / 4294967296 ^ i = 0 := Nat.div_eq_of_lt (Nat.lt_of_lt_of_le (dl_lt b32 n) (Nat.pow_le_pow_right (by decide) (by omega)))
    rw [e]; rfl
theorem clip_eq (N : Nat) (xs : List Int) : fn_nat_N_uint32 N xs = some xs := by
  unfold fn_nat_N_uint32
  rw [leI_t (Int.le_refl 0), leI_t (by omega), leI_t (Int.le_refl _)]
  simp
/-- what a number becomes that may be too long -/
def bnd32 (n : Nat) : List Int × Option Int := if dl 4294967296 n ≤ 8192 then (Y n, none) else ([], some 2)
theorem bounded_eq (N k n : Nat) (hk : k < 4611686018427387904) (hN : k < N) (hn : n < 4294967296 ^ k) : fn_nat_bounded N (T 4294967296 k n) = some (bnd32 n) := by
  unfold fn_nat_bounded bnd32
  rw [trim_eq N k n hk hN hn, Option.bind_some, D_len]
  by_cases h : dl 4294967296 n ≤ 8192
  · rw [ltI_f (by omega), cond_false, clip_eq, if_pos h, Option.bind_some]
  · rw [ltI_t (by omega), cond_true, if_neg h]
theorem bounded_Y (N n : Nat) (hN : dl 4294967296 n < N) (hN2 : N < 4611686018427387904) : fn_nat_bounded N (Y n) = some (bnd32 n) := bounded_eq N _ n (by omega) hN (dl_lt b32 n)
theorem add_loop (N m n L : Nat) (hL : m + n < 4294967296 ^ L) (hN : L < N) (hN2 : N < 17592186044416) : ∀ (r i f : Nat), i + r = L → r < f →
    l27_0 N f (Y m) (Y n) (car m n i : Int) (L : Int) (i : Int) (T 4294967296 L ((m + n) % 4294967296 ^ i)) = some (bnd32 (m + n)) := by
  intro r
  induction r with
  | zero =>
    intro i f hi hf
    obtain ⟨f, rfl⟩ : ∃ n', f = n' + 1 := ⟨f - 1, by omega⟩
    show s27_0 N _ _ _ _ _ _ _ = _
    unfold s27_0
    have : i = L := by omega
    subst this
    rw [ltI_f (by omega), cond_false, Nat.mod_eq_of_lt hL, bounded_eq N _ _ (by omega) hN hL, Option.bind_some]
  | succ r ih =>
    intro i f hi hf
    obtain ⟨f, rfl⟩ : ∃ n', f = n' + 1 := ⟨f - 1, by omega⟩
    show s27_0 N (l27_0 N f) _ _ _ _ _ _ = _
    unfold s27_0
    have hc := car_lt m n i
    have h1 := Nat.mod_lt (m / 4294967296 ^ i) (show 0 < 4294967296 by decide)
    have h2 := Nat.mod_lt (n / 4294967296 ^ i) (show 0 < 4294967296 by decide)
    have hs := car_succ m n i
    have hd := sum_div m n i
    rw [ltI_t (by omega), cond_true, at_eq, at_eq, Option.bind_some, Option.bind_some, leI_t (by omega), cond_true, T_len, ltI_t (by omega), cond_true, succI i (by omega), addN (a := m / 4294967296 ^ i % 4294967296) (by simp only [lim]; omega), addN (by simp only [lim]; omega)]
    have e1 : shrI .u64 ((car m n i + (m / 4294967296 ^ i % 4294967296 + n / 4294967296 ^ i % 4294967296) : Nat) : Int) 32 = ((car m n (i + 1) : Nat) : Int) := by
      rw [show (32 : Int) = ((32 : Nat) : Int) from rfl, shrN (by decide), hs, Nat.add_assoc]
    have e2 : cvI .u32 ((car m n i + (m / 4294967296 ^ i % 4294967296 + n / 4294967296 ^ i % 4294967296) : Nat) : Int) = (((m + n) / 4294967296 ^ i % 4294967296 : Nat) : Int) := by
      rw [cvU32, hd]; congr 1; omega
    rw [e1, e2, Int.toNat_natCast, T_put b32 (by omega)]
    exact ih (i + 1) f (by omega) (by omega)
theorem add_eq (N m n : Nat) (hm : dl 4294967296 m ≤ 8192) (hn : dl 4294967296 n ≤ 8192) (hN : 8194 < N) (hN2 : N < 17592186044416) : fn_nat_Add N (Y m) (Y n) = some (bnd32 (m + n)) := by
  unfold fn_nat_Add t27
  have e1 : addI .i64 (maxI (dl 4294967296 m : Int) (dl 4294967296 n : Int)) 1 = ((max (dl 4294967296 m) (dl 4294967296 n) + 1 : Nat) : Int) := by rw [maxN, succI _ (by omega)]
  rw [both_Y N m n hm hn, Option.bind_some, D_len, D_len, e1, show isNoneI none = true from rfl, Bool.not_true, cond_false, leI_t (by omega), cond_true, leI_t (by omega), cond_true, Int.toNat_natCast, List.length_replicate]
  generalize hL : max (dl 4294967296 m) (dl 4294967296 n) = L
  have lt : m + n < 4294967296 ^ (L + 1) := by
    have hm2 : m < 4294967296 ^ L := Nat.lt_of_lt_of_le (dl_lt b32 m) (Nat.pow_le_pow_right (by decide) (by omega))
    have hn2 : n < 4294967296 ^ L := Nat.lt_of_lt_of_le (dl_lt b32 n) (Nat.pow_le_pow_right (by decide) (by omega))
    rw [Nat.pow_succ]; omega
  have h := add_loop N m n (L + 1) lt (by omega) hN2 (L + 1) 0 N (by omega) (by omega)
  have hc : car m n 0 = 0 := by unfold car; simp [Nat.mod_one]
  rw [hc, Nat.pow_zero, Nat.mod_one, T_nought (by decide), show ((0 : Nat) : Int) = 0 from rfl] at h
  exact h
theorem add_bad (N : Nat) (xs ys : List Int) (h : fn_nat_both N xs ys = some (some 1)) : fn_nat_Add N xs ys = some ([], some 1) := by
  unfold fn_nat_Add t27
  rw [h, Option.bind_some]; rfl
theorem cmp_loop (N m n L : Nat) (hm : dl 4294967296 m = L) (hn : dl 4294967296 n = L) : ∀ (j f : Nat), j ≤ L → j < 4611686018427387904 → j < f → m / 4294967296 ^ j = n / 4294967296 ^ j → l51_0 N f (Y m) (Y n) ((j : Int) - 1) = some (cmpZ m n) := by
  intro j
  induction j with
  | zero =>
    intro f _ _ hf h
    obtain ⟨f, rfl⟩ : ∃ n', f = n' + 1 := ⟨f - 1, by omega⟩
    have : m = n := by simpa using h
    subst this
    show s51_0 N _ _ _ _ = _
    unfold s51_0
    rw [leI_f (by omega), cond_false]; simp [cmpZ]
  | succ j ih =>
    intro f hj hj2 hf h
    obtain ⟨f, rfl⟩ : ∃ n', f = n' + 1 := ⟨f - 1, by omega⟩
    show s51_0 N (l51_0 N f) _ _ _ = _
    unfold s51_0
    have e0 : ((j + 1 : Nat) : Int) - 1 = (j : Int) := by omega
    have e1 : subI .i64 (j : Int) 1 = (j : Int) - 1 := subI_i (by omega) (by omega)
    rw [e0, e1, D_len, D_len, leI_t (by omega), hm, hn, ltI_t (show (j : Int) < (L : Int) by omega)]
    simp only [cond_true]
    rw [lrd_D b32, lrd_D b32]
    have hm := Nat.div_add_mod (m / 4294967296 ^ j) 4294967296
    have hn := Nat.div_add_mod (n / 4294967296 ^ j) 4294967296
    rw [Nat.div_div_eq_div_mul, ← Nat.pow_succ] at hm hn
    rw [h] at hm
    have lt : ∀ {a b : Nat}, a / 4294967296 ^ j < b / 4294967296 ^ j → a < b := fun {a b} h => by
      apply Nat.lt_of_not_le; intro h2; exact absurd (Nat.div_le_div_right (c := 4294967296 ^ j) h2) (by omega)
    have lt1 := lt (a := m) (b := n)
    have lt2 := lt (a := n) (b := m)
    have ih := fun h => ih f (by omega) (by omega) (by omega) h
    generalize m / 4294967296 ^ j = A at *
    generalize n / 4294967296 ^ j = B at *
    generalize n / 4294967296 ^ (j + 1) = C at *
    by_cases h1 : A % 4294967296 < B % 4294967296
    · rw [ltI_t (by omega), cond_true]
      have := lt1 (by omega)
      simp [cmpZ, this]
    · rw [ltI_f (by omega), cond_false]
      by_cases h2 : B % 4294967296 < A % 4294967296
      · rw [ltI_t (by omega), cond_true]
        have := lt2 (by omega)
        simp [cmpZ, this, show ¬ m < n by omega]
      · rw [ltI_f (by omega), cond_false]
        exact ih (by omega)
theorem dl_mono {m n : Nat} (h : dl 4294967296 m < dl 4294967296 n) : m < n := by
  apply Nat.lt_of_not_le
  intro h2
  have := dl_le b32 (Nat.lt_of_le_of_lt h2 (dl_lt b32 m))
  omega
theorem compare_eq (N m n : Nat) (hm : dl 4294967296 m < N) (hN : N < 4611686018427387904) : fn_nat_compare N (Y m) (Y n) = some (cmpZ m n) := by
  unfold fn_nat_compare t51
  rw [D_len, D_len]
  by_cases h : dl 4294967296 m = dl 4294967296 n
  · rw [eqI_t (by omega)]
    simp only [Bool.not_true, cond_false]
    rw [show subI .i64 (dl 4294967296 m : Int) 1 = (dl 4294967296 m : Int) - 1 from subI_i (by omega) (by omega)]
    refine cmp_loop N m n _ rfl h.symm _ N (Nat.le_refl _) (by omega) hm ?_
    rw [Nat.div_eq_of_lt (dl_lt b32 m), h, Nat.div_eq_of_lt (dl_lt b32 n)]
  · rw [eqI_f (by omega)]
    simp only [Bool.not_false, cond_true]
    by_cases h2 : dl 4294967296 m < dl 4294967296 n
    · have := dl_mono h2
      rw [ltI_t (by omega), cond_true]; simp [cmpZ, this]
    · have := dl_mono (show dl 4294967296 n < dl 4294967296 m by omega)
      rw [ltI_f (by omega), cond_false]; simp [cmpZ, this, show ¬ m < n by omega]
theorem less_loop (N m n L : Nat) (h : n ≤ m) (hL : m < 4294967296 ^ L) (hN : L < N) (hN2 : N < 17592186044416) : ∀ (r i f : Nat), i + r = L → r < f →
    l52_0 N f (Y m) (Y n) (brw m n i : Int) (L : Int) (i : Int) (T 4294967296 L ((m - n) % 4294967296 ^ i)) = some (Y (m - n)) := by
  intro r
  induction r with
  | zero =>
    intro i f hi hf
    obtain ⟨f, rfl⟩ : ∃ n', f = n' + 1 := ⟨f - 1, by omega⟩
    show s52_0 N _ _ _ _ _ _ _ = _
    unfold s52_0
    have : i = L := by omega
    subst this
    have hlt : m - n < 4294967296 ^ i := Nat.lt_of_le_of_lt (Nat.sub_le _ _) hL
    rw [ltI_f (by omega), cond_false, Nat.mod_eq_of_lt hlt, trim_eq N _ _ (by omega) hN hlt, Option.bind_some]
  | succ r ih =>
    intro i f hi hf
    obtain ⟨f, rfl⟩ : ∃ n', f = n' + 1 := ⟨f - 1, by omega⟩
    show s52_0 N (l52_0 N f) _ _ _ _ _ _ = _
    unfold s52_0
    have hb := brw_lt m n i
    have hs := brw_succ m n i
    have hd := sub_div m n i h
    have h1 := Nat.mod_lt (m / 4294967296 ^ i) (show 0 < 4294967296 by decide)
    have h2 := Nat.mod_lt (n / 4294967296 ^ i) (show 0 < 4294967296 by decide)
    have dig : (m - n) / 4294967296 ^ i % 4294967296 = (4294967296 + m / 4294967296 ^ i % 4294967296 - n / 4294967296 ^ i % 4294967296 - brw m n i) % 4294967296 := by omega
    rw [ltI_t (by omega), cond_true, at_eq, at_eq, Option.bind_some, Option.bind_some, leI_t (by omega), cond_true, T_len, ltI_t (by omega), cond_true, succI i (by omega)]
    have e0 : subI .u64 (subI .u64 ((m / 4294967296 ^ i % 4294967296 : Nat) : Int) ((n / 4294967296 ^ i % 4294967296 : Nat) : Int)) (brw m n i : Int) =
        (((18446744073709551616 + m / 4294967296 ^ i % 4294967296 - n / 4294967296 ^ i % 4294967296 - brw m n i) % 18446744073709551616 : Nat) : Int) := by
      unfold subI; rw [wrap_u64, wrap_u64]; omega
    rw [e0]
    have e1 : shrI .u64 (((18446744073709551616 + m / 4294967296 ^ i % 4294967296 - n / 4294967296 ^ i % 4294967296 - brw m n i) % 18446744073709551616 : Nat) : Int) 63 = (brw m n (i + 1) : Int) := by
      rw [show (63 : Int) = ((63 : Nat) : Int) from rfl, shrN (by decide), hs]
      congr 1
      omega
    have e2 : cvI .u32 (((18446744073709551616 + m / 4294967296 ^ i % 4294967296 - n / 4294967296 ^ i % 4294967296 - brw m n i) % 18446744073709551616 : Nat) : Int) = (((m - n) / 4294967296 ^ i % 4294967296 : Nat) : Int) := by
      rw [cvU32, dig]; congr 1; omega
    rw [e1, e2, Int.toNat_natCast, T_put b32 (by omega)]
    exact ih (i + 1) f (by omega) (by omega)
theorem less_eq (N m n : Nat) (h : n ≤ m) (hN : dl 4294967296 m < N) (hN2 : N < 17592186044416) : fn_nat_less N (Y m) (Y n) = some (Y (m - n)) := by
  unfold fn_nat_less t52
  rw [D_len, leI_t (by omega), cond_true, leI_t (by omega), cond_true, Int.toNat_natCast, List.length_replicate]
  have h := less_loop N m n _ h (dl_lt b32 m) hN hN2 (dl 4294967296 m) 0 N (by omega) (by omega)
  have hc : brw m n 0 = 0 := by unfold brw; simp [Nat.mod_one]
  rw [hc, Nat.pow_zero, Nat.mod_one, T_nought (by decide)] at h
  exact h
theorem cmpZ_lt {m n : Nat} : ltI (cmpZ m n) 0 = decide (m < n) := by unfold cmpZ; split <;> rename_i h <;> (try split) <;> simp [h, ltI]
theorem sub_eq (N m n : Nat) (hm : dl 4294967296 m ≤ 8192) (hn : dl 4294967296 n ≤ 8192) (hN : 8194 < N) (hN2 : N < 17592186044416) : fn_nat_Sub N (Y m) (Y n) = some (if m < n then ([], some 4) else (Y (m - n), none)) := by
  unfold fn_nat_Sub
  rw [both_Y N m n hm hn, Option.bind_some, compare_eq N m n (by omega) (by omega), Option.bind_some, cmpZ_lt]
  simp only [isNoneI, Bool.not_true, cond_false]
  by_cases h : m < n
  · rw [decide_eq_true h, cond_true, if_pos h]
  · have hd : dl 4294967296 (m - n) ≤ dl 4294967296 m := dl_le b32 (Nat.lt_of_le_of_lt (Nat.sub_le _ _) (dl_lt b32 m))
    rw [decide_eq_false h, cond_false, if_neg h, less_eq N m n (by omega) (by omega) hN2, Option.bind_some, bounded_Y N _ (by omega) (by omega), Option.bind_some, bnd32, if_pos (by omega)]
theorem sub_bad (N : Nat) (xs ys : List Int) (h : fn_nat_both N xs ys = some (some 1)) : fn_nat_Sub N xs ys = some ([], some 1) := by
  unfold fn_nat_Sub
  rw [h, Option.bind_some]; rfl
/-! ### the law's own words -/
theorem words_loop (N : Nat) (xs ys : List Int) (hl : xs.length = ys.length) (hN : xs.length < 4611686018427387904) : ∀ (r i f : Nat), i + r = xs.length → r < f → xs.take i = ys.take i →
    l13_0 N f xs ys (i : Int) = some (decide (xs = ys)) := by
  intro r
  induction r with
  | zero =>
    intro i f hi hf he
    obtain ⟨f, rfl⟩ : ∃ n', f = n' + 1 := ⟨f - 1, by omega⟩
    show s13_0 N _ _ _ _ = _
    unfold s13_0
    rw [ltI_f (by omega), cond_false, decide_eq_true]
    rw [List.take_of_length_le (by omega), List.take_of_length_le (by omega)] at he
    exact he
  | succ r ih =>
    intro i f hi hf he
    obtain ⟨f, rfl⟩ : ∃ n', f = n' + 1 := ⟨f - 1, by omega⟩
    show s13_0 N (l13_0 N f) _ _ _ = _
    unfold s13_0
    have h1 : i < xs.length := by omega
    have h2 : i < ys.length := by omega
    have g1 : lrd xs (i : Int) = xs[i] := by unfold lrd; simp [List.getD_eq_getElem?_getD, h1]
    have g2 : lrd ys (i : Int) = ys[i] := by unfold lrd; simp [List.getD_eq_getElem?_getD, h2]
    rw [ltI_t (by omega), cond_true, leI_t (by omega), ltI_t (show (i : Int) < (ys.length : Int) by omega), g1, g2, succI i (by omega)]
    simp only [cond_true]
    by_cases h : xs[i] = ys[i]
    · rw [eqI_t h]
      simp only [Bool.not_true, cond_false]
      refine ih (i + 1) f (by omega) (by omega) ?_
      rw [List.take_add_one, List.take_add_one, he, List.getElem?_eq_getElem h1, List.getElem?_eq_getElem h2, h]
    · rw [eqI_f h]
      simp only [Bool.not_false, cond_true]
      rw [decide_eq_false]
      intro e; subst e; exact h rfl
theorem words_eq (N : Nat) (xs ys : List Int) (h1 : xs.length < N) (hN : N < 4611686018427387904) : fn_tillerlaw02_words N xs ys = some (decide (xs = ys)) := by
  unfold fn_tillerlaw02_words t13
  by_cases h : xs.length = ys.length
  · rw [eqI_t (by omega)]
    simp only [Bool.not_true, cond_false]
    exact words_loop N xs ys h (by omega) xs.length 0 N (by omega) h1 rfl
  · rw [eqI_f (by omega)]
    simp only [Bool.not_false, cond_true]
    rw [decide_eq_false]
    intro e; rw [e] at h; exact h rfl
theorem words_Y (N m n : Nat) (h1 : dl 4294967296 m < N) (hN : N < 4611686018427387904) : fn_tillerlaw02_words N (Y m) (Y n) = some (decide (m = n)) := by
  rw [words_eq N _ _ (by rw [D_len]; exact h1) hN]
  congr 1
  by_cases h : m = n
  · rw [h]; simp
  · rw [decide_eq_false h, decide_eq_false (fun e => h (D_inj b32 e))]
end Go.Proofs.YtoihjgfnocimjaaDoor.Nt

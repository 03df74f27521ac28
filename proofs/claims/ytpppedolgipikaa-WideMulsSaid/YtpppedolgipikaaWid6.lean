/- PLAIN FACTS on chapter 1's functions: how many bits a number has, the document's own and the program's; one bit; a small number. No statement is proved here. -/
import Derived.Test.YtpppedolgipikaaWid5
namespace Go.Proofs.Ytpppedolgipikaa.Wid
open Go Go.RowKit Go.Proofs.Ytpppedolgipikaa.Eng Go.Proofs.Ytpppedolgipikaa.Fns Go.Proofs.Ytpppedolgipikaa.Bw
set_option linter.unusedVariables false
set_option linter.unusedSimpArgs false
def lenN (x : Nat) : Nat := if x = 0 then 0 else Nat.log2 x + 1
theorem lenU {x n : Nat} (h1 : x < 2 ^ n) (h2 : n = 0 ∨ 2 ^ (n - 1) ≤ x) : lenN x = n := by
  unfold lenN
  rcases n with _ | m
  · have : x = 0 := by simpa using h1
    simp [this]
  · have h3 : 2 ^ m ≤ x := by simpa using h2
    have h4 : x ≠ 0 := by have := pow_pos' m; omega
    rw [if_neg h4, (Nat.log2_eq_iff h4).2 ⟨h3, h1⟩]
theorem lenN_spec (x : Nat) : x < 2 ^ lenN x ∧ (lenN x = 0 ∨ 2 ^ (lenN x - 1) ≤ x) := by
  unfold lenN
  by_cases h : x = 0
  · simp [h]
  · rw [if_neg h]
    obtain ⟨h1, h2⟩ := (Nat.log2_eq_iff h).1 rfl
    exact ⟨h2, .inr (by simpa using h1)⟩
theorem lenN_le {x n : Nat} (h : x < 2 ^ n) : lenN x ≤ n := by
  obtain ⟨_, h2⟩ := lenN_spec x
  rcases h2 with h2 | h2
  · omega
  · apply Nat.le_of_not_lt
    intro h3
    have := Nat.pow_le_pow_right (show 0 < 2 by decide) (show n ≤ lenN x - 1 by omega)
    omega
theorem lenN_shift {x k : Nat} (h : x / 2 ^ k ≠ 0) : lenN x = k + lenN (x / 2 ^ k) := by
  obtain ⟨h1, h2⟩ := lenN_spec (x / 2 ^ k)
  have h3 : lenN (x / 2 ^ k) ≠ 0 := fun h4 => by rw [h4, Nat.pow_zero] at h1; exact h (Nat.lt_one_iff.1 h1)
  apply lenU
  · rw [Nat.pow_add, Nat.mul_comm]
    exact (Nat.div_lt_iff_lt_mul (pow_pos' k)).1 h1
  · right
    have h5 : 2 ^ (lenN (x / 2 ^ k) - 1) ≤ x / 2 ^ k := by omega
    rw [show k + lenN (x / 2 ^ k) - 1 = (lenN (x / 2 ^ k) - 1) + k by omega, Nat.pow_add]
    exact (Nat.le_div_iff_mul_le (pow_pos' k)).1 h5
theorem tb_all : ((List.range 256).all fun b => sAt str0 (b : Int) == (lenN b : Int)) = true := by decide +kernel
theorem tb_eq (b : Nat) (h : b < 256) : sAt str0 (b : Int) = (lenN b : Int) := by
  have := List.all_eq_true.1 tb_all b (by simpa using h)
  simpa using this
theorem str_size : (str0.size : Int) = 256 := by decide +kernel
theorem wrap_u8 (a : Int) : IntKind.u8.wrap a = a % 256 := by simp [IntKind.wrap, IntKind.bits, IntKind.signed]
theorem fin8 (b c : Nat) (hb : b < 256) (hc : c ≤ 56) : cond (leI 0 (cvI .u8 (b : Int))) (cond (ltI (cvI .u8 (b : Int)) (str0.size : Int)) (some (addI .i64 (c : Int) (cvI .i64 (sAt str0 (cvI .u8 (b : Int)))))) none) none = some ((c + lenN b : Nat) : Int) := by
  have e : cvI .u8 (b : Int) = (b : Int) := by unfold cvI; rw [wrap_u8]; omega
  have hl := lenN_le (show b < 2 ^ 8 from hb)
  rw [e, str_size, leI_t (by omega), cond_true, ltI_t (by omega), cond_true, tb_eq b hb, cvI_i (by omega) (by omega), addI_i (by omega) (by omega)]
  rfl
theorem ge_n (c x : Nat) : leI ((c : Nat) : Int) (x : Int) = decide (c ≤ x) := le_n
theorem len64_eq (N x : Nat) (hx : x < 2 ^ 64) : fn_bits_Len64 N (x : Int) = some (lenN x : Int) := by
  have s32 : ∀ y : Nat, shrI .u64 (y : Int) 32 = ((y / 2 ^ 32 : Nat) : Int) := fun y => shrI_n (k := .u64) (show 32 ≤ 64 by decide)
  have s16 : ∀ y : Nat, shrI .u64 (y : Int) 16 = ((y / 2 ^ 16 : Nat) : Int) := fun y => shrI_n (k := .u64) (show 16 ≤ 64 by decide)
  have s8 : ∀ y : Nat, shrI .u64 (y : Int) 8 = ((y / 2 ^ 8 : Nat) : Int) := fun y => shrI_n (k := .u64) (show 8 ≤ 64 by decide)
  have g1 : leI 4294967296 (x : Int) = decide (2 ^ 32 ≤ x) := ge_n (2 ^ 32) x
  have g2 : ∀ y : Nat, leI 65536 (y : Int) = decide (2 ^ 16 ≤ y) := ge_n (2 ^ 16)
  have g3 : ∀ y : Nat, leI 256 (y : Int) = decide (2 ^ 8 ≤ y) := ge_n (2 ^ 8)
  unfold fn_bits_Len64
  simp only [s32, s16, s8, g1, g2, g3]
  have a1 : addI .i64 (addI .i64 (addI .i64 32 16) 8) = addI .i64 ((56 : Nat) : Int) := rfl
  have a2 : addI .i64 (addI .i64 32 16) = addI .i64 ((48 : Nat) : Int) := rfl
  have a3 : addI .i64 (addI .i64 32 8) = addI .i64 ((40 : Nat) : Int) := rfl
  have a4 : addI .i64 (32 : Int) = addI .i64 ((32 : Nat) : Int) := rfl
  have a5 : addI .i64 (addI .i64 (addI .i64 0 16) 8) = addI .i64 ((24 : Nat) : Int) := rfl
  have a6 : addI .i64 (addI .i64 0 16) = addI .i64 ((16 : Nat) : Int) := rfl
  have a7 : addI .i64 (addI .i64 0 8) = addI .i64 ((8 : Nat) : Int) := rfl
  have a8 : addI .i64 (0 : Int) = addI .i64 ((0 : Nat) : Int) := rfl
  by_cases h1 : 2 ^ 32 ≤ x
  · rw [decide_eq_true h1, cond_true]
    by_cases h2 : 2 ^ 16 ≤ x / 2 ^ 32
    · rw [decide_eq_true h2, cond_true]
      by_cases h3 : 2 ^ 8 ≤ x / 2 ^ 32 / 2 ^ 16
      · rw [decide_eq_true h3, cond_true, a1, fin8 _ _ (by omega) (by omega), Nat.div_div_eq_div_mul, Nat.div_div_eq_div_mul, lenN_shift (x := x) (k := 56) (by omega)]
      · rw [decide_eq_false h3, cond_false, a2, fin8 _ _ (by omega) (by omega), Nat.div_div_eq_div_mul, lenN_shift (x := x) (k := 48) (by omega)]
    · rw [decide_eq_false h2, cond_false]
      by_cases h3 : 2 ^ 8 ≤ x / 2 ^ 32
      · rw [decide_eq_true h3, cond_true, a3, fin8 _ _ (by omega) (by omega), Nat.div_div_eq_div_mul, lenN_shift (x := x) (k := 40) (by omega)]
      · rw [decide_eq_false h3, cond_false, a4, fin8 _ _ (by omega) (by omega), lenN_shift (x := x) (k := 32) (by omega)]
  · rw [decide_eq_false h1, cond_false]
    by_cases h2 : 2 ^ 16 ≤ x
    · rw [decide_eq_true h2, cond_true]
      by_cases h3 : 2 ^ 8 ≤ x / 2 ^ 16
      · rw [decide_eq_true h3, cond_true, a5, fin8 _ _ (by omega) (by omega), Nat.div_div_eq_div_mul, lenN_shift (x := x) (k := 24) (by omega)]
      · rw [decide_eq_false h3, cond_false, a6, fin8 _ _ (by omega) (by omega), lenN_shift (x := x) (k := 16) (by omega)]
    · rw [decide_eq_false h2, cond_false]
      by_cases h3 : 2 ^ 8 ≤ x
      · rw [decide_eq_true h3, cond_true, a7, fin8 _ _ (by omega) (by omega), lenN_shift (x := x) (k := 8) (by omega)]
      · rw [decide_eq_false h3, cond_false, a8, fin8 _ _ (by omega) (by omega), Nat.zero_add]
theorem len_loop (N x : Nat) : ∀ i n : Nat, i ≤ 4 → i < n → x < 2 ^ (64 * i) → l16_0 N n ((i : Int) - 1) (W x) = some (lenN x : Int) := by
  intro i
  induction i with
  | zero =>
    intro n _ hn hx
    obtain ⟨n, rfl⟩ : ∃ n', n = n' + 1 := ⟨n - 1, by omega⟩
    show s16_0 N _ _ _ = _
    unfold s16_0
    have : x = 0 := by simpa using hx
    rw [leI_f (by omega), cond_false, this]; rfl
  | succ i ih =>
    intro n hi hn hx
    obtain ⟨n, rfl⟩ : ∃ n', n = n' + 1 := ⟨n - 1, by omega⟩
    show s16_0 N (l16_0 N n) _ _ = _
    unfold s16_0
    have e : ((i + 1 : Nat) : Int) - 1 = (i : Int) := by omega
    have hq : x / 2 ^ (64 * i) < 2 ^ 64 := by rw [Nat.div_lt_iff_lt_mul (pow_pos' _), ← Nat.pow_add, Nat.add_comm]; exact hx
    rw [e]
    simp only [leI_t (show (0 : Int) ≤ i by omega), ltI_t (show (i : Int) < 4 by omega), cond_true, rd_W (show i < 4 by omega)]
    rw [Nat.mod_eq_of_lt hq, show (0 : Int) = ((0 : Nat) : Int) from rfl, eq_n]
    by_cases h : x / 2 ^ (64 * i) = 0
    · rw [decide_eq_true h, Bool.not_true, cond_false, subI_i (by omega) (by omega)]
      refine ih n (by omega) (by omega) ?_
      have := (Nat.div_eq_zero_iff).1 h
      rcases this with h2 | h2
      · exact absurd h2 (Nat.ne_of_gt (pow_pos' _))
      · exact h2
    · have hl := lenN_le hq
      rw [decide_eq_false h, Bool.not_false, cond_true, len64_eq N _ hq, Option.bind_some, lenN_shift h, mulI_i (by omega) (by omega), addI_i (by omega) (by omega)]
      rfl
theorem len_eq (N : Nat) (hN : 300 ≤ N) (x : Nat) (hx : x < 2 ^ 256) : fn_wide_Len N (W x) = some (lenN x : Int) := by
  unfold fn_wide_Len t16
  exact len_loop N x 4 N (by omega) (by omega) hx
theorem refLen_loop (N x : Nat) : ∀ i n : Nat, i ≤ 256 → i < n → x < 2 ^ i → l17_0 N n (i : Int) (B x) = some (lenN x : Int) := by
  intro i
  induction i with
  | zero =>
    intro n _ hn hx
    obtain ⟨n, rfl⟩ : ∃ n', n = n' + 1 := ⟨n - 1, by omega⟩
    show s17_0 N _ _ _ = _
    unfold s17_0
    have : x = 0 := by simpa using hx
    rw [ltI_f (by omega), cond_false, this]; rfl
  | succ i ih =>
    intro n hi hn hx
    obtain ⟨n, rfl⟩ : ∃ n', n = n' + 1 := ⟨n - 1, by omega⟩
    show s17_0 N (l17_0 N n) _ _ = _
    unfold s17_0
    have e : subI .i64 ((i + 1 : Nat) : Int) 1 = (i : Int) := by rw [subI_i (by omega) (by omega)]; omega
    rw [e, ltI_t (by omega), cond_true, leI_t (by omega), cond_true, ltI_t (by omega), cond_true]
    have hr : Vec.rd (B x) (i : Int) = (bitN x i : Int) := by rw [B, rd_tab (by omega)]
    rw [hr, show (0 : Int) = ((0 : Nat) : Int) from rfl, eq_n]
    have hq : x / 2 ^ i < 2 := by rw [Nat.div_lt_iff_lt_mul (pow_pos' _), Nat.mul_comm, ← Nat.pow_succ]; exact hx
    by_cases h : bitN x i = 0
    · rw [decide_eq_true h, cond_true]
      refine ih n (by omega) (by omega) ?_
      unfold bitN at h
      have h0 : x / 2 ^ i = 0 := by
        generalize x / 2 ^ i = y at *
        omega
      rcases (Nat.div_eq_zero_iff).1 h0 with h2 | h2
      · exact absurd h2 (Nat.ne_of_gt (pow_pos' _))
      · exact h2
    · rw [decide_eq_false h, cond_false]
      have h3 : 2 ^ i ≤ x := by
        apply Nat.le_of_not_lt; intro h4
        apply h; unfold bitN; rw [Nat.div_eq_of_lt h4]
      rw [lenU hx (.inr (by simpa using h3))]
theorem refLen_eq (N : Nat) (hN : 300 ≤ N) (x : Nat) (hx : x < 2 ^ 256) : fn_tillerref01_Len N (W x) = some (lenN x : Int) := by
  unfold fn_tillerref01_Len t17
  rw [bitsOf_eq N (by omega), Option.bind_some]
  exact refLen_loop N x 256 N (by omega) (by omega) hx
theorem wbit_eq (N x : Nat) (n : Int) : fn_wide_Bit N (W x) n = some (bitZ x n) := by
  unfold fn_wide_Bit bitZ
  by_cases h0 : n < 0
  · rw [ltI_t h0, cond_true, if_pos (.inl h0)]
  · rw [ltI_f h0, cond_false]
    by_cases h1 : 256 ≤ n
    · rw [leI_t h1, cond_true, if_pos (.inr (by omega))]
    · rw [leI_f h1, cond_false, if_neg (by omega)]
      obtain ⟨i, rfl⟩ := Int.eq_ofNat_of_zero_le (show 0 ≤ n by omega)
      rw [Int.toNat_natCast, show (64 : Int) = ((64 : Nat) : Int) from rfl, quoI_i (by omega), remI_n, leI_t (by omega), cond_true, ltI_t (by omega), cond_true, ltI_f (by omega), cond_false, rd_W (by omega), shrI_n (k := .u64) (show i % 64 ≤ 64 by omega)]
      have hw : x / 2 ^ (64 * (i / 64)) % 2 ^ 64 < 2 ^ 64 := Nat.mod_lt _ (by decide)
      rw [show (1 : Int) = ((1 : Nat) : Int) from rfl, andI_n (Nat.lt_of_le_of_lt (Nat.div_le_self ..) hw) (by decide), Nat.and_one_is_mod, bit_word (by omega), show 64 * (i / 64) + i % 64 = i by omega]
theorem bitZ_lt (x : Nat) (n : Int) : 0 ≤ bitZ x n ∧ bitZ x n ≤ 1 := by
  unfold bitZ; have := bit_lt x n.toNat
  split <;> omega
theorem of_small (N k : Nat) (hk : k < 2 ^ 64) : fn_wide_Of N (k : Int) = some (W k) := by
  unfold fn_wide_Of
  congr 1
  rw [zero_tab, show (0 : Int) = ((0 : Nat) : Int) from rfl, st_tab (by omega)]
  apply tab_congr
  intro i hi
  match i, hi with
  | 0, _ => simp; omega
  | 1, _ => simp; omega
  | 2, _ => simp; omega
  | 3, _ => simp; omega
end Go.Proofs.Ytpppedolgipikaa.Wid

/- PLAIN FACTS on chapter 3: a pattern's parts, its class, its signs: the program's and the reference's. No statement is proved here. -/
import Derived.Test.YtopcajgknbmbcaaGreatDoorFn2
import Derived.Test.YtopcajgknbmbcaaGreatDoorDig
import Derived.Laws.Bits64
namespace Go.Proofs.YtopcajgknbmbcaaGreatDoor.Patp
open Go Go.RowKit Go.Proofs.YtopcajgknbmbcaaGreatDoor.Eng Go.Proofs.YtopcajgknbmbcaaGreatDoor.Fns Go.Proofs.YtopcajgknbmbcaaGreatDoor.Bw Go.Proofs.YtopcajgknbmbcaaGreatDoor.Dig
set_option linter.unusedVariables false
set_option linter.unusedSimpArgs false
variable (N : Nat)
theorem abs_eq (a : Int) (h0 : 0 ≤ a) (h1 : a < 18446744073709551616) : fn_pat_Abs N a = some (a % 9223372036854775808) := by
  unfold fn_pat_Abs bicI; rw [andNot_sign a h0 h1]
def nanB (a : Int) : Bool := decide (9218868437227405312 < a % 9223372036854775808)
theorem nan_eq (a : Int) (h0 : 0 ≤ a) (h1 : a < 18446744073709551616) : fn_pat_IsNaN N a = some (nanB a) := by
  unfold fn_pat_IsNaN; rw [abs_eq N a h0 h1, Option.bind_some, ltI_eq]; rfl
def eN (a : Int) : Int := a / 4503599627370496 % 2048
def fN (a : Int) : Int := a % 4503599627370496
def clsR (a : Int) : Int := if eN a = 2047 then (if 2251799813685248 ≤ fN a then 4 else if 0 < fN a then 5 else 3) else if eN a = 0 then (if 0 < fN a then 1 else 0) else 2
def expR (a : Int) : Int := if eN a = 2047 then 0 else if eN a = 0 then -1074 else eN a - 1075
def sigR (a : Int) : Int := if eN a = 2047 then fN a else if eN a = 0 then fN a else fN a + 4503599627370496
theorem quo_pos {a : Int} (c : Nat) (h0 : 0 ≤ a) (h1 : a < 18446744073709551616) : quoI .u64 a (c : Int) = a / (c : Int) := by
  obtain ⟨n, rfl⟩ := Int.eq_ofNat_of_zero_le h0
  rw [quoN (by simp only [lim]; omega)]; rfl
theorem rem_pos {k : IntKind} {a : Int} (c : Nat) (h0 : 0 ≤ a) : remI k a (c : Int) = a % (c : Int) := by
  obtain ⟨n, rfl⟩ := Int.eq_ofNat_of_zero_le h0
  rfl
theorem takeP_eq (a : Int) (h0 : 0 ≤ a) (h1 : a < 18446744073709551616) : fn_pat_Take N a = some (decide (9223372036854775808 ≤ a), clsR a, expR a, sigR a) := by
  have e1 : shrI .u64 a 52 = a / 4503599627370496 := by
    obtain ⟨n, rfl⟩ := Int.eq_ofNat_of_zero_le h0
    rw [show (52 : Int) = ((52 : Nat) : Int) from rfl, shrN (by decide)]; rfl
  have wi : ∀ n : Int, 0 ≤ n → n < 2 ^ 63 → IntKind.i64.wrap n = n := fun n g0 g1 => by rw [wrap_i64]; omega
  have e2 : andI .i64 (cvI .i64 (a / 4503599627370496)) 2047 = eN a := by
    rw [cvI_i (by omega) (by omega)]
    exact bits_mask .i64 63 (by decide) wi 11 (by decide) _ (by omega) (by omega)
  have e3 : andI .u64 a 4503599627370495 = fN a := bits_mask .u64 64 (by decide) w64 52 (by decide) a h0 (by omega)
  have b2 : 0 ≤ fN a ∧ fN a < 4503599627370496 := by unfold fN; omega
  have b1 : 0 ≤ eN a ∧ eN a < 2048 := by unfold eN; omega
  have e4 : eqI (andI .u64 (fN a) 2251799813685248) 0 = !(decide (2251799813685248 ≤ fN a)) := by
    obtain ⟨n, hn⟩ := Int.eq_ofNat_of_zero_le b2.1
    rw [hn]
    have := and_pow 51 (by decide) n (by omega)
    unfold andI
    rw [show (2251799813685248 : Int) = ((2 ^ 51 : Nat) : Int) from rfl, this]
    by_cases h : n / 2 ^ 51 % 2 = 1
    · rw [if_pos h, decide_eq_true (by omega)]; rfl
    · rw [if_neg h, decide_eq_false (by omega)]; rfl
  have e5 : (!(eqI (andI .u64 a 9223372036854775808) 0)) = decide (9223372036854775808 ≤ a) := by
    unfold andI
    rw [and_sign a h0 h1, eqI_eq]
    by_cases h : a < 9223372036854775808
    · rw [if_pos h, decide_eq_true rfl, decide_eq_false (by omega)]; rfl
    · rw [if_neg h, decide_eq_false (by omega), decide_eq_true (by omega)]; rfl
  have e6 : orI .u64 (fN a) 4503599627370496 = fN a + 4503599627370496 := by
    obtain ⟨n, hn⟩ := Int.eq_ofNat_of_zero_le b2.1
    rw [hn, show (4503599627370496 : Int) = ((2 ^ 52 : Nat) : Int) from rfl, orI_n (by omega) (by decide), Nat.or_comm]
    have := Nat.two_pow_add_eq_or_of_lt (i := 52) (b := n) (by omega) 1
    rw [Nat.mul_one] at this
    rw [← this]; omega
  have e7 : subI .i64 (addI .i64 (eN a) (-1074)) 1 = eN a - 1075 := by rw [addI_i (by omega) (by omega), subI_i (by omega) (by omega)]; omega
  unfold fn_pat_Take clsR expR sigR
  rw [e1, e2, e3, e4, e5, e6, e7]
  have z1 : (eN a = 2047) ∨ (eN a ≠ 2047 ∧ eN a = 0) ∨ (eN a ≠ 2047 ∧ 0 < eN a) := by omega
  have z2 : (fN a = 0) ∨ (0 < fN a ∧ ¬ 2251799813685248 ≤ fN a) ∨ (0 < fN a ∧ 2251799813685248 ≤ fN a) := by omega
  simp only [cond_if, eqI_eq, ltI_eq, leI_eq, decide_eq_true_eq, Bool.not_eq_true', Bool.not_not, Bool.not_eq_eq_eq_not, Bool.not_true, decide_eq_false_iff_not]
  repeat' split
  all_goals first | rfl | (exfalso; omega) | skip
theorem finP_eq (a : Int) (h0 : 0 ≤ a) (h1 : a < 18446744073709551616) (hN : 0 < N) : fn_pat_Finite N a = some (decide (a % 9223372036854775808 < 9218868437227405312)) := by
  obtain ⟨k, rfl⟩ : ∃ k, N = k + 1 := ⟨N - 1, by omega⟩
  show fb_35 (k + 1) a = _
  unfold fb_35; rw [abs_eq (k + 1) a h0 h1, Option.bind_some, ltI_eq]
theorem clsP_eq (a : Int) (h0 : 0 ≤ a) (h1 : a < 18446744073709551616) : fn_pat_Class N a = some (clsR a) := by
  unfold fn_pat_Class; rw [takeP_eq N a h0 h1]; rfl
theorem xor_sign (a : Int) (h0 : 0 ≤ a) (h1 : a < 18446744073709551616) : xorI .u64 a 9223372036854775808 = if a < 9223372036854775808 then a + 9223372036854775808 else a - 9223372036854775808 := by
  obtain ⟨n, rfl⟩ := Int.eq_ofNat_of_zero_le h0
  have hn : n < 2 ^ 64 := by omega
  have e : xorI .u64 (n : Int) 9223372036854775808 = ((n ^^^ 2 ^ 63 : Nat) : Int) := by
    unfold xorI
    rw [show (9223372036854775808 : Int) = ((2 ^ 63 : Nat) : Int) from rfl]
    exact bits_xor_u64_nat n (2 ^ 63) (by omega) (by decide)
  rw [e]
  have key : n ^^^ 2 ^ 63 = if n < 2 ^ 63 then n + 2 ^ 63 else n - 2 ^ 63 := by
    apply Nat.eq_of_testBit_eq
    intro i
    have hb : (n ^^^ 2 ^ 63).testBit i = (n.testBit i ^^ decide (63 = i)) := by rw [Nat.testBit_xor, Nat.testBit_two_pow]
    rw [hb]
    by_cases h : n < 2 ^ 63
    · rw [if_pos h]
      have h2 := Nat.two_pow_add_eq_or_of_lt (i := 63) (b := n) h 1
      rw [Nat.mul_one, Nat.add_comm] at h2
      rw [h2, Nat.testBit_or, Nat.testBit_two_pow]
      by_cases hi : 63 = i
      · subst hi; rw [Nat.testBit_lt_two_pow h]; rfl
      · simp [hi]
    · rw [if_neg h]
      have hr : n - 2 ^ 63 < 2 ^ 63 := by omega
      have h2 := Nat.two_pow_add_eq_or_of_lt (i := 63) (b := n - 2 ^ 63) hr 1
      rw [Nat.mul_one, Nat.add_sub_cancel' (by omega)] at h2
      have h3 : n.testBit i = (decide (63 = i) || (n - 2 ^ 63).testBit i) := by
        conv => lhs; rw [h2]
        rw [Nat.testBit_or, Nat.testBit_two_pow]
      rw [h3]
      by_cases hi : 63 = i
      · subst hi; rw [Nat.testBit_lt_two_pow hr]; rfl
      · simp [hi]
  rw [key]
  split <;> rename_i hh <;> (first | rw [if_pos (by omega)] | rw [if_neg (by omega)]) <;> omega
theorem negP_eq (a : Int) (h0 : 0 ≤ a) (h1 : a < 18446744073709551616) : fn_pat_Neg N a = some (if a < 9223372036854775808 then a + 9223372036854775808 else a - 9223372036854775808) := by
  unfold fn_pat_Neg; rw [xor_sign a h0 h1]
theorem copyP_eq (a b : Int) (h0 : 0 ≤ a) (h1 : a < 18446744073709551616) (g0 : 0 ≤ b) (g1 : b < 18446744073709551616) : fn_pat_Copy N a b = some (if b < 9223372036854775808 then a % 9223372036854775808 else a % 9223372036854775808 + 9223372036854775808) := by
  unfold fn_pat_Copy
  rw [abs_eq N a h0 h1]
  simp only [Option.bind_some, andI]
  rw [and_sign b g0 g1]
  obtain ⟨n, hn⟩ := Int.eq_ofNat_of_zero_le (show 0 ≤ a % 9223372036854775808 by omega)
  rw [hn]
  have hlt : n < 2 ^ 63 := by omega
  by_cases h : b < 9223372036854775808
  · rw [if_pos h, if_pos h, show (0 : Int) = ((0 : Nat) : Int) from rfl, orI_n (by omega) (by decide), Nat.or_zero]
  · rw [if_neg h, if_neg h, show (9223372036854775808 : Int) = ((2 ^ 63 : Nat) : Int) from rfl, orI_n (by omega) (by decide), Nat.or_comm]
    have h2 := Nat.two_pow_add_eq_or_of_lt (i := 63) (b := n) hlt 1
    rw [Nat.mul_one] at h2
    rw [← h2]; congr 1; omega
end Go.Proofs.YtopcajgknbmbcaaGreatDoor.Patp

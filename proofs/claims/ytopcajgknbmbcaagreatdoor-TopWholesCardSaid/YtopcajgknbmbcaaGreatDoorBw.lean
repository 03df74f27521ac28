/- PLAIN LEMMAS on 64-bit words and on the evaluator's named operations: masks by powers of two, wraps, tests. No program, no statement. -/
import Derived.Test.YtopcajgknbmbcaaGreatDoorEng13
import Derived.Laws.BitsLemmas
namespace Go.Proofs.YtopcajgknbmbcaaGreatDoor.Bw
open Go Go.RowKit Go.Proofs.YtopcajgknbmbcaaGreatDoor.Eng
theorem nat_and_pow (n i : Nat) : n &&& 2 ^ i = if (n / 2 ^ i) % 2 = 1 then 2 ^ i else 0 := by
  apply Nat.eq_of_testBit_eq
  intro j
  rw [Nat.testBit_and, Nat.testBit_two_pow]
  by_cases h : i = j
  · subst h
    rw [Nat.testBit_eq_decide_div_mod_eq]
    by_cases h : n / 2 ^ i % 2 = 1 <;> simp [h]
  · by_cases h : n / 2 ^ i % 2 = 1 <;> simp [*]
theorem w64 (n : Int) (h0 : 0 ≤ n) (h1 : n < 2 ^ 64) : IntKind.u64.wrap n = n := by
  simp only [IntKind.wrap, IntKind.bits, IntKind.signed]; simp; omega
theorem and_pow (i : Nat) (hi : i < 64) (n : Nat) (h1 : n < 2 ^ 64) : bits .and .u64 n (2 ^ i : Nat) = if (n / 2 ^ i) % 2 = 1 then ((2 ^ i : Nat) : Int) else 0 := by
  rw [(bits_nat .u64 64 (by decide) w64 n (2^i) h1 (Nat.pow_lt_pow_right (by decide) hi)).1, nat_and_pow]
  split <;> rfl
theorem and_sign (a : Int) (h0 : 0 ≤ a) (h1 : a < 18446744073709551616) : bits .and .u64 a 9223372036854775808 = if a < 9223372036854775808 then 0 else 9223372036854775808 := by
  obtain ⟨n, rfl⟩ := Int.eq_ofNat_of_zero_le h0
  have := and_pow 63 (by decide) n (by omega)
  rw [show ((2 ^ 63 : Nat) : Int) = 9223372036854775808 from rfl] at this
  rw [this]
  by_cases h : n < 9223372036854775808
  · rw [if_pos (show (n : Int) < 9223372036854775808 by omega), if_neg (by omega)]
  · rw [if_neg (show ¬ (n : Int) < 9223372036854775808 by omega), if_pos (by omega)]
theorem andNot_sign (a : Int) (h0 : 0 ≤ a) (h1 : a < 18446744073709551616) : bits .andNot .u64 a 9223372036854775808 = a % 9223372036854775808 := by
  have e : bits .andNot .u64 a 9223372036854775808 = bits .and .u64 a (2^63 - 1) := by
    unfold bits; simp only [IntKind.bits]; congr 3
  rw [e, bits_mask .u64 64 (by decide) w64 63 (by decide) a h0 h1]; rfl
theorem or_zero (a b : Int) (h0 : 0 ≤ a) (h1 : a < 18446744073709551616) (g0 : 0 ≤ b) (g1 : b < 18446744073709551616) : bits .or .u64 a b = 0 ↔ a = 0 ∧ b = 0 := by
  obtain ⟨n, rfl⟩ := Int.eq_ofNat_of_zero_le h0
  obtain ⟨m, rfl⟩ := Int.eq_ofNat_of_zero_le g0
  rw [(bits_nat .u64 64 (by decide) w64 n m (by omega) (by omega)).2]
  have : n ||| m = 0 ↔ n = 0 ∧ m = 0 := Nat.or_eq_zero_iff
  omega
theorem u64_in {a : Int} (h : okN .u64 a) : 0 ≤ a ∧ a < 18446744073709551616 := by
  simp [okN, Lit.wf, IntKind.min, IntKind.max, IntKind.signed, IntKind.bits] at h; omega
theorem i64_in {a : Int} (h : okN .i64 a) : -9223372036854775808 ≤ a ∧ a < 9223372036854775808 := by
  simp [okN, Lit.wf, IntKind.min, IntKind.max, IntKind.signed, IntKind.bits] at h; omega
theorem u32_in {a : Int} (h : okN .u32 a) : 0 ≤ a ∧ a < 4294967296 := by
  simp [okN, Lit.wf, IntKind.min, IntKind.max, IntKind.signed, IntKind.bits] at h; omega
theorem wrap_u64 (a : Int) : IntKind.u64.wrap a = a % 18446744073709551616 := by
  simp [IntKind.wrap, IntKind.bits, IntKind.signed]
theorem wrap_i64 (a : Int) : IntKind.i64.wrap a = (a + 9223372036854775808) % 18446744073709551616 - 9223372036854775808 := by
  simp only [IntKind.wrap, IntKind.bits, IntKind.signed]; simp; split <;> omega
theorem wrap_u32 (a : Int) : IntKind.u32.wrap a = a % 4294967296 := by
  simp [IntKind.wrap, IntKind.bits, IntKind.signed]
theorem cond_if {α : Type} (b : Bool) (x y : α) : cond b x y = if b = true then x else y := by cases b <;> rfl
theorem eqI_iff {a b : Int} : eqI a b = true ↔ a = b := by simp [eqI]
theorem ltI_eq (a b : Int) : ltI a b = decide (a < b) := by
  cases h : ltI a b
  · exact (decide_eq_false (fun h2 => by rw [ltI_iff.2 h2] at h; cases h)).symm
  · exact (decide_eq_true (ltI_iff.1 h)).symm
theorem leI_eq (a b : Int) : leI a b = decide (a ≤ b) := rfl
theorem eqI_eq (a b : Int) : eqI a b = decide (a = b) := by cases h : eqI a b <;> simp [eqI] at h <;> simp [h]
theorem eqB_eq (a b : Bool) : eqB a b = decide (a = b) := by cases a <;> cases b <;> rfl
end Go.Proofs.YtopcajgknbmbcaaGreatDoor.Bw

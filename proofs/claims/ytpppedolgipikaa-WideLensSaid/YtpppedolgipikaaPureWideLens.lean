/- PROVED HERE: WideLens' pure statement, over the functions that eng.py printed: a number is below 2^Len, and not below half of that; its highest bit is set, and none above it; moved up it has so many more. No condition beyond the arguments' kinds. -/
import Derived.Test.YtpppedolgipikaaWid6
import Derived.Test.YtpppedolgipikaaFnWideLens
namespace Go.Proofs.Ytpppedolgipikaa
open Go Eng Fns Bw Wid
theorem pure_WideLens : ∀ (a0 : Vec 4) (a1 : Int), okL .u64 a0.1 → okN .i64 a1 → ∃ N, fn_tillerlaw01_WideLens N a0 a1 = some true := by
  intro a n ha hn
  obtain ⟨x, hx, rfl⟩ := W_all a ha
  refine ⟨300, ?_⟩
  unfold fn_tillerlaw01_WideLens
  rw [len_eq 300 (by omega) x hx, Option.bind_some, W_zero, W_eq hx (by decide)]
  by_cases h0 : x = 0
  · subst h0
    rw [decide_eq_true rfl, cond_true, sure_eq]; rfl
  · obtain ⟨l1, l2⟩ := lenN_spec x
    have l3 := lenN_le hx
    have l4 : lenN x ≠ 0 := fun h => by rw [h] at l1; simp at l1; exact h0 l1
    have l5 : 2 ^ (lenN x - 1) ≤ x := by omega
    generalize hk : lenN x = k at *
    have l6 : x < 2 ^ (k - 1) * 2 := by rw [← Nat.pow_succ, Nat.succ_eq_add_one, Nat.sub_add_cancel (by omega)]; exact l1
    have hq : x / 2 ^ (k - 1) = 1 := by
      apply Nat.div_eq_of_lt_le
      · omega
      · omega
    have e1 : subI .i64 (k : Int) 1 = ((k - 1 : Nat) : Int) := by rw [subI_i (by omega) (by omega)]; omega
    have e2 : subI .i64 257 (k : Int) = ((257 - k : Nat) : Int) := by rw [subI_i (by omega) (by omega)]; omega
    have e3 : cvI .u64 ((257 - k : Nat) : Int) = ((257 - k : Nat) : Int) := cvI_u (by omega) (by omega)
    have z1 : shrZ x ((k - 1 : Nat) : Int) = 1 := by
      unfold shrZ
      by_cases h1 : k = 1
      · subst h1; rw [if_pos (by omega)]; simpa using hq
      · rw [if_neg (by omega), Int.toNat_natCast, hq]
    have z2 : bitZ x ((k - 1 : Nat) : Int) = 1 := by
      unfold bitZ; rw [if_neg (by omega), Int.toNat_natCast]; unfold bitN; rw [hq]; rfl
    have z3 : bitZ x (k : Int) = 0 := by
      unfold bitZ
      split
      · rfl
      · rw [Int.toNat_natCast]; unfold bitN; rw [Nat.div_eq_of_lt l1]; rfl
    obtain ⟨m, hm, em⟩ : ∃ m : Nat, m < 257 - k ∧ cvI .i64 (remI .u64 (cvI .u64 n) ((257 - k : Nat) : Int)) = (m : Int) := by
      have h1 := i64_in hn
      have e : remI .u64 (cvI .u64 n) ((257 - k : Nat) : Int) = (n % 18446744073709551616) % ((257 - k : Nat) : Int) := by
        unfold remI cvI; rw [wrap_u64]
        exact Int.tmod_eq_emod_of_nonneg (by omega)
      have p1 := Int.emod_nonneg (n % 18446744073709551616) (show ((257 - k : Nat) : Int) ≠ 0 by omega)
      have p2 := Int.emod_lt_of_pos (n % 18446744073709551616) (show (0 : Int) < ((257 - k : Nat) : Int) by omega)
      refine ⟨((n % 18446744073709551616) % ((257 - k : Nat) : Int)).toNat, by omega, ?_⟩
      rw [e, cvI_i (by omega) (by omega)]; omega
    have hs : x * 2 ^ m < 2 ^ 256 := by
      calc x * 2 ^ m < 2 ^ k * 2 ^ m := Nat.mul_lt_mul_of_pos_right l1 (pow_pos' m)
        _ = 2 ^ (k + m) := by rw [Nat.pow_add]
        _ ≤ 2 ^ 256 := Nat.pow_le_pow_right (by decide) (by omega)
    have z4 : shlZ x (m : Int) = x * 2 ^ m := by
      unfold shlZ
      by_cases h1 : m = 0
      · subst h1; simp
      · rw [if_neg (by omega), if_neg (by omega), Int.toNat_natCast, Nat.mod_eq_of_lt hs]
    have z5 : lenN (x * 2 ^ m) = k + m := by
      apply lenU
      · rw [Nat.pow_add]; exact Nat.mul_lt_mul_of_pos_right l1 (pow_pos' m)
      · right
        rw [show k + m - 1 = (k - 1) + m by omega, Nat.pow_add]
        exact Nat.mul_le_mul_right _ l5
    have e4 : addI .i64 (k : Int) (m : Int) = ((k + m : Nat) : Int) := by rw [addI_i (by omega) (by omega)]; omega
    have e5 : fn_wide_Of 300 1 = some (W 1) := of_small 300 1 (by decide)
    have z6 : lostZ x ((k - 1 : Nat) : Int) = true → k ≠ 1 := by
      intro h1 h2; subst h2; simp [lostZ] at h1
    rw [decide_eq_false h0, cond_false, e1, e2, e3, shr_eq 300 (by omega) x hx, Option.bind_some, ltI_f (by omega), cond_false, ltI_f (by omega), cond_false, e5, Option.bind_some, z1, W_eq (by decide) (by decide), decide_eq_true rfl, Bool.not_true, cond_false, wbit_eq, Option.bind_some, z2, eqI_t rfl, Bool.not_true, cond_false, wbit_eq, Option.bind_some, z3, eqI_t rfl, Bool.not_true, cond_false]
    rw [em, eqI_f (show ¬ (((257 - k : Nat) : Int) = 0) by omega), cond_false, shl_eq 300 (by omega), Option.bind_some, z4, len_eq 300 (by omega) _ hs, Option.bind_some, z5, e4, eqI_t rfl, cond_true, sure_eq]
    cases hl : lostZ x ((k - 1 : Nat) : Int)
    · rfl
    · rw [cond_true, eqI_f (by have := z6 hl; omega)]; rfl
end Go.Proofs.Ytpppedolgipikaa

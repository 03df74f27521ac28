/- PROVED HERE: PatBack's pure statement, over the functions that eng2.py printed: the parts of a pattern make it again, and parts that make a pattern are its own. No condition beyond the arguments' kinds. -/
import Derived.Test.YtfcmenjachkleaaDoorPatp
import Derived.Test.YtfcmenjachkleaaDoorEng14
import Derived.Test.YtfcmenjachkleaaDoorFnPatBack
namespace Go.Proofs.YtfcmenjachkleaaDoor
open Go Eng Fns Bw Dig Patp
set_option linter.unusedSimpArgs false
theorem sure_eq : fn_tillerlaw03_sure 300 = some true := by kernel_rfl
theorem or_inf (f : Int) (h0 : 0 ≤ f) (h1 : f < 4503599627370496) (e : Nat) (he : e < 2048) : orI .u64 f ((e * 4503599627370496 : Nat) : Int) = f + ((e * 4503599627370496 : Nat) : Int) := by
  obtain ⟨n, rfl⟩ := Int.eq_ofNat_of_zero_le h0
  rw [orI_n (by omega) (by omega), Nat.or_comm]
  have := Nat.two_pow_add_eq_or_of_lt (i := 52) (b := n) (by omega) e
  rw [show 2 ^ 52 * e = e * 4503599627370496 by omega] at this
  rw [← this]; omega
theorem or_sign (f : Int) (h0 : 0 ≤ f) (h1 : f < 9223372036854775808) : orI .u64 f 9223372036854775808 = f + 9223372036854775808 := by
  obtain ⟨n, rfl⟩ := Int.eq_ofNat_of_zero_le h0
  rw [show (9223372036854775808 : Int) = ((2 ^ 63 : Nat) : Int) from rfl, orI_n (by omega) (by decide), Nat.or_comm]
  have := Nat.two_pow_add_eq_or_of_lt (i := 63) (b := n) (by omega) 1
  rw [Nat.mul_one] at this
  rw [← this]; omega
theorem laid_take (a : Int) (h0 : 0 ≤ a) (h1 : a < 18446744073709551616) : fn_pat_laid 300 (decide (9223372036854775808 ≤ a), clsR a, expR a, sigR a) = some a := by
  have b2 : 0 ≤ fN a ∧ fN a < 4503599627370496 := by unfold fN; omega
  have b1 : 0 ≤ eN a ∧ eN a < 2048 := by unfold eN; omega
  have hsplit : a = (if 9223372036854775808 ≤ a then 9223372036854775808 else 0) + eN a * 4503599627370496 + fN a := by unfold eN fN; split <;> omega
  have hs : andI .u64 (sigR a) 4503599627370495 = fN a := by
    have hb : 0 ≤ sigR a ∧ sigR a < 9007199254740992 := by unfold sigR; split <;> (try split) <;> omega
    have : andI .u64 (sigR a) 4503599627370495 = sigR a % 4503599627370496 := bits_mask .u64 64 (by decide) w64 52 (by decide) _ hb.1 (by omega)
    rw [this]; unfold sigR; split <;> (try split) <;> omega
  obtain ⟨e, he⟩ := Int.eq_ofNat_of_zero_le b1.1
  unfold fn_pat_laid
  simp only
  rw [hs]
  have oi := fun e he => or_inf (fN a) b2.1 b2.2 e he
  by_cases c1 : eN a = 2047
  · have hc : 3 ≤ clsR a := by unfold clsR; rw [if_pos c1]; split <;> (try split) <;> omega
    have o1 : orI .u64 (fN a) 9218868437227405312 = fN a + 9218868437227405312 := oi 2047 (by omega)
    rw [leI_t hc, cond_true, o1]
    by_cases hsg : 9223372036854775808 ≤ a
    · rw [if_pos hsg] at hsplit
      rw [decide_eq_true hsg, cond_true, or_sign _ (by omega) (by omega)]; congr 1; omega
    · rw [if_neg hsg] at hsplit
      rw [decide_eq_false hsg, cond_false]; congr 1; omega
  · by_cases c2 : eN a = 0
    · have hc : clsR a = 0 ∨ clsR a = 1 := by unfold clsR; rw [if_neg c1, if_pos c2]; split <;> simp
      rw [leI_f (by omega), cond_false, eqI_f (by omega), cond_false]
      by_cases hsg : 9223372036854775808 ≤ a
      · rw [if_pos hsg] at hsplit
        rw [decide_eq_true hsg, cond_true, or_sign _ (by omega) (by omega)]; congr 1; omega
      · rw [if_neg hsg] at hsplit
        rw [decide_eq_false hsg, cond_false]; congr 1; omega
    · have hc : clsR a = 2 := by unfold clsR; rw [if_neg c1, if_neg c2]
      have hx : expR a = eN a - 1075 := by unfold expR; rw [if_neg c1, if_neg c2]
      have e1 : addI .i64 (subI .i64 (eN a - 1075) (-1074)) 1 = eN a := by rw [subI_i (by omega) (by omega), addI_i (by omega) (by omega)]; omega
      have e2 : cvI .u64 (eN a) = eN a := cvI_u (by omega) (by omega)
      have e3 : andI .u64 (eN a) 2047 = eN a := by
        have : andI .u64 (eN a) 2047 = eN a % 2048 := bits_mask .u64 64 (by decide) w64 11 (by decide) _ b1.1 (by omega)
        rw [this]; omega
      have e4 : shlI .u64 (eN a) 52 = ((e * 4503599627370496 : Nat) : Int) := by
        rw [he, show (52 : Int) = ((52 : Nat) : Int) from rfl, shlI_n (by omega), Nat.mod_eq_of_lt (by omega)]
      rw [hc, hx, leI_f (by omega), cond_false, eqI_t rfl, cond_true, e1, e2, e3, e4, oi e (by omega)]
      by_cases hsg : 9223372036854775808 ≤ a
      · rw [if_pos hsg] at hsplit
        rw [decide_eq_true hsg, cond_true, or_sign _ (by omega) (by omega)]; congr 1; omega
      · rw [if_neg hsg] at hsplit
        rw [decide_eq_false hsg, cond_false]; congr 1; omega
theorem laid_ex (x : Bool × Int × Int × Int) : ∃ p, fn_pat_laid 300 x = some p := by
  unfold fn_pat_laid
  simp only [cond_if]
  repeat' (first | exact ⟨_, rfl⟩ | split)
theorem take_any (a : Int) : ∃ c, fn_pat_Take 300 a = some c := by
  unfold fn_pat_Take
  simp only [cond_if]
  repeat' (first | exact ⟨_, rfl⟩ | split)
theorem pure_PatBack : ∀ (a0 : Int) (a1 : (Bool × Int × Int × Int)), okN .u64 a0 → okP a1 → ∃ N, fn_tillerlaw03_PatBack N a0 a1 = some true := by
  intro a x ha _
  obtain ⟨a0, a1⟩ := u64_in ha
  refine ⟨300, ?_⟩
  unfold fn_tillerlaw03_PatBack
  have m1 : fn_pat_Make 300 (decide (9223372036854775808 ≤ a), clsR a, expR a, sigR a) = some (a, none) := by
    unfold fn_pat_Make
    simp only
    rw [laid_take a a0 a1, Option.bind_some, takeP_eq 300 a a0 a1, Option.bind_some]
    simp [eqB_eq, eqI_eq]
  rw [takeP_eq 300 a a0 a1, Option.bind_some]
  simp only
  rw [m1, Option.bind_some]
  obtain ⟨p, hp⟩ := laid_ex (x.1, x.2.1, x.2.2.1, x.2.2.2)
  obtain ⟨c, hc⟩ := take_any p
  have m2 : fn_pat_Make 300 (x.1, x.2.1, x.2.2.1, x.2.2.2) = cond (!((eqB c.1 x.1) && ((eqI c.2.1 x.2.1) && ((eqI c.2.2.1 x.2.2.1) && ((eqI c.2.2.2 x.2.2.2) && true))))) (some (0, some 1)) (some (p, none)) := by
    unfold fn_pat_Make
    simp only
    rw [hp, Option.bind_some, hc, Option.bind_some]
  rw [m2]
  cases hq : ((eqB c.1 x.1) && ((eqI c.2.1 x.2.1) && ((eqI c.2.2.1 x.2.2.1) && ((eqI c.2.2.2 x.2.2.2) && true))))
  · simp only [Bool.not_false, cond_true, Option.bind_some, isNoneI, eqI_t (rfl : a = a), sure_eq]
  · simp only [Bool.not_true, cond_false, Option.bind_some, isNoneI, cond_true, eqI_t (rfl : a = a), hc, hq, sure_eq]
end Go.Proofs.YtfcmenjachkleaaDoor

/- PROVED HERE: PatClasses' pure statement, over the functions that eng2.py printed: a pattern is of one class, told by its fields; with the other sign it is of the same. No condition beyond the arguments' kinds. -/
import Derived.Test.YtfcmenjachkleaaDoorPatp
import Derived.Test.YtfcmenjachkleaaDoorFnPatClasses
namespace Go.Proofs.YtfcmenjachkleaaDoor
open Go Eng Fns Bw Dig Patp
set_option linter.unusedSimpArgs false
theorem sure_eq : fn_tillerlaw03_sure 300 = some true := by kernel_rfl
theorem pure_PatClasses : ∀ (a0 : Int), okN .u64 a0 → ∃ N, fn_tillerlaw03_PatClasses N a0 = some true := by
  intro a ha
  obtain ⟨a0, a1⟩ := u64_in ha
  refine ⟨300, ?_⟩
  have b2 : 0 ≤ fN a ∧ fN a < 4503599627370496 := by unfold fN; omega
  have b1 : 0 ≤ eN a ∧ eN a < 2048 := by unfold eN; omega
  have e1 : andI .u64 (shrI .u64 a 52) 2047 = eN a := by
    have : shrI .u64 a 52 = a / 4503599627370496 := by
      obtain ⟨n, rfl⟩ := Int.eq_ofNat_of_zero_le a0
      rw [show (52 : Int) = ((52 : Nat) : Int) from rfl, shrN (by decide)]; rfl
    rw [this]
    exact bits_mask .u64 64 (by decide) w64 11 (by decide) _ (by omega) (by omega)
  have e3 : andI .u64 a 4503599627370495 = fN a := bits_mask .u64 64 (by decide) w64 52 (by decide) a a0 (by omega)
  have e4 : shrI .u64 (fN a) 51 = fN a / 2251799813685248 := by
    obtain ⟨n, hn⟩ := Int.eq_ofNat_of_zero_le b2.1
    rw [hn, show (51 : Int) = ((51 : Nat) : Int) from rfl, shrN (by decide)]; rfl
  have en : 0 ≤ (if a < 9223372036854775808 then a + 9223372036854775808 else a - 9223372036854775808) ∧ (if a < 9223372036854775808 then a + 9223372036854775808 else a - 9223372036854775808) < 18446744073709551616 := by split <;> omega
  have ec : clsR (if a < 9223372036854775808 then a + 9223372036854775808 else a - 9223372036854775808) = clsR a := by
    unfold clsR eN fN
    split <;> (repeat' split) <;> omega
  have hfin : decide (a % 9223372036854775808 < 9218868437227405312) = decide (clsR a < 3) := by
    rw [decide_eq_decide]; unfold clsR eN fN; repeat' split
    all_goals omega
  have hnan : nanB a = decide (3 < clsR a) := by
    unfold nanB; rw [decide_eq_decide]; unfold clsR eN fN; repeat' split
    all_goals omega
  unfold fn_tillerlaw03_PatClasses
  simp only [clsP_eq 300 a a0 a1, negP_eq 300 a a0 a1, clsP_eq 300 _ en.1 en.2, ec, finP_eq 300 a a0 a1 (by omega), nan_eq 300 a a0 a1, takeP_eq 300 a a0 a1, Option.bind_some, sure_eq, hfin, hnan]
  rw [e1, e3, e4]
  unfold clsR
  have z1 : (eN a = 2047) ∨ (eN a = 0) ∨ (eN a ≠ 2047 ∧ eN a ≠ 0) := by omega
  have z2 : (fN a = 0) ∨ (fN a ≠ 0 ∧ 0 < fN a ∧ ¬ 2251799813685248 ≤ fN a ∧ ¬ fN a / 2251799813685248 = 1) ∨ (fN a ≠ 0 ∧ 0 < fN a ∧ 2251799813685248 ≤ fN a ∧ fN a / 2251799813685248 = 1) := by omega
  rcases z1 with h | h | ⟨h, h'⟩ <;> rcases z2 with g | ⟨g, g1, g2, g3⟩ | ⟨g, g1, g2, g3⟩ <;> simp [eqI_eq, eqB_eq, leI_eq, ltI_eq, *]
end Go.Proofs.YtfcmenjachkleaaDoor

/- PLAIN FACTS on chapter 15: the program's series and the reference's. No statement is proved here. -/
import Derived.Test.YtoconobigciggaaFixq
import Derived.Test.YtoconobigciggaaSinp
namespace Go.Proofs.Ytoconobigciggaa.Sinq
open Go Go.RowKit Go.Proofs.Ytoconobigciggaa.Eng Go.Proofs.Ytoconobigciggaa.Fns Go.Proofs.Ytoconobigciggaa.Bw Go.Proofs.Ytoconobigciggaa.Dig Go.Proofs.Ytoconobigciggaa.Rn Go.Proofs.Ytoconobigciggaa.Wid Go.Proofs.Ytoconobigciggaa.Fixp Go.Proofs.Ytoconobigciggaa.Sinp
set_option linter.unusedVariables false
set_option linter.unusedSimpArgs false
/-! ### the program's -/
theorem evod_lt {S sq f t0 : Nat} (hS : 0 < S) (hsq : sq ≤ S) (hf : 1 ≤ f) (ht : t0 ≤ S) (n : Nat) : ev (tm S sq f t0) n + od (tm S sq f t0) n + 2 * tm S sq f t0 n ≤ 2 * S := by
  have h := ev_le_tot (tm S sq f t0) (tm_half hS hsq hf) n
  have : tm S sq f t0 0 = t0 := rfl
  omega
theorem prog_loop (N S sq f t0 : Nat) (hN : 300 ≤ N) (hS : S = 2 ^ 248) (hsq : sq ≤ S) (hf : 1 ≤ f) (hf2 : f ≤ 2) (ht : t0 ≤ S) (v4 : Vec 4) : ∀ (r i n : Nat), i + r = 80 → r < n →
    l31_0 N n ((f + 2 * i : Nat) : Int) (i : Int) (W (tm S sq f t0 i)) (W sq) v4 (W (ev (tm S sq f t0) i)) (W (od (tm S sq f t0) i)) = some (W (ev (tm S sq f t0) 80 - od (tm S sq f t0) 80)) := by
  have hS0 : 0 < S := by rw [hS]; exact Nat.pow_pos (by decide)
  have hhalf := tm_half (t0 := t0) hS0 hsq hf
  have hSlt : 2 * S < 2 ^ 256 := by rw [hS]; decide
  have hsub : ∀ k, (2 ^ 256 + ev (tm S sq f t0) k - od (tm S sq f t0) k) % 2 ^ 256 = ev (tm S sq f t0) k - od (tm S sq f t0) k := by
    intro k
    have h1 := evod_lt hS0 hsq hf ht k
    have h2 := od_le _ hhalf k
    generalize ev (tm S sq f t0) k = a at *
    generalize od (tm S sq f t0) k = b at *
    omega
  intro r
  induction r with
  | zero =>
    intro i n hi hn
    obtain ⟨n, rfl⟩ : ∃ n', n = n' + 1 := ⟨n - 1, by omega⟩
    show s31_0 N _ _ _ _ _ _ _ _ = _
    unfold s31_0
    have hi : i = 80 := by omega
    subst hi
    have h1 := evod_lt hS0 hsq hf ht 80
    rw [ltI_f (by omega), cond_false, Wid.sub_eq N hN _ _ (by omega) (by omega), Option.bind_some, hsub]
  | succ r ih =>
    intro i n hi hn
    obtain ⟨n, rfl⟩ : ∃ n', n = n' + 1 := ⟨n - 1, by omega⟩
    show s31_0 N (l31_0 N n) _ _ _ _ _ _ _ = _
    unfold s31_0
    have h1 := evod_lt hS0 hsq hf ht i
    have h1' := evod_lt hS0 hsq hf ht (i + 1)
    have hle := tm_le (t0 := t0) hS0 hsq hf i
    have hle' := tm_le (t0 := t0) hS0 hsq hf (i + 1)
    have ed : mulI .u64 ((f + 2 * i : Nat) : Int) (addI .u64 ((f + 2 * i : Nat) : Int) 1) = (((f + 2 * i) * (f + 2 * i + 1) : Nat) : Int) := by
      have e1 : addI .u64 ((f + 2 * i : Nat) : Int) 1 = ((f + 2 * i + 1 : Nat) : Int) := addN (b := 1) (by simp only [lim]; omega)
      have hb : (f + 2 * i) * (f + 2 * i + 1) ≤ 200 * 200 := Nat.mul_le_mul (by omega) (by omega)
      rw [e1, mulN (by simp only [lim]; omega)]
    have ef : addI .u64 ((f + 2 * i : Nat) : Int) 2 = ((f + 2 * (i + 1) : Nat) : Int) := by
      have := addN (k := .u64) (a := f + 2 * i) (b := 2) (by simp only [lim]; omega)
      rw [show ((2 : Nat) : Int) = 2 from rfl] at this
      rw [this]; congr 1
    have em : remI .i64 (i : Int) 2 = ((i % 2 : Nat) : Int) := rfl
    have hd := d_ge hf i
    have hdb : (f + 2 * i) * (f + 2 * i + 1) ≤ 200 * 200 := Nat.mul_le_mul (by omega) (by omega)
    have hmul : tm S sq f t0 i * sq / 2 ^ 248 % 2 ^ 256 = tm S sq f t0 i * sq / S := by
      rw [← hS]
      apply Nat.mod_eq_of_lt
      have : tm S sq f t0 i * sq / S ≤ tm S sq f t0 i := by
        apply Nat.div_le_of_le_mul
        rw [Nat.mul_comm S]
        exact Nat.mul_le_mul_left _ hsq
      omega
    have hmb : tm S sq f t0 i * sq / S < 2 ^ 256 := by rw [← hmul]; exact Nat.mod_lt _ (by decide)
    have ht' : tm S sq f t0 i * sq / S / ((f + 2 * i) * (f + 2 * i + 1)) = tm S sq f t0 (i + 1) := rfl
    have ih := ih (i + 1) n (by omega) (by omega)
    have hz : ∀ b, eqL (W (tm S sq f t0 (i + 1))).1 (Vec.zero 4).1 = b → (b = true → ∀ j, tm S sq f t0 (i + 1 + j) = 0) := by
      intro b hb hb2
      rw [hb2, W_zero, W_eq (by omega) (by decide), decide_eq_true_eq] at hb
      exact tm_zero hb
    have hfin : (∀ j, tm S sq f t0 (i + 1 + j) = 0) → ev (tm S sq f t0) 80 = ev (tm S sq f t0) (i + 1) ∧ od (tm S sq f t0) 80 = od (tm S sq f t0) (i + 1) := by
      intro h
      have := ev_rest (tm S sq f t0) h (79 - i)
      rw [show i + 1 + (79 - i) = 80 by omega] at this
      exact this
    have hev : ev (tm S sq f t0) (i + 1) = ev (tm S sq f t0) i + (if i % 2 = 0 then tm S sq f t0 i else 0) := rfl
    have hod : od (tm S sq f t0) (i + 1) = od (tm S sq f t0) i + (if i % 2 = 0 then 0 else tm S sq f t0 i) := rfl
    rw [ltI_t (by omega), cond_true, em, ed, ef, succI i (by omega), fixMul_eq N _ _ hN (by omega) (by omega), of_small N _ (by omega)]
    simp only [Option.bind_some]
    rw [hmul, divmod_eq N hN _ _ hmb (by omega) (by omega), ht']
    simp only [Option.bind_some]
    by_cases hpar : i % 2 = 0
    · rw [if_pos hpar] at hev hod
      simp only [Nat.add_zero] at hod
      rw [hpar, eqI_t (by rfl), cond_true, Wid.add_eq N hN _ _ (by omega) (by omega), Option.bind_some]
      simp only
      rw [Nat.mod_eq_of_lt (by omega), ← hev, ← hod]
      cases hq : eqL (W (tm S sq f t0 (i + 1))).1 (Vec.zero 4).1
      · rw [cond_false]; exact ih
      · obtain ⟨g1, g2⟩ := hfin (hz true hq rfl)
        rw [cond_true, Wid.sub_eq N hN _ _ (by omega) (by omega), Option.bind_some, hsub, g1, g2]
    · rw [if_neg hpar] at hev hod
      simp only [Nat.add_zero] at hev
      rw [eqI_f (by omega), cond_false, Wid.add_eq N hN _ _ (by omega) (by omega), Option.bind_some]
      simp only
      rw [Nat.mod_eq_of_lt (by omega), ← hev, ← hod]
      cases hq : eqL (W (tm S sq f t0 (i + 1))).1 (Vec.zero 4).1
      · rw [cond_false]; exact ih
      · obtain ⟨g1, g2⟩ := hfin (hz true hq rfl)
        rw [cond_true, Wid.sub_eq N hN _ _ (by omega) (by omega), Option.bind_some, hsub, g1, g2]
theorem prog_series (N S sq f t0 : Nat) (hN : 300 ≤ N) (hS : S = 2 ^ 248) (hsq : sq ≤ S) (hf : 1 ≤ f) (hf2 : f ≤ 2) (ht : t0 ≤ S) :
    fn_fix_series N (W t0) (W sq) (f : Int) = some (W (ev (tm S sq f t0) 80 - od (tm S sq f t0) 80)) := by
  have h := prog_loop N S sq f t0 hN hS hsq hf hf2 ht (Vec.zero 4) 80 0 N (by omega) (by omega)
  unfold fn_fix_series t31
  rw [show ev (tm S sq f t0) 0 = 0 from rfl, show od (tm S sq f t0) 0 = 0 from rfl, ← W_zero] at h
  exact h
/-! ### the reference's: a number parted by a small one -/
end Go.Proofs.Ytoconobigciggaa.Sinq

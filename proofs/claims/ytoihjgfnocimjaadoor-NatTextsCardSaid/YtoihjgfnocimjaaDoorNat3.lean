/- PLAIN FACTS: the reference's words out of its parts. No statement is proved here. -/
import Derived.Test.YtoihjgfnocimjaaDoorNat2
namespace Go.Proofs.YtoihjgfnocimjaaDoor.Nt
open Go Go.RowKit Go.Proofs.YtoihjgfnocimjaaDoor.Eng Go.Proofs.YtoihjgfnocimjaaDoor.Fns Go.Proofs.YtoihjgfnocimjaaDoor.Bw Go.Proofs.YtoihjgfnocimjaaDoor.Dig
open Go.Proofs.YtoihjgfnocimjaaDoor.Rn (X Y b32 b16 cmpZ)
set_option linter.unusedVariables false
set_option linter.unusedSimpArgs false
theorem p16_32 (j : Nat) : 65536 ^ (2 * j) = 4294967296 ^ j := by rw [Nat.pow_mul]
theorem dl_16_le (n : Nat) : dl 65536 n ≤ 2 * dl 4294967296 n := by
  apply dl_le b16
  rw [p16_32]; exact dl_lt b32 n
theorem dl_32_le (n : Nat) : 2 * dl 4294967296 n ≤ dl 65536 n + 1 := by
  obtain ⟨j, hj⟩ : ∃ j, j = (dl 65536 n + 1) / 2 := ⟨_, rfl⟩
  have h : dl 4294967296 n ≤ j := by
    apply dl_le b32
    rw [← p16_32]
    exact Nat.lt_of_lt_of_le (dl_lt b16 n) (Nat.pow_le_pow_right (by decide) (by omega))
  omega
theorem Words_loop (N n : Nat) (hd : dl 65536 n < 17592186044000) : ∀ (r j f : Nat), j + r = dl 4294967296 n → r < f →
    l14_0 N f (X n) ((2 * j : Nat) : Int) (T 4294967296 j n) = some (Y n) := by
  have h1 := dl_16_le n
  have h2 := dl_32_le n
  intro r
  induction r with
  | zero =>
    intro j f hj hf
    obtain ⟨f, rfl⟩ : ∃ n', f = n' + 1 := ⟨f - 1, by omega⟩
    show s14_0 N _ _ _ _ = _
    unfold s14_0
    have : j = dl 4294967296 n := by omega
    subst this
    rw [D_len, ltI_f (by omega), cond_false]; rfl
  | succ r ih =>
    intro j f hj hf
    obtain ⟨f, rfl⟩ : ∃ n', f = n' + 1 := ⟨f - 1, by omega⟩
    show s14_0 N (l14_0 N f) _ _ _ = _
    unfold s14_0
    have e1 : addI .i64 ((2 * j : Nat) : Int) 1 = ((2 * j + 1 : Nat) : Int) := succI _ (by omega)
    have e2 : addI .i64 ((2 * j : Nat) : Int) 2 = ((2 * (j + 1) : Nat) : Int) := addN (a := 2 * j) (b := 2) (by simp only [lim]; omega)
    have ih := ih (j + 1) f (by omega) (by omega)
    have g0 : n / 65536 ^ (2 * j) % 65536 < 65536 := Nat.mod_lt _ (by decide)
    have g1 : n / 65536 ^ (2 * j + 1) % 65536 < 65536 := Nat.mod_lt _ (by decide)
    have hdig : n / 4294967296 ^ j % 4294967296 = n / 65536 ^ (2 * j) % 65536 + 65536 * (n / 65536 ^ (2 * j + 1) % 65536) := by
      rw [← p16_32, Nat.pow_succ, ← Nat.div_div_eq_div_mul]; omega
    rw [T_succ, hdig] at ih
    rw [D_len, ltI_t (by omega), cond_true, leI_t (by omega), cond_true, cond_true, e1, e2, lrd_D b16, lrd_D b16]
    by_cases h : 2 * j + 1 < dl 65536 n
    · have e3 : mulI .u32 65536 ((n / 65536 ^ (2 * j + 1) % 65536 : Nat) : Int) = ((65536 * (n / 65536 ^ (2 * j + 1) % 65536) : Nat) : Int) := mulN (a := 65536) (by simp only [lim]; omega)
      rw [ltI_t (by omega), cond_true, leI_t (by omega), cond_true, cond_true, e3, addN (by simp only [lim]; omega), fit_t (by simp; omega), cond_true]
      exact ih
    · have hz : n / 65536 ^ (2 * j + 1) = 0 := Nat.div_eq_of_lt (Nat.lt_of_lt_of_le (dl_lt b16 n) (Nat.pow_le_pow_right (by decide) (by omega)))
      rw [ltI_f (by omega), cond_false, fit_t (by simp; omega), cond_true]
      rw [hz, Nat.zero_mod, Nat.mul_zero, Nat.add_zero] at ih
      exact ih
theorem Words_eq (N n : Nat) (hd : dl 65536 n < 17592186044000) (hN : dl 4294967296 n < N) : fn_tillerref02_Words N (X n) = some (Y n) := by
  unfold fn_tillerref02_Words t14
  exact Words_loop N n hd (dl 4294967296 n) 0 N (by omega) hN
end Go.Proofs.YtoihjgfnocimjaaDoor.Nt

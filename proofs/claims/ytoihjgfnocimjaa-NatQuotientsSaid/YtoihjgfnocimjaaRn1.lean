/- PLAIN FACTS on the reference's numbers of chapter 2 (parts of 16 bits): trim, Of, at, Cmp, Shl. No statement is proved here. -/
import Derived.Test.YtoihjgfnocimjaaFn1
import Derived.Test.YtoihjgfnocimjaaDig
namespace Go.Proofs.Ytoihjgfnocimjaa.Rn
open Go Go.RowKit Go.Proofs.Ytoihjgfnocimjaa.Eng Go.Proofs.Ytoihjgfnocimjaa.Fns Go.Proofs.Ytoihjgfnocimjaa.Bw Go.Proofs.Ytoihjgfnocimjaa.Dig
set_option linter.unusedVariables false
set_option linter.unusedSimpArgs false
/-- the number's parts of 16 bits -/
abbrev X (n : Nat) : List Int := D 65536 n
theorem b16 : (1 : Nat) < 65536 := by decide
theorem trim_loop (N k n : Nat) (hk : k < 4611686018427387904) : ∀ (j f : Nat), j ≤ k → j < f → n < 65536 ^ j → l29_0 N f (T 65536 k n) (j : Int) = some (X n) := by
  intro j
  induction j with
  | zero =>
    intro f _ hf hn
    obtain ⟨f, rfl⟩ : ∃ n', f = n' + 1 := ⟨f - 1, by omega⟩
    have : n = 0 := by simpa using hn
    subst this
    show s29_0 N _ _ _ = _
    unfold s29_0
    rw [ltI_f (by omega), cond_false, T_len]
    simp [leI, X, D_nil]
  | succ j ih =>
    intro f hj hf hn
    obtain ⟨f, rfl⟩ : ∃ n', f = n' + 1 := ⟨f - 1, by omega⟩
    show s29_0 N (l29_0 N f) _ _ = _
    unfold s29_0
    rw [predI j (by omega), T_len, ltI_t (by omega), cond_true, leI_t (by omega), cond_true, ltI_t (by omega), cond_true, lrd_T (by omega)]
    by_cases h0 : n / 65536 ^ j % 65536 = 0
    · rw [eqI_t (by omega), cond_true]
      exact ih f (by omega) (by omega) (T_cut b16 h0 hn)
    · rw [eqI_f (by omega), cond_false, leI_t (by omega), leI_t (by omega), leI_t (by omega)]
      have hge : 65536 ^ j ≤ n := by
        apply Nat.le_of_not_lt
        intro h; rw [Nat.div_eq_of_lt h] at h0; simp at h0
      have hle : leI ((j + 1 : Nat) : Int) ((k : Nat) : Int) = true := leI_t (by omega)
      rw [hle]
      simp only [Bool.and_self, Bool.true_or, cond_true, leI_t (Int.le_refl 0)]
      rw [Int.toNat_natCast, T_take hj, show (0 : Int).toNat = 0 from rfl, List.drop_zero, X, D, dl_eq b16 hge hn]
theorem trim_eq (N k n : Nat) (hk : k < 4611686018427387904) (hN : k < N) : fn_tillerref02_trim N (T 65536 k n) = some (X (n % 65536 ^ k)) := by
  unfold fn_tillerref02_trim t29
  rw [T_len, ← T_mod (by decide) k n]
  exact trim_loop N k _ hk k N (Nat.le_refl _) hN (Nat.mod_lt _ (pow_pos (by decide) _))
theorem at_eq (N n i : Nat) : fn_tillerref02_at N (X n) (i : Int) = some ((n / 65536 ^ i % 65536 : Nat) : Int) := by
  unfold fn_tillerref02_at
  have h := lrd_D b16 n i
  rw [leI_t (by omega), cond_true]
  by_cases hi : i < dl 65536 n
  · rw [D_len, ltI_t (by omega), cond_true, cond_true, cond_true, h]
  · rw [D_len, ltI_f (by omega), cond_false]
    have e : n / 65536 ^ i = 0 := Nat.div_eq_of_lt (Nat.lt_of_lt_of_le (dl_lt b16 n) (Nat.pow_le_pow_right (by decide) (by omega)))
    rw [e]; rfl
def cmpZ (m n : Nat) : Int := if m < n then -1 else if n < m then 1 else 0
theorem cmp_loop (N m n : Nat) : ∀ (j f : Nat), j < 4611686018427387904 → j < f → m / 65536 ^ j = n / 65536 ^ j → l30_0 N f (X m) (X n) ((j : Int) - 1) = some (cmpZ m n) := by
  intro j
  induction j with
  | zero =>
    intro f _ hf h
    obtain ⟨f, rfl⟩ : ∃ n', f = n' + 1 := ⟨f - 1, by omega⟩
    have : m = n := by simpa using h
    subst this
    show s30_0 N _ _ _ _ = _
    unfold s30_0
    rw [leI_f (by omega), cond_false]; simp [cmpZ]
  | succ j ih =>
    intro f hj hf h
    obtain ⟨f, rfl⟩ : ∃ n', f = n' + 1 := ⟨f - 1, by omega⟩
    show s30_0 N (l30_0 N f) _ _ _ = _
    unfold s30_0
    have e0 : ((j + 1 : Nat) : Int) - 1 = (j : Int) := by omega
    have e1 : subI .i64 (j : Int) 1 = (j : Int) - 1 := subI_i (by omega) (by omega)
    rw [e0, e1, leI_t (by omega), cond_true, at_eq, at_eq, Option.bind_some, Option.bind_some, Option.bind_some, Option.bind_some]
    have hm := Nat.div_add_mod (m / 65536 ^ j) 65536
    have hn := Nat.div_add_mod (n / 65536 ^ j) 65536
    rw [Nat.div_div_eq_div_mul, ← Nat.pow_succ] at hm hn
    rw [h] at hm
    have lt : ∀ {a b : Nat}, a / 65536 ^ j < b / 65536 ^ j → a < b := fun {a b} h => by
      apply Nat.lt_of_not_le; intro h2; exact absurd (Nat.div_le_div_right (c := 65536 ^ j) h2) (by omega)
    have lt1 := lt (a := m) (b := n)
    have lt2 := lt (a := n) (b := m)
    have ih := fun h => ih f (by omega) (by omega) h
    generalize m / 65536 ^ j = A at *
    generalize n / 65536 ^ j = B at *
    generalize n / 65536 ^ (j + 1) = C at *
    by_cases h1 : A % 65536 < B % 65536
    · rw [ltI_t (by omega), cond_true]
      have := lt1 (by omega)
      simp [cmpZ, this]
    · rw [ltI_f (by omega), cond_false]
      by_cases h2 : B % 65536 < A % 65536
      · rw [ltI_t (by omega), cond_true]
        have := lt2 (by omega)
        simp [cmpZ, this, show ¬ m < n by omega]
      · rw [ltI_f (by omega), cond_false]
        exact ih (by omega)
theorem cmp_eq (N m n : Nat) (hm : dl 65536 m < N) (hn : dl 65536 n < N) (hN : N < 4611686018427387904) : fn_tillerref02_Cmp N (X m) (X n) = some (cmpZ m n) := by
  unfold fn_tillerref02_Cmp t30
  rw [D_len, D_len, maxN]
  have e : subI .i64 ((max (dl 65536 m) (dl 65536 n) : Nat) : Int) 1 = ((max (dl 65536 m) (dl 65536 n) : Nat) : Int) - 1 := subI_i (by omega) (by omega)
  rw [e]
  refine cmp_loop N m n _ N (by omega) (by omega) ?_
  rw [Nat.div_eq_of_lt (Nat.lt_of_lt_of_le (dl_lt b16 m) (Nat.pow_le_pow_right (by decide) (Nat.le_max_left ..))), Nat.div_eq_of_lt (Nat.lt_of_lt_of_le (dl_lt b16 n) (Nat.pow_le_pow_right (by decide) (Nat.le_max_right ..)))]
theorem shl_carry (n by_ i : Nat) : (n * by_) / 65536 ^ i = (n % 65536 ^ i * by_) / 65536 ^ i + n / 65536 ^ i * by_ := by
  have h := Nat.div_add_mod n (65536 ^ i)
  have e : n * by_ = n % 65536 ^ i * by_ + 65536 ^ i * (n / 65536 ^ i * by_) := by
    calc n * by_ = (65536 ^ i * (n / 65536 ^ i) + n % 65536 ^ i) * by_ := by rw [h]
      _ = _ := by rw [Nat.add_mul, Nat.mul_assoc, Nat.add_comm]
  rw [e, Nat.add_mul_div_left _ _ (pow_pos (by decide) i)]
theorem carry_lt (n by_ i : Nat) (h : 0 < by_) : (n % 65536 ^ i * by_) / 65536 ^ i < by_ := by
  rw [Nat.div_lt_iff_lt_mul (pow_pos (by decide) i), Nat.mul_comm by_]
  exact Nat.mul_lt_mul_of_pos_right (Nat.mod_lt _ (pow_pos (by decide) i)) h
theorem carry_step (n by_ i : Nat) : (n % 65536 ^ (i + 1) * by_) / 65536 ^ (i + 1) = ((n % 65536 ^ i * by_) / 65536 ^ i + n / 65536 ^ i % 65536 * by_) / 65536 := by
  have e := shl_carry (n % 65536 ^ (i + 1)) by_ i
  rw [Nat.pow_succ, ← Nat.div_div_eq_div_mul]
  rw [Nat.pow_succ] at e
  rw [e, Nat.mod_mul_right_mod, Nat.mod_mul_right_div_self]
end Go.Proofs.Ytoihjgfnocimjaa.Rn

/- PLAIN FACTS on chapter 15: the program's series and the reference's. No statement is proved here. -/
import Derived.Test.YtoconobigciggaaDoorFixq
import Derived.Test.YtoconobigciggaaDoorSinp
namespace Go.Proofs.YtoconobigciggaaDoor.Sinq
open Go Go.RowKit Go.Proofs.YtoconobigciggaaDoor.Eng Go.Proofs.YtoconobigciggaaDoor.Fns Go.Proofs.YtoconobigciggaaDoor.Bw Go.Proofs.YtoconobigciggaaDoor.Dig Go.Proofs.YtoconobigciggaaDoor.Rn Go.Proofs.YtoconobigciggaaDoor.Wid Go.Proofs.YtoconobigciggaaDoor.Fixp Go.Proofs.YtoconobigciggaaDoor.Sinp
set_option linter.unusedVariables false
set_option linter.unusedSimpArgs false
/-! ### the program's -/
theorem evod_lt {S sq f t0 : Nat} (hS : 0 < S) (hsq : sq ≤ S) (hf : 1 ≤ f) (ht : t0 ≤ S) (n : Nat) : ev (tm S sq f t0) n + od (tm S sq f t0) n + 2 * tm S sq f t0 n ≤ 2 * S := by
  have h := ev_le_tot (tm S sq f t0) (tm_half hS hsq hf) n
  have : tm S sq f t0 0 = t0 := rfl
  omega
theorem prog_loop (N S sq f t0 : Nat) (hN : 300 ≤ N) (hS : S = 2 ^ 248) (hsq : sq ≤ S) (hf : 1 ≤ f) (hf2 : f ≤ 2) (ht : t0 ≤ S) (v4 : Vec 4) : ∀ (r i n : Nat), i + r = 80 → r < n →
    l41_0 N n ((f + 2 * i : Nat) : Int) (i : Int) (W (tm S sq f t0 i)) (W sq) v4 (W (ev (tm S sq f t0) i)) (W (od (tm S sq f t0) i)) = some (W (ev (tm S sq f t0) 80 - od (tm S sq f t0) 80)) := by
  have hS0 : 0 < S := by rw [hS]; exact Nat.pow_pos (by decide)
  have hhalf := tm_half (t0 := t0) hS0 hsq hf
  have hSlt : 2 * S < 2 ^ 256 := by rw [hS]; decide
  have hsub : ∀ k, (2 ^ 256 + ev (tm S sq f t0) k - od (tm S sq f t0) k) % 2 ^ 256 = ev (tm S sq f t0) k - od (tm S sq f t0) k := by
    intro k
    have h1 := evod_lt hS0 hsq hf ht k
    have h2 := od_le _ hhalf k
    generalize ev (tm S sq f t0) k = a at *
    generalize od (tm S sq f t0) k = b at *
    omega
  intro r
  induction r with
  | zero =>
    intro i n hi hn
    obtain ⟨n, rfl⟩ : ∃ n', n = n' + 1 := ⟨n - 1, by omega⟩
    show s41_0 N _ _ _ _ _ _ _ _ = _
    unfold s41_0
    have hi : i = 80 := by omega
    subst hi
    have h1 := evod_lt hS0 hsq hf ht 80
    rw [ltI_f (by omega), cond_false, Wid.sub_eq N hN _ _ (by omega) (by omega), Option.bind_some, hsub]
  | succ r ih =>
    intro i n hi hn
    obtain ⟨n, rfl⟩ : ∃ n', n = n' + 1 := ⟨n - 1, by omega⟩
    show s41_0 N (l41_0 N n) _ _ _ _ _ _ _ = _
    unfold s41_0
    have h1 := evod_lt hS0 hsq hf ht i
    have h1' := evod_lt hS0 hsq hf ht (i + 1)
    have hle := tm_le (t0 := t0) hS0 hsq hf i
    have hle' := tm_le (t0 := t0) hS0 hsq hf (i + 1)
    have ed : mulI .u64 ((f + 2 * i : Nat) : Int) (addI .u64 ((f + 2 * i : Nat) : Int) 1) = (((f + 2 * i) * (f + 2 * i + 1) : Nat) : Int) := by
      have e1 : addI .u64 ((f + 2 * i : Nat) : Int) 1 = ((f + 2 * i + 1 : Nat) : Int) := addN (b := 1) (by simp only [lim]; omega)
      have hb : (f + 2 * i) * (f + 2 * i + 1) ≤ 200 * 200 := Nat.mul_le_mul (by omega) (by omega)
      rw [e1, mulN (by simp only [lim]; omega)]
    have ef : addI .u64 ((f + 2 * i : Nat) : Int) 2 = ((f + 2 * (i + 1) : Nat) : Int) := by
      have := addN (k := .u64) (a := f + 2 * i) (b := 2) (by simp only [lim]; omega)
      rw [show ((2 : Nat) : Int) = 2 from rfl] at this
      rw [this]; congr 1
    have em : remI .i64 (i : Int) 2 = ((i % 2 : Nat) : Int) := rfl
    have hd := d_ge hf i
    have hdb : (f + 2 * i) * (f + 2 * i + 1) ≤ 200 * 200 := Nat.mul_le_mul (by omega) (by omega)
    have hmul : tm S sq f t0 i * sq / 2 ^ 248 % 2 ^ 256 = tm S sq f t0 i * sq / S := by
      rw [← hS]
      apply Nat.mod_eq_of_lt
      have : tm S sq f t0 i * sq / S ≤ tm S sq f t0 i := by
        apply Nat.div_le_of_le_mul
        rw [Nat.mul_comm S]
        exact Nat.mul_le_mul_left _ hsq
      omega
    have hmb : tm S sq f t0 i * sq / S < 2 ^ 256 := by rw [← hmul]; exact Nat.mod_lt _ (by decide)
    have ht' : tm S sq f t0 i * sq / S / ((f + 2 * i) * (f + 2 * i + 1)) = tm S sq f t0 (i + 1) := rfl
    have ih := ih (i + 1) n (by omega) (by omega)
    have hz : ∀ b, eqL (W (tm S sq f t0 (i + 1))).1 (Vec.zero 4).1 = b → (b = true → ∀ j, tm S sq f t0 (i + 1 + j) = 0) := by
      intro b hb hb2
      rw [hb2, W_zero, W_eq (by omega) (by decide), decide_eq_true_eq] at hb
      exact tm_zero hb
    have hfin : (∀ j, tm S sq f t0 (i + 1 + j) = 0) → ev (tm S sq f t0) 80 = ev (tm S sq f t0) (i + 1) ∧ od (tm S sq f t0) 80 = od (tm S sq f t0) (i + 1) := by
      intro h
      have := ev_rest (tm S sq f t0) h (79 - i)
      rw [show i + 1 + (79 - i) = 80 by omega] at this
      exact this
    have hev : ev (tm S sq f t0) (i + 1) = ev (tm S sq f t0) i + (if i % 2 = 0 then tm S sq f t0 i else 0) := rfl
    have hod : od (tm S sq f t0) (i + 1) = od (tm S sq f t0) i + (if i % 2 = 0 then 0 else tm S sq f t0 i) := rfl
    rw [ltI_t (by omega), cond_true, em, ed, ef, succI i (by omega), fixMul_eq N _ _ hN (by omega) (by omega), of_small N _ (by omega)]
    simp only [Option.bind_some]
    rw [hmul, divmod_eq N hN _ _ hmb (by omega) (by omega), ht']
    simp only [Option.bind_some]
    by_cases hpar : i % 2 = 0
    · rw [if_pos hpar] at hev hod
      simp only [Nat.add_zero] at hod
      rw [hpar, eqI_t (by rfl), cond_true, Wid.add_eq N hN _ _ (by omega) (by omega), Option.bind_some]
      simp only
      rw [Nat.mod_eq_of_lt (by omega), ← hev, ← hod]
      cases hq : eqL (W (tm S sq f t0 (i + 1))).1 (Vec.zero 4).1
      · rw [cond_false]; exact ih
      · obtain ⟨g1, g2⟩ := hfin (hz true hq rfl)
        rw [cond_true, Wid.sub_eq N hN _ _ (by omega) (by omega), Option.bind_some, hsub, g1, g2]
    · rw [if_neg hpar] at hev hod
      simp only [Nat.add_zero] at hev
      rw [eqI_f (by omega), cond_false, Wid.add_eq N hN _ _ (by omega) (by omega), Option.bind_some]
      simp only
      rw [Nat.mod_eq_of_lt (by omega), ← hev, ← hod]
      cases hq : eqL (W (tm S sq f t0 (i + 1))).1 (Vec.zero 4).1
      · rw [cond_false]; exact ih
      · obtain ⟨g1, g2⟩ := hfin (hz true hq rfl)
        rw [cond_true, Wid.sub_eq N hN _ _ (by omega) (by omega), Option.bind_some, hsub, g1, g2]
theorem prog_series (N S sq f t0 : Nat) (hN : 300 ≤ N) (hS : S = 2 ^ 248) (hsq : sq ≤ S) (hf : 1 ≤ f) (hf2 : f ≤ 2) (ht : t0 ≤ S) :
    fn_fix_series N (W t0) (W sq) (f : Int) = some (W (ev (tm S sq f t0) 80 - od (tm S sq f t0) 80)) := by
  have h := prog_loop N S sq f t0 hN hS hsq hf hf2 ht (Vec.zero 4) 80 0 N (by omega) (by omega)
  unfold fn_fix_series t41
  rw [show ev (tm S sq f t0) 0 = 0 from rfl, show od (tm S sq f t0) 0 = 0 from rfl, ← W_zero] at h
  exact h
/-! ### the reference's: a number parted by a small one -/
theorem smallA (N n q : Nat) (hq0 : 0 < q) (hq : q < 4294967296) (hN : dl 65536 n + 4 < N) (hN2 : N < 17592186044416) : ∀ (i f : Nat), i ≤ dl 65536 n → i < f →
    l55_0 N f (q : Int) ((n / 65536 ^ i % q : Nat) : Int) ((i : Int) - 1) (T 65536 (dl 65536 n) (n / 65536 ^ i / q * 65536 ^ i + n % 65536 ^ i)) = l55_1 N N (dl 65536 n : Int) (T 65536 (dl 65536 n) (n / q)) := by
  intro i
  induction i with
  | zero =>
    intro f _ hf
    obtain ⟨f, rfl⟩ : ∃ n', f = n' + 1 := ⟨f - 1, by omega⟩
    show s55_0 N _ _ _ _ _ _ = _
    unfold s55_0
    rw [leI_f (by omega), cond_false, T_len, Nat.pow_zero, Nat.div_one, Nat.mul_one, Nat.mod_one, Nat.add_zero]
  | succ i ih =>
    intro f hi hf
    obtain ⟨f, rfl⟩ : ∃ n', f = n' + 1 := ⟨f - 1, by omega⟩
    show s55_0 N (l55_0 N f) _ _ _ _ _ = _
    unfold s55_0
    have e0 : ((i + 1 : Nat) : Int) - 1 = (i : Int) := by omega
    have e1 : subI .i64 (i : Int) 1 = (i : Int) - 1 := subI_i (by omega) (by omega)
    have hr : n / 65536 ^ (i + 1) % q < q := Nat.mod_lt _ hq0
    have hd : n / 65536 ^ i % 65536 < 65536 := Nat.mod_lt _ (by decide)
    have hM : n / 65536 ^ i = 65536 * (n / 65536 ^ (i + 1)) + n / 65536 ^ i % 65536 := by
      rw [Nat.pow_succ, ← Nat.div_div_eq_div_mul]; exact (Nat.div_add_mod _ _).symm
    have hMq := Nat.div_add_mod (n / 65536 ^ (i + 1)) q
    have hdig : (n / 65536 ^ (i + 1) / q * 65536 ^ (i + 1) + n % 65536 ^ (i + 1)) / 65536 ^ i % 65536 = n / 65536 ^ i % 65536 := by
      rw [← mod_pow_div (b := 65536) (by decide) _ (Nat.lt_succ_self i), Nat.succ_eq_add_one, Nat.add_comm, Nat.mul_comm, Nat.add_mul_mod_self_left, Nat.mod_mod, mod_pow_div (by decide) n (Nat.lt_succ_self i)]
    have ih := ih f (by omega) (by omega)
    have ez : eqI (cvI .u64 (q : Int)) 0 = false := by rw [cvN (by simp only [lim]; omega), eqI_f (by omega)]
    rw [e0, e1, leI_t (by omega), T_len, ltI_t (by omega), ez]
    simp only [cond_true, cond_false]
    rw [lrd_T (by omega), hdig]
    have a1 : mulI .u64 65536 ((n / 65536 ^ (i + 1) % q : Nat) : Int) = ((65536 * (n / 65536 ^ (i + 1) % q) : Nat) : Int) := mulN (a := 65536) (by simp only [lim]; omega)
    rw [a1, cvN (by simp only [lim]; omega), addN (by simp only [lim]; omega), cvN (by simp only [lim]; omega), Int.toNat_natCast]
    have hz : 65536 * (n / 65536 ^ (i + 1) % q) + n / 65536 ^ i % 65536 < 65536 * q := by omega
    have hcur : n / 65536 ^ i = (65536 * (n / 65536 ^ (i + 1) % q) + n / 65536 ^ i % 65536) + q * (65536 * (n / 65536 ^ (i + 1) / q)) := by
      have e5 : q * (65536 * (n / 65536 ^ (i + 1) / q)) = 65536 * (q * (n / 65536 ^ (i + 1) / q)) := by rw [← Nat.mul_assoc, Nat.mul_comm q, Nat.mul_assoc]
      rw [e5]; omega
    generalize hc : 65536 * (n / 65536 ^ (i + 1) % q) + n / 65536 ^ i % 65536 = c at *
    have hcq : c / q < 65536 := by rw [Nat.div_lt_iff_lt_mul hq0]; exact hz
    have hmod : n / 65536 ^ i % q = c % q := by rw [hcur, Nat.add_mul_mod_self_left]
    have hdiv : n / 65536 ^ i / q = c / q + 65536 * (n / 65536 ^ (i + 1) / q) := by rw [hcur, Nat.add_mul_div_left _ _ hq0]
    rw [show remI .u64 (c : Int) (q : Int) = ((c % q : Nat) : Int) from rfl, quoN (by simp only [lim]; omega), cvN (by simp only [lim]; omega), T_set b16 (by omega) hcq]
    have e7 : (n / 65536 ^ (i + 1) / q * 65536 ^ (i + 1) + n % 65536 ^ (i + 1)) % 65536 ^ i = n % 65536 ^ i := by
      rw [Nat.pow_succ, Nat.mul_comm (65536 ^ i), ← Nat.mul_assoc, Nat.add_comm, Nat.add_mul_mod_self_right, Nat.mod_mul_left_mod]
    have e8 : (n / 65536 ^ (i + 1) / q * 65536 ^ (i + 1) + n % 65536 ^ (i + 1)) / 65536 ^ (i + 1) = n / 65536 ^ (i + 1) / q := by
      rw [Nat.add_comm, Nat.add_mul_div_right _ _ (p16 _), Nat.div_eq_of_lt (Nat.mod_lt _ (p16 _)), Nat.zero_add]
    have e9 : n % 65536 ^ i + 65536 ^ i * (c / q) + 65536 ^ (i + 1) * (n / 65536 ^ (i + 1) / q) = n / 65536 ^ i / q * 65536 ^ i + n % 65536 ^ i := by
      rw [hdiv, Nat.add_mul, Nat.pow_succ, Nat.mul_comm (c / q), Nat.mul_assoc, Nat.mul_comm _ (65536 ^ i)]; omega
    rw [e7, e8, e9, ← hmod]
    exact ih
theorem smallB (N k n : Nat) (hk : k < 4611686018427387904) : ∀ (j f : Nat), j ≤ k → j < f → n < 65536 ^ j → l55_1 N f (j : Int) (T 65536 k n) = some (X n) := by
  intro j
  induction j with
  | zero =>
    intro f _ hf hn
    obtain ⟨f, rfl⟩ : ∃ n', f = n' + 1 := ⟨f - 1, by omega⟩
    have : n = 0 := by simpa using hn
    subst this
    show s55_1 N _ _ _ = _
    unfold s55_1
    rw [ltI_f (by omega), cond_false, T_len]
    simp [leI, X, D_nil]
  | succ j ih =>
    intro f hj hf hn
    obtain ⟨f, rfl⟩ : ∃ n', f = n' + 1 := ⟨f - 1, by omega⟩
    show s55_1 N (l55_1 N f) _ _ = _
    unfold s55_1
    rw [predI j (by omega), T_len, ltI_t (by omega), cond_true, leI_t (by omega), cond_true, ltI_t (by omega), cond_true, lrd_T (by omega)]
    by_cases h0 : n / 65536 ^ j % 65536 = 0
    · rw [eqI_t (by omega), cond_true]
      exact ih f (by omega) (by omega) (T_cut b16 h0 hn)
    · rw [eqI_f (by omega), cond_false, leI_t (by omega), leI_t (by omega)]
      have hge : 65536 ^ j ≤ n := by
        apply Nat.le_of_not_lt
        intro h; rw [Nat.div_eq_of_lt h] at h0; simp at h0
      simp only [Bool.and_self, cond_true]
      rw [Int.toNat_natCast, T_take hj, X, D, dl_eq b16 hge hn]
theorem small15_eq (N n q : Nat) (hq0 : 0 < q) (hq : q < 4294967296) (hN : dl 65536 n + 4 < N) (hN2 : N < 17592186044416) : fn_tillerref15_small N (X n) (q : Int) = some (X (n / q)) := by
  unfold fn_tillerref15_small t55
  have hn := dl_lt b16 n
  have h := smallA N n q hq0 hq hN hN2 (dl 65536 n) N (Nat.le_refl _) (by omega)
  rw [Nat.div_eq_of_lt hn, Nat.zero_mod, Nat.zero_div, Nat.zero_mul, Nat.zero_add, Nat.mod_eq_of_lt hn] at h
  have e : subI .i64 (dl 65536 n : Int) 1 = (dl 65536 n : Int) - 1 := subI_i (by omega) (by omega)
  rw [D_len, fit_t (by omega), cond_true, e]
  refine Eq.trans h ?_
  exact smallB N (dl 65536 n) (n / q) (by omega) (dl 65536 n) N (Nat.le_refl _) (by omega) (Nat.lt_of_le_of_lt (Nat.div_le_self _ _) hn)
end Go.Proofs.YtoconobigciggaaDoor.Sinq

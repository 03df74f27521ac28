/- PLAIN FACTS on the reference's numbers of chapter 2 (parts of 16 bits): trim, Of, at, Cmp, Shl. No statement is proved here. -/
import Derived.Test.YtoihjgfnocimjaaDoorFn1
import Derived.Test.YtoihjgfnocimjaaDoorDig
namespace Go.Proofs.YtoihjgfnocimjaaDoor.Rn
open Go Go.RowKit Go.Proofs.YtoihjgfnocimjaaDoor.Eng Go.Proofs.YtoihjgfnocimjaaDoor.Fns Go.Proofs.YtoihjgfnocimjaaDoor.Bw Go.Proofs.YtoihjgfnocimjaaDoor.Dig
set_option linter.unusedVariables false
set_option linter.unusedSimpArgs false
/-- the number's parts of 16 bits -/
abbrev X (n : Nat) : List Int := D 65536 n
theorem b16 : (1 : Nat) < 65536 := by decide
theorem trim_loop (N k n : Nat) (hk : k < 4611686018427387904) : ∀ (j f : Nat), j ≤ k → j < f → n < 65536 ^ j → l39_0 N f (T 65536 k n) (j : Int) = some (X n) := by
  intro j
  induction j with
  | zero =>
    intro f _ hf hn
    obtain ⟨f, rfl⟩ : ∃ n', f = n' + 1 := ⟨f - 1, by omega⟩
    have : n = 0 := by simpa using hn
    subst this
    show s39_0 N _ _ _ = _
    unfold s39_0
    rw [ltI_f (by omega), cond_false, T_len]
    simp [leI, X, D_nil]
  | succ j ih =>
    intro f hj hf hn
    obtain ⟨f, rfl⟩ : ∃ n', f = n' + 1 := ⟨f - 1, by omega⟩
    show s39_0 N (l39_0 N f) _ _ = _
    unfold s39_0
    rw [predI j (by omega), T_len, ltI_t (by omega), cond_true, leI_t (by omega), cond_true, ltI_t (by omega), cond_true, lrd_T (by omega)]
    by_cases h0 : n / 65536 ^ j % 65536 = 0
    · rw [eqI_t (by omega), cond_true]
      exact ih f (by omega) (by omega) (T_cut b16 h0 hn)
    · rw [eqI_f (by omega), cond_false, leI_t (by omega), leI_t (by omega), leI_t (by omega)]
      have hge : 65536 ^ j ≤ n := by
        apply Nat.le_of_not_lt
        intro h; rw [Nat.div_eq_of_lt h] at h0; simp at h0
      have hle : leI ((j + 1 : Nat) : Int) ((k : Nat) : Int) = true := leI_t (by omega)
      rw [hle]
      simp only [Bool.and_self, Bool.true_or, cond_true, leI_t (Int.le_refl 0)]
      rw [Int.toNat_natCast, T_take hj, show (0 : Int).toNat = 0 from rfl, List.drop_zero, X, D, dl_eq b16 hge hn]
theorem trim_eq (N k n : Nat) (hk : k < 4611686018427387904) (hN : k < N) : fn_tillerref02_trim N (T 65536 k n) = some (X (n % 65536 ^ k)) := by
  unfold fn_tillerref02_trim t39
  rw [T_len, ← T_mod (by decide) k n]
  exact trim_loop N k _ hk k N (Nat.le_refl _) hN (Nat.mod_lt _ (pow_pos (by decide) _))
theorem at_eq (N n i : Nat) : fn_tillerref02_at N (X n) (i : Int) = some ((n / 65536 ^ i % 65536 : Nat) : Int) := by
  unfold fn_tillerref02_at
  have h := lrd_D b16 n i
  rw [leI_t (by omega), cond_true]
  by_cases hi : i < dl 65536 n
  · rw [D_len, ltI_t (by omega), cond_true, cond_true, cond_true, h]
  · rw [D_len, ltI_f (by omega), cond_false]
    have e : n / 65536 ^ i = 0 := Nat.div_eq_of_lt (Nat.lt_of_lt_of_le (dl_lt b16 n) (Nat.pow_le_pow_right (by decide) (by omega)))
    rw [e]; rfl
def cmpZ (m n : Nat) : Int := if m < n then -1 else if n < m then 1 else 0
theorem cmp_loop (N m n : Nat) : ∀ (j f : Nat), j < 4611686018427387904 → j < f → m / 65536 ^ j = n / 65536 ^ j → l31_0 N f (X m) (X n) ((j : Int) - 1) = some (cmpZ m n) := by
  intro j
  induction j with
  | zero =>
    intro f _ hf h
    obtain ⟨f, rfl⟩ : ∃ n', f = n' + 1 := ⟨f - 1, by omega⟩
    have : m = n := by simpa using h
    subst this
    show s31_0 N _ _ _ _ = _
    unfold s31_0
    rw [leI_f (by omega), cond_false]; simp [cmpZ]
  | succ j ih =>
    intro f hj hf h
    obtain ⟨f, rfl⟩ : ∃ n', f = n' + 1 := ⟨f - 1, by omega⟩
    show s31_0 N (l31_0 N f) _ _ _ = _
    unfold s31_0
    have e0 : ((j + 1 : Nat) : Int) - 1 = (j : Int) := by omega
    have e1 : subI .i64 (j : Int) 1 = (j : Int) - 1 := subI_i (by omega) (by omega)
    rw [e0, e1, leI_t (by omega), cond_true, at_eq, at_eq, Option.bind_some, Option.bind_some, Option.bind_some, Option.bind_some]
    have hm := Nat.div_add_mod (m / 65536 ^ j) 65536
    have hn := Nat.div_add_mod (n / 65536 ^ j) 65536
    rw [Nat.div_div_eq_div_mul, ← Nat.pow_succ] at hm hn
    rw [h] at hm
    have lt : ∀ {a b : Nat}, a / 65536 ^ j < b / 65536 ^ j → a < b := fun {a b} h => by
      apply Nat.lt_of_not_le; intro h2; exact absurd (Nat.div_le_div_right (c := 65536 ^ j) h2) (by omega)
    have lt1 := lt (a := m) (b := n)
    have lt2 := lt (a := n) (b := m)
    have ih := fun h => ih f (by omega) (by omega) h
    generalize m / 65536 ^ j = A at *
    generalize n / 65536 ^ j = B at *
    generalize n / 65536 ^ (j + 1) = C at *
    by_cases h1 : A % 65536 < B % 65536
    · rw [ltI_t (by omega), cond_true]
      have := lt1 (by omega)
      simp [cmpZ, this]
    · rw [ltI_f (by omega), cond_false]
      by_cases h2 : B % 65536 < A % 65536
      · rw [ltI_t (by omega), cond_true]
        have := lt2 (by omega)
        simp [cmpZ, this, show ¬ m < n by omega]
      · rw [ltI_f (by omega), cond_false]
        exact ih (by omega)
theorem cmp_eq (N m n : Nat) (hm : dl 65536 m < N) (hn : dl 65536 n < N) (hN : N < 4611686018427387904) : fn_tillerref02_Cmp N (X m) (X n) = some (cmpZ m n) := by
  unfold fn_tillerref02_Cmp t31
  rw [D_len, D_len, maxN]
  have e : subI .i64 ((max (dl 65536 m) (dl 65536 n) : Nat) : Int) 1 = ((max (dl 65536 m) (dl 65536 n) : Nat) : Int) - 1 := subI_i (by omega) (by omega)
  rw [e]
  refine cmp_loop N m n _ N (by omega) (by omega) ?_
  rw [Nat.div_eq_of_lt (Nat.lt_of_lt_of_le (dl_lt b16 m) (Nat.pow_le_pow_right (by decide) (Nat.le_max_left ..))), Nat.div_eq_of_lt (Nat.lt_of_lt_of_le (dl_lt b16 n) (Nat.pow_le_pow_right (by decide) (Nat.le_max_right ..)))]
theorem shl_carry (n by_ i : Nat) : (n * by_) / 65536 ^ i = (n % 65536 ^ i * by_) / 65536 ^ i + n / 65536 ^ i * by_ := by
  have h := Nat.div_add_mod n (65536 ^ i)
  have e : n * by_ = n % 65536 ^ i * by_ + 65536 ^ i * (n / 65536 ^ i * by_) := by
    calc n * by_ = (65536 ^ i * (n / 65536 ^ i) + n % 65536 ^ i) * by_ := by rw [h]
      _ = _ := by rw [Nat.add_mul, Nat.mul_assoc, Nat.add_comm]
  rw [e, Nat.add_mul_div_left _ _ (pow_pos (by decide) i)]
theorem carry_lt (n by_ i : Nat) (h : 0 < by_) : (n % 65536 ^ i * by_) / 65536 ^ i < by_ := by
  rw [Nat.div_lt_iff_lt_mul (pow_pos (by decide) i), Nat.mul_comm by_]
  exact Nat.mul_lt_mul_of_pos_right (Nat.mod_lt _ (pow_pos (by decide) i)) h
theorem carry_step (n by_ i : Nat) : (n % 65536 ^ (i + 1) * by_) / 65536 ^ (i + 1) = ((n % 65536 ^ i * by_) / 65536 ^ i + n / 65536 ^ i % 65536 * by_) / 65536 := by
  have e := shl_carry (n % 65536 ^ (i + 1)) by_ i
  rw [Nat.pow_succ, ← Nat.div_div_eq_div_mul]
  rw [Nat.pow_succ] at e
  rw [e, Nat.mod_mul_right_mod, Nat.mod_mul_right_div_self]
theorem shl_loop (N n s by_ q : Nat) (hby : by_ = 2 ^ (s % 16)) (hq : q = s / 16) (v1 : Int) (hN : q + dl 65536 n + 1 < N) (hl : q + dl 65536 n + 1 < 17592186044416) : ∀ (r i f : Nat), i + r = dl 65536 n → r < f →
    l22_1 N f (X n) (by_ : Int) ((n % 65536 ^ i * by_ / 65536 ^ i : Nat) : Int) (i : Int) (T 65536 (q + i) (n * 2 ^ s)) = some (X (n * 2 ^ s)) := by
  have hb1 : 0 < by_ := by rw [hby]; exact Nat.pow_pos (by decide)
  have hb2 : by_ ≤ 32768 := by
    rw [hby]; exact Nat.le_trans (Nat.pow_le_pow_right (by decide) (show s % 16 ≤ 15 by omega)) (by decide)
  have h2s : 2 ^ s = 65536 ^ q * by_ := by
    rw [hby, hq, show 65536 = 2 ^ 16 from rfl, ← Nat.pow_mul, ← Nat.pow_add]; congr 1; omega
  have hdiv : ∀ i, n * 2 ^ s / 65536 ^ (q + i) = n * by_ / 65536 ^ i := fun i => by
    rw [h2s, Nat.pow_add, ← Nat.div_div_eq_div_mul, show n * (65536 ^ q * by_) = 65536 ^ q * (n * by_) by rw [← Nat.mul_assoc, Nat.mul_comm n, Nat.mul_assoc], Nat.mul_div_cancel_left _ (pow_pos (by decide) q)]
  intro r
  induction r with
  | zero =>
    intro i f hi hf
    obtain ⟨f, rfl⟩ : ∃ n', f = n' + 1 := ⟨f - 1, by omega⟩
    show s22_1 N _ _ _ _ _ _ = _
    unfold s22_1
    have hi : i = dl 65536 n := by omega
    have hni : n % 65536 ^ i = n := Nat.mod_eq_of_lt (hi ▸ dl_lt b16 n)
    have hclt := carry_lt n by_ i hb1
    rw [D_len, ltI_f (by omega), cond_false, T_len]
    rw [fit_t (by simp; omega), cond_true]
    have e : T 65536 (q + i) (n * 2 ^ s) ++ [((n % 65536 ^ i * by_ / 65536 ^ i : Nat) : Int)] = T 65536 (q + i + 1) (n * 2 ^ s) := by
      rw [T_succ, hdiv, hni]
      rw [hni] at hclt
      rw [Nat.mod_eq_of_lt (Nat.lt_of_lt_of_le hclt (by omega))]
    rw [e, trim_eq N _ _ (by omega) (by omega), Option.bind_some]
    congr 2
    apply Nat.mod_eq_of_lt
    have h1 := dl_lt b16 n
    rw [← hi] at h1
    rw [h2s, Nat.pow_succ, Nat.pow_add]
    calc n * (65536 ^ q * by_) < 65536 ^ i * (65536 ^ q * by_) := Nat.mul_lt_mul_of_pos_right h1 (Nat.mul_pos (pow_pos (by decide) q) hb1)
      _ = 65536 ^ q * 65536 ^ i * by_ := by rw [← Nat.mul_assoc, Nat.mul_comm (65536 ^ i)]
      _ ≤ 65536 ^ q * 65536 ^ i * 65536 := Nat.mul_le_mul_left _ (by omega)
  | succ r ih =>
    intro i f hi hf
    obtain ⟨f, rfl⟩ : ∃ n', f = n' + 1 := ⟨f - 1, by omega⟩
    show s22_1 N (l22_1 N f) _ _ _ _ _ = _
    unfold s22_1
    have hclt := carry_lt n by_ i hb1
    have ha : n / 65536 ^ i % 65536 < 65536 := Nat.mod_lt _ (by decide)
    have hm : n / 65536 ^ i % 65536 * by_ ≤ 65535 * 32768 := Nat.mul_le_mul (by omega) hb2
    have hstep := carry_step n by_ i
    rw [D_len, ltI_t (by omega), cond_true, leI_t (by omega), cond_true, cond_true, T_len, lrd_D b16, mulN (by simp only [lim]; omega)]
    generalize hc : n % 65536 ^ i * by_ / 65536 ^ i = c at *
    generalize hg : n / 65536 ^ i % 65536 = g at *
    rw [addN (by simp only [lim]; omega), fit_t (by simp; omega), cond_true, succI i (by omega)]
    have e1 : remI .u32 ((c + g * by_ : Nat) : Int) 65536 = (((c + g * by_) % 65536 : Nat) : Int) := rfl
    have e2 : quoI .u32 ((c + g * by_ : Nat) : Int) 65536 = (((c + g * by_) / 65536 : Nat) : Int) := quoN (by simp only [lim]; omega)
    have e3 : T 65536 (q + i) (n * 2 ^ s) ++ [(((c + g * by_) % 65536 : Nat) : Int)] = T 65536 (q + (i + 1)) (n * 2 ^ s) := by
      rw [← Nat.add_assoc, T_succ, hdiv, shl_carry, hc]
      congr 3
      rw [← hg, Nat.add_mod, Nat.mod_mul_mod, ← Nat.add_mod]
    rw [e1, e2, e3, ← hstep]
    exact ih (i + 1) f (by omega) (by omega)
theorem pow_loop (N n s : Nat) (q : Nat) (ys : List Int) (v1 : Int) (h1 : v1 = (s : Int)) : ∀ (r i f : Nat), i + r = s % 16 → r < f →
    l22_0 N f (X n) v1 ((2 ^ i : Nat) : Int) (i : Int) ys = l22_1 N N (X n) ((2 ^ (s % 16) : Nat) : Int) 0 0 ys := by
  subst h1
  intro r
  induction r with
  | zero =>
    intro i f hi hf
    obtain ⟨f, rfl⟩ : ∃ n', f = n' + 1 := ⟨f - 1, by omega⟩
    show s22_0 N _ _ _ _ _ _ _ = _
    unfold s22_0
    have e : remI .i64 (s : Int) 16 = ((s % 16 : Nat) : Int) := rfl
    rw [e, ltI_f (by omega), cond_false, show i = s % 16 by omega]
  | succ r ih =>
    intro i f hi hf
    obtain ⟨f, rfl⟩ : ∃ n', f = n' + 1 := ⟨f - 1, by omega⟩
    show s22_0 N (l22_0 N f) _ _ _ _ _ _ = _
    unfold s22_0
    have e : remI .i64 (s : Int) 16 = ((s % 16 : Nat) : Int) := rfl
    have hp : 2 ^ i ≤ 2 ^ 15 := Nat.pow_le_pow_right (by decide) (by omega)
    have e2 : mulI .u32 2 ((2 ^ i : Nat) : Int) = ((2 ^ (i + 1) : Nat) : Int) := by
      rw [show (2 : Int) = ((2 : Nat) : Int) from rfl, mulN (by simp only [lim]; omega), Nat.pow_succ, Nat.mul_comm]
    rw [e, ltI_t (by omega), cond_true, e2, succI i (by omega)]
    exact ih (i + 1) f (by omega) (by omega)
theorem shl_eq (N n s : Nat) (hN : s / 16 + dl 65536 n + 20 < N) (hl : N < 17592186044416) : fn_tillerref02_Shl N (X n) (s : Int) = some (X (n * 2 ^ s)) := by
  unfold fn_tillerref02_Shl t22
  by_cases hn : n = 0
  · subst hn; simp [X, D_nil, eqI]
  · have hd : dl 65536 n ≠ 0 := fun h => hn ((dl_nil b16).1 h)
    have hs : s < 9223372036854775808 := by omega
    have e : quoI .i64 (s : Int) 16 = ((s / 16 : Nat) : Int) := quoN (by simp only [lim]; omega)
    rw [D_len, eqI_f (by omega), cond_false, e, leI_t (by omega), cond_true, leI_t (by omega), cond_true, Int.toNat_natCast]
    have h := pow_loop N n s (s / 16) (List.replicate (s / 16) 0) s rfl (s % 16) 0 N (by omega) (by omega)
    have h2 := shl_loop N n s (2 ^ (s % 16)) (s / 16) rfl rfl 0 (by omega) (by omega) (dl 65536 n) 0 N (by omega) (by omega)
    have e3 : T 65536 (s / 16 + 0) (n * 2 ^ s) = List.replicate (s / 16) 0 := by
      rw [Nat.add_zero, ← T_mod (by decide), ← T_nought (b := 65536) (by decide)]
      congr 1
      apply Nat.mod_eq_zero_of_dvd
      rw [show 65536 = 2 ^ 16 from rfl, ← Nat.pow_mul]
      exact Nat.dvd_trans (Nat.pow_dvd_pow 2 (by omega)) (Nat.dvd_mul_left ..)
    rw [e3] at h2
    simp only [Nat.pow_zero, Nat.mod_one, Nat.zero_mul, Nat.zero_div] at h2
    exact h.trans h2
end Go.Proofs.YtoihjgfnocimjaaDoor.Rn

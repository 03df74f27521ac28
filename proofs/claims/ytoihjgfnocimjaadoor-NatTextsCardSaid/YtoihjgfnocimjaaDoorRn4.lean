/- PLAIN FACTS on the reference's numbers of chapter 2 (parts of 16 bits): Small, Len, Parts. No statement is proved here. -/
import Derived.Test.YtoihjgfnocimjaaDoorRn3
namespace Go.Proofs.YtoihjgfnocimjaaDoor.Rn
open Go Go.RowKit Go.Proofs.YtoihjgfnocimjaaDoor.Eng Go.Proofs.YtoihjgfnocimjaaDoor.Fns Go.Proofs.YtoihjgfnocimjaaDoor.Bw Go.Proofs.YtoihjgfnocimjaaDoor.Dig
set_option linter.unusedVariables false
set_option linter.unusedSimpArgs false
/-! ### times a small number -/
def smc (n q m i : Nat) : Nat := (n % 65536 ^ i * q + m) / 65536 ^ i
theorem smc_div (n q m i : Nat) : (n * q + m) / 65536 ^ i = smc n q m i + n / 65536 ^ i * q := by
  have h := Nat.div_add_mod n (65536 ^ i)
  have e : n * q + m = (n % 65536 ^ i * q + m) + 65536 ^ i * (n / 65536 ^ i * q) := by
    conv => lhs; rw [← h]
    rw [Nat.add_mul, Nat.mul_assoc]; omega
  unfold smc
  rw [e, Nat.add_mul_div_left _ _ (p16 i)]
theorem smc_le (n q m i : Nat) : smc n q m i ≤ q + m := by
  unfold smc
  have hp := p16 i
  have h1 := Nat.mod_lt n hp
  apply Nat.div_le_of_le_mul
  have h2 : n % 65536 ^ i * q ≤ 65536 ^ i * q := Nat.mul_le_mul_right q (Nat.le_of_lt h1)
  have h3 : m ≤ 65536 ^ i * m := Nat.le_mul_of_pos_left m hp
  rw [Nat.mul_add]; omega
theorem smc_succ (n q m i : Nat) : smc n q m (i + 1) = (smc n q m i + n / 65536 ^ i % 65536 * q) / 65536 := by
  unfold smc
  rw [mod16, Nat.pow_succ, ← Nat.div_div_eq_div_mul]
  congr 1
  rw [Nat.add_mul, Nat.add_right_comm, Nat.mul_assoc, Nat.add_mul_div_left _ _ (p16 i)]
theorem small_loop (N n q m : Nat) (hq : q < 4294967296) (hm : m < 4294967296) (hN : dl 65536 n + 6 < N) (hN2 : N < 17592186044416) : ∀ (r i f : Nat), i + r = dl 65536 n + 3 → r < f →
    l43_0 N f (X n) (q : Int) (smc n q m i : Int) (i : Int) (T 65536 i (n * q + m)) = some (X (n * q + m)) := by
  have hn := dl_lt b16 n
  have fin : ∀ i, i ≤ dl 65536 n + 3 → dl 65536 n ≤ i → smc n q m i = 0 → fn_tillerref02_trim N (T 65536 i (n * q + m)) = some (X (n * q + m)) := by
    intro i hi hi2 h0
    have hz := smc_div n q m i
    rw [h0, Nat.div_eq_of_lt (Nat.lt_of_lt_of_le hn (Nat.pow_le_pow_right (by decide) hi2)), Nat.zero_mul] at hz
    rw [trim_eq N i _ (by omega) (by omega), Nat.mod_eq_of_lt ((Nat.div_eq_zero_iff_lt (p16 i)).1 hz)]
  intro r
  induction r with
  | zero =>
    intro i f hi hf
    obtain ⟨f, rfl⟩ : ∃ n', f = n' + 1 := ⟨f - 1, by omega⟩
    show s43_0 N _ _ _ _ _ _ = _
    unfold s43_0
    have h0 : smc n q m i = 0 := by
      have hz := smc_div n q m i
      have hlt : n * q + m < 65536 ^ i := by
        have h1 : n * q ≤ 65536 ^ dl 65536 n * 4294967296 := Nat.mul_le_mul (Nat.le_of_lt hn) (Nat.le_of_lt hq)
        have h2 := p16 (dl 65536 n)
        rw [show i = dl 65536 n + 3 by omega, Nat.pow_add]
        generalize 65536 ^ dl 65536 n = P at *
        omega
      rw [Nat.div_eq_of_lt hlt] at hz; omega
    rw [D_len, ltI_f (by omega), cond_false, h0, ltI_f (by omega), cond_false, fin i (by omega) (by omega) h0, Option.bind_some]
  | succ r ih =>
    intro i f hi hf
    obtain ⟨f, rfl⟩ : ∃ n', f = n' + 1 := ⟨f - 1, by omega⟩
    show s43_0 N (l43_0 N f) _ _ _ _ _ = _
    unfold s43_0
    have hle := smc_le n q m i
    have hs := smc_succ n q m i
    have hd := smc_div n q m i
    have la : n / 65536 ^ i % 65536 < 65536 := Nat.mod_lt _ (by decide)
    have lm : n / 65536 ^ i % 65536 * q ≤ 65535 * 4294967296 := Nat.mul_le_mul (by omega) (Nat.le_of_lt hq)
    have ih := ih (i + 1) f (by omega) (by omega)
    rw [D_len, at_eq, T_len]
    simp only [Option.bind_some]
    rw [cvN (by simp only [lim]; omega), cvN (by simp only [lim]; omega), mulN (by simp only [lim]; omega), addN (by simp only [lim]; omega), succI i (by omega), fit_t (by simp; omega), cond_true]
    have e0 : (n * q + m) / 65536 ^ i % 65536 = (smc n q m i + n / 65536 ^ i % 65536 * q) % 65536 := by
      rw [hd]; symm; rw [Nat.add_mod, Nat.mod_mul_mod, ← Nat.add_mod]
    generalize hz : smc n q m i + n / 65536 ^ i % 65536 * q = z at *
    have e1 : cvI .u32 (remI .u64 (z : Int) 65536) = ((z % 65536 : Nat) : Int) := by
      rw [show remI .u64 (z : Int) 65536 = ((z % 65536 : Nat) : Int) from rfl, cvN (by simp only [lim]; omega)]
    have e2 : quoI .u64 (z : Int) 65536 = ((z / 65536 : Nat) : Int) := quoN (by simp only [lim]; omega)
    rw [e1, e2, ← hs, ← e0, ← T_succ]
    by_cases h1 : i < dl 65536 n
    · rw [ltI_t (by omega), cond_true]; exact ih
    · rw [ltI_f (by omega), cond_false]
      by_cases hc : smc n q m i = 0
      · rw [hc, ltI_f (by omega), cond_false, fin i (by omega) (by omega) hc, Option.bind_some]
      · rw [ltI_t (by omega), cond_true]; exact ih
theorem small_eq (N n q m : Nat) (hq : q < 4294967296) (hm : m < 4294967296) (hN : dl 65536 n + 6 < N) (hN2 : N < 17592186044416) : fn_tillerref02_Small N (X n) (q : Int) (m : Int) = some (X (n * q + m)) := by
  unfold fn_tillerref02_Small t43
  have h := small_loop N n q m hq hm hN hN2 (dl 65536 n + 3) 0 N (by omega) (by omega)
  have e : smc n q m 0 = m := by unfold smc; simp [Nat.mod_one]
  rw [e] at h
  rw [cvN (by simp only [lim]; omega)]
  exact h

/-! ### how many bits -/
theorem b2 : (1 : Nat) < 2 := by decide
theorem len_loop (N : Nat) : ∀ (v f c : Nat), v < 65536 → dl 2 v < f → c + dl 2 v < 4611686018427387904 → l20_0 N f (c : Int) (v : Int) = some ((c + dl 2 v : Nat) : Int) := by
  intro v
  induction v using Nat.strongRecOn with
  | ind v ih =>
    intro f c hv hf hc
    obtain ⟨f, rfl⟩ : ∃ n', f = n' + 1 := ⟨f - 1, by omega⟩
    show s20_0 N (l20_0 N f) _ _ = _
    unfold s20_0
    by_cases h0 : v = 0
    · subst h0; rw [ltI_f (by omega), cond_false, dl_zero]; rfl
    · have hd := dl_pos b2 (Nat.pos_of_ne_zero h0)
      have e : quoI .u32 (v : Int) 2 = ((v / 2 : Nat) : Int) := quoN (by simp only [lim]; omega)
      rw [ltI_t (by omega), cond_true, succI c (by omega), e, ih (v / 2) (by omega) f (c + 1) (by omega) (by omega) (by omega), hd]
      congr 2; omega
theorem bits_down (n : Nat) : ∀ k, 0 < n / 2 ^ k → dl 2 n = k + dl 2 (n / 2 ^ k)
  | 0, _ => by simp
  | k + 1, h => by
    have e : n / 2 ^ (k + 1) = n / 2 ^ k / 2 := by rw [Nat.pow_succ, Nat.div_div_eq_div_mul]
    have h2 : 0 < n / 2 ^ k := by
      apply Nat.pos_of_ne_zero; intro h3; rw [e, h3] at h; simp at h
    rw [bits_down n k h2, dl_pos b2 h2, e]; omega
theorem len_eq (N n : Nat) (hN : 40 < N) (hd : dl 65536 n < 100000000000000000) : fn_tillerref02_Len N (X n) = some ((dl 2 n : Nat) : Int) := by
  unfold fn_tillerref02_Len t20
  by_cases hn : n = 0
  · subst hn; rw [D_len, dl_zero, dl_zero]; rfl
  · have hd1 := dl_nil (b := 65536) (n := n) b16
    obtain ⟨t1, t2⟩ := D_top b16 (Nat.pos_of_ne_zero hn)
    obtain ⟨l, hl⟩ : ∃ l, dl 65536 n = l + 1 := ⟨dl 65536 n - 1, by omega⟩
    rw [hl, Nat.add_sub_cancel] at t1 t2
    rw [D_len, hl, eqI_f (by omega), cond_false, predI l (by omega), leI_t (by omega), cond_true, ltI_t (by omega), cond_true, lrd_D b16, Nat.mod_eq_of_lt t2]
    have e : mulI .i64 16 (l : Int) = ((16 * l : Nat) : Int) := mulN (a := 16) (by simp only [lim]; omega)
    have hb : dl 2 (n / 65536 ^ l) ≤ 16 := dl_le b2 (by omega)
    rw [e, len_loop N _ N (16 * l) t2 (by omega) (by omega)]
    have h2 : n / 65536 ^ l = n / 2 ^ (16 * l) := by rw [Nat.pow_mul]
    rw [bits_down n (16 * l) (by rw [← h2]; exact t1), h2]
end Go.Proofs.YtoihjgfnocimjaaDoor.Rn

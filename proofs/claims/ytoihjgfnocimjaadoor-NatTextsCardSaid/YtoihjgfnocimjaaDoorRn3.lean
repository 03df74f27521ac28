/- PLAIN FACTS on the reference's numbers of chapter 2 (parts of 16 bits): Mul, Shr. No statement is proved here. -/
import Derived.Test.YtoihjgfnocimjaaDoorRn2
namespace Go.Proofs.YtoihjgfnocimjaaDoor.Rn
open Go Go.RowKit Go.Proofs.YtoihjgfnocimjaaDoor.Eng Go.Proofs.YtoihjgfnocimjaaDoor.Fns Go.Proofs.YtoihjgfnocimjaaDoor.Bw Go.Proofs.YtoihjgfnocimjaaDoor.Dig
set_option linter.unusedVariables false
set_option linter.unusedSimpArgs false
theorem mod16 (n i : Nat) : n % 65536 ^ (i + 1) = n % 65536 ^ i + 65536 ^ i * (n / 65536 ^ i % 65536) := by rw [Nat.pow_succ, Nat.mod_mul]
/-- a digit put in place of another one -/
theorem set_val (a i v : Nat) : a % 65536 ^ i + 65536 ^ i * v + 65536 ^ (i + 1) * (a / 65536 ^ (i + 1)) + 65536 ^ i * (a / 65536 ^ i % 65536) = a + 65536 ^ i * v := by
  have h := Nat.div_add_mod a (65536 ^ (i + 1))
  rw [mod16] at h
  omega
theorem mul_in (N x y i : Nat) (hi : i < dl 65536 x) (hl : dl 65536 x + dl 65536 y < 4611686018427387904) (E : List Int → List Int → Int → List Int → Option (List Int)) :
    ∀ (r k f acc c : Nat), k + r = dl 65536 y → r < f → c < 65536 → acc < 65536 ^ (i + dl 65536 y) → acc + c * 65536 ^ (i + k) = x % 65536 ^ i * y + x / 65536 ^ i % 65536 * 65536 ^ i * (y % 65536 ^ k) →
    l15_1 N E f (X x) (X y) (i : Int) (c : Int) (k : Int) (T 65536 (dl 65536 x + dl 65536 y) acc) = E (X x) (X y) ((i + 1 : Nat) : Int) (T 65536 (dl 65536 x + dl 65536 y) (x % 65536 ^ (i + 1) * y)) := by
  intro r
  induction r with
  | zero =>
    intro k f acc c hk hf hc hacc hinv
    obtain ⟨f, rfl⟩ : ∃ n', f = n' + 1 := ⟨f - 1, by omega⟩
    show s15_1 N _ _ _ _ _ _ _ _ = _
    unfold s15_1
    have hk : k = dl 65536 y := by omega
    subst hk
    have e1 : addI .i64 (i : Int) (dl 65536 y : Int) = ((i + dl 65536 y : Nat) : Int) := addN (by simp only [lim]; omega)
    rw [D_len, T_len, ltI_f (by omega), cond_false, e1, leI_t (by omega), cond_true, ltI_t (by omega), cond_true, succI i (by omega), Int.toNat_natCast, cvN (by simp only [lim]; omega), T_set b16 (by omega) hc]
    congr 2
    rw [Nat.mod_eq_of_lt (dl_lt b16 y)] at hinv
    rw [Nat.mod_eq_of_lt hacc, Nat.div_eq_of_lt (Nat.lt_of_lt_of_le hacc (Nat.pow_le_pow_right (by decide) (by omega))), Nat.mul_zero, Nat.add_zero, Nat.mul_comm _ c, hinv, mod16, Nat.add_mul, Nat.mul_comm (65536 ^ i)]
  | succ r ih =>
    intro k f acc c hk hf hc hacc hinv
    obtain ⟨f, rfl⟩ : ∃ n', f = n' + 1 := ⟨f - 1, by omega⟩
    show s15_1 N (l15_1 N E f) E _ _ _ _ _ _ = _
    unfold s15_1
    have e1 : addI .i64 (i : Int) (k : Int) = ((i + k : Nat) : Int) := addN (by simp only [lim]; omega)
    have la : x / 65536 ^ i % 65536 < 65536 := Nat.mod_lt _ (by decide)
    have lb : y / 65536 ^ k % 65536 < 65536 := Nat.mod_lt _ (by decide)
    have ld : acc / 65536 ^ (i + k) % 65536 < 65536 := Nat.mod_lt _ (by decide)
    have lm : x / 65536 ^ i % 65536 * (y / 65536 ^ k % 65536) ≤ 65535 * 65535 := Nat.mul_le_mul (by omega) (by omega)
    rw [D_len, D_len, T_len, ltI_t (by omega), cond_true, e1, leI_t (by omega), cond_true, ltI_t (by omega), cond_true, leI_t (by omega), cond_true, ltI_t (by omega), cond_true, leI_t (by omega), cond_true, cond_true, cond_true, cond_true,
      lrd_T (by omega), lrd_D b16, lrd_D b16, cvN (by simp only [lim]; omega), cvN (by simp only [lim]; omega), cvN (by simp only [lim]; omega), mulN (by simp only [lim]; omega), addN (by simp only [lim]; omega), addN (by simp only [lim]; omega),
      succI k (by omega), Int.toNat_natCast]
    have hy := mod16 y k
    have hs := set_val acc (i + k) ((c + acc / 65536 ^ (i + k) % 65536 + x / 65536 ^ i % 65536 * (y / 65536 ^ k % 65536)) % 65536)
    have hpow : 65536 ^ (i + k) = 65536 ^ i * 65536 ^ k := Nat.pow_add ..
    generalize ha : x / 65536 ^ i % 65536 = a at *
    generalize hb : y / 65536 ^ k % 65536 = b at *
    generalize hd : acc / 65536 ^ (i + k) % 65536 = d at *
    generalize hz : c + d + a * b = z at *
    have e2 : quoI .u64 (z : Int) 65536 = ((z / 65536 : Nat) : Int) := quoN (by simp only [lim]; omega)
    have e3 : cvI .u32 (remI .u64 (z : Int) 65536) = ((z % 65536 : Nat) : Int) := by
      rw [show remI .u64 (z : Int) 65536 = ((z % 65536 : Nat) : Int) from rfl, cvN (by simp only [lim]; omega)]
    rw [e2, e3, T_set b16 (by omega) (Nat.mod_lt _ (by decide))]
    generalize hacc' : acc % 65536 ^ (i + k) + 65536 ^ (i + k) * (z % 65536) + 65536 ^ (i + k + 1) * (acc / 65536 ^ (i + k + 1)) = acc' at *
    refine ih (k + 1) f acc' (z / 65536) (by omega) (by omega) (by omega) ?_ ?_
    · -- the digits stay below
      have h1 : acc / 65536 ^ (i + k + 1) < 65536 ^ (dl 65536 y - k - 1) := by
        rw [Nat.div_lt_iff_lt_mul (p16 _), ← Nat.pow_add]
        rw [show dl 65536 y - k - 1 + (i + k + 1) = i + dl 65536 y by omega]; exact hacc
      have h2 : 65536 ^ (i + k + 1) * (acc / 65536 ^ (i + k + 1) + 1) ≤ 65536 ^ (i + k + 1) * 65536 ^ (dl 65536 y - k - 1) := Nat.mul_le_mul_left _ h1
      rw [← Nat.pow_add, show i + k + 1 + (dl 65536 y - k - 1) = i + dl 65536 y by omega, Nat.mul_add, Nat.mul_one] at h2
      have h3 : acc % 65536 ^ (i + k) < 65536 ^ (i + k) := Nat.mod_lt _ (p16 _)
      have h4 : 65536 ^ (i + k) * (z % 65536 + 1) ≤ 65536 ^ (i + k) * 65536 := Nat.mul_le_mul_left _ (Nat.mod_lt _ (by decide))
      rw [← Nat.pow_succ, Nat.mul_add, Nat.mul_one, Nat.succ_eq_add_one] at h4
      omega
    · have hz2 := Nat.div_add_mod z 65536
      rw [hy, Nat.mul_add, ← Nat.add_assoc i k 1, Nat.pow_succ, ← Nat.add_assoc, ← hinv]
      have e4 : a * 65536 ^ i * (65536 ^ k * b) = 65536 ^ (i + k) * (a * b) := by
        rw [hpow, ← Nat.mul_assoc, Nat.mul_comm a, Nat.mul_assoc, Nat.mul_assoc, ← Nat.mul_assoc a, Nat.mul_comm a, Nat.mul_assoc, Nat.mul_assoc]
      rw [e4]
      generalize 65536 ^ (i + k) = P at *
      have e5 : z / 65536 * (P * 65536) = P * (65536 * (z / 65536)) := by rw [Nat.mul_comm (z / 65536), Nat.mul_assoc]
      have e6 : P * z = P * (65536 * (z / 65536)) + P * (z % 65536) := by rw [← Nat.mul_add, hz2]
      have e7 : P * z = P * c + P * d + P * (a * b) := by rw [← hz, Nat.mul_add, Nat.mul_add]
      rw [e5, Nat.mul_comm c]
      omega
theorem mul_out (N x y : Nat) (hl : dl 65536 x + dl 65536 y + 2 < N) (hN : N < 17592186044416) : ∀ (r i f : Nat), i + r = dl 65536 x → r < f →
    l15_0 N f (X x) (X y) (i : Int) (T 65536 (dl 65536 x + dl 65536 y) (x % 65536 ^ i * y)) = some (X (x * y)) := by
  have hx := dl_lt b16 x
  have hy := dl_lt b16 y
  intro r
  induction r with
  | zero =>
    intro i f hi hf
    obtain ⟨f, rfl⟩ : ∃ n', f = n' + 1 := ⟨f - 1, by omega⟩
    show s15_0 N _ _ _ _ _ = _
    unfold s15_0
    rw [D_len, ltI_f (by omega), cond_false, trim_eq N _ _ (by omega) (by omega), Option.bind_some, show i = dl 65536 x by omega, Nat.mod_eq_of_lt hx]
    congr 2
    apply Nat.mod_eq_of_lt
    rw [Nat.pow_add]
    exact Nat.mul_lt_mul'' hx hy
  | succ r ih =>
    intro i f hi hf
    obtain ⟨f, rfl⟩ : ∃ n', f = n' + 1 := ⟨f - 1, by omega⟩
    show s15_0 N (l15_1 N (l15_0 N f) N) _ _ _ _ = _
    unfold s15_0
    rw [D_len, ltI_t (by omega), cond_true]
    have hacc : x % 65536 ^ i * y < 65536 ^ (i + dl 65536 y) := by
      rw [Nat.pow_add]
      exact Nat.mul_lt_mul'' (Nat.mod_lt _ (p16 i)) hy
    refine Eq.trans (mul_in N x y i (by omega) (by omega) (l15_0 N f) (dl 65536 y) 0 N (x % 65536 ^ i * y) 0 (by omega) (by omega) (by omega) hacc (by simp [Nat.mod_one])) ?_
    exact ih (i + 1) f (by omega) (by omega)
theorem mul_eq (N x y : Nat) (hl : dl 65536 x + dl 65536 y + 2 < N) (hN : N < 17592186044416) : fn_tillerref02_Mul N (X x) (X y) = some (X (x * y)) := by
  unfold fn_tillerref02_Mul t15
  have e1 : addI .i64 (dl 65536 x : Int) (dl 65536 y : Int) = ((dl 65536 x + dl 65536 y : Nat) : Int) := addN (by simp only [lim]; omega)
  rw [D_len, D_len, e1, leI_t (by omega), cond_true, leI_t (by omega), cond_true, Int.toNat_natCast]
  have h := mul_out N x y hl hN (dl 65536 x) 0 N (by omega) (by omega)
  rw [Nat.pow_zero, Nat.mod_one, Nat.zero_mul, T_nought (by decide)] at h
  exact h

/-! ### moved down -/
theorem digit_down (n i t : Nat) (ht : t ≤ 15) : n / 65536 ^ i / 2 ^ t % 65536 = n / 65536 ^ i % 65536 / 2 ^ t + n / 65536 ^ (i + 1) % 65536 % 2 ^ t * (65536 / 2 ^ t) := by
  have e : 65536 = 2 ^ t * 2 ^ (16 - t) := by rw [← Nat.pow_add, show t + (16 - t) = 16 by omega]
  have e2 : 65536 / 2 ^ t = 2 ^ (16 - t) := Nat.div_eq_of_eq_mul_right (Nat.pow_pos (by decide)) e
  rw [e2, Nat.pow_succ, ← Nat.div_div_eq_div_mul]
  generalize n / 65536 ^ i = q
  have h1 : q = 65536 * (q / 65536) + q % 65536 := (Nat.div_add_mod q 65536).symm
  have hp : 0 < 2 ^ t := Nat.pow_pos (by decide)
  have hp2 : 0 < 2 ^ (16 - t) := Nat.pow_pos (by decide)
  have h2 : q / 2 ^ t = q % 65536 / 2 ^ t + 2 ^ (16 - t) * (q / 65536) := by
    conv => lhs; rw [h1]
    rw [show 65536 * (q / 65536) = 2 ^ t * (2 ^ (16 - t) * (q / 65536)) by rw [← Nat.mul_assoc, ← e], Nat.add_comm, Nat.add_mul_div_left _ _ hp]
  have h3 : q % 65536 / 2 ^ t < 2 ^ (16 - t) := by
    rw [Nat.div_lt_iff_lt_mul hp, Nat.mul_comm, ← e]; exact Nat.mod_lt _ (by decide)
  have h4 : q / 65536 % 65536 % 2 ^ t = q / 65536 % 2 ^ t := Nat.mod_mod_of_dvd _ ⟨2 ^ (16 - t), e⟩
  rw [h4, h2]
  have h5 : 65536 = 2 ^ (16 - t) * 2 ^ t := by rw [Nat.mul_comm]; exact e
  clear h4 h2 h1
  generalize q % 65536 / 2 ^ t = A at *
  generalize q / 65536 = B at *
  conv => lhs; rw [h5]
  rw [Nat.mod_mul, Nat.add_mul_mod_self_left, Nat.mod_eq_of_lt h3, Nat.add_mul_div_left _ _ hp2, Nat.div_eq_of_lt h3, Nat.zero_add, Nat.mul_comm (2 ^ (16 - t))]
theorem lost_succ (n i : Nat) : (decide (n % 65536 ^ (i + 1) ≠ 0)) = (decide (n % 65536 ^ i ≠ 0) || decide (n / 65536 ^ i % 65536 ≠ 0)) := by
  rw [mod16]
  have hp := p16 i
  by_cases h1 : n % 65536 ^ i = 0
  · by_cases h2 : n / 65536 ^ i % 65536 = 0
    · rw [h1, h2]; simp
    · have : 0 < 65536 ^ i * (n / 65536 ^ i % 65536) := Nat.mul_pos hp (by omega)
      rw [decide_eq_true (by omega), decide_eq_true (p := n / 65536 ^ i % 65536 ≠ 0) h2]; simp
  · rw [decide_eq_true (by omega), decide_eq_true (p := n % 65536 ^ i ≠ 0) h1]; simp
theorem orz (g0 P g : Nat) (hp : 0 < P) : (decide (g0 ≠ 0) || decide (g ≠ 0)) = decide (g0 + P * g ≠ 0) := by
  by_cases h3 : g0 = 0 <;> by_cases h4 : g = 0 <;> simp [h3, h4] <;> first | omega | exact Nat.ne_of_gt (Nat.mul_pos hp (by omega))
end Go.Proofs.YtoihjgfnocimjaaDoor.Rn

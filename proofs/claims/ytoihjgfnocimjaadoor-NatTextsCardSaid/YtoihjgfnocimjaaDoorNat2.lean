/- PLAIN FACTS on the program's numbers of chapter 2 (words of 32 bits): times, Mul, up, Shl, Len, Pow. No statement is proved here. -/
import Derived.Test.YtoihjgfnocimjaaDoorNat1
namespace Go.Proofs.YtoihjgfnocimjaaDoor.Nt
open Go Go.RowKit Go.Proofs.YtoihjgfnocimjaaDoor.Eng Go.Proofs.YtoihjgfnocimjaaDoor.Fns Go.Proofs.YtoihjgfnocimjaaDoor.Bw Go.Proofs.YtoihjgfnocimjaaDoor.Dig
open Go.Proofs.YtoihjgfnocimjaaDoor.Rn (Y b32 cmpZ)
set_option linter.unusedVariables false
set_option linter.unusedSimpArgs false
theorem mod32 (n i : Nat) : n % 4294967296 ^ (i + 1) = n % 4294967296 ^ i + 4294967296 ^ i * (n / 4294967296 ^ i % 4294967296) := by rw [Nat.pow_succ, Nat.mod_mul]
/-- a digit put in place of another one -/
theorem set_val (a i v : Nat) : a % 4294967296 ^ i + 4294967296 ^ i * v + 4294967296 ^ (i + 1) * (a / 4294967296 ^ (i + 1)) + 4294967296 ^ i * (a / 4294967296 ^ i % 4294967296) = a + 4294967296 ^ i * v := by
  have h := Nat.div_add_mod a (4294967296 ^ (i + 1))
  rw [mod32] at h
  omega
theorem mul_in (N x y i : Nat) (hi : i < dl 4294967296 x) (hl : dl 4294967296 x + dl 4294967296 y < 4611686018427387904) (E : List Int → List Int → Int → Int → List Int → Option (List Int)) :
    ∀ (r k f acc c : Nat), k + r = dl 4294967296 y → r < f → c < 4294967296 → acc < 4294967296 ^ (i + dl 4294967296 y) → acc + c * 4294967296 ^ (i + k) = x % 4294967296 ^ i * y + x / 4294967296 ^ i % 4294967296 * 4294967296 ^ i * (y % 4294967296 ^ k) →
    l37_1 N E f (Y y) (i : Int) ((x / 4294967296 ^ i % 4294967296 : Nat) : Int) (c : Int) (Y x) (dl 4294967296 x : Int) (i : Int) (Y y) (dl 4294967296 y : Int) (k : Int) (T 4294967296 (dl 4294967296 x + dl 4294967296 y) acc) = E (Y y) (Y x) (dl 4294967296 x : Int) ((i + 1 : Nat) : Int) (T 4294967296 (dl 4294967296 x + dl 4294967296 y) (x % 4294967296 ^ (i + 1) * y)) := by
  intro r
  induction r with
  | zero =>
    intro k f acc c hk hf hc hacc hinv
    obtain ⟨f, rfl⟩ : ∃ n', f = n' + 1 := ⟨f - 1, by omega⟩
    show s37_1 N _ _ _ _ _ _ _ _ _ _ _ _ _ = _
    unfold s37_1
    have hk : k = dl 4294967296 y := by omega
    subst hk
    have e1 : addI .i64 (i : Int) (dl 4294967296 y : Int) = ((i + dl 4294967296 y : Nat) : Int) := addN (by simp only [lim]; omega)
    rw [D_len, ltI_f (by omega), cond_false, e1, T_len, leI_t (by omega), cond_true, ltI_t (by omega), cond_true, succI i (by omega), Int.toNat_natCast, cvU32, Nat.mod_eq_of_lt hc, T_set b32 (by omega) hc]
    congr 2
    rw [Nat.mod_eq_of_lt (dl_lt b32 y)] at hinv
    rw [Nat.mod_eq_of_lt hacc, Nat.div_eq_of_lt (Nat.lt_of_lt_of_le hacc (Nat.pow_le_pow_right (by decide) (by omega))), Nat.mul_zero, Nat.add_zero, Nat.mul_comm _ c, hinv, mod32, Nat.add_mul, Nat.mul_comm (4294967296 ^ i)]
  | succ r ih =>
    intro k f acc c hk hf hc hacc hinv
    obtain ⟨f, rfl⟩ : ∃ n', f = n' + 1 := ⟨f - 1, by omega⟩
    show s37_1 N (l37_1 N E f) E _ _ _ _ _ _ _ _ _ _ _ = _
    unfold s37_1
    have e1 : addI .i64 (i : Int) (k : Int) = ((i + k : Nat) : Int) := addN (by simp only [lim]; omega)
    have la : x / 4294967296 ^ i % 4294967296 < 4294967296 := Nat.mod_lt _ (by decide)
    have lb : y / 4294967296 ^ k % 4294967296 < 4294967296 := Nat.mod_lt _ (by decide)
    have ld : acc / 4294967296 ^ (i + k) % 4294967296 < 4294967296 := Nat.mod_lt _ (by decide)
    have lm : x / 4294967296 ^ i % 4294967296 * (y / 4294967296 ^ k % 4294967296) ≤ 4294967295 * 4294967295 := Nat.mul_le_mul (by omega) (by omega)
    rw [D_len, T_len, ltI_t (by omega), cond_true, leI_t (by omega), cond_true, cond_true, e1, leI_t (by omega), cond_true, ltI_t (by omega), cond_true, cond_true, cond_true,
      lrd_T (by omega), lrd_D b32, cvN (by simp only [lim]; omega), cvN (by simp only [lim]; omega), cvN (by simp only [lim]; omega), mulN (by simp only [lim]; omega), addN (by simp only [lim]; omega), addN (by simp only [lim]; omega),
      succI k (by omega), Int.toNat_natCast]
    have hy := mod32 y k
    have hs := set_val acc (i + k) ((c + (x / 4294967296 ^ i % 4294967296 * (y / 4294967296 ^ k % 4294967296) + acc / 4294967296 ^ (i + k) % 4294967296)) % 4294967296)
    have hpow : 4294967296 ^ (i + k) = 4294967296 ^ i * 4294967296 ^ k := Nat.pow_add ..
    generalize ha : x / 4294967296 ^ i % 4294967296 = a at *
    generalize hb : y / 4294967296 ^ k % 4294967296 = b at *
    generalize hd : acc / 4294967296 ^ (i + k) % 4294967296 = d at *
    generalize hz : c + (a * b + d) = z at *
    have e2 : shrI .u64 (z : Int) 32 = ((z / 4294967296 : Nat) : Int) := by
      rw [show (32 : Int) = ((32 : Nat) : Int) from rfl, shrN (by decide)]
    have e3 : cvI .u32 (z : Int) = ((z % 4294967296 : Nat) : Int) := cvU32 z
    rw [e2, e3, T_set b32 (by omega) (Nat.mod_lt _ (by decide))]
    generalize hacc' : acc % 4294967296 ^ (i + k) + 4294967296 ^ (i + k) * (z % 4294967296) + 4294967296 ^ (i + k + 1) * (acc / 4294967296 ^ (i + k + 1)) = acc' at *
    refine ih (k + 1) f acc' (z / 4294967296) (by omega) (by omega) (by omega) ?_ ?_
    · -- the digits stay below
      have h1 : acc / 4294967296 ^ (i + k + 1) < 4294967296 ^ (dl 4294967296 y - k - 1) := by
        rw [Nat.div_lt_iff_lt_mul (p32 _), ← Nat.pow_add]
        rw [show dl 4294967296 y - k - 1 + (i + k + 1) = i + dl 4294967296 y by omega]; exact hacc
      have h2 : 4294967296 ^ (i + k + 1) * (acc / 4294967296 ^ (i + k + 1) + 1) ≤ 4294967296 ^ (i + k + 1) * 4294967296 ^ (dl 4294967296 y - k - 1) := Nat.mul_le_mul_left _ h1
      rw [← Nat.pow_add, show i + k + 1 + (dl 4294967296 y - k - 1) = i + dl 4294967296 y by omega, Nat.mul_add, Nat.mul_one] at h2
      have h3 : acc % 4294967296 ^ (i + k) < 4294967296 ^ (i + k) := Nat.mod_lt _ (p32 _)
      have h4 : 4294967296 ^ (i + k) * (z % 4294967296 + 1) ≤ 4294967296 ^ (i + k) * 4294967296 := Nat.mul_le_mul_left _ (Nat.mod_lt _ (by decide))
      rw [← Nat.pow_succ, Nat.mul_add, Nat.mul_one, Nat.succ_eq_add_one] at h4
      omega
    · have hz2 := Nat.div_add_mod z 4294967296
      rw [hy, Nat.mul_add, ← Nat.add_assoc i k 1, Nat.pow_succ, ← Nat.add_assoc, ← hinv]
      have e4 : a * 4294967296 ^ i * (4294967296 ^ k * b) = 4294967296 ^ (i + k) * (a * b) := by
        rw [hpow, ← Nat.mul_assoc, Nat.mul_comm a, Nat.mul_assoc, Nat.mul_assoc, ← Nat.mul_assoc a, Nat.mul_comm a, Nat.mul_assoc, Nat.mul_assoc]
      rw [e4]
      generalize 4294967296 ^ (i + k) = P at *
      have e5 : z / 4294967296 * (P * 4294967296) = P * (4294967296 * (z / 4294967296)) := by rw [Nat.mul_comm (z / 4294967296), Nat.mul_assoc]
      have e6 : P * z = P * (4294967296 * (z / 4294967296)) + P * (z % 4294967296) := by rw [← Nat.mul_add, hz2]
      have e7 : P * z = P * c + (P * (a * b) + P * d) := by rw [← hz, Nat.mul_add, Nat.mul_add]
      rw [e5, Nat.mul_comm c]
      omega
theorem mul_out (N x y : Nat) (hl : dl 4294967296 x + dl 4294967296 y + 2 < N) (hN : N < 17592186044416) : ∀ (r i f : Nat), i + r = dl 4294967296 x → r < f →
    l37_0 N f (Y y) (Y x) (dl 4294967296 x : Int) (i : Int) (T 4294967296 (dl 4294967296 x + dl 4294967296 y) (x % 4294967296 ^ i * y)) = some (Y (x * y)) := by
  have hx := dl_lt b32 x
  have hy := dl_lt b32 y
  intro r
  induction r with
  | zero =>
    intro i f hi hf
    obtain ⟨f, rfl⟩ : ∃ n', f = n' + 1 := ⟨f - 1, by omega⟩
    show s37_0 N _ _ _ _ _ _ = _
    unfold s37_0
    have hxy : x * y < 4294967296 ^ (dl 4294967296 x + dl 4294967296 y) := by
      rw [Nat.pow_add]
      exact Nat.mul_lt_mul'' hx hy
    rw [ltI_f (by omega), cond_false, show i = dl 4294967296 x by omega, Nat.mod_eq_of_lt hx, trim_eq N _ _ (by omega) (by omega) hxy, Option.bind_some]
  | succ r ih =>
    intro i f hi hf
    obtain ⟨f, rfl⟩ : ∃ n', f = n' + 1 := ⟨f - 1, by omega⟩
    show s37_0 N (l37_1 N (l37_0 N f) N) _ _ _ _ _ = _
    unfold s37_0
    rw [D_len, ltI_t (by omega), cond_true, leI_t (by omega), cond_true, cond_true, lrd_D b32, D_len]
    have hacc : x % 4294967296 ^ i * y < 4294967296 ^ (i + dl 4294967296 y) := by
      rw [Nat.pow_add]
      exact Nat.mul_lt_mul'' (Nat.mod_lt _ (p32 i)) hy
    refine Eq.trans (mul_in N x y i (by omega) (by omega) (l37_0 N f) (dl 4294967296 y) 0 N (x % 4294967296 ^ i * y) 0 (by omega) (by omega) (by omega) hacc (by simp [Nat.mod_one])) ?_
    exact ih (i + 1) f (by omega) (by omega)
theorem times_eq (N x y : Nat) (hl : dl 4294967296 x + dl 4294967296 y + 2 < N) (hN : N < 17592186044416) : fn_nat_times N (Y x) (Y y) = some (Y (x * y)) := by
  unfold fn_nat_times t37
  have e1 : addI .i64 (dl 4294967296 x : Int) (dl 4294967296 y : Int) = ((dl 4294967296 x + dl 4294967296 y : Nat) : Int) := addN (by simp only [lim]; omega)
  rw [D_len, D_len, e1, leI_t (by omega), cond_true, leI_t (by omega), cond_true, Int.toNat_natCast]
  have h := mul_out N x y hl hN (dl 4294967296 x) 0 N (by omega) (by omega)
  rw [Nat.pow_zero, Nat.mod_one, Nat.zero_mul, T_nought (by decide)] at h
  exact h
/-! ### moved up -/
theorem w32 (n : Int) (h0 : 0 ≤ n) (h1 : n < 2 ^ 32) : IntKind.u32.wrap n = n := by rw [wrap_u32]; omega
theorem or32 {a b t : Nat} (ht : t ≤ 32) (ha : a < 2 ^ t) (hb : b < 2 ^ 32) (hd : 2 ^ t ∣ b) : orI .u32 (a : Int) (b : Int) = ((a + b : Nat) : Int) := by
  have h2 : a < 2 ^ 32 := Nat.lt_of_lt_of_le ha (Nat.pow_le_pow_right (by decide) ht)
  have h := (bits_nat .u32 32 (by decide) w32 a b h2 hb).2
  unfold orI
  rw [h]
  obtain ⟨q, rfl⟩ := hd
  rw [Nat.or_comm, ← Nat.two_pow_add_eq_or_of_lt ha, Nat.add_comm]
theorem pow2_32 (q : Nat) : 2 ^ (32 * q) = 4294967296 ^ q := by rw [Nat.pow_mul]
theorem up_loop (N n s q t L : Nat) (hq : q = s / 32) (ht : t = s % 32) (hL : L = dl 4294967296 n + q + 1) (hs : s < 4611686018427387904) (hN : L < N) (hN2 : N < 17592186044416) : ∀ (r i f : Nat), i + r = dl 4294967296 n → r < f →
    l41_0 N f (s : Int) (t : Int) (Y n) (dl 4294967296 n : Int) (i : Int) (T 4294967296 L (n % 4294967296 ^ i * 2 ^ s)) = some (Y (n * 2 ^ s)) := by
  have h2s : 2 ^ s = 4294967296 ^ q * 2 ^ t := by
    rw [← pow2_32, ← Nat.pow_add]; congr 1; omega
  have h2t : 2 ^ t ≤ 2147483648 := Nat.le_trans (Nat.pow_le_pow_right (by decide) (show t ≤ 31 by omega)) (by decide)
  have h2p : 0 < 2 ^ t := Nat.pow_pos (by decide)
  have hdv : 2 ^ t ∣ 4294967296 := by rw [show 4294967296 = 2 ^ 32 from rfl]; exact Nat.pow_dvd_pow 2 (by omega)
  intro r
  induction r with
  | zero =>
    intro i f hi hf
    obtain ⟨f, rfl⟩ : ∃ n', f = n' + 1 := ⟨f - 1, by omega⟩
    show s41_0 N _ _ _ _ _ _ _ = _
    unfold s41_0
    have hi : i = dl 4294967296 n := by omega
    have hn := dl_lt b32 n
    rw [← hi] at hn
    have hlt : n * 2 ^ s < 4294967296 ^ L := by
      rw [h2s, hL, ← hi, Nat.pow_succ, Nat.pow_add]
      calc n * (4294967296 ^ q * 2 ^ t) < 4294967296 ^ i * (4294967296 ^ q * 2 ^ t) := Nat.mul_lt_mul_of_pos_right hn (Nat.mul_pos (p32 q) h2p)
        _ = 4294967296 ^ i * 4294967296 ^ q * 2 ^ t := by rw [Nat.mul_assoc]
        _ ≤ 4294967296 ^ i * 4294967296 ^ q * 4294967296 := Nat.mul_le_mul_left _ (by omega)
    rw [ltI_f (by omega), cond_false, Nat.mod_eq_of_lt hn, trim_eq N L _ (by omega) hN hlt, Option.bind_some]
  | succ r ih =>
    intro i f hi hf
    obtain ⟨f, rfl⟩ : ∃ n', f = n' + 1 := ⟨f - 1, by omega⟩
    show s41_0 N (l41_0 N f) _ _ _ _ _ _ = _
    unfold s41_0
    have e1 : addI .i64 (i : Int) (quoI .i64 (s : Int) 32) = ((q + i : Nat) : Int) := by
      rw [show quoI .i64 (s : Int) 32 = ((s / 32 : Nat) : Int) from quoN (by simp only [lim]; omega), addN (by simp only [lim]; omega), ← hq, Nat.add_comm]
    have e2 : addI .i64 ((q + i : Nat) : Int) 1 = ((q + i + 1 : Nat) : Int) := succI _ (by omega)
    have hx : n / 4294967296 ^ i % 4294967296 < 4294967296 := Nat.mod_lt _ (by decide)
    have hm : n % 4294967296 ^ i < 4294967296 ^ i := Nat.mod_lt _ (p32 i)
    have hsucc : n % 4294967296 ^ (i + 1) * 2 ^ s = n % 4294967296 ^ i * 2 ^ s + 4294967296 ^ (q + i) * (n / 4294967296 ^ i % 4294967296 * 2 ^ t) := by
      rw [mod32, Nat.add_mul, h2s, Nat.pow_add]
      congr 1
      simp only [Nat.mul_assoc, Nat.mul_left_comm]
    have ih := ih (i + 1) f (by omega) (by omega)
    rw [hsucc] at ih
    have hplt : n % 4294967296 ^ i * 2 ^ s < 4294967296 ^ (q + i) * 2 ^ t := by
      rw [h2s, Nat.pow_add, ← Nat.mul_assoc, Nat.mul_comm (4294967296 ^ q)]
      apply Nat.mul_lt_mul_of_pos_right _ h2p
      exact Nat.mul_lt_mul_of_pos_right hm (p32 q)
    generalize hP : n % 4294967296 ^ i * 2 ^ s = P at *
    generalize hxx : n / 4294967296 ^ i % 4294967296 = x at *
    have hxt : x * 2 ^ t ≤ 4294967295 * 2147483648 := Nat.mul_le_mul (by omega) h2t
    have hc : P / 4294967296 ^ (q + i) < 2 ^ t := by rw [Nat.div_lt_iff_lt_mul (p32 _), Nat.mul_comm]; exact hplt
    have hPB : P < 4294967296 ^ (q + i + 1) := by
      rw [Nat.pow_succ]
      exact Nat.lt_of_lt_of_le hplt (Nat.mul_le_mul_left _ (by omega))
    have hdm := Nat.div_add_mod P (4294967296 ^ (q + i))
    have hQ0 := p32 (q + i)
    rw [ltI_t (by omega), cond_true, leI_t (by omega), cond_true, D_len, ltI_t (by omega), cond_true, ltI_f (by omega), cond_false, e1, leI_t (by omega), cond_true, T_len, ltI_t (by omega), cond_true, cond_true, cond_true, e2, leI_t (by omega), cond_true,
      List.length_set, T_len, ltI_t (by omega), cond_true, succI i (by omega), lrd_D b32, hxx, lrd_T (by omega), cvN (a := x) (by simp only [lim]; omega), Int.toNat_natCast, Int.toNat_natCast]
    have e3 : shlI .u64 (x : Int) (t : Int) = ((x * 2 ^ t : Nat) : Int) := by
      rw [shlI_n (by omega), Nat.mod_eq_of_lt (by omega)]
    have e4 : shrI .u64 ((x * 2 ^ t : Nat) : Int) 32 = ((x * 2 ^ t / 4294967296 : Nat) : Int) := by
      rw [show (32 : Int) = ((32 : Nat) : Int) from rfl, shrN (by decide)]
    rw [e3, e4, cvU32, cvU32, Nat.mod_eq_of_lt (show P / 4294967296 ^ (q + i) < 4294967296 by omega)]
    have hlow : 2 ^ t ∣ x * 2 ^ t % 4294967296 := (Nat.dvd_mod_iff hdv).2 (Nat.dvd_mul_left _ _)
    have hlowlt : x * 2 ^ t % 4294967296 < 4294967296 := Nat.mod_lt _ (by decide)
    rw [or32 (t := t) (by omega) hc (by omega) hlow]
    have hsum : P / 4294967296 ^ (q + i) + x * 2 ^ t % 4294967296 < 4294967296 := by
      obtain ⟨u, hu⟩ := hlow
      obtain ⟨v, hv⟩ := hdv
      have : u < v := by
        apply Nat.lt_of_not_le; intro h
        have := Nat.mul_le_mul_left (2 ^ t) h
        omega
      have := Nat.mul_le_mul_left (2 ^ t) this
      rw [Nat.mul_succ] at this
      omega
    have hyB : x * 2 ^ t / 4294967296 < 4294967296 := by omega
    rw [Nat.mod_eq_of_lt hyB, T_set b32 (by omega) hsum, T_set b32 (by omega) hyB]
    have hz : P / 4294967296 ^ (q + i + 1) = 0 := Nat.div_eq_of_lt hPB
    rw [hz, Nat.mul_zero, Nat.add_zero]
    generalize hg : P / 4294967296 ^ (q + i) = g at *
    generalize hy : x * 2 ^ t = y at *
    have hQs : 4294967296 ^ (q + i + 1) = 4294967296 ^ (q + i) * 4294967296 := Nat.pow_succ ..
    have hQss : 4294967296 ^ (q + i + 1 + 1) = 4294967296 ^ (q + i + 1) * 4294967296 := Nat.pow_succ ..
    generalize hZ : P % 4294967296 ^ (q + i) + 4294967296 ^ (q + i) * (g + y % 4294967296) = Z
    have hml : P % 4294967296 ^ (q + i) < 4294967296 ^ (q + i) := Nat.mod_lt _ hQ0
    have hZlt : Z < 4294967296 ^ (q + i + 1) := by
      have := Nat.mul_le_mul_left (4294967296 ^ (q + i)) hsum
      rw [Nat.mul_succ] at this
      omega
    have hfin : Z % 4294967296 ^ (q + i + 1) + 4294967296 ^ (q + i + 1) * (y / 4294967296) + 4294967296 ^ (q + i + 1 + 1) * (Z / 4294967296 ^ (q + i + 1 + 1)) = P + 4294967296 ^ (q + i) * y := by
      rw [Nat.mod_eq_of_lt hZlt, Nat.div_eq_of_lt (Nat.lt_of_lt_of_le hZlt (by rw [hQss]; omega)), Nat.mul_zero, Nat.add_zero, hQs, ← hZ]
      have hyd := Nat.div_add_mod y 4294967296
      have e9 : 4294967296 ^ (q + i) * y = 4294967296 ^ (q + i) * (4294967296 * (y / 4294967296)) + 4294967296 ^ (q + i) * (y % 4294967296) := by rw [← Nat.mul_add, hyd]
      rw [e9, Nat.mul_add, Nat.mul_assoc]
      omega
    rw [hfin]
    exact ih
theorem up_eq (N n s : Nat) (hs : s < 4611686018427387904) (hN : dl 4294967296 n + s / 32 + 2 < N) (hN2 : N < 17592186044416) : fn_nat_up N (Y n) (s : Int) = some (Y (n * 2 ^ s)) := by
  unfold fn_nat_up t41
  rw [D_len]
  by_cases h0 : n = 0
  · subst h0
    rw [dl_zero, Nat.zero_mul, Y, D_nil]; rfl
  · have hd : dl 4294967296 n ≠ 0 := fun h => h0 ((dl_nil b32).1 h)
    have e1 : addI .i64 (addI .i64 (dl 4294967296 n : Int) (quoI .i64 (s : Int) 32)) 1 = ((dl 4294967296 n + s / 32 + 1 : Nat) : Int) := by
      rw [show quoI .i64 (s : Int) 32 = ((s / 32 : Nat) : Int) from quoN (by simp only [lim]; omega), addN (by simp only [lim]; omega), succI _ (by omega)]
    rw [eqI_f (by omega), cond_false, e1, leI_t (by omega), cond_true, leI_t (by omega), cond_true, Int.toNat_natCast]
    have h := up_loop N n s (s / 32) (s % 32) _ rfl rfl rfl hs (by omega) hN2 (dl 4294967296 n) 0 N (by omega) (by omega)
    rw [Nat.pow_zero, Nat.mod_one, Nat.zero_mul, T_nought (by decide)] at h
    exact h
theorem shl_eq (N n s : Nat) (hn : dl 4294967296 n ≤ 8192) (hN : 20000 < N) (hN2 : N < 17592186044416) : fn_nat_Shl N (Y n) (s : Int) = some (if n = 0 then ([], none) else if 262144 < s then ([], some 2) else bnd32 (n * 2 ^ s)) := by
  unfold fn_nat_Shl
  rw [check_Y N n hn, Option.bind_some, show isNoneI none = true from rfl, Bool.not_true, cond_false, ltI_f (by omega), cond_false, D_len]
  by_cases h0 : n = 0
  · subst h0; rw [dl_zero, if_pos rfl]; rfl
  · have hd : dl 4294967296 n ≠ 0 := fun h => h0 ((dl_nil b32).1 h)
    rw [eqI_f (by omega), cond_false, if_neg h0]
    by_cases h1 : 262144 < s
    · rw [ltI_t (by omega), cond_true, if_pos h1]
    · obtain ⟨K, hK⟩ : ∃ K, K = 8193 := ⟨_, rfl⟩
      have hd2 : dl 4294967296 (n * 2 ^ s) ≤ dl 4294967296 n + K := by
        apply dl_le b32
        rw [Nat.pow_add]
        apply Nat.mul_lt_mul'' (dl_lt b32 n)
        rw [← pow2_32]
        exact Nat.pow_lt_pow_right (by decide) (by omega)
      rw [ltI_f (by omega), cond_false, if_neg h1, up_eq N n s (by omega) (by omega) hN2, Option.bind_some, bounded_Y N _ (by omega) (by omega), Option.bind_some]
theorem shl_bad (N : Nat) (xs : List Int) (s : Int) (h : fn_nat_Check N xs = some (some 1)) : fn_nat_Shl N xs s = some ([], some 1) := by
  unfold fn_nat_Shl
  rw [h, Option.bind_some]; rfl
theorem shl_neg (N n : Nat) (s : Int) (hn : dl 4294967296 n ≤ 8192) (h : s < 0) : fn_nat_Shl N (Y n) s = some ([], some 1) := by
  unfold fn_nat_Shl
  rw [check_Y N n hn, Option.bind_some, show isNoneI none = true from rfl, Bool.not_true, cond_false, ltI_t h, cond_true]
/-! ### how many bits -/
theorem b2 : (1 : Nat) < 2 := by decide
theorem bits_down (n : Nat) : ∀ k, 0 < n / 2 ^ k → dl 2 n = k + dl 2 (n / 2 ^ k)
  | 0, _ => by simp
  | k + 1, h => by
    have e : n / 2 ^ (k + 1) = n / 2 ^ k / 2 := by rw [Nat.pow_succ, Nat.div_div_eq_div_mul]
    have h2 : 0 < n / 2 ^ k := by
      apply Nat.pos_of_ne_zero; intro h3; rw [e, h3] at h; simp at h
    rw [bits_down n k h2, dl_pos b2 h2, e]; omega
def lenF : Nat → Nat → Nat
  | 0, _ => 0
  | k + 1, v => if v = 0 then 0 else lenF k (v / 2) + 1
theorem lenF_eq : ∀ (k v : Nat), v < 2 ^ k → lenF k v = dl 2 v
  | 0, v, h => by
    have : v = 0 := by simpa using h
    subst this; rw [dl_zero]; rfl
  | k + 1, v, h => by
    rw [lenF]
    by_cases h0 : v = 0
    · subst h0; rw [dl_zero, if_pos rfl]
    · rw [if_neg h0, dl_pos b2 (Nat.pos_of_ne_zero h0), lenF_eq k (v / 2) (by rw [Nat.pow_succ] at h; omega)]
theorem tb_all : ((List.range 256).all fun b => sAt str0 (b : Int) == (lenF 8 b : Int)) = true := by decide +kernel
theorem tb_eq (b : Nat) (h : b < 256) : sAt str0 (b : Int) = (dl 2 b : Int) := by
  have := List.all_eq_true.1 tb_all b (by simpa using h)
  rw [← lenF_eq 8 b h]
  simpa using this
theorem str_size : (str0.size : Int) = 256 := by decide +kernel
theorem wrap_u8 (a : Int) : IntKind.u8.wrap a = a % 256 := by simp [IntKind.wrap, IntKind.bits, IntKind.signed]
theorem fin8 (b c : Nat) (hb : b < 256) (hc : c ≤ 56) : cond (leI 0 (cvI .u8 (b : Int))) (cond (ltI (cvI .u8 (b : Int)) (str0.size : Int)) (some (addI .i64 (c : Int) (cvI .i64 (sAt str0 (cvI .u8 (b : Int)))))) none) none = some ((c + dl 2 b : Nat) : Int) := by
  have e : cvI .u8 (b : Int) = (b : Int) := by unfold cvI; rw [wrap_u8]; omega
  have hl : dl 2 b ≤ 8 := dl_le b2 hb
  rw [e, str_size, leI_t (by omega), cond_true, ltI_t (by omega), cond_true, tb_eq b hb, cvI_i (by omega) (by omega), addI_i (by omega) (by omega)]
  rfl
theorem len32_eq (N x : Nat) (hx : x < 4294967296) : fn_bits_Len32 N (x : Int) = some (dl 2 x : Int) := by
  have s16 : ∀ y : Nat, shrI .u32 (y : Int) 16 = ((y / 2 ^ 16 : Nat) : Int) := fun y => shrI_n (k := .u32) (show 16 ≤ 32 by decide)
  have s8 : ∀ y : Nat, shrI .u32 (y : Int) 8 = ((y / 2 ^ 8 : Nat) : Int) := fun y => shrI_n (k := .u32) (show 8 ≤ 32 by decide)
  have g2 : ∀ y : Nat, leI 65536 (y : Int) = decide (2 ^ 16 ≤ y) := fun y => le_n (a := 2 ^ 16)
  have g3 : ∀ y : Nat, leI 256 (y : Int) = decide (2 ^ 8 ≤ y) := fun y => le_n (a := 2 ^ 8)
  unfold fn_bits_Len32
  simp only [s16, s8, g2, g3]
  have a1 : addI .i64 (addI .i64 16 8) = addI .i64 ((24 : Nat) : Int) := rfl
  have a2 : addI .i64 (16 : Int) = addI .i64 ((16 : Nat) : Int) := rfl
  have a3 : addI .i64 (addI .i64 0 8) = addI .i64 ((8 : Nat) : Int) := rfl
  have a4 : addI .i64 (0 : Int) = addI .i64 ((0 : Nat) : Int) := rfl
  by_cases h1 : 2 ^ 16 ≤ x
  · rw [decide_eq_true h1, cond_true]
    by_cases h2 : 2 ^ 8 ≤ x / 2 ^ 16
    · rw [decide_eq_true h2, cond_true, a1, fin8 _ _ (by omega) (by omega), Nat.div_div_eq_div_mul, bits_down x 24 (by omega)]
    · rw [decide_eq_false h2, cond_false, a2, fin8 _ _ (by omega) (by omega), bits_down x 16 (by omega)]
  · rw [decide_eq_false h1, cond_false]
    by_cases h2 : 2 ^ 8 ≤ x
    · rw [decide_eq_true h2, cond_true, a3, fin8 _ _ (by omega) (by omega), bits_down x 8 (by omega)]
    · rw [decide_eq_false h2, cond_false, a4, fin8 _ _ (by omega) (by omega), Nat.zero_add]
theorem len_eq (N n : Nat) (hn : dl 4294967296 n ≤ 8192) : fn_nat_Len N (Y n) = some (dl 2 n : Int) := by
  unfold fn_nat_Len
  rw [check_Y N n hn, Option.bind_some, show isNoneI none = true from rfl, Bool.not_true, cond_false, D_len]
  by_cases h0 : n = 0
  · subst h0; rw [dl_zero, dl_zero]; rfl
  · have hd : dl 4294967296 n ≠ 0 := fun h => h0 ((dl_nil b32).1 h)
    obtain ⟨t1, t2⟩ := D_top b32 (Nat.pos_of_ne_zero h0)
    obtain ⟨l, hl⟩ : ∃ l, dl 4294967296 n = l + 1 := ⟨dl 4294967296 n - 1, by omega⟩
    rw [hl, Nat.add_sub_cancel] at t1 t2
    have e1 : mulI .i64 32 (l : Int) = ((32 * l : Nat) : Int) := mulN (a := 32) (by simp only [lim]; omega)
    have h2 : n / 4294967296 ^ l = n / 2 ^ (32 * l) := by rw [pow2_32]
    have hb : dl 2 (n / 4294967296 ^ l) ≤ 32 := dl_le b2 (by omega)
    rw [hl, eqI_f (by omega), cond_false, predI l (by omega), leI_t (by omega), cond_true, ltI_t (by omega), cond_true, lrd_D b32, Nat.mod_eq_of_lt t2, len32_eq N _ t2, Option.bind_some, e1, addN (by simp only [lim]; omega), bits_down n (32 * l) (by rw [← h2]; exact t1), h2]
theorem len_bad (N : Nat) (xs : List Int) (h : fn_nat_Check N xs = some (some 1)) : fn_nat_Len N xs = some 0 := by
  unfold fn_nat_Len
  rw [h, Option.bind_some]; rfl
end Go.Proofs.YtoihjgfnocimjaaDoor.Nt

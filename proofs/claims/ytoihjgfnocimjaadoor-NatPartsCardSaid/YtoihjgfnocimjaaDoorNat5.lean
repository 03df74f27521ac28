/- PLAIN FACTS on the program's numbers of chapter 2: take, parts (Knuth's way), DivMod. No statement is proved here. -/
import Derived.Test.YtoihjgfnocimjaaDoorNat4
namespace Go.Proofs.YtoihjgfnocimjaaDoor.Nt
open Go Go.RowKit Go.Proofs.YtoihjgfnocimjaaDoor.Eng Go.Proofs.YtoihjgfnocimjaaDoor.Fns Go.Proofs.YtoihjgfnocimjaaDoor.Bw Go.Proofs.YtoihjgfnocimjaaDoor.Dig
open Go.Proofs.YtoihjgfnocimjaaDoor.Rn (Y b32 cmpZ)
set_option linter.unusedVariables false
set_option linter.unusedSimpArgs false
/-! ### a window of a row -/
theorem win_eq (i k lo A B : Nat) : lo + 4294967296 ^ i * (A + 4294967296 ^ k * B) = lo + 4294967296 ^ i * A + 4294967296 ^ (i + k) * B := by
  rw [Nat.mul_add, ← Nat.mul_assoc, ← Nat.pow_add, Nat.add_assoc]
theorem win_lt {i k lo A : Nat} (hlo : lo < 4294967296 ^ i) (hA : A < 4294967296 ^ k) : lo + 4294967296 ^ i * A < 4294967296 ^ (i + k) := by
  rw [Nat.pow_add]
  have := Nat.mul_le_mul_left (4294967296 ^ i) (Nat.succ_le_of_lt hA)
  rw [Nat.mul_succ] at this
  omega
theorem win_div {i k lo A B : Nat} (hlo : lo < 4294967296 ^ i) (hA : A < 4294967296 ^ k) : (lo + 4294967296 ^ i * (A + 4294967296 ^ k * B)) / 4294967296 ^ (i + k) = B := by
  rw [win_eq, Nat.add_mul_div_left _ _ (p32 _), Nat.div_eq_of_lt (win_lt hlo hA), Nat.zero_add]
theorem win_get {K i k lo A B : Nat} (hlo : lo < 4294967296 ^ i) (hA : A < 4294967296 ^ k) (hK : i + k < K) : lrd (T 4294967296 K (lo + 4294967296 ^ i * (A + 4294967296 ^ k * B))) ((i + k : Nat) : Int) = ((B % 4294967296 : Nat) : Int) := by
  rw [lrd_T hK, win_div hlo hA]
theorem win_set {K i k lo A B v : Nat} (hlo : lo < 4294967296 ^ i) (hA : A < 4294967296 ^ k) (hv : v < 4294967296) (hK : i + k < K) :
    (T 4294967296 K (lo + 4294967296 ^ i * (A + 4294967296 ^ k * B))).set (i + k) (v : Int) = T 4294967296 K (lo + 4294967296 ^ i * (A + 4294967296 ^ k * v + 4294967296 ^ (k + 1) * (B / 4294967296))) := by
  rw [T_set b32 hK hv]
  have e1 : (lo + 4294967296 ^ i * (A + 4294967296 ^ k * B)) % 4294967296 ^ (i + k) = lo + 4294967296 ^ i * A := by
    rw [win_eq, Nat.add_mul_mod_self_left, Nat.mod_eq_of_lt (win_lt hlo hA)]
  have e2 : (lo + 4294967296 ^ i * (A + 4294967296 ^ k * B)) / 4294967296 ^ (i + k + 1) = B / 4294967296 := by
    rw [Nat.pow_succ, ← Nat.div_div_eq_div_mul, win_div hlo hA]
  rw [e1, e2]
  congr 1
  rw [Nat.mul_add, Nat.mul_add, ← Nat.mul_assoc, ← Nat.mul_assoc, ← Nat.pow_add, ← Nat.pow_add, Nat.add_assoc i k 1]
  omega
/-! ### a product, digit by digit -/
def mc (D g k : Nat) : Nat := D % 4294967296 ^ k * g / 4294967296 ^ k
theorem mc_div (D g k : Nat) : D * g / 4294967296 ^ k = mc D g k + D / 4294967296 ^ k * g := by
  unfold mc
  have h := Nat.div_add_mod D (4294967296 ^ k)
  have e : D * g = D % 4294967296 ^ k * g + 4294967296 ^ k * (D / 4294967296 ^ k * g) := by
    rw [← Nat.mul_assoc, ← Nat.add_mul]; congr 1; omega
  rw [e, Nat.add_mul_div_left _ _ (p32 _)]
theorem mc_le (D g k : Nat) : mc D g k ≤ g := by
  unfold mc
  apply Nat.div_le_of_le_mul
  exact Nat.mul_le_mul_right _ (Nat.le_of_lt (Nat.mod_lt _ (p32 _)))
theorem mc_succ (D g k : Nat) : mc D g (k + 1) = (mc D g k + D / 4294967296 ^ k % 4294967296 * g) / 4294967296 := by
  have h1 := mc_div D g k
  have h2 := mc_div D g (k + 1)
  rw [Nat.pow_succ, ← Nat.div_div_eq_div_mul, ← Nat.div_div_eq_div_mul, h1] at h2
  have h3 := Nat.div_add_mod (D / 4294967296 ^ k) 4294967296
  have e : mc D g k + D / 4294967296 ^ k * g = mc D g k + D / 4294967296 ^ k % 4294967296 * g + 4294967296 * (D / 4294967296 ^ k / 4294967296 * g) := by
    rw [← Nat.mul_assoc, Nat.add_assoc, ← Nat.add_mul]; congr 2; omega
  rw [e, Nat.add_mul_div_left _ _ (by decide)] at h2
  omega
theorem mc_dig (D g k : Nat) : D * g / 4294967296 ^ k % 4294967296 = (mc D g k + D / 4294967296 ^ k % 4294967296 * g) % 4294967296 := by
  have h1 := mc_div D g k
  have h3 := Nat.div_add_mod (D / 4294967296 ^ k) 4294967296
  have e : mc D g k + D / 4294967296 ^ k * g = mc D g k + D / 4294967296 ^ k % 4294967296 * g + 4294967296 * (D / 4294967296 ^ k / 4294967296 * g) := by
    rw [← Nat.mul_assoc, Nat.add_assoc, ← Nat.add_mul]; congr 2; omega
  rw [h1, e, Nat.add_mul_mod_self_left]
/-! ### taken away, and put back -/
theorem take_back (N K i lo Z D l : Nat) (hl : dl 4294967296 D = l) (hlo : lo < 4294967296 ^ i) (hZ : Z < 4294967296 ^ (l + 1)) (hK : i + l < K) (hN2 : N < 17592186044416) (hKN : K < N) : ∀ (r k f : Nat), k + r = l + 1 → r < f →
    l63_1 N K f (Y D) (i : Int) (car Z D k : Int) ((l + 1 : Nat) : Int) (k : Int) (T 4294967296 K (lo + 4294967296 ^ i * ((Z + D) % 4294967296 ^ k + 4294967296 ^ k * (Z / 4294967296 ^ k)))) = some (T 4294967296 K (lo + 4294967296 ^ i * ((Z + D) % 4294967296 ^ (l + 1))), true) := by
  intro r
  induction r with
  | zero =>
    intro k f hk hf
    obtain ⟨f, rfl⟩ : ∃ n', f = n' + 1 := ⟨f - 1, by omega⟩
    show s63_1 N K _ _ _ _ _ _ _ = _
    unfold s63_1
    have hk2 : k = l + 1 := by omega
    subst hk2
    rw [ltI_f (by omega), cond_false, T_len, Nat.beq_refl, cond_true, Nat.div_eq_of_lt hZ, Nat.mul_zero, Nat.add_zero]
  | succ r ih =>
    intro k f hk hf
    obtain ⟨f, rfl⟩ : ∃ n', f = n' + 1 := ⟨f - 1, by omega⟩
    show s63_1 N K (l63_1 N K f) _ _ _ _ _ _ = _
    unfold s63_1
    have hc := car_lt Z D k
    have hs := car_succ Z D k
    have hd := sum_div Z D k
    have h1 := Nat.mod_lt (Z / 4294967296 ^ k) (show 0 < 4294967296 by decide)
    have h2 := Nat.mod_lt (D / 4294967296 ^ k) (show 0 < 4294967296 by decide)
    have hA : (Z + D) % 4294967296 ^ k < 4294967296 ^ k := Nat.mod_lt _ (p32 _)
    have dig : (Z + D) / 4294967296 ^ k % 4294967296 = (car Z D k + Z / 4294967296 ^ k % 4294967296 + D / 4294967296 ^ k % 4294967296) % 4294967296 := by omega
    have ei : addI .i64 (i : Int) (k : Int) = ((i + k : Nat) : Int) := addN (by simp only [lim]; omega)
    rw [ltI_t (by omega), cond_true, ei, leI_t (by omega), cond_true, T_len, ltI_t (by omega), cond_true, at_eq, Option.bind_some, cond_true, cond_true, win_get hlo hA (by omega), cvN (k := .u64) (by simp only [lim]; omega),
      addN (k := .u64) (by simp only [lim]; omega), addN (k := .u64) (by simp only [lim]; omega), ← Nat.add_assoc, cvU32, ← dig, Int.toNat_natCast, show (32 : Int) = ((32 : Nat) : Int) from rfl, shrN (by decide), show (2 : Nat) ^ 32 = 4294967296 from rfl, ← hs, succI k (by omega),
      win_set hlo hA (Nat.mod_lt _ (by decide)) (by omega), ← mod32, Nat.div_div_eq_div_mul, ← Nat.pow_succ]
    exact ih (k + 1) f (by omega) (by omega)
theorem take_off (N K i lo S D g l P Z U : Nat) (hl : dl 4294967296 D = l) (hlo : lo < 4294967296 ^ i) (hS : S < 4294967296 ^ (l + 1)) (hK : i + l < K) (hN2 : N < 17592186044416) (hKN : K < N) (hg : g < 4294967296) (hP : P = D * g) (hU : U = S + 4294967296 ^ (l + 1)) (hZ : Z = U - P) (hPU : P ≤ U) :
    ∀ (r k f : Nat), k + r = l + 1 → r < f →
    l63_0 N K f (Y D) (i : Int) (g : Int) (brw U P k : Int) (mc D g k : Int) ((l + 1 : Nat) : Int) (k : Int) (T 4294967296 K (lo + 4294967296 ^ i * (Z % 4294967296 ^ k + 4294967296 ^ k * (S / 4294967296 ^ k)))) =
      if brw U P (l + 1) = 0 then some (T 4294967296 K (lo + 4294967296 ^ i * (Z % 4294967296 ^ (l + 1))), false) else l63_1 N K N (Y D) (i : Int) 0 ((l + 1 : Nat) : Int) 0 (T 4294967296 K (lo + 4294967296 ^ i * (Z % 4294967296 ^ (l + 1)))) := by
  intro r
  induction r with
  | zero =>
    intro k f hk hf
    obtain ⟨f, rfl⟩ : ∃ n', f = n' + 1 := ⟨f - 1, by omega⟩
    show s63_0 N K _ _ _ _ _ _ _ _ _ _ = _
    unfold s63_0
    have hk2 : k = l + 1 := by omega
    subst hk2
    have el : addI .i64 ((dl 4294967296 D : Nat) : Int) 1 = ((l + 1 : Nat) : Int) := by rw [hl]; exact succI l (by omega)
    rw [ltI_f (by omega), cond_false, Nat.div_eq_of_lt hS, Nat.mul_zero, Nat.add_zero (Z % 4294967296 ^ (l + 1)), T_len, Nat.beq_refl, cond_true, D_len, el]
    by_cases hb : brw U P (l + 1) = 0
    · rw [if_pos hb, hb, eqI_t (show ((0 : Nat) : Int) = 0 from rfl), cond_true]
    · rw [if_neg hb, eqI_f (by omega), cond_false]
  | succ r ih =>
    intro k f hk hf
    obtain ⟨f, rfl⟩ : ∃ n', f = n' + 1 := ⟨f - 1, by omega⟩
    show s63_0 N K (l63_0 N K f) _ _ _ _ _ _ _ _ _ = _
    unfold s63_0
    have hb := brw_lt U P k
    have hs := brw_succ U P k
    have hd := sub_div U P k hPU
    rw [← hZ] at hd
    have h2 := Nat.mod_lt (D / 4294967296 ^ k) (show 0 < 4294967296 by decide)
    have hm := mc_le D g k
    have hms := mc_succ D g k
    have hmd := mc_dig D g k
    rw [← hP] at hmd
    have hA : Z % 4294967296 ^ k < 4294967296 ^ k := Nat.mod_lt _ (p32 _)
    have hUS : U / 4294967296 ^ k % 4294967296 = S / 4294967296 ^ k % 4294967296 := by
      rw [hU, show l + 1 = k + (1 + r) by omega, Nat.pow_add, Nat.add_mul_div_left _ _ (p32 _), Nat.pow_add, Nat.pow_one, Nat.add_mul_mod_self_left]
    have h1 := Nat.mod_lt (S / 4294967296 ^ k) (show 0 < 4294967296 by decide)
    have h3 := Nat.mod_lt (P / 4294967296 ^ k) (show 0 < 4294967296 by decide)
    have hgd : g * (D / 4294967296 ^ k % 4294967296) ≤ (4294967296 - 1) * (4294967296 - 1) := Nat.mul_le_mul (by omega) (by omega)
    rw [Nat.mul_comm (D / 4294967296 ^ k % 4294967296) g] at hms hmd
    have dig : Z / 4294967296 ^ k % 4294967296 = (4294967296 + S / 4294967296 ^ k % 4294967296 - P / 4294967296 ^ k % 4294967296 - brw U P k) % 4294967296 := by omega
    rw [hUS] at hs
    have ei : addI .i64 (i : Int) (k : Int) = ((i + k : Nat) : Int) := addN (by simp only [lim]; omega)
    have em : andI .u64 ((mc D g k + g * (D / 4294967296 ^ k % 4294967296) : Nat) : Int) 4294967295 = ((P / 4294967296 ^ k % 4294967296 : Nat) : Int) := by
      rw [show (4294967295 : Int) = ((2 ^ 32 - 1 : Nat) : Int) from rfl, andI_n (by omega) (by decide), Nat.and_two_pow_sub_one_eq_mod, hmd]
    rw [ltI_t (by omega), cond_true, at_eq, Option.bind_some, ei, leI_t (by omega), cond_true, T_len, ltI_t (by omega), cond_true, cond_true, cond_true, win_get hlo hA (by omega), cvN (k := .u64) (by simp only [lim]; omega),
      mulN (by simp only [lim]; omega), addN (k := .u64) (by simp only [lim]; omega), em, succI k (by omega)]
    have e0 : subI .u64 (subI .u64 ((S / 4294967296 ^ k % 4294967296 : Nat) : Int) ((P / 4294967296 ^ k % 4294967296 : Nat) : Int)) (brw U P k : Int) =
        (((18446744073709551616 + S / 4294967296 ^ k % 4294967296 - P / 4294967296 ^ k % 4294967296 - brw U P k) % 18446744073709551616 : Nat) : Int) := by
      unfold subI; rw [wrap_u64, wrap_u64]; omega
    rw [e0]
    have e1 : shrI .u64 (((18446744073709551616 + S / 4294967296 ^ k % 4294967296 - P / 4294967296 ^ k % 4294967296 - brw U P k) % 18446744073709551616 : Nat) : Int) 63 = (brw U P (k + 1) : Int) := by
      rw [show (63 : Int) = ((63 : Nat) : Int) from rfl, shrN (by decide), hs]
      congr 1
      omega
    have e2 : cvI .u32 (((18446744073709551616 + S / 4294967296 ^ k % 4294967296 - P / 4294967296 ^ k % 4294967296 - brw U P k) % 18446744073709551616 : Nat) : Int) = ((Z / 4294967296 ^ k % 4294967296 : Nat) : Int) := by
      rw [cvU32, dig]; congr 1; omega
    rw [e1, e2, show (32 : Int) = ((32 : Nat) : Int) from rfl, shrN (by decide), show (2 : Nat) ^ 32 = 4294967296 from rfl, ← hms, Int.toNat_natCast, win_set hlo hA (Nat.mod_lt _ (by decide)) (by omega), ← mod32, Nat.div_div_eq_div_mul, ← Nat.pow_succ]
    exact ih (k + 1) f (by omega) (by omega)
theorem take_eq (N K i lo S D g l : Nat) (hl : dl 4294967296 D = l) (hlo : lo < 4294967296 ^ i) (hS : S < 4294967296 ^ (l + 1)) (hK : i + l < K) (hN2 : N < 17592186044416) (hKN : K < N) (hg : g < 4294967296) (hlow : D * g ≤ S + D) :
    fn_nat_take N (T 4294967296 K (lo + 4294967296 ^ i * S)) (Y D) (i : Int) (g : Int) = some (if S < D * g then (T 4294967296 K (lo + 4294967296 ^ i * (S + D - D * g)), true) else (T 4294967296 K (lo + 4294967296 ^ i * (S - D * g)), false)) := by
  unfold fn_nat_take t63
  have hD := dl_lt b32 D
  rw [hl] at hD
  have hb1 : 4294967296 ^ (l + 1) = 4294967296 ^ l * 4294967296 := Nat.pow_succ ..
  have hP : D * g < 4294967296 ^ (l + 1) := by rw [hb1]; exact Nat.mul_lt_mul'' hD hg
  have h := take_off N K i lo S D g l (D * g) (S + 4294967296 ^ (l + 1) - D * g) (S + 4294967296 ^ (l + 1)) hl hlo hS hK hN2 hKN hg rfl rfl rfl (by omega) (l + 1) 0 N (by omega) (by omega)
  have c0 : brw (S + 4294967296 ^ (l + 1)) (D * g) 0 = 0 := by unfold brw; simp [Nat.mod_one]
  have c1 : mc D g 0 = 0 := by unfold mc; simp [Nat.mod_one]
  rw [c0, c1, Nat.pow_zero, Nat.mod_one, Nat.zero_add, Nat.one_mul, Nat.div_one] at h
  have el : addI .i64 (dl 4294967296 D : Int) 1 = ((l + 1 : Nat) : Int) := by rw [hl]; exact succI l (by omega)
  rw [T_len, D_len, el]
  refine Eq.trans h ?_
  have hbr : brw (S + 4294967296 ^ (l + 1)) (D * g) (l + 1) = if S < D * g then 1 else 0 := by
    unfold brw
    rw [Nat.add_mod_right, Nat.mod_eq_of_lt hS, Nat.mod_eq_of_lt hP]
  rw [hbr]
  by_cases hlt : S < D * g
  · rw [if_pos hlt, if_pos hlt, if_neg (by decide), Nat.mod_eq_of_lt (by omega)]
    have h2 := take_back N K i lo (S + 4294967296 ^ (l + 1) - D * g) D l hl hlo (by omega) hK hN2 hKN (l + 1) 0 N (by omega) (by omega)
    have c2 : car (S + 4294967296 ^ (l + 1) - D * g) D 0 = 0 := by unfold car; simp [Nat.mod_one]
    rw [c2, Nat.pow_zero, Nat.mod_one, Nat.zero_add, Nat.one_mul, Nat.div_one] at h2
    refine Eq.trans h2 ?_
    have e : S + 4294967296 ^ (l + 1) - D * g + D = S + D - D * g + 4294967296 ^ (l + 1) := by omega
    have hll : 4294967296 ^ l ≤ 4294967296 ^ (l + 1) := Nat.pow_le_pow_right (by decide) (by omega)
    rw [e, Nat.add_mod_right, Nat.mod_eq_of_lt (by omega)]
  · rw [if_neg hlt, if_neg hlt, if_pos rfl]
    have e : S + 4294967296 ^ (l + 1) - D * g = S - D * g + 4294967296 ^ (l + 1) := by omega
    rw [e, Nat.add_mod_right, Nat.mod_eq_of_lt (by omega)]

/-! ### parts -/
theorem win_dig {K i k lo S : Nat} (hlo : lo < 4294967296 ^ i) (hK : i + k < K) : lrd (T 4294967296 K (lo + 4294967296 ^ i * S)) ((i + k : Nat) : Int) = ((S / 4294967296 ^ k % 4294967296 : Nat) : Int) := by
  have h := win_get (K := K) (i := i) (k := k) (lo := lo) (A := S % 4294967296 ^ k) (B := S / 4294967296 ^ k) hlo (Nat.mod_lt _ (p32 _)) hK
  rwa [Nat.mod_add_div] at h
theorem two_dig (x p : Nat) : x / 4294967296 ^ p = x / 4294967296 ^ (p + 1) * 4294967296 + x / 4294967296 ^ p % 4294967296 := by
  rw [Nat.pow_succ, ← Nat.div_div_eq_div_mul, Nat.mul_comm]; exact (Nat.div_add_mod _ _).symm
/-- the guess is right, or too great by one -/
theorem knuth {S D q g p : Nat} (hD : 4294967296 ^ (p + 1) ≤ D) (hS : S < 4294967296 * D) (hq : q = S / D) (hg : g = min (S / 4294967296 ^ p / (D / 4294967296 ^ p)) (4294967296 - 1)) : q ≤ g ∧ D * g ≤ S + D ∧ g < 4294967296 := by
  have hp : 0 < 4294967296 ^ p := p32 p
  have hpp : 4294967296 ^ (p + 1) = 4294967296 ^ p * 4294967296 := Nat.pow_succ ..
  have hD0 : 0 < D := Nat.lt_of_lt_of_le (p32 _) hD
  have hV : 0 < D / 4294967296 ^ p := Nat.div_pos (Nat.le_trans (Nat.pow_le_pow_right (by decide) (by omega)) hD) hp
  have hgV : g ≤ S / 4294967296 ^ p / (D / 4294967296 ^ p) := by rw [hg]; exact Nat.min_le_left _ _
  have hgb : g ≤ 4294967296 - 1 := by rw [hg]; exact Nat.min_le_right _ _
  refine ⟨?_, ?_, by omega⟩
  · rw [hg, hq]
    refine Nat.le_min.2 ⟨?_, ?_⟩
    · rw [Nat.le_div_iff_mul_le hV, Nat.le_div_iff_mul_le hp, Nat.mul_assoc]
      exact Nat.le_trans (Nat.mul_le_mul_left _ (Nat.div_mul_le_self D _)) (Nat.div_mul_le_self S D)
    · have : S / D < 4294967296 := by rw [Nat.div_lt_iff_lt_mul hD0]; exact hS
      omega
  · have h1 : g * (D / 4294967296 ^ p) ≤ S / 4294967296 ^ p := by rwa [Nat.le_div_iff_mul_le hV] at hgV
    have h2 : g * (D / 4294967296 ^ p) * 4294967296 ^ p ≤ S := by rwa [Nat.le_div_iff_mul_le hp] at h1
    have h3 := Nat.div_add_mod D (4294967296 ^ p)
    have h4 := Nat.mod_lt D hp
    have h5 : D * g = g * (D / 4294967296 ^ p) * 4294967296 ^ p + g * (D % 4294967296 ^ p) := by
      have h6 : g * D = g * (4294967296 ^ p * (D / 4294967296 ^ p) + D % 4294967296 ^ p) := by rw [h3]
      rw [Nat.mul_comm, h6, Nat.mul_add, Nat.mul_comm (4294967296 ^ p), Nat.mul_assoc]
    have h7 : g * (D % 4294967296 ^ p) ≤ 4294967296 * 4294967296 ^ p := Nat.mul_le_mul (by omega) (by omega)
    rw [Nat.mul_comm 4294967296] at h7
    omega
theorem knuth_q {S D q g : Nat} (hD : 0 < D) (hq : q = S / D) (h1 : q ≤ g) (h2 : D * g ≤ S + D) : (S < D * g → q = g - 1 ∧ 0 < g ∧ S + D - D * g = S % D) ∧ (¬ S < D * g → q = g ∧ S - D * g = S % D) := by
  have hd := Nat.div_add_mod S D
  have hm := Nat.mod_lt S hD
  rw [← hq] at hd
  constructor
  · intro hlt
    have h3 : q < g := by
      apply Nat.lt_of_not_le
      intro h
      have := Nat.mul_le_mul_left D h
      omega
    have h4 : g ≤ q + 1 := by
      apply Nat.le_of_not_lt
      intro h
      have := Nat.mul_le_mul_left D (show q + 2 ≤ g from h)
      rw [Nat.mul_add] at this
      omega
    obtain rfl : g = q + 1 := by omega
    rw [Nat.mul_add, Nat.mul_one] at *
    exact ⟨by omega, by omega, by omega⟩
  · intro hnl
    have h3 : g ≤ q := by
      rw [hq, Nat.le_div_iff_mul_le hD, Nat.mul_comm]; omega
    obtain rfl : q = g := by omega
    exact ⟨rfl, by omega⟩
theorem parts_loop (N M D s p la : Nat) (hs : s ≤ 32) (hD1 : 2147483648 * 4294967296 ^ (p + 1) ≤ D) (hD2 : D < 4294967296 ^ (p + 2)) (hl : dl 4294967296 D = p + 2) (hla : p + 2 ≤ la) (hM : M < 4294967296 ^ (la - (p + 2) + 1) * D) (hMl : M < 4294967296 ^ (la + 1)) (hN : la + 4 < N) (hN2 : N < 17592186044416) :
    ∀ (j f : Nat), j ≤ la - (p + 2) + 1 → j < f →
    l54_0 N f (s : Int) (Y D) ((p + 2 : Nat) : Int) ((j : Int) - 1) (T 4294967296 (la + 1) (M % 4294967296 ^ j + 4294967296 ^ j * (M / 4294967296 ^ j % D))) (T 4294967296 (la - (p + 2) + 1) (M / 4294967296 ^ j / D * 4294967296 ^ j)) = some (Y (M / D), Y (M % D / 2 ^ s)) := by
  have hD0 : 0 < D := Nat.lt_of_lt_of_le (Nat.mul_pos (by decide) (p32 _)) hD1
  have hDl : D < 4294967296 ^ (la + 1) := Nat.lt_of_lt_of_le hD2 (Nat.pow_le_pow_right (by decide) (by omega))
  have hDp : 4294967296 ^ (p + 1) ≤ D := by omega
  intro j
  induction j with
  | zero =>
    intro f hj hf
    obtain ⟨f, rfl⟩ : ∃ n', f = n' + 1 := ⟨f - 1, by omega⟩
    show s54_0 N _ _ _ _ _ _ _ = _
    unfold s54_0
    have h1 : M / D < 4294967296 ^ (la - (p + 2) + 1) := by rw [Nat.div_lt_iff_lt_mul hD0]; exact hM
    have h2 := Nat.mod_lt M hD0
    have h3 : dl 4294967296 (M % D) ≤ la + 1 := dl_le b32 (by omega)
    rw [leI_f (by omega), cond_false, Nat.pow_zero, Nat.div_one, Nat.mul_one, Nat.mod_one, Nat.zero_add, Nat.one_mul, trim_eq N _ _ (by omega) (by omega) h1, Option.bind_some, trim_eq N _ _ (by omega) (by omega) (by omega), Option.bind_some,
      down_eq N _ s hs (by omega) hN2, Option.bind_some]
  | succ i ih =>
    intro f hj hf
    obtain ⟨f, rfl⟩ : ∃ n', f = n' + 1 := ⟨f - 1, by omega⟩
    have ih := ih f (by omega) (by omega)
    show s54_0 N (l54_0 N f) _ _ _ _ _ _ = _
    unfold s54_0
    obtain ⟨h1, h2, h3⟩ := div_step M D i hD0
    have e0 : ((i + 1 : Nat) : Int) - 1 = (i : Int) := by omega
    have e1 : subI .i64 (i : Int) 1 = (i : Int) - 1 := subI_i (by omega) (by omega)
    have ea : addI .i64 (i : Int) ((p + 2 : Nat) : Int) = ((i + (p + 2) : Nat) : Int) := addN (by simp only [lim]; omega)
    have eb : subI .i64 ((i + (p + 2) : Nat) : Int) 1 = ((i + (p + 1) : Nat) : Int) := by rw [subI_i (by omega) (by omega)]; omega
    have ec : subI .i64 ((i + (p + 2) : Nat) : Int) 2 = ((i + p : Nat) : Int) := by rw [subI_i (by omega) (by omega)]; omega
    have ed : subI .i64 ((p + 2 : Nat) : Int) 1 = ((p + 1 : Nat) : Int) := by rw [subI_i (by omega) (by omega)]; omega
    have ee : subI .i64 ((p + 2 : Nat) : Int) 2 = (p : Int) := by rw [subI_i (by omega) (by omega)]; omega
    have hlo : M % 4294967296 ^ i < 4294967296 ^ i := Nat.mod_lt _ (p32 _)
    have hw : M % 4294967296 ^ (i + 1) + 4294967296 ^ (i + 1) * (M / 4294967296 ^ (i + 1) % D) = M % 4294967296 ^ i + 4294967296 ^ i * (M / 4294967296 ^ i % 4294967296 + 4294967296 * (M / 4294967296 ^ (i + 1) % D)) := by
      rw [mod32, Nat.mul_add, Nat.pow_succ, Nat.mul_assoc]; omega
    rw [hw]
    generalize hS : M / 4294967296 ^ i % 4294967296 + 4294967296 * (M / 4294967296 ^ (i + 1) % D) = S at *
    have hpb : 4294967296 ^ (p + 3) = 4294967296 * 4294967296 ^ (p + 2) := by rw [Nat.pow_succ, Nat.mul_comm]
    have hSb : S < 4294967296 ^ (p + 3) := by rw [hpb]; omega
    have t0e : S / 4294967296 ^ (p + 2) % 4294967296 = S / 4294967296 ^ (p + 2) := Nat.mod_eq_of_lt (by rw [Nat.div_lt_iff_lt_mul (p32 _), ← hpb]; exact hSb)
    have v1e : D / 4294967296 ^ (p + 1) % 4294967296 = D / 4294967296 ^ (p + 1) := Nat.mod_eq_of_lt (by rw [Nat.div_lt_iff_lt_mul (p32 _), Nat.mul_comm, ← Nat.pow_succ]; exact hD2)
    have v1lt : D / 4294967296 ^ (p + 1) < 4294967296 := by rw [← v1e]; exact Nat.mod_lt _ (by decide)
    have v1ge : 2147483648 ≤ D / 4294967296 ^ (p + 1) := by rw [Nat.le_div_iff_mul_le (p32 _)]; exact hD1
    have t0le : S / 4294967296 ^ (p + 2) ≤ D / 4294967296 ^ (p + 1) := by
      rw [show p + 2 = (p + 1) + 1 from rfl, Nat.pow_succ, Nat.mul_comm, ← Nat.div_div_eq_div_mul]
      apply Nat.div_le_div_right
      have : S / 4294967296 < D := by rw [Nat.div_lt_iff_lt_mul (by decide), Nat.mul_comm]; exact h3
      omega
    have hU3 : (S / 4294967296 ^ (p + 2) * 4294967296 + S / 4294967296 ^ (p + 1) % 4294967296) * 4294967296 + S / 4294967296 ^ p % 4294967296 = S / 4294967296 ^ p := by
      rw [← two_dig S (p + 1), ← two_dig S p]
    have hV : D / 4294967296 ^ (p + 1) * 4294967296 + D / 4294967296 ^ p % 4294967296 = D / 4294967296 ^ p := (two_dig D p).symm
    obtain ⟨g, hg⟩ : ∃ g, g = min (S / 4294967296 ^ p / (D / 4294967296 ^ p)) (4294967296 - 1) := ⟨_, rfl⟩
    obtain ⟨k1, k2, k3⟩ := knuth hDp h3 rfl hg
    obtain ⟨k4, k5⟩ := knuth_q hD0 rfl k1 k2
    have d0 := win_dig (K := la + 1) (i := i) (k := p + 2) (S := S) hlo (by omega)
    have d1 := win_dig (K := la + 1) (i := i) (k := p + 1) (S := S) hlo (by omega)
    have d2 := win_dig (K := la + 1) (i := i) (k := p) (S := S) hlo (by omega)
    rw [t0e] at d0
    have d3 : lrd (Y D) ((p + 1 : Nat) : Int) = ((D / 4294967296 ^ (p + 1) : Nat) : Int) := by rw [lrd_D b32, v1e]
    have d4 : lrd (Y D) (p : Int) = ((D / 4294967296 ^ p % 4294967296 : Nat) : Int) := lrd_D b32 ..
    rw [e0, leI_t (by omega), cond_true, ea, eb, ec, ed, ee, leI_t (by omega), cond_true, T_len, ltI_t (by omega), cond_true, leI_t (by omega), cond_true, ltI_t (by omega), cond_true, leI_t (by omega), cond_true, ltI_t (by omega), cond_true, leI_t (by omega), cond_true,
      D_len, hl, ltI_t (by omega), cond_true, leI_t (by omega), cond_true, ltI_t (by omega), cond_true, d0, d1, d2, d3, d4,
      guess_eq N (by omega) _ _ (S / 4294967296 ^ (p + 2)) (S / 4294967296 ^ (p + 1) % 4294967296) (S / 4294967296 ^ p % 4294967296) (D / 4294967296 ^ (p + 1)) (D / 4294967296 ^ p % 4294967296) rfl rfl rfl rfl rfl v1ge v1lt (Nat.mod_lt _ (by decide)) t0le (Nat.mod_lt _ (by decide)) (Nat.mod_lt _ (by decide)),
      hU3, hV, ← hg, Option.bind_some, take_eq N (la + 1) i _ S D g (p + 2) hl hlo hSb (by omega) hN2 (by omega) k3 k2, Option.bind_some]
    by_cases hlt : S < D * g
    · obtain ⟨m1, m2, m3⟩ := k4 hlt
      have eg : subI .u64 (g : Int) 1 = ((g - 1 : Nat) : Int) := by
        have := subN (k := .u64) (a := g) (b := 1) (by omega) (by simp only [lim]; omega)
        rwa [show ((1 : Nat) : Int) = 1 from rfl] at this
      rw [if_pos hlt]
      simp only [cond_true]
      rw [T_len, ltI_t (by omega), cond_true, eg, cvN (k := .u32) (by simp only [lim]; omega), e1, m3, Int.toNat_natCast, T_putq (by omega) (by omega), ← m1, ← h1, ← h2]
      exact ih
    · obtain ⟨m1, m3⟩ := k5 hlt
      rw [if_neg hlt]
      simp only [cond_true, cond_false]
      rw [T_len, ltI_t (by omega), cond_true, cvN (k := .u32) (by simp only [lim]; omega), e1, m3, Int.toNat_natCast, T_putq (by omega) (by omega), ← m1, ← h1, ← h2]
      exact ih
end Go.Proofs.YtoihjgfnocimjaaDoor.Nt

/- PROVED HERE: NatPowers' pure statement, over the functions that eng2.py printed: any small number so often times itself, and any number times a power of two, or the errors; how many bits a number has. No condition beyond the arguments' kinds. -/
import Derived.Test.YtoihjgfnocimjaaDoorNat3
import Derived.Test.YtoihjgfnocimjaaDoorRn4
import Derived.Test.YtoihjgfnocimjaaDoorFnNatPowers
namespace Go.Proofs.YtoihjgfnocimjaaDoor
open Go Eng Fns Bw Dig Nt Num Slc
open Rn (X Y b32 b16 cmpZ)
set_option linter.unusedSimpArgs false
theorem sure_eq : fn_tillerlaw02_sure 100000 = some true := by kernel_rfl
theorem D_one {b : Nat} (hb : 1 < b) : D b 1 = [1] := by
  have h := dl_eq hb (n := 1) (k := 0) (by simp) (by simpa using hb)
  unfold D
  rw [h, T_succ, T_zero, Nat.pow_zero, Nat.div_one, Nat.mod_eq_of_lt hb]
  rfl
theorem w63 (n : Int) (h0 : 0 ≤ n) (h1 : n < 2 ^ 63) : IntKind.i64.wrap n = n := by rw [wrap_i64]; omega
theorem odd_eq (n : Nat) (h : n < 9223372036854775808) : andI .i64 (n : Int) 1 = ((n % 2 : Nat) : Int) := by
  unfold andI
  have := (bits_nat .i64 63 (by decide) w63 n 1 (by omega) (by decide)).1
  rw [show ((1 : Nat) : Int) = 1 from rfl] at this
  rw [this, Nat.and_one_is_mod]
theorem dl_pow (base e : Nat) (hb : base < 4294967296) : dl 4294967296 (base ^ e) ≤ e + 1 := by
  apply dl_le b32
  rw [Nat.pow_succ]
  have := Nat.pow_le_pow_left (show base ≤ 4294967296 by omega) e
  have := p32 e
  omega
theorem pow_loop (base n0 : Nat) (hb : base < 4294967296) (hn0 : n0 ≤ 300) : ∀ (n f o e : Nat), n < f → n < 9223372036854775808 → o + e * n = n0 → (0 < n → e ≤ n0) → l17_0 100000 f (base : Int) (n : Int) (Y (base ^ o)) (Y (base ^ e)) = some (bnd32 (base ^ n0)) := by
  intro n
  induction n using Nat.strongRecOn with
  | ind n ih =>
    intro f o e hf nn hoe he
    obtain ⟨f, rfl⟩ : ∃ n', f = n' + 1 := ⟨f - 1, by omega⟩
    show s17_0 100000 (l17_0 100000 f) _ _ _ _ = _
    unfold s17_0
    have en : e * (n / 2) * 2 + e * (n % 2) = e * n := by
      rw [Nat.mul_assoc, ← Nat.mul_add]; congr 1; omega
    have e2 : (e + e) * (n / 2) = e * (n / 2) * 2 := by rw [Nat.add_mul]; omega
    have eodd : n % 2 = 1 → e * (n % 2) = e := fun h => by rw [h, Nat.mul_one]
    have eeven : n % 2 = 0 → e * (n % 2) = 0 := fun h => by rw [h, Nat.mul_zero]
    have eself : n / 2 = 0 → e * (n / 2) = 0 := fun h => by rw [h, Nat.mul_zero]
    have ebig : n / 2 ≠ 0 → e ≤ e * (n / 2) := fun h => Nat.le_mul_of_pos_right e (by omega)
    have de := dl_pow base e hb
    have s1 : shrI .i64 (n : Int) 1 = ((n / 2 : Nat) : Int) := shrN (k := .i64) (b := 1) (by decide)
    have ih := ih (n / 2)
    have fin : ∀ o', o' = n0 → ((fn_nat_bounded 100000 (Y (base ^ o'))).bind fun r4 => some (r4.1, r4.2)) = some (bnd32 (base ^ n0)) := by
      intro o' h
      subst h
      have := dl_pow base o' hb
      rw [bounded_Y 100000 _ (by omega) (by omega), Option.bind_some]
    rw [odd_eq n nn, s1]
    by_cases hodd : n % 2 = 1
    · have dO := dl_pow base o hb
      have dO2 := dl_pow base (o + e) hb
      rw [eqI_t (by omega), cond_true, times_eq 100000 (base ^ o) (base ^ e) (by omega) (by omega), Option.bind_some, ← Nat.pow_add]
      by_cases hz : n / 2 = 0
      · rw [eqI_t (by omega), cond_true, ltI_f (by omega), cond_false]
        exact fin _ (by omega)
      · rw [eqI_f (by omega), cond_false, D_len, ltI_f (by omega), cond_false, D_len, ltI_f (by omega), cond_false, times_eq 100000 (base ^ e) (base ^ e) (by omega) (by omega), Option.bind_some, ← Nat.pow_add]
        exact ih (by omega) f (o + e) (e + e) (by omega) (by omega) (by omega) (fun _ => by omega)
    · have dO := dl_pow base o hb
      rw [eqI_f (by omega), cond_false]
      by_cases hz : n / 2 = 0
      · rw [eqI_t (by omega), cond_true, ltI_f (by omega), cond_false]
        exact fin _ (by omega)
      · rw [eqI_f (by omega), cond_false, D_len, ltI_f (by omega), cond_false, D_len, ltI_f (by omega), cond_false, times_eq 100000 (base ^ e) (base ^ e) (by omega) (by omega), Option.bind_some, ← Nat.pow_add]
        exact ih (by omega) f o (e + e) (by omega) (by omega) (by omega) (fun _ => by omega)
theorem pow_eq (base n : Nat) (hb : base < 4294967296) (hn : n ≤ 300) : fn_nat_Pow 100000 (base : Int) (n : Int) = some (Y (base ^ n), none) := by
  unfold fn_nat_Pow t17
  have hd := dl_pow base n hb
  rw [ltI_f (by omega), cond_false, ltI_f (by omega), cond_false, cvN (by simp only [lim]; omega), of_eq 100000 base (by omega) (by omega), Option.bind_some]
  have h := pow_loop base n hb hn n 100000 0 1 (by omega) (by omega) (by omega) (fun h => h)
  rw [Nat.pow_zero, Nat.pow_one, bnd32, if_pos (by omega), Y, D_one b32] at h
  exact h
theorem pow_out (base : Nat) (n : Int) (h : n < 0 ∨ 1000000 < n) : fn_nat_Pow 100000 (base : Int) n = some ([], some 1) := by
  unfold fn_nat_Pow t17
  by_cases h1 : n < 0
  · rw [ltI_t h1, cond_true]
  · rw [ltI_f h1, cond_false, ltI_t (by omega), cond_true]
/-! ### the reference's -/
theorem dl_pow16 (base e : Nat) (hb : base < 4294967296) : dl 65536 (base ^ e) ≤ 2 * e + 1 := by
  have h := dl_16_le (base ^ e)
  have h2 : base ^ e ≤ 4294967296 ^ e := Nat.pow_le_pow_left (by omega) e
  apply dl_le b16
  rw [Nat.pow_succ, p16_32]
  have := p32 e
  omega
theorem ref_loop (base n : Nat) (hb : base < 4294967296) (hn : n ≤ 300) : ∀ (r i f : Nat), i + r = n → r < f → l21_0 100000 f (base : Int) (n : Int) (X (base ^ i)) (i : Int) = some (X (base ^ n)) := by
  intro r
  induction r with
  | zero =>
    intro i f hi hf
    obtain ⟨f, rfl⟩ : ∃ n', f = n' + 1 := ⟨f - 1, by omega⟩
    show s21_0 100000 _ _ _ _ _ = _
    unfold s21_0
    rw [ltI_f (by omega), cond_false, show i = n by omega]
  | succ r ih =>
    intro i f hi hf
    obtain ⟨f, rfl⟩ : ∃ n', f = n' + 1 := ⟨f - 1, by omega⟩
    show s21_0 100000 (l21_0 100000 f) _ _ _ _ = _
    unfold s21_0
    have d := dl_pow16 base i hb
    have h := Rn.small_eq 100000 (base ^ i) base 0 (by omega) (by omega) (by omega) (by omega)
    rw [Nat.add_zero, ← Nat.pow_succ, show ((0 : Nat) : Int) = 0 from rfl] at h
    rw [ltI_t (by omega), cond_true, h, Option.bind_some, succI i (by omega)]
    exact ih (i + 1) f (by omega) (by omega)
theorem ref_pow (base n : Nat) (hb : base < 4294967296) (hn : n ≤ 300) : fn_tillerref02_Pow 100000 (base : Int) (n : Int) = some (X (base ^ n)) := by
  unfold fn_tillerref02_Pow t21
  have h := ref_loop base n hb hn n 0 100000 (by omega) (by omega)
  rw [Nat.pow_zero, X, D_one b16] at h
  exact h
theorem pure_NatPowers : ∀ (a0 a1 : Int) (a2 : List Int), okN .u32 a0 → okN .i64 a1 → okL .u32 a2 ∧ a2.length ≤ maxLen → ∃ N, fn_tillerlaw02_NatPowers N a0 a1 a2 = some true := by
  intro b n a hb hn ⟨ha, hal⟩
  have hb := u32_in hb
  have hn := i64_in hn
  obtain ⟨b, rfl⟩ := Int.eq_ofNat_of_zero_le hb.1
  have hb : b < 4294967296 := by omega
  refine ⟨100000, ?_⟩
  unfold fn_tillerlaw02_NatPowers
  rw [sure_eq]
  by_cases h1 : 100 < a.length
  · rw [ltI_t (by omega), cond_true]; rfl
  rw [ltI_f (show ¬ (100 : Int) < (a.length : Int) by omega), cond_false]
  by_cases hbig : 300 < n
  · by_cases hmid : n ≤ 1000000
    · rw [ltI_t hbig, cond_true, leI_t hmid, cond_true]; rfl
    rw [ltI_t hbig, cond_true, leI_f hmid, cond_false, pow_out b n (.inr (by omega)), Option.bind_some, ltI_f (show ¬ n < 0 by omega)]
    rcases nat_cases a ha with ⟨m, hm, hml, rfl⟩ | hbad
    rotate_left
    · have hc := check_bad 100000 a hbad (by omega)
      rw [shl_bad _ _ _ hc, Option.bind_some, is_bad _ _ hbad (by omega), len_bad _ _ hc]; rfl
    · have m1 := dl_16_le m
      obtain ⟨k, rfl⟩ := Int.eq_ofNat_of_zero_le (show 0 ≤ n by omega)
      rw [shl_eq 100000 m k hm (by omega) (by omega), Option.bind_some, is_Y _ _ hm, len_eq _ _ hm, Rn.from_Y 100000 m (by omega) (by omega)]
      simp only [Option.bind_some, Bool.not_true, cond_false]
      rw [Rn.len_eq 100000 m (by omega) (by omega), Option.bind_some, eqI_t rfl]
      by_cases h0 : m = 0
      · rw [if_pos h0, h0, D_len, dl_zero]; rfl
      · have hd : dl 4294967296 m ≠ 0 := fun h => h0 ((dl_nil b32).1 h)
        rw [if_neg h0, if_pos (show 262144 < k by omega), D_len, eqI_f (show ¬ ((dl 4294967296 m : Nat) : Int) = 0 by omega)]; rfl
  · rw [ltI_f hbig, cond_false]
    by_cases hneg : n < 0
    · rw [pow_out b n (.inl hneg), Option.bind_some, ltI_t hneg]
      rcases nat_cases a ha with ⟨m, hm, hml, rfl⟩ | hbad
      rotate_left
      · have hc := check_bad 100000 a hbad (by omega)
        rw [shl_bad _ _ _ hc, Option.bind_some, is_bad _ _ hbad (by omega), len_bad _ _ hc]; rfl
      · have m1 := dl_16_le m
        rw [shl_neg 100000 m n hm hneg, Option.bind_some, is_Y _ _ hm, len_eq _ _ hm, Rn.from_Y 100000 m (by omega) (by omega)]
        simp only [Option.bind_some, Bool.not_true, cond_false]
        rw [Rn.len_eq 100000 m (by omega) (by omega), Option.bind_some, eqI_t rfl]; rfl
    · rw [ltI_f hneg]
      obtain ⟨k, rfl⟩ := Int.eq_ofNat_of_zero_le (show 0 ≤ n by omega)
      have hk : k ≤ 300 := by omega
      rw [pow_eq b k hb hk, Option.bind_some]
      rcases nat_cases a ha with ⟨m, hm, hml, rfl⟩ | hbad
      rotate_left
      · have hc := check_bad 100000 a hbad (by omega)
        rw [shl_bad _ _ _ hc, Option.bind_some, is_bad _ _ hbad (by omega), len_bad _ _ hc]; rfl
      · have m1 := dl_16_le m
        have hm1 : dl 4294967296 m ≤ 100 := by omega
        have d1 := dl_pow b k hb
        have d2 := dl_pow16 b k hb
        obtain ⟨K, hK⟩ : ∃ K, K = 10 := ⟨_, rfl⟩
        have d3 : dl 4294967296 (m * 2 ^ k) ≤ dl 4294967296 m + K := by
          apply dl_le b32
          rw [Nat.pow_add]
          apply Nat.mul_lt_mul'' (dl_lt b32 m)
          rw [← pow2_32]
          exact Nat.pow_lt_pow_right (by decide) (by omega)
        have d4 := dl_16_le (m * 2 ^ k)
        have hsh : fn_nat_Shl 100000 (Y m) (k : Int) = some (Y (m * 2 ^ k), none) := by
          by_cases h0 : m = 0
          · rw [shl_eq 100000 m k hm (by omega) (by omega), if_pos h0, h0, Nat.zero_mul, Y, D_nil]
          · rw [shl_eq 100000 m k hm (by omega) (by omega), if_neg h0, if_neg (show ¬ 262144 < k by omega), bnd32, if_pos (by omega)]
        rw [hsh, Option.bind_some, is_Y _ _ hm, len_eq _ _ hm, Rn.from_Y 100000 m (by omega) (by omega)]
        simp only [Option.bind_some, Bool.not_true, cond_false]
        rw [Rn.len_eq 100000 m (by omega) (by omega), Option.bind_some, eqI_t rfl, ref_pow b k hb hk]
        simp only [Option.bind_some, Bool.not_true, cond_false, isNoneI, cond_true]
        rw [Words_eq 100000 _ (by omega) (by omega), Option.bind_some, words_Y 100000 _ _ (by omega) (by omega), Option.bind_some, Rn.shl_eq 100000 m k (by omega) (by omega), Option.bind_some, Words_eq 100000 _ (by omega) (by omega), Option.bind_some, words_Y 100000 _ _ (by omega) (by omega), Option.bind_some, decide_eq_true rfl, decide_eq_true rfl]
        rfl
end Go.Proofs.YtoihjgfnocimjaaDoor

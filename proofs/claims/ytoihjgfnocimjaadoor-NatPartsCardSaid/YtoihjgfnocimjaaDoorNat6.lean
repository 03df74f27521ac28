/- PLAIN FACTS on the program's numbers of chapter 2: parts, DivMod. No statement is proved here. -/
import Derived.Test.YtoihjgfnocimjaaDoorNat5
namespace Go.Proofs.YtoihjgfnocimjaaDoor.Nt
open Go Go.RowKit Go.Proofs.YtoihjgfnocimjaaDoor.Eng Go.Proofs.YtoihjgfnocimjaaDoor.Fns Go.Proofs.YtoihjgfnocimjaaDoor.Bw Go.Proofs.YtoihjgfnocimjaaDoor.Dig Go.Proofs.YtoihjgfnocimjaaDoor.Slc
open Go.Proofs.YtoihjgfnocimjaaDoor.Rn (Y b32 cmpZ)
set_option linter.unusedVariables false
set_option linter.unusedSimpArgs false

theorem cp_pad {k n : Nat} (h : n < 4294967296 ^ k) : cpL (List.replicate k 0) (Y n) = T 4294967296 k n := by
  unfold cpL
  have hd := dl_le b32 h
  rw [List.length_replicate, D_len, List.take_of_length_le (by rw [D_len]; exact hd), List.drop_replicate, ← D_pad b32 h]
/-- how far a number is moved up till its highest word has its highest bit -/
theorem norm_eq {n p s : Nat} (hl : dl 4294967296 n = p + 2) (hs : s + dl 2 (n / 4294967296 ^ (p + 1)) = 32) : s ≤ 31 ∧ 2147483648 * 4294967296 ^ (p + 1) ≤ n * 2 ^ s ∧ n * 2 ^ s < 4294967296 ^ (p + 2) ∧ dl 4294967296 (n * 2 ^ s) = p + 2 := by
  have hn0 : 0 < n := by
    apply Nat.pos_of_ne_zero
    intro h
    rw [h, dl_zero] at hl; omega
  have htop := D_top b32 hn0
  rw [hl, show p + 2 - 1 = p + 1 from rfl] at htop
  obtain ⟨h1, h2⟩ := dl_spec b2 (n / 4294967296 ^ (p + 1))
  obtain ⟨h2, h3⟩ := h2 htop.1
  generalize hd : dl 2 (n / 4294967296 ^ (p + 1)) = d at *
  have hp := p32 (p + 1)
  have hs31 : s ≤ 31 := by omega
  have e31 : 2 ^ (d - 1) * 2 ^ s = 2147483648 := by rw [← Nat.pow_add, show d - 1 + s = 31 by omega]
  have e32 : 2 ^ d * 2 ^ s = 4294967296 := by rw [← Nat.pow_add, show d + s = 32 by omega]
  have lo : 2147483648 * 4294967296 ^ (p + 1) ≤ n * 2 ^ s := by
    have h5 : 2 ^ (d - 1) * 4294967296 ^ (p + 1) ≤ n := by rwa [← Nat.le_div_iff_mul_le hp]
    have h6 := Nat.mul_le_mul_right (2 ^ s) h5
    rwa [Nat.mul_right_comm, e31] at h6
  have hi : n * 2 ^ s < 4294967296 ^ (p + 2) := by
    have h5 : n < 2 ^ d * 4294967296 ^ (p + 1) := by rwa [← Nat.div_lt_iff_lt_mul hp]
    have h6 := Nat.mul_lt_mul_of_pos_right h5 (show 0 < 2 ^ s from Nat.pow_pos (by decide))
    rwa [Nat.mul_right_comm, e32, Nat.mul_comm 4294967296, ← Nat.pow_succ] at h6
  exact ⟨hs31, lo, hi, dl_eq b32 (by omega) hi⟩
theorem dl_le_of {m n : Nat} (hn : 0 < n) (hlt : ¬ m < n) : 0 < dl 4294967296 n ∧ dl 4294967296 n ≤ dl 4294967296 m := by
  have hml := dl_lt b32 m
  refine ⟨((dl_spec b32 n).2 hn).2, ?_⟩
  have h1 := ((dl_spec b32 n).2 hn)
  apply Nat.le_of_not_lt
  intro h
  have h2 : 4294967296 ^ dl 4294967296 m ≤ 4294967296 ^ (dl 4294967296 n - 1) := Nat.pow_le_pow_right (by decide) (by omega)
  omega
theorem parts_less (N m n : Nat) (hlt : m < n) (hdm : dl 4294967296 m + 10 < N) (hN2 : N < 17592186044416) : fn_nat_parts N (Y m) (Y n) = some (Y (m / n), Y (m % n)) := by
  unfold fn_nat_parts t54
  rw [compare_eq N m n (by omega) (by omega), Option.bind_some, cmpZ_lt, decide_eq_true hlt, cond_true, Nat.div_eq_of_lt hlt, Nat.mod_eq_of_lt hlt, show (Y 0 : List Int) = [] from D_nil _]
  unfold Slc.fn_slices_Clone
  rw [D_len, leI_t (by omega), cond_true, Option.bind_some]
theorem parts_one (N m n : Nat) (hn : 0 < n) (hlt : ¬ m < n) (h1 : dl 4294967296 n = 1) (hdm : dl 4294967296 m + 10 < N) (hN2 : N < 17592186044416) : fn_nat_parts N (Y m) (Y n) = some (Y (m / n), Y (m % n)) := by
  unfold fn_nat_parts t54
  have hnl := dl_lt b32 n
  have hn2 : n < 4294967296 := by rw [h1, Nat.pow_one] at hnl; exact hnl
  have hm := Nat.mod_lt m hn
  have e0 : lrd (Y n) 0 = (n : Int) := by
    have := lrd_D b32 n 0
    rw [Nat.pow_zero, Nat.div_one, Nat.mod_eq_of_lt hn2] at this
    exact this
  have e2 : cvI .u64 ((m % n : Nat) : Int) = ((m % n : Nat) : Int) := cvN (by simp only [lim]; omega)
  have e3 := of_eq N (m % n) (by omega) (by omega)
  rw [compare_eq N m n (by omega) (by omega), Option.bind_some, cmpZ_lt, decide_eq_false hlt, cond_false, D_len, h1, eqI_t (show ((1 : Nat) : Int) = 1 from rfl), cond_true, ltI_t (by omega), cond_true, e0, short_eq N m n hn hn2 (by omega) hN2, Option.bind_some, e2, e3, Option.bind_some]
theorem parts_nums (m n p s la : Nat) (hn : 0 < n) (hml : m < 4294967296 ^ la) (hle : p + 2 ≤ la) (n1 : s ≤ 31) (n2 : 2147483648 * 4294967296 ^ (p + 1) ≤ n * 2 ^ s) : m * 2 ^ s < 4294967296 ^ (la + 1) ∧ m * 2 ^ s < 4294967296 ^ (la - (p + 2) + 1) * (n * 2 ^ s) := by
  have ps : 2 ^ s ≤ 2 ^ 31 := Nat.pow_le_pow_right (by decide) n1
  have e31 : (2 : Nat) ^ 31 = 2147483648 := rfl
  rw [e31] at ps
  constructor
  · rw [Nat.pow_succ]
    exact Nat.mul_lt_mul'' hml (by omega)
  · refine Nat.lt_of_lt_of_le (Nat.mul_lt_mul_of_lt_of_le hml ps (by decide)) ?_
    refine Nat.le_trans ?_ (Nat.mul_le_mul_left _ n2)
    rw [Nat.mul_left_comm, ← Nat.pow_add, show la - (p + 2) + 1 + (p + 1) = la by omega, Nat.mul_comm]
    exact Nat.le_refl _
theorem parts_big (N m n p la : Nat) (hn : 0 < n) (hlt : ¬ m < n) (hp : dl 4294967296 n = p + 2) (hla : dl 4294967296 m = la) (hle : p + 2 ≤ la) (hdm : la + 10 < N) (hN2 : N < 17592186044416) : fn_nat_parts N (Y m) (Y n) = some (Y (m / n), Y (m % n)) := by
  have e5 : addI .i64 (la : Int) 1 = ((la + 1 : Nat) : Int) := succI la (by omega)
  have e6 : subI .i64 (la : Int) ((p + 2 : Nat) : Int) = ((la - (p + 2) : Nat) : Int) := by rw [subI_i (by omega) (by omega)]; omega
  have e7 : addI .i64 ((la - (p + 2) : Nat) : Int) 1 = ((la - (p + 2) + 1 : Nat) : Int) := succI _ (by omega)
  have z3 : ((la - (p + 2) + 1 : Nat) : Int) - 1 = ((la - (p + 2) : Nat) : Int) := by omega
  have q1 : la + 4 < N := by omega
  have q3 : la - (p + 2) + 1 < N := by omega
  have q4 : dl 4294967296 n + 0 + 2 < N := by omega
  have q5 : dl 4294967296 m + 0 + 2 < N := by omega
  have q6 : dl 4294967296 m < N := by omega
  have q7 : N < 4611686018427387904 := by omega
  have y1 : ¬ ((p + 2 : Nat) : Int) = 1 := by omega
  have y2 : (0 : Int) ≤ ((p + 1 : Nat) : Int) := by omega
  have y3 : ((p + 1 : Nat) : Int) < ((p + 2 : Nat) : Int) := by omega
  have y4 : (0 : Int) ≤ ((la + 1 : Nat) : Int) := by omega
  have y5 : ((la + 1 : Nat) : Int) ≤ 17592186044416 := by omega
  have y6 : (0 : Int) ≤ ((la - (p + 2) + 1 : Nat) : Int) := by omega
  have y7 : ((la - (p + 2) + 1 : Nat) : Int) ≤ 17592186044416 := by omega
  have hml := dl_lt b32 m
  rw [hla] at hml
  have ed : subI .i64 ((p + 2 : Nat) : Int) 1 = ((p + 1 : Nat) : Int) := by rw [subI_i (by omega) (by omega)]; omega
  have htop := D_top b32 hn
  rw [hp, show p + 2 - 1 = p + 1 from rfl] at htop
  have e1 : lrd (Y n) ((p + 1 : Nat) : Int) = ((n / 4294967296 ^ (p + 1) : Nat) : Int) := by rw [lrd_D b32, Nat.mod_eq_of_lt htop.2]
  have hd2 : dl 2 (n / 4294967296 ^ (p + 1)) ≤ 32 := dl_le b2 htop.2
  obtain ⟨s, hs⟩ : ∃ s, s + dl 2 (n / 4294967296 ^ (p + 1)) = 32 := ⟨32 - dl 2 (n / 4294967296 ^ (p + 1)), by omega⟩
  obtain ⟨n1, n2, n3, n4⟩ := norm_eq hp hs
  have es : subI .i64 32 ((dl 2 (n / 4294967296 ^ (p + 1)) : Nat) : Int) = (s : Int) := by rw [subI_i (by omega) (by omega)]; omega
  have hz : fn_bits_LeadingZeros32 N ((n / 4294967296 ^ (p + 1) : Nat) : Int) = some (s : Int) := by
    unfold fn_bits_LeadingZeros32
    rw [len32_eq N _ htop.2, Option.bind_some, es]
  obtain ⟨hM1, hM2⟩ := parts_nums m n p s la hn hml hle n1 n2
  have pp : 0 < 2 ^ s := Nat.pow_pos (by decide)
  have h := parts_loop N (m * 2 ^ s) (n * 2 ^ s) s p la (Nat.le_trans n1 (by decide)) n2 n3 n4 hle hM2 hM1 q1 hN2 (la - (p + 2) + 1) N (Nat.le_refl _) q3
  have z1 : m * 2 ^ s / 4294967296 ^ (la - (p + 2) + 1) / (n * 2 ^ s) = 0 := by
    rw [Nat.div_div_eq_div_mul]; exact Nat.div_eq_of_lt hM2
  have z2 : m * 2 ^ s / 4294967296 ^ (la - (p + 2) + 1) % (n * 2 ^ s) = m * 2 ^ s / 4294967296 ^ (la - (p + 2) + 1) := by
    apply Nat.mod_eq_of_lt
    rw [Nat.div_lt_iff_lt_mul (p32 _), Nat.mul_comm (n * 2 ^ s)]; exact hM2
  rw [z1, z2, Nat.zero_mul, Nat.mod_add_div, T_nought (by decide), z3, Nat.mul_div_mul_right _ _ pp, Nat.mul_mod_mul_right, Nat.mul_div_cancel _ pp] at h
  have s0 : s / 32 = 0 := Nat.div_eq_of_lt (Nat.lt_of_le_of_lt n1 (by decide))
  have u1 := up_eq N n s (Nat.lt_of_le_of_lt n1 (by decide)) (by rw [s0]; exact q4) hN2
  have u2 := up_eq N m s (Nat.lt_of_le_of_lt n1 (by decide)) (by rw [s0]; exact q5) hN2
  have c1 := cp_pad hM1
  unfold fn_nat_parts t54
  rw [compare_eq N m n q6 q7, Option.bind_some, cmpZ_lt, decide_eq_false hlt, cond_false, D_len, hp, eqI_f y1, cond_false, ed, leI_t y2, cond_true, ltI_t y3, cond_true, e1, hz, Option.bind_some, u1, Option.bind_some, D_len, hla, e5, leI_t y4, cond_true, leI_t y5, cond_true,
    u2, Option.bind_some, D_len, n4, e6, e7, leI_t y6, cond_true, leI_t y7, cond_true, Int.toNat_natCast, Int.toNat_natCast, c1]
  exact h
theorem parts_eq (N m n : Nat) (hn : 0 < n) (hdm : dl 4294967296 m + 10 < N) (hdn : dl 4294967296 n + 10 < N) (hN2 : N < 17592186044416) : fn_nat_parts N (Y m) (Y n) = some (Y (m / n), Y (m % n)) := by
  by_cases hlt : m < n
  · exact parts_less N m n hlt hdm hN2
  obtain ⟨h0, hle⟩ := dl_le_of hn hlt
  by_cases h1 : dl 4294967296 n = 1
  · exact parts_one N m n hn hlt h1 hdm hN2
  exact parts_big N m n (dl 4294967296 n - 2) (dl 4294967296 m) hn hlt (by omega) rfl (by omega) hdm hN2
theorem divmod_eq (N m n : Nat) (hn : 0 < n) (hdm : dl 4294967296 m ≤ 8192) (hdn : dl 4294967296 n ≤ 8192) (hN : 20000 < N) (hN2 : N < 17592186044416) : fn_nat_DivMod N (Y m) (Y n) = some (Y (m / n), Y (m % n), none) := by
  unfold fn_nat_DivMod
  have hn1 : 0 < dl 4294967296 n := ((dl_spec b32 n).2 hn).2
  rw [both_Y N m n hdm hdn, Option.bind_some, show isNoneI none = true from rfl, Bool.not_true, cond_false, D_len, eqI_f (by omega), cond_false, parts_eq N m n hn (by omega) (by omega) hN2, Option.bind_some]
end Go.Proofs.YtoihjgfnocimjaaDoor.Nt

/- PROVED HERE: NatLong's pure statement, over the functions that eng2.py printed: what would have more words than a number may is an error, what has just as many is not. No condition beyond the arguments' kinds. -/
import Derived.Test.YtoihjgfnocimjaaDoorNat3
import Derived.Test.YtoihjgfnocimjaaDoorFnNatLong
namespace Go.Proofs.YtoihjgfnocimjaaDoor
open Go Eng Fns Bw Dig Nt Num Slc
open Rn (X Y b32 b16 cmpZ)
set_option linter.unusedSimpArgs false
theorem sure_eq : fn_tillerlaw02_sure 100000 = some true := by kernel_rfl
theorem mul_long (N m n : Nat) (hm : dl 4294967296 m ≤ 8192) (hn : dl 4294967296 n ≤ 8192) (h : 8193 < dl 4294967296 m + dl 4294967296 n) : fn_nat_Mul N (Y m) (Y n) = some ([], some 2) := by
  unfold fn_nat_Mul
  have e1 : addI .i64 (dl 4294967296 m : Int) (dl 4294967296 n : Int) = ((dl 4294967296 m + dl 4294967296 n : Nat) : Int) := addN (by simp only [lim]; omega)
  rw [both_Y N m n hm hn, Option.bind_some, show isNoneI none = true from rfl, Bool.not_true, cond_false, D_len, D_len, e1, ltI_t (by omega), cond_true]
theorem dl_d (d j : Nat) (h1 : 1 ≤ d) (h2 : d ≤ 7) : dl 4294967296 (d * 4294967296 ^ j) = j + 1 := by
  have hp := p32 j
  refine dl_eq b32 (by simpa using Nat.mul_le_mul_right (4294967296 ^ j) h1) ?_
  rw [Nat.pow_succ, Nat.mul_comm]
  exact Nat.mul_lt_mul_of_pos_left (by omega) hp
theorem shl_B (N d i j s : Nat) (h1 : 1 ≤ d) (h2 : d ≤ 7) (hi : i < 8192) (hs : s = 32 * j) (hj : j ≤ 8192) (hN : 20000 < N) (hN2 : N < 17592186044416) : fn_nat_Shl N (Y (d * 4294967296 ^ i)) (s : Int) = some (bnd32 (d * 4294967296 ^ (i + j))) := by
  have hp := p32 i
  have h0 : d * 4294967296 ^ i ≠ 0 := by
    have := Nat.mul_pos (show 0 < d by omega) hp
    omega
  rw [shl_eq N _ s (by rw [dl_d d i h1 h2]; omega) hN hN2, if_neg h0, if_neg (by omega), hs, pow2_32, Nat.mul_assoc, ← Nat.pow_add]
theorem pure_NatLong : ∀ (a0 a1 : Int), okN .i64 a0 → okN .u32 a1 → ∃ N, fn_tillerlaw02_NatLong N a0 a1 = some true := by
  intro a b ha hb
  have ha := i64_in ha
  have hb := u32_in hb
  refine ⟨100000, ?_⟩
  obtain ⟨k, hk, ek⟩ : ∃ k : Nat, k < 4 ∧ cvI .i64 (remI .u64 (cvI .u64 a) 4) = (k : Int) := by
    have e : cvI .u64 a = a % 18446744073709551616 := by unfold cvI; rw [wrap_u64]
    obtain ⟨u, hu⟩ := Int.eq_ofNat_of_zero_le (show 0 ≤ a % 18446744073709551616 by omega)
    refine ⟨u % 4, by omega, ?_⟩
    rw [e, hu, show remI .u64 (u : Int) 4 = ((u % 4 : Nat) : Int) from rfl, cvN (by simp only [lim]; omega)]
  obtain ⟨m, rfl⟩ := Int.eq_ofNat_of_zero_le hb.1
  obtain ⟨d, hd⟩ : ∃ d, d = 1 + m % 7 := ⟨_, rfl⟩
  have ed : addI .u32 1 (remI .u32 (m : Int) 7) = (d : Int) := by
    rw [show remI .u32 (m : Int) 7 = ((m % 7 : Nat) : Int) from rfl, show (1 : Int) = ((1 : Nat) : Int) from rfl, addN (by simp only [lim]; omega), hd]
  have d0 := dl_d d 0 (by omega) (by omega)
  have eY : [(d : Int)] = Y (d * 4294967296 ^ 0) := by
    rw [Y, D, d0, Nat.pow_zero, Nat.mul_one]
    show _ = [((d / 4294967296 ^ 0 % 4294967296 : Nat) : Int)]
    rw [Nat.pow_zero, Nat.div_one, Nat.mod_eq_of_lt (by omega)]
  have e1 : addI .i64 262016 (mulI .i64 32 (k : Int)) = ((262016 + 32 * k : Nat) : Int) := by
    rw [show (32 : Int) = ((32 : Nat) : Int) from rfl, mulN (by simp only [lim]; omega), show (262016 : Int) = ((262016 : Nat) : Int) from rfl, addN (by simp only [lim]; omega)]
  have e2 : addI .i64 8189 (k : Int) = ((8189 + k : Nat) : Int) := by
    rw [show (8189 : Int) = ((8189 : Nat) : Int) from rfl, addN (by simp only [lim]; omega)]
  have e3 : mulI .i64 32 (subI .i64 3 (k : Int)) = ((32 * (3 - k) : Nat) : Int) := by
    rw [show (3 : Int) = ((3 : Nat) : Int) from rfl, subN (by omega) (by simp only [lim]; omega), show (32 : Int) = ((32 : Nat) : Int) from rfl, mulN (by simp only [lim]; omega)]
  have e4 : mulI .i64 32 (subI .i64 4 (k : Int)) = ((32 * (4 - k) : Nat) : Int) := by
    rw [show (4 : Int) = ((4 : Nat) : Int) from rfl, subN (by omega) (by simp only [lim]; omega), show (32 : Int) = ((32 : Nat) : Int) from rfl, mulN (by simp only [lim]; omega)]
  obtain ⟨z, hz⟩ : ∃ z, z = 0 := ⟨0, rfl⟩
  obtain ⟨K, hK⟩ : ∃ K, K = 8188 + k := ⟨_, rfl⟩
  obtain ⟨K1, hK1⟩ : ∃ K, K = 8191 := ⟨_, rfl⟩
  obtain ⟨K2, hK2⟩ : ∃ K, K = 8192 := ⟨_, rfl⟩
  have f1 := shl_B 100000 d z K (262016 + 32 * k) (by omega) (by omega) (by omega) (by omega) (by omega) (by omega) (by omega)
  have f2 := shl_B 100000 d K (3 - k) (32 * (3 - k)) (by omega) (by omega) (by omega) (by omega) (by omega) (by omega) (by omega)
  have f3 := shl_B 100000 d K (4 - k) (32 * (4 - k)) (by omega) (by omega) (by omega) (by omega) (by omega) (by omega) (by omega)
  rw [show z + K = K by omega, bnd32, dl_d d K (by omega) (by omega), if_pos (by omega)] at f1
  rw [show K + (3 - k) = K1 by omega, bnd32, dl_d d K1 (by omega) (by omega), if_pos (by omega)] at f2
  rw [show K + (4 - k) = K2 by omega, bnd32, dl_d d K2 (by omega) (by omega), if_neg (by omega)] at f3
  have f4 := mul_long 100000 (d * 4294967296 ^ K) (d * 4294967296 ^ K) (by rw [dl_d d K (by omega) (by omega)]; omega) (by rw [dl_d d K (by omega) (by omega)]; omega) (by rw [dl_d d K (by omega) (by omega)]; omega)
  rw [← hz] at eY
  unfold fn_tillerlaw02_NatLong
  rw [ek, ed, eY, e1, e2, e3, e4, f1, Option.bind_some, f2, Option.bind_some, f3, Option.bind_some, f4, Option.bind_some, D_len, D_len, dl_d d K (by omega) (by omega), dl_d d K1 (by omega) (by omega), eqI_t (show ((K + 1 : Nat) : Int) = ((8189 + k : Nat) : Int) by omega), eqI_t (show ((K1 + 1 : Nat) : Int) = 8192 by omega), sure_eq]
  rfl
end Go.Proofs.YtoihjgfnocimjaaDoor

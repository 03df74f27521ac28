/- PROVED HERE: WideBack's pure statement, over the functions that eng.py printed: what is added is taken away again; what is moved up, and down again, has its low bits. No condition beyond the arguments' kinds. -/
import Derived.Test.YtpppedolgipikaaWid6
import Derived.Test.YtpppedolgipikaaFnWideBack
namespace Go.Proofs.Ytpppedolgipikaa
open Go Eng Fns Bw Wid
theorem up_down (x k : Nat) (hk : k ≤ 256) : x * 2 ^ k % 2 ^ 256 / 2 ^ k = x % 2 ^ (256 - k) := by
  have e : (2 : Nat) ^ 256 = 2 ^ (256 - k) * 2 ^ k := by rw [← Nat.pow_add]; congr 1; omega
  rw [e, Nat.mul_mod_mul_right, Nat.mul_div_cancel _ (pow_pos' k)]
theorem up_lost (x k : Nat) (hk : k ≤ 256) : x * 2 ^ k % 2 ^ 256 % 2 ^ k = 0 := by
  rw [Nat.mod_mod_of_dvd _ (Nat.pow_dvd_pow 2 hk), Nat.mul_mod_left]
theorem pure_WideBack : ∀ (a0 : Vec 4) (a1 : Vec 4) (a2 : Int), okL .u64 a0.1 → okL .u64 a1.1 → okN .i64 a2 → ∃ N, fn_tillerlaw01_WideBack N a0 a1 a2 = some true := by
  intro a b n ha hb hn
  obtain ⟨x, hx, rfl⟩ := W_all a ha
  obtain ⟨y, hy, rfl⟩ := W_all b hb
  refine ⟨300, ?_⟩
  have hm : ∀ u : Nat, u % 2 ^ 256 < 2 ^ 256 := fun u => Nat.mod_lt _ (by decide)
  obtain ⟨k, hk, ek⟩ : ∃ k : Nat, k < 256 ∧ cvI .i64 (remI .u64 (cvI .u64 n) 256) = (k : Int) := by
    have h1 := i64_in hn
    have e : remI .u64 (cvI .u64 n) 256 = (n % 18446744073709551616) % 256 := by
      unfold remI cvI; rw [wrap_u64]
      exact Int.tmod_eq_emod_of_nonneg (by omega)
    refine ⟨(n % 18446744073709551616 % 256).toNat, by omega, ?_⟩
    rw [e, cvI_i (by omega) (by omega)]; omega
  unfold fn_tillerlaw01_WideBack
  have e3 : subI .i64 256 (k : Int) = ((256 - k : Nat) : Int) := by rw [subI_i (by omega) (by omega)]; omega
  rw [ek, e3, add_eq 300 (by omega) x y hx hy, Option.bind_some, sub_eq 300 (by omega) _ y (hm _) hy, Option.bind_some, shl_eq 300 (by omega), Option.bind_some, shr_eq 300 (by omega) _ (shl_lt x hx _), Option.bind_some, shr_eq 300 (by omega) x hx, Option.bind_some, show (0 : Int) = ((0 : Nat) : Int) from rfl, eq_n]
  have e4 : (2 ^ 256 + (x + y) % 2 ^ 256 - y) % 2 ^ 256 = x := by omega
  by_cases h0 : k = 0
  · subst h0
    have z0 : shlZ 0 ((256 - 0 : Nat) : Int) = 0 := by simp [shlZ]
    have z1 : shlZ x ((0 : Nat) : Int) = x := by simp [shlZ]
    have z2 : shrZ x ((0 : Nat) : Int) = x := by simp [shrZ]
    have z3 : lostZ x ((0 : Nat) : Int) = false := by simp [lostZ]
    rw [decide_eq_true rfl, cond_true, W_zero, shl_eq 300 (by omega), Option.bind_some, z0, sub_eq 300 (by omega) x 0 hx (by decide), Option.bind_some, e4, z1, z2, z3, W_eq hx hx, W_eq hx (hm _), decide_eq_true rfl, decide_eq_true (by omega), sure_eq]
    rfl
  · have z1 : shlZ x (k : Int) = x * 2 ^ k % 2 ^ 256 := by unfold shlZ; rw [if_neg (by omega), if_neg (by omega), Int.toNat_natCast]
    have z2 : shrZ (shlZ x (k : Int)) (k : Int) = x % 2 ^ (256 - k) := by unfold shrZ; rw [if_neg (by omega), z1, Int.toNat_natCast, up_down x k (by omega)]
    have z3 : lostZ (shlZ x (k : Int)) (k : Int) = false := by unfold lostZ; rw [if_neg (by omega), z1, Int.toNat_natCast, up_lost x k (by omega)]; rfl
    have hd := Nat.div_add_mod x (2 ^ (256 - k))
    have z4 : shrZ x ((256 - k : Nat) : Int) = x / 2 ^ (256 - k) := by unfold shrZ; rw [if_neg (by omega), Int.toNat_natCast]
    have z5 : shlZ (x / 2 ^ (256 - k)) ((256 - k : Nat) : Int) = 2 ^ (256 - k) * (x / 2 ^ (256 - k)) := by
      unfold shlZ; rw [if_neg (by omega), if_neg (by omega), Int.toNat_natCast, Nat.mul_comm, Nat.mod_eq_of_lt (by omega)]
    have hlt : x % 2 ^ (256 - k) < 2 ^ 256 := Nat.lt_of_le_of_lt (Nat.mod_le ..) hx
    rw [decide_eq_false h0, cond_false, shl_eq 300 (by omega), Option.bind_some, z4, z5, sub_eq 300 (by omega) x _ hx (by omega), Option.bind_some, e4, z2, z3, W_eq hx hx, decide_eq_true rfl, W_eq hlt (hm _), decide_eq_true (by omega), sure_eq]
    rfl
end Go.Proofs.Ytpppedolgipikaa

/- PROVED HERE: NatParts' pure statement, over the functions that eng2.py printed: quotient times divisor and rest are the number, the rest below the divisor; by nothing there is none. No condition beyond the arguments' kinds. -/
import Derived.Test.YtoihjgfnocimjaaDoorNat6
import Derived.Test.YtoihjgfnocimjaaDoorFnNatParts
namespace Go.Proofs.YtoihjgfnocimjaaDoor
open Go Eng Fns Bw Dig Nt Num Slc
open Rn (X Y b32 b16 cmpZ)
set_option linter.unusedSimpArgs false
theorem sure_eq : fn_tillerlaw02_sure 100000 = some true := by kernel_rfl
theorem bnd {α β : Type} {x : Option α} {a : α} {f : α → Option β} {r : Option β} (h : x = some a) (h2 : f a = r) : x.bind f = r := by rw [h, Option.bind_some]; exact h2
theorem cnT {β : Type} {b : Bool} {x y r : β} (h : b = true) (h2 : x = r) : cond b x y = r := by rw [h]; exact h2
theorem cnF {β : Type} {b : Bool} {x y r : β} (h : b = false) (h2 : y = r) : cond b x y = r := by rw [h]; exact h2
theorem num_eq (N : Nat) (x : Option Int) : fn_num N x = some (x.getD 0) := rfl
theorem dl_mul32 (m n : Nat) : dl 4294967296 (m * n) ≤ dl 4294967296 m + dl 4294967296 n := by
  apply dl_le b32
  rw [Nat.pow_add]
  exact Nat.mul_lt_mul'' (dl_lt b32 m) (dl_lt b32 n)
theorem mul_eq (N m n : Nat) (hm : dl 4294967296 m ≤ 4000) (hn : dl 4294967296 n ≤ 4000) (hN : 20000 < N) (hN2 : N < 17592186044416) : fn_nat_Mul N (Y m) (Y n) = some (Y (m * n), none) := by
  unfold fn_nat_Mul
  have e1 : addI .i64 (dl 4294967296 m : Int) (dl 4294967296 n : Int) = ((dl 4294967296 m + dl 4294967296 n : Nat) : Int) := addN (by simp only [lim]; omega)
  have hd := dl_mul32 m n
  rw [both_Y N m n (by omega) (by omega), Option.bind_some, show isNoneI none = true from rfl, Bool.not_true, cond_false, D_len, D_len, e1]
  rw [ltI_f (by omega), cond_false, times_eq N m n (by omega) hN2, Option.bind_some, bounded_Y N _ (by omega) (by omega), Option.bind_some, bnd32, if_pos (by omega)]
theorem cmp_Y (N m n : Nat) (hm : dl 4294967296 m ≤ 8192) (hn : dl 4294967296 n ≤ 8192) (hN : 8192 < N) (hN2 : N < 4611686018427387904) : fn_nat_Cmp N (Y m) (Y n) = some (cmpZ m n, none) := by
  unfold fn_nat_Cmp
  rw [both_Y N m n hm hn, Option.bind_some, show isNoneI none = true from rfl, Bool.not_true, cond_false, compare_eq N m n (by omega) hN2, Option.bind_some]
theorem divmod_bad (N : Nat) (xs ys : List Int) (h : fn_nat_both N xs ys = some (some 1)) : fn_nat_DivMod N xs ys = some ([], [], some 1) := by
  unfold fn_nat_DivMod
  exact bnd h (cnT rfl rfl)
theorem divmod_zero (N m : Nat) (hm : dl 4294967296 m ≤ 8192) : fn_nat_DivMod N (Y m) (Y 0) = some ([], [], some 5) := by
  unfold fn_nat_DivMod
  exact bnd (both_Y N m 0 hm (by rw [dl_zero]; omega)) (cnF rfl (cnT (by rw [D_len, dl_zero]; rfl) rfl))
theorem main_ok (m n : Nat) (hn : 0 < n) (hm : dl 4294967296 m ≤ 60) (hnn : dl 4294967296 n ≤ 60) : fn_tillerlaw02_NatParts 100000 (Y m) (Y n) = some true := by
  have hn1 : 0 < dl 4294967296 n := ((dl_spec b32 n).2 hn).2
  have hdq : dl 4294967296 (m / n) ≤ 60 := dl_le b32 (Nat.lt_of_lt_of_le (Nat.lt_of_le_of_lt (Nat.div_le_self m n) (dl_lt b32 m)) (Nat.pow_le_pow_right (by decide) hm))
  have hdr : dl 4294967296 (m % n) ≤ 60 := dl_le b32 (Nat.lt_of_lt_of_le (Nat.lt_of_le_of_lt (Nat.mod_le m n) (dl_lt b32 m)) (Nat.pow_le_pow_right (by decide) hm))
  have hdp := dl_mul32 (m / n) n
  have k1 := divmod_eq 100000 m n hn (by omega) (by omega) (by omega) (by omega)
  have k2 := mul_eq 100000 (m / n) n (by omega) (by omega) (by omega) (by omega)
  have k3 := add_eq 100000 (m / n * n) (m % n) (by omega) (by omega) (by omega) (by omega)
  rw [Nat.mul_comm (m / n) n, Nat.div_add_mod, bnd32, if_pos (by omega), Nat.mul_comm n] at k3
  have k4 := cmp_Y 100000 (m % n) n (by omega) (by omega) (by omega) (by omega)
  have k5 : ltI (cmpZ (m % n) n) 0 = true := by rw [cmpZ_lt]; exact decide_eq_true (Nat.mod_lt m hn)
  have k7 := words_Y 100000 m m (by omega) (by omega)
  rw [decide_eq_true rfl] at k7
  have l1 : ltI 60 ((Y m).length : Int) = false := by rw [D_len]; exact ltI_f (by omega)
  have l2 : ltI 60 ((Y n).length : Int) = false := by rw [D_len]; exact ltI_f (by omega)
  have l3 : eqI ((Y n).length : Int) 0 = false := by rw [D_len]; exact eqI_f (by omega)
  have i1 := is_Y 100000 m (by omega)
  have i2 := is_Y 100000 n (by omega)
  have i3 := is_Y 100000 (m / n) (by omega)
  have i4 := is_Y 100000 (m % n) (by omega)
  unfold fn_tillerlaw02_NatParts
  exact cnF l1 (cnF l2 (bnd k1 (bnd i1 (cnF rfl (bnd i2 (cnF rfl (cnF l3 (bnd k2 (bnd k3 (bnd k4 (cnT rfl (cnT rfl (cnT rfl (cnT rfl (cnT k5 (bnd k7 (cnT rfl (bnd i3 (cnT rfl (bnd i4 (cnT rfl (bnd sure_eq rfl))))))))))))))))))))))
theorem pure_NatParts : ∀ (a0 a1 : List Int), okL .u32 a0 ∧ a0.length ≤ maxLen → okL .u32 a1 ∧ a1.length ≤ maxLen → ∃ N, fn_tillerlaw02_NatParts N a0 a1 = some true := by
  intro a b ⟨ha, hal⟩ ⟨hb, hbl⟩
  refine ⟨100000, ?_⟩
  unfold maxLen at hal hbl
  by_cases h1 : 60 < a.length
  · exact cnT (ltI_t (by omega)) (bnd sure_eq rfl)
  by_cases h2 : 60 < b.length
  · exact cnF (ltI_f (by omega)) (cnT (ltI_t (by omega)) (bnd sure_eq rfl))
  rcases nat_cases a ha with ⟨m, hm, hml, rfl⟩ | hbad
  rotate_left
  · have hbo := both_bad1 100000 a b hbad (by omega)
    exact cnF (ltI_f (by omega)) (cnF (ltI_f (by omega)) (bnd (divmod_bad _ _ _ hbo) (bnd (is_bad 100000 a hbad (by omega)) (cnT rfl (bnd (num_eq _ _) (cnT rfl (bnd sure_eq rfl)))))))
  rcases nat_cases b hb with ⟨n, hn, hnl, rfl⟩ | hbad
  rotate_left
  · have hbo := both_bad2 100000 m b hm hbad (by omega)
    exact cnF (ltI_f (by omega)) (cnF (ltI_f (by omega)) (bnd (divmod_bad _ _ _ hbo) (bnd (is_Y 100000 m hm) (cnF rfl (bnd (is_bad 100000 b hbad (by omega)) (cnT rfl (bnd (num_eq _ _) (cnT rfl (bnd sure_eq rfl)))))))))
  rw [D_len] at h1 h2
  by_cases h0 : n = 0
  · subst h0
    have l3 : eqI ((Y 0).length : Int) 0 = true := by rw [D_len, dl_zero]; rfl
    have l1 : ltI 60 ((Y m).length : Int) = false := by rw [D_len]; exact ltI_f (by omega)
    have l2 : ltI 60 ((Y 0).length : Int) = false := by rw [D_len]; exact ltI_f (by omega)
    exact cnF l1 (cnF l2 (bnd (divmod_zero 100000 m hm) (bnd (is_Y 100000 m hm) (cnF rfl (bnd (is_Y 100000 0 hn) (cnF rfl (cnT l3 (bnd (num_eq _ _) (cnT rfl (cnT rfl (bnd sure_eq rfl)))))))))))
  · exact main_ok m n (by omega) (by omega) (by omega)
end Go.Proofs.YtoihjgfnocimjaaDoor

/- PROVED HERE: FixSines' pure statement, over the functions that eng2.py printed: between the bounds of any angle's sine and cosine these lie, and the bounds are near; or the errors. No condition beyond the argument's kind. -/
import Derived.Test.YtoconobigciggaaDoorSinr
import Derived.Test.YtoconobigciggaaDoorFnFixSines
namespace Go.Proofs.YtoconobigciggaaDoor
open Go Eng Fns Bw Dig Rn Wid Fixp Num Sinp Sinq
set_option linter.unusedSimpArgs false
theorem sure_eq : fn_tillerlaw15_sure 300 = some true := by kernel_rfl
theorem one_eq : fn_tillerlaw15_one 300 = some (W (2 ^ 248)) := by kernel_rfl
theorem fone_eq : fn_fix_one 300 = some (W (2 ^ 248)) := by kernel_rfl
theorem fct_big (f : Nat) (hf : f = 1 ∨ f = 2) : 2 ^ 248 < fct f 80 := by
  rcases hf with rfl | rfl <;> decide +kernel
/-- a square at two scales -/
theorem sq_near (x A S : Nat) (hA : 0 < A) (hS : 0 < S) (hx : x ≤ S) : x * x / S ≤ S ∧ (A * x) * (A * x) / (A * S) ≤ A * S ∧ A * (x * x / S) ≤ (A * x) * (A * x) / (A * S) ∧ (A * x) * (A * x) / (A * S) ≤ A * (x * x / S) + A := by
  have e : (A * x) * (A * x) / (A * S) = A * (x * x) / S := by
    rw [show A * x * (A * x) = A * (A * (x * x)) by simp only [Nat.mul_assoc, Nat.mul_left_comm], Nat.mul_div_mul_left _ _ hA]
  have h1 : x * x / S ≤ S := by
    apply Nat.div_le_of_le_mul
    exact Nat.mul_le_mul hx hx
  have h2 := Nat.div_add_mod (x * x) S
  have h3 := Nat.mod_lt (x * x) hS
  refine ⟨h1, ?_, ?_, ?_⟩
  · rw [e]
    apply Nat.div_le_of_le_mul
    rw [show S * (A * S) = A * (S * S) by simp only [Nat.mul_left_comm]]
    exact Nat.mul_le_mul_left _ (Nat.mul_le_mul hx hx)
  · rw [e, Nat.le_div_iff_mul_le hS, Nat.mul_assoc]
    apply Nat.mul_le_mul_left
    rw [Nat.mul_comm]; omega
  · rw [e]
    apply Nat.div_le_of_le_mul
    rw [show S * (A * (x * x / S) + A) = A * (S * (x * x / S) + S) by rw [Nat.mul_add, Nat.mul_add, Nat.mul_left_comm, Nat.mul_comm S A]]
    apply Nat.mul_le_mul_left
    omega
theorem near_ok {s r A : Nat} (h1 : A * s ≤ r + 512 * A) (h2 : r ≤ A * s + 512 * A) : (s - 512) * A ≤ r + 1000 ∧ r ≤ (s + 512) * A + 1000 := by
  constructor
  · by_cases h : s < 512
    · rw [show s - 512 = 0 by omega]; omega
    · obtain ⟨u, rfl⟩ : ∃ u, s = u + 512 := ⟨s - 512, by omega⟩
      rw [Nat.add_sub_cancel, Nat.mul_comm u]
      rw [Nat.mul_add, Nat.mul_comm A 512] at h1; omega
  · rw [Nat.add_mul, Nat.mul_comm s]; omega
theorem main_ok (x A S : Nat) (hA : A = 2 ^ 72) (hS : S = 2 ^ 248) (hR : ∀ s, s = 320 → A * S = 2 ^ s) (hRlt : A * S < 65536 ^ 21) (hA5 : dl 65536 A ≤ 5) (hx : x ≤ S) : fn_tillerlaw15_FixSines 300 (W x) = some true := by
  have hS0 : 0 < S := by rw [hS]; decide
  have hS8 : 8 ≤ S := by rw [hS]; decide
  have hA0 : 0 < A := by rw [hA]; decide
  have hSlt : 4 * S + 4096 < 2 ^ 256 := by rw [hS]; decide
  have hS250 : 2 * S < 2 ^ 250 := by rw [hS]; decide
  have hf2 : S < fct 2 80 := by rw [hS]; exact fct_big 2 (.inr rfl)
  have hf1 : S < fct 1 80 := by rw [hS]; exact fct_big 1 (.inl rfl)
  obtain ⟨q1, q2, q3, q4⟩ := sq_near x A S hA0 hS0 hx
  have hR0 : 0 < A * S := Nat.mul_pos hA0 hS0
  have hAx : A * x ≤ A * S := Nat.mul_le_mul_left _ hx
  obtain ⟨n1, n2⟩ := sums_near (f := 2) (t0 := x) hS8 hA0 q1 q2 q3 q4 (by omega) hx hf2
  obtain ⟨m1, m2⟩ := sums_near (f := 1) (t0 := S) hS8 hA0 q1 q2 q3 q4 (by omega) (Nat.le_refl _) hf1
  have pS := prog_series 300 S (x * x / S) 2 x (by omega) hS q1 (by omega) (by omega) hx
  have pC := prog_series 300 S (x * x / S) 1 S (by omega) hS q1 (by omega) (by omega) (Nat.le_refl _)
  have rS := ref_series 300 (A * S) ((A * x) * (A * x) / (A * S)) 2 (A * x) (by omega) (by omega) hR hRlt hR0 q2 (by omega) (by omega) hAx
  have rC := ref_series 300 (A * S) ((A * x) * (A * x) / (A * S)) 1 (A * S) (by omega) (by omega) hR hRlt hR0 q2 (by omega) (by omega) (Nat.le_refl _)
  have lS := evod_lt (f := 2) (t0 := x) hS0 q1 (by omega) hx 80
  have lC := evod_lt (f := 1) (t0 := S) hS0 q1 (by omega) (Nat.le_refl _) 80
  have kS := evod_lt (f := 2) (t0 := A * x) hR0 q2 (by omega) hAx 100
  have kC := evod_lt (f := 1) (t0 := A * S) hR0 q2 (by omega) (Nat.le_refl _) 100
  generalize hs : ev (tm S (x * x / S) 2 x) 80 - od (tm S (x * x / S) 2 x) 80 = s at *
  generalize hc : ev (tm S (x * x / S) 1 S) 80 - od (tm S (x * x / S) 1 S) 80 = c at *
  generalize hu : ev (tm (A * S) ((A * x) * (A * x) / (A * S)) 2 (A * x)) 100 - od (tm (A * S) ((A * x) * (A * x) / (A * S)) 2 (A * x)) 100 = u at *
  generalize hv : ev (tm (A * S) ((A * x) * (A * x) / (A * S)) 1 (A * S)) 100 - od (tm (A * S) ((A * x) * (A * x) / (A * S)) 1 (A * S)) 100 = v at *
  have s2 : s ≤ 2 * S := by omega
  have c2 : c ≤ 2 * S := by omega
  have u2 : u ≤ 2 * (A * S) := by omega
  have v2 : v ≤ 2 * (A * S) := by omega
  have room : ∀ z, z ≤ 2 * (A * S) → dl 65536 z ≤ 22 := fun z hz => dl_le b16 (by rw [Nat.pow_succ]; omega)
  have w16 : ∀ z, z < 2 ^ 256 → dl 65536 z ≤ 16 := fun z hz => dlX hz
  obtain ⟨o1, o2⟩ := near_ok n1 n2
  obtain ⟨o3, o4⟩ := near_ok m1 m2
  have hA72 : ∀ k, k = 72 → A = 2 ^ k := fun k hk => by rw [hk]; exact hA
  have x256 : x < 2 ^ 256 := by omega
  have S256 : S < 2 ^ 256 := by omega
  have fsq : fn_fix_Mul 300 (W x) (W x) = some (W (x * x / S), decide (2 ^ 248 ≤ x * x / 2 ^ 256)) := by
    rw [fixMul_eq 300 x x (by omega) x256 x256, ← hS, Nat.mod_eq_of_lt (by omega)]
  have cmp0 : Wid.cmpZ x S = -1 ∨ Wid.cmpZ x S = 0 := by
    unfold Wid.cmpZ; split
    · exact .inl rfl
    · rw [if_pos (by omega)]; exact .inr rfl
  have le0 : ltI 0 (Wid.cmpZ x S) = false := by rcases cmp0 with h | h <;> rw [h] <;> rfl
  have fsin : fn_fix_Sin 300 (W x) = some (W (s - 512), W (s + 512), none) := by
    unfold fn_fix_Sin
    rw [fone_eq, ← hS, Option.bind_some, Wid.cmp_eq 300 (by omega) _ _ x256 S256, Option.bind_some, le0, cond_false, fsq, Option.bind_some]
    simp only
    rw [show (2 : Int) = ((2 : Nat) : Int) from rfl, pS, Option.bind_some, around_eq 300 s (by omega) (by omega), Option.bind_some]
  have fcos : fn_fix_Cos 300 (W x) = some (W (c - 512), W (c + 512), none) := by
    unfold fn_fix_Cos
    rw [fone_eq, ← hS, Option.bind_some, Wid.cmp_eq 300 (by omega) _ _ x256 S256, Option.bind_some, le0, cond_false, fsq, Option.bind_some, Option.bind_some]
    simp only
    rw [show (1 : Int) = ((1 : Nat) : Int) from rfl, pC, Option.bind_some, around_eq 300 c (by omega) (by omega), Option.bind_some]
  have sub : ∀ z, z ≤ 2 * S → fn_wide_Sub 300 (W (z + 512)) (W (z - 512)) = some (W (z + 512 - (z - 512)), false) := by
    intro z hz
    have e : (2 ^ 256 + (z + 512) - (z - 512)) % 2 ^ 256 = z + 512 - (z - 512) := by omega
    rw [Wid.sub_eq 300 (by omega) _ _ (by omega) (by omega), decide_eq_false (by omega), e]
  have of4 : fn_wide_Of 300 4096 = some (W 4096) := of_small 300 4096 (by decide)
  have cmp4 : ∀ z, z ≤ 2 * S → fn_wide_Cmp 300 (W (z + 512 - (z - 512))) (W 4096) = some (-1) := by
    intro z hz
    rw [Wid.cmp_eq 300 (by omega) _ _ (by omega) (by decide)]
    unfold Wid.cmpZ; rw [if_pos (by omega)]
  have hlen : fn_wide_Len 300 (W (s + 512 - (s - 512))) = some (lenN (s + 512 - (s - 512)) : Int) := Wid.len_eq 300 (by omega) _ (by omega)
  have hl13 : lenN (s + 512 - (s - 512)) ≤ 13 := lenN_le (by omega)
  obtain ⟨k, hk⟩ : ∃ k, k = 72 := ⟨_, rfl⟩
  have hshl := Rn.shl_eq 300 x k (by have := w16 x x256; omega) (by omega)
  rw [← hA72 k hk, hk, show ((72 : Nat) : Int) = 72 from rfl, Nat.mul_comm] at hshl
  have dAx := room (A * x) (by omega)
  have rcut : fn_tillerref15_cut 300 (X (A * x)) (X (A * x)) = some (X ((A * x) * (A * x) / (A * S))) := cut_eq 300 _ _ (A * S) (by omega) (by omega) hR dAx dAx
  have rsin : fn_tillerref15_Sin 300 (X (A * x)) = some (X u) := by
    unfold fn_tillerref15_Sin
    rw [rcut, Option.bind_some, show (2 : Int) = ((2 : Nat) : Int) from rfl, rS, Option.bind_some]
  obtain ⟨j, hj⟩ : ∃ j, j = 320 := ⟨_, rfl⟩
  have hone := Rn.shl_eq 300 1 j (by have := dl_le (b := 65536) (n := 1) (k := 1) b16 (by decide); omega) (by omega)
  have hj3 : ((j : Nat) : Int) = 320 := by omega
  rw [← hR j hj, hj3, Nat.one_mul] at hone
  have rcos : fn_tillerref15_Cos 300 (X (A * x)) = some (X v) := by
    unfold fn_tillerref15_Cos
    have k1 := Rn.of_eq 300 1 (by omega) (by omega)
    rw [show ((1 : Nat) : Int) = 1 from rfl] at k1
    rw [k1, Option.bind_some, hone, Option.bind_some, rcut, Option.bind_some, show (1 : Int) = ((1 : Nat) : Int) from rfl, rC, Option.bind_some]
  have bS := bounds_eq 300 u (s - 512) (s + 512) A (by omega) (by omega) hA72 hA5 (room u u2) (w16 _ (by omega)) (w16 _ (by omega)) o1 o2
  have bC := bounds_eq 300 v (c - 512) (c + 512) A (by omega) (by omega) hA72 hA5 (room v v2) (w16 _ (by omega)) (w16 _ (by omega)) o3 o4
  unfold fn_tillerlaw15_FixSines
  rw [fsin, Option.bind_some, fcos, Option.bind_some, one_eq, ← hS, Option.bind_some, Wid.cmp_eq 300 (by omega) _ _ x256 S256, Option.bind_some, le0, cond_false]
  simp only
  rw [sub s s2, Option.bind_some, sub c c2, Option.bind_some, Fixp.of_eq 300 x (by omega) x256, Option.bind_some, hshl, Option.bind_some]
  simp only [isNoneI, cond_true, Bool.not_false]
  rw [hlen, Option.bind_some, leI_t (by omega), cond_true, of4, Option.bind_some, cmp4 s s2, Option.bind_some, leI_t (by omega), cond_true, Option.bind_some, cmp4 c c2, Option.bind_some, leI_t (by omega), cond_true, rsin, Option.bind_some,
    Fixp.of_eq 300 _ (by omega) (show s - 512 < 2 ^ 256 by omega), Option.bind_some, Fixp.of_eq 300 _ (by omega) (show s + 512 < 2 ^ 256 by omega), Option.bind_some, bS, Option.bind_some, cond_true, rcos, Option.bind_some,
    Fixp.of_eq 300 _ (by omega) (show c - 512 < 2 ^ 256 by omega), Option.bind_some, Fixp.of_eq 300 _ (by omega) (show c + 512 < 2 ^ 256 by omega), Option.bind_some, bC, Option.bind_some, cond_true, sure_eq]
  rfl
theorem over_ok (x S : Nat) (hS : S = 2 ^ 248) (hx : x < 2 ^ 256) (hxs : S < x) : fn_tillerlaw15_FixSines 300 (W x) = some true := by
  have S256 : S < 2 ^ 256 := by omega
  have hc : Wid.cmpZ x S = 1 := by unfold Wid.cmpZ; rw [if_neg (by omega), if_neg (by omega)]
  have gt0 : ltI 0 (Wid.cmpZ x S) = true := by rw [hc]; rfl
  have fsin : fn_fix_Sin 300 (W x) = some (Vec.zero 4, Vec.zero 4, some 1) := by
    unfold fn_fix_Sin
    rw [fone_eq, ← hS, Option.bind_some, Wid.cmp_eq 300 (by omega) _ _ hx S256, Option.bind_some, gt0, cond_true]
  have fcos : fn_fix_Cos 300 (W x) = some (Vec.zero 4, Vec.zero 4, some 1) := by
    unfold fn_fix_Cos
    rw [fone_eq, ← hS, Option.bind_some, Wid.cmp_eq 300 (by omega) _ _ hx S256, Option.bind_some, gt0, cond_true]
  unfold fn_tillerlaw15_FixSines
  rw [fsin, Option.bind_some, fcos, Option.bind_some, one_eq, ← hS, Option.bind_some, Wid.cmp_eq 300 (by omega) _ _ hx S256, Option.bind_some, gt0, cond_true]
  unfold fn_num
  simp only [Option.bind_some, sure_eq]
  rfl
theorem pw {A S a b s : Nat} (hA : A = 2 ^ a) (hS : S = 2 ^ b) (hs : s = a + b) : A * S = 2 ^ s := by
  rw [hA, hS, hs, Nat.pow_add]
theorem pure_FixSines : ∀ (a0 : Vec 4), okL .u64 a0.1 → ∃ N, fn_tillerlaw15_FixSines N a0 = some true := by
  intro a ha
  obtain ⟨x, hx, rfl⟩ := W_all a ha
  refine ⟨300, ?_⟩
  obtain ⟨S, hS⟩ : ∃ S, S = 2 ^ 248 := ⟨_, rfl⟩
  obtain ⟨A, hA⟩ : ∃ A, A = 2 ^ 72 := ⟨_, rfl⟩
  by_cases h : S < x
  · exact over_ok x S hS hx h
  · refine main_ok x A S hA hS (fun s hs => ?_) ?_ ?_ (by omega)
    · exact pw hA hS hs
    · rw [hA, hS]; decide +kernel
    · rw [hA]; exact dl_le b16 (by decide)
end Go.Proofs.YtoconobigciggaaDoor

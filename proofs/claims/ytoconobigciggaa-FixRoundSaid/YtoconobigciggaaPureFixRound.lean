/- PROVED HERE: FixRound's pure statement, over the functions that eng2.py printed: the squares of the sine and the cosine are together 1, between their bounds. No condition beyond the argument's kind. -/
import Derived.Test.YtoconobigciggaaSinx
import Derived.Test.YtoconobigciggaaFnFixRound
namespace Go.Proofs.Ytoconobigciggaa
open Go Eng Fns Bw Dig Rn Wid Fixp Sinp Sinq
open Trig (su F squares_near)
set_option linter.unusedSimpArgs false
theorem sure_eq : fn_tillerlaw15_sure 300 = some true := by kernel_rfl
theorem isNoneI_none : isNoneI none = true := rfl
theorem isNoneI_some (n : Int) : isNoneI (some n) = false := rfl
theorem sq_le {a b A u v : Nat} (h1 : a * A ≤ u) (h2 : b * A ≤ v) : A * A * (a * a + b * b) ≤ u * u + v * v := by
  have e1 := Nat.mul_le_mul h1 h1
  have e2 := Nat.mul_le_mul h2 h2
  have : A * A * (a * a + b * b) = a * A * (a * A) + b * A * (b * A) := by
    rw [Nat.mul_add]
    simp only [Nat.mul_assoc, Nat.mul_left_comm, Nat.mul_comm]
  omega
theorem sq_ge {a b A u v : Nat} (h1 : u ≤ a * A) (h2 : v ≤ b * A) : u * u + v * v ≤ A * A * (a * a + b * b) := by
  have e1 := Nat.mul_le_mul h1 h1
  have e2 := Nat.mul_le_mul h2 h2
  have : A * A * (a * a + b * b) = a * A * (a * A) + b * A * (b * A) := by
    rw [Nat.mul_add]
    simp only [Nat.mul_assoc, Nat.mul_left_comm, Nat.mul_comm]
  omega
theorem sq_cut2 {A S E : Nat} (h : A * S * (A * S) < A * A * E + A * A) : S * S ≤ E := by
  have e : A * A * E + A * A = A * A * (E + 1) := by rw [Nat.mul_add, Nat.mul_one]
  have e2 : A * S * (A * S) = A * A * (S * S) := by simp only [Nat.mul_assoc, Nat.mul_left_comm, Nat.mul_comm]
  rw [e, e2] at h
  have := Nat.lt_of_mul_lt_mul_left h
  omega
theorem nums_ok (x S A : Nat) (hS : S = 2 ^ 248) (hA : A = F * S ^ 200) (hx : x ≤ S) : ∃ s c, s ≤ 2 * S ∧ c ≤ 2 * S ∧ fn_fix_Sin 300 (W x) = some (W (s - 512), W (s + 512), none) ∧ fn_fix_Cos 300 (W x) = some (W (c - 512), W (c + 512), none) ∧
    (s - 512) * (s - 512) + (c - 512) * (c - 512) ≤ S * S ∧ S * S ≤ (s + 512) * (s + 512) + (c + 512) * (c + 512) := by
  obtain ⟨s, s2, fsin, s3, s4⟩ := sin_at x S A hS hA hx
  obtain ⟨c, c2, fcos, c3, c4⟩ := cos_at x S A hS hA hx
  obtain ⟨n1, n2⟩ := squares_near (x := x) hS hA hx
  have hA0 := A_pos hS hA
  exact ⟨s, c, s2, c2, fsin, fcos, sq_cut (a := 0) (c := 0) hA0 (Nat.lt_of_le_of_lt (sq_le s3 c3) n1), sq_cut2 (Nat.lt_of_lt_of_le n2 (Nat.add_le_add_right (sq_ge s4 c4) _))⟩
theorem bnd {α β : Type} {x : Option α} {a : α} {f : α → Option β} {r : Option β} (h : x = some a) (h2 : f a = r) : x.bind f = r := by rw [h, Option.bind_some]; exact h2
theorem cnT {β : Type} {b : Bool} {x y r : β} (h : b = true) (h2 : x = r) : cond b x y = r := by rw [h]; exact h2
theorem cnF {β : Type} {b : Bool} {x y r : β} (h : b = false) (h2 : y = r) : cond b x y = r := by rw [h]; exact h2
theorem main_ok (x S s c : Nat) (hS : S = 2 ^ 248) (hSS : ∀ j, j = 496 → S * S = 2 ^ j) (s2 : s ≤ 2 * S) (c2 : c ≤ 2 * S) (fsin : fn_fix_Sin 300 (W x) = some (W (s - 512), W (s + 512), none)) (fcos : fn_fix_Cos 300 (W x) = some (W (c - 512), W (c + 512), none))
    (low : (s - 512) * (s - 512) + (c - 512) * (c - 512) ≤ S * S) (high : S * S ≤ (s + 512) * (s + 512) + (c + 512) * (c + 512)) : fn_tillerlaw15_FixRound 300 (W x) = some true := by
  have hSlt : 4 * S + 4096 < 2 ^ 256 := by rw [hS]; decide
  have w16 : ∀ z, z < 2 ^ 256 → dl 65536 z ≤ 16 := fun z hz => dlX hz
  have d1 := dl_mul (w16 (s - 512) (by omega)) (w16 (s - 512) (by omega))
  have d2 := dl_mul (w16 (c - 512) (by omega)) (w16 (c - 512) (by omega))
  have d3 := dl_mul (w16 (s + 512) (by omega)) (w16 (s + 512) (by omega))
  have d4 := dl_mul (w16 (c + 512) (by omega)) (w16 (c + 512) (by omega))
  have d5 := dl_mul (w16 S (by omega)) (w16 S (by omega))
  have d6 := dl_add d1 d2
  have d7 := dl_add d3 d4
  have a1 := w16 (s - 512) (by omega)
  have a2 := w16 (c - 512) (by omega)
  have a3 := w16 (s + 512) (by omega)
  have a4 := w16 (c + 512) (by omega)
  obtain ⟨j, hj⟩ : ∃ j, j = 496 := ⟨_, rfl⟩
  have hj3 : ((j : Nat) : Int) = 496 := by omega
  have b16' : dl 65536 1 ≤ 1 := dl_le b16 (by decide)
  have hone := Rn.shl_eq 300 1 j (by omega) (by omega)
  rw [← hSS j hj, hj3, Nat.one_mul] at hone
  have k1 := Rn.of_eq 300 1 (by omega) (by omega)
  rw [show ((1 : Nat) : Int) = 1 from rfl] at k1
  have o1 := Fixp.of_eq 300 (s - 512) (by omega) (by omega)
  have o2 := Fixp.of_eq 300 (c - 512) (by omega) (by omega)
  have o3 := Fixp.of_eq 300 (s + 512) (by omega) (by omega)
  have o4 := Fixp.of_eq 300 (c + 512) (by omega) (by omega)
  have m1 := Rn.mul_eq 300 (s - 512) (s - 512) (by omega) (by omega)
  have m2 := Rn.mul_eq 300 (c - 512) (c - 512) (by omega) (by omega)
  have m3 := Rn.mul_eq 300 (s + 512) (s + 512) (by omega) (by omega)
  have m4 := Rn.mul_eq 300 (c + 512) (c + 512) (by omega) (by omega)
  have p1 := Rn.add_eq 300 ((s - 512) * (s - 512)) ((c - 512) * (c - 512)) (by omega) (by omega)
  have p2 := Rn.add_eq 300 ((s + 512) * (s + 512)) ((c + 512) * (c + 512)) (by omega) (by omega)
  have q1 := Rn.cmp_eq 300 ((s - 512) * (s - 512) + (c - 512) * (c - 512)) (S * S) (by omega) (by omega) (by omega)
  have q2 := Rn.cmp_eq 300 (S * S) ((s + 512) * (s + 512) + (c + 512) * (c + 512)) (by omega) (by omega) (by omega)
  have r1 := cmp_le low
  have r2 := cmp_le high
  unfold fn_tillerlaw15_FixRound
  exact bnd fsin (bnd fcos (cnF rfl (cnF rfl (bnd o1 (bnd o1 (bnd m1 (bnd o2 (bnd o2 (bnd m2 (bnd p1 (bnd o3 (bnd o3 (bnd m3 (bnd o4 (bnd o4 (bnd m4 (bnd p2 (bnd k1 (bnd hone (bnd q1 (cnT r1 (bnd q2 (cnT r2 (bnd sure_eq rfl))))))))))))))))))))))))
theorem over_ok (x S : Nat) (hS : S = 2 ^ 248) (hx : x < 2 ^ 256) (hxs : S < x) : fn_tillerlaw15_FixRound 300 (W x) = some true := by
  obtain ⟨fsin, fcos, gt0⟩ := sin_over x S hS hx hxs
  have S256 : S < 2 ^ 256 := by omega
  unfold fn_tillerlaw15_FixRound
  rw [fsin, Option.bind_some, fcos, Option.bind_some, one_eq, ← hS]
  rw [isNoneI_some, Bool.not_false, cond_true, Option.bind_some, Wid.cmp_eq 300 (by omega) _ _ hx S256, Option.bind_some, gt0, cond_true, sure_eq]
  rfl
theorem pw {S a s : Nat} (hS : S = 2 ^ a) (hs : s = a + a) : S * S = 2 ^ s := by rw [hS, hs, Nat.pow_add]
theorem pure_FixRound : ∀ (a0 : Vec 4), okL .u64 a0.1 → ∃ N, fn_tillerlaw15_FixRound N a0 = some true := by
  intro a ha
  obtain ⟨x, hx, rfl⟩ := W_all a ha
  refine ⟨300, ?_⟩
  obtain ⟨S, hS⟩ : ∃ S, S = 2 ^ 248 := ⟨_, rfl⟩
  by_cases h : S < x
  · exact over_ok x S hS hx h
  · obtain ⟨s, c, s2, c2, fsin, fcos, low, high⟩ := nums_ok x S (F * S ^ 200) hS rfl (by omega)
    exact main_ok x S s c hS (fun j hj => pw hS hj) s2 c2 fsin fcos low high
end Go.Proofs.Ytoconobigciggaa

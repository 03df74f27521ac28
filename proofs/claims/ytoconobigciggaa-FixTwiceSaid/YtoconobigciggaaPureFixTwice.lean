/- PROVED HERE: FixTwice's pure statement, over the functions that eng2.py printed: the sine of twice an angle of a half at most is twice the sine times the cosine, between the bounds. No condition beyond the argument's kind. -/
import Derived.Test.YtoconobigciggaaSinx
import Derived.Test.YtoconobigciggaaFnFixTwice
namespace Go.Proofs.Ytoconobigciggaa
open Go Eng Fns Bw Dig Rn Wid Fixp Sinp Sinq
open Trig (su F twice_near)
set_option linter.unusedSimpArgs false
theorem sure_eq : fn_tillerlaw15_sure 300 = some true := by kernel_rfl
theorem bnd {α β : Type} {x : Option α} {a : α} {f : α → Option β} {r : Option β} (h : x = some a) (h2 : f a = r) : x.bind f = r := by rw [h, Option.bind_some]; exact h2
theorem cnT {β : Type} {b : Bool} {x y r : β} (h : b = true) (h2 : x = r) : cond b x y = r := by rw [h]; exact h2
theorem cnF {β : Type} {b : Bool} {x y r : β} (h : b = false) (h2 : y = r) : cond b x y = r := by rw [h]; exact h2
theorem tw_lo {a c t A u v w S : Nat} (ha : a * A ≤ u) (hc : c * A ≤ v) (hw : w ≤ t * A) (h : 2 * (u * v) < A * S * w + A * A) : a * c * 2 ≤ t * S := by
  have e1 := Nat.mul_le_mul ha hc
  have e2 := Nat.mul_le_mul_left (A * S) hw
  have e3 : a * A * (c * A) = A * A * (a * c) := by simp only [Nat.mul_assoc, Nat.mul_left_comm, Nat.mul_comm]
  have e4 : A * S * (t * A) = A * A * (t * S) := by simp only [Nat.mul_assoc, Nat.mul_left_comm, Nat.mul_comm]
  have e5 : A * A * (a * c * 2) = 2 * (A * A * (a * c)) := by rw [← Nat.mul_assoc, Nat.mul_comm]
  have e6 : A * A * (t * S + 1) = A * A * (t * S) + A * A := by rw [Nat.mul_add, Nat.mul_one]
  have : A * A * (a * c * 2) < A * A * (t * S + 1) := by omega
  have := Nat.lt_of_mul_lt_mul_left this
  omega
theorem tw_hi {b d s A u v w S : Nat} (hb : u ≤ b * A) (hd : v ≤ d * A) (hw : s * A ≤ w) (h : A * S * w < 2 * (u * v) + A * A) : s * S ≤ b * d * 2 := by
  have e1 := Nat.mul_le_mul hb hd
  have e2 := Nat.mul_le_mul_left (A * S) hw
  have e3 : b * A * (d * A) = A * A * (b * d) := by simp only [Nat.mul_assoc, Nat.mul_left_comm, Nat.mul_comm]
  have e4 : A * S * (s * A) = A * A * (s * S) := by simp only [Nat.mul_assoc, Nat.mul_left_comm, Nat.mul_comm]
  have e5 : A * A * (b * d * 2 + 1) = 2 * (A * A * (b * d)) + A * A := by rw [Nat.mul_add, Nat.mul_one, ← Nat.mul_assoc, Nat.mul_comm _ 2]
  have : A * A * (s * S) < A * A * (b * d * 2 + 1) := by omega
  have := Nat.lt_of_mul_lt_mul_left this
  omega
theorem nums_ok (h S A : Nat) (hS : S = 2 ^ 248) (hA : A = F * S ^ 200) (hx : 2 * h ≤ S) : ∃ s c t, s ≤ 2 * S ∧ c ≤ 2 * S ∧ t ≤ 2 * S ∧ fn_fix_Sin 300 (W h) = some (W (s - 512), W (s + 512), none) ∧ fn_fix_Cos 300 (W h) = some (W (c - 512), W (c + 512), none) ∧
    fn_fix_Sin 300 (W (2 * h)) = some (W (t - 512), W (t + 512), none) ∧ (s - 512) * (c - 512) * 2 ≤ (t + 512) * S ∧ (t - 512) * S ≤ (s + 512) * (c + 512) * 2 := by
  obtain ⟨s, s2, fsin, s3, s4⟩ := sin_at h S A hS hA (by omega)
  obtain ⟨c, c2, fcos, c3, c4⟩ := cos_at h S A hS hA (by omega)
  obtain ⟨t, t2, ftw, t3, t4⟩ := sin_at (2 * h) S A hS hA hx
  obtain ⟨n1, n2⟩ := twice_near (h := h) hS hA hx
  exact ⟨s, c, t, s2, c2, t2, fsin, fcos, ftw, tw_lo s3 c3 t4 n1, tw_hi s4 c4 t3 n2⟩
theorem main_ok (x h S s c t : Nat) (hS : S = 2 ^ 248) (hj : ∀ j, j = 248 → S = 2 ^ j) (hx : x ≤ S) (hh : h = x / 2) (s2 : s ≤ 2 * S) (c2 : c ≤ 2 * S) (t2 : t ≤ 2 * S) (fsin : fn_fix_Sin 300 (W h) = some (W (s - 512), W (s + 512), none))
    (fcos : fn_fix_Cos 300 (W h) = some (W (c - 512), W (c + 512), none)) (ftw : fn_fix_Sin 300 (W (2 * h)) = some (W (t - 512), W (t + 512), none))
    (low : (s - 512) * (c - 512) * 2 ≤ (t + 512) * S) (high : (t - 512) * S ≤ (s + 512) * (c + 512) * 2) : fn_tillerlaw15_FixTwice 300 (W x) = some true := by
  have hSlt : 4 * S + 4096 < 2 ^ 256 := by rw [hS]; decide
  have w16 : ∀ z, z < 2 ^ 256 → dl 65536 z ≤ 16 := fun z hz => dlX hz
  have d1 := dl_mul (w16 (s - 512) (by omega)) (w16 (c - 512) (by omega))
  have d2 := dl_mul (w16 (s + 512) (by omega)) (w16 (c + 512) (by omega))
  have a1 := w16 (s - 512) (by omega)
  have a2 := w16 (c - 512) (by omega)
  have a3 := w16 (s + 512) (by omega)
  have a4 := w16 (c + 512) (by omega)
  have a5 := w16 (t - 512) (by omega)
  have a6 := w16 (t + 512) (by omega)
  have a7 := w16 S (by omega)
  have a8 : dl 65536 2 ≤ 1 := dl_le b16 (by decide)
  have b1 := dl_mul d1 a8
  have b2 := dl_mul d2 a8
  have b3 := dl_mul a5 a7
  have b4 := dl_mul a6 a7
  obtain ⟨j, hjj⟩ : ∃ j, j = 248 := ⟨_, rfl⟩
  have hj3 : ((j : Nat) : Int) = 248 := by omega
  have k0 := Wid.shr_eq 300 (by omega) x (by omega) 1
  have e0 : shrZ x 1 = h := by unfold shrZ; rw [if_neg (by decide), hh]; rfl
  rw [e0] at k0
  have k1 := Wid.shl_eq 300 (by omega) h 1
  have e1 : shlZ h 1 = 2 * h := by
    unfold shlZ; rw [if_neg (by decide), if_neg (by decide)]
    show h * 2 % _ = _
    rw [Nat.mod_eq_of_lt (by omega), Nat.mul_comm]
  rw [e1] at k1
  have k2 := Wid.cmp_eq 300 (by omega) x S (by omega) (by omega)
  have k3 : ltI 0 (Wid.cmpZ x S) = false := by
    unfold Wid.cmpZ; split
    · rfl
    · rw [if_pos (by omega)]; rfl
  have o1 := Fixp.of_eq 300 (s - 512) (by omega) (by omega)
  have o2 := Fixp.of_eq 300 (c - 512) (by omega) (by omega)
  have o3 := Fixp.of_eq 300 (s + 512) (by omega) (by omega)
  have o4 := Fixp.of_eq 300 (c + 512) (by omega) (by omega)
  have o5 := Fixp.of_eq 300 (t - 512) (by omega) (by omega)
  have o6 := Fixp.of_eq 300 (t + 512) (by omega) (by omega)
  have m1 := Rn.mul_eq 300 (s - 512) (c - 512) (by omega) (by omega)
  have m2 := Rn.mul_eq 300 (s + 512) (c + 512) (by omega) (by omega)
  have l1 := Rn.shl_eq 300 ((s - 512) * (c - 512)) 1 (by omega) (by omega)
  have l2 := Rn.shl_eq 300 ((s + 512) * (c + 512)) 1 (by omega) (by omega)
  rw [Nat.pow_one] at l1 l2
  have l3 := Rn.shl_eq 300 (t + 512) j (by omega) (by omega)
  have l4 := Rn.shl_eq 300 (t - 512) j (by omega) (by omega)
  rw [← hj j hjj, hj3] at l3 l4
  have q1 := Rn.cmp_eq 300 ((s - 512) * (c - 512) * 2) ((t + 512) * S) (by omega) (by omega) (by omega)
  have q2 := Rn.cmp_eq 300 ((t - 512) * S) ((s + 512) * (c + 512) * 2) (by omega) (by omega) (by omega)
  have r1 := cmp_le low
  have r2 := cmp_le high
  have ho := one_eq
  rw [← hS] at ho
  unfold fn_tillerlaw15_FixTwice
  exact bnd k0 (bnd ho (bnd k2 (cnF k3 (bnd k1 (bnd fsin (bnd fcos (bnd ftw (bnd o1 (bnd o2 (bnd m1 (bnd l1 (bnd o3 (bnd o4 (bnd m2 (bnd l2 (cnT rfl (cnT rfl (cnT rfl (bnd o6 (bnd l3 (bnd q1 (cnT r1 (bnd o5 (bnd l4 (bnd q2 (cnT r2 (bnd sure_eq rfl)))))))))))))))))))))))))))
theorem over_ok (x S : Nat) (hS : S = 2 ^ 248) (hx : x < 2 ^ 256) (hxs : S < x) : fn_tillerlaw15_FixTwice 300 (W x) = some true := by
  obtain ⟨_, _, gt0⟩ := sin_over x S hS hx hxs
  have S256 : S < 2 ^ 256 := by omega
  have k0 := Wid.shr_eq 300 (by omega) x hx 1
  have ho := one_eq
  rw [← hS] at ho
  have k2 := Wid.cmp_eq 300 (by omega) x S hx S256
  unfold fn_tillerlaw15_FixTwice
  exact bnd k0 (bnd ho (bnd k2 (cnT gt0 (bnd sure_eq rfl))))
theorem pure_FixTwice : ∀ (a0 : Vec 4), okL .u64 a0.1 → ∃ N, fn_tillerlaw15_FixTwice N a0 = some true := by
  intro a ha
  obtain ⟨x, hx, rfl⟩ := W_all a ha
  refine ⟨300, ?_⟩
  obtain ⟨S, hS⟩ : ∃ S, S = 2 ^ 248 := ⟨_, rfl⟩
  by_cases h : S < x
  · exact over_ok x S hS hx h
  · obtain ⟨s, c, t, s2, c2, t2, fsin, fcos, ftw, low, high⟩ := nums_ok (x / 2) S (F * S ^ 200) hS rfl (by omega)
    exact main_ok x (x / 2) S s c t hS (fun j hj => by rw [hS, hj]) (by omega) rfl s2 c2 t2 fsin fcos ftw low high
end Go.Proofs.Ytoconobigciggaa

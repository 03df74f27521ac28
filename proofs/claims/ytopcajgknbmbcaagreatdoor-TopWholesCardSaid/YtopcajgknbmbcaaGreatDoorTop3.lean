/- PLAIN FACTS on chapter 4, part 3: rounding, by all modes at once. No statement is proved here. -/
import Derived.Test.YtopcajgknbmbcaaGreatDoorTop2
namespace Go.Proofs.YtopcajgknbmbcaaGreatDoor.Top
open Go Go.RowKit Go.Proofs.YtopcajgknbmbcaaGreatDoor.Eng Go.Proofs.YtopcajgknbmbcaaGreatDoor.Fns Go.Proofs.YtopcajgknbmbcaaGreatDoor.Bw Go.Proofs.YtopcajgknbmbcaaGreatDoor.Wid Go.Proofs.YtopcajgknbmbcaaGreatDoor.Patp
set_option linter.unusedVariables false
set_option linter.unusedSimpArgs false
/-- by all modes: a size or the next one, with a sign; flags -/
def RSpec (g : Int → Option (Int × Int)) : Prop := ∃ (mi : Bool) (base : Int) (ix : Bool) (u : Int → Bool), 0 ≤ base ∧ base + 1 ≤ 9218868437227405312 ∧
  (∀ m, ∃ f, g m = some (sg mi + base + cond (u m) 1 0, f) ∧ (ix = true → f = 16 ∨ f = 24 ∨ f = 20) ∧ (ix = false → f = 0)) ∧ (ix = false → ∀ m, u m = false) ∧ (ix = true → u 2 = false ∧ u 3 = !mi ∧ u 4 = mi)
theorem pow_le' {a b : Nat} (h : a ≤ b) : 2 ^ a ≤ 2 ^ b := Nat.pow_le_pow_right (by decide) h
theorem qv_hi (s L : Nat) (d : Int) (hs : s < 2 ^ L) (hL : L ≤ 256) (hd : (L : Int) - d ≤ 53) : qv s d < 2 ^ 53 := by
  unfold qv
  by_cases h : d ≤ 0
  · rw [if_pos h]
    unfold shlZ
    by_cases h1 : -d < 1
    · rw [if_pos h1]; exact Nat.lt_of_lt_of_le hs (pow_le' (by omega))
    · rw [if_neg h1]
      by_cases h2 : 256 ≤ -d
      · rw [if_pos h2]; decide
      · rw [if_neg h2]
        refine Nat.lt_of_le_of_lt (Nat.mod_le _ _) ?_
        have h3 : s * 2 ^ (-d).toNat < 2 ^ L * 2 ^ (-d).toNat := Nat.mul_lt_mul_of_pos_right hs (Nat.pow_pos (by decide))
        rw [← Nat.pow_add] at h3
        exact Nat.lt_of_lt_of_le h3 (pow_le' (by omega))
  · rw [if_neg h]
    unfold shrZ
    rw [if_neg (by omega)]
    refine Nat.div_lt_of_lt_mul ?_
    rw [← Nat.pow_add]
    exact Nat.lt_of_lt_of_le hs (pow_le' (by omega))
theorem qv_lo (s L : Nat) (d : Int) (hs : s < 2 ^ L) (h1 : 1 ≤ L) (hs1 : 2 ^ (L - 1) ≤ s) (hL : L ≤ 256) (hd : (L : Int) - d = 53) : 2 ^ 52 ≤ qv s d := by
  unfold qv
  by_cases h : d ≤ 0
  · rw [if_pos h]
    unfold shlZ
    by_cases h2 : -d < 1
    · rw [if_pos h2, show (52 : Nat) = L - 1 by omega]; exact hs1
    · rw [if_neg h2, if_neg (by omega)]
      have h3 : s * 2 ^ (-d).toNat < 2 ^ L * 2 ^ (-d).toNat := Nat.mul_lt_mul_of_pos_right hs (Nat.pow_pos (by decide))
      rw [← Nat.pow_add] at h3
      rw [Nat.mod_eq_of_lt (Nat.lt_of_lt_of_le h3 (pow_le' (by omega)))]
      have h4 := Nat.mul_le_mul_right (2 ^ (-d).toNat) hs1
      rw [← Nat.pow_add] at h4
      rwa [show (52 : Nat) = L - 1 + (-d).toNat by omega]
  · rw [if_neg h]
    unfold shrZ
    rw [if_neg (by omega), Nat.le_div_iff_mul_le (Nat.pow_pos (by decide)), ← Nat.pow_add, show 52 + d.toNat = L - 1 by omega]
    exact hs1
theorem up_low {m : Int} {mi odd h r : Bool} (hu : upB m mi odd h r = true) : lowB mi m = false ∧ (h || r) = true := by
  unfold upB at hu; unfold lowB
  by_cases h2 : m = 2
  · subst h2; cases hu
  · rw [eqI_f h2] at hu ⊢
    by_cases h3 : m = 3
    · subst h3; revert hu; cases mi <;> cases odd <;> cases h <;> cases r <;> decide
    · rw [eqI_f h3] at hu ⊢
      by_cases h4 : m = 4
      · subst h4; revert hu; cases mi <;> cases odd <;> cases h <;> cases r <;> decide
      · rw [eqI_f h4] at hu ⊢
        revert hu
        cases eqI m 1 <;> cases mi <;> cases odd <;> cases h <;> cases r <;> decide
theorem round_spec (N : Nat) (hN : 300 ≤ N) (x : NumV) (hx : WF x) : RSpec (fun m => fn_rnd_Round N x m) := by
  obtain ⟨mi, Ex, v, mo0⟩ := x
  obtain ⟨s0, hs0, hv⟩ := hx
  simp only at hv
  subst hv
  obtain ⟨E0, hnear, e0, e1⟩ := near_eq N (mi, Ex, W s0, mo0)
  obtain ⟨E, s, mo, hex, hs, e2, e3⟩ := exact_eq N hN mi mo0 E0 s0 hs0 e0 e1
  have unf : ∀ m, fn_rnd_Round N (mi, Ex, W s0, mo0) m = cond (eqL (W s).1 (Vec.zero 4).1)
     ((fn_rnd_sign N mi).bind fun r3 =>
      (fn_pat_Copy N 0 r3).bind fun r4 =>
       some (r4, 0))
     ((fn_wide_Len N (W s)).bind fun r5 =>
      (fn_rnd_Num_to N (mi, E, W s, mo) (maxI (subI .i64 (addI .i64 E r5) 53) (-1074)) m).bind fun r6 =>
       cond r6.2
        ((fn_rnd_Num_tiny N (mi, E, W s, mo) (addI .i64 E r5) m).bind fun r7 =>
         cond r7 (tail N mi (maxI (subI .i64 (addI .i64 E r5) 53) (-1074)) r6.1 m (orI .u8 16 8)) (tail N mi (maxI (subI .i64 (addI .i64 E r5) 53) (-1074)) r6.1 m 16))
        (tail N mi (maxI (subI .i64 (addI .i64 E r5) 53) (-1074)) r6.1 m 0)) := by
    intro m
    rw [round_unf, hnear, Option.bind_some, hex, Option.bind_some]
  rw [W_zero, W_eq hs (by decide)] at unf
  by_cases hz : s = 0
  · refine ⟨mi, 0, false, fun _ => false, by decide, by decide, fun m => ⟨0, ?_, (fun h => by cases h), fun _ => rfl⟩, fun _ _ => rfl, fun h => by cases h⟩
    show fn_rnd_Round N (mi, Ex, W s0, mo0) m = _
    rw [unf m, decide_eq_true hz, cond_true, sign_eq, Option.bind_some, copy_sg N 0 mi (by decide) (by decide), Option.bind_some, cond_false, Int.add_zero, Int.add_zero]
  obtain ⟨l1, l2⟩ := lenN_spec s
  have l3 : lenN s ≤ 256 := lenN_le hs
  have l4 : 1 ≤ lenN s := by
    rcases l2 with h | h
    · rw [h] at l1; omega
    · rcases Nat.eq_zero_or_pos (lenN s) with h0 | h0
      · rw [h0] at l1; omega
      · exact h0
  have l5 : 2 ^ (lenN s - 1) ≤ s := by
    rcases l2 with h | h
    · omega
    · exact h
  have hlen := len_eq N hN s hs
  generalize lenN s = L at *
  have hmax : ∃ n, maxI (E + (L : Int) - 53) (-1074) = n ∧ ((n = E + L - 53 ∧ -1074 ≤ n) ∨ (n = -1074 ∧ E + L - 53 < n)) := by
    unfold maxI
    by_cases h : (-1074 : Int) > E + (L : Int) - 53
    · rw [if_pos h]; exact ⟨_, rfl, .inr ⟨rfl, by omega⟩⟩
    · rw [if_neg h]; exact ⟨_, rfl, .inl ⟨rfl, by omega⟩⟩
  obtain ⟨n, hn, hn2⟩ := hmax
  have hn0 : -1074 ≤ n := by omega
  have hn1 : n ≤ 150000 := by omega
  have hT : addI .i64 E (L : Int) = E + L := addI_i (by omega) (by omega)
  have hS : subI .i64 (E + (L : Int)) 53 = E + L - 53 := subI_i (by omega) (by omega)
  have unf2 : ∀ m, fn_rnd_Round N (mi, Ex, W s0, mo0) m = (fn_rnd_Num_to N (mi, E, W s, mo) n m).bind fun r6 =>
       cond r6.2
        ((fn_rnd_Num_tiny N (mi, E, W s, mo) (E + L) m).bind fun r7 =>
         cond r7 (tail N mi n r6.1 m (orI .u8 16 8)) (tail N mi n r6.1 m 16))
        (tail N mi n r6.1 m 0) := by
    intro m
    rw [unf m, decide_eq_false hz, cond_false, hlen, Option.bind_some, hT, hS, hn]
  obtain ⟨h, r, hc⟩ := cut_eq N hN mi mo E n s hs (by omega) (by omega) (by omega) (by omega)
  have hq1 := qv_hi s L (n - E) l1 l3 (by omega)
  have hq2 : -1074 < n → 2 ^ 52 ≤ qv s (n - E) := fun hh => qv_lo s L (n - E) l1 l4 l5 l3 (by omega)
  have hq3 := qv_lt s (n - E) hs
  generalize qv s (n - E) = q at *
  obtain ⟨odd, ht⟩ := to_eq N hN (mi, E, W s, mo) n q h r hq3 hc
  have hQ : ∀ m, (q + (upB m mi odd h r).toNat) % 2 ^ 256 = q + (upB m mi odd h r).toNat := fun m => Nat.mod_eq_of_lt (by
    have : (upB m mi odd h r).toNat ≤ 1 := by cases upB m mi odd h r <;> decide
    omega)
  have hQ2 : ∀ m, q + (upB m mi odd h r).toNat ≤ 2 ^ 53 := fun m => by
    have : (upB m mi odd h r).toNat ≤ 1 := by cases upB m mi odd h r <;> decide
    omega
  have hQ3 : ∀ m, -1074 < n → 2 ^ 52 ≤ q + (upB m mi odd h r).toNat := fun m hh => Nat.le_trans (hq2 hh) (Nat.le_add_right _ _)
  have key : ∀ m, ∃ F, fn_rnd_Round N (mi, Ex, W s0, mo0) m = tail N mi n (W (q + (upB m mi odd h r).toNat)) m F ∧ ((h || r) = true → F = 16 ∨ F = 24) ∧ ((h || r) = false → F = 0) := by
    intro m
    rw [unf2 m, ht m, hQ m, Option.bind_some]
    simp only
    cases hr : (h || r)
    · exact ⟨0, rfl, (fun h => by cases h), fun _ => rfl⟩
    · obtain ⟨b, hb⟩ := tiny_eq N hN mi mo E (E + L) m s hs (by omega) (by omega) (by omega) (by omega)
      rw [cond_true, hb, Option.bind_some]
      cases b
      · exact ⟨16, rfl, (fun _ => .inl rfl), fun h => by cases h⟩
      · exact ⟨24, rfl, (fun _ => .inr rfl), fun h => by cases h⟩
  by_cases hbig : 971 < n
  · refine ⟨mi, 9218868437227405311, true, fun m => !lowB mi m, by decide, by decide, fun m => ?_, (fun h => by cases h), fun _ => ?_⟩
    · obtain ⟨F, hk, _⟩ := key m
      refine ⟨20, ?_, (fun _ => .inr (.inr rfl)), fun h => by cases h⟩
      show fn_rnd_Round N (mi, Ex, W s0, mo0) m = some (sg mi + 9218868437227405311 + cond (!lowB mi m) 1 0, 20)
      rw [hk, tail_eq N hN mi n _ m F (hQ2 m) hn0 (by omega) (hQ3 m), if_pos (.inl hbig)]
      cases lowB mi m
      · show some (sg mi + 9218868437227405312, (20 : Int)) = some (sg mi + 9218868437227405311 + 1, 20)
        rw [Int.add_assoc]; rfl
      · show some (sg mi + 9218868437227405311, (20 : Int)) = some (sg mi + 9218868437227405311 + 0, 20)
        rw [Int.add_zero]
    · cases mi <;> exact ⟨rfl, rfl, rfl⟩
  · refine ⟨mi, (q : Int) + (n + 1074) * 4503599627370496, h || r, fun m => upB m mi odd h r, by omega, by omega, fun m => ?_, fun hh m => ?_, fun hh => ?_⟩
    · obtain ⟨F, hk, k1, k2⟩ := key m
      show ∃ f, fn_rnd_Round N (mi, Ex, W s0, mo0) m = some (sg mi + ((q : Int) + (n + 1074) * 4503599627370496) + cond (upB m mi odd h r) 1 0, f) ∧ ((h || r) = true → f = 16 ∨ f = 24 ∨ f = 20) ∧ ((h || r) = false → f = 0)
      rw [hk, tail_eq N hN mi n _ m F (hQ2 m) hn0 (by omega) (hQ3 m)]
      by_cases ho : 971 < n ∨ (n = 971 ∧ q + (upB m mi odd h r).toNat = 2 ^ 53)
      · rw [if_pos ho]
        have hu : upB m mi odd h r = true := by
          cases hu : upB m mi odd h r
          · rw [hu] at ho; rcases ho with ho | ⟨_, ho⟩
            · omega
            · simp at ho; omega
          · rfl
        obtain ⟨hlow, hhr⟩ := up_low hu
        rw [hu] at ho ⊢
        have hq53 : q + 1 = 2 ^ 53 ∧ n = 971 := by
          rcases ho with ho | ⟨ho1, ho⟩
          · omega
          · exact ⟨ho, ho1⟩
        refine ⟨20, ?_, (fun _ => .inr (.inr rfl)), fun h => by rw [hhr] at h; cases h⟩
        rw [hlow]
        show some (sg mi + 9218868437227405312, (20 : Int)) = some (sg mi + ((q : Int) + (n + 1074) * 4503599627370496) + 1, 20)
        congr 2
        omega
      · rw [if_neg ho]
        refine ⟨F, ?_, (fun h => by rcases k1 h with h | h <;> omega), k2⟩
        congr 2
        cases upB m mi odd h r
        · show sg mi + (((q + 0 : Nat) : Int) + (n + 1074) * 4503599627370496) = sg mi + ((q : Int) + (n + 1074) * 4503599627370496) + 0
          rw [Int.add_zero, Nat.add_zero]
        · show sg mi + (((q + 1 : Nat) : Int) + (n + 1074) * 4503599627370496) = sg mi + ((q : Int) + (n + 1074) * 4503599627370496) + 1
          omega
    · show upB m mi odd h r = false
      have h1 : h = false := by cases h <;> simp_all
      have h2 : r = false := by cases r <;> simp_all
      rw [h1, h2]; exact up_none m mi odd
    · show upB 2 mi odd h r = false ∧ upB 3 mi odd h r = !mi ∧ upB 4 mi odd h r = mi
      have e2 : ∀ k : Int, upB 2 mi odd h r = false := fun _ => rfl
      have e3 : upB 3 mi odd h r = (!mi && (h || r)) := rfl
      have e4 : upB 4 mi odd h r = (mi && (h || r)) := rfl
      rw [e3, e4, hh]
      cases mi <;> exact ⟨rfl, rfl, rfl⟩
end Go.Proofs.YtopcajgknbmbcaaGreatDoor.Top

/- PLAIN FACTS on chapter 8, by values, part 2: the rest of a quotient cut, and of the nearest one. No statement is proved here. -/
import Derived.Test.YtopcajgknbmbcaaGreatDoorVal7
namespace Go.Proofs.YtopcajgknbmbcaaGreatDoor.Top
open Go Go.RowKit Go.Proofs.YtopcajgknbmbcaaGreatDoor.Eng Go.Proofs.YtopcajgknbmbcaaGreatDoor.Fns Go.Proofs.YtopcajgknbmbcaaGreatDoor.Bw Go.Proofs.YtopcajgknbmbcaaGreatDoor.Wid Go.Proofs.YtopcajgknbmbcaaGreatDoor.Patp
set_option linter.unusedVariables false
set_option linter.unusedSimpArgs false
theorem rests_val (N : Nat) (hN : 300 ≤ N) (K : Nat) (hK : 3000 ≤ K) {a b : Int} (ha : okF a) (hb : okF b) (h1 : 0 < VN K (sz a)) (h2 : 0 < VN K (sz b)) (hle : expR a ≤ expR b + 64) :
    ∃ s d e o, fn_whole_rests N a b = some ((W s, W d, e, o), true, 0, 0) ∧ DV K (VN K (sz a)) (VN K (sz b)) s d e o := by
  obtain ⟨k, k1, k2, k3, k4, k5, _⟩ := of_F N hN K ha
  obtain ⟨j, j1, j2, j3, j4, j5, _⟩ := of_F N hN K hb
  have hj0 : 0 < j := by
    rcases Nat.eq_zero_or_pos j with h | h
    · rw [j3, h, Nat.zero_mul] at h2; omega
    · exact h
  obtain ⟨s, d, e, o, r1, r2⟩ := divide_val N hN K hK (decide (9223372036854775808 ≤ a)) (decide (9223372036854775808 ≤ b)) (clsR a) (clsR b) (expR a) (expR b) k j k1 j1 hj0 k4 k5 j4 j5 hle
  rw [← k3, ← j3] at r2
  refine ⟨s, d, e, o, ?_, r2⟩
  unfold fn_whole_rests
  refine bndE (takeP_eq N a ha.1.1 ha.1.2) (bndE (takeP_eq N b hb.1.1 hb.1.2) (bndE (nan_eq N a ha.1.1 ha.1.2) (cFv (okF_nan ha) (bndE (nan_eq N b hb.1.1 hb.1.2) (cFv (okF_nan hb) (cFv (okF_cls ha) (cFv (cls0 hb (VN_posz h2)) (cFv (okF_cls hb) (cFv (cls0 ha (VN_posz h1)) ?_)))))))))
  simp only [k2, j2]
  exact bndE r1 rfl
theorem made_eq (N : Nat) (s : Nat) (d : Vec 4) (e : Int) (o mi : Bool) : fn_whole_rest_made N (W s, d, e, o) mi = fn_rnd_Round N (mi, e, W s, false) 0 := by
  unfold fn_whole_rest_made; exact bind_eta2 _
theorem mn_eq {a : Int} (ha : U a) : (!(eqI (andI .u64 a 9223372036854775808) 0)) = mn a := by
  unfold andI mn
  rw [and_sign a ha.1 ha.2]
  by_cases h : a < 9223372036854775808
  · rw [if_pos h, decide_eq_false (by omega)]; rfl
  · rw [if_neg h, decide_eq_true (by omega)]; rfl
theorem mod_is (N : Nat) (hN : 300 ≤ N) (K : Nat) (hK : 3000 ≤ K) {a b : Int} (ha : okF a) (hb : okF b) (h1 : 0 < VN K (sz a)) (h2 : 0 < VN K (sz b)) (hle : expR a ≤ expR b + 64) :
    Is N K (fn_whole_Mod N a b) 0 (sv (mn a) (VN K (sz a) % VN K (sz b))) ∧ Rep K (VN K (sz a) % VN K (sz b)) := by
  obtain ⟨s, d, e, o, r1, d1, d2, d3, d4, d5, d6, d7⟩ := rests_val N hN K hK ha hb h1 h2 hle
  refine ⟨⟨mn a, e, s, ?_, by omega, by unfold NV; rw [d5], by omega, by omega⟩, s, e, d1, d3, d5.symm⟩
  unfold fn_whole_Mod
  refine bndE r1 (cFv rfl ?_)
  simp only
  rw [made_eq, mn_eq ha.1]
  exact bind_eta2 _
theorem mod_zero (N : Nat) (hN : 300 ≤ N) (K : Nat) (hK : 3000 ≤ K) {a b : Int} (ha : okF a) (hb : okF b) (h1 : sz a = 0) (h2 : 0 < sz b) : fn_whole_Mod N a b = some (a, 0) := by
  have c1 : eqI (clsR a) 0 = true := by
    refine eqI_t ?_
    unfold sz at h1
    have := ha.1; unfold U at this
    have e1 : eN a = 0 := by unfold eN; omega
    have e2 : fN a = 0 := by unfold fN; omega
    unfold clsR; rw [e1, e2]; rfl
  have hr : fn_whole_rests N a b = some ((Vec.zero 4, Vec.zero 4, 0, false), false, a, 0) := by
    unfold fn_whole_rests
    exact bndE (takeP_eq N a ha.1.1 ha.1.2) (bndE (takeP_eq N b hb.1.1 hb.1.2) (bndE (nan_eq N a ha.1.1 ha.1.2) (cFv (okF_nan ha) (bndE (nan_eq N b hb.1.1 hb.1.2) (cFv (okF_nan hb) (cFv (okF_cls ha) (cFv (cls0 hb h2) (cFv (okF_cls hb) (cTv c1 rfl)))))))))
  unfold fn_whole_Mod
  exact bndE hr (cTv rfl rfl)
/-- of the nearest one -/
theorem near_up (X Y Q R : Nat) (hX : Y * Q + R = X) (hR : R < Y) (h : Y < 2 * R ∨ (2 * R = Y ∧ Q % 2 = 1)) : NE X Y (Q + 1) ∧ -((Y - R : Nat) : Int) = (X : Int) - ((Q + 1 : Nat) : Int) * (Y : Int) := by
  have e1 : 2 * (Q + 1) * Y = 2 * (Y * Q) + 2 * Y := by rw [Nat.mul_assoc, Nat.add_mul, Nat.one_mul, Nat.mul_add, Nat.mul_comm Q]
  have e2 : (2 * (Q + 1) + 1) * Y = 2 * (Y * Q) + 3 * Y := by rw [Nat.add_mul, Nat.one_mul, e1]; omega
  have e3 : ((Q + 1 : Nat) : Int) * (Y : Int) = ((Y * Q : Nat) : Int) + (Y : Int) := by
    have : (Q + 1) * Y = Y * Q + Y := by rw [Nat.add_mul, Nat.one_mul, Nat.mul_comm Q]
    rw [← Int.natCast_mul, this]; omega
  unfold NE
  rw [e1, e2, e3]
  generalize Y * Q = T at *
  refine ⟨⟨by omega, by omega, by omega, ?_⟩, by omega⟩
  intro h3
  rcases h with h | ⟨_, h⟩ <;> omega
theorem near_down (X Y Q R : Nat) (hX : Y * Q + R = X) (hR : R < Y) (h : 2 * R < Y ∨ (2 * R = Y ∧ Q % 2 = 0)) : NE X Y Q ∧ ((R : Nat) : Int) = (X : Int) - ((Q : Nat) : Int) * (Y : Int) := by
  have e1 : 2 * Q * Y = 2 * (Y * Q) := by rw [Nat.mul_assoc, Nat.mul_comm Q]
  have e2 : (2 * Q + 1) * Y = 2 * (Y * Q) + Y := by rw [Nat.add_mul, Nat.one_mul, e1]
  have e3 : ((Q : Nat) : Int) * (Y : Int) = ((Y * Q : Nat) : Int) := by rw [← Int.natCast_mul, Nat.mul_comm]
  unfold NE
  rw [e1, e2, e3]
  generalize Y * Q = T at *
  refine ⟨⟨by omega, by omega, ?_, by omega⟩, by omega⟩
  intro h3
  rcases h with h | ⟨_, h⟩ <;> omega
theorem rem_is (N : Nat) (hN : 300 ≤ N) (K : Nat) (hK : 3000 ≤ K) {a b : Int} (ha : okF a) (hb : okF b) (hm : mn a = false) (h1 : 0 < VN K (sz a)) (h2 : 0 < VN K (sz b)) (hle : expR a ≤ expR b + 64) :
    ∃ M : Nat, Is N K (fn_whole_Rem N a b) 0 ((VN K (sz a) : Int) - (M : Int) * (VN K (sz b) : Int)) ∧ NE (VN K (sz a)) (VN K (sz b)) M ∧ Rep K ((VN K (sz a) : Int) - (M : Int) * (VN K (sz b) : Int)).natAbs := by
  obtain ⟨s, d, e, o, r1, d1, d2, d3, d4, d5, d6, d7⟩ := rests_val N hN K hK ha hb h1 h2 hle
  have hX := Nat.div_add_mod (VN K (sz a)) (VN K (sz b))
  have hR := Nat.mod_lt (VN K (sz a)) h2
  have hmn := mn_eq ha.1
  rw [hm] at hmn
  generalize VN K (sz a) = X at *
  generalize VN K (sz b) = Y at *
  generalize X / Y = Q at *
  generalize X % Y = R at *
  have hsh : shlZ s 1 = 2 * s := by
    unfold shlZ
    rw [if_neg (by decide), if_neg (by decide), show ((1 : Int).toNat) = 1 from rfl, Nat.pow_one, Nat.mod_eq_of_lt (by omega), Nat.mul_comm]
  have hc := cmp_eq N hN (2 * s) d (by omega) (by omega)
  have hp := P_pos K e
  -- the two ends
  have up : d ≤ 2 * s → (Y < 2 * R ∨ (2 * R = Y ∧ Q % 2 = 1)) →
      ∃ M : Nat, Is N K ((fn_wide_Sub N (W d) (W s)).bind fun r4 => (fn_whole_rest_made N (r4.1, W d, e, o) true).bind fun r5 => some (r5.1, r5.2)) 0 ((X : Int) - (M : Int) * (Y : Int)) ∧ NE X Y M ∧ Rep K ((X : Int) - (M : Int) * (Y : Int)).natAbs := by
    intro hds hh
    obtain ⟨n1, n2⟩ := near_up X Y Q R hX hR hh
    have hdY : d * P K e = Y := by
      rcases d7 with h | h
      · exact h
      · omega
    have hsd : s ≤ d := by
      rcases Nat.lt_or_ge d s with h | h
      · have := Nat.mul_lt_mul_of_pos_right h hp
        omega
      · exact h
    have hval : (d - s) * P K e = Y - R := by rw [Nat.sub_mul, hdY, d5]
    refine ⟨Q + 1, ⟨true, e, d - s, ?_, by omega, ?_, by omega, by omega⟩, n1, ?_⟩
    · refine bndE (sub_eq N hN d s (by omega) (by omega)) ?_
      simp only
      rw [show (2 ^ 256 + d - s) % 2 ^ 256 = d - s by omega, made_eq]
      exact bind_eta2 _
    · unfold NV; rw [hval, ← n2]; rfl
    · rw [← n2]
      exact ⟨d - s, e, by omega, d3, by rw [hval]; omega⟩
  have dn : (2 * R < Y ∨ (2 * R = Y ∧ Q % 2 = 0)) →
      ∃ M : Nat, Is N K ((fn_whole_rest_made N (W s, W d, e, o) false).bind fun r5 => some (r5.1, r5.2)) 0 ((X : Int) - (M : Int) * (Y : Int)) ∧ NE X Y M ∧ Rep K ((X : Int) - (M : Int) * (Y : Int)).natAbs := by
    intro hh
    obtain ⟨n1, n2⟩ := near_down X Y Q R hX hR hh
    refine ⟨Q, ⟨false, e, s, ?_, by omega, ?_, by omega, by omega⟩, n1, ?_⟩
    · rw [made_eq]; exact bind_eta2 _
    · unfold NV; rw [d5, ← n2]; rfl
    · rw [← n2]
      exact ⟨s, e, d1, d3, by rw [d5]; omega⟩
  have fold : ∀ {w : Option (Int × Int)} {v : Int}, (cond (ltI 0 (cmpZ (2 * s) d)) ((fn_wide_Sub N (W d) (W s)).bind fun r4 => (fn_whole_rest_made N (r4.1, W d, e, o) true).bind fun r5 => some (r5.1, r5.2))
       (cond (eqI (cmpZ (2 * s) d) 0) (cond o ((fn_wide_Sub N (W d) (W s)).bind fun r6 => (fn_whole_rest_made N (r6.1, W d, e, o) true).bind fun r7 => some (r7.1, r7.2))
         ((fn_whole_rest_made N (W s, W d, e, o) false).bind fun r8 => some (r8.1, r8.2))) ((fn_whole_rest_made N (W s, W d, e, o) false).bind fun r9 => some (r9.1, r9.2)))) = w → fn_whole_Rem N a b = w := by
    intro w v h
    unfold fn_whole_Rem
    refine bndE r1 (cFv rfl (bndE (shl_eq N hN s 1) ?_))
    rw [hsh]
    refine bndE hc ?_
    rw [hmn]
    exact h
  rw [fold (v := 0) rfl]
  unfold cmpZ
  rcases Nat.lt_trichotomy (2 * s) d with h | h | h
  · rw [if_pos h, show ltI 0 (-1) = false from rfl, show eqI (-1) 0 = false from rfl, cond_false, cond_false]
    refine dn (.inl ?_)
    rcases d7 with h3 | h3
    · rw [← h3, ← d5, ← Nat.mul_assoc]; exact Nat.mul_lt_mul_of_pos_right h hp
    · exact h3.2
  · have hdY : d * P K e = Y := by
      rcases d7 with h3 | h3
      · exact h3
      · omega
    have h2R : 2 * R = Y := by rw [← hdY, ← d5, ← Nat.mul_assoc, h]
    rw [if_neg (by omega), if_pos h, show ltI 0 0 = false from rfl, show eqI 0 0 = true from rfl, cond_false, cond_true]
    cases o with
    | true =>
      rw [cond_true]
      exact up (by omega) (.inr ⟨h2R, of_decide_eq_true d6.symm⟩)
    | false =>
      rw [cond_false]
      have := of_decide_eq_false d6.symm
      exact dn (.inr ⟨h2R, by omega⟩)
  · rw [if_neg (by omega), if_neg (by omega), show ltI 0 1 = true from rfl, cond_true]
    refine up (by omega) (.inl ?_)
    rcases d7 with h3 | h3
    · rw [← h3, ← d5, ← Nat.mul_assoc]; exact Nat.mul_lt_mul_of_pos_right h hp
    · omega
/-- a pattern's exponent by its value -/
theorem exp_hi (K : Nat) (hK : 3000 ≤ K) {a B : Int} (ha : okF a) (hB : -1074 ≤ B) (h : VN K (sz a) < P K B) : expR a = -1074 ∨ expR a ≤ B - 53 := by
  obtain ⟨k, h1, h2, h3, h4, h5, h6⟩ := sig_val K ha.1 ha.2
  by_cases hn : -1074 < expR a
  · right
    have h7 := h6 hn
    have h8 : 2 ^ 52 * P K (expR a) ≤ k * P K (expR a) := Nat.mul_le_mul_right _ h7
    rw [Nat.mul_comm, ← P_add K 52 (by omega)] at h8
    rw [h3] at h
    rcases Int.lt_or_le (B - 53) (expR a) with h9 | h9
    · have := P_le K (show B ≤ expR a + ((52 : Nat) : Int) by omega)
      omega
    · exact h9
  · left; omega
theorem exp_lo (K : Nat) (hK : 3000 ≤ K) {a B : Int} (ha : okF a) (h : P K B ≤ VN K (sz a)) : B - 53 < expR a := by
  obtain ⟨k, h1, h2, h3, h4, h5, h6⟩ := sig_val K ha.1 ha.2
  have h8 : k * P K (expR a) < 2 ^ 53 * P K (expR a) := Nat.mul_lt_mul_of_pos_right h2 (P_pos _ _)
  rw [Nat.mul_comm (2 ^ 53), ← P_add K 53 (by omega)] at h8
  rw [h3] at h
  rcases Int.lt_or_le (B - 53) (expR a) with h9 | h9
  · exact h9
  · have := P_le K (show expR a + ((53 : Nat) : Int) ≤ B by omega)
    omega
end Go.Proofs.YtopcajgknbmbcaaGreatDoor.Top

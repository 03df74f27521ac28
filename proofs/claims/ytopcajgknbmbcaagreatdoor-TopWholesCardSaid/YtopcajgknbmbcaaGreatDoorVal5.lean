/- PLAIN FACTS on chapters 4 and 8, by values: a number, rounded to a whole one. No statement is proved here. -/
import Derived.Test.YtopcajgknbmbcaaGreatDoorVal4
namespace Go.Proofs.YtopcajgknbmbcaaGreatDoor.Top
open Go Go.RowKit Go.Proofs.YtopcajgknbmbcaaGreatDoor.Eng Go.Proofs.YtopcajgknbmbcaaGreatDoor.Fns Go.Proofs.YtopcajgknbmbcaaGreatDoor.Bw Go.Proofs.YtopcajgknbmbcaaGreatDoor.Wid Go.Proofs.YtopcajgknbmbcaaGreatDoor.Patp
set_option linter.unusedVariables false
set_option linter.unusedSimpArgs false
/-- the whole number next to x, in units of p -/
def NE (x p M : Nat) : Prop := 2 * M * p ≤ 2 * x + p ∧ 2 * x ≤ (2 * M + 1) * p ∧ (2 * x = (2 * M + 1) * p → M % 2 = 0) ∧ (2 * M * p = 2 * x + p → M % 2 = 0)
theorem NE_scale {x p M : Nat} (c : Nat) (hc : 0 < c) (h : NE x p M) : NE (x * c) (p * c) M := by
  obtain ⟨h1, h2, h3, h4⟩ := h
  have e1 : 2 * M * (p * c) = 2 * M * p * c := by rw [Nat.mul_assoc, Nat.mul_assoc, Nat.mul_assoc]
  have e2 : 2 * (x * c) + p * c = (2 * x + p) * c := by rw [Nat.add_mul, Nat.mul_assoc]
  have e3 : (2 * M + 1) * (p * c) = (2 * M + 1) * p * c := by rw [Nat.mul_assoc]
  have e4 : 2 * (x * c) = 2 * x * c := by rw [Nat.mul_assoc]
  refine ⟨?_, ?_, fun h => h3 ?_, fun h => h4 ?_⟩
  · rw [e1, e2]; exact Nat.mul_le_mul_right _ h1
  · rw [e3, e4]; exact Nat.mul_le_mul_right _ h2
  · rw [e3, e4] at h; exact Nat.eq_of_mul_eq_mul_right hc h
  · rw [e1, e2] at h; exact Nat.eq_of_mul_eq_mul_right hc h
theorem NE_same (M p : Nat) (hp : 0 < p) : NE (M * p) p M := by
  have e1 : 2 * M * p = 2 * (M * p) := Nat.mul_assoc ..
  have e2 : (2 * M + 1) * p = 2 * (M * p) + p := by rw [Nat.add_mul, Nat.one_mul, Nat.mul_assoc]
  unfold NE
  rw [e1, e2]
  exact ⟨by omega, by omega, by omega, by omega⟩
theorem ne_nat (s k : Nat) : NE s (2 ^ (k + 1)) (s / 2 ^ (k + 1) + (hb s ((k + 1 : Nat) : Int) && (rb s ((k + 1 : Nat) : Int) || decide (s / 2 ^ (k + 1) % 2 = 1))).toNat) := by
  have e1 : hb s ((k + 1 : Nat) : Int) = decide (s / 2 ^ k % 2 = 1) := by
    unfold hb
    rw [show ((k + 1 : Nat) : Int) - 1 = (k : Int) by omega, Int.toNat_natCast]
    congr 1; apply propext; exact ⟨fun h => h.2, fun h => ⟨by omega, h⟩⟩
  have e2 : rb s ((k + 1 : Nat) : Int) = decide (s % 2 ^ k ≠ 0) := by
    unfold rb
    rw [show ((k + 1 : Nat) : Int) - 1 = (k : Int) by omega, Int.toNat_natCast]
    congr 1; apply propext; exact ⟨fun h => h.2, fun h => ⟨by omega, h⟩⟩
  have h1 := Nat.div_add_mod s (2 ^ (k + 1))
  rw [mod_half, Nat.mul_comm] at h1
  have h2 : s % 2 ^ k < 2 ^ k := Nat.mod_lt _ (Nat.pow_pos (by decide))
  have h3 : s / 2 ^ k % 2 < 2 := Nat.mod_lt _ (by decide)
  have hp : 2 ^ (k + 1) = 2 * 2 ^ k := by rw [Nat.pow_succ, Nat.mul_comm]
  rw [e1, e2]
  generalize s / 2 ^ (k + 1) = q at *
  generalize s % 2 ^ k = r at *
  generalize s / 2 ^ k % 2 = h at *
  have a1 : 2 * q * 2 ^ (k + 1) = 2 * (q * 2 ^ (k + 1)) := Nat.mul_assoc ..
  have a2 : (2 * q + 1) * 2 ^ (k + 1) = 2 * (q * 2 ^ (k + 1)) + 2 ^ (k + 1) := by rw [Nat.add_mul, Nat.one_mul, Nat.mul_assoc]
  have a3 : 2 * (q + 1) * 2 ^ (k + 1) = 2 * (q * 2 ^ (k + 1)) + 2 * 2 ^ (k + 1) := by rw [Nat.mul_assoc, Nat.add_mul, Nat.one_mul, Nat.mul_add]
  have a4 : (2 * (q + 1) + 1) * 2 ^ (k + 1) = 2 * (q * 2 ^ (k + 1)) + 3 * 2 ^ (k + 1) := by rw [Nat.add_mul, Nat.one_mul, a3]; omega
  rcases (show h = 0 ∨ h = 1 by omega) with hh | hh
  · subst hh
    rw [Nat.mul_zero, Nat.add_zero] at h1
    rw [show (decide ((0 : Nat) = 1)) = false from rfl, Bool.false_and, Bool.toNat_false, Nat.add_zero q]
    unfold NE
    rw [a1, a2]
    generalize q * 2 ^ (k + 1) = A at *
    generalize 2 ^ (k + 1) = B at *
    generalize 2 ^ k = C at *
    exact ⟨by omega, by omega, by omega, by omega⟩
  · subst hh
    rw [Nat.mul_one] at h1
    rw [show (decide ((1 : Nat) = 1)) = true from rfl, Bool.true_and]
    by_cases hr : r ≠ 0
    · rw [decide_eq_true hr, Bool.true_or, Bool.toNat_true]
      unfold NE
      rw [a3, a4]
      generalize q * 2 ^ (k + 1) = A at *
      generalize 2 ^ (k + 1) = B at *
      generalize 2 ^ k = C at *
      exact ⟨by omega, by omega, by omega, by omega⟩
    · rw [decide_eq_false hr, Bool.false_or]
      by_cases ho : q % 2 = 1
      · rw [decide_eq_true ho, Bool.toNat_true]
        unfold NE
        rw [a3, a4]
        generalize q * 2 ^ (k + 1) = A at *
        generalize 2 ^ (k + 1) = B at *
        generalize 2 ^ k = C at *
        exact ⟨by omega, by omega, by omega, by omega⟩
      · rw [decide_eq_false ho, Bool.toNat_false, Nat.add_zero q]
        unfold NE
        rw [a1, a2]
        generalize q * 2 ^ (k + 1) = A at *
        generalize 2 ^ (k + 1) = B at *
        generalize 2 ^ k = C at *
        exact ⟨by omega, by omega, by omega, by omega⟩
theorem odd_W (q : Nat) : eqI (andI .u64 (Vec.rd (W q) 0) 1) 1 = decide (q % 2 = 1) := by
  have h1 := rd_W (x := q) (i := 0) (by decide)
  rw [show ((0 : Nat) : Int) = 0 from rfl, Nat.mul_zero, Nat.pow_zero, Nat.div_one] at h1
  have h2 := and_pow 0 (by decide) (q % 2 ^ 64) (Nat.mod_lt _ (by decide))
  rw [Nat.pow_zero, Nat.div_one] at h2
  rw [h1]
  unfold andI
  rw [show (1 : Int) = ((1 : Nat) : Int) from rfl, h2, Nat.mod_mod_of_dvd q (show 2 ∣ 2 ^ 64 by decide)]
  by_cases h : q % 2 = 1
  · rw [if_pos h, decide_eq_true h]; rfl
  · rw [if_neg h, decide_eq_false h]; rfl
theorem whole_val (N : Nat) (hN : 300 ≤ N) (K : Nat) (hK : 3000 ≤ K) (mi : Bool) (E : Int) (s : Nat) (m : Int) (hs : s < 2 ^ 255) (h0 : -2000 ≤ E) (h1 : E ≤ 2000) :
    ∃ E' s' M oth, fn_rnd_Whole N (mi, E, W s, false) m = some ((mi, E', W s', false), oth) ∧ s' < 2 ^ 256 ∧ (E' = E ∨ E' = 0) ∧ s' * P K E' = M * P K 0 ∧ (∀ k, s * P K E = k * P K 0 → M = k ∧ oth = false) ∧ (m = 0 → NE (s * P K E) (P K 0) M) ∧ (m = 2 → M * P K 0 ≤ s * P K E ∧ s * P K E < (M + 1) * P K 0) := by
  have hs' : s < 2 ^ 256 := by omega
  by_cases hE : 0 ≤ E
  · obtain ⟨d, hd⟩ := Int.eq_ofNat_of_zero_le hE
    have hv : s * P K E = s * 2 ^ d * P K 0 := by
      rw [show E = 0 + (d : Int) by omega, P_add K d (by omega), Nat.mul_assoc, Nat.mul_comm (2 ^ d)]
    refine ⟨E, s, s * 2 ^ d, false, ?_, hs', .inl rfl, hv, fun k hk => ⟨?_, rfl⟩, fun _ => ?_, fun _ => ?_⟩
    · unfold fn_rnd_Whole
      simp only
      by_cases h : 0 < E
      · exact cTv (ltI_t h) rfl
      · exact cFv (ltI_f h) (cTv (eqI_t (by omega)) (cTv rfl rfl))
    · rw [hv] at hk; exact Nat.eq_of_mul_eq_mul_right (P_pos K 0) hk
    · rw [hv]; exact NE_same _ _ (P_pos K 0)
    · rw [hv, Nat.add_mul, Nat.one_mul]; exact ⟨Nat.le_refl _, Nat.lt_add_of_pos_right (P_pos K 0)⟩
  · obtain ⟨k, hk⟩ := Int.eq_ofNat_of_zero_le (show 0 ≤ -E - 1 by omega)
    have hd : 0 - E = ((k + 1 : Nat) : Int) := by omega
    have hp : P K 0 = 2 ^ (k + 1) * P K E := by
      rw [show (0 : Int) = E + ((k + 1 : Nat) : Int) by omega, P_add K (k + 1) (by omega), Nat.mul_comm]
    have hnear : fn_rnd_Num_near N (mi, E, W s, false) = some (mi, E, W s, false) := by
      show some (mi, minI (maxI E (-131072)) 131072, W s, false) = _
      have : minI (maxI E (-131072)) 131072 = E := by unfold minI maxI; split <;> split <;> omega
      rw [this]
    have hex : fn_rnd_Num_exact N (mi, E, W s, false) = some (mi, E, W s, false) := rfl
    have z1 : eqL (W s).1 (Vec.zero 4).1 = decide (s = 0) := by rw [W_zero, W_eq hs' (by decide)]
    rcases Nat.eq_zero_or_pos s with hz | hpos
    · subst hz
      refine ⟨0, 0, 0, false, ?_, by decide, .inr rfl, rfl, fun j hj => ⟨?_, rfl⟩, fun _ => ?_, fun _ => ?_⟩
      · unfold fn_rnd_Whole
        simp only
        rw [W_zero]
        exact cFv (ltI_f (by omega)) (cFv (eqI_f (by omega)) (bndE hnear (cTv (ltI_t (show E < 0 by omega)) (bndE hex (cTv (by simp only; rw [W_eq (by decide) (by decide)]; rfl) (cTv rfl rfl))))))
      · rw [Nat.zero_mul] at hj
        have := P_pos K 0
        rcases Nat.mul_eq_zero.1 hj.symm with h | h
        · exact h.symm
        · omega
      · rw [Nat.zero_mul]
        have := NE_same 0 (P K 0) (P_pos K 0)
        rwa [Nat.zero_mul] at this
      · rw [Nat.zero_mul, Nat.zero_mul]; exact ⟨Nat.le_refl _, by rw [Nat.zero_add, Nat.one_mul]; exact P_pos K 0⟩
    · have hc := cut_val N hN mi E 0 s hs' (by omega) (by omega) (by omega) (by omega)
      have hq := qv_pos s (k + 1) (by omega)
      have hne := ne_nat s k
      have hsand := div_sand s (2 ^ (k + 1)) (Nat.pow_pos (by decide))
      rw [hd, hq] at hc
      have hql : s / 2 ^ (k + 1) < 2 ^ 255 := Nat.lt_of_le_of_lt (Nat.div_le_self _ _) hs
      have hexact : ∀ j, s * P K E = j * P K 0 → s / 2 ^ (k + 1) = j ∧ hb s ((k + 1 : Nat) : Int) = false ∧ rb s ((k + 1 : Nat) : Int) = false := by
        intro j hj
        rw [hp, ← Nat.mul_assoc] at hj
        have h2 := Nat.eq_of_mul_eq_mul_right (P_pos K E) hj
        refine ⟨by rw [h2, Nat.mul_div_cancel _ (Nat.pow_pos (by decide))], exact_none fun _ => ?_⟩
        rw [Int.toNat_natCast, h2, Nat.mul_mod_left]
      have hlow : s / 2 ^ (k + 1) * P K 0 ≤ s * P K E ∧ s * P K E < (s / 2 ^ (k + 1) + 1) * P K 0 := by
        rw [hp, ← Nat.mul_assoc, ← Nat.mul_assoc]
        exact ⟨Nat.mul_le_mul_right _ hsand.1, Nat.mul_lt_mul_of_pos_right hsand.2 (P_pos K E)⟩
      have hne2 : NE (s * P K E) (P K 0) (s / 2 ^ (k + 1) + (hb s ((k + 1 : Nat) : Int) && (rb s ((k + 1 : Nat) : Int) || decide (s / 2 ^ (k + 1) % 2 = 1))).toNat) := by
        rw [hp]; exact NE_scale _ (P_pos K E) hne
      generalize s / 2 ^ (k + 1) = q at *
      generalize hb s ((k + 1 : Nat) : Int) = h at *
      generalize rb s ((k + 1 : Nat) : Int) = r at *
      have hup := up_eq N m mi (decide (q % 2 = 1)) h r
      have hu0 : m = 0 → upB m mi (decide (q % 2 = 1)) h r = (h && (r || decide (q % 2 = 1))) := by intro hm; subst hm; rfl
      have hu2 : m = 2 → upB m mi (decide (q % 2 = 1)) h r = false := by intro hm; subst hm; rfl
      have hun : h = false → r = false → upB m mi (decide (q % 2 = 1)) h r = false := by intro a b; rw [a, b]; exact up_none _ _ _
      generalize upB m mi (decide (q % 2 = 1)) h r = u at *
      refine ⟨0, q + u.toNat, q + u.toNat, h || r, ?_, ?_, .inr rfl, rfl, fun j hj => ?_, fun hm => ?_, fun hm => ?_⟩
      · unfold fn_rnd_Whole
        simp only
        refine cFv (ltI_f (by omega)) (cFv (eqI_f (by omega)) (bndE hnear (cTv (ltI_t (show E < 0 by omega)) (bndE hex (cFv (by simp only; rw [z1]; exact decide_eq_false (by omega)) (bndE hc ?_))))))
        simp only
        rw [odd_W q]
        refine bndE hup ?_
        cases u
        · refine cFv rfl ?_
          rw [Bool.toNat_false, Nat.add_zero]
          cases h <;> rfl
        · refine cTv rfl (bndE (of_one N) (bndE (add_eq N hN q 1 (by omega) (by decide)) (cFv (decide_eq_false (by omega)) ?_)))
          simp only
          rw [Nat.mod_eq_of_lt (by omega), Bool.toNat_true]
          cases h <;> rfl
      · cases u <;> simp only [Bool.toNat_true, Bool.toNat_false] <;> omega
      · obtain ⟨a, b, c⟩ := hexact j hj
        rw [hun b c, b, c, a]; exact ⟨rfl, rfl⟩
      · rw [hu0 hm]; exact hne2
      · rw [hu2 hm]; exact hlow
/-- a pattern, rounded to a whole number -/
theorem whole_is (N : Nat) (hN : 300 ≤ N) (K : Nat) (hK : 3000 ≤ K) {p : Int} (hp : okF p) (m : Int) (told : Bool) (hb : VN K (sz p) ≤ P K 52) (hm : m = 0 ∨ m = 2 ∨ ∃ k, VN K (sz p) = k * P K 0) :
    ∃ c f M, fn_whole_Round N p m told = some (c, f) ∧ okF c ∧ mn c = mn p ∧ VN K (sz c) = M * P K 0 ∧ M ≤ 2 ^ 52 ∧ (∀ k, VN K (sz p) = k * P K 0 → M = k ∧ f = 0) ∧ (m = 0 → NE (VN K (sz p)) (P K 0) M) ∧ (m = 2 → M * P K 0 ≤ VN K (sz p) ∧ VN K (sz p) < (M + 1) * P K 0) ∧ (told = false → f = 0) := by
  obtain ⟨s, k1, k2, k3, k4, k5, k6⟩ := of_F N hN K hp
  obtain ⟨E', s', M, oth, w1, w2, w3, w4, w5, w6, w7⟩ := whole_val N hN K hK (mn p) (expR p) s m (by omega) (by omega) (by omega)
  rw [← k3] at w5 w6 w7
  have h52 : P K 52 = 2 ^ 52 * P K 0 := by
    rw [show (52 : Int) = 0 + ((52 : Nat) : Int) by omega, P_add K 52 (by omega), Nat.mul_comm]
  have hp0 := P_pos K 0
  have hM : M ≤ 2 ^ 52 := by
    rw [h52] at hb
    rcases hm with h | h | ⟨k, h⟩
    · obtain ⟨a, _⟩ := w6 h
      rw [Nat.mul_assoc] at a
      rcases Nat.lt_or_ge M (2 ^ 52 + 1) with h' | h'
      · omega
      · have := Nat.mul_le_mul_right (P K 0) h'
        rw [Nat.add_mul] at this
        omega
    · obtain ⟨a, _⟩ := w7 h
      exact Nat.le_of_mul_le_mul_right (Nat.le_trans a hb) hp0
    · obtain ⟨a, _⟩ := w5 k h
      rw [a]
      rw [h] at hb
      exact Nat.le_of_mul_le_mul_right hb hp0
  have hr : Rep K (s' * P K E') := ⟨M, 0, by omega, by decide, w4⟩
  have hT : s' * P K E' < P K 1000 := by
    rw [w4]
    have g1 : M * P K 0 ≤ 2 ^ 52 * P K 0 := Nat.mul_le_mul_right _ hM
    rw [← h52] at g1
    have g2 := P_lt K (a := 52) (b := 1000) (by omega) (by decide)
    omega
  obtain ⟨b, g1, g2, g3⟩ := round_exact N hN (mn p) E' s' 0 K w2 (by omega) (by omega) (by omega) (by omega) hT hr
  have hmn : mn (sg (mn p) + (b : Int)) = mn p := minus_sg _ (by omega)
  have hsz : sz (sg (mn p) + (b : Int)) = b := sz_sg _ _ (by omega)
  refine ⟨sg (mn p) + b, cond oth (cond told 16 0) 0, M, ?_, okF_sg _ g2, hmn, by rw [hsz, g3, w4], hM, fun k hk => ?_, w6, w7, fun ht => ?_⟩
  · unfold fn_whole_Round
    refine bndE k6 (bndE (nan_eq N p hp.1.1 hp.1.2) (cFv (okF_nan hp) (cFv rfl (bndE w1 (bndE g1 ?_)))))
    cases oth <;> cases told <;> rfl
  · obtain ⟨a, b⟩ := w5 k hk
    rw [b]; exact ⟨a, rfl⟩
  · rw [ht]; cases oth <;> rfl
end Go.Proofs.YtopcajgknbmbcaaGreatDoor.Top

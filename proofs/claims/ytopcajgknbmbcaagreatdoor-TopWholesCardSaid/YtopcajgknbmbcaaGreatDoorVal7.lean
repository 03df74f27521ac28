/- PLAIN FACTS on chapter 8, by values: rests. No statement is proved here. -/
import Derived.Test.YtopcajgknbmbcaaGreatDoorVal6
namespace Go.Proofs.YtopcajgknbmbcaaGreatDoor.Top
open Go Go.RowKit Go.Proofs.YtopcajgknbmbcaaGreatDoor.Eng Go.Proofs.YtopcajgknbmbcaaGreatDoor.Fns Go.Proofs.YtopcajgknbmbcaaGreatDoor.Bw Go.Proofs.YtopcajgknbmbcaaGreatDoor.Wid Go.Proofs.YtopcajgknbmbcaaGreatDoor.Patp
set_option linter.unusedVariables false
set_option linter.unusedSimpArgs false
theorem odd_scale (k j d : Nat) (hj : 0 < j) (hd : 0 < d) : k * 2 ^ d % j = k % j * 2 ^ d % j ∧ k * 2 ^ d / j % 2 = k % j * 2 ^ d / j % 2 := by
  have h1 := Nat.div_add_mod k j
  have h2 : k * 2 ^ d = j * (k / j * 2 ^ d) + k % j * 2 ^ d := by
    conv => lhs; rw [← h1]
    rw [Nat.add_mul, Nat.mul_assoc]
  have h3 : k * 2 ^ d / j = k / j * 2 ^ d + k % j * 2 ^ d / j := by rw [h2, Nat.mul_add_div hj]
  refine ⟨by rw [h2, Nat.mul_add_mod], ?_⟩
  obtain ⟨e, rfl⟩ : ∃ e, d = e + 1 := ⟨d - 1, by omega⟩
  have h4 : k / j * 2 ^ (e + 1) = 2 * (k / j * 2 ^ e) := by rw [Nat.pow_succ, ← Nat.mul_assoc, Nat.mul_comm]
  rw [h3, h4]
  omega
theorem shl_small {s : Nat} {n b : Nat} (h : s * 2 ^ n < 2 ^ b) (hb : b ≤ 256) (hn : n < 256) : shlZ s (n : Int) = s * 2 ^ n := by
  unfold shlZ
  by_cases h1 : (n : Int) < 1
  · rw [if_pos h1, show n = 0 by omega, Nat.pow_zero, Nat.mul_one]
  · rw [if_neg h1, if_neg (by omega), Int.toNat_natCast, Nat.mod_eq_of_lt (Nat.lt_of_lt_of_le h (pow_le' hb))]
/-- what is left of a division, by values -/
def DV (K X Y : Nat) (s d : Nat) (e : Int) (o : Bool) : Prop := s < 2 ^ 53 ∧ d < 2 ^ 255 ∧ -1074 ≤ e ∧ e ≤ 971 ∧ s * P K e = X % Y ∧ o = decide (X / Y % 2 = 1) ∧ (d * P K e = Y ∨ (2 * s < d ∧ 2 * (X % Y) < Y))
theorem divide_val (N : Nat) (hN : 300 ≤ N) (K : Nat) (hK : 3000 ≤ K) (m1 m2 : Bool) (c1 c2 : Int) (ea eb : Int) (k j : Nat) (hk : k < 2 ^ 53) (hj : j < 2 ^ 53) (hj0 : 0 < j) (a0 : -1074 ≤ ea) (a1 : ea ≤ 971) (b0 : -1074 ≤ eb) (b1 : eb ≤ 971) (hle : ea ≤ eb + 64) :
    ∃ s d e o, fn_whole_divide N (m1, c1, ea, (k : Int)) (m2, c2, eb, (j : Int)) = some (W s, W d, e, o) ∧ DV K (k * P K ea) (j * P K eb) s d e o := by
  have ofk := of_small N k (by omega)
  have ofj := of_small N j (by omega)
  unfold fn_whole_divide t54
  simp only
  by_cases hlt : ea < eb
  · obtain ⟨n, hn⟩ := Int.eq_ofNat_of_zero_le (show 0 ≤ eb - ea by omega)
    have hY : j * P K eb = j * 2 ^ n * P K ea := by
      rw [show eb = ea + (n : Int) by omega, P_add K n (by omega), Nat.mul_comm (P K ea), ← Nat.mul_assoc]
    by_cases h100 : 100 < n
    · have e200 : shlZ 1 200 = 2 ^ 200 := by decide
      refine ⟨k, 2 ^ 200, ea, false, ?_, hk, by decide, a0, a1, ?_⟩
      · refine cTv (ltI_t hlt) (bndE (v := (W k, W (2 ^ 200), ea, false)) ?_ rfl)
        unfold fn_whole_under
        simp only
        rw [subI_i (by omega) (by omega), hn]
        refine bndE ofk (cTv (ltI_t (by omega)) (bndE (of_one N) (bndE (shl_eq N hN 1 200) ?_)))
        rw [e200]
      · have h2 : 2 ^ 54 * P K ea ≤ j * 2 ^ n * P K ea := by
          refine Nat.mul_le_mul_right _ ?_
          have h3 : 2 ^ 54 ≤ 2 ^ n := pow_le' (by omega)
          exact Nat.le_trans h3 (Nat.le_mul_of_pos_left _ hj0)
        have h4 : 2 * (k * P K ea) < 2 ^ 54 * P K ea := by
          rw [← Nat.mul_assoc]
          exact Nat.mul_lt_mul_of_pos_right (by omega) (P_pos _ _)
        rw [hY]
        have h5 : k * P K ea < j * 2 ^ n * P K ea := by omega
        rw [Nat.mod_eq_of_lt h5, Nat.div_eq_of_lt h5]
        exact ⟨rfl, rfl, .inr ⟨by omega, by omega⟩⟩
    · have hd : j * 2 ^ n < 2 ^ 160 := by
        have h3 : 2 ^ n ≤ 2 ^ 100 := pow_le' (by omega)
        have h4 : j * 2 ^ n ≤ j * 2 ^ 100 := Nat.mul_le_mul_left _ h3
        omega
      have hd0 : 0 < j * 2 ^ n := Nat.mul_pos hj0 (Nat.pow_pos (by decide))
      have hsh : shlZ j (n : Int) = j * 2 ^ n := shl_small hd (by decide) (by omega)
      have hml : k % (j * 2 ^ n) ≤ k := Nat.mod_le _ _
      refine ⟨k % (j * 2 ^ n), j * 2 ^ n, ea, decide (k / (j * 2 ^ n) % 2 = 1), ?_, by omega, by omega, a0, a1, ?_⟩
      · refine cTv (ltI_t hlt) (bndE (v := (W (k % (j * 2 ^ n)), W (j * 2 ^ n), ea, decide (k / (j * 2 ^ n) % 2 = 1))) ?_ rfl)
        unfold fn_whole_under
        simp only
        rw [subI_i (by omega) (by omega), hn]
        refine bndE ofk (cFv (ltI_f (by omega)) (bndE ofj (bndE (shl_eq N hN j n) ?_)))
        rw [hsh]
        refine bndE (divmod_eq N hN k _ (by omega) (by omega) hd0) ?_
        simp only
        rw [odd_W]
      · rw [hY, Nat.mul_mod_mul_right, Nat.mul_div_mul_right _ _ (P_pos _ _)]
        exact ⟨rfl, rfl, .inl rfl⟩
  · obtain ⟨n, hn⟩ := Int.eq_ofNat_of_zero_le (show 0 ≤ ea - eb by omega)
    have hX : k * P K ea = k * 2 ^ n * P K eb := by
      rw [show ea = eb + (n : Int) by omega, P_add K n (by omega), Nat.mul_comm (P K eb), ← Nat.mul_assoc]
    have hDV : ∀ s o, s = k * 2 ^ n % j → o = decide (k * 2 ^ n / j % 2 = 1) → DV K (k * P K ea) (j * P K eb) s j eb o := by
      intro s o hs ho
      have hm : k * 2 ^ n % j < j := Nat.mod_lt _ hj0
      subst hs; subst ho
      refine ⟨by omega, by omega, b0, b1, ?_, ?_, .inl rfl⟩
      · rw [hX, Nat.mul_mod_mul_right]
      · rw [hX, Nat.mul_div_mul_right _ _ (P_pos _ _)]
    have hml : k % j < j := Nat.mod_lt _ hj0
    have start : ∀ o : Option (Vec 4 × Vec 4 × Int × Bool), l54_0 N N (n : Int) (Vec.zero 4) (Vec.zero 4) 0 false (Vec.zero 4) (W j) eb (decide (k / j % 2 = 1)) (W (k / j)) (W (k % j)) = o →
        cond (ltI ea eb) ((fn_whole_under N (m1, c1, ea, (k : Int)) (m2, c2, eb, (j : Int))).bind fun r1 => some (r1.1, r1.2.1, r1.2.2.1, r1.2.2.2))
          ((fn_wide_Of N (j : Int)).bind fun r2 => (fn_wide_Of N (k : Int)).bind fun r3 => (fn_wide_DivMod N r3 r2).bind fun r4 =>
            l54_0 N N (subI .i64 ea eb) (Vec.zero 4) (Vec.zero 4) 0 false (Vec.zero 4) r2 eb (eqI (andI .u64 (Vec.rd r4.1 0) 1) 1) r4.1 r4.2.1) = o := by
      intro o ho
      refine cFv (ltI_f hlt) (bndE ofj (bndE ofk (bndE (divmod_eq N hN k j (by omega) (by omega) hj0) ?_)))
      simp only
      rw [odd_W, subI_i (by omega) (by omega), hn]
      exact ho
    have e1 : ∀ M, l54_0 N (M + 1) = s54_0 N (l54_0 N M) := fun M => rfl
    have e2 : l54_0 N N = s54_0 N (l54_0 N (N - 2 + 1)) := by
      have := e1 (N - 2 + 1)
      rwa [show N - 2 + 1 + 1 = N by omega] at this
    rcases Nat.eq_zero_or_pos n with h0 | hpos
    · refine ⟨k % j, j, eb, decide (k / j % 2 = 1), start _ ?_, hDV _ _ ?_ ?_⟩
      · rw [h0]
        rw [e2]
        unfold s54_0
        exact cFv rfl rfl
      · rw [h0, Nat.pow_zero, Nat.mul_one]
      · rw [h0, Nat.pow_zero, Nat.mul_one]
    · have hlim : k % j * 2 ^ n < 2 ^ 120 := by
        have h3 : 2 ^ n ≤ 2 ^ 64 := pow_le' (by omega)
        have h4 : k % j * 2 ^ n ≤ k % j * 2 ^ 64 := Nat.mul_le_mul_left _ h3
        omega
      have hsh : shlZ (k % j) (n : Int) = k % j * 2 ^ n := shl_small hlim (by decide) (by omega)
      obtain ⟨o1, o2⟩ := odd_scale k j n hj0 hpos
      have hml2 : k % j * 2 ^ n % j < j := Nat.mod_lt _ hj0
      have hmin : minI (n : Int) 64 = (n : Int) := by unfold minI; split <;> omega
      refine ⟨k % j * 2 ^ n % j, j, eb, decide (k % j * 2 ^ n / j % 2 = 1), start _ ?_, hDV _ _ ?_ ?_⟩
      · rw [e2]
        unfold s54_0
        rw [hmin]
        refine cTv (ltI_t (by omega)) (bndE (shl_eq N hN (k % j) n) ?_)
        rw [hsh]
        refine bndE (divmod_eq N hN _ j (by omega) (by omega) hj0) ?_
        simp only
        rw [odd_W, subI_i (by omega) (by omega), Int.sub_self]
        rw [e1]
        unfold s54_0
        exact cFv rfl rfl
      · rw [o1]
      · rw [o2]
end Go.Proofs.YtopcajgknbmbcaaGreatDoor.Top

/- TopRests, in plain Lean: what the law's function computes is true. No statement is proved here. -/
import Derived.Test.YtopcajgknbmbcaaGreatDoorVal9
import Derived.Test.YtopcajgknbmbcaaGreatDoorSure
import Derived.Test.YtopcajgknbmbcaaGreatDoorFnTopRests
import Derived.Test.YtopcajgknbmbcaaGreatDoorEng13
namespace Go.Proofs.YtopcajgknbmbcaaGreatDoor
open Go Go.RowKit Go.Proofs.YtopcajgknbmbcaaGreatDoor.Eng Go.Proofs.YtopcajgknbmbcaaGreatDoor.Fns Go.Proofs.YtopcajgknbmbcaaGreatDoor.Bw Go.Proofs.YtopcajgknbmbcaaGreatDoor.Wid Go.Proofs.YtopcajgknbmbcaaGreatDoor.Patp Go.Proofs.YtopcajgknbmbcaaGreatDoor.Top
set_option linter.unusedVariables false
set_option linter.unusedSimpArgs false
noncomputable def tailR (S : Option Bool) (N : Nat) (x y c r : Int) : Option Bool :=
  (fn_sums_Add N c 4607182418800017408 0).bind fun r12 =>
   (fn_sums_Sub N c 4607182418800017408 0).bind fun r13 =>
    (fn_prod_Fma N (orI .u64 r12.1 9223372036854775808) y x 0).bind fun r14 =>
     (fn_prod_Fma N (xorI .u64 r13.1 9223372036854775808) y x 0).bind fun r15 =>
      cond (eqI r14.1 r) (S.bind fun r16 => some r16) (cond (eqI r15.1 r) (S.bind fun r17 => some r17) (some false))
noncomputable def bodyR (S : Option Bool) (N : Nat) (x y : Int) : Option Bool :=
  (fn_whole_Rem N x y).bind fun r6 =>
   (fn_quot_Div N x y 0).bind fun r7 =>
    (fn_whole_Round N r7.1 0 false).bind fun r8 =>
     (fn_prod_Fma N (orI .u64 r8.1 9223372036854775808) y x 0).bind fun r9 =>
      cond (!(eqI r6.2 0)) (some false)
       (cond (eqI r9.1 r6.1) (cond (eqI r9.2 0) (S.bind fun r10 => some r10) (some false))
        (cond (eqI (bicI .u64 r9.1 9223372036854775808) 0)
          (cond (eqI (bicI .u64 r6.1 9223372036854775808) 0) (cond (eqI r9.2 0) (S.bind fun r11 => some r11) (some false)) (tailR S N x y r8.1 r6.1))
          (tailR S N x y r8.1 r6.1)))
theorem lawR_unf (N : Nat) (x0 x1 : Int) : fn_tillertop_TopRests N x0 x1 =
  cond (ltI (bicI .u64 x0 9223372036854775808) 900719925474099200) ((fn_tillertop_sure N).bind fun r1 => some r1)
   (cond (ltI (bicI .u64 x1 9223372036854775808) 900719925474099200) ((fn_tillertop_sure N).bind fun r2 => some r2)
    (cond (ltI 8106479329266892800 (bicI .u64 x0 9223372036854775808)) ((fn_tillertop_sure N).bind fun r3 => some r3)
     (cond (ltI 8106479329266892800 (bicI .u64 x1 9223372036854775808)) ((fn_tillertop_sure N).bind fun r4 => some r4)
      (cond (ltI (addI .u64 (shrI .u64 (bicI .u64 x1 9223372036854775808) 52) 50) (shrI .u64 (bicI .u64 x0 9223372036854775808) 52)) ((fn_tillertop_sure N).bind fun r5 => some r5)
       (bodyR (fn_tillertop_sure N) N (bicI .u64 x0 9223372036854775808) (bicI .u64 x1 9223372036854775808)))))) := rfl
theorem bic_sz {t : Int} (h : U t) : bicI .u64 t 9223372036854775808 = (sz t : Int) := by
  have := andNot_sign t h.1 h.2
  unfold sz
  have h2 : 0 ≤ t % 9223372036854775808 := by omega
  rw [Int.toNat_of_nonneg h2]
  exact this
/-- numbers far from the ends -/
theorem tail_true (N : Nat) (hN : 300 ≤ N) (K : Nat) (hK : 3000 ≤ K) {x y c r : Int} (hx : okF x) (hy : okF y) (hc : okF c) (mx : mn x = false) (my : mn y = false) (mc : mn c = false) (hr : okF r) (X Y M Q : Nat) (eX : VN K (sz x) = X) (eY : VN K (sz y) = Y) (eM : VN K (sz c) = M * P K 0) (hM : M ≤ 2 ^ 52)
    (eR : SV K r = (X : Int) - (Q : Int) * (Y : Int)) (hRep : Rep K ((X : Int) - (Q : Int) * (Y : Int)).natAbs) (hX9 : X < P K 900) (hY9 : Y < P K 900) (hX0 : 0 < X) (hY0 : 0 < Y) (hQ : NE X Y Q)
    (h : (M = Q + 1 ∧ Q * Y < X ∧ X < M * Y ∧ 2 ≤ M) ∨ (Q = M + 1 ∧ X < Q * Y ∧ M * Y < X)) : tailR (some true) N x y c r = some true := by
  have h1 := one_F.2 K hK
  have hp0 := P_pos K 0
  have hp : (0 : Int) < (P K 0 : Int) := by omega
  have hal : 0 < VN K (sz c) → 0 < VN K (sz 4607182418800017408) → VN K (sz c) ≤ 2 ^ 60 * VN K (sz 4607182418800017408) ∧ VN K (sz 4607182418800017408) ≤ 2 ^ 60 * VN K (sz c) := by
    intro h2 _
    rw [one_sz K hK, eM] at *
    have hM0 : 1 * P K 0 ≤ M * P K 0 := by
      refine Nat.mul_le_mul_right _ ?_
      rcases Nat.eq_zero_or_pos M with h3 | h3
      · rw [h3, Nat.zero_mul] at h2; omega
      · exact h3
    have hM1 : M * P K 0 ≤ 2 ^ 52 * P K 0 := Nat.mul_le_mul_right _ hM
    omega
  have sc : SV K c = ((M * P K 0 : Nat) : Int) := by rw [pos_SV mc, eM]
  have pB : 2 ^ 60 * P K 0 < P K 1000 := by
    have h2 := P_add K (E := 0) 60 (by omega)
    have h3 := P_lt K (a := 60) (b := 1000) (by omega) (by decide)
    rw [Nat.mul_comm, ← h2]
    exact h3
  have hMP : M * P K 0 ≤ 2 ^ 52 * P K 0 := Nat.mul_le_mul_right _ hM
  have hadd := add_is N hN K hK hc one_F.1 0 hal
  have hsub := sub_is N hN K hK hc one_F.1 0 hal
  rw [sc, h1] at hadd hsub
  -- a product with a sum, of the nearest multiple
  have hfma : ∀ g : Int, okF g → SV K g = -((Q * P K 0 : Nat) : Int) → 1 ≤ Q → ∃ p, fn_prod_Fma N g y x 0 = some (p, 0) ∧ okF p ∧ SV K p = SV K r := by
    intro g hg hgv hQ1
    obtain ⟨q1, q2, _, _⟩ := hQ
    rw [ex0] at q1
    rw [ex2] at q2
    have hQY : 1 * Y ≤ Q * Y := Nat.mul_le_mul_right _ hQ1
    have hv : SV K g * SV K y = (-((Q * Y : Nat) : Int)) * (P K 0 : Int) := by
      rw [hgv, pos_SV my, eY, Int.neg_mul, Int.neg_mul]
      congr 1
      rw [← Int.natCast_mul, ← Int.natCast_mul, Nat.mul_assoc, Nat.mul_comm (P K 0), Nat.mul_assoc]
    have hi := fma_is N hN K hK hg hy hx 0 _ hv (by
      intro _ _
      rw [eX, Int.natAbs_neg, Int.natAbs_natCast]
      generalize Q * Y = T at *
      omega)
    have hval : -((Q * Y : Nat) : Int) + SV K x = (X : Int) - (Q : Int) * (Y : Int) := by
      rw [pos_SV mx, eX, Int.natCast_mul]; omega
    rw [hval] at hi
    obtain ⟨p, p1, p2, p3⟩ := hi.exact hN hK (by
      have := P_lt K (a := 900) (b := 1000) (by omega) (by decide)
      rw [← Int.natCast_mul]
      generalize Q * Y = T at *
      omega) hRep
    exact ⟨p, p1, p2, by rw [p3, eR]⟩
  have hr0 : sz r = 0 → (X : Int) - (Q : Int) * (Y : Int) = 0 := by
    intro h0
    have : (SV K r).natAbs = 0 := by rw [SV_abs, h0, VN_zero]
    omega
  rcases h with ⟨hMQ, c1, c2, c3⟩ | ⟨hMQ, c1, c2⟩
  · have hne : ¬ sz r = 0 := by
      intro h0
      have := hr0 h0
      rw [← Int.natCast_mul] at this
      omega
    obtain ⟨u, uf, u1, u2, _, u4⟩ := hadd.any hN hK (by omega)
    have hd : ((M * P K 0 : Nat) : Int) - (P K 0 : Int) = ((Q * P K 0 : Nat) : Int) := by
      rw [hMQ, ex1]; omega
    rw [hd] at hsub
    have hQP : Q * P K 0 ≤ 2 ^ 52 * P K 0 := Nat.mul_le_mul_right _ (by omega)
    obtain ⟨d, d1, d2, d3⟩ := hsub.exact hN hK (by rw [Int.natAbs_natCast]; omega) ⟨Q, 0, by omega, by decide, by rw [Int.natAbs_natCast]⟩
    obtain ⟨f1, f2⟩ := flip_F d2
    have mu : mn u = false := u4 (by omega)
    obtain ⟨⟨v, vf⟩, v1⟩ := (fma_sp N hN (minus_F u2 mu).1.1 hy.1 hx.1).ex 0
    obtain ⟨w, w1, w2, w3⟩ := hfma _ f1 (by rw [f2, d3]) (by omega)
    have hw : w = r := by
      rcases SV_inj hK w2 hr w3 with h | ⟨_, h⟩
      · exact h
      · exact absurd h hne
    unfold tailR
    refine bndE u1 (bndE d1 (bndE v1 (bndE w1 ?_)))
    simp only
    cases eqI v r
    · exact cFv rfl (cTv (eqI_t hw) rfl)
    · rfl
  · have hne : ¬ sz r = 0 := by
      intro h0
      have := hr0 h0
      rw [← Int.natCast_mul] at this
      omega
    obtain ⟨d, df, d1, d2, _, _⟩ := hsub.any hN hK (by omega)
    have hd : ((M * P K 0 : Nat) : Int) + (P K 0 : Int) = ((Q * P K 0 : Nat) : Int) := by
      rw [hMQ, ex1]; omega
    rw [hd] at hadd
    have hQP : Q * P K 0 ≤ (2 ^ 52 + 1) * P K 0 := Nat.mul_le_mul_right _ (by omega)
    obtain ⟨u, u1, u2, u3⟩ := hadd.exact hN hK (by rw [Int.natAbs_natCast]; omega) ⟨Q, 0, by omega, by decide, by rw [Int.natAbs_natCast]⟩
    have hQ1 : 1 * P K 0 ≤ Q * P K 0 := Nat.mul_le_mul_right _ (by omega)
    have mu : mn u = false := SV_pos (K := K) (by rw [u3]; omega)
    obtain ⟨f1, f2⟩ := minus_F u2 mu
    obtain ⟨w, w1, w2, w3⟩ := hfma _ f1 (by rw [f2, u3]) (by omega)
    have hw : w = r := by
      rcases SV_inj hK w2 hr w3 with h | ⟨_, h⟩
      · exact h
      · exact absurd h hne
    obtain ⟨⟨v, vf⟩, v1⟩ := (fma_sp N hN (flip_F d2).1.1 hy.1 hx.1).ex 0
    unfold tailR
    refine bndE u1 (bndE d1 (bndE w1 (bndE v1 ?_)))
    simp only
    exact cTv (eqI_t hw) rfl
theorem body_true (N : Nat) (hN : 300 ≤ N) (K : Nat) (hK : 3000 ≤ K) {x y : Int} (hx : okF x) (hy : okF y) (mx : mn x = false) (my : mn y = false) (X Y : Nat) (eX : VN K (sz x) = X) (eY : VN K (sz y) = Y) (hX9 : X < P K 900) (hY9 : Y < P K 900) (hX0 : 0 < X) (hY0 : 0 < Y)
    (hle : expR x ≤ expR y + 64) (h51 : X * P K 0 < Y * P K 51) : bodyR (some true) N x y = some true := by
  have hp1 := P_pos K (-1)
  have hp0 : P K 0 = 2 * P K (-1) := by
    have := P_add K (E := -1) 1 (by omega)
    rw [Nat.pow_one, Nat.mul_comm] at this
    exact this
  have h900 := P_lt K (a := 900) (b := 1000) (by omega) (by decide)
  -- the rest
  obtain ⟨Q, hrem, hQ, hRep⟩ := rem_is N hN K hK hx hy mx (by rw [eX]; exact hX0) (by rw [eY]; exact hY0) hle
  rw [eX, eY] at hrem hRep hQ
  have hQ' := hQ
  obtain ⟨q1, q2, _, _⟩ := hQ'
  rw [ex0] at q1
  rw [ex2] at q2
  have hbig : ((X : Int) - (Q : Int) * (Y : Int)).natAbs < P K 1000 := by
    rw [← Int.natCast_mul]
    generalize Q * Y = T at *
    omega
  obtain ⟨r, r1, r2, r3⟩ := hrem.exact hN hK hbig hRep
  -- the quotient
  obtain ⟨bb, u, F, n, q, d1, d2, d3, d4, d5, d6, d7, d8, d9, _⟩ := div_val N hN K hK hx hy 0 (by rw [eX]; exact hX0) (by rw [eY]; exact hY0) (by
    rw [eX, eY]
    exact Nat.lt_of_lt_of_le h51 (Nat.mul_le_mul_left _ (P_le K (by decide))))
  rw [eX, eY] at d6 d7 d8 d9
  have hn := d8 51 (by decide) h51
  rw [mx, my, show (false != false) = false from rfl] at d1
  have hz : ∃ w : Nat, w = bb + u.toNat ∧ fn_quot_Div N x y 0 = some (sg false + (w : Int), F) := by
    refine ⟨_, rfl, ?_⟩
    rw [d1]; congr 2
    cases u <;> simp only [Bool.toNat_true, Bool.toNat_false, cond_true, cond_false] <;> omega
  obtain ⟨w, hw, hdiv⟩ := hz
  have hwl : w < 9218868437227405312 := by cases u <;> simp only [Bool.toNat_true, Bool.toNat_false] at hw <;> omega
  have hlo : VN K bb ≤ VN K w := by
    cases u
    · rw [hw]; exact Nat.le_refl _
    · rw [hw]; exact Nat.le_of_lt (VN_step K (by omega) bb)
  have hhi : VN K w ≤ VN K (bb + 1) := by
    cases u
    · rw [hw]; exact Nat.le_of_lt (VN_step K (by omega) bb)
    · rw [hw]; exact Nat.le_refl _
  have hfalse : u = false → VN K w = VN K bb := by intro hu; rw [hw, hu]; rfl
  have e2 : ∀ h, h * P K (-1) * Y = h * Y * P K (-1) := fun h => by rw [Nat.mul_assoc, Nat.mul_comm (P K (-1)), ← Nat.mul_assoc]
  have e3 : X * P K 0 = 2 * X * P K (-1) := by rw [hp0, ← Nat.mul_assoc, Nat.mul_comm X]
  rw [e3] at d6 d7 d9 h51
  have g1 : ∀ h, h * Y ≤ 2 * X → h * P K (-1) ≤ VN K w := by
    intro h hh
    obtain ⟨c, hc⟩ := grid K (n := n) (a := -1) (by omega) (by omega) h
    have h3 : h * P K (-1) * Y ≤ 2 * X * P K (-1) := by rw [e2]; exact Nat.mul_le_mul_right _ hh
    have h4 := Nat.lt_of_mul_lt_mul_right (Nat.lt_of_le_of_lt h3 d7)
    rw [hc, d5] at h4
    have h5 := Nat.lt_of_mul_lt_mul_right h4
    rw [hc]
    refine Nat.le_trans ?_ hlo
    rw [d4]
    exact Nat.mul_le_mul_right _ (by omega)
  have g2 : ∀ h, 2 * X ≤ h * Y → VN K w ≤ h * P K (-1) := by
    intro h hh
    obtain ⟨c, hc⟩ := grid K (n := n) (a := -1) (by omega) (by omega) h
    have h3 : 2 * X * P K (-1) ≤ h * P K (-1) * Y := by rw [e2]; exact Nat.mul_le_mul_right _ hh
    rcases Nat.eq_or_lt_of_le h3 with h4 | h4
    · have h5 : VN K bb ≤ h * P K (-1) := Nat.le_of_mul_le_mul_right (Nat.le_trans d6 h3) hY0
      have h6 : h * P K (-1) < VN K (bb + 1) := Nat.lt_of_mul_lt_mul_right (Nat.lt_of_le_of_lt (Nat.le_of_eq h4.symm) d7)
      rw [hc, d4] at h5
      rw [hc, d5] at h6
      have h7 : c = q := grid_eq h5 h6
      have h8 := d9 (by rw [h4, hc, h7, d4])
      rw [hfalse h8, hc, h7, d4]
      exact Nat.le_refl _
    · have h5 : VN K bb < h * P K (-1) := Nat.lt_of_mul_lt_mul_right (Nat.lt_of_le_of_lt d6 h4)
      rw [hc, d4] at h5
      have h6 := Nat.lt_of_mul_lt_mul_right h5
      refine Nat.le_trans hhi ?_
      rw [d5, hc]
      exact Nat.mul_le_mul_right _ h6
  have h52 : P K 51 = 2 ^ 52 * P K (-1) := by
    have := P_add K (E := -1) 52 (by omega)
    rw [Nat.mul_comm] at this
    exact this
  have hw52 : VN K w ≤ P K 52 := by
    refine Nat.le_trans (g2 (2 ^ 52) ?_) (by rw [← h52]; exact P_le K (by decide))
    rw [h52, ← Nat.mul_assoc] at h51
    have := Nat.lt_of_mul_lt_mul_right h51
    rw [Nat.mul_comm (2 ^ 52)]
    omega
  have szw : sz (sg false + (w : Int)) = w := sz_sg false w (by omega)
  obtain ⟨c, f, M, w1, w2, w3, w4, w5, _, w7, _, w9⟩ := whole_is N hN K hK (okF_sg false hwl) 0 false (by rw [szw]; exact hw52) (.inl rfl)
  rw [szw] at w7
  have mc : mn c = false := by rw [w3]; exact minus_sg false (by omega)
  have hcase := beside hp1 hY0 g1 g2 (by rw [← hp0]; exact w7 rfl) hQ
  -- the product with a sum
  obtain ⟨f1, f2⟩ := minus_F w2 mc
  have hv : SV K (orI .u64 c 9223372036854775808) * SV K y = (-((M * Y : Nat) : Int)) * (P K 0 : Int) := by
    rw [f2, pos_SV mc, w4, pos_SV my, eY, Int.neg_mul, Int.neg_mul]
    congr 1
    rw [← Int.natCast_mul, ← Int.natCast_mul, Nat.mul_assoc, Nat.mul_comm (P K 0), Nat.mul_assoc]
  have hMY : 0 < M → M * Y ≤ 2 ^ 60 * X ∧ X ≤ 2 ^ 60 * (M * Y) := by
    intro hM0
    have hM1 : 1 * Y ≤ M * Y := Nat.mul_le_mul_right _ hM0
    rcases hcase with h | ⟨h, h2, h3, h4⟩ | ⟨h, h2, h3⟩
    · rw [h] at hM1 ⊢
      generalize Q * Y = T at *
      omega
    · have hQ1 : 1 * Y ≤ Q * Y := Nat.mul_le_mul_right _ (by omega)
      rw [h, ex1] at h3 ⊢
      generalize Q * Y = T at *
      omega
    · rw [h, ex1] at h2 q1 q2
      generalize M * Y = T at *
      omega
  have hfi := fma_is N hN K hK f1 hy hx 0 _ hv (by
    intro h1 _
    rw [Int.natAbs_neg, Int.natAbs_natCast] at *
    rw [eX]
    refine hMY ?_
    rcases Nat.eq_zero_or_pos M with h | h
    · rw [h, Nat.zero_mul] at h1; omega
    · exact h)
  have hval : -((M * Y : Nat) : Int) + SV K x = (X : Int) - (M : Int) * (Y : Int) := by
    rw [pos_SV mx, eX, Int.natCast_mul]; omega
  rw [hval] at hfi
  have hf0 := w9 rfl
  rw [hf0] at w1
  rcases hcase with h | h
  · -- the same multiple
    rw [h] at hfi
    obtain ⟨t, t1, t2, t3⟩ := hfi.exact hN hK hbig hRep
    unfold bodyR
    refine bndE r1 (bndE hdiv (bndE w1 (bndE t1 (cFv rfl ?_))))
    simp only
    rcases SV_inj hK t2 r2 (by rw [t3, r3]) with h4 | ⟨h4, h5⟩
    · exact cTv (eqI_t h4) rfl
    · cases hb : eqI t r
      · refine cFv rfl (cTv ?_ (cTv ?_ rfl))
        · rw [bic_sz t2.1, h4]; rfl
        · rw [bic_sz r2.1, h5]; rfl
      · exact cTv rfl rfl
  · have htail := tail_true N hN K hK hx hy w2 mx my mc r2 X Y M Q eX eY w4 w5 r3 hRep hX9 hY9 hX0 hY0 hQ h
    have hm2 : ((X : Int) - (M : Int) * (Y : Int)).natAbs < P K 1000 := by
      have := P_add K (E := 900) 60 (by omega)
      have h4 := P_lt K (a := 960) (b := 1000) (by omega) (by decide)
      rw [show (900 : Int) + ((60 : Nat) : Int) = 960 from rfl] at this
      rw [← Int.natCast_mul]
      rcases Nat.eq_zero_or_pos M with h0 | h0
      · rw [h0, Nat.zero_mul]; omega
      · have := hMY h0
        generalize M * Y = T at *
        omega
    obtain ⟨t, tf, t1, t2, t3, t4⟩ := hfi.any hN hK hm2
    have hdiff : eqI t r = false ∧ eqI (bicI .u64 r 9223372036854775808) 0 = false := by
      have hrs : ∀ v : Int, SV K r = v → v ≠ 0 → eqI (bicI .u64 r 9223372036854775808) 0 = false := by
        intro v hv hv0
        rw [bic_sz r2.1]
        refine eqI_f fun h0 => ?_
        have h1 : sz r = 0 := by omega
        have : (SV K r).natAbs = 0 := by rw [SV_abs, h1, VN_zero]
        omega
      rcases h with ⟨h, h2, h3, h4⟩ | ⟨h, h2, h3⟩
      · have a1 : mn t = true := t3 (by rw [← Int.natCast_mul]; omega)
        have a2 : 0 < SV K r := by rw [r3, ← Int.natCast_mul]; omega
        exact ⟨eqI_f (mn_ne a1 (SV_pos a2)), hrs _ rfl (by omega)⟩
      · have a1 : mn t = false := t4 (by rw [← Int.natCast_mul]; omega)
        have a2 : SV K r < 0 := by rw [r3, ← Int.natCast_mul]; omega
        exact ⟨eqI_f (fun h5 => mn_ne (SV_neg a2) a1 h5.symm), hrs _ rfl (by omega)⟩
    unfold bodyR
    refine bndE r1 (bndE hdiv (bndE w1 (bndE t1 (cFv rfl (cFv hdiff.1 ?_)))))
    simp only
    cases eqI (bicI .u64 t 9223372036854775808) 0
    · exact cFv rfl htail
    · exact cTv rfl (cFv hdiff.2 htail)
theorem top_true (K : Nat) (hK : 3000 ≤ K) {x : Int} (h0 : 900719925474099200 ≤ x) (h1 : x ≤ 8106479329266892800) : okF x ∧ mn x = false ∧ expR x = x / 4503599627370496 - 1075 ∧ P K (x / 4503599627370496 - 1023) ≤ VN K (sz x) ∧ VN K (sz x) < P K (x / 4503599627370496 - 1022) := by
  have hs : sz x = x.toNat := by unfold sz; omega
  have hok : okF x := ⟨⟨by omega, by omega⟩, by rw [hs]; omega⟩
  have he : eN x = x / 4503599627370496 := by unfold eN; omega
  have hE : expR x = x / 4503599627370496 - 1075 := by
    unfold expR
    rw [if_neg (by omega), if_neg (by omega), he]
  obtain ⟨k, k1, k2, k3, k4, k5, k6⟩ := sig_val K hok.1 hok.2
  have k7 := k6 (by omega)
  refine ⟨hok, decide_eq_false (by omega), hE, ?_, ?_⟩
  · have := Nat.mul_le_mul_right (P K (expR x)) k7
    rw [Nat.mul_comm, ← P_add K 52 (by omega), ← k3] at this
    rwa [show x / 4503599627370496 - 1023 = expR x + ((52 : Nat) : Int) by omega]
  · have := Nat.mul_lt_mul_of_pos_right k2 (P_pos K (expR x))
    rw [Nat.mul_comm (2 ^ 53), ← P_add K 53 (by omega), ← k3] at this
    rwa [show x / 4503599627370496 - 1022 = expR x + ((53 : Nat) : Int) by omega]
theorem pure_TopRests : ∀ (a0 a1 : Int), okN .u64 a0 → okN .u64 a1 → ∃ N, fn_tillertop_TopRests N a0 a1 = some true := by
  intro a b ha hb
  refine ⟨400, ?_⟩
  rw [lawR_unf, Pure.sure_true]
  have ua : U a := u64_in ha
  have ub : U b := u64_in hb
  have ea : bicI .u64 a 9223372036854775808 = a % 9223372036854775808 := andNot_sign a ua.1 ua.2
  have eb : bicI .u64 b 9223372036854775808 = b % 9223372036854775808 := andNot_sign b ub.1 ub.2
  rw [ea, eb]
  have bx : 0 ≤ a % 9223372036854775808 ∧ a % 9223372036854775808 < 9223372036854775808 := by omega
  have bY : 0 ≤ b % 9223372036854775808 ∧ b % 9223372036854775808 < 9223372036854775808 := by omega
  generalize a % 9223372036854775808 = x at *
  generalize b % 9223372036854775808 = y at *
  by_cases c1 : x < 900719925474099200
  · exact cTv (ltI_t c1) rfl
  refine cFv (ltI_f c1) ?_
  by_cases c2 : y < 900719925474099200
  · exact cTv (ltI_t c2) rfl
  refine cFv (ltI_f c2) ?_
  by_cases c3 : 8106479329266892800 < x
  · exact cTv (ltI_t c3) rfl
  refine cFv (ltI_f c3) ?_
  by_cases c4 : 8106479329266892800 < y
  · exact cTv (ltI_t c4) rfl
  refine cFv (ltI_f c4) ?_
  have s1 : shrI .u64 x 52 = x / 4503599627370496 := by
    obtain ⟨n, rfl⟩ := Int.eq_ofNat_of_zero_le bx.1
    rw [show (52 : Int) = ((52 : Nat) : Int) from rfl, shrI_n _ (by decide)]; rfl
  have s2 : shrI .u64 y 52 = y / 4503599627370496 := by
    obtain ⟨n, rfl⟩ := Int.eq_ofNat_of_zero_le bY.1
    rw [show (52 : Int) = ((52 : Nat) : Int) from rfl, shrI_n _ (by decide)]; rfl
  rw [s1, s2, addI_u (by omega) (by omega)]
  by_cases c5 : y / 4503599627370496 + 50 < x / 4503599627370496
  · exact cTv (ltI_t c5) rfl
  refine cFv (ltI_f c5) ?_
  obtain ⟨K, hK⟩ : ∃ K : Nat, 3000 ≤ K := ⟨3000, Nat.le_refl _⟩
  obtain ⟨x1, x2, x3, x4, x5⟩ := top_true K hK (x := x) (by omega) (by omega)
  obtain ⟨y1, y2, y3, y4, y5⟩ := top_true K hK (x := y) (by omega) (by omega)
  have px := P_pos K (x / 4503599627370496 - 1023)
  have py := P_pos K (y / 4503599627370496 - 1023)
  refine body_true 400 (by decide) K hK x1 y1 x2 y2 _ _ rfl rfl (Nat.lt_of_lt_of_le x5 (P_le K (by omega))) (Nat.lt_of_lt_of_le y5 (P_le K (by omega))) (by omega) (by omega) (by omega) ?_
  have h1 : VN K (sz x) < P K (y / 4503599627370496 - 1023) * 2 ^ 51 := by
    rw [← P_add K 51 (by omega)]
    exact Nat.lt_of_lt_of_le x5 (P_le K (by omega))
  have h2 : P K 51 = P K 0 * 2 ^ 51 := by
    have := P_add K (E := 0) 51 (by omega)
    exact this
  rw [h2, Nat.mul_comm (P K 0), ← Nat.mul_assoc]
  exact Nat.mul_lt_mul_of_pos_right (Nat.lt_of_lt_of_le h1 (Nat.mul_le_mul_right _ y4)) (P_pos K 0)
end Go.Proofs.YtopcajgknbmbcaaGreatDoor

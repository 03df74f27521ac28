/- TopWholes, in plain Lean: what the law's function computes is true. No statement is proved here. -/
import Derived.Test.YtopcajgknbmbcaaGreatDoorVal10
import Derived.Test.YtopcajgknbmbcaaGreatDoorSure
import Derived.Test.YtopcajgknbmbcaaGreatDoorFnTopWholes
import Derived.Test.YtopcajgknbmbcaaGreatDoorEng13
namespace Go.Proofs.YtopcajgknbmbcaaGreatDoor
open Go Go.RowKit Go.Proofs.YtopcajgknbmbcaaGreatDoor.Eng Go.Proofs.YtopcajgknbmbcaaGreatDoor.Fns Go.Proofs.YtopcajgknbmbcaaGreatDoor.Bw Go.Proofs.YtopcajgknbmbcaaGreatDoor.Wid Go.Proofs.YtopcajgknbmbcaaGreatDoor.Patp Go.Proofs.YtopcajgknbmbcaaGreatDoor.Top
set_option linter.unusedVariables false
set_option linter.unusedSimpArgs false
theorem alW {K : Nat} {p q a b : Int} (hp : Wh K p a) (hq : Wh K q b) (ha : a.natAbs < 67108864) (hb : b.natAbs < 67108864) : 0 < VN K (sz p) → 0 < VN K (sz q) → VN K (sz p) ≤ 2 ^ 60 * VN K (sz q) ∧ VN K (sz q) ≤ 2 ^ 60 * VN K (sz p) := by
  intro h1 h2
  rw [hp.sz] at h1 ⊢
  rw [hq.sz] at h2 ⊢
  have a0 : 1 ≤ a.natAbs := by
    rcases Nat.eq_zero_or_pos a.natAbs with h | h
    · rw [h, Nat.zero_mul] at h1; omega
    · exact h
  have b0 : 1 ≤ b.natAbs := by
    rcases Nat.eq_zero_or_pos b.natAbs with h | h
    · rw [h, Nat.zero_mul] at h2; omega
    · exact h
  constructor
  · rw [← Nat.mul_assoc]; exact Nat.mul_le_mul_right _ (by omega)
  · rw [← Nat.mul_assoc]; exact Nat.mul_le_mul_right _ (by omega)
theorem add_W (N : Nat) (hN : 300 ≤ N) (K : Nat) (hK : 3000 ≤ K) {p q a b : Int} (hp : Wh K p a) (hq : Wh K q b) (ha : a.natAbs < 67108864) (hb : b.natAbs < 67108864) (m : Int) : ∃ s, fn_sums_Add N p q m = some (s, 0) ∧ Wh K s (a + b) := by
  have h := add_is N hN K hK hp.1 hq.1 m (alW hp hq ha hb)
  rw [hp.2, hq.2, ← Int.add_mul] at h
  exact h.whole hN hK (by omega)
theorem sub_W (N : Nat) (hN : 300 ≤ N) (K : Nat) (hK : 3000 ≤ K) {p q a b : Int} (hp : Wh K p a) (hq : Wh K q b) (ha : a.natAbs < 67108864) (hb : b.natAbs < 67108864) (m : Int) : ∃ s, fn_sums_Sub N p q m = some (s, 0) ∧ Wh K s (a - b) := by
  have h := sub_is N hN K hK hp.1 hq.1 m (alW hp hq ha hb)
  rw [hp.2, hq.2, ← Int.sub_mul] at h
  exact h.whole hN hK (by omega)
theorem mul_lim {a b : Int} (ha : a.natAbs < 67108864) (hb : b.natAbs < 67108864) : (a * b).natAbs ≤ 2 ^ 52 := by
  rw [Int.natAbs_mul]
  have := Nat.mul_le_mul (Nat.le_of_lt ha) (Nat.le_of_lt hb)
  exact Nat.le_trans this (by decide)
theorem mul_W (N : Nat) (hN : 300 ≤ N) (K : Nat) (hK : 3000 ≤ K) {p q a b : Int} (hp : Wh K p a) (hq : Wh K q b) (ha : a.natAbs < 67108864) (hb : b.natAbs < 67108864) (m : Int) : ∃ s, fn_prod_Mul N p q m = some (s, 0) ∧ Wh K s (a * b) := by
  have h := mul_is N hN K hK hp.1 hq.1 m (a * b * (P K 0 : Int)) (by
    rw [hp.2, hq.2, Int.mul_assoc, Int.mul_assoc, Int.mul_assoc]
    congr 1
    rw [← Int.mul_assoc, ← Int.mul_assoc, Int.mul_comm (P K 0 : Int)])
  exact h.whole hN hK (mul_lim ha hb)
theorem sz0 {K : Nat} (hK : 3000 ≤ K) {p : Int} (hp : Wh K p 0) : sz p = 0 := VN_eq0 hK (by rw [hp.sz]; exact Nat.zero_mul _)
theorem szp {K : Nat} {p a : Int} (hp : Wh K p a) (h : a ≠ 0) : 0 < VN K (sz p) := by rw [hp.sz]; exact Nat.mul_pos (by omega) (P_pos K 0)
theorem P0_27 (K : Nat) (hK : 3000 ≤ K) : P K 27 = 2 ^ 27 * P K 0 := by
  have := P_add K (E := 0) 27 (by omega)
  rw [Nat.mul_comm] at this
  exact this
theorem mod_W (N : Nat) (hN : 300 ≤ N) (K : Nat) (hK : 3000 ≤ K) {p q a b : Int} (hp : Wh K p a) (hq : Wh K q b) (ha : a.natAbs < 67108864) (hb : b.natAbs < 67108864) (h0 : b ≠ 0) : ∃ s, fn_whole_Mod N p q = some (s, 0) ∧ Wh K s (a.tmod b) := by
  by_cases hz : a = 0
  · subst hz
    exact ⟨p, mod_zero N hN K hK hp.1 hq.1 (sz0 hK hp) (VN_posz (szp hq h0)), by rw [Int.zero_tmod]; exact hp⟩
  · have e1 : expR p = -1074 ∨ expR p ≤ 27 - 53 := exp_hi K hK hp.1 (by decide) (by rw [hp.sz, P0_27 K hK]; exact Nat.mul_lt_mul_of_pos_right (by omega) (P_pos K 0))
    have e2 : 0 - 53 < expR q := exp_lo K hK hq.1 (by rw [hq.sz]; exact Nat.le_mul_of_pos_left _ (by omega))
    obtain ⟨h, hr⟩ := mod_is N hN K hK hp.1 hq.1 (szp hp hz) (szp hq h0) (by omega)
    rw [hp.sz, hq.sz, Nat.mul_mod_mul_right, sv_scale, hp.mn hz, ← tmod_sv] at h
    refine h.whole hN hK ?_
    have h2 : (a.tmod b).natAbs = a.natAbs % b.natAbs := by rw [tmod_sv]; exact sv_abs _ _
    rw [h2]
    exact Nat.le_trans (Nat.mod_le _ _) (by omega)
theorem cut_W (N : Nat) (hN : 300 ≤ N) (K : Nat) (hK : 3000 ≤ K) {p q a b : Int} (hp : Wh K p a) (hq : Wh K q b) (ha : a.natAbs < 67108864) (hb : b.natAbs < 67108864) (h0 : b ≠ 0) :
    ∃ c f d g, fn_quot_Div N p q 2 = some (c, f) ∧ fn_whole_Round N c 2 false = some (d, g) ∧ Wh K d (a.tdiv b) := by
  have hp0 := P_pos K 0
  by_cases hz : a = 0
  · subst hz
    have hd := div_zero N hN K hK hp.1 hq.1 2 (by rw [hp.sz]; exact Nat.zero_mul _) (szp hq h0)
    have hok : okF (sg (mn p != mn q) + ((0 : Nat) : Int)) := okF_sg _ (by decide)
    have hs : sz (sg (mn p != mn q) + ((0 : Nat) : Int)) = 0 := sz_sg _ _ (by decide)
    rw [show ((0 : Nat) : Int) = 0 from rfl, Int.add_zero] at hok hs
    obtain ⟨d, g, M, w1, w2, w3, w4, _, w6, _⟩ := whole_is N hN K hK hok 2 false (by rw [hs, VN_zero]; exact Nat.zero_le _) (.inr (.inl rfl))
    obtain ⟨hM, _⟩ := w6 0 (by rw [hs, VN_zero, Nat.zero_mul])
    refine ⟨_, _, d, g, hd, w1, w2, ?_⟩
    rw [Int.zero_tdiv, Int.zero_mul]
    have : (SV K d).natAbs = 0 := by rw [SV_abs, w4, hM, Nat.zero_mul]
    omega
  · obtain ⟨bb, u, F, n, q', d1, d2, d3, d4, d5, d6, d7, d8, _, d10⟩ := div_val N hN K hK hp.1 hq.1 2 (szp hp hz) (szp hq h0) (by
      have h1 : VN K (sz p) < P K 900 := by
        rw [hp.sz]
        have h1 : a.natAbs * P K 0 < 2 ^ 27 * P K 0 := Nat.mul_lt_mul_of_pos_right (by omega) hp0
        rw [← P0_27 K hK] at h1
        exact Nat.lt_of_lt_of_le h1 (P_le K (by decide))
      have h2 : P K 0 ≤ VN K (sz q) := by rw [hq.sz]; exact Nat.le_mul_of_pos_left _ (by omega)
      rw [Nat.mul_comm]
      exact Nat.lt_of_lt_of_le (Nat.mul_lt_mul_of_pos_left h1 hp0) (Nat.mul_le_mul_right _ h2))
    rw [d10 rfl, cond_false, Int.add_zero] at d1
    have hn := d8 27 (by decide) (by
      rw [hp.sz, hq.sz, P0_27 K hK]
      have h1 : a.natAbs * P K 0 * P K 0 < b.natAbs * 2 ^ 27 * (P K 0 * P K 0) := by
        rw [Nat.mul_assoc]
        refine Nat.mul_lt_mul_of_pos_right ?_ (Nat.mul_pos hp0 hp0)
        omega
      have h2 : b.natAbs * P K 0 * (2 ^ 27 * P K 0) = b.natAbs * 2 ^ 27 * (P K 0 * P K 0) := Nat.mul_mul_mul_comm ..
      omega)
    rw [hp.sz, hq.sz] at d6 d7
    have hb0 : 0 < b.natAbs := by omega
    -- the whole quotient
    obtain ⟨t1, t2⟩ := div_sand a.natAbs b.natAbs hb0
    have hTl : a.natAbs / b.natAbs ≤ 67108864 := Nat.le_trans (Nat.div_le_self _ _) (by omega)
    generalize hT : a.natAbs / b.natAbs = T at *
    have c1 : T * P K 0 ≤ VN K bb := by
      obtain ⟨c, hc⟩ := grid K (n := n) (a := 0) (by omega) (by omega) T
      have h1 : T * P K 0 * (b.natAbs * P K 0) ≤ a.natAbs * P K 0 * P K 0 := by
        rw [Nat.mul_mul_mul_comm, Nat.mul_assoc a.natAbs]
        exact Nat.mul_le_mul_right _ t1
      have h2 := Nat.lt_of_mul_lt_mul_right (Nat.lt_of_le_of_lt h1 d7)
      rw [hc, d5] at h2
      have h3 := Nat.lt_of_mul_lt_mul_right h2
      rw [hc, d4]
      exact Nat.mul_le_mul_right _ (by omega)
    have c2 : VN K bb < (T + 1) * P K 0 := by
      have h1 : a.natAbs * P K 0 * P K 0 < (T + 1) * P K 0 * (b.natAbs * P K 0) := by
        rw [Nat.mul_mul_mul_comm, Nat.mul_assoc]
        exact Nat.mul_lt_mul_of_pos_right t2 (Nat.mul_pos hp0 hp0)
      exact Nat.lt_of_mul_lt_mul_right (Nat.lt_of_le_of_lt d6 h1)
    have hs : sz (sg (mn p != mn q) + (bb : Int)) = bb := sz_sg _ _ (by omega)
    have hok : okF (sg (mn p != mn q) + (bb : Int)) := okF_sg _ (by omega)
    obtain ⟨d, g, M, w1, w2, w3, w4, _, _, _, w8, _⟩ := whole_is N hN K hK hok 2 false (by
      rw [hs, P0_52 K hK]
      exact Nat.le_trans (Nat.le_of_lt c2) (Nat.mul_le_mul_right _ (by omega))) (.inr (.inl rfl))
    rw [hs] at w8
    obtain ⟨m1, m2⟩ := w8 rfl
    have hMT : M = T := by
      have a1 := Nat.lt_of_mul_lt_mul_right (Nat.lt_of_le_of_lt m1 c2)
      have a2 := Nat.lt_of_mul_lt_mul_right (Nat.lt_of_le_of_lt c1 m2)
      omega
    refine ⟨_, F, d, g, d1, w1, w2, ?_⟩
    have hmn : mn d = (decide (a < 0) != decide (b < 0)) := by
      rw [w3, ← hp.mn hz, ← hq.mn h0]; exact minus_sg _ (by omega)
    have e : SV K d = sv (mn d) (VN K (sz d)) := rfl
    rw [e, w4, hmn, hMT, sv_scale, tdiv_sv, hT]
theorem small_tmod (a : Int) : (a.tmod 67108864).natAbs < 67108864 := by
  have : (a.tmod 67108864).natAbs = a.natAbs % 67108864 := by rw [tmod_sv]; exact sv_abs _ _
  rw [this]; exact Nat.mod_lt _ (by decide)
theorem tdiv_lim {a b : Int} (ha : a.natAbs < 67108864) : (a.tdiv b).natAbs < 67108864 := by
  have h2 : (a.tdiv b).natAbs = a.natAbs / b.natAbs := by rw [tdiv_sv]; exact sv_abs _ _
  rw [h2]; exact Nat.lt_of_le_of_lt (Nat.div_le_self _ _) ha
theorem tmod_lim {a b : Int} (ha : a.natAbs < 67108864) : (a.tmod b).natAbs < 67108864 := by
  have h2 : (a.tmod b).natAbs = a.natAbs % b.natAbs := by rw [tmod_sv]; exact sv_abs _ _
  rw [h2]; exact Nat.lt_of_le_of_lt (Nat.mod_le _ _) ha
theorem pure_TopWholes : ∀ (a0 a1 a2 : Int), okN .i64 a0 → okN .i64 a1 → okN .i64 a2 → ∃ N, fn_tillertop_TopWholes N a0 a1 a2 = some true := by
  intro x y m _ _ _
  refine ⟨400, ?_⟩
  obtain ⟨K, hK⟩ : ∃ K : Nat, 3000 ≤ K := ⟨3000, Nat.le_refl _⟩
  have hN : 300 ≤ 400 := by decide
  have ha := small_tmod x
  have hb := small_tmod y
  have ra : remI .i64 x 67108864 = x.tmod 67108864 := rfl
  have rb : remI .i64 y 67108864 = y.tmod 67108864 := rfl
  unfold fn_tillertop_TopWholes
  rw [ra, rb]
  generalize x.tmod 67108864 = a at *
  generalize y.tmod 67108864 = b at *
  obtain ⟨p, p1, p2⟩ := of_whole 400 hN K hK a m (by omega)
  obtain ⟨q, q1, q2⟩ := of_whole 400 hN K hK b m (by omega)
  obtain ⟨s, s1, s2⟩ := add_W 400 hN K hK p2 q2 ha hb m
  obtain ⟨d, d1, d2⟩ := sub_W 400 hN K hK p2 q2 ha hb m
  obtain ⟨t, t1, t2⟩ := mul_W 400 hN K hK p2 q2 ha hb m
  have hab := mul_lim ha hb
  have z : orI .u8 (orI .u8 (orI .u8 (orI .u8 (orI .u8 0 0) 0) 0) 0) 0 = 0 := by decide +kernel
  have z2 : orI .u8 0 0 = 0 := by decide +kernel
  refine bndE p1 (bndE q1 (bndE s1 (bndE d1 (bndE t1 (bndE (to_whole 400 hN K hK s2 (by omega) m true) (bndE (to_whole 400 hN K hK d2 (by omega) m true) (bndE (to_whole 400 hN K hK t2 hab m true) ?_)))))))
  simp only
  refine cFv (by rw [z]; rfl) ?_
  rw [addI_i (by omega) (by omega), subI_i (by omega) (by omega), mulI_i (by omega) (by omega)]
  refine cFv (by rw [eqI_t rfl]; rfl) (cFv (by rw [eqI_t rfl]; rfl) (cFv (by rw [eqI_t rfl]; rfl) ?_))
  by_cases hz : b = 0
  · refine cTv (eqI_t hz) ?_
    rw [Pure.sure_true]; rfl
  refine cFv (eqI_f hz) ?_
  obtain ⟨r, r1, r2⟩ := mod_W 400 hN K hK p2 q2 ha hb hz
  obtain ⟨c, f, e, g, c1, c2, c3⟩ := cut_W 400 hN K hK p2 q2 ha hb hz
  have hm1 := tmod_lim (b := b) ha
  have hd1 := tdiv_lim (b := b) ha
  refine bndE r1 (bndE (to_whole 400 hN K hK r2 (by omega) m true) (bndE c1 (bndE c2 (bndE (to_whole 400 hN K hK c3 (by omega) m true) ?_))))
  simp only
  have e1 : remI .i64 a b = a.tmod b := rfl
  have e2 : quoI .i64 a b = a.tdiv b := by unfold quoI; rw [wrap_i64]; omega
  rw [z2, e1, e2, Pure.sure_true]
  exact cTv rfl (cFv (eqI_f hz) (cTv (eqI_t rfl) (cFv (eqI_f hz) (cTv (eqI_t rfl) rfl))))
end Go.Proofs.YtopcajgknbmbcaaGreatDoor

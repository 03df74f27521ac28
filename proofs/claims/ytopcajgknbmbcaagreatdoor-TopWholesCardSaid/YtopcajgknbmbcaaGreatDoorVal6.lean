/- PLAIN FACTS on chapter 7, by values: a quotient. No statement is proved here. -/
import Derived.Test.YtopcajgknbmbcaaGreatDoorVal5
namespace Go.Proofs.YtopcajgknbmbcaaGreatDoor.Top
open Go Go.RowKit Go.Proofs.YtopcajgknbmbcaaGreatDoor.Eng Go.Proofs.YtopcajgknbmbcaaGreatDoor.Fns Go.Proofs.YtopcajgknbmbcaaGreatDoor.Bw Go.Proofs.YtopcajgknbmbcaaGreatDoor.Wid Go.Proofs.YtopcajgknbmbcaaGreatDoor.Patp
set_option linter.unusedVariables false
set_option linter.unusedSimpArgs false
theorem round_more (N : Nat) (hN : 300 ≤ N) (mi : Bool) (E : Int) (s : Nat) (m : Int) (hs : s < 2 ^ 254) (h0 : -100000 ≤ E) (h1 : E ≤ 100000) : fn_rnd_Round N (mi, E, W s, true) m = fn_rnd_Round N (mi, E - 1, W (2 * s + 1), false) m := by
  have near : ∀ (E : Int) (v : Vec 4) (mo : Bool), -131072 ≤ E → E ≤ 131072 → fn_rnd_Num_near N (mi, E, v, mo) = some (mi, E, v, mo) := by
    intro E v mo h0 h1
    show some (mi, minI (maxI E (-131072)) 131072, v, mo) = _
    have : minI (maxI E (-131072)) 131072 = E := by unfold minI maxI; split <;> split <;> omega
    rw [this]
  have e1 : fn_rnd_Num_exact N (mi, E, W s, true) = some (mi, E - 1, W (2 * s + 1), false) := by
    have hl : lenN s ≤ 254 := lenN_le hs
    have hsh : shlZ s 1 = 2 * s := by
      unfold shlZ
      rw [if_neg (by decide), if_neg (by decide), show ((1 : Int).toNat) = 1 from rfl, Nat.pow_one, Nat.mod_eq_of_lt (by omega), Nat.mul_comm]
    unfold fn_rnd_Num_exact
    simp only
    refine cFv rfl (bndE (len_eq N hN s (by omega)) (cFv (ltI_f (by omega)) (bndE (shl_eq N hN s 1) ?_)))
    rw [hsh]
    refine bndE (of_one N) (bndE (add_eq N hN (2 * s) 1 (by omega) (by decide)) ?_)
    rw [Nat.mod_eq_of_lt (by omega), subI_i (by omega) (by omega)]
  have e2 : fn_rnd_Num_exact N (mi, E - 1, W (2 * s + 1), false) = some (mi, E - 1, W (2 * s + 1), false) := rfl
  rw [round_unf, round_unf, near E (W s) true (by omega) (by omega), near (E - 1) (W (2 * s + 1)) false (by omega) (by omega), Option.bind_some, Option.bind_some, e1, e2]
theorem xor_mn {a b : Int} (ha : U a) (hb : U b) : andI .u64 (xorI .u64 a b) 9223372036854775808 = sg (mn a != mn b) := by
  obtain ⟨x, rfl⟩ := Int.eq_ofNat_of_zero_le ha.1
  obtain ⟨y, rfl⟩ := Int.eq_ofNat_of_zero_le hb.1
  have hx : x < 2 ^ 64 := by have := ha.2; omega
  have hy : y < 2 ^ 64 := by have := hb.2; omega
  have e : xorI .u64 (x : Int) (y : Int) = ((x ^^^ y : Nat) : Int) := bits_xor_u64_nat x y hx hy
  have hz : x ^^^ y < 2 ^ 64 := Nat.xor_lt_two_pow hx hy
  have top : ∀ z, z < 2 ^ 64 → z.testBit 63 = decide (2 ^ 63 ≤ z) := by
    intro z hz
    rw [Nat.testBit_eq_decide_div_mod_eq]
    congr 1; apply propext; constructor <;> intro h <;> omega
  have hb' : decide (2 ^ 63 ≤ x ^^^ y) = (decide (2 ^ 63 ≤ x) ^^ decide (2 ^ 63 ≤ y)) := by
    rw [← top _ hz, ← top _ hx, ← top _ hy, Nat.testBit_xor]
  rw [e]
  unfold andI
  rw [and_sign _ (by omega) (by omega)]
  have m1 : mn (x : Int) = decide (2 ^ 63 ≤ x) := by unfold mn; congr 1; apply propext; constructor <;> intro h <;> omega
  have m2 : mn (y : Int) = decide (2 ^ 63 ≤ y) := by unfold mn; congr 1; apply propext; constructor <;> intro h <;> omega
  rw [m1, m2]
  have hbe : (decide (2 ^ 63 ≤ x) != decide (2 ^ 63 ≤ y)) = decide (2 ^ 63 ≤ x ^^^ y) := by rw [hb']
  rw [hbe]
  by_cases h : 2 ^ 63 ≤ x ^^^ y
  · rw [decide_eq_true h, if_neg (by omega)]; rfl
  · rw [decide_eq_false h, if_pos (by omega)]; rfl
theorem cls0 {a : Int} (ha : okF a) (h : 0 < sz a) : eqI (clsR a) 0 = false := by
  obtain ⟨⟨h0, h1⟩, h2⟩ := ha
  unfold sz at h h2
  have hne : eN a ≠ 2047 := by unfold eN; omega
  unfold clsR
  rw [if_neg hne]
  by_cases h3 : eN a = 0
  · rw [if_pos h3]
    have : 0 < fN a := by unfold eN at h3; unfold fN; omega
    rw [if_pos this]; rfl
  · rw [if_neg h3]; rfl
theorem VN_posz {K : Nat} {p : Nat} (h : 0 < VN K p) : 0 < p := by
  rcases Nat.eq_zero_or_pos p with h' | h'
  · subst h'; rw [VN_zero] at h; omega
  · exact h'
theorem sg_ne (t : Bool) : (!(eqI (sg t) 0)) = t := by cases t <;> rfl
/-- a quotient is a number of its bits, rounded -/
theorem div_is (N : Nat) (hN : 300 ≤ N) {a b : Int} (ha : okF a) (hb : okF b) (m : Int) (h2 : 0 < sz b) {k j : Nat} (hk : sigR a = (k : Int)) (hj : sigR b = (j : Int)) (hk2 : k < 2 ^ 53) (hj2 : j < 2 ^ 53) (hj0 : 0 < j)
    (e0 : -1074 ≤ expR a) (e1 : expR a ≤ 971) (e2 : -1074 ≤ expR b) (e3 : expR b ≤ 971) :
    fn_quot_Div N a b m = fn_rnd_Round N (mn a != mn b, expR a - expR b - 128, W (k * 2 ^ 128 / j), decide (k * 2 ^ 128 % j ≠ 0)) m := by
  have hsh : shlZ k 128 = k * 2 ^ 128 := by
    unfold shlZ
    rw [if_neg (by decide), if_neg (by decide), show ((128 : Int).toNat) = 128 from rfl, Nat.mod_eq_of_lt (by omega)]
  have hr : k * 2 ^ 128 % j < 2 ^ 256 := Nat.lt_of_lt_of_le (Nat.mod_lt _ hj0) (by omega)
  have main : ((fn_wide_Of N (sigR a)).bind fun r12 => (fn_wide_Shl N r12 128).bind fun r13 => (fn_wide_Of N (sigR b)).bind fun r14 => (fn_wide_DivMod N r13 r14).bind fun r15 =>
                cond (!(isNoneI r15.2.2)) (some (9221120237041090560, 1))
                   ((fn_rnd_Round N (!(eqI (andI .u64 (xorI .u64 a b) 9223372036854775808) 0), subI .i64 (subI .i64 (expR a) (expR b)) 128, r15.1, !(eqL r15.2.1.1 (Vec.zero 4).1)) m).bind fun r16 => some (r16.1, r16.2))) = fn_rnd_Round N (mn a != mn b, expR a - expR b - 128, W (k * 2 ^ 128 / j), decide (k * 2 ^ 128 % j ≠ 0)) m := by
    rw [hk, hj]
    refine bndE (of_small N k (by omega)) (bndE (shl_eq N hN k 128) ?_)
    rw [hsh]
    refine bndE (of_small N j (by omega)) (bndE (divmod_eq N hN _ j (by omega) (by omega) hj0) (cFv rfl ?_))
    rw [bind_eta2]
    simp only
    rw [xor_mn ha.1 hb.1, sg_ne, notW _ hr, subI_i (a := expR a) (by omega) (by omega), subI_i (by omega) (by omega)]
  have hz : eqI (clsR a) (clsR b) = true → eqI (clsR a) 0 = false := by
    intro h
    have h3 : clsR a = clsR b := eqI_iff.1 h
    rw [h3]; exact cls0 hb h2
  have tl := cFv (α := Option (Int × Int)) (b := eqI (clsR a) 3) (x := some (orI .u64 9218868437227405312 (andI .u64 (xorI .u64 a b) 9223372036854775808), 0)) (okF_cls ha) (cFv (b := eqI (clsR b) 3) (x := some (andI .u64 (xorI .u64 a b) 9223372036854775808, 0)) (okF_cls hb)
    (cFv (b := eqI (clsR b) 0) (x := some (orI .u64 9218868437227405312 (andI .u64 (xorI .u64 a b) 9223372036854775808), 2)) (cls0 hb h2) main))
  unfold fn_quot_Div
  refine bndE (takeP_eq N a ha.1.1 ha.1.2) (bndE (takeP_eq N b hb.1.1 hb.1.2) (bndE (nan_eq N a ha.1.1 ha.1.2) (cFv (okF_nan ha) (bndE (nan_eq N b hb.1.1 hb.1.2) (cFv (okF_nan hb) ?_)))))
  by_cases h : eqI (clsR a) (clsR b) = true
  · exact cTv h (cFv (hz h) (cFv (okF_cls ha) tl))
  · exact cFv (by simpa using h) tl
theorem div_val (N : Nat) (hN : 300 ≤ N) (K : Nat) (hK : 3000 ≤ K) {a b : Int} (ha : okF a) (hb : okF b) (m : Int) (h1 : 0 < VN K (sz a)) (h2 : 0 < VN K (sz b)) (hq : VN K (sz a) * P K 0 < VN K (sz b) * P K 900) :
    ∃ (bb : Nat) (u : Bool) (F n : Int) (q : Nat), fn_quot_Div N a b m = some (sg (mn a != mn b) + (bb : Int) + cond u 1 0, F) ∧ bb + 1 < 9218868437227405312 ∧ -1074 ≤ n ∧ VN K bb = q * P K n ∧ VN K (bb + 1) = (q + 1) * P K n ∧
      VN K bb * VN K (sz b) ≤ VN K (sz a) * P K 0 ∧ VN K (sz a) * P K 0 < VN K (bb + 1) * VN K (sz b) ∧ (∀ B : Int, -1021 ≤ B → VN K (sz a) * P K 0 < VN K (sz b) * P K B → n ≤ B - 53) ∧ (VN K bb * VN K (sz b) = VN K (sz a) * P K 0 → u = false) ∧ (m = 2 → u = false) := by
  obtain ⟨k, k1, k2, k3, k4, k5, _⟩ := of_F N hN K ha
  obtain ⟨j, j1, j2, j3, j4, j5, _⟩ := of_F N hN K hb
  have hk0 : 0 < k := by
    rcases Nat.eq_zero_or_pos k with h | h
    · rw [k3, h, Nat.zero_mul] at h1; omega
    · exact h
  have hj0 : 0 < j := by
    rcases Nat.eq_zero_or_pos j with h | h
    · rw [j3, h, Nat.zero_mul] at h2; omega
    · exact h
  have hd := div_is N hN ha hb m (VN_posz h2) k2 j2 k1 j1 hj0 k4 k5 j4 j5
  generalize hE : expR a - expR b - 128 = E at hd
  have hY0 : 0 < VN K (sz b) := h2
  -- in units
  have eX : VN K (sz a) * P K 0 = k * 2 ^ 128 * (P K (expR a - 128) * P K 0) := by
    rw [k3]
    have : P K (expR a) = P K (expR a - 128) * 2 ^ 128 := by
      have := P_add K (E := expR a - 128) 128 (by omega)
      rwa [show expR a - 128 + ((128 : Nat) : Int) = expR a by omega] at this
    rw [this, Nat.mul_comm (P K (expR a - 128)), ← Nat.mul_assoc, ← Nat.mul_assoc]
  have eD : P K E * VN K (sz b) = j * (P K (expR a - 128) * P K 0) := by
    rw [j3, Nat.mul_left_comm, P_two K (by omega) (by omega) (by omega), show E + expR b = expR a - 128 by omega]
  have hC : 0 < P K (expR a - 128) * P K 0 := Nat.mul_pos (P_pos _ _) (P_pos _ _)
  have hS := Nat.div_add_mod (k * 2 ^ 128) j
  have hr := Nat.mod_lt (k * 2 ^ 128) hj0
  have hq0 : 2 ^ 75 ≤ k * 2 ^ 128 / j := by
    rw [Nat.le_div_iff_mul_le hj0]
    have h3 : 2 ^ 75 * j ≤ 2 ^ 75 * 2 ^ 53 := Nat.mul_le_mul_left _ (by omega)
    rw [← Nat.pow_add] at h3
    exact Nat.le_trans h3 (Nat.le_mul_of_pos_left (2 ^ 128) hk0)
  have hql : k * 2 ^ 128 / j < 2 ^ 181 := Nat.lt_of_le_of_lt (Nat.div_le_self _ _) (by omega)
  generalize k * 2 ^ 128 / j = q0 at *
  generalize k * 2 ^ 128 % j = r at *
  generalize k * 2 ^ 128 = S at *
  generalize P K (expR a - 128) * P K 0 = C at *
  generalize VN K (sz a) * P K 0 = XP at *
  generalize VN K (sz b) = Y at *
  have hPE := P_pos K E
  have b1 : q0 * (P K E * Y) ≤ XP ∧ (r ≠ 0 → q0 * (P K E * Y) < XP) ∧ (r = 0 → q0 * (P K E * Y) = XP) ∧ XP < (q0 + 1) * (P K E * Y) := by
    rw [eX, eD, ← Nat.mul_assoc, ← Nat.mul_assoc, ← hS, Nat.mul_comm j q0]
    refine ⟨Nat.mul_le_mul_right _ (by omega), fun h => Nat.mul_lt_mul_of_pos_right (by omega) hC, fun h => by rw [h, Nat.add_zero], Nat.mul_lt_mul_of_pos_right ?_ hC⟩
    rw [Nat.add_mul, Nat.one_mul]; omega
  obtain ⟨b1, b2, b3, b4⟩ := b1
  have hlen : ∀ B : Int, XP < Y * P K B → E + (lenN q0 : Int) ≤ B := by
    intro B hB
    refine top_lt K (by omega) (by omega) ?_
    have h3 : q0 * P K E * Y < P K B * Y := by
      rw [Nat.mul_assoc, Nat.mul_comm (P K B)]
      exact Nat.lt_of_le_of_lt b1 hB
    exact Nat.lt_of_mul_lt_mul_right h3
  have hl9 := hlen 900 hq
  by_cases hz : r = 0
  · rw [hz, show decide ((0 : Nat) ≠ 0) = false from rfl] at hd
    obtain ⟨bb, u, F, n, q, r1, r2, r3, r4, r5, r6, r7, r8, r9, r10, r11, r12⟩ := round_val N hN (mn a != mn b) E q0 m K (by omega) (by omega) (by omega) (by omega) (by omega) (by omega) (by omega)
    have h3 := b3 hz
    rw [← Nat.mul_assoc] at h3
    refine ⟨bb, u, F, n, q, by rw [hd, r1], r2, r3, r7, r8, ?_, ?_, fun B hB1 hB2 => ?_, fun he => ?_, r12⟩
    · rw [← h3, r7]; exact Nat.mul_le_mul_right _ r9
    · rw [← h3, r8]; exact Nat.mul_lt_mul_of_pos_right r10 hY0
    · have := hlen B hB2
      by_cases hn : -1074 < n
      · have := r6 hn; omega
      · omega
    · rw [← h3, r7] at he
      exact (r11 (Nat.eq_of_mul_eq_mul_right hY0 he)).1
  · rw [show decide (r ≠ 0) = true from decide_eq_true hz, round_more N hN _ _ _ _ (by omega) (by omega) (by omega)] at hd
    have hl2 : lenN (2 * q0 + 1) = lenN q0 + 1 := by
      obtain ⟨l1, _⟩ := lenN_spec q0
      obtain ⟨l2, l3⟩ := len_pos (s := q0) (by omega)
      have e1 : 2 ^ (lenN q0 + 1) = 2 * 2 ^ lenN q0 := by rw [Nat.pow_succ, Nat.mul_comm]
      have e2 : 2 ^ lenN q0 = 2 * 2 ^ (lenN q0 - 1) := by
        obtain ⟨t, ht⟩ : ∃ t, lenN q0 = t + 1 := ⟨lenN q0 - 1, by omega⟩
        rw [ht, Nat.add_sub_cancel, Nat.pow_succ, Nat.mul_comm]
      refine lenU (by omega) (.inr ?_)
      rw [Nat.add_sub_cancel, e2]; omega
    have hl3 : 76 ≤ lenN q0 := by
      obtain ⟨l1, _⟩ := lenN_spec q0
      rcases Nat.lt_or_ge (lenN q0) 76 with h | h
      · have := pow_le' (show lenN q0 ≤ 75 by omega)
        omega
      · exact h
    obtain ⟨bb, u, F, n, q, r1, r2, r3, r4, r5, r6, r7, r8, r9, r10, r11, r12⟩ := round_val N hN (mn a != mn b) (E - 1) (2 * q0 + 1) m K (by omega) (by omega) (by omega) (by omega) (by omega) (by omega) (by omega)
    have hPE2 : P K E = P K (E - 1) * 2 := by
      have := P_add K (E := E - 1) 1 (by omega)
      rwa [show E - 1 + ((1 : Nat) : Int) = E by omega, Nat.pow_one] at this
    obtain ⟨c, hc⟩ := grid K (n := E) (a := n) (by omega) (by omega) q
    obtain ⟨c', hc'⟩ := grid K (n := E) (a := n) (by omega) (by omega) (q + 1)
    have hcq : c ≤ q0 := by
      rw [hc, hPE2, Nat.mul_comm (P K (E - 1)), ← Nat.mul_assoc] at r9
      have := Nat.le_of_mul_le_mul_right r9 (P_pos _ _)
      omega
    have hcq' : q0 + 1 ≤ c' := by
      rw [hc', hPE2, Nat.mul_comm (P K (E - 1)), ← Nat.mul_assoc] at r10
      have := Nat.lt_of_mul_lt_mul_right r10
      omega
    have h3 := b2 hz
    have g1 : VN K bb * Y ≤ q0 * (P K E * Y) := by rw [r7, hc, Nat.mul_assoc]; exact Nat.mul_le_mul_right _ hcq
    have g2 : (q0 + 1) * (P K E * Y) ≤ VN K (bb + 1) * Y := by rw [r8, hc', Nat.mul_assoc]; exact Nat.mul_le_mul_right _ hcq'
    refine ⟨bb, u, F, n, q, by rw [hd, r1], r2, r3, r7, r8, by omega, by omega, fun B hB1 hB2 => ?_, fun he => by omega, r12⟩
    have := hlen B hB2
    by_cases hn : -1074 < n
    · have := r6 hn; omega
    · omega
theorem div_zero (N : Nat) (hN : 300 ≤ N) (K : Nat) (hK : 3000 ≤ K) {a b : Int} (ha : okF a) (hb : okF b) (m : Int) (h1 : VN K (sz a) = 0) (h2 : 0 < VN K (sz b)) : fn_quot_Div N a b m = some (sg (mn a != mn b), 0) := by
  obtain ⟨k, k1, k2, k3, k4, k5, _⟩ := of_F N hN K ha
  obtain ⟨j, j1, j2, j3, j4, j5, _⟩ := of_F N hN K hb
  have hj0 : 0 < j := by
    rcases Nat.eq_zero_or_pos j with h | h
    · rw [j3, h, Nat.zero_mul] at h2; omega
    · exact h
  have hk0 : k = 0 := by
    rw [k3] at h1
    rcases Nat.mul_eq_zero.1 h1 with h | h
    · exact h
    · have := P_pos K (expR a); omega
  rw [div_is N hN ha hb m (VN_posz h2) k2 j2 k1 j1 hj0 k4 k5 j4 j5, hk0, Nat.zero_mul, Nat.zero_div, Nat.zero_mod]
  exact round_zero N _ _ m
end Go.Proofs.YtopcajgknbmbcaaGreatDoor.Top

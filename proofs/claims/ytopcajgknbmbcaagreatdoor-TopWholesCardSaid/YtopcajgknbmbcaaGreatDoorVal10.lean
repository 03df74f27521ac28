/- PLAIN FACTS on chapter 11, by values: a whole number as a pattern, and back. No statement is proved here. -/
import Derived.Test.YtopcajgknbmbcaaGreatDoorVal9
namespace Go.Proofs.YtopcajgknbmbcaaGreatDoor.Top
open Go Go.RowKit Go.Proofs.YtopcajgknbmbcaaGreatDoor.Eng Go.Proofs.YtopcajgknbmbcaaGreatDoor.Fns Go.Proofs.YtopcajgknbmbcaaGreatDoor.Bw Go.Proofs.YtopcajgknbmbcaaGreatDoor.Wid Go.Proofs.YtopcajgknbmbcaaGreatDoor.Patp
set_option linter.unusedVariables false
set_option linter.unusedSimpArgs false
theorem P0_52 (K : Nat) (hK : 3000 ≤ K) : P K 52 = 2 ^ 52 * P K 0 := by
  have := P_add K (E := 0) 52 (by omega)
  rw [Nat.mul_comm] at this
  exact this
theorem small_lt (K : Nat) (hK : 3000 ≤ K) {k : Nat} (h : k ≤ 2 ^ 52) : k * P K 0 < P K 1000 := by
  have h1 : k * P K 0 ≤ 2 ^ 52 * P K 0 := Nat.mul_le_mul_right _ h
  rw [← P0_52 K hK] at h1
  exact Nat.lt_of_le_of_lt h1 (P_lt K (by omega) (by decide))
theorem small_rep (K : Nat) {k : Nat} (h : k ≤ 2 ^ 52) : Rep K (k * P K 0) := ⟨k, 0, by omega, by decide, rfl⟩
theorem abs_mul (n : Int) (p : Nat) : (n * (p : Int)).natAbs = n.natAbs * p := by rw [Int.natAbs_mul, Int.natAbs_natCast]
/-- a whole number's pattern -/
def Wh (K : Nat) (p n : Int) : Prop := okF p ∧ SV K p = n * (P K 0 : Int)
theorem Wh.sz {K : Nat} {p n : Int} (h : Wh K p n) : VN K (sz p) = n.natAbs * P K 0 := by rw [← SV_abs, h.2, abs_mul]
theorem Wh.mn {K : Nat} {p n : Int} (h : Wh K p n) (h0 : n ≠ 0) : mn p = decide (n < 0) := by
  have hp := P_pos K 0
  by_cases hn : n < 0
  · rw [decide_eq_true hn]
    refine SV_neg (K := K) ?_
    rw [h.2]
    exact Int.mul_neg_of_neg_of_pos hn (by omega)
  · rw [decide_eq_false hn]
    refine SV_pos (K := K) ?_
    rw [h.2]
    exact Int.mul_pos (by omega) (by omega)
theorem Is.whole {N K : Nat} (hN : 300 ≤ N) (hK : 3000 ≤ K) {o : Option (Int × Int)} {m n : Int} (h : Is N K o m (n * (P K 0 : Int))) (hb : n.natAbs ≤ 2 ^ 52) : ∃ p, o = some (p, 0) ∧ Wh K p n := by
  obtain ⟨p, h1, h2, h3⟩ := h.exact hN hK (by rw [abs_mul]; exact small_lt K hK hb) (by rw [abs_mul]; exact small_rep K hb)
  exact ⟨p, h1, h2, h3⟩
theorem of_whole (N : Nat) (hN : 300 ≤ N) (K : Nat) (hK : 3000 ≤ K) (n m : Int) (hn : n.natAbs ≤ 2 ^ 52) : ∃ p, fn_ints_Of N n m = some (p, 0) ∧ Wh K p n := by
  have key : ∀ mi : Bool, ∃ b : Nat, fn_rnd_Round N (mi, 0, W n.natAbs, false) m = some (sg mi + (b : Int), 0) ∧ b < 9218868437227405312 ∧ VN K b = n.natAbs * P K 0 := fun mi =>
    round_exact N hN mi 0 n.natAbs m K (by omega) (by decide) (by decide) (by omega) (by omega) (small_lt K hK hn) (small_rep K hn)
  by_cases h : 0 ≤ n
  · obtain ⟨b, b1, b2, b3⟩ := key false
    refine ⟨_, ?_, okF_sg false b2, ?_⟩
    · unfold fn_ints_Of fn_ints_OfPlain
      refine cTv (leI_t h) (bndE (v := (sg false + (b : Int), 0)) ?_ rfl)
      rw [cvI_u h (by omega)]
      have hw : fn_wide_Of N n = some (W n.natAbs) := by
        have := of_small N n.natAbs (by omega)
        rwa [show ((n.natAbs : Nat) : Int) = n by omega] at this
      exact bndE hw (bndE b1 rfl)
    · rw [SV_sg K false (by omega), b3]
      show ((n.natAbs * P K 0 : Nat) : Int) = _
      rw [Int.natCast_mul]; congr 1; omega
  · obtain ⟨b, b1, b2, b3⟩ := key true
    refine ⟨_, ?_, okF_sg true b2, ?_⟩
    · unfold fn_ints_Of
      refine cFv (leI_f h) ?_
      have hw : fn_wide_Of N (subI .u64 0 (cvI .u64 n)) = some (W n.natAbs) := by
        have := of_small N n.natAbs (by omega)
        have e : subI .u64 0 (cvI .u64 n) = ((n.natAbs : Nat) : Int) := by unfold subI cvI; rw [wrap_u64, wrap_u64]; omega
        rwa [e]
      exact bndE hw (bndE b1 rfl)
    · rw [SV_sg K true (by omega), b3]
      show -((n.natAbs * P K 0 : Nat) : Int) = _
      rw [Int.natCast_mul, ← Int.neg_mul]; congr 1; omega
theorem to_whole (N : Nat) (hN : 300 ≤ N) (K : Nat) (hK : 3000 ≤ K) {p n : Int} (h : Wh K p n) (hn : n.natAbs ≤ 2 ^ 52) (m : Int) (told : Bool) : fn_ints_To N p m told = some (n, 0) := by
  have hsz := h.sz
  obtain ⟨hp, hv⟩ := h
  have h52 : VN K (sz p) ≤ P K 52 := by rw [hsz, P0_52 K hK]; exact Nat.mul_le_mul_right _ hn
  obtain ⟨c, f, M, w1, w2, w3, w4, _, w6, _⟩ := whole_is N hN K hK hp m told h52 (.inr (.inr ⟨_, hsz⟩))
  obtain ⟨hM, hf⟩ := w6 _ hsz
  subst hM; subst hf
  obtain ⟨k, k1, k2, k3, k4, k5, k6⟩ := of_F N hN K w2
  rw [w4] at k3
  have hexp : expR c ≤ 0 := by
    rcases exp_hi K hK w2 (B := 53) (by decide) (by rw [w4]; exact Nat.lt_of_le_of_lt (by rw [← hsz]; exact h52) (P_lt K (by omega) (by decide))) with h | h <;> omega
  have hp0 := P_pos K 0
  have hfind : fn_ints_find N p m told = some (mn p, (n.natAbs : Int), false, 0) := by
    unfold fn_ints_find
    refine bndE w1 (bndE (takeP_eq N c w2.1.1 w2.1.2) (cFv (okF_cls w2) (cFv (ltI_f (show ¬ (11 : Int) < expR c by omega)) ?_)))
    rw [show decide ((9223372036854775808 : Int) ≤ c) = mn p from w3]
    simp only [k2]
    by_cases he : 0 ≤ expR c
    · have he0 : expR c = 0 := by omega
      rw [he0] at k3 ⊢
      have hk : k = n.natAbs := (Nat.eq_of_mul_eq_mul_right hp0 k3).symm
      refine cTv rfl (cFv rfl ?_)
      have : shlI .u64 (k : Int) 0 = (n.natAbs : Int) := by
        rw [show (0 : Int) = ((0 : Nat) : Int) from rfl, shlI_n (by decide), Nat.pow_zero, Nat.mul_one, Nat.mod_eq_of_lt (by omega), hk]
      rw [this]
    · refine cFv (leI_f he) ?_
      obtain ⟨e, hE⟩ := Int.eq_ofNat_of_zero_le (show 0 ≤ -(expR c) by omega)
      have hsub : subI .i64 0 (expR c) = (e : Int) := by rw [subI_i (by omega) (by omega)]; omega
      rw [hsub]
      have hPe : P K 0 = P K (expR c) * 2 ^ e := by
        rw [← P_add K e (by omega), show expR c + (e : Int) = 0 by omega]
      rw [hPe, Nat.mul_comm (P K (expR c)), ← Nat.mul_assoc] at k3
      have hk : k = n.natAbs * 2 ^ e := (Nat.eq_of_mul_eq_mul_right (P_pos K _) k3).symm
      have hmin : ∃ g : Nat, minI (e : Int) 63 = (g : Int) ∧ g ≤ 63 ∧ k / 2 ^ g = n.natAbs := by
        by_cases h63 : e ≤ 63
        · refine ⟨e, by unfold minI; rw [if_neg (by omega)], h63, ?_⟩
          rw [hk, Nat.mul_div_cancel _ (Nat.pow_pos (by decide))]
        · refine ⟨63, by unfold minI; rw [if_pos (by omega)]; rfl, by decide, ?_⟩
          have hn0 : n.natAbs = 0 := by
            rcases Nat.eq_zero_or_pos n.natAbs with h | h
            · exact h
            · have h1 : P K 0 ≤ VN K (sz c) := by
                rw [w4]; exact Nat.le_mul_of_pos_left _ h
              have := exp_lo K hK w2 h1
              omega
          rw [hk, hn0, Nat.zero_mul, Nat.zero_div]
      obtain ⟨g, g1, g2, g3⟩ := hmin
      rw [g1]
      refine cFv (ltI_f (by omega)) ?_
      rw [shrI_n _ (show g ≤ IntKind.u64.bits by show g ≤ 64; omega), g3]
  have hsgn : (mn p = true → n ≤ 0) ∧ (mn p = false → 0 ≤ n) := by
    have h0 : n ≠ 0 → mn p = decide (n < 0) := Wh.mn ⟨hp, hv⟩
    by_cases hz : n = 0
    · omega
    · have := h0 hz
      rw [this]
      exact ⟨fun h => Int.le_of_lt (of_decide_eq_true h), fun h => by have := of_decide_eq_false h; omega⟩
  unfold fn_ints_To fn_ints_among
  cases hm : mn p
  · rw [hm] at hfind
    refine bndE (v := (false, (n.natAbs : Int), 0)) (bndE (nan_eq N p hp.1.1 hp.1.2) (cFv (okF_nan hp) (bndE hfind (cFv rfl (cFv rfl (cFv (ltI_f (show ¬ (9223372036854775807 : Int) < (n.natAbs : Int) by omega)) rfl)))))) ?_
    unfold fn_ints_signed_int64
    refine bndE (v := n) (cFv rfl ?_) rfl
    have := hsgn.2 hm
    simp only
    rw [cvI_i (by omega) (by omega)]; congr 1; omega
  · rw [hm] at hfind
    refine bndE (v := (true, (n.natAbs : Int), 0)) (bndE (nan_eq N p hp.1.1 hp.1.2) (cFv (okF_nan hp) (bndE hfind (cTv rfl (cFv rfl (cFv (ltI_f (show ¬ (9223372036854775808 : Int) < (n.natAbs : Int) by omega)) rfl)))))) ?_
    unfold fn_ints_signed_int64
    refine bndE (v := n) (cTv rfl ?_) rfl
    have := hsgn.1 hm
    simp only
    rw [cvI_i (by omega) (by omega), subI_i (by omega) (by omega)]; congr 1; omega
theorem neg_t (z : Nat) : decide (Int.negSucc z < 0) = true := decide_eq_true (Int.negSucc_lt_zero z)
theorem neg_f (z : Nat) : decide (Int.ofNat z < 0) = false := decide_eq_false (show ¬ ((z : Int) < 0) by omega)
theorem tmod_sv (a b : Int) : a.tmod b = sv (decide (a < 0)) (a.natAbs % b.natAbs) := by
  cases a with
  | ofNat x => cases b with
    | ofNat y => rw [neg_f]; rfl
    | negSucc y => rw [neg_f]; rfl
  | negSucc x => cases b with
    | ofNat y => rw [neg_t]; rfl
    | negSucc y => rw [neg_t]; rfl
theorem tdiv_sv (a b : Int) : a.tdiv b = sv (decide (a < 0) != decide (b < 0)) (a.natAbs / b.natAbs) := by
  cases a with
  | ofNat x => cases b with
    | ofNat y => rw [neg_f, neg_f]; rfl
    | negSucc y => rw [neg_f, neg_t]; rfl
  | negSucc x => cases b with
    | ofNat y => rw [neg_t, neg_f]; rfl
    | negSucc y => rw [neg_t, neg_t]; rfl
theorem sv_scale (t : Bool) (x p : Nat) : sv t (x * p) = sv t x * (p : Int) := by
  cases t
  · exact Int.natCast_mul x p
  · show -((x * p : Nat) : Int) = -(x : Int) * (p : Int)
    rw [Int.natCast_mul, Int.neg_mul]
end Go.Proofs.YtopcajgknbmbcaaGreatDoor.Top

/- PLAIN FACTS on chapter 4, by values, part 2: the value of a pattern; what rounding answers, by values. No statement is proved here. -/
import Derived.Test.YtopcajgknbmbcaaGreatDoorVal1
namespace Go.Proofs.YtopcajgknbmbcaaGreatDoor.Top
open Go Go.RowKit Go.Proofs.YtopcajgknbmbcaaGreatDoor.Eng Go.Proofs.YtopcajgknbmbcaaGreatDoor.Fns Go.Proofs.YtopcajgknbmbcaaGreatDoor.Bw Go.Proofs.YtopcajgknbmbcaaGreatDoor.Wid Go.Proofs.YtopcajgknbmbcaaGreatDoor.Patp
set_option linter.unusedVariables false
set_option linter.unusedSimpArgs false
/-- the value of a size -/
def VN (K : Nat) (p : Nat) : Nat := if p / 4503599627370496 = 0 then p % 4503599627370496 * P K (-1074) else (p % 4503599627370496 + 4503599627370496) * P K ((p / 4503599627370496 : Nat) - 1075)
theorem VN_pack (K : Nat) (hK : 1074 ≤ K) (q j : Nat) (hq : q ≤ 9007199254740992) (h : 0 < j → 4503599627370496 ≤ q) : VN K (q + j * 4503599627370496) = q * P K ((j : Int) - 1074) := by
  unfold VN
  by_cases h1 : q < 4503599627370496
  · have hj : j = 0 := by
      rcases Nat.eq_zero_or_pos j with h' | h'
      · exact h'
      · have := h h'; omega
    subst hj
    rw [if_pos (by omega), show (q + 0 * 4503599627370496) % 4503599627370496 = q by omega]
    rfl
  · by_cases h2 : q < 9007199254740992
    · have e1 : (q + j * 4503599627370496) / 4503599627370496 = j + 1 := by omega
      have e2 : (q + j * 4503599627370496) % 4503599627370496 = q - 4503599627370496 := by omega
      rw [if_neg (by omega), e1, e2, show q - 4503599627370496 + 4503599627370496 = q by omega]
      congr 2; omega
    · have hq : q = 9007199254740992 := by omega
      subst hq
      have e1 : (9007199254740992 + j * 4503599627370496) / 4503599627370496 = j + 2 := by omega
      have e2 : (9007199254740992 + j * 4503599627370496) % 4503599627370496 = 0 := by omega
      rw [if_neg (by omega), e1, e2, show (((j + 2 : Nat) : Int) - 1075) = ((j : Int) - 1074) + ((1 : Nat) : Int) by omega, P_add K 1 (by omega), Nat.pow_one, Nat.zero_add, Nat.mul_comm (P K _) 2, ← Nat.mul_assoc]
/-- a size's parts -/
theorem unpack (p : Nat) : ∃ q j, p = q + j * 4503599627370496 ∧ q < 9007199254740992 ∧ (0 < j → 4503599627370496 ≤ q) ∧ (j + 1 = p / 4503599627370496 ∨ (j = 0 ∧ p < 4503599627370496)) := by
  by_cases h : p / 4503599627370496 = 0
  · exact ⟨p, 0, by omega, by omega, by omega, .inr ⟨rfl, by omega⟩⟩
  · exact ⟨p % 4503599627370496 + 4503599627370496, p / 4503599627370496 - 1, by omega, by omega, by omega, .inl (by omega)⟩
theorem VN_step (K : Nat) (hK : 1074 ≤ K) (p : Nat) : VN K p < VN K (p + 1) := by
  obtain ⟨q, j, e, hq, hj, _⟩ := unpack p
  have h1 := VN_pack K hK q j (by omega) hj
  have h2 := VN_pack K hK (q + 1) j (by omega) (fun h => by have := hj h; omega)
  rw [e, h1, show q + j * 4503599627370496 + 1 = q + 1 + j * 4503599627370496 by omega, h2, Nat.add_mul, Nat.one_mul]
  exact Nat.lt_add_of_pos_right (P_pos _ _)
theorem VN_lt (K : Nat) (hK : 1074 ≤ K) (p : Nat) : ∀ d, VN K p < VN K (p + (d + 1))
  | 0 => VN_step K hK p
  | d + 1 => Nat.lt_trans (VN_lt K hK p d) (VN_step K hK (p + (d + 1)))
theorem VN_mono (K : Nat) (hK : 1074 ≤ K) {p q : Nat} (h : p < q) : VN K p < VN K q := by
  have := VN_lt K hK p (q - p - 1)
  rwa [show p + (q - p - 1 + 1) = q by omega] at this
theorem VN_inj (K : Nat) (hK : 1074 ≤ K) {p q : Nat} (h : VN K p = VN K q) : p = q := by
  rcases Nat.lt_trichotomy p q with h' | h' | h'
  · have := VN_mono K hK h'; omega
  · exact h'
  · have := VN_mono K hK h'; omega
theorem VN_zero (K : Nat) : VN K 0 = 0 := by unfold VN; rw [if_pos (by decide)]; exact Nat.zero_mul _
/-- the size of a pattern -/
def sz (a : Int) : Nat := (a % 9223372036854775808).toNat
theorem sz_sg (mi : Bool) (b : Nat) (h : b < 9223372036854775808) : sz (sg mi + b) = b := by unfold sz sg; cases mi <;> simp only [cond_true, cond_false] <;> omega
theorem sig_val (K : Nat) {a : Int} (ha : U a) (hf : sz a < 9218868437227405312) : ∃ k : Nat, sigR a = (k : Int) ∧ k < 2 ^ 53 ∧ VN K (sz a) = k * P K (expR a) ∧ -1074 ≤ expR a ∧ expR a ≤ 971 ∧ (-1074 < expR a → 2 ^ 52 ≤ k) := by
  obtain ⟨h0, h1⟩ := ha
  unfold sz at hf
  have he : eN a = ((sz a / 4503599627370496 : Nat) : Int) := by unfold eN sz; omega
  have hm : fN a = ((sz a % 4503599627370496 : Nat) : Int) := by unfold fN sz; omega
  have hlt : sz a / 4503599627370496 < 2047 := by unfold sz; omega
  unfold sigR expR VN
  rw [he, hm]
  generalize sz a / 4503599627370496 = e at *
  have hml : sz a % 4503599627370496 < 4503599627370496 := Nat.mod_lt _ (by decide)
  generalize sz a % 4503599627370496 = f at *
  have n1 : ¬ ((e : Int) = 2047) := by omega
  rw [if_neg n1, if_neg n1]
  by_cases hz : e = 0
  · subst hz
    exact ⟨f, rfl, by omega, rfl, by decide, by decide, fun h => by exact absurd h (by decide)⟩
  · have n2 : ¬ ((e : Int) = 0) := by omega
    rw [if_neg n2, if_neg n2, if_neg hz]
    exact ⟨f + 4503599627370496, by omega, by omega, rfl, by omega, by omega, fun _ => by omega⟩
theorem exact_none {s : Nat} {d : Int} (h : 0 < d → s % 2 ^ d.toNat = 0) : hb s d = false ∧ rb s d = false := by
  unfold hb rb
  by_cases hd : 0 < d
  · obtain ⟨k, hk⟩ := Int.eq_ofNat_of_zero_le (show 0 ≤ d - 1 by omega)
    have h2 := h hd
    rw [show d.toNat = k + 1 by omega, mod_half] at h2
    rw [hk, Int.toNat_natCast]
    have h3 : s % 2 ^ k = 0 := by omega
    have h4 : 2 ^ k * (s / 2 ^ k % 2) = 0 := by omega
    have h5 : s / 2 ^ k % 2 = 0 := by
      rcases Nat.mul_eq_zero.1 h4 with h | h
      · have : 0 < 2 ^ k := Nat.pow_pos (by decide)
        omega
      · exact h
    exact ⟨decide_eq_false (fun h => by have := h.2; omega), decide_eq_false (fun h => h.2 h3)⟩
  · exact ⟨decide_eq_false (fun h => hd h.1), decide_eq_false (fun h => hd h.1)⟩
theorem round_val (N : Nat) (hN : 300 ≤ N) (mi : Bool) (E : Int) (s : Nat) (m : Int) (K : Nat) (hs : s < 2 ^ 256) (hpos : 0 < s) (h0 : -100000 ≤ E) (h1 : E ≤ 100000) (hE : -(K : Int) ≤ E) (hK : 1074 ≤ K) (hT : E + (lenN s : Int) ≤ 1000) :
    ∃ (b : Nat) (u : Bool) (F n : Int) (q : Nat), fn_rnd_Round N (mi, E, W s, false) m = some (sg mi + (b : Int) + cond u 1 0, F) ∧ b + 1 < 9218868437227405312 ∧ -1074 ≤ n ∧ E + lenN s - 53 ≤ n ∧ n ≤ 947 ∧ (-1074 < n → n = E + lenN s - 53) ∧
      VN K b = q * P K n ∧ VN K (b + 1) = (q + 1) * P K n ∧ q * P K n ≤ s * P K E ∧ s * P K E < (q + 1) * P K n ∧ (q * P K n = s * P K E → u = false ∧ F = 0) ∧ (m = 2 → u = false) := by
  have hz : s ≠ 0 := by omega
  have hnear : fn_rnd_Num_near N (mi, E, W s, false) = some (mi, E, W s, false) := by
    show some (mi, minI (maxI E (-131072)) 131072, W s, false) = _
    have : minI (maxI E (-131072)) 131072 = E := by unfold minI maxI; split <;> split <;> omega
    rw [this]
  have hex : fn_rnd_Num_exact N (mi, E, W s, false) = some (mi, E, W s, false) := rfl
  obtain ⟨l1, l2⟩ := lenN_spec s
  have l3 : lenN s ≤ 256 := lenN_le hs
  have l4 : 1 ≤ lenN s := by
    rcases l2 with h | h
    · rw [h] at l1; omega
    · rcases Nat.eq_zero_or_pos (lenN s) with h0 | h0
      · rw [h0] at l1; omega
      · exact h0
  have l5 : 2 ^ (lenN s - 1) ≤ s := by
    rcases l2 with h | h
    · omega
    · exact h
  have hlen := len_eq N hN s hs
  generalize lenN s = L at *
  have hmax : ∃ n, maxI (E + (L : Int) - 53) (-1074) = n ∧ ((n = E + L - 53 ∧ -1074 ≤ n) ∨ (n = -1074 ∧ E + L - 53 < n)) := by
    unfold maxI
    by_cases h : (-1074 : Int) > E + (L : Int) - 53
    · rw [if_pos h]; exact ⟨_, rfl, .inr ⟨rfl, by omega⟩⟩
    · rw [if_neg h]; exact ⟨_, rfl, .inl ⟨rfl, by omega⟩⟩
  obtain ⟨n, hn, hn2⟩ := hmax
  have hT' : addI .i64 E (L : Int) = E + L := addI_i (by omega) (by omega)
  have hS : subI .i64 (E + (L : Int)) 53 = E + L - 53 := subI_i (by omega) (by omega)
  have hc := cut_val N hN mi E n s hs (by omega) (by omega) (by omega) (by omega)
  have hq1 := qv_hi s L (n - E) l1 l3 (by omega)
  have hq2 : -1074 < n → 2 ^ 52 ≤ qv s (n - E) := fun hh => qv_lo s L (n - E) l1 l4 l5 l3 (by omega)
  have hq3 := qv_lt s (n - E) hs
  have hex2 : qv s (n - E) * P K n = s * P K E → hb s (n - E) = false ∧ rb s (n - E) = false := by
    intro h
    refine exact_none fun hd => ?_
    obtain ⟨k, hk⟩ := Int.eq_ofNat_of_zero_le (Int.le_of_lt hd)
    rw [hk, qv_pos s k (by omega), show n = E + (k : Int) by omega, P_add K k hE, Nat.mul_comm (P K E), ← Nat.mul_assoc] at h
    have h2 := Nat.eq_of_mul_eq_mul_right (P_pos K E) h
    rw [hk, Int.toNat_natCast]
    have h3 := Nat.div_add_mod s (2 ^ k)
    rw [Nat.mul_comm] at h3
    omega
  have hsand : qv s (n - E) * P K n ≤ s * P K E ∧ s * P K E < (qv s (n - E) + 1) * P K n := by
    by_cases hd : 0 < n - E
    · have := qv_sand K s hE hd
      rwa [show E + (n - E) = n by omega] at this
    · have hb : s * 2 ^ (-(n - E)).toNat < 2 ^ 256 := by
        have h3 : s * 2 ^ (-(n - E)).toNat < 2 ^ L * 2 ^ (-(n - E)).toNat := Nat.mul_lt_mul_of_pos_right l1 (Nat.pow_pos (by decide))
        rw [← Nat.pow_add] at h3
        exact Nat.lt_of_lt_of_le h3 (pow_le' (by omega))
      have := qv_same K s (E := E) (d := n - E) (by omega) (by omega) hpos hb
      rw [show E + (n - E) = n by omega] at this
      rw [Nat.add_mul, this, Nat.one_mul]
      exact ⟨Nat.le_refl _, Nat.lt_add_of_pos_right (P_pos _ _)⟩
  generalize qv s (n - E) = q at *
  generalize hb s (n - E) = h at *
  generalize rb s (n - E) = r at *
  obtain ⟨odd, ht⟩ := to_eq N hN (mi, E, W s, false) n q h r hq3 hc
  have hu1 : (upB m mi odd h r).toNat ≤ 1 := by cases upB m mi odd h r <;> decide
  have hQ : (q + (upB m mi odd h r).toNat) % 2 ^ 256 = q + (upB m mi odd h r).toNat := Nat.mod_eq_of_lt (by omega)
  have hQ2 : q + (upB m mi odd h r).toNat ≤ 2 ^ 53 := by omega
  have hQ3 : -1074 < n → 2 ^ 52 ≤ q + (upB m mi odd h r).toNat := fun hh => Nat.le_trans (hq2 hh) (Nat.le_add_right _ _)
  have key : ∃ F, fn_rnd_Round N (mi, E, W s, false) m = tail N mi n (W (q + (upB m mi odd h r).toNat)) m F ∧ ((h || r) = false → F = 0) := by
    rw [round_unf, hnear, Option.bind_some, hex, Option.bind_some]
    simp only
    rw [W_zero, W_eq hs (by decide), decide_eq_false hz, cond_false, hlen, Option.bind_some, hT', hS, hn, ht m, hQ, Option.bind_some]
    simp only
    cases hr : (h || r)
    · exact ⟨0, rfl, fun _ => rfl⟩
    · obtain ⟨b, hb⟩ := tiny_eq N hN mi false E (E + L) m s hs (by omega) (by omega) (by omega) (by omega)
      rw [cond_true, hb, Option.bind_some]
      cases b
      · exact ⟨16, rfl, fun h => by cases h⟩
      · exact ⟨_, rfl, fun h => by cases h⟩
  obtain ⟨F, hk, hF⟩ := key
  obtain ⟨j, hj⟩ := Int.eq_ofNat_of_zero_le (show 0 ≤ n + 1074 by omega)
  have p1 := VN_pack K hK q j (by omega) (fun hh => by have := hq2 (by omega); omega)
  have p2 := VN_pack K hK (q + 1) j (by omega) (fun hh => by have := hq2 (by omega); omega)
  rw [show (j : Int) - 1074 = n by omega] at p1 p2
  refine ⟨q + j * 4503599627370496, upB m mi odd h r, F, n, q, ?_, by omega, by omega, by omega, by omega, by omega, p1, by rw [show q + j * 4503599627370496 + 1 = q + 1 + j * 4503599627370496 by omega]; exact p2, hsand.1, hsand.2, ?_, ?_⟩
  · rw [hk, tail_eq N hN mi n _ m F hQ2 (by omega) (by omega) hQ3, if_neg (by omega)]
    congr 2
    cases upB m mi odd h r <;> simp only [Bool.toNat_true, Bool.toNat_false, cond_true, cond_false] <;> omega
  · intro hh
    obtain ⟨a1, a2⟩ := hex2 hh
    rw [a1, a2] at hF ⊢
    exact ⟨up_none m mi odd, hF rfl⟩
  · intro hm
    subst hm
    rfl
end Go.Proofs.YtopcajgknbmbcaaGreatDoor.Top

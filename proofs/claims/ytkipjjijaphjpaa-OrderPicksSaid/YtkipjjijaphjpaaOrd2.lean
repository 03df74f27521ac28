/- PLAIN FACTS on chapter 10: the reference's answer. No statement is proved here. -/
import Derived.Test.YtkipjjijaphjpaaOrd
import Derived.Test.YtkipjjijaphjpaaRn1
namespace Go.Proofs.Ytkipjjijaphjpaa.Ordp
open Go Go.RowKit Go.Proofs.Ytkipjjijaphjpaa.Eng Go.Proofs.Ytkipjjijaphjpaa.Fns Go.Proofs.Ytkipjjijaphjpaa.Bw Go.Proofs.Ytkipjjijaphjpaa.Dig Go.Proofs.Ytkipjjijaphjpaa.Rn
set_option linter.unusedVariables false
set_option linter.unusedSimpArgs false
variable (N : Nat)
def eN (a : Int) : Int := a / 4503599627370496 % 2048
def fN (a : Int) : Int := a % 4503599627370496
def clsR (a : Int) : Int := if eN a = 2047 then (if 2251799813685248 ≤ fN a then 4 else if 0 < fN a then 5 else 3) else if eN a = 0 then (if 0 < fN a then 1 else 0) else 2
def expR (a : Int) : Int := if eN a = 2047 then 0 else if eN a = 0 then -1074 else eN a - 1075
def sigR (a : Int) : Int := if eN a = 2047 then fN a else if eN a = 0 then fN a else fN a + 4503599627370496
theorem quo_pos {a : Int} (c : Nat) (h0 : 0 ≤ a) (h1 : a < 18446744073709551616) : quoI .u64 a (c : Int) = a / (c : Int) := by
  obtain ⟨n, rfl⟩ := Int.eq_ofNat_of_zero_le h0
  rw [quoN (by simp only [lim]; omega)]; rfl
theorem rem_pos {k : IntKind} {a : Int} (c : Nat) (h0 : 0 ≤ a) : remI k a (c : Int) = a % (c : Int) := by
  obtain ⟨n, rfl⟩ := Int.eq_ofNat_of_zero_le h0
  rfl
theorem takeR_eq (a : Int) (h0 : 0 ≤ a) (h1 : a < 18446744073709551616) : fn_tillerref03_Take N a = some (decide (9223372036854775808 ≤ a), clsR a, expR a, sigR a) := by
  have e1 : quoI .u64 a 4503599627370496 = a / 4503599627370496 := quo_pos 4503599627370496 h0 h1
  have e2 : remI .u64 (a / 4503599627370496) 2048 = eN a := rem_pos 2048 (by omega)
  have e3 : remI .u64 a 4503599627370496 = fN a := rem_pos 4503599627370496 h0
  have b1 : 0 ≤ eN a ∧ eN a < 2048 := by unfold eN; omega
  have b2 : 0 ≤ fN a ∧ fN a < 4503599627370496 := by unfold fN; omega
  have e4 : subI .i64 (cvI .i64 (eN a)) 1075 = eN a - 1075 := by rw [cvI_i (by omega) (by omega), subI_i (by omega) (by omega)]
  have e5 : addI .u64 (fN a) 4503599627370496 = fN a + 4503599627370496 := addI_u (by omega) (by omega)
  unfold fn_tillerref03_Take clsR expR sigR
  rw [e1, e2, e3, e4, e5]
  simp only [cond_if, eqI_eq, leI_eq, ltI_eq, decide_eq_true_eq]
  repeat' split
  all_goals first | rfl | omega
theorem cls_eqR (a : Int) (h0 : 0 ≤ a) (h1 : a < 18446744073709551616) : cls a = clsR a := by
  have hc := cls_eq 0 a
  unfold fn_pat_Class at hc
  have e1 : shrI .u64 a 52 = a / 4503599627370496 := by
    obtain ⟨n, rfl⟩ := Int.eq_ofNat_of_zero_le h0
    rw [show (52 : Int) = ((52 : Nat) : Int) from rfl, shrN (by decide)]; rfl
  have wi : ∀ n : Int, 0 ≤ n → n < 2 ^ 63 → IntKind.i64.wrap n = n := fun n g0 g1 => by rw [wrap_i64]; omega
  have e2 : andI .i64 (cvI .i64 (a / 4503599627370496)) 2047 = eN a := by
    rw [cvI_i (by omega) (by omega)]
    exact bits_mask .i64 63 (by decide) wi 11 (by decide) _ (by omega) (by omega)
  have e3 : andI .u64 a 4503599627370495 = fN a := bits_mask .u64 64 (by decide) w64 52 (by decide) a h0 (by omega)
  have b2 : 0 ≤ fN a ∧ fN a < 4503599627370496 := by unfold fN; omega
  have b1 : 0 ≤ eN a ∧ eN a < 2048 := by unfold eN; omega
  have e4 : eqI (andI .u64 (fN a) 2251799813685248) 0 = !(decide (2251799813685248 ≤ fN a)) := by
    obtain ⟨n, hn⟩ := Int.eq_ofNat_of_zero_le b2.1
    rw [hn]
    have := and_pow 51 (by decide) n (by omega)
    unfold andI
    rw [show (2251799813685248 : Int) = ((2 ^ 51 : Nat) : Int) from rfl, this]
    by_cases h : n / 2 ^ 51 % 2 = 1
    · rw [if_pos h, decide_eq_true (by omega)]; rfl
    · rw [if_neg h, decide_eq_false (by omega)]; rfl
  unfold fn_pat_Take at hc
  rw [e1, e2, e3, e4] at hc
  unfold clsR
  have z1 : (eN a = 2047) ∨ (eN a ≠ 2047 ∧ eN a = 0) ∨ (eN a ≠ 2047 ∧ 0 < eN a) := by omega
  have z2 : (fN a = 0) ∨ (0 < fN a ∧ ¬ 2251799813685248 ≤ fN a) ∨ (0 < fN a ∧ 2251799813685248 ≤ fN a) := by omega
  rcases z1 with h | ⟨h, h'⟩ | ⟨h, h'⟩ <;> rcases z2 with g | ⟨g, g'⟩ | ⟨g, g'⟩ <;> simp [eqI_eq, ltI_eq, h, g, *] at hc ⊢ <;> (try omega) <;> (try (have : fN a ≠ 0 := by omega)) <;> (try simp [this] at hc) <;> (try omega) <;> (try (have : eN a ≠ 0 := by omega)) <;> (try simp [this] at hc ⊢) <;> (try omega)
theorem nanR_eq (a : Int) (h0 : 0 ≤ a) (h1 : a < 18446744073709551616) : fn_tillerref03_NaN N a = some (nanB a) := by
  unfold fn_tillerref03_NaN
  rw [takeR_eq N a h0 h1, Option.bind_some]
  show some (ltI 3 (clsR a)) = _
  congr 1
  unfold nanB clsR eN fN
  rw [ltI_eq]
  repeat' split
  all_goals (first | (rw [decide_eq_true (by omega), decide_eq_true (by omega)]) | (rw [decide_eq_false (by omega), decide_eq_false (by omega)]))
theorem noneR_eq (a b : Int) (h0 : 0 ≤ a) (h1 : a < 18446744073709551616) (g0 : 0 ≤ b) (g1 : b < 18446744073709551616) : fn_tillerref05_None N a b = some (loudN a b) := by
  unfold fn_tillerref05_None loudN
  rw [takeR_eq N a h0 h1, takeR_eq N b g0 g1, cls_eqR a h0 h1, cls_eqR b g0 g1]
  simp only [Option.bind_some, cond_if, eqI_eq, decide_eq_true_eq]
  repeat' split
  all_goals rfl
/-- a pattern's size: a whole number of units 2^-1074 -/
def mag (m : Nat) : Nat := if m / 4503599627370496 = 0 then m else (m % 4503599627370496 + 4503599627370496) * 2 ^ (m / 4503599627370496 - 1)
theorem mag_lt {m n : Nat} (h : m < n) : mag m < mag n := by
  have hm := Nat.div_add_mod m 4503599627370496
  have hn := Nat.div_add_mod n 4503599627370496
  have hm2 := Nat.mod_lt m (show 4503599627370496 > 0 by decide)
  have hn2 := Nat.mod_lt n (show 4503599627370496 > 0 by decide)
  unfold mag
  generalize m / 4503599627370496 = e at *
  generalize n / 4503599627370496 = e' at *
  generalize m % 4503599627370496 = f at *
  generalize n % 4503599627370496 = f' at *
  by_cases h1 : e = 0
  · subst h1
    rw [if_pos rfl]
    by_cases h2 : e' = 0
    · subst h2; rw [if_pos rfl]; omega
    · rw [if_neg h2]
      have : 1 ≤ 2 ^ (e' - 1) := Nat.pow_pos (by decide)
      have h3 : (f' + 4503599627370496) * 1 ≤ (f' + 4503599627370496) * 2 ^ (e' - 1) := Nat.mul_le_mul_left _ this
      omega
  · rw [if_neg h1, if_neg (by omega)]
    by_cases h2 : e = e'
    · subst h2
      exact Nat.mul_lt_mul_of_pos_right (by omega) (Nat.pow_pos (by decide))
    · have h3 : e - 1 + 1 ≤ e' - 1 := by omega
      calc (f + 4503599627370496) * 2 ^ (e - 1) < (2 * 4503599627370496) * 2 ^ (e - 1) := Nat.mul_lt_mul_of_pos_right (by omega) (Nat.pow_pos (by decide))
        _ = 4503599627370496 * 2 ^ (e - 1 + 1) := by rw [Nat.pow_succ]; omega
        _ ≤ 4503599627370496 * 2 ^ (e' - 1) := Nat.mul_le_mul_left _ (Nat.pow_le_pow_right (by decide) h3)
        _ ≤ (f' + 4503599627370496) * 2 ^ (e' - 1) := Nat.mul_le_mul_right _ (by omega)
theorem cmp_mag (m n : Nat) : cmpZ (mag m) (mag n) = cmpZ m n := by
  unfold cmpZ
  rcases Nat.lt_trichotomy m n with h | h | h
  · rw [if_pos (mag_lt h), if_pos h]
  · subst h; simp
  · have := mag_lt h
    rw [if_neg (by omega), if_pos this, if_neg (by omega), if_pos h]
theorem cmp_scale (m n k : Nat) : cmpZ (m * 2 ^ k) (n * 2 ^ k) = cmpZ m n := by
  have h : 0 < 2 ^ k := Nat.pow_pos (by decide)
  unfold cmpZ
  simp only [Nat.mul_lt_mul_right h]
theorem dl_le_of {m k : Nat} (h : m < 65536 ^ k) : dl 65536 m ≤ k := dl_le b16 h
theorem pow_room (x k K : Nat) (hx : x < 65536 ^ 4) (hk : k ≤ 16 * K) : x * 2 ^ k < 65536 ^ (4 + K) := by
  calc x * 2 ^ k < 65536 ^ 4 * 2 ^ k := Nat.mul_lt_mul_of_pos_right hx (Nat.pow_pos (by decide))
    _ ≤ 65536 ^ 4 * 2 ^ (16 * K) := Nat.mul_le_mul_left _ (Nat.pow_le_pow_right (by decide) hk)
    _ = 65536 ^ (4 + K) := by rw [Nat.pow_mul, Nat.pow_add]
theorem pattern_eq (hN : 300 ≤ N) (a : Int) (h0 : 0 ≤ a) (h1 : a < 18446744073709551616) : ∃ s : Nat, fn_tillerref04_Pattern N a = some (decide (9223372036854775808 ≤ a), expR a, X s) ∧ sigR a = (s : Int) := by
  have hs : 0 ≤ sigR a ∧ sigR a < 18446744073709551616 := by unfold sigR fN; split <;> (try split) <;> omega
  obtain ⟨s, es⟩ := Int.eq_ofNat_of_zero_le hs.1
  refine ⟨s, ?_, es⟩
  unfold fn_tillerref04_Pattern
  rw [takeR_eq N a h0 h1]
  simp only [Option.bind_some]
  rw [es, of_eq N s (by omega) (by omega)]; rfl
theorem value_eq (hN : 300 ≤ N) (hN2 : N < 17592186044416) (a b : Int) (h0 : 0 ≤ a) (h1 : a < 18446744073709551616) (g0 : 0 ≤ b) (g1 : b < 18446744073709551616)
    (ha : a % 9223372036854775808 < 9218868437227405312) (hb : b % 9223372036854775808 < 9218868437227405312) :
    fn_tillerref10_value N a b = some (if (a % 9223372036854775808 = 0 ∧ b % 9223372036854775808 = 0) ∨ a = b then 0 else if keyN a < keyN b then -1 else 1) := by
  obtain ⟨s, e1, hs⟩ := pattern_eq N hN a h0 h1
  obtain ⟨t, e2, ht⟩ := pattern_eq N hN b g0 g1
  obtain ⟨m, hm⟩ := Int.eq_ofNat_of_zero_le (show 0 ≤ a % 9223372036854775808 by omega)
  obtain ⟨n, hn⟩ := Int.eq_ofNat_of_zero_le (show 0 ≤ b % 9223372036854775808 by omega)
  have key : ∀ (a : Int) (m s : Nat), 0 ≤ a → a % 9223372036854775808 = (m : Int) → m < 9218868437227405312 → sigR a = (s : Int) → ∃ p : Nat, expR a = (p : Int) - 1074 ∧ p < 2046 ∧ mag m = s * 2 ^ p ∧ s < 65536 ^ 4 ∧ (s = 0 ↔ m = 0) := by
    intro a m s h0 hm hlt hs
    have e : eN a = ((m / 4503599627370496 : Nat) : Int) := by unfold eN; omega
    have f : fN a = ((m % 4503599627370496 : Nat) : Int) := by unfold fN; omega
    have hm2 : m / 4503599627370496 < 2047 := by omega
    have hfb := Nat.mod_lt m (show 4503599627370496 > 0 by decide)
    have hdm := Nat.div_add_mod m 4503599627370496
    unfold sigR at hs
    unfold expR mag
    rw [e, f] at hs
    rw [e]
    by_cases hz : m / 4503599627370496 = 0
    · rw [if_neg (by omega), if_pos (by omega)] at hs ⊢
      refine ⟨0, by omega, by omega, ?_, by simp; omega, by omega⟩
      rw [if_pos hz, Nat.pow_zero]; omega
    · rw [if_neg (by omega), if_neg (by omega)] at hs ⊢
      refine ⟨m / 4503599627370496 - 1, by omega, by omega, ?_, by simp; omega, by omega⟩
      rw [if_neg hz]; congr 1; omega
  obtain ⟨p, ep, lp, mp, sp, zp⟩ := key a m s h0 hm (by omega) hs
  obtain ⟨q, eq, lq, mq, sq, zq⟩ := key b n t g0 hn (by omega) ht
  unfold fn_tillerref10_value
  rw [e1, e2]
  simp only [Option.bind_some]
  rw [ep, eq]
  have emin : minI ((p : Int) - 1074) ((q : Int) - 1074) = ((min p q : Nat) : Int) - 1074 := by unfold minI; split <;> omega
  have s1 : subI .i64 ((p : Int) - 1074) (((min p q : Nat) : Int) - 1074) = ((p - min p q : Nat) : Int) := by rw [subI_i (by omega) (by omega)]; omega
  have s2 : subI .i64 ((q : Int) - 1074) (((min p q : Nat) : Int) - 1074) = ((q - min p q : Nat) : Int) := by rw [subI_i (by omega) (by omega)]; omega
  have d1 : dl 65536 s ≤ 4 := dl_le_of sp
  have d2 : dl 65536 t ≤ 4 := dl_le_of sq
  have big : ∀ (x k : Nat), x < 65536 ^ 4 → k < 2046 → dl 65536 (x * 2 ^ k) < 300 := by
    intro x k hx hk
    have := pow_room x k 128 hx (by omega)
    have := dl_le_of this
    omega
  have b1 := big s (p - min p q) sp (by omega)
  have b2 := big t (q - min p q) sq (by omega)
  rw [emin, s1, s2, shl_eq N s _ (by omega) hN2, Option.bind_some, shl_eq N t _ (by omega) hN2, Option.bind_some, Rn.cmp_eq N _ _ (by omega) (by omega) (by omega), Option.bind_some]
  have ec : cmpZ (s * 2 ^ (p - min p q)) (t * 2 ^ (q - min p q)) = cmpZ m n := by
    rw [← cmp_scale _ _ (min p q), Nat.mul_assoc, ← Nat.pow_add, Nat.mul_assoc, ← Nat.pow_add, Nat.sub_add_cancel (Nat.min_le_left ..), Nat.sub_add_cancel (Nat.min_le_right ..), ← mp, ← mq, cmp_mag]
  rw [ec, D_len, D_len]
  have l1 : ltI 0 (dl 65536 s : Int) = decide (m ≠ 0) := by
    have := dl_nil (b := 65536) (n := s) b16
    rw [ltI_eq]; congr 1; apply propext; omega
  have l2 : ltI 0 (dl 65536 t : Int) = decide (n ≠ 0) := by
    have := dl_nil (b := 65536) (n := t) b16
    rw [ltI_eq]; congr 1; apply propext; omega
  rw [l1, l2]
  have neg : ∀ c : Int, -1 ≤ c → c ≤ 1 → subI .i64 0 c = -c := fun c _ _ => by rw [subI_i (by omega) (by omega)]; omega
  have cr : -1 ≤ cmpZ m n ∧ cmpZ m n ≤ 1 := by unfold cmpZ; split <;> (try split) <;> omega
  rw [neg _ cr.1 cr.2]
  unfold cmpZ keyN
  by_cases c1 : m = 0 <;> by_cases c2 : n = 0 <;> by_cases c3 : 9223372036854775808 ≤ a <;> by_cases c4 : 9223372036854775808 ≤ b <;> simp [c1, c2, c3, c4] <;> (repeat' split) <;> omega
theorem cmpR_eq (hN : 300 ≤ N) (hN2 : N < 17592186044416) (a b : Int) (h0 : 0 ≤ a) (h1 : a < 18446744073709551616) (g0 : 0 ≤ b) (g1 : b < 18446744073709551616) : fn_tillerref10_Compare N a b = some (cmpN a b) := by
  unfold fn_tillerref10_Compare cmpN
  rw [nanR_eq N a h0 h1, nanR_eq N b g0 g1, noneR_eq N a b h0 h1 g0 g1]
  have fin : ∀ a : Int, 0 ≤ a → a < 18446744073709551616 → fn_tillerref03_Finite N a = some (decide (a % 9223372036854775808 < 9218868437227405312)) := by
    intro a h0 h1
    unfold fn_tillerref03_Finite
    rw [takeR_eq N a h0 h1, Option.bind_some]
    show some (ltI (clsR a) 3) = _
    congr 1
    unfold clsR eN fN
    rw [ltI_eq]
    repeat' split
    all_goals (first | (rw [decide_eq_true (by omega), decide_eq_true (by omega)]) | (rw [decide_eq_false (by omega), decide_eq_false (by omega)]))
  rw [fin a h0 h1, fin b g0 g1]
  simp only [Option.bind_some]
  by_cases n1 : nanB a = true
  · simp [n1]
  by_cases n2 : nanB b = true
  · simp [n1, n2]
  rw [Bool.not_eq_true] at n1 n2
  rw [n1, n2]
  have m1 : ¬ 9218868437227405312 < a % 9223372036854775808 := by unfold nanB at n1; simpa using n1
  have m2 : ¬ 9218868437227405312 < b % 9223372036854775808 := by unfold nanB at n2; simpa using n2
  by_cases f1 : a % 9223372036854775808 < 9218868437227405312
  · by_cases f2 : b % 9223372036854775808 < 9218868437227405312
    · rw [value_eq N hN hN2 a b h0 h1 g0 g1 f1 f2]
      simp only [f1, f2, decide_true, cond_true, cond_false, Option.bind_some, Bool.false_eq_true, or_self, if_false]
      split
      · rfl
      · split <;> rfl
    · simp only [f1, f2, decide_true, decide_false, cond_true, cond_false, eqI_eq, cond_if, decide_eq_true_eq, Bool.false_eq_true, or_self, if_false]
      unfold keyN
      repeat' split
      all_goals first | rfl | (exfalso; omega)
  · simp only [f1, decide_false, cond_false, eqI_eq, cond_if, decide_eq_true_eq, Bool.false_eq_true, or_self, if_false]
    unfold keyN
    repeat' split
    all_goals first | rfl | (exfalso; omega)
theorem absR_eq (a : Int) (h0 : 0 ≤ a) : fn_tillerref03_Abs N a = some (a % 9223372036854775808) := by
  unfold fn_tillerref03_Abs
  rw [show remI .u64 a 9223372036854775808 = a % 9223372036854775808 from rem_pos 9223372036854775808 h0]
end Go.Proofs.Ytkipjjijaphjpaa.Ordp

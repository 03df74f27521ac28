/- PROVED HERE: PatMakes' pure statement, over the functions that eng2.py printed: the pattern of any parts, or the error. No condition beyond the argument's kind. -/
import Derived.Test.YtnpcejiijhgkjaaDoorPatp
import Derived.Test.YtnpcejiijhgkjaaDoorEng14
import Derived.Test.YtnpcejiijhgkjaaDoorFnPatMakes
namespace Go.Proofs.YtnpcejiijhgkjaaDoor
open Go Eng Fns Bw Dig Patp Num
set_option linter.unusedSimpArgs false
set_option linter.unusedVariables false
theorem bnd {α β : Type} {x : Option α} {a : α} {f : α → Option β} {r : Option β} (h : x = some a) (h2 : f a = r) : x.bind f = r := by rw [h, Option.bind_some]; exact h2
theorem cnT {β : Type} {b : Bool} {x y r : β} (h : b = true) (h2 : x = r) : cond b x y = r := by rw [h]; exact h2
theorem cnF {β : Type} {b : Bool} {x y r : β} (h : b = false) (h2 : y = r) : cond b x y = r := by rw [h]; exact h2
theorem sure_eq : fn_tillerlaw03_sure 300 = some true := by kernel_rfl
theorem or_inf (f : Int) (h0 : 0 ≤ f) (h1 : f < 4503599627370496) (e : Nat) (he : e < 2048) : orI .u64 f ((e * 4503599627370496 : Nat) : Int) = f + ((e * 4503599627370496 : Nat) : Int) := by
  obtain ⟨n, rfl⟩ := Int.eq_ofNat_of_zero_le h0
  rw [orI_n (by omega) (by omega), Nat.or_comm]
  have := Nat.two_pow_add_eq_or_of_lt (i := 52) (b := n) (by omega) e
  rw [show 2 ^ 52 * e = e * 4503599627370496 by omega] at this
  rw [← this]; omega
theorem or_sign (f : Int) (h0 : 0 ≤ f) (h1 : f < 9223372036854775808) : orI .u64 f 9223372036854775808 = f + 9223372036854775808 := by
  obtain ⟨n, rfl⟩ := Int.eq_ofNat_of_zero_le h0
  rw [show (9223372036854775808 : Int) = ((2 ^ 63 : Nat) : Int) from rfl, orI_n (by omega) (by decide), Nat.or_comm]
  have := Nat.two_pow_add_eq_or_of_lt (i := 63) (b := n) (by omega) 1
  rw [Nat.mul_one] at this
  rw [← this]; omega
theorem laid_take (a : Int) (h0 : 0 ≤ a) (h1 : a < 18446744073709551616) : fn_pat_laid 300 (decide (9223372036854775808 ≤ a), clsR a, expR a, sigR a) = some a := by
  have b2 : 0 ≤ fN a ∧ fN a < 4503599627370496 := by unfold fN; omega
  have b1 : 0 ≤ eN a ∧ eN a < 2048 := by unfold eN; omega
  have hsplit : a = (if 9223372036854775808 ≤ a then 9223372036854775808 else 0) + eN a * 4503599627370496 + fN a := by unfold eN fN; split <;> omega
  have hs : andI .u64 (sigR a) 4503599627370495 = fN a := by
    have hb : 0 ≤ sigR a ∧ sigR a < 9007199254740992 := by unfold sigR; split <;> (try split) <;> omega
    have : andI .u64 (sigR a) 4503599627370495 = sigR a % 4503599627370496 := bits_mask .u64 64 (by decide) w64 52 (by decide) _ hb.1 (by omega)
    rw [this]; unfold sigR; split <;> (try split) <;> omega
  obtain ⟨e, he⟩ := Int.eq_ofNat_of_zero_le b1.1
  unfold fn_pat_laid
  simp only
  rw [hs]
  have oi := fun e he => or_inf (fN a) b2.1 b2.2 e he
  by_cases c1 : eN a = 2047
  · have hc : 3 ≤ clsR a := by unfold clsR; rw [if_pos c1]; split <;> (try split) <;> omega
    have o1 : orI .u64 (fN a) 9218868437227405312 = fN a + 9218868437227405312 := oi 2047 (by omega)
    rw [leI_t hc, cond_true, o1]
    by_cases hsg : 9223372036854775808 ≤ a
    · rw [if_pos hsg] at hsplit
      rw [decide_eq_true hsg, cond_true, or_sign _ (by omega) (by omega)]; congr 1; omega
    · rw [if_neg hsg] at hsplit
      rw [decide_eq_false hsg, cond_false]; congr 1; omega
  · by_cases c2 : eN a = 0
    · have hc : clsR a = 0 ∨ clsR a = 1 := by unfold clsR; rw [if_neg c1, if_pos c2]; split <;> simp
      rw [leI_f (by omega), cond_false, eqI_f (by omega), cond_false]
      by_cases hsg : 9223372036854775808 ≤ a
      · rw [if_pos hsg] at hsplit
        rw [decide_eq_true hsg, cond_true, or_sign _ (by omega) (by omega)]; congr 1; omega
      · rw [if_neg hsg] at hsplit
        rw [decide_eq_false hsg, cond_false]; congr 1; omega
    · have hc : clsR a = 2 := by unfold clsR; rw [if_neg c1, if_neg c2]
      have hx : expR a = eN a - 1075 := by unfold expR; rw [if_neg c1, if_neg c2]
      have e1 : addI .i64 (subI .i64 (eN a - 1075) (-1074)) 1 = eN a := by rw [subI_i (by omega) (by omega), addI_i (by omega) (by omega)]; omega
      have e2 : cvI .u64 (eN a) = eN a := cvI_u (by omega) (by omega)
      have e3 : andI .u64 (eN a) 2047 = eN a := by
        have : andI .u64 (eN a) 2047 = eN a % 2048 := bits_mask .u64 64 (by decide) w64 11 (by decide) _ b1.1 (by omega)
        rw [this]; omega
      have e4 : shlI .u64 (eN a) 52 = ((e * 4503599627370496 : Nat) : Int) := by
        rw [he, show (52 : Int) = ((52 : Nat) : Int) from rfl, shlI_n (by omega), Nat.mod_eq_of_lt (by omega)]
      rw [hc, hx, leI_f (by omega), cond_false, eqI_t rfl, cond_true, e1, e2, e3, e4, oi e (by omega)]
      by_cases hsg : 9223372036854775808 ≤ a
      · rw [if_pos hsg] at hsplit
        rw [decide_eq_true hsg, cond_true, or_sign _ (by omega) (by omega)]; congr 1; omega
      · rw [if_neg hsg] at hsplit
        rw [decide_eq_false hsg, cond_false]; congr 1; omega
/-! ### what is laid is a pattern -/
def inR (a : Int) : Prop := 0 ≤ a ∧ a < 18446744073709551616
theorem or_in {a b : Int} (ha : inR a) (hb : inR b) : inR (orI .u64 a b) := by
  obtain ⟨m, rfl⟩ := Int.eq_ofNat_of_zero_le ha.1
  obtain ⟨n, rfl⟩ := Int.eq_ofNat_of_zero_le hb.1
  have h1 : m < 2 ^ 64 := by have := ha.2; omega
  have h2 : n < 2 ^ 64 := by have := hb.2; omega
  rw [orI_n h1 h2]
  have := Nat.or_lt_two_pow h1 h2
  unfold inR; omega
theorem and_in {a b : Int} (ha : inR a) (hb : inR b) : inR (andI .u64 a b) := by
  obtain ⟨m, rfl⟩ := Int.eq_ofNat_of_zero_le ha.1
  obtain ⟨n, rfl⟩ := Int.eq_ofNat_of_zero_le hb.1
  have h1 : m < 2 ^ 64 := by have := ha.2; omega
  have h2 : n < 2 ^ 64 := by have := hb.2; omega
  rw [andI_n h1 h2]
  have := Nat.and_lt_two_pow m h2
  unfold inR; omega
theorem cv_in (a : Int) : inR (cvI .u64 a) := by unfold inR cvI; rw [wrap_u64]; omega
theorem shl_in (a b : Int) : inR (shlI .u64 a b) := by unfold inR shlI; rw [wrap_u64]; omega
theorem lit_in (n : Nat) (h : n < 18446744073709551616) : inR (n : Int) := by unfold inR; omega
theorem laid_in (x : Bool × Int × Int × Int) (hs : inR x.2.2.2) : ∃ p, fn_pat_laid 300 x = some p ∧ inR p := by
  have h1 := and_in hs (lit_in 4503599627370495 (by omega))
  have h2 := or_in h1 (lit_in 9218868437227405312 (by omega))
  have h3 := or_in h1 (shl_in (andI .u64 (cvI .u64 (addI .i64 (subI .i64 x.2.2.1 (-1074)) 1)) 2047) 52)
  have sg := lit_in 9223372036854775808 (by omega)
  unfold fn_pat_laid
  simp only [cond_if]
  split
  · split
    · exact ⟨_, rfl, or_in h2 sg⟩
    · exact ⟨_, rfl, h2⟩
  · split
    · split
      · exact ⟨_, rfl, or_in h3 sg⟩
      · exact ⟨_, rfl, h3⟩
    · split
      · exact ⟨_, rfl, or_in h1 sg⟩
      · exact ⟨_, rfl, h1⟩
/-! ### the document's answer -/
def sg (m : Bool) : Int := if m = true then 9223372036854775808 else 0
def q5 (m : Bool) (c e s : Int) : Int × Int := if c = 5 ∧ e = 0 ∧ 0 < s ∧ s < 2251799813685248 then (9218868437227405312 + s + sg m, 0) else (0, 1)
def q4 (m : Bool) (c e s : Int) : Int × Int := if c = 4 ∧ e = 0 ∧ 2251799813685248 ≤ s ∧ s < 4503599627370496 then (9218868437227405312 + s + sg m, 0) else q5 m c e s
def q3 (m : Bool) (c e s : Int) : Int × Int := if c = 3 ∧ e = 0 ∧ s = 0 then (9218868437227405312 + s + sg m, 0) else q4 m c e s
def q2 (m : Bool) (c e s : Int) : Int × Int := if c = 2 ∧ -1074 ≤ e ∧ e ≤ 971 ∧ 4503599627370496 ≤ s ∧ s < 9007199254740992 then ((e + 1075) * 4503599627370496 + s - 4503599627370496 + sg m, 0) else q3 m c e s
def q1 (m : Bool) (c e s : Int) : Int × Int := if c = 1 ∧ e = -1074 ∧ 0 < s ∧ s < 4503599627370496 then (s + sg m, 0) else q2 m c e s
def q0 (m : Bool) (c e s : Int) : Int × Int := if c = 0 ∧ e = -1074 ∧ s = 0 then (sg m, 0) else q1 m c e s
theorem m11_eq (N : Nat) (m : Bool) (c e s : Int) (h0 : 0 ≤ s) (h1 : s < 4503599627370496) : m12_11 N (m, c, e, s) = some (9218868437227405312 + s + sg m, 0) := by
  unfold m12_11 sg
  simp only
  rw [addI_u (a := 9218868437227405312) (b := s) (by omega) (by omega), addI_u (by omega) (by omega)]
  cases m <;> simp
theorem m18_eq (N : Nat) (m : Bool) (c e s : Int) : m12_18 N (m, c, e, s) = some (q5 m c e s) := by
  unfold m12_18 q5
  simp only [cond_if, eqI_eq, leI_eq, ltI_eq, decide_eq_true_eq]
  by_cases h : c = 5 ∧ e = 0 ∧ 0 < s ∧ s < 2251799813685248
  · rw [if_pos h, if_pos h.1, if_pos h.2.1, if_pos h.2.2.1, if_pos h.2.2.2, m11_eq N m c e s (by omega) (by omega)]
  · rw [if_neg h]
    repeat' split
    all_goals first | rfl | (exfalso; apply h; refine ⟨?_, ?_, ?_, ?_⟩ <;> assumption)
theorem m22_eq (N : Nat) (m : Bool) (c e s : Int) : m12_22 N (m, c, e, s) = some (q4 m c e s) := by
  unfold m12_22 q4
  simp only [cond_if, eqI_eq, leI_eq, ltI_eq, decide_eq_true_eq]
  by_cases h : c = 4 ∧ e = 0 ∧ 2251799813685248 ≤ s ∧ s < 4503599627370496
  · rw [if_pos h, if_pos h.1, if_pos h.2.1, if_pos h.2.2.1, if_pos h.2.2.2, if_pos h.2.2.2, m11_eq N m c e s (by omega) (by omega)]
  · rw [if_neg h]
    repeat' split
    all_goals first | exact m18_eq .. | (exfalso; apply h; refine ⟨?_, ?_, ?_, ?_⟩ <;> assumption)
theorem m25_eq (N : Nat) (m : Bool) (c e s : Int) : m12_25 N (m, c, e, s) = some (q3 m c e s) := by
  unfold m12_25 q3
  simp only [cond_if, eqI_eq, leI_eq, ltI_eq, decide_eq_true_eq]
  by_cases h : c = 3 ∧ e = 0 ∧ s = 0
  · rw [if_pos h, if_pos h.1, if_pos h.2.1, if_pos h.2.2, if_pos h.2.2, m11_eq N m c e s (by omega) (by omega)]
  · rw [if_neg h]
    repeat' split
    all_goals first | exact m22_eq .. | (exfalso; apply h; refine ⟨?_, ?_, ?_⟩ <;> assumption)
theorem m30_eq (N : Nat) (m : Bool) (c e s : Int) : m12_30 N (m, c, e, s) = some (q2 m c e s) := by
  unfold m12_30 q2
  simp only [cond_if, eqI_eq, leI_eq, ltI_eq, decide_eq_true_eq]
  by_cases h : c = 2 ∧ -1074 ≤ e ∧ e ≤ 971 ∧ 4503599627370496 ≤ s ∧ s < 9007199254740992
  · rw [if_pos h, if_pos h.1, if_pos h.2.1, if_pos h.2.2.1, if_pos h.2.2.2.1, if_pos h.2.2.2.2]
    obtain ⟨_, h1, h2, h3, h4⟩ := h
    rw [addI_i (a := e) (b := 1075) (by omega) (by omega), cvI_u (by omega) (by omega), mulI_u (a := e + 1075) (b := 4503599627370496) (by omega) (by omega), addI_u (a := (e + 1075) * 4503599627370496) (b := s) (by omega) (by omega), subI_u (by omega) (by omega), addI_u (by omega) (by omega)]
    unfold sg
    cases m <;> simp
  · rw [if_neg h]
    repeat' split
    all_goals first | exact m25_eq .. | (exfalso; apply h; refine ⟨?_, ?_, ?_, ?_, ?_⟩ <;> assumption)
theorem m34_eq (N : Nat) (m : Bool) (c e s : Int) : m12_34 N (m, c, e, s) = some (q1 m c e s) := by
  unfold m12_34 q1
  simp only [cond_if, eqI_eq, leI_eq, ltI_eq, decide_eq_true_eq]
  by_cases h : c = 1 ∧ e = -1074 ∧ 0 < s ∧ s < 4503599627370496
  · rw [if_pos h, if_pos h.1, if_pos h.2.1, if_pos h.2.2.1, if_pos h.2.2.2, addI_u (by omega) (by omega)]
    unfold sg
    cases m <;> simp
  · rw [if_neg h]
    repeat' split
    all_goals first | exact m30_eq .. | (exfalso; apply h; refine ⟨?_, ?_, ?_, ?_⟩ <;> assumption)
theorem make_eq (N : Nat) (m : Bool) (c e s : Int) : fn_tillerref03_Make N (m, c, e, s) = some (q0 m c e s) := by
  unfold fn_tillerref03_Make q0
  simp only [cond_if, eqI_eq, leI_eq, ltI_eq, decide_eq_true_eq]
  by_cases h : c = 0 ∧ e = -1074 ∧ s = 0
  · rw [if_pos h, if_pos h.1, if_pos h.2.1, if_pos h.2.2]
    unfold sg
    cases m <;> rfl
  · rw [if_neg h]
    repeat' split
    all_goals first | exact m34_eq .. | (exfalso; apply h; refine ⟨?_, ?_, ?_⟩ <;> assumption)
/-- a pattern's own parts make it -/
theorem q_take (a : Int) (h0 : 0 ≤ a) (h1 : a < 18446744073709551616) : q0 (decide (9223372036854775808 ≤ a)) (clsR a) (expR a) (sigR a) = (a, 0) := by
  have b2 : 0 ≤ fN a ∧ fN a < 4503599627370496 := by unfold fN; omega
  have b1 : 0 ≤ eN a ∧ eN a < 2048 := by unfold eN; omega
  have hsplit : a = sg (decide (9223372036854775808 ≤ a)) + eN a * 4503599627370496 + fN a := by
    unfold eN fN sg
    by_cases h : 9223372036854775808 ≤ a
    · rw [decide_eq_true h, if_pos rfl]; omega
    · rw [decide_eq_false h, if_neg (by simp)]; omega
  generalize decide (9223372036854775808 ≤ a) = m at *
  unfold clsR expR sigR
  generalize eN a = e at *
  generalize fN a = f at *
  by_cases c1 : e = 2047
  · simp only [if_pos c1]
    by_cases c3 : 2251799813685248 ≤ f
    · rw [if_pos c3]
      unfold q0 q1 q2 q3 q4
      rw [if_neg (by omega), if_neg (by omega), if_neg (by omega), if_neg (by omega), if_pos (by omega)]
      exact Prod.ext (by simp only; omega) rfl
    · rw [if_neg c3]
      by_cases c4 : 0 < f
      · rw [if_pos c4]
        unfold q0 q1 q2 q3 q4 q5
        rw [if_neg (by omega), if_neg (by omega), if_neg (by omega), if_neg (by omega), if_neg (by omega), if_pos (by omega)]
        exact Prod.ext (by simp only; omega) rfl
      · rw [if_neg c4]
        unfold q0 q1 q2 q3
        rw [if_neg (by omega), if_neg (by omega), if_neg (by omega), if_pos (by omega)]
        exact Prod.ext (by simp only; omega) rfl
  · simp only [if_neg c1]
    by_cases c2 : e = 0
    · simp only [if_pos c2]
      by_cases c4 : 0 < f
      · rw [if_pos c4]
        unfold q0 q1
        rw [if_neg (by omega), if_pos (by omega)]
        exact Prod.ext (by simp only; omega) rfl
      · rw [if_neg c4]
        unfold q0
        rw [if_pos (by omega)]
        exact Prod.ext (by simp only; omega) rfl
    · simp only [if_neg c2]
      unfold q0 q1 q2
      rw [if_neg (by omega), if_neg (by omega), if_pos (by omega)]
      exact Prod.ext (by simp only; omega) rfl
theorem tk (m : Bool) (E F q : Int) (hE : 0 ≤ E ∧ E < 2048) (hF : 0 ≤ F ∧ F < 4503599627370496) (hq : q = E * 4503599627370496 + F + sg m) : inR q ∧ decide (9223372036854775808 ≤ q) = m ∧ eN q = E ∧ fN q = F := by
  unfold sg at hq
  unfold inR eN fN
  cases m
  · rw [if_neg (by simp)] at hq
    exact ⟨by omega, decide_eq_false (by omega), by omega, by omega⟩
  · rw [if_pos rfl] at hq
    exact ⟨by omega, decide_eq_true (by omega), by omega, by omega⟩
/-- parts that make a pattern are its own -/
theorem q_back (m : Bool) (c e s q k : Int) (hs : inR s) (h : q0 m c e s = (q, k)) : (k = 0 ∧ inR q ∧ (m, c, e, s) = (decide (9223372036854775808 ≤ q), clsR q, expR q, sigR q)) ∨ (k = 1 ∧ q = 0) := by
  have fin : ∀ (E F : Int), 0 ≤ E ∧ E < 2048 → 0 ≤ F ∧ F < 4503599627370496 → q = E * 4503599627370496 + F + sg m → k = 0 →
      c = (if E = 2047 then (if 2251799813685248 ≤ F then 4 else if 0 < F then 5 else 3) else if E = 0 then (if 0 < F then 1 else 0) else 2) → e = (if E = 2047 then 0 else if E = 0 then -1074 else E - 1075) →
      s = (if E = 2047 then F else if E = 0 then F else F + 4503599627370496) → (k = 0 ∧ inR q ∧ (m, c, e, s) = (decide (9223372036854775808 ≤ q), clsR q, expR q, sigR q)) ∨ (k = 1 ∧ q = 0) := by
    intro E F hE hF hq hk hc he hs
    obtain ⟨h1, h2, h3, h4⟩ := tk m E F q hE hF hq
    refine .inl ⟨hk, h1, ?_⟩
    unfold clsR expR sigR
    rw [h2, h3, h4, ← hc, ← he, ← hs]
  unfold q0 at h
  split at h
  · rename_i hc
    injection h with h3 h4
    exact fin 0 0 (by omega) (by omega) (by omega) h4.symm (by simp; omega) (by simp; omega) (by simp; omega)
  unfold q1 at h
  split at h
  · rename_i hc
    injection h with h3 h4
    exact fin 0 s (by omega) (by omega) (by omega) h4.symm (by simp; rw [if_pos (by omega)]; omega) (by simp; omega) (by simp)
  unfold q2 at h
  split at h
  · rename_i hc
    injection h with h3 h4
    refine fin (e + 1075) (s - 4503599627370496) (by omega) (by omega) (by omega) h4.symm ?_ ?_ ?_
    · rw [if_neg (by omega), if_neg (by omega)]; omega
    · rw [if_neg (by omega), if_neg (by omega)]; omega
    · rw [if_neg (by omega), if_neg (by omega)]; omega
  unfold q3 at h
  split at h
  · rename_i hc
    injection h with h3 h4
    refine fin 2047 s (by omega) (by omega) (by omega) h4.symm ?_ ?_ ?_
    · rw [if_pos rfl, if_neg (by omega), if_neg (by omega)]; omega
    · rw [if_pos rfl]; omega
    · rw [if_pos rfl]
  unfold q4 at h
  split at h
  · rename_i hc
    injection h with h3 h4
    refine fin 2047 s (by omega) (by omega) (by omega) h4.symm ?_ ?_ ?_
    · rw [if_pos rfl, if_pos (by omega)]; omega
    · rw [if_pos rfl]; omega
    · rw [if_pos rfl]
  unfold q5 at h
  split at h
  · rename_i hc
    injection h with h3 h4
    refine fin 2047 s (by omega) (by omega) (by omega) h4.symm ?_ ?_ ?_
    · rw [if_pos rfl, if_neg (by omega), if_pos (by omega)]; omega
    · rw [if_pos rfl]; omega
    · rw [if_pos rfl]
  · injection h with h3 h4
    exact .inr ⟨h4.symm, h3.symm⟩
theorem num_eq (N : Nat) (x : Option Int) : fn_num N x = some (x.getD 0) := rfl
theorem same_iff (c x : Bool × Int × Int × Int) : ((eqB c.1 x.1) && ((eqI c.2.1 x.2.1) && ((eqI c.2.2.1 x.2.2.1) && ((eqI c.2.2.2 x.2.2.2) && true)))) = true ↔ c = x := by
  obtain ⟨c1, c2, c3, c4⟩ := c
  obtain ⟨x1, x2, x3, x4⟩ := x
  simp [eqB_eq, eqI_eq]
theorem pure_PatMakes : ∀ (a0 : (Bool × Int × Int × Int)), okP a0 → ∃ N, fn_tillerlaw03_PatMakes N a0 = some true := by
  intro x hx
  obtain ⟨m, c, e, s⟩ := x
  have hs : inR s := u64_in hx.2.2
  refine ⟨300, ?_⟩
  obtain ⟨q, k, hq⟩ : ∃ q k, q0 m c e s = (q, k) := ⟨_, _, rfl⟩
  have k2 := make_eq 300 m c e s
  rw [hq] at k2
  have k1 : ∃ r, fn_pat_Make 300 (m, c, e, s) = some r ∧ r.1 = q ∧ r.2.getD 0 = k := by
    rcases q_back m c e s q k hs hq with ⟨hk, hin, ht⟩ | ⟨hk, hq0⟩
    · refine ⟨(q, none), ?_, rfl, hk.symm⟩
      have l := laid_take q hin.1 hin.2
      have t := takeP_eq 300 q hin.1 hin.2
      rw [ht]
      unfold fn_pat_Make
      exact bnd l (bnd t (cnF (by rw [(same_iff _ _).2 rfl]; rfl) rfl))
    · obtain ⟨p, hp, hpin⟩ := laid_in (m, c, e, s) hs
      have t := takeP_eq 300 p hpin.1 hpin.2
      refine ⟨(0, some 1), ?_, hq0.symm, hk.symm⟩
      unfold fn_pat_Make
      refine bnd hp (bnd t (cnT ?_ rfl))
      have hne : ¬ ((decide (9223372036854775808 ≤ p), clsR p, expR p, sigR p) : Bool × Int × Int × Int) = (m, c, e, s) := by
        intro he
        injection he with e1 he
        injection he with e2 he
        injection he with e3 e4
        have := q_take p hpin.1 hpin.2
        rw [e1, e2, e3, e4, hq] at this
        injection this with _ h2
        rw [hk] at h2
        cases h2
      cases hb : ((eqB (decide (9223372036854775808 ≤ p)) m) && ((eqI (clsR p) c) && ((eqI (expR p) e) && ((eqI (sigR p) s) && true)))) with
      | false => rfl
      | true => exact absurd ((same_iff (decide (9223372036854775808 ≤ p), clsR p, expR p, sigR p) (m, c, e, s)).1 hb) hne
  obtain ⟨r, k1, r1, r2⟩ := k1
  unfold fn_tillerlaw03_PatMakes
  exact bnd k1 (bnd k2 (cnT (eqI_t r1) (bnd (num_eq 300 r.2) (cnT (eqI_t r2) (bnd sure_eq rfl)))))
end Go.Proofs.YtnpcejiijhgkjaaDoor

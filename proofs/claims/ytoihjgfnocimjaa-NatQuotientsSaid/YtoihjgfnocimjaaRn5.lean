/- PLAIN FACTS on the reference's numbers of chapter 2 (parts of 16 bits): Parts (quotient and rest). No statement is proved here. -/
import Derived.Test.YtoihjgfnocimjaaRn4
namespace Go.Proofs.Ytoihjgfnocimjaa.Rn
open Go Go.RowKit Go.Proofs.Ytoihjgfnocimjaa.Eng Go.Proofs.Ytoihjgfnocimjaa.Fns Go.Proofs.Ytoihjgfnocimjaa.Bw Go.Proofs.Ytoihjgfnocimjaa.Dig
set_option linter.unusedVariables false
set_option linter.unusedSimpArgs false
theorem at_neg (N : Nat) (xs : List Int) (i : Int) (h : i < 0) : fn_tillerref02_at N xs i = some 0 := by
  unfold fn_tillerref02_at; rw [leI_f (by omega), cond_false]
theorem shlU (a s : Nat) (hs : s ≤ 64) (h : a * 2 ^ s < 18446744073709551616) : shlI .u64 (a : Int) (s : Int) = ((a * 2 ^ s : Nat) : Int) := by
  rw [shlI_n hs, Nat.mod_eq_of_lt h]
/-- a digit put ahead -/
theorem front_eq (N a r : Nat) (ha : a < 65536) (hN : dl 65536 r + 2 < N) (hN2 : N < 17592186044416) : fn_tillerref02_trim N ([(a : Int)] ++ X r) = some (X (a + 65536 * r)) := by
  have h := T_append (b := 65536) (by decide) 1 (dl 65536 r) a r (by simpa using ha)
  have e : T 65536 1 a = [(a : Int)] := by simp [T, List.range, List.range.loop]; omega
  rw [e, Nat.pow_one] at h
  have hr := dl_lt b16 r
  rw [show X r = T 65536 (dl 65536 r) r from rfl, h, trim_eq N _ _ (by omega) (by omega), Nat.mod_eq_of_lt]
  rw [Nat.add_comm 1, Nat.pow_succ]; omega
theorem cmpZ_pos (a b : Nat) : ltI 0 (cmpZ a b) = decide (b < a) := by
  unfold cmpZ; rw [ltI_eq, decide_eq_decide]; split <;> (try split) <;> omega
theorem cmpZ_neg (a b : Nat) : ltI (cmpZ a b) 0 = decide (a < b) := by
  unfold cmpZ; rw [ltI_eq, decide_eq_decide]; split <;> (try split) <;> omega
theorem parts_in (N m n R q s i L Q : Nat) (v3 : Int) (hRq : n * q + s = R) (hs : s < n) (hi : i < L) (hL : L < 4611686018427387904) (hR : R < 65536 * n) (hdn : dl 65536 n + 5 < N) (hN2 : N < 17592186044416)
    (E : List Int → List Int → List Int → Int → Int → List Int → Option (List Int × List Int)) : ∀ (d f : Nat), q + d ≤ 65535 → d < f →
    l14_1 N E f (X m) (X n) (X R) v3 (i : Int) ((q + d : Nat) : Int) (X (n * (q + d))) (T 65536 L Q) =
      E (X m) (X n) (X s) v3 (subI .i64 (i : Int) 1) (T 65536 L (Q % 65536 ^ i + 65536 ^ i * q + 65536 ^ (i + 1) * (Q / 65536 ^ (i + 1)))) := by
  have hnl := dl_lt b16 n
  have big : ∀ x, x ≤ 65536 * n → dl 65536 x ≤ dl 65536 n + 2 := by
    intro x hx
    have : dl 65536 x ≤ dl 65536 n + 1 + 1 := dl_le b16 (by rw [Nat.pow_succ, Nat.pow_succ]; omega)
    omega
  have dR := big R (by omega)
  intro d
  induction d with
  | zero =>
    intro f hq hf
    obtain ⟨f, rfl⟩ : ∃ n', f = n' + 1 := ⟨f - 1, by omega⟩
    rw [Nat.add_zero] at *
    show s14_1 N _ _ _ _ _ _ _ _ _ _ = _
    unfold s14_1
    simp only [Nat.add_zero]
    have dp := big (n * q) (by omega)
    rw [cmp_eq N _ _ (by omega) (by omega) (by omega), Option.bind_some, cmpZ_pos, decide_eq_false (by omega), cond_false, sub_eq N _ _ (by omega) (by omega) hN2, Option.bind_some, leI_t (by omega), cond_true, T_len, ltI_t (by omega), cond_true, Int.toNat_natCast, cvN (by simp only [lim]; omega), T_set b16 hi (by omega)]
    rw [show R - n * q = s by omega]
  | succ d ih =>
    intro f hq hf
    obtain ⟨f, rfl⟩ : ∃ n', f = n' + 1 := ⟨f - 1, by omega⟩
    show s14_1 N (l14_1 N E f) E _ _ _ _ _ _ _ _ = _
    unfold s14_1
    have hle : n * (q + (d + 1)) ≤ 65536 * n := by rw [Nat.mul_comm 65536]; exact Nat.mul_le_mul_left _ (by omega)
    have e1 : n * (q + (d + 1)) = n * (q + d) + n := by rw [← Nat.add_assoc, Nat.mul_add, Nat.mul_one]
    have e2 : n * (q + d) = n * q + n * d := Nat.mul_add ..
    have h3 := big _ hle
    rw [cmp_eq N _ _ (by omega) (by omega) (by omega), Option.bind_some, cmpZ_pos, decide_eq_true (by omega), cond_true, sub_eq N _ _ (by omega) (by omega) hN2, Option.bind_some]
    have e3 : n * (q + (d + 1)) - n = n * (q + d) := by omega
    have e4 : subI .u64 ((q + (d + 1) : Nat) : Int) 1 = ((q + d : Nat) : Int) := by
      have := subN (k := .u64) (a := q + (d + 1)) (b := 1) (by omega) (by simp only [lim]; omega)
      rw [show ((1 : Nat) : Int) = 1 from rfl] at this
      rw [this]; congr 1
    rw [e3, e4]
    exact ih f (by omega) (by omega)
theorem guess_ge (R n P : Nat) (hn : 0 < n / P) (hP : 0 < P) : R / n ≤ R / P / (n / P) := by
  rw [Nat.le_div_iff_mul_le hn, Nat.le_div_iff_mul_le hP, Nat.mul_assoc]
  exact Nat.le_trans (Nat.mul_le_mul_left _ (Nat.div_mul_le_self n P)) (Nat.div_mul_le_self R n)
theorem parts_out (N m n : Nat) (hn : 0 < n) (hdn : dl 65536 n + 8 < N) (hdm : dl 65536 m + 8 < N) (hN1 : 65540 < N) (hN2 : N < 17592186044416) : ∀ (j f : Nat), j ≤ dl 65536 m → j < f →
    l14_0 N f (X m) (X n) (X (m / 65536 ^ j % n)) (dl 65536 n : Int) ((j : Int) - 1) (T 65536 (dl 65536 m) (m / 65536 ^ j / n * 65536 ^ j)) = some (X (m / n), X (m % n)) := by
  have hml := dl_lt b16 m
  have hnl := dl_lt b16 n
  obtain ⟨l, hl⟩ : ∃ l, dl 65536 n = l + 1 := ⟨dl 65536 n - 1, by have := dl_nil (b := 65536) (n := n) b16; omega⟩
  have hnb : 65536 ^ l ≤ n := by have := ((dl_spec b16 n).2 hn).1; rwa [hl, Nat.add_sub_cancel] at this
  intro j
  induction j with
  | zero =>
    intro f hj hf
    obtain ⟨f, rfl⟩ : ∃ n', f = n' + 1 := ⟨f - 1, by omega⟩
    show s14_0 N _ _ _ _ _ _ _ _ = _
    unfold s14_0
    rw [leI_f (by omega), cond_false, trim_eq N _ _ (by omega) (by omega), Option.bind_some, Nat.pow_zero, Nat.div_one, Nat.mul_one, Nat.mod_eq_of_lt (Nat.lt_of_le_of_lt (Nat.div_le_self _ _) hml)]
  | succ i ih =>
    intro f hj hf
    obtain ⟨f, rfl⟩ : ∃ n', f = n' + 1 := ⟨f - 1, by omega⟩
    have ih := ih f (by omega) (by omega)
    show s14_0 N (l14_0 N f) (l14_1 N (l14_0 N f) N) _ _ _ _ _ _ = _
    unfold s14_0
    have e0 : ((i + 1 : Nat) : Int) - 1 = (i : Int) := by omega
    have e1 : subI .i64 (i : Int) 1 = (i : Int) - 1 := subI_i (by omega) (by omega)
    have hr : m / 65536 ^ (i + 1) % n < n := Nat.mod_lt _ hn
    have hdr : dl 65536 (m / 65536 ^ (i + 1) % n) ≤ l + 1 := dl_le b16 (by rw [← hl]; omega)
    have ha : m / 65536 ^ i % 65536 < 65536 := Nat.mod_lt _ (by decide)
    have hM : m / 65536 ^ i = 65536 * (m / 65536 ^ (i + 1)) + m / 65536 ^ i % 65536 := by
      rw [Nat.pow_succ, ← Nat.div_div_eq_div_mul]; exact (Nat.div_add_mod _ _).symm
    have hMn := Nat.div_add_mod (m / 65536 ^ (i + 1)) n
    rw [e0, e1, leI_t (by omega), cond_true, cond_true, D_len, ltI_t (by omega), cond_true, lrd_D b16, D_len, fit_t (by simp; omega), cond_true, front_eq N _ _ ha (by omega) hN2, Option.bind_some]
    -- the rest so far, with a digit more
    generalize hR : m / 65536 ^ i % 65536 + 65536 * (m / 65536 ^ (i + 1) % n) = R at *
    have hRn : R < 65536 * n := by omega
    have hRb : R < 65536 ^ (l + 2) := by
      rw [hl] at hnl
      rw [Nat.pow_succ]; omega
    have hdR : dl 65536 R ≤ l + 2 := dl_le b16 hRb
    have hMR : m / 65536 ^ i = R + n * (65536 * (m / 65536 ^ (i + 1) / n)) := by
      have e5 : n * (65536 * (m / 65536 ^ (i + 1) / n)) = 65536 * (n * (m / 65536 ^ (i + 1) / n)) := by rw [← Nat.mul_assoc, Nat.mul_comm n, Nat.mul_assoc]
      rw [e5]; omega
    have hmod : m / 65536 ^ i % n = R % n := by rw [hMR, Nat.add_mul_mod_self_left]
    have hdiv : m / 65536 ^ i / n = R / n + 65536 * (m / 65536 ^ (i + 1) / n) := by rw [hMR, Nat.add_mul_div_left _ _ hn]
    rw [cmp_eq N R n (by omega) (by omega) (by omega), Option.bind_some, cmpZ_neg]
    by_cases hlt : R < n
    · rw [decide_eq_true hlt, cond_true]
      rw [hmod, Nat.mod_eq_of_lt hlt, hdiv, Nat.div_eq_of_lt hlt, Nat.zero_add] at ih
      have e6 : m / 65536 ^ (i + 1) / n * 65536 ^ (i + 1) = 65536 * (m / 65536 ^ (i + 1) / n) * 65536 ^ i := by
        rw [Nat.pow_succ (n := 65536) (m := i), Nat.mul_comm (65536 ^ i) 65536, ← Nat.mul_assoc, Nat.mul_comm _ 65536]
      rw [e6]
      exact ih
    · rw [decide_eq_false hlt, cond_false]
      -- the guess
      have hq : R / n < 65536 := by rw [Nat.div_lt_iff_lt_mul hn]; exact hRn
      have fin : ∀ g0 : Nat, R / n ≤ g0 → (fn_tillerref02_Small N (X n) (cvI .u32 (minI (g0 : Int) 65535)) 0).bind (fun r7 =>
          l14_1 N (l14_0 N f) N (X m) (X n) (X R) ((l + 1 : Nat) : Int) (i : Int) (minI (g0 : Int) 65535) r7 (T 65536 (dl 65536 m) (m / 65536 ^ (i + 1) / n * 65536 ^ (i + 1)))) = some (X (m / n), X (m % n)) := by
        intro g0 hg
        obtain ⟨d, hd⟩ : ∃ d, min g0 65535 = R / n + d := ⟨min g0 65535 - R / n, (Nat.add_sub_cancel' (Nat.le_min.2 ⟨hg, Nat.le_of_lt_succ hq⟩)).symm⟩
        have hd2 : R / n + d ≤ 65535 := hd ▸ Nat.min_le_right _ _
        have hd3 : d < N := Nat.lt_of_le_of_lt (Nat.le_trans (Nat.le_add_left d (R / n)) hd2) (by omega)
        have em : minI (g0 : Int) 65535 = ((R / n + d : Nat) : Int) := by
          rw [show (65535 : Int) = ((65535 : Nat) : Int) from rfl, minN, hd]
        have hs := small_eq N n (R / n + d) 0 (Nat.lt_of_le_of_lt hd2 (by omega)) (by omega) (by omega) hN2
        rw [em, cvN (Nat.lt_of_le_of_lt hd2 (by simp only [lim]; omega))]
        rw [show ((0 : Nat) : Int) = 0 from rfl, Nat.add_zero] at hs
        rw [hs, Option.bind_some, parts_in N m n R (R / n) (R % n) i (dl 65536 m) _ _ (Nat.div_add_mod R n) (Nat.mod_lt R hn) (by omega) (by omega) hRn (by omega) hN2 _ d N hd2 hd3, e1]
        have e7 : m / 65536 ^ (i + 1) / n * 65536 ^ (i + 1) % 65536 ^ i = 0 := by
          rw [Nat.pow_succ, Nat.mul_comm (65536 ^ i), ← Nat.mul_assoc]; exact Nat.mul_mod_left ..
        have e8 : m / 65536 ^ (i + 1) / n * 65536 ^ (i + 1) / 65536 ^ (i + 1) = m / 65536 ^ (i + 1) / n := Nat.mul_div_cancel _ (p16 _)
        have e9 : 0 + 65536 ^ i * (R / n) + 65536 ^ (i + 1) * (m / 65536 ^ (i + 1) / n) = m / 65536 ^ i / n * 65536 ^ i := by
          rw [hdiv, Nat.zero_add, Nat.pow_succ (n := 65536) (m := i), Nat.mul_comm _ (65536 ^ i), Nat.mul_add, Nat.mul_assoc]
        rw [e7, e8, e9, ← hmod, ← hl]
        exact ih
      rw [hl]
      have ea : subI .i64 ((l + 1 : Nat) : Int) 1 = (l : Int) := predI l (by omega)
      rw [at_eq, ea, at_eq, leI_t (show (0 : Int) ≤ (l : Int) by omega), D_len, hl, ltI_t (show (l : Int) < ((l + 1 : Nat) : Int) by omega), lrd_D b16]
      simp only [Option.bind_some, cond_true]
      have r1 : R / 65536 ^ (l + 1) % 65536 < 65536 := Nat.mod_lt _ (by decide)
      have r2 : R / 65536 ^ l % 65536 < 65536 := Nat.mod_lt _ (by decide)
      have r3 : n / 65536 ^ l % 65536 < 65536 := Nat.mod_lt _ (by decide)
      have hR3 : R / 65536 ^ (l + 1) % 65536 = R / 65536 ^ (l + 1) := Nat.mod_eq_of_lt (by rw [Nat.div_lt_iff_lt_mul (p16 _), Nat.mul_comm, ← Nat.pow_succ]; exact hRb)
      have hn3 : n / 65536 ^ l % 65536 = n / 65536 ^ l := Nat.mod_eq_of_lt (by rw [Nat.div_lt_iff_lt_mul (p16 _), Nat.mul_comm, ← Nat.pow_succ, Nat.succ_eq_add_one, ← hl]; exact hnl)
      have hn4 : 0 < n / 65536 ^ l := Nat.div_pos hnb (p16 _)
      have c1 : shlI .u64 (cvI .u64 ((R / 65536 ^ (l + 1) % 65536 : Nat) : Int)) 32 = ((R / 65536 ^ (l + 1) % 65536 * 4294967296 : Nat) : Int) := by
        rw [cvN (by simp only [lim]; omega)]; exact shlU _ 32 (by omega) (by omega)
      have c2 : shlI .u64 (cvI .u64 ((R / 65536 ^ l % 65536 : Nat) : Int)) 16 = ((R / 65536 ^ l % 65536 * 65536 : Nat) : Int) := by
        rw [cvN (by simp only [lim]; omega)]; exact shlU _ 16 (by omega) (by omega)
      have c3 : shlI .u64 (cvI .u64 ((n / 65536 ^ l % 65536 : Nat) : Int)) 16 = ((n / 65536 ^ l % 65536 * 65536 : Nat) : Int) := by
        rw [cvN (by simp only [lim]; omega)]; exact shlU _ 16 (by omega) (by omega)
      rw [c1, c2, c3]
      rw [hR3] at r1 ⊢
      rw [hn3] at r3 ⊢
      have hl1 : R / 65536 ^ l = 65536 * (R / 65536 ^ (l + 1)) + R / 65536 ^ l % 65536 := by
        rw [Nat.pow_succ, ← Nat.div_div_eq_div_mul]; exact (Nat.div_add_mod _ _).symm
      have r2' := r2
      rcases l with _ | l
      · have eb : subI .i64 ((0 + 1 : Nat) : Int) 2 = -1 := rfl
        rw [eb, at_neg N _ _ (by omega), at_neg N _ _ (by omega)]
        simp only [Option.bind_some]
        have ez : cvI .u64 0 = ((0 : Nat) : Int) := rfl
        rw [ez]
        generalize R / 65536 ^ (0 + 1) = A at *
        generalize hB : R / 65536 ^ 0 % 65536 = B at *
        generalize hC : n / 65536 ^ 0 = C at *
        rw [addN (by simp only [lim]; omega), addN (by simp only [lim]; omega), addN (by simp only [lim]; omega), eqI_f (by omega), cond_false, quoN (by simp only [lim]; omega)]
        refine fin _ ?_
        rw [Nat.pow_zero, Nat.div_one] at hl1
        rw [Nat.pow_zero, Nat.div_one] at hC
        subst hC
        rw [show A * 4294967296 + B * 65536 + 0 = R * 65536 by omega, Nat.add_zero, Nat.mul_div_mul_right _ _ (by decide)]
        exact Nat.le_refl _
      · have eb : subI .i64 ((l + 1 + 1 : Nat) : Int) 2 = (l : Int) := by
          have := subN (k := .i64) (a := l + 1 + 1) (b := 2) (by omega) (by simp only [lim]; omega)
          rw [show ((2 : Nat) : Int) = 2 from rfl] at this
          rw [this]; congr 1
        rw [eb, at_eq, at_eq]
        simp only [Option.bind_some]
        have r4 : R / 65536 ^ l % 65536 < 65536 := Nat.mod_lt _ (by decide)
        have r5 : n / 65536 ^ l % 65536 < 65536 := Nat.mod_lt _ (by decide)
        have hl2 : R / 65536 ^ l = 65536 * (R / 65536 ^ (l + 1)) + R / 65536 ^ l % 65536 := by
          rw [Nat.pow_succ, ← Nat.div_div_eq_div_mul]; exact (Nat.div_add_mod _ _).symm
        have hl3 : n / 65536 ^ l = 65536 * (n / 65536 ^ (l + 1)) + n / 65536 ^ l % 65536 := by
          rw [Nat.pow_succ, ← Nat.div_div_eq_div_mul]; exact (Nat.div_add_mod _ _).symm
        have hge := guess_ge R n (65536 ^ l) (by omega) (p16 l)
        rw [cvN (by simp only [lim]; omega), cvN (by simp only [lim]; omega), addN (by simp only [lim]; omega), addN (by simp only [lim]; omega), addN (by simp only [lim]; omega), eqI_f (by omega), cond_false, quoN (by simp only [lim]; omega)]
        refine fin _ ?_
        rw [show R / 65536 ^ (l + 1 + 1) * 4294967296 + R / 65536 ^ (l + 1) % 65536 * 65536 + R / 65536 ^ l % 65536 = R / 65536 ^ l by omega, show n / 65536 ^ (l + 1) * 65536 + n / 65536 ^ l % 65536 = n / 65536 ^ l by omega]
        exact hge
theorem parts_eq (N m n : Nat) (hn : 0 < n) (hdn : dl 65536 n + 8 < N) (hdm : dl 65536 m + 8 < N) (hN1 : 65540 < N) (hN2 : N < 17592186044416) : fn_tillerref02_Parts N (X m) (X n) = some (X (m / n), X (m % n)) := by
  unfold fn_tillerref02_Parts t14
  have e : subI .i64 (dl 65536 m : Int) 1 = (dl 65536 m : Int) - 1 := subI_i (by omega) (by omega)
  have h := parts_out N m n hn hdn hdm hN1 hN2 (dl 65536 m) N (Nat.le_refl _) (by omega)
  rw [Nat.div_eq_of_lt (dl_lt b16 m), Nat.zero_mod, Nat.zero_div, Nat.zero_mul, T_nought (by decide)] at h
  rw [D_len, D_len, e, leI_t (by omega), cond_true, leI_t (by omega), cond_true, Int.toNat_natCast]
  rw [show X 0 = [] from D_nil _] at h
  exact h
end Go.Proofs.Ytoihjgfnocimjaa.Rn

/- PLAIN FACTS on chapter 15: the reference's series, sines and cosines, bounds. No statement is proved here. -/
import Derived.Test.YtoconobigciggaaDoorSinq
namespace Go.Proofs.YtoconobigciggaaDoor.Sinq
open Go Go.RowKit Go.Proofs.YtoconobigciggaaDoor.Eng Go.Proofs.YtoconobigciggaaDoor.Fns Go.Proofs.YtoconobigciggaaDoor.Bw Go.Proofs.YtoconobigciggaaDoor.Dig Go.Proofs.YtoconobigciggaaDoor.Rn Go.Proofs.YtoconobigciggaaDoor.Wid Go.Proofs.YtoconobigciggaaDoor.Fixp Go.Proofs.YtoconobigciggaaDoor.Sinp
set_option linter.unusedVariables false
set_option linter.unusedSimpArgs false
theorem cut_eq (N a b R : Nat) (hN : 300 ≤ N) (hN2 : N < 17592186044416) (hR : ∀ s, s = 320 → R = 2 ^ s) (ha : dl 65536 a ≤ 22) (hb : dl 65536 b ≤ 22) : fn_tillerref15_cut N (X a) (X b) = some (X (a * b / R)) := by
  unfold fn_tillerref15_cut
  have hab : a * b < 65536 ^ 44 := by
    rw [show (44 : Nat) = 22 + 22 from rfl, Nat.pow_add]
    exact Nat.mul_lt_mul'' (Nat.lt_of_lt_of_le (dl_lt b16 a) (Nat.pow_le_pow_right (by decide) ha)) (Nat.lt_of_lt_of_le (dl_lt b16 b) (Nat.pow_le_pow_right (by decide) hb))
  have hd : dl 65536 (a * b) ≤ 44 := dl_le b16 hab
  obtain ⟨s, hs⟩ : ∃ s, s = 320 := ⟨_, rfl⟩
  have h := Rn.shr_eq N (a * b) s (by omega) (by omega) (by omega) hN2
  rw [← hR s hs, hs, show ((320 : Nat) : Int) = 320 from rfl] at h
  rw [Rn.mul_eq N a b (by omega) hN2, Option.bind_some, h, Option.bind_some]
theorem ref_loop (N R sq f t0 : Nat) (hN : 300 ≤ N) (hN2 : N < 17592186044416) (hR : ∀ s, s = 320 → R = 2 ^ s) (hR2 : R < 65536 ^ 21) (hR0 : 0 < R) (hsq : sq ≤ R) (hf : 1 ≤ f) (hf2 : f ≤ 2) (ht : t0 ≤ R) : ∀ (r i n : Nat), i + r = 100 → r < n →
    l45_0 N n (X (tm R sq f t0 i)) (X sq) ((f + 2 * i : Nat) : Int) (X (ev (tm R sq f t0) i)) (X (od (tm R sq f t0) i)) (i : Int) = some (X (ev (tm R sq f t0) 100 - od (tm R sq f t0) 100)) := by
  have hhalf := tm_half (t0 := t0) hR0 hsq hf
  have room : ∀ x, x ≤ 2 * R → dl 65536 x ≤ 22 := fun x hx => dl_le b16 (by rw [Nat.pow_succ]; omega)
  have sums : ∀ k, ev (tm R sq f t0) k ≤ 2 * R ∧ od (tm R sq f t0) k ≤ 2 * R ∧ tm R sq f t0 k ≤ R := by
    intro k
    have h1 := evod_lt hR0 hsq hf ht k
    have h2 := tm_le (t0 := t0) hR0 hsq hf k
    exact ⟨by omega, by omega, by omega⟩
  have hsub : ∀ k, fn_tillerref02_Sub N (X (ev (tm R sq f t0) k)) (X (od (tm R sq f t0) k)) = some (X (ev (tm R sq f t0) k - od (tm R sq f t0) k)) := fun k =>
    Rn.sub_eq N _ _ (od_le _ hhalf k) (by have := room _ (sums k).1; omega) hN2
  intro r
  induction r with
  | zero =>
    intro i n hi hn
    obtain ⟨n, rfl⟩ : ∃ n', n = n' + 1 := ⟨n - 1, by omega⟩
    show s45_0 N _ _ _ _ _ _ _ = _
    unfold s45_0
    have hi : i = 100 := by omega
    subst hi
    rw [ltI_f (by omega), cond_false, hsub, Option.bind_some]
  | succ r ih =>
    intro i n hi hn
    obtain ⟨n, rfl⟩ : ∃ n', n = n' + 1 := ⟨n - 1, by omega⟩
    show s45_0 N (l45_0 N n) _ _ _ _ _ _ = _
    unfold s45_0
    obtain ⟨b1, b2', b3⟩ := sums i
    obtain ⟨c1, c2, c3⟩ := sums (i + 1)
    have ih := ih (i + 1) n (by omega) (by omega)
    have hz := dl_nil (b := 65536) (n := tm R sq f t0 i) b16
    rw [ltI_t (by omega), cond_true, D_len]
    by_cases h0 : tm R sq f t0 i = 0
    · rw [ltI_f (by omega), cond_false, hsub, Option.bind_some]
      obtain ⟨g1, g2⟩ := ev_rest (tm R sq f t0) (tm_zero h0) (100 - i)
      rw [show i + (100 - i) = 100 by omega] at g1 g2
      rw [g1, g2]
    · rw [ltI_t (by omega), cond_true]
      have em : remI .i64 (i : Int) 2 = ((i % 2 : Nat) : Int) := rfl
      have e1 : addI .u32 ((f + 2 * i : Nat) : Int) 1 = ((f + 2 * i + 1 : Nat) : Int) := addN (b := 1) (by simp only [lim]; omega)
      have ef : addI .u32 ((f + 2 * i : Nat) : Int) 2 = ((f + 2 * (i + 1) : Nat) : Int) := by
        have := addN (k := .u32) (a := f + 2 * i) (b := 2) (by simp only [lim]; omega)
        rw [show ((2 : Nat) : Int) = 2 from rfl] at this
        rw [this]; congr 1
      have dq := room _ (show tm R sq f t0 i ≤ 2 * R by omega)
      have ds := room _ (show sq ≤ 2 * R by omega)
      have hm : tm R sq f t0 i * sq / R ≤ tm R sq f t0 i := by
        apply Nat.div_le_of_le_mul
        rw [Nat.mul_comm R]
        exact Nat.mul_le_mul_left _ hsq
      have dm := room _ (show tm R sq f t0 i * sq / R ≤ 2 * R by omega)
      have dm2 := room (tm R sq f t0 i * sq / R / (f + 2 * i)) (Nat.le_trans (Nat.div_le_self _ _) (by omega))
      have ht' : tm R sq f t0 i * sq / R / (f + 2 * i) / (f + 2 * i + 1) = tm R sq f t0 (i + 1) := by rw [Nat.div_div_eq_div_mul]; rfl
      have da := room _ b1
      have db := room _ b2'
      have hev : ev (tm R sq f t0) (i + 1) = ev (tm R sq f t0) i + (if i % 2 = 0 then tm R sq f t0 i else 0) := rfl
      have hod : od (tm R sq f t0) (i + 1) = od (tm R sq f t0) i + (if i % 2 = 0 then 0 else tm R sq f t0 i) := rfl
      rw [em, e1, ef, succI i (by omega), cut_eq N _ _ R hN hN2 hR dq ds]
      simp only [Option.bind_some]
      rw [small15_eq N _ (f + 2 * i) (by omega) (by omega) (by omega) hN2]
      simp only [Option.bind_some]
      rw [small15_eq N _ (f + 2 * i + 1) (by omega) (by omega) (by omega) hN2, ht']
      simp only [Option.bind_some]
      by_cases hpar : i % 2 = 0
      · rw [if_pos hpar] at hev hod
        simp only [Nat.add_zero] at hod
        rw [hpar, eqI_t (by rfl), cond_true, Rn.add_eq N _ _ (by omega) hN2, Option.bind_some, ← hev, ← hod]
        exact ih
      · rw [if_neg hpar] at hev hod
        simp only [Nat.add_zero] at hev
        rw [eqI_f (by omega), cond_false, Rn.add_eq N _ _ (by omega) hN2, Option.bind_some, ← hev, ← hod]
        exact ih
theorem ref_series (N R sq f t0 : Nat) (hN : 300 ≤ N) (hN2 : N < 17592186044416) (hR : ∀ s, s = 320 → R = 2 ^ s) (hR2 : R < 65536 ^ 21) (hR0 : 0 < R) (hsq : sq ≤ R) (hf : 1 ≤ f) (hf2 : f ≤ 2) (ht : t0 ≤ R) :
    fn_tillerref15_series N (X t0) (X sq) (f : Int) = some (X (ev (tm R sq f t0) 100 - od (tm R sq f t0) 100)) := by
  have h := ref_loop N R sq f t0 hN hN2 hR hR2 hR0 hsq hf hf2 ht 100 0 N (by omega) (by omega)
  unfold fn_tillerref15_series t45
  rw [show ev (tm R sq f t0) 0 = 0 from rfl, show od (tm R sq f t0) 0 = 0 from rfl, show X 0 = [] from D_nil _] at h
  exact h
/-! ### around a sum -/
theorem around_eq (N s : Nat) (hN : 300 ≤ N) (hs : s < 2 ^ 250) : fn_fix_around N (W s) = some (W (s - 512), W (s + 512), none) := by
  unfold fn_fix_around
  have m1 : (s + 512) % 2 ^ 256 = s + 512 := by omega
  rw [show (512 : Int) = ((512 : Nat) : Int) from rfl, of_small N 512 (by decide)]
  simp only [Option.bind_some]
  rw [Wid.sub_eq N hN _ _ (by omega) (by decide), Wid.add_eq N hN _ _ (by omega) (by decide), m1]
  simp only [Option.bind_some]
  by_cases h : s < 512
  · rw [decide_eq_true h, cond_true, W_zero, show s - 512 = 0 by omega]
  · have m2 : (2 ^ 256 + s - 512) % 2 ^ 256 = s - 512 := by omega
    rw [decide_eq_false h, cond_false, m2]
theorem cmp_le {a b : Nat} (h : a ≤ b) : leI (Rn.cmpZ a b) 0 = true := by
  rw [leI_eq, decide_eq_true_eq]; unfold Rn.cmpZ; split <;> (try split) <;> omega
theorem dl_add {a b k : Nat} (ha : dl 65536 a ≤ k) (hb : dl 65536 b ≤ k) : dl 65536 (a + b) ≤ k + 1 := dl_le b16 (by
  have h1 := Nat.lt_of_lt_of_le (dl_lt b16 a) (Nat.pow_le_pow_right (by decide) ha)
  have h2 := Nat.lt_of_lt_of_le (dl_lt b16 b) (Nat.pow_le_pow_right (by decide) hb)
  rw [Nat.pow_succ]
  generalize 65536 ^ k = P at *
  omega)
theorem dl_mul {a b k l : Nat} (ha : dl 65536 a ≤ k) (hb : dl 65536 b ≤ l) : dl 65536 (a * b) ≤ k + l := dl_le b16 (by
  rw [Nat.pow_add]
  exact Nat.mul_lt_mul'' (Nat.lt_of_lt_of_le (dl_lt b16 a) (Nat.pow_le_pow_right (by decide) ha)) (Nat.lt_of_lt_of_le (dl_lt b16 b) (Nat.pow_le_pow_right (by decide) hb)))
/-- the program's bounds hold the reference's sum -/
theorem bounds_eq (N r lo hi A : Nat) (hN : 300 ≤ N) (hN2 : N < 17592186044416) (hA : ∀ s, s = 72 → A = 2 ^ s) (hA5 : dl 65536 A ≤ 5) (hr : dl 65536 r ≤ 22) (dlo : dl 65536 lo ≤ 16) (dhi : dl 65536 hi ≤ 16) (h1 : lo * A ≤ r + 1000) (h2 : r ≤ hi * A + 1000) :
    fn_tillerref15_Bounds N (X r) (X lo) (X hi) = some true := by
  unfold fn_tillerref15_Bounds
  have b1 := dl_mul dlo hA5
  have b2' := dl_mul dhi hA5
  obtain ⟨s, hs⟩ : ∃ s, s = 72 := ⟨_, rfl⟩
  have s1 := Rn.shl_eq N lo s (by omega) hN2
  have s2 := Rn.shl_eq N hi s (by omega) hN2
  rw [← hA s hs, hs, show ((72 : Nat) : Int) = 72 from rfl] at s1 s2
  have k1 := Rn.of_eq N 1000 (by omega) (by omega)
  rw [show ((1000 : Nat) : Int) = 1000 from rfl] at k1
  have dk : dl 65536 1000 ≤ 1 := dl_le b16 (by decide)
  have r1 := dl_add (a := r) (b := 1000) (k := 22) hr (by omega)
  have r2 := dl_add (a := hi * A) (b := 1000) (k := 21) b2' (by omega)
  rw [k1, Option.bind_some, s1, Option.bind_some, Rn.add_eq N r 1000 (by omega) hN2, Option.bind_some, Rn.cmp_eq N _ _ (by omega) (by omega) (by omega), Option.bind_some, cmp_le h1, cond_true, s2, Option.bind_some, Rn.add_eq N _ 1000 (by omega) hN2, Option.bind_some, Rn.cmp_eq N _ _ (by omega) (by omega) (by omega), Option.bind_some, cmp_le h2]
end Go.Proofs.YtoconobigciggaaDoor.Sinq

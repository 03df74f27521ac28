/- Plain facts on the functions that were printed. Texts in one: Top1, Top2, Top3, Top4, Top5, Top6. No statement is proved here. -/
import Derived.Test.YtcdhcihjcjpmkaaGreatDoorGwid
namespace Go.Proofs.YtcdhcihjcjpmkaaGreatDoor.Top
open Go Go.RowKit Go.Proofs.YtcdhcihjcjpmkaaGreatDoor.Eng Go.Proofs.YtcdhcihjcjpmkaaGreatDoor.Fns Go.Proofs.YtcdhcihjcjpmkaaGreatDoor.Bw Go.Proofs.YtcdhcihjcjpmkaaGreatDoor.Wid Go.Proofs.YtcdhcihjcjpmkaaGreatDoor.Patp
set_option linter.unusedVariables false
set_option linter.unusedSimpArgs false
abbrev NumV := Bool × Int × Vec 4 × Bool
/-- its words are words -/
def WF (x : NumV) : Prop := ∃ s, s < 2 ^ 256 ∧ x.2.2.1 = W s
theorem p256 (s : Nat) : s % 2 ^ 256 < 2 ^ 256 := Nat.mod_lt _ (Nat.pow_pos (by decide))
theorem of_one (N : Nat) : fn_wide_Of N 1 = some (W 1) := of_small N 1 (by decide)
theorem near_eq (N : Nat) (x : NumV) : ∃ E, fn_rnd_Num_near N x = some (x.1, E, x.2.2.1, x.2.2.2) ∧ -131072 ≤ E ∧ E ≤ 131072 := by
  refine ⟨minI (maxI x.2.1 (-131072)) 131072, rfl, ?_, ?_⟩
  · unfold minI maxI; split <;> split <;> omega
  · unfold minI maxI; split <;> split <;> omega
theorem exact_eq (N : Nat) (hN : 300 ≤ N) (mi mo : Bool) (E : Int) (s : Nat) (hs : s < 2 ^ 256) (h0 : -131072 ≤ E) (h1 : E ≤ 131072) :
    ∃ E' s' mo', fn_rnd_Num_exact N (mi, E, W s, mo) = some (mi, E', W s', mo') ∧ s' < 2 ^ 256 ∧ -131073 ≤ E' ∧ E' ≤ 131072 := by
  unfold fn_rnd_Num_exact
  simp only
  cases mo
  · exact ⟨E, s, false, rfl, hs, by omega, h1⟩
  · rw [len_eq N hN s hs, Option.bind_some]
    cases hl : ltI 254 (lenN s : Int)
    · rw [show (!true) = false from rfl, cond_false, cond_false, shl_eq N hN, Option.bind_some, show (1 : Int) = ((1 : Nat) : Int) from rfl, of_small N 1 (by decide), Option.bind_some, add_eq N hN _ _ (shl_lt _ hs _) (by decide), Option.bind_some,
        subI_i (by omega) (by omega)]
      exact ⟨_, _, _, rfl, p256 _, by omega, by omega⟩
    · rw [show (!true) = false from rfl, cond_false, cond_true]
      exact ⟨_, _, _, rfl, hs, by omega, h1⟩
/-- whole times of a power of two -/
def qv (s : Nat) (d : Int) : Nat := if d ≤ 0 then shlZ s (-d) else shrZ s d
theorem qv_lt (s : Nat) (d : Int) (hs : s < 2 ^ 256) : qv s d < 2 ^ 256 := by
  unfold qv; split
  · exact shl_lt _ hs _
  · exact shr_lt _ hs _
theorem cut_eq (N : Nat) (hN : 300 ≤ N) (mi mo : Bool) (E n : Int) (s : Nat) (hs : s < 2 ^ 256) (h0 : -200000 ≤ E) (h1 : E ≤ 200000) (h2 : -200000 ≤ n) (h3 : n ≤ 200000) :
    ∃ h r, fn_rnd_Num_cut N (mi, E, W s, mo) n = some (W (qv s (n - E)), h, r) := by
  unfold fn_rnd_Num_cut
  simp only
  have hd0 : -400000 ≤ n - E := by omega
  have hd1 : n - E ≤ 400000 := by omega
  rw [subI_i (by omega) (by omega)]
  generalize n - E = d at hd0 hd1 ⊢
  rw [subI_i (by omega) (by omega), subI_i (by omega) (by omega)]
  by_cases hd : d ≤ 0
  · rw [leI_t hd, cond_true, shl_eq N hN, Option.bind_some, show (0 : Int) - d = -d by omega, show qv s d = shlZ s (-d) from if_pos hd]
    cases eqI d 0
    · exact ⟨_, _, rfl⟩
    · exact ⟨_, _, rfl⟩
  · have hq : qv s d = shrZ s d := if_neg hd
    have hsh := shr_lt s hs d
    have hl1 := shl_lt (shrZ s d) hsh d
    have hl2 : shlZ 1 (d - 1) < 2 ^ 256 := shl_lt 1 (by decide) _
    rw [leI_f hd, cond_false, shr_eq N hN s hs, Option.bind_some, wbit_eq, Option.bind_some, hq]
    simp only
    cases ltI 1 d
    · exact ⟨_, _, rfl⟩
    rw [cond_true, shl_eq N hN, Option.bind_some, sub_eq N hN _ _ hs hl1, Option.bind_some, of_one N]
    cases ltI 256 d <;> cases eqI (bitZ s (d - 1)) 1
    · cases mo <;> exact ⟨_, _, rfl⟩
    · rw [cond_false, cond_true, Option.bind_some, shl_eq N hN, Option.bind_some, sub_eq N hN _ _ (p256 _) hl2, Option.bind_some]
      cases mo <;> exact ⟨_, _, rfl⟩
    · cases mo <;> exact ⟨_, _, rfl⟩
    · rw [cond_true, cond_true, Option.bind_some, shl_eq N hN, Option.bind_some, sub_eq N hN _ _ hs hl2, Option.bind_some]
      cases mo <;> exact ⟨_, _, rfl⟩
/-- is a size rounded to the greater one? -/
def upB (m : Int) (mi odd h r : Bool) : Bool := cond (eqI m 2) false (cond (eqI m 3) (!mi && (h || r)) (cond (eqI m 4) (mi && (h || r)) (cond (eqI m 1) h (h && (r || odd)))))
theorem up_eq (N : Nat) (m : Int) (mi odd h r : Bool) : fn_rnd_up N m mi odd h r = some (upB m mi odd h r) := by
  unfold fn_rnd_up upB
  cases eqI m 2 <;> cases eqI m 3 <;> cases eqI m 4 <;> cases eqI m 1 <;> cases mi <;> cases odd <;> cases h <;> cases r <;> rfl
theorem up_none (m : Int) (mi odd : Bool) : upB m mi odd false false = false := by
  unfold upB
  cases eqI m 2 <;> cases eqI m 3 <;> cases eqI m 4 <;> cases eqI m 1 <;> cases mi <;> cases odd <;> rfl
theorem to_eq (N : Nat) (hN : 300 ≤ N) (x : NumV) (n : Int) (q : Nat) (h r : Bool) (hq : q < 2 ^ 256) (hc : fn_rnd_Num_cut N x n = some (W q, h, r)) :
    ∃ odd, ∀ m, fn_rnd_Num_to N x n m = some (W ((q + (upB m x.1 odd h r).toNat) % 2 ^ 256), h || r) := by
  refine ⟨eqI (andI .u64 (Vec.rd (W q) 0) 1) 1, fun m => ?_⟩
  unfold fn_rnd_Num_to
  obtain ⟨mi, E, s, mo⟩ := x
  simp only
  rw [hc, Option.bind_some, up_eq, Option.bind_some]
  simp only
  cases upB m mi (eqI (andI .u64 (Vec.rd (W q) 0) 1) 1) h r
  · rw [cond_false, show (q + false.toNat) % 2 ^ 256 = q from Nat.mod_eq_of_lt hq]
    cases h <;> rfl
  · rw [cond_true, of_one N, Option.bind_some, add_eq N hN _ _ hq (by decide), Option.bind_some]
    cases h <;> rfl
theorem tiny_eq (N : Nat) (hN : 300 ≤ N) (mi mo : Bool) (E T m : Int) (s : Nat) (hs : s < 2 ^ 256) (h0 : -200000 ≤ E) (h1 : E ≤ 200000) (h2 : -190000 ≤ T) (h3 : T ≤ 190000) :
    ∃ b, fn_rnd_Num_tiny N (mi, E, W s, mo) T m = some b := by
  unfold fn_rnd_Num_tiny
  simp only
  rw [subI_i (by omega) (by omega)]
  obtain ⟨h, r, hc⟩ := cut_eq N hN mi mo E (T - 53) s hs h0 h1 (by omega) (by omega)
  obtain ⟨odd, ht⟩ := to_eq N hN (mi, E, W s, mo) (T - 53) _ h r (qv_lt s _ hs) hc
  cases leI (-1074) (T - 53)
  · rw [cond_false]
    cases ltI T (-1022)
    · rw [cond_false, ht, Option.bind_some, len_eq N hN _ (p256 _), Option.bind_some]
      exact ⟨_, rfl⟩
    · exact ⟨_, rfl⟩
  · exact ⟨_, rfl⟩
def sg (mi : Bool) : Int := cond mi 9223372036854775808 0
def lowB (mi : Bool) (m : Int) : Bool := eqI m 2 || (eqI m 3 && mi) || (eqI m 4 && !mi)
theorem over_eq (N : Nat) (mi : Bool) (m : Int) : fn_rnd_over N mi m = some (sg mi + cond (lowB mi m) 9218868437227405311 9218868437227405312) := by
  have h1 : fn_pat_Neg N 9218868437227405312 = some 18442240474082181120 := by rw [negP_eq N _ (by decide) (by decide)]; rfl
  have h2 : subI .u64 9218868437227405312 1 = 9218868437227405311 := by rw [subI_u (by decide) (by decide)]; rfl
  have h3 : fn_pat_Neg N 9218868437227405311 = some 18442240474082181119 := by rw [negP_eq N _ (by decide) (by decide)]; rfl
  unfold fn_rnd_over lowB sg
  rw [h2, h1, h3]
  cases eqI m 2 <;> cases eqI m 3 <;> cases eqI m 4 <;> cases mi <;> rfl
end Go.Proofs.YtcdhcihjcjpmkaaGreatDoor.Top
/- PLAIN FACTS on chapter 4, part 2: the pattern of a number, by any mode: a size, or the next one. No statement is proved here. -/
namespace Go.Proofs.YtcdhcihjcjpmkaaGreatDoor.Top
open Go Go.RowKit Go.Proofs.YtcdhcihjcjpmkaaGreatDoor.Eng Go.Proofs.YtcdhcihjcjpmkaaGreatDoor.Fns Go.Proofs.YtcdhcihjcjpmkaaGreatDoor.Bw Go.Proofs.YtcdhcihjcjpmkaaGreatDoor.Wid Go.Proofs.YtcdhcihjcjpmkaaGreatDoor.Patp
set_option linter.unusedVariables false
set_option linter.unusedSimpArgs false
noncomputable def tail (N : Nat) (mi : Bool) (n : Int) (v : Vec 4) (m F : Int) : Option (Int × Int) :=
  (fn_wide_Len N v).bind fun r8 =>
   cond (ltI 53 r8)
    ((fn_wide_Shr N v 1).bind fun r9 =>
     cond (ltI 971 (addI .i64 n 1))
      ((fn_rnd_over N mi m).bind fun r10 =>
       some (r10, 20))
      (cond (leI 4503599627370496 (Vec.rd r9.1 0))
       ((fn_rnd_sign N mi).bind fun r11 =>
        (fn_pat_Copy N (addI .u64 (Vec.rd r9.1 0) (shlI .u64 (cvI .u64 (subI .i64 (addI .i64 n 1) (-1074))) 52)) r11).bind fun r12 =>
         some (r12, F))
       ((fn_rnd_sign N mi).bind fun r13 =>
        (fn_pat_Copy N (Vec.rd r9.1 0) r13).bind fun r14 =>
         some (r14, F))))
    (cond (ltI 971 n)
     ((fn_rnd_over N mi m).bind fun r15 =>
      some (r15, 20))
     (cond (leI 4503599627370496 (Vec.rd v 0))
      ((fn_rnd_sign N mi).bind fun r16 =>
       (fn_pat_Copy N (addI .u64 (Vec.rd v 0) (shlI .u64 (cvI .u64 (subI .i64 n (-1074))) 52)) r16).bind fun r17 =>
        some (r17, F))
      ((fn_rnd_sign N mi).bind fun r18 =>
       (fn_pat_Copy N (Vec.rd v 0) r18).bind fun r19 =>
        some (r19, F))))
theorem round_unf (N : Nat) (x : NumV) (m : Int) : fn_rnd_Round N x m = (fn_rnd_Num_near N (x.1, x.2.1, x.2.2.1, x.2.2.2)).bind fun r1 =>
   (fn_rnd_Num_exact N (r1.1, r1.2.1, r1.2.2.1, r1.2.2.2)).bind fun r2 =>
    cond (eqL r2.2.2.1.1 (Vec.zero 4).1)
     ((fn_rnd_sign N r2.1).bind fun r3 =>
      (fn_pat_Copy N 0 r3).bind fun r4 =>
       some (r4, 0))
     ((fn_wide_Len N r2.2.2.1).bind fun r5 =>
      (fn_rnd_Num_to N (r2.1, r2.2.1, r2.2.2.1, r2.2.2.2) (maxI (subI .i64 (addI .i64 r2.2.1 r5) 53) (-1074)) m).bind fun r6 =>
       cond r6.2
        ((fn_rnd_Num_tiny N (r2.1, r2.2.1, r2.2.2.1, r2.2.2.2) (addI .i64 r2.2.1 r5) m).bind fun r7 =>
         cond r7 (tail N r2.1 (maxI (subI .i64 (addI .i64 r2.2.1 r5) 53) (-1074)) r6.1 m (orI .u8 16 8)) (tail N r2.1 (maxI (subI .i64 (addI .i64 r2.2.1 r5) 53) (-1074)) r6.1 m 16))
        (tail N r2.1 (maxI (subI .i64 (addI .i64 r2.2.1 r5) 53) (-1074)) r6.1 m 0)) := rfl
theorem sign_eq (N : Nat) (mi : Bool) : fn_rnd_sign N mi = some (sg mi) := by cases mi <;> rfl
theorem copy_sg (N : Nat) (a : Int) (mi : Bool) (h0 : 0 ≤ a) (h1 : a < 9223372036854775808) : fn_pat_Copy N a (sg mi) = some (sg mi + a) := by
  have hm : a % 9223372036854775808 = a := Int.emod_eq_of_lt h0 h1
  cases mi
  · rw [copyP_eq N a (sg false) h0 (by omega) (by decide) (by decide), if_pos (by decide), hm, show sg false = 0 from rfl, Int.zero_add]
  · rw [copyP_eq N a (sg true) h0 (by omega) (by decide) (by decide), if_neg (by decide), hm, show sg true = 9223372036854775808 from rfl, Int.add_comm]
theorem rd0 (q : Nat) (h : q < 2 ^ 64) : Vec.rd (W q) 0 = (q : Int) := by
  have := rd_W (x := q) (i := 0) (by decide)
  rw [show ((0 : Nat) : Int) = 0 from rfl] at this
  rw [this, Nat.mul_zero, Nat.pow_zero, Nat.div_one, Nat.mod_eq_of_lt h]
/-- the pattern of q times 2^n -/
theorem pack (N : Nat) (q : Nat) (n : Int) (h0 : -1074 ≤ n) (h1 : n ≤ 971) (hq : q < 2 ^ 53) : addI .u64 (q : Int) (shlI .u64 (cvI .u64 (subI .i64 n (-1074))) 52) = (q : Int) + (n + 1074) * 4503599627370496 := by
  rw [subI_i (by omega) (by omega)]
  obtain ⟨k, hk⟩ := Int.eq_ofNat_of_zero_le (show 0 ≤ n + 1074 by omega)
  have hk' : k ≤ 2045 := by omega
  rw [show n - -1074 = (k : Int) by omega, cvI_u (by omega) (by omega), show (52 : Int) = ((52 : Nat) : Int) from rfl, shlI_n (by decide), hk]
  have e : k * 2 ^ 52 % 18446744073709551616 = k * 4503599627370496 := Nat.mod_eq_of_lt (by omega)
  rw [e, addI_u (by omega) (by omega)]
  omega
theorem tail_eq (N : Nat) (hN : 300 ≤ N) (mi : Bool) (n : Int) (q : Nat) (m F : Int) (hq : q ≤ 2 ^ 53) (h0 : -1074 ≤ n) (h1 : n ≤ 200000) (h2 : -1074 < n → 2 ^ 52 ≤ q) :
    tail N mi n (W q) m F = some (if 971 < n ∨ (n = 971 ∧ q = 2 ^ 53) then (sg mi + cond (lowB mi m) 9218868437227405311 9218868437227405312, 20) else (sg mi + ((q : Int) + (n + 1074) * 4503599627370496), F)) := by
  have hq' : q < 2 ^ 256 := Nat.lt_of_le_of_lt hq (by decide)
  unfold tail
  rw [len_eq N hN q hq', Option.bind_some]
  by_cases h53 : q = 2 ^ 53
  · subst h53
    have hl : lenN (2 ^ 53) = 54 := lenU (by decide) (.inr (by decide))
    rw [hl, show ltI 53 ((54 : Nat) : Int) = true from rfl, cond_true, shr_eq N hN _ hq', Option.bind_some, addI_i (by omega) (by omega)]
    have hs : shrZ (2 ^ 53) 1 = 2 ^ 52 := by decide
    by_cases hn : 971 < n + 1
    · rw [ltI_t hn, cond_true, over_eq, Option.bind_some, if_pos (by omega)]
    · rw [ltI_f hn, cond_false]
      simp only [hs]
      rw [rd0 _ (by decide), leI_t (by decide), cond_true, sign_eq, Option.bind_some, pack N (2 ^ 52) (n + 1) (by omega) (by omega) (by decide), copy_sg N _ mi (by omega) (by omega), Option.bind_some, if_neg (by omega)]
      congr 3
      omega
  · have hlt : q < 2 ^ 53 := by omega
    have hl : lenN q ≤ 53 := lenN_le hlt
    rw [ltI_f (by omega), cond_false]
    by_cases hn : 971 < n
    · rw [ltI_t hn, cond_true, over_eq, Option.bind_some, if_pos (.inl hn)]
    · rw [ltI_f hn, cond_false, rd0 _ (by omega), if_neg (by omega)]
      by_cases hb : (4503599627370496 : Int) ≤ (q : Int)
      · rw [leI_t hb, cond_true, sign_eq, Option.bind_some, pack N q n h0 (by omega) hlt, copy_sg N _ mi (by omega) (by omega), Option.bind_some]
      · rw [leI_f hb, cond_false, sign_eq, Option.bind_some, copy_sg N _ mi (by omega) (by omega), Option.bind_some]
        have : n = -1074 := by
          rcases Int.lt_or_le (-1074) n with h | h
          · have := h2 h; omega
          · omega
        congr 3
        omega
end Go.Proofs.YtcdhcihjcjpmkaaGreatDoor.Top
/- PLAIN FACTS on chapter 4, part 3: rounding, by all modes at once. No statement is proved here. -/
namespace Go.Proofs.YtcdhcihjcjpmkaaGreatDoor.Top
open Go Go.RowKit Go.Proofs.YtcdhcihjcjpmkaaGreatDoor.Eng Go.Proofs.YtcdhcihjcjpmkaaGreatDoor.Fns Go.Proofs.YtcdhcihjcjpmkaaGreatDoor.Bw Go.Proofs.YtcdhcihjcjpmkaaGreatDoor.Wid Go.Proofs.YtcdhcihjcjpmkaaGreatDoor.Patp
set_option linter.unusedVariables false
set_option linter.unusedSimpArgs false
/-- by all modes: a size or the next one, with a sign; flags -/
def RSpec (g : Int → Option (Int × Int)) : Prop := ∃ (mi : Bool) (base : Int) (ix : Bool) (u : Int → Bool), 0 ≤ base ∧ base + 1 ≤ 9218868437227405312 ∧
  (∀ m, ∃ f, g m = some (sg mi + base + cond (u m) 1 0, f) ∧ (ix = true → f = 16 ∨ f = 24 ∨ f = 20) ∧ (ix = false → f = 0)) ∧ (ix = false → ∀ m, u m = false) ∧ (ix = true → u 2 = false ∧ u 3 = !mi ∧ u 4 = mi)
theorem pow_le' {a b : Nat} (h : a ≤ b) : 2 ^ a ≤ 2 ^ b := Nat.pow_le_pow_right (by decide) h
theorem qv_hi (s L : Nat) (d : Int) (hs : s < 2 ^ L) (hL : L ≤ 256) (hd : (L : Int) - d ≤ 53) : qv s d < 2 ^ 53 := by
  unfold qv
  by_cases h : d ≤ 0
  · rw [if_pos h]
    unfold shlZ
    by_cases h1 : -d < 1
    · rw [if_pos h1]; exact Nat.lt_of_lt_of_le hs (pow_le' (by omega))
    · rw [if_neg h1]
      by_cases h2 : 256 ≤ -d
      · rw [if_pos h2]; decide
      · rw [if_neg h2]
        refine Nat.lt_of_le_of_lt (Nat.mod_le _ _) ?_
        have h3 : s * 2 ^ (-d).toNat < 2 ^ L * 2 ^ (-d).toNat := Nat.mul_lt_mul_of_pos_right hs (Nat.pow_pos (by decide))
        rw [← Nat.pow_add] at h3
        exact Nat.lt_of_lt_of_le h3 (pow_le' (by omega))
  · rw [if_neg h]
    unfold shrZ
    rw [if_neg (by omega)]
    refine Nat.div_lt_of_lt_mul ?_
    rw [← Nat.pow_add]
    exact Nat.lt_of_lt_of_le hs (pow_le' (by omega))
theorem qv_lo (s L : Nat) (d : Int) (hs : s < 2 ^ L) (h1 : 1 ≤ L) (hs1 : 2 ^ (L - 1) ≤ s) (hL : L ≤ 256) (hd : (L : Int) - d = 53) : 2 ^ 52 ≤ qv s d := by
  unfold qv
  by_cases h : d ≤ 0
  · rw [if_pos h]
    unfold shlZ
    by_cases h2 : -d < 1
    · rw [if_pos h2, show (52 : Nat) = L - 1 by omega]; exact hs1
    · rw [if_neg h2, if_neg (by omega)]
      have h3 : s * 2 ^ (-d).toNat < 2 ^ L * 2 ^ (-d).toNat := Nat.mul_lt_mul_of_pos_right hs (Nat.pow_pos (by decide))
      rw [← Nat.pow_add] at h3
      rw [Nat.mod_eq_of_lt (Nat.lt_of_lt_of_le h3 (pow_le' (by omega)))]
      have h4 := Nat.mul_le_mul_right (2 ^ (-d).toNat) hs1
      rw [← Nat.pow_add] at h4
      rwa [show (52 : Nat) = L - 1 + (-d).toNat by omega]
  · rw [if_neg h]
    unfold shrZ
    rw [if_neg (by omega), Nat.le_div_iff_mul_le (Nat.pow_pos (by decide)), ← Nat.pow_add, show 52 + d.toNat = L - 1 by omega]
    exact hs1
theorem up_low {m : Int} {mi odd h r : Bool} (hu : upB m mi odd h r = true) : lowB mi m = false ∧ (h || r) = true := by
  unfold upB at hu; unfold lowB
  by_cases h2 : m = 2
  · subst h2; cases hu
  · rw [eqI_f h2] at hu ⊢
    by_cases h3 : m = 3
    · subst h3; revert hu; cases mi <;> cases odd <;> cases h <;> cases r <;> decide
    · rw [eqI_f h3] at hu ⊢
      by_cases h4 : m = 4
      · subst h4; revert hu; cases mi <;> cases odd <;> cases h <;> cases r <;> decide
      · rw [eqI_f h4] at hu ⊢
        revert hu
        cases eqI m 1 <;> cases mi <;> cases odd <;> cases h <;> cases r <;> decide
theorem round_spec (N : Nat) (hN : 300 ≤ N) (x : NumV) (hx : WF x) : RSpec (fun m => fn_rnd_Round N x m) := by
  obtain ⟨mi, Ex, v, mo0⟩ := x
  obtain ⟨s0, hs0, hv⟩ := hx
  simp only at hv
  subst hv
  obtain ⟨E0, hnear, e0, e1⟩ := near_eq N (mi, Ex, W s0, mo0)
  obtain ⟨E, s, mo, hex, hs, e2, e3⟩ := exact_eq N hN mi mo0 E0 s0 hs0 e0 e1
  have unf : ∀ m, fn_rnd_Round N (mi, Ex, W s0, mo0) m = cond (eqL (W s).1 (Vec.zero 4).1)
     ((fn_rnd_sign N mi).bind fun r3 =>
      (fn_pat_Copy N 0 r3).bind fun r4 =>
       some (r4, 0))
     ((fn_wide_Len N (W s)).bind fun r5 =>
      (fn_rnd_Num_to N (mi, E, W s, mo) (maxI (subI .i64 (addI .i64 E r5) 53) (-1074)) m).bind fun r6 =>
       cond r6.2
        ((fn_rnd_Num_tiny N (mi, E, W s, mo) (addI .i64 E r5) m).bind fun r7 =>
         cond r7 (tail N mi (maxI (subI .i64 (addI .i64 E r5) 53) (-1074)) r6.1 m (orI .u8 16 8)) (tail N mi (maxI (subI .i64 (addI .i64 E r5) 53) (-1074)) r6.1 m 16))
        (tail N mi (maxI (subI .i64 (addI .i64 E r5) 53) (-1074)) r6.1 m 0)) := by
    intro m
    rw [round_unf, hnear, Option.bind_some, hex, Option.bind_some]
  rw [W_zero, W_eq hs (by decide)] at unf
  by_cases hz : s = 0
  · refine ⟨mi, 0, false, fun _ => false, by decide, by decide, fun m => ⟨0, ?_, (fun h => by cases h), fun _ => rfl⟩, fun _ _ => rfl, fun h => by cases h⟩
    show fn_rnd_Round N (mi, Ex, W s0, mo0) m = _
    rw [unf m, decide_eq_true hz, cond_true, sign_eq, Option.bind_some, copy_sg N 0 mi (by decide) (by decide), Option.bind_some, cond_false, Int.add_zero, Int.add_zero]
  obtain ⟨l1, l2⟩ := lenN_spec s
  have l3 : lenN s ≤ 256 := lenN_le hs
  have l4 : 1 ≤ lenN s := by
    rcases l2 with h | h
    · rw [h] at l1; omega
    · rcases Nat.eq_zero_or_pos (lenN s) with h0 | h0
      · rw [h0] at l1; omega
      · exact h0
  have l5 : 2 ^ (lenN s - 1) ≤ s := by
    rcases l2 with h | h
    · omega
    · exact h
  have hlen := len_eq N hN s hs
  generalize lenN s = L at *
  have hmax : ∃ n, maxI (E + (L : Int) - 53) (-1074) = n ∧ ((n = E + L - 53 ∧ -1074 ≤ n) ∨ (n = -1074 ∧ E + L - 53 < n)) := by
    unfold maxI
    by_cases h : (-1074 : Int) > E + (L : Int) - 53
    · rw [if_pos h]; exact ⟨_, rfl, .inr ⟨rfl, by omega⟩⟩
    · rw [if_neg h]; exact ⟨_, rfl, .inl ⟨rfl, by omega⟩⟩
  obtain ⟨n, hn, hn2⟩ := hmax
  have hn0 : -1074 ≤ n := by omega
  have hn1 : n ≤ 150000 := by omega
  have hT : addI .i64 E (L : Int) = E + L := addI_i (by omega) (by omega)
  have hS : subI .i64 (E + (L : Int)) 53 = E + L - 53 := subI_i (by omega) (by omega)
  have unf2 : ∀ m, fn_rnd_Round N (mi, Ex, W s0, mo0) m = (fn_rnd_Num_to N (mi, E, W s, mo) n m).bind fun r6 =>
       cond r6.2
        ((fn_rnd_Num_tiny N (mi, E, W s, mo) (E + L) m).bind fun r7 =>
         cond r7 (tail N mi n r6.1 m (orI .u8 16 8)) (tail N mi n r6.1 m 16))
        (tail N mi n r6.1 m 0) := by
    intro m
    rw [unf m, decide_eq_false hz, cond_false, hlen, Option.bind_some, hT, hS, hn]
  obtain ⟨h, r, hc⟩ := cut_eq N hN mi mo E n s hs (by omega) (by omega) (by omega) (by omega)
  have hq1 := qv_hi s L (n - E) l1 l3 (by omega)
  have hq2 : -1074 < n → 2 ^ 52 ≤ qv s (n - E) := fun hh => qv_lo s L (n - E) l1 l4 l5 l3 (by omega)
  have hq3 := qv_lt s (n - E) hs
  generalize qv s (n - E) = q at *
  obtain ⟨odd, ht⟩ := to_eq N hN (mi, E, W s, mo) n q h r hq3 hc
  have hQ : ∀ m, (q + (upB m mi odd h r).toNat) % 2 ^ 256 = q + (upB m mi odd h r).toNat := fun m => Nat.mod_eq_of_lt (by
    have : (upB m mi odd h r).toNat ≤ 1 := by cases upB m mi odd h r <;> decide
    omega)
  have hQ2 : ∀ m, q + (upB m mi odd h r).toNat ≤ 2 ^ 53 := fun m => by
    have : (upB m mi odd h r).toNat ≤ 1 := by cases upB m mi odd h r <;> decide
    omega
  have hQ3 : ∀ m, -1074 < n → 2 ^ 52 ≤ q + (upB m mi odd h r).toNat := fun m hh => Nat.le_trans (hq2 hh) (Nat.le_add_right _ _)
  have key : ∀ m, ∃ F, fn_rnd_Round N (mi, Ex, W s0, mo0) m = tail N mi n (W (q + (upB m mi odd h r).toNat)) m F ∧ ((h || r) = true → F = 16 ∨ F = 24) ∧ ((h || r) = false → F = 0) := by
    intro m
    rw [unf2 m, ht m, hQ m, Option.bind_some]
    simp only
    cases hr : (h || r)
    · exact ⟨0, rfl, (fun h => by cases h), fun _ => rfl⟩
    · obtain ⟨b, hb⟩ := tiny_eq N hN mi mo E (E + L) m s hs (by omega) (by omega) (by omega) (by omega)
      rw [cond_true, hb, Option.bind_some]
      cases b
      · exact ⟨16, rfl, (fun _ => .inl rfl), fun h => by cases h⟩
      · exact ⟨24, rfl, (fun _ => .inr rfl), fun h => by cases h⟩
  by_cases hbig : 971 < n
  · refine ⟨mi, 9218868437227405311, true, fun m => !lowB mi m, by decide, by decide, fun m => ?_, (fun h => by cases h), fun _ => ?_⟩
    · obtain ⟨F, hk, _⟩ := key m
      refine ⟨20, ?_, (fun _ => .inr (.inr rfl)), fun h => by cases h⟩
      show fn_rnd_Round N (mi, Ex, W s0, mo0) m = some (sg mi + 9218868437227405311 + cond (!lowB mi m) 1 0, 20)
      rw [hk, tail_eq N hN mi n _ m F (hQ2 m) hn0 (by omega) (hQ3 m), if_pos (.inl hbig)]
      cases lowB mi m
      · show some (sg mi + 9218868437227405312, (20 : Int)) = some (sg mi + 9218868437227405311 + 1, 20)
        rw [Int.add_assoc]; rfl
      · show some (sg mi + 9218868437227405311, (20 : Int)) = some (sg mi + 9218868437227405311 + 0, 20)
        rw [Int.add_zero]
    · cases mi <;> exact ⟨rfl, rfl, rfl⟩
  · refine ⟨mi, (q : Int) + (n + 1074) * 4503599627370496, h || r, fun m => upB m mi odd h r, by omega, by omega, fun m => ?_, fun hh m => ?_, fun hh => ?_⟩
    · obtain ⟨F, hk, k1, k2⟩ := key m
      show ∃ f, fn_rnd_Round N (mi, Ex, W s0, mo0) m = some (sg mi + ((q : Int) + (n + 1074) * 4503599627370496) + cond (upB m mi odd h r) 1 0, f) ∧ ((h || r) = true → f = 16 ∨ f = 24 ∨ f = 20) ∧ ((h || r) = false → f = 0)
      rw [hk, tail_eq N hN mi n _ m F (hQ2 m) hn0 (by omega) (hQ3 m)]
      by_cases ho : 971 < n ∨ (n = 971 ∧ q + (upB m mi odd h r).toNat = 2 ^ 53)
      · rw [if_pos ho]
        have hu : upB m mi odd h r = true := by
          cases hu : upB m mi odd h r
          · rw [hu] at ho; rcases ho with ho | ⟨_, ho⟩
            · omega
            · simp at ho; omega
          · rfl
        obtain ⟨hlow, hhr⟩ := up_low hu
        rw [hu] at ho ⊢
        have hq53 : q + 1 = 2 ^ 53 ∧ n = 971 := by
          rcases ho with ho | ⟨ho1, ho⟩
          · omega
          · exact ⟨ho, ho1⟩
        refine ⟨20, ?_, (fun _ => .inr (.inr rfl)), fun h => by rw [hhr] at h; cases h⟩
        rw [hlow]
        show some (sg mi + 9218868437227405312, (20 : Int)) = some (sg mi + ((q : Int) + (n + 1074) * 4503599627370496) + 1, 20)
        congr 2
        omega
      · rw [if_neg ho]
        refine ⟨F, ?_, (fun h => by rcases k1 h with h | h <;> omega), k2⟩
        congr 2
        cases upB m mi odd h r
        · show sg mi + (((q + 0 : Nat) : Int) + (n + 1074) * 4503599627370496) = sg mi + ((q : Int) + (n + 1074) * 4503599627370496) + 0
          rw [Int.add_zero, Nat.add_zero]
        · show sg mi + (((q + 1 : Nat) : Int) + (n + 1074) * 4503599627370496) = sg mi + ((q : Int) + (n + 1074) * 4503599627370496) + 1
          omega
    · show upB m mi odd h r = false
      have h1 : h = false := by cases h <;> simp_all
      have h2 : r = false := by cases r <;> simp_all
      rw [h1, h2]; exact up_none m mi odd
    · show upB 2 mi odd h r = false ∧ upB 3 mi odd h r = !mi ∧ upB 4 mi odd h r = mi
      have e2 : ∀ k : Int, upB 2 mi odd h r = false := fun _ => rfl
      have e3 : upB 3 mi odd h r = (!mi && (h || r)) := rfl
      have e4 : upB 4 mi odd h r = (mi && (h || r)) := rfl
      rw [e3, e4, hh]
      cases mi <;> exact ⟨rfl, rfl, rfl⟩
end Go.Proofs.YtcdhcihjcjpmkaaGreatDoor.Top
/- PLAIN FACTS on the operations, part 1: what hangs on no mode. No statement is proved here. -/
namespace Go.Proofs.YtcdhcihjcjpmkaaGreatDoor.Top
open Go Go.RowKit Go.Proofs.YtcdhcihjcjpmkaaGreatDoor.Eng Go.Proofs.YtcdhcihjcjpmkaaGreatDoor.Fns Go.Proofs.YtcdhcihjcjpmkaaGreatDoor.Bw Go.Proofs.YtcdhcihjcjpmkaaGreatDoor.Wid Go.Proofs.YtcdhcihjcjpmkaaGreatDoor.Patp
set_option linter.unusedVariables false
set_option linter.unusedSimpArgs false
/-- a pattern that is a number or endless -/
def okP (p : Int) : Prop := 0 ≤ p ∧ p < 18446744073709551616 ∧ p % 9223372036854775808 ≤ 9218868437227405312
def CSpec (g : Int → Option (Int × Int)) : Prop := ∃ p f, (∀ m, g m = some (p, f)) ∧ (p = 9221120237041090560 ∨ (okP p ∧ (f = 0 ∨ f = 2)))
def ZSpec (g : Int → Option (Int × Int)) : Prop := ∀ m, g m = some (sg (eqI m 4), 0)
/-- what an operation answers, by all modes -/
def Sp (g : Int → Option (Int × Int)) : Prop := CSpec g ∨ RSpec g ∨ ZSpec g
theorem Sp.bnd {α : Type} {e : Option α} {v : α} (h : e = some v) {K : α → Int → Option (Int × Int)} (hk : Sp (K v)) : Sp (fun m => e.bind fun r => K r m) := by
  rw [h]; exact hk
theorem Sp.cnd {b : Bool} {A B : Int → Option (Int × Int)} (ha : b = true → Sp A) (hb : b = false → Sp B) : Sp (fun m => cond b (A m) (B m)) := by
  cases b
  · exact hb rfl
  · exact ha rfl
theorem bind_eta {α β : Type} (o : Option (α × β)) : (o.bind fun r => some (r.1, r.2)) = o := by cases o <;> rfl
theorem Sp.eta {g : Int → Option (Int × Int)} (h : Sp g) : Sp (fun m => (g m).bind fun r => some (r.1, r.2)) := by
  have : (fun m => (g m).bind fun r => some (r.1, r.2)) = g := funext fun m => bind_eta _
  rw [this]; exact h
theorem Sp.nan (f : Int) : Sp (fun _ => some (9221120237041090560, f)) := .inl ⟨_, f, fun _ => rfl, .inl rfl⟩
theorem Sp.const {p f : Int} (h : okP p) (hf : f = 0 ∨ f = 2) : Sp (fun _ => some (p, f)) := .inl ⟨p, f, fun _ => rfl, .inr ⟨h, hf⟩⟩
/-- a sum: of no mode, or a nought with the sign of one -/
def MI (g : Int → Option NumV) : Prop := (∃ z, WF z ∧ ∀ m, g m = some z) ∨ (∀ m, g m = some (eqI m 4, 0, Vec.zero 4, false))
theorem MI.bnd {α : Type} {e : Option α} {v : α} (h : e = some v) {K : α → Int → Option NumV} (hk : MI (K v)) : MI (fun m => e.bind fun r => K r m) := by
  rw [h]; exact hk
theorem MI.cnd {b : Bool} {A B : Int → Option NumV} (ha : b = true → MI A) (hb : b = false → MI B) : MI (fun m => cond b (A m) (B m)) := by
  cases b
  · exact hb rfl
  · exact ha rfl
theorem bind_eta4 (o : Option NumV) : (o.bind fun r => some (r.1, r.2.1, r.2.2.1, r.2.2.2)) = o := by cases o <;> rfl
theorem MI.eta {g : Int → Option NumV} (h : MI g) : MI (fun m => (g m).bind fun r => some (r.1, r.2.1, r.2.2.1, r.2.2.2)) := by
  have : (fun m => (g m).bind fun r => some (r.1, r.2.1, r.2.2.1, r.2.2.2)) = g := funext fun m => bind_eta4 _
  rw [this]; exact h
theorem MI.const {mi mo : Bool} {E : Int} {s : Nat} (hs : s < 2 ^ 256) : MI (fun _ => some (mi, E, W s, mo)) := .inl ⟨_, ⟨s, hs, rfl⟩, fun _ => rfl⟩
theorem nought_mi (N : Nat) (a b : Bool) : MI (fun m => fn_sums_nought N a b m) := by
  unfold fn_sums_nought
  refine MI.cnd (fun _ => ?_) fun _ => .inr fun _ => rfl
  rw [W_zero]
  exact MI.const (by decide)
theorem aligned_mi (N : Nat) (hN : 300 ≤ N) (mi mo mi2 mo2 : Bool) (E E2 : Int) (s s2 : Nat) (hs : s < 2 ^ 256) (hs2 : s2 < 2 ^ 256) : MI (fun m => fn_sums_aligned N (mi, E, W s, mo) (mi2, E2, W s2, mo2) m) := by
  unfold fn_sums_aligned
  simp only
  refine MI.bnd (shl_eq N hN s _) ?_
  have h1 := shl_lt s hs (subI .i64 E E2)
  refine MI.cnd (fun _ => ?_) fun _ => ?_
  · exact MI.bnd (add_eq N hN _ _ h1 hs2) (MI.const (p256 _))
  · refine MI.bnd (cmp_eq N hN _ _ h1 hs2) (MI.cnd (fun _ => ?_) fun _ => MI.cnd (fun _ => ?_) fun _ => ?_)
    · exact MI.eta (nought_mi N false true)
    · exact MI.bnd (sub_eq N hN _ _ h1 hs2) (MI.const (p256 _))
    · exact MI.bnd (sub_eq N hN _ _ hs2 h1) (MI.const (p256 _))
theorem beside_mi (N : Nat) (hN : 300 ≤ N) (mi mo mi2 mo2 : Bool) (E E2 : Int) (s s2 : Nat) (hs : s < 2 ^ 256) (hs2 : s2 < 2 ^ 256) : MI (fun _ => fn_sums_beside N (mi, E, W s, mo) (mi2, E2, W s2, mo2)) := by
  unfold fn_sums_beside
  simp only
  refine MI.bnd (len_eq N hN s hs) (MI.bnd (shr_eq N hN s2 hs2 _) (MI.bnd (shl_eq N hN s _) (MI.cnd (fun _ => ?_) fun _ => ?_)))
  · exact MI.bnd (add_eq N hN _ _ (shl_lt _ hs _) (shr_lt _ hs2 _)) (MI.const (p256 _))
  · refine MI.bnd (sub_eq N hN _ _ (shl_lt _ hs _) (shr_lt _ hs2 _)) (MI.cnd (fun _ => ?_) fun _ => MI.const (p256 _))
    exact MI.bnd (of_one N) (MI.bnd (sub_eq N hN _ _ (p256 _) (by decide)) (MI.const (p256 _)))
theorem join_mi (N : Nat) (hN : 300 ≤ N) (mi mo mi2 mo2 : Bool) (E E2 : Int) (s s2 : Nat) (hs : s < 2 ^ 256) (hs2 : s2 < 2 ^ 256) : MI (fun m => fn_sums_join N (mi, E, W s, mo) (mi2, E2, W s2, mo2) m) := by
  have big : MI (fun m => cond (ltI E E2) ((fn_wide_Len N (W s2)).bind fun r8 =>
       cond (ltI (subI .i64 (addI .i64 r8 E2) E) 250)
        ((fn_sums_aligned N (mi2, E2, W s2, mo2) (mi, E, W s, mo) m).bind fun r9 => some (r9.1, r9.2.1, r9.2.2.1, r9.2.2.2))
        ((fn_sums_beside N (mi2, E2, W s2, mo2) (mi, E, W s, mo)).bind fun r10 => some (r10.1, r10.2.1, r10.2.2.1, r10.2.2.2)))
      ((fn_wide_Len N (W s)).bind fun r11 =>
       cond (ltI (subI .i64 (addI .i64 r11 E) E2) 250)
        ((fn_sums_aligned N (mi, E, W s, mo) (mi2, E2, W s2, mo2) m).bind fun r12 => some (r12.1, r12.2.1, r12.2.2.1, r12.2.2.2))
        ((fn_sums_beside N (mi, E, W s, mo) (mi2, E2, W s2, mo2)).bind fun r13 => some (r13.1, r13.2.1, r13.2.2.1, r13.2.2.2)))) := by
    refine MI.cnd (fun _ => ?_) fun _ => ?_
    · exact MI.bnd (len_eq N hN s2 hs2) (MI.cnd (fun _ => MI.eta (aligned_mi N hN mi2 mo2 mi mo E2 E s2 s hs2 hs)) fun _ => MI.eta (beside_mi N hN mi2 mo2 mi mo E2 E s2 s hs2 hs))
    · exact MI.bnd (len_eq N hN s hs) (MI.cnd (fun _ => MI.eta (aligned_mi N hN mi mo mi2 mo2 E E2 s s2 hs hs2)) fun _ => MI.eta (beside_mi N hN mi mo mi2 mo2 E E2 s s2 hs hs2))
  unfold fn_sums_join
  simp only
  exact MI.cnd (fun _ => MI.cnd (fun _ => MI.eta (nought_mi N mi mi2)) fun _ => MI.cnd (fun _ => MI.const hs2) fun _ => MI.cnd (fun _ => MI.const hs) fun _ => big)
    fun _ => MI.cnd (fun _ => MI.const hs2) fun _ => MI.cnd (fun _ => MI.const hs) fun _ => big
theorem round_z (N : Nat) (hN : 300 ≤ N) (m : Int) : fn_rnd_Round N (eqI m 4, 0, Vec.zero 4, false) m = some (sg (eqI m 4), 0) := by
  obtain ⟨E0, hnear, e0, e1⟩ := near_eq N (eqI m 4, 0, Vec.zero 4, false)
  have hex : fn_rnd_Num_exact N (eqI m 4, E0, Vec.zero 4, false) = some (eqI m 4, E0, Vec.zero 4, false) := rfl
  have hz : eqL (Vec.zero 4).1 (Vec.zero 4).1 = true := by rw [W_zero, W_eq (by decide) (by decide)]; rfl
  rw [round_unf, hnear, Option.bind_some, hex, Option.bind_some, hz, cond_true, sign_eq, Option.bind_some, copy_sg N 0 _ (by decide) (by decide), Option.bind_some, Int.add_zero]
/-- a sum, rounded -/
theorem Sp.sum (N : Nat) (hN : 300 ≤ N) {J : Int → Option NumV} (h : MI J) : Sp (fun m => (J m).bind fun r => (fn_rnd_Round N (r.1, r.2.1, r.2.2.1, r.2.2.2) m).bind fun q => some (q.1, q.2)) := by
  rcases h with ⟨z, hz, h⟩ | h
  · have : (fun m => (J m).bind fun r => (fn_rnd_Round N (r.1, r.2.1, r.2.2.1, r.2.2.2) m).bind fun q => some (q.1, q.2)) = fun m => fn_rnd_Round N z m := funext fun m => by
      rw [h m, Option.bind_some, bind_eta]
    rw [this]
    exact .inr (.inl (round_spec N hN z hz))
  · refine .inr (.inr fun m => ?_)
    show (J m).bind _ = _
    rw [h m, Option.bind_some, round_z N hN m, Option.bind_some]
theorem Sp.rnd (N : Nat) (hN : 300 ≤ N) {x : NumV} (hx : WF x) : Sp (fun m => (fn_rnd_Round N x m).bind fun q => some (q.1, q.2)) :=
  Sp.eta (.inr (.inl (round_spec N hN x hx)))
end Go.Proofs.YtcdhcihjcjpmkaaGreatDoor.Top
/- PLAIN FACTS on the operations, part 2: each answers a number of no mode, rounded. No statement is proved here. -/
namespace Go.Proofs.YtcdhcihjcjpmkaaGreatDoor.Top
open Go Go.RowKit Go.Proofs.YtcdhcihjcjpmkaaGreatDoor.Eng Go.Proofs.YtcdhcihjcjpmkaaGreatDoor.Fns Go.Proofs.YtcdhcihjcjpmkaaGreatDoor.Bw Go.Proofs.YtcdhcihjcjpmkaaGreatDoor.Wid Go.Proofs.YtcdhcihjcjpmkaaGreatDoor.Patp
set_option linter.unusedVariables false
set_option linter.unusedSimpArgs false
/-- a pattern -/
def U (a : Int) : Prop := 0 ≤ a ∧ a < 18446744073709551616
theorem lrd_u {l : List Int} (hl : ∀ x ∈ l, U x) {i : Nat} (hi : i < l.length) : U (lrd l (i : Int)) := by
  have e : lrd l (i : Int) = l[i] := by simp [lrd, List.getD_eq_getElem?_getD, hi]
  rw [e]; exact hl _ (List.getElem_mem _)
theorem snone_loop (N : Nat) (l : List Int) (hl : ∀ x ∈ l, U x) (hb : l.length < 1000) : ∀ n i : Nat, l.length < i + n → i ≤ l.length → ∃ f, l24_0 N n l (l.length : Int) (i : Int) = some (9221120237041090560, f)
  | 0, i, h, h2 => by omega
  | n + 1, i, h, h2 => by
    show ∃ f, s24_0 N (l24_0 N n) l (l.length : Int) (i : Int) = _
    unfold s24_0
    by_cases hi : i < l.length
    · rw [ltI_t (by omega), cond_true, leI_t (by omega), cond_true, cond_true, clsP_eq N _ (lrd_u hl hi).1 (lrd_u hl hi).2, Option.bind_some]
      cases eqI (clsR (lrd l (i : Int))) 5
      · rw [cond_false, addI_i (by omega) (by omega), show (i : Int) + 1 = ((i + 1 : Nat) : Int) by omega]
        exact snone_loop N l hl hb n (i + 1) (by omega) (by omega)
      · exact ⟨1, rfl⟩
    · rw [ltI_f (by omega), cond_false]
      exact ⟨0, rfl⟩
theorem snone2 (N : Nat) (hN : 300 ≤ N) {a b : Int} (ha : U a) (hb : U b) : ∃ f, fn_sums_none N [a, b] = some (9221120237041090560, f) := by
  unfold fn_sums_none t24
  exact snone_loop N [a, b] (by simp [ha, hb]) (by simp) N 0 (by simp; omega) (by simp)
theorem ok_of_nan {a : Int} (ha : U a) (h : nanB a = false) : okP a := ⟨ha.1, ha.2, by unfold nanB at h; simpa using h⟩
theorem sig_nat {a : Int} (ha : U a) : ∃ k : Nat, sigR a = (k : Int) ∧ k < 2 ^ 53 := by
  have h0 : 0 ≤ sigR a ∧ sigR a < 2 ^ 53 := by
    have h1 : 0 ≤ fN a := Int.emod_nonneg _ (by decide)
    have h2 : fN a < 4503599627370496 := Int.emod_lt_of_pos _ (by decide)
    unfold sigR
    split
    · omega
    · split <;> omega
  obtain ⟨k, hk⟩ := Int.eq_ofNat_of_zero_le h0.1
  exact ⟨k, hk, by omega⟩
theorem of_num (N : Nat) (hN : 300 ≤ N) {a : Int} (ha : U a) : ∃ mi E s mo e, fn_rnd_Of N a = some ((mi, E, W s, mo), e) ∧ s < 2 ^ 256 := by
  unfold fn_rnd_Of
  rw [takeP_eq N a ha.1 ha.2, Option.bind_some, finP_eq N a ha.1 ha.2 (by omega), Option.bind_some]
  cases decide (a % 9223372036854775808 < 9218868437227405312)
  · rw [show (!false) = true from rfl, cond_true, W_zero]
    exact ⟨_, _, _, _, _, rfl, by decide⟩
  · obtain ⟨k, hk, hk2⟩ := sig_nat ha
    rw [show (!true) = false from rfl, cond_false]
    simp only [hk]
    rw [of_small N k (by omega), Option.bind_some]
    exact ⟨_, _, _, _, _, rfl, by omega⟩
theorem wrap_u (x : Int) : U (IntKind.u64.wrap x) := by rw [wrap_u64]; exact ⟨by omega, by omega⟩
theorem sign_sg (a b : Int) : ∃ t, andI .u64 (xorI .u64 a b) 9223372036854775808 = sg t := by
  have h : U (xorI .u64 a b) := wrap_u _
  unfold andI
  rw [and_sign _ h.1 h.2]
  split
  · exact ⟨false, rfl⟩
  · exact ⟨true, rfl⟩
theorem inf_sg (t : Bool) : orI .u64 9218868437227405312 (sg t) = sg t + 9218868437227405312 := by cases t <;> decide +kernel
theorem ok_inf (t : Bool) : okP (sg t + 9218868437227405312) := by cases t <;> exact ⟨by decide, by decide, by decide⟩
theorem ok_sg (t : Bool) : okP (sg t) := by cases t <;> exact ⟨by decide, by decide, by decide⟩
end Go.Proofs.YtcdhcihjcjpmkaaGreatDoor.Top
/- PLAIN FACTS on the operations, part 3: sums, products, quotients, roots, products with a sum, by all modes. No statement is proved here. -/
namespace Go.Proofs.YtcdhcihjcjpmkaaGreatDoor.Top
open Go Go.RowKit Go.Proofs.YtcdhcihjcjpmkaaGreatDoor.Eng Go.Proofs.YtcdhcihjcjpmkaaGreatDoor.Fns Go.Proofs.YtcdhcihjcjpmkaaGreatDoor.Bw Go.Proofs.YtcdhcihjcjpmkaaGreatDoor.Wid Go.Proofs.YtcdhcihjcjpmkaaGreatDoor.Patp
set_option linter.unusedVariables false
set_option linter.unusedSimpArgs false
theorem add_rest (N : Nat) (hN : 300 ≤ N) {a b : Int} (ha : U a) (hb : U b) : Sp (fun m => (fn_rnd_Of N a).bind fun r9 =>
    (fn_rnd_Of N b).bind fun r10 =>
     cond (!(isNoneI r9.2))
      ((fn_sums_none N [a, b]).bind fun r11 =>
       some (r11.1, r11.2))
      (cond (!(isNoneI r10.2))
       ((fn_sums_none N [a, b]).bind fun r12 =>
        some (r12.1, r12.2))
       ((fn_sums_join N (r9.1.1, r9.1.2.1, r9.1.2.2.1, r9.1.2.2.2) (r10.1.1, r10.1.2.1, r10.1.2.2.1, r10.1.2.2.2) m).bind fun r13 =>
        (fn_rnd_Round N (r13.1, r13.2.1, r13.2.2.1, r13.2.2.2) m).bind fun r14 =>
         some (r14.1, r14.2)))) := by
  obtain ⟨mi, E, s, mo, e, h1, hs⟩ := of_num N hN ha
  obtain ⟨mi2, E2, s2, mo2, e2, h2, hs2⟩ := of_num N hN hb
  obtain ⟨f, hf⟩ := snone2 N hN ha hb
  refine Sp.bnd h1 (Sp.bnd h2 (Sp.cnd (fun _ => Sp.bnd hf (Sp.nan f)) fun _ => Sp.cnd (fun _ => Sp.bnd hf (Sp.nan f)) fun _ => ?_))
  exact Sp.sum N hN (join_mi N hN mi mo mi2 mo2 E E2 s s2 hs hs2)
theorem add_sp (N : Nat) (hN : 300 ≤ N) {a b : Int} (ha : U a) (hb : U b) : Sp (fun m => fn_sums_Add N a b m) := by
  obtain ⟨f, hf⟩ := snone2 N hN ha hb
  have ca := clsP_eq N a ha.1 ha.2
  have cb := clsP_eq N b hb.1 hb.2
  unfold fn_sums_Add
  refine Sp.bnd (nan_eq N a ha.1 ha.2) (Sp.cnd (fun _ => Sp.bnd hf (Sp.nan f)) fun na => Sp.bnd (nan_eq N b hb.1 hb.2) (Sp.cnd (fun _ => Sp.bnd hf (Sp.nan f)) fun nb => ?_))
  have oa := ok_of_nan ha na
  have ob := ok_of_nan hb nb
  have rest2 : Sp (fun m => (fn_pat_Class N a).bind fun r15 =>
           cond (eqI r15 3)
            (some (a, 0))
            ((fn_pat_Class N b).bind fun r16 =>
             cond (eqI r16 3)
              (some (b, 0))
              ((fn_rnd_Of N a).bind fun r9 =>
    (fn_rnd_Of N b).bind fun r10 =>
     cond (!(isNoneI r9.2))
      ((fn_sums_none N [a, b]).bind fun r11 =>
       some (r11.1, r11.2))
      (cond (!(isNoneI r10.2))
       ((fn_sums_none N [a, b]).bind fun r12 =>
        some (r12.1, r12.2))
       ((fn_sums_join N (r9.1.1, r9.1.2.1, r9.1.2.2.1, r9.1.2.2.2) (r10.1.1, r10.1.2.1, r10.1.2.2.1, r10.1.2.2.2) m).bind fun r13 =>
        (fn_rnd_Round N (r13.1, r13.2.1, r13.2.2.1, r13.2.2.2) m).bind fun r14 =>
         some (r14.1, r14.2)))))) :=
    Sp.bnd ca (Sp.cnd (fun _ => Sp.const oa (.inl rfl)) fun _ => Sp.bnd cb (Sp.cnd (fun _ => Sp.const ob (.inl rfl)) fun _ => add_rest N hN ha hb))
  exact Sp.bnd ca (Sp.cnd (fun _ => Sp.bnd cb (Sp.cnd (fun _ => Sp.cnd (fun _ => Sp.nan 1) fun _ => rest2) fun _ => rest2)) fun _ => rest2)
theorem inf_sp (t : Bool) {f : Int} (hf : f = 0 ∨ f = 2) : Sp (fun _ => some (orI .u64 9218868437227405312 (sg t), f)) := by
  rw [inf_sg]; exact Sp.const (ok_inf t) hf
end Go.Proofs.YtcdhcihjcjpmkaaGreatDoor.Top

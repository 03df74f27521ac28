/- PLAIN FACTS on chapter 4, part 2: the pattern of a number, by any mode: a size, or the next one. No statement is proved here. -/
import Derived.Test.YtopcajgknbmbcaaGreatDoorTop1
namespace Go.Proofs.YtopcajgknbmbcaaGreatDoor.Top
open Go Go.RowKit Go.Proofs.YtopcajgknbmbcaaGreatDoor.Eng Go.Proofs.YtopcajgknbmbcaaGreatDoor.Fns Go.Proofs.YtopcajgknbmbcaaGreatDoor.Bw Go.Proofs.YtopcajgknbmbcaaGreatDoor.Wid Go.Proofs.YtopcajgknbmbcaaGreatDoor.Patp
set_option linter.unusedVariables false
set_option linter.unusedSimpArgs false
noncomputable def tail (N : Nat) (mi : Bool) (n : Int) (v : Vec 4) (m F : Int) : Option (Int × Int) :=
  (fn_wide_Len N v).bind fun r8 =>
   cond (ltI 53 r8)
    ((fn_wide_Shr N v 1).bind fun r9 =>
     cond (ltI 971 (addI .i64 n 1))
      ((fn_rnd_over N mi m).bind fun r10 =>
       some (r10, 20))
      (cond (leI 4503599627370496 (Vec.rd r9.1 0))
       ((fn_rnd_sign N mi).bind fun r11 =>
        (fn_pat_Copy N (addI .u64 (Vec.rd r9.1 0) (shlI .u64 (cvI .u64 (subI .i64 (addI .i64 n 1) (-1074))) 52)) r11).bind fun r12 =>
         some (r12, F))
       ((fn_rnd_sign N mi).bind fun r13 =>
        (fn_pat_Copy N (Vec.rd r9.1 0) r13).bind fun r14 =>
         some (r14, F))))
    (cond (ltI 971 n)
     ((fn_rnd_over N mi m).bind fun r15 =>
      some (r15, 20))
     (cond (leI 4503599627370496 (Vec.rd v 0))
      ((fn_rnd_sign N mi).bind fun r16 =>
       (fn_pat_Copy N (addI .u64 (Vec.rd v 0) (shlI .u64 (cvI .u64 (subI .i64 n (-1074))) 52)) r16).bind fun r17 =>
        some (r17, F))
      ((fn_rnd_sign N mi).bind fun r18 =>
       (fn_pat_Copy N (Vec.rd v 0) r18).bind fun r19 =>
        some (r19, F))))
theorem round_unf (N : Nat) (x : NumV) (m : Int) : fn_rnd_Round N x m = (fn_rnd_Num_near N (x.1, x.2.1, x.2.2.1, x.2.2.2)).bind fun r1 =>
   (fn_rnd_Num_exact N (r1.1, r1.2.1, r1.2.2.1, r1.2.2.2)).bind fun r2 =>
    cond (eqL r2.2.2.1.1 (Vec.zero 4).1)
     ((fn_rnd_sign N r2.1).bind fun r3 =>
      (fn_pat_Copy N 0 r3).bind fun r4 =>
       some (r4, 0))
     ((fn_wide_Len N r2.2.2.1).bind fun r5 =>
      (fn_rnd_Num_to N (r2.1, r2.2.1, r2.2.2.1, r2.2.2.2) (maxI (subI .i64 (addI .i64 r2.2.1 r5) 53) (-1074)) m).bind fun r6 =>
       cond r6.2
        ((fn_rnd_Num_tiny N (r2.1, r2.2.1, r2.2.2.1, r2.2.2.2) (addI .i64 r2.2.1 r5) m).bind fun r7 =>
         cond r7 (tail N r2.1 (maxI (subI .i64 (addI .i64 r2.2.1 r5) 53) (-1074)) r6.1 m (orI .u8 16 8)) (tail N r2.1 (maxI (subI .i64 (addI .i64 r2.2.1 r5) 53) (-1074)) r6.1 m 16))
        (tail N r2.1 (maxI (subI .i64 (addI .i64 r2.2.1 r5) 53) (-1074)) r6.1 m 0)) := rfl
theorem sign_eq (N : Nat) (mi : Bool) : fn_rnd_sign N mi = some (sg mi) := by cases mi <;> rfl
theorem copy_sg (N : Nat) (a : Int) (mi : Bool) (h0 : 0 ≤ a) (h1 : a < 9223372036854775808) : fn_pat_Copy N a (sg mi) = some (sg mi + a) := by
  have hm : a % 9223372036854775808 = a := Int.emod_eq_of_lt h0 h1
  cases mi
  · rw [copyP_eq N a (sg false) h0 (by omega) (by decide) (by decide), if_pos (by decide), hm, show sg false = 0 from rfl, Int.zero_add]
  · rw [copyP_eq N a (sg true) h0 (by omega) (by decide) (by decide), if_neg (by decide), hm, show sg true = 9223372036854775808 from rfl, Int.add_comm]
theorem rd0 (q : Nat) (h : q < 2 ^ 64) : Vec.rd (W q) 0 = (q : Int) := by
  have := rd_W (x := q) (i := 0) (by decide)
  rw [show ((0 : Nat) : Int) = 0 from rfl] at this
  rw [this, Nat.mul_zero, Nat.pow_zero, Nat.div_one, Nat.mod_eq_of_lt h]
/-- the pattern of q times 2^n -/
theorem pack (N : Nat) (q : Nat) (n : Int) (h0 : -1074 ≤ n) (h1 : n ≤ 971) (hq : q < 2 ^ 53) : addI .u64 (q : Int) (shlI .u64 (cvI .u64 (subI .i64 n (-1074))) 52) = (q : Int) + (n + 1074) * 4503599627370496 := by
  rw [subI_i (by omega) (by omega)]
  obtain ⟨k, hk⟩ := Int.eq_ofNat_of_zero_le (show 0 ≤ n + 1074 by omega)
  have hk' : k ≤ 2045 := by omega
  rw [show n - -1074 = (k : Int) by omega, cvI_u (by omega) (by omega), show (52 : Int) = ((52 : Nat) : Int) from rfl, shlI_n (by decide), hk]
  have e : k * 2 ^ 52 % 18446744073709551616 = k * 4503599627370496 := Nat.mod_eq_of_lt (by omega)
  rw [e, addI_u (by omega) (by omega)]
  omega
theorem tail_eq (N : Nat) (hN : 300 ≤ N) (mi : Bool) (n : Int) (q : Nat) (m F : Int) (hq : q ≤ 2 ^ 53) (h0 : -1074 ≤ n) (h1 : n ≤ 200000) (h2 : -1074 < n → 2 ^ 52 ≤ q) :
    tail N mi n (W q) m F = some (if 971 < n ∨ (n = 971 ∧ q = 2 ^ 53) then (sg mi + cond (lowB mi m) 9218868437227405311 9218868437227405312, 20) else (sg mi + ((q : Int) + (n + 1074) * 4503599627370496), F)) := by
  have hq' : q < 2 ^ 256 := Nat.lt_of_le_of_lt hq (by decide)
  unfold tail
  rw [len_eq N hN q hq', Option.bind_some]
  by_cases h53 : q = 2 ^ 53
  · subst h53
    have hl : lenN (2 ^ 53) = 54 := lenU (by decide) (.inr (by decide))
    rw [hl, show ltI 53 ((54 : Nat) : Int) = true from rfl, cond_true, shr_eq N hN _ hq', Option.bind_some, addI_i (by omega) (by omega)]
    have hs : shrZ (2 ^ 53) 1 = 2 ^ 52 := by decide
    by_cases hn : 971 < n + 1
    · rw [ltI_t hn, cond_true, over_eq, Option.bind_some, if_pos (by omega)]
    · rw [ltI_f hn, cond_false]
      simp only [hs]
      rw [rd0 _ (by decide), leI_t (by decide), cond_true, sign_eq, Option.bind_some, pack N (2 ^ 52) (n + 1) (by omega) (by omega) (by decide), copy_sg N _ mi (by omega) (by omega), Option.bind_some, if_neg (by omega)]
      congr 3
      omega
  · have hlt : q < 2 ^ 53 := by omega
    have hl : lenN q ≤ 53 := lenN_le hlt
    rw [ltI_f (by omega), cond_false]
    by_cases hn : 971 < n
    · rw [ltI_t hn, cond_true, over_eq, Option.bind_some, if_pos (.inl hn)]
    · rw [ltI_f hn, cond_false, rd0 _ (by omega), if_neg (by omega)]
      by_cases hb : (4503599627370496 : Int) ≤ (q : Int)
      · rw [leI_t hb, cond_true, sign_eq, Option.bind_some, pack N q n h0 (by omega) hlt, copy_sg N _ mi (by omega) (by omega), Option.bind_some]
      · rw [leI_f hb, cond_false, sign_eq, Option.bind_some, copy_sg N _ mi (by omega) (by omega), Option.bind_some]
        have : n = -1074 := by
          rcases Int.lt_or_le (-1074) n with h | h
          · have := h2 h; omega
          · omega
        congr 3
        omega
end Go.Proofs.YtopcajgknbmbcaaGreatDoor.Top

/- PROVED HERE: NatTexts' pure statement, over the functions that eng2.py printed: the digits of any number; the number of any digits, or the error. No condition beyond the arguments' kinds. -/
import Derived.Test.YtoihjgfnocimjaaDoorTxt2
import Derived.Test.YtoihjgfnocimjaaDoorFnNatTexts
namespace Go.Proofs.YtoihjgfnocimjaaDoor
open Go Eng Fns Bw Dig Nt Num Slc
open Rn (X Y b32 b16 cmpZ)
set_option linter.unusedSimpArgs false
set_option linter.unusedVariables false
theorem sure_eq : fn_tillerlaw02_sure 100000 = some true := by kernel_rfl
theorem bnd {α β : Type} {x : Option α} {a : α} {f : α → Option β} {r : Option β} (h : x = some a) (h2 : f a = r) : x.bind f = r := by rw [h, Option.bind_some]; exact h2
theorem cnT {β : Type} {b : Bool} {x y r : β} (h : b = true) (h2 : x = r) : cond b x y = r := by rw [h]; exact h2
theorem cnF {β : Type} {b : Bool} {x y r : β} (h : b = false) (h2 : y = r) : cond b x y = r := by rw [h]; exact h2
theorem num_eq (N : Nat) (x : Option Int) : fn_num N x = some (x.getD 0) := rfl
/-- what comes behind: the number's digits, or the error -/
noncomputable def tailF (x0 : List Int) (r3 : ByteArray × Option Int) : Option Bool :=
  (fn_tillerlaw02_is 100000 x0).bind fun r17 =>
   cond (!(r17))
    ((fn_num 100000 r3.2).bind fun r18 =>
     cond (eqI r18 1)
      (cond (eqS r3.1 (⟨#[]⟩ : ByteArray))
       ((fn_tillerlaw02_sure 100000).bind fun r19 =>
        some r19)
       (some false))
      (some false))
    ((fn_nat_Parse 100000 r3.1).bind fun r20 =>
     cond (isNoneI r3.2)
      (cond (isNoneI r20.2)
       ((fn_tillerref02_From 100000 x0).bind fun r21 =>
        (fn_tillerref02_Decimal 100000 r21).bind fun r22 =>
         cond (eqS r3.1 r22)
          ((fn_tillerlaw02_words 100000 r20.1 x0).bind fun r23 =>
           cond r23
            ((fn_tillerlaw02_sure 100000).bind fun r24 =>
             some r24)
            (some false))
          (some false))
       (some false))
      (some false))
theorem eqS_self (s : ByteArray) : eqS s s = true := by unfold eqS; exact beq_self_eq_true _
theorem tail_bad (xs : List Int) (h : bad xs) (hl : xs.length < 9223372036854775808) : tailF xs ((⟨#[]⟩ : ByteArray), some 1) = some true := by
  unfold tailF
  exact bnd (is_bad 100000 xs h hl) (cnT rfl (bnd (num_eq _ _) (cnT rfl (cnT (eqS_self _) (bnd sure_eq rfl)))))
theorem tail_ok (n : Nat) (hn : dl 4294967296 n ≤ 30) : tailF (Y n) (DS n, none) = some true := by
  have h16 := dl_16_le n
  have h10' : ∀ K, K = 300 → dl 10 n ≤ K := by
    intro K hK
    apply dl_le b10
    refine Nat.lt_of_lt_of_le (dl_lt b32 n) ?_
    have h1 : (4294967296 : Nat) ≤ 10 ^ 10 := by decide
    refine Nat.le_trans (Nat.pow_le_pow_left h1 _) ?_
    rw [← Nat.pow_mul]
    exact Nat.pow_le_pow_right (by decide) (by omega)
  have h10 := h10' 300 rfl
  have hsz : (DS n).size ≤ 300 := by rw [DS_size]; omega
  have k1 := parse_eq 100000 (DS n) (by omega) (by omega) (by omega)
  rw [natR_DS] at k1
  have k2 := Rn.from_Y 100000 n (by omega) (by omega)
  have k3 := refDecimal_eq 100000 n (by omega) (by omega)
  have k4 := words_Y 100000 n n (by omega) (by omega)
  rw [decide_eq_true rfl] at k4
  unfold tailF
  exact bnd (is_Y 100000 n (by omega)) (cnF rfl (bnd k1 (cnT rfl (cnT rfl (bnd k2 (bnd k3 (cnT (eqS_self _) (bnd k4 (cnT rfl (bnd sure_eq rfl))))))))))
theorem tail_eq (xs : List Int) (h : okL .u32 xs) (hl : xs.length ≤ 30) : ∃ r3, fn_nat_Decimal 100000 xs = some r3 ∧ tailF xs r3 = some true := by
  rcases nat_cases xs h with ⟨n, hn, hnl, rfl⟩ | hbad
  · rw [D_len] at hl
    exact ⟨_, decimal_eq 100000 n (by omega) (by omega) (by omega), tail_ok n hl⟩
  · exact ⟨_, decimal_bad 100000 xs (check_bad 100000 xs hbad (by omega)), tail_bad xs hbad (by omega)⟩
theorem pure_NatTexts : ∀ (a0 : List Int) (a1 : ByteArray), okL .u32 a0 ∧ a0.length ≤ maxLen → a1.size ≤ maxLen → ∃ N, fn_tillerlaw02_NatTexts N a0 a1 = some true := by
  intro xs s ⟨hx, hxl⟩ hs
  unfold maxLen at hxl hs
  refine ⟨100000, ?_⟩
  by_cases h1 : 30 < xs.length
  · exact cnT (ltI_t (by omega)) (bnd sure_eq rfl)
  by_cases h2 : 300 < s.size
  · exact cnF (ltI_f (by omega)) (cnT (ltI_t (by omega)) (bnd sure_eq rfl))
  obtain ⟨r3, k3, kt⟩ := tail_eq xs hx (by omega)
  have k4 := parse_eq 100000 s (by omega) (by omega) (by omega)
  have k5 := refParse_eq 100000 s (by omega) (by omega)
  have l1 : ltI 30 (xs.length : Int) = false := ltI_f (by omega)
  have l2 : ltI 300 (s.size : Int) = false := ltI_f (by omega)
  unfold fn_tillerlaw02_NatTexts
  refine cnF l1 (cnF l2 (bnd k3 (bnd k4 (bnd k5 ?_))))
  by_cases hg : good s
  · by_cases h0 : s.size = 0
    · have e4 : natR s = ([], some 3) := by unfold natR; rw [if_pos (.inl h0)]
      have e5 : refR s = (X (vv s s.size), false) := by unfold refR; rw [if_neg (by simp [hg]), ltI_f (by omega)]
      rw [e4, e5]
      exact cnF rfl (cnF rfl (cnT rfl (bnd (num_eq _ _) (cnF rfl kt))))
    · have e4 : natR s = (Y (vv s s.size), none) := by unfold natR; rw [if_neg (by rintro (h | h); exact h0 h; exact h hg)]
      have e5 : refR s = (X (vv s s.size), true) := by unfold refR; rw [if_neg (by simp [hg]), ltI_t (by omega)]
      have hv := vv_lt s s.size hg
      have d32 := dl_ten hv
      have d16 := dl_16_le (vv s s.size)
      have k6 := Words_eq 100000 (vv s s.size) (by omega) (by omega)
      have k7 := words_Y 100000 (vv s s.size) (vv s s.size) (by omega) (by omega)
      rw [decide_eq_true rfl] at k7
      rw [e4, e5]
      exact cnF rfl (cnT rfl (bnd k6 (bnd k7 (cnF rfl (cnF rfl kt)))))
  · have e4 : natR s = ([], some 3) := by unfold natR; rw [if_pos (.inr hg)]
    have e5 : refR s = ([], false) := by unfold refR; rw [if_pos hg]
    rw [e4, e5]
    exact cnF rfl (cnF rfl (cnT rfl (bnd (num_eq _ _) (cnF rfl kt))))
end Go.Proofs.YtoihjgfnocimjaaDoor

/- TopTexts, in plain Lean: what the law's function computes is true. No statement is proved here. -/
import Derived.Test.YtcdhcihjcjpmkaaGreatDoorGred
import Derived.Test.YtcdhcihjcjpmkaaGreatDoorFnTopTexts
import Derived.Test.YtcdhcihjcjpmkaaGreatDoorEng13
import Derived.KernelRfl
namespace Go.Proofs.YtcdhcihjcjpmkaaGreatDoor.Shw
open Go Eng Fns Bw Dig Nt Num Slc
open Go.Proofs.YtcdhcihjcjpmkaaGreatDoor.Patp
open Go.Proofs.YtcdhcihjcjpmkaaGreatDoor.Top (sg okP okF mn sz okF_nan okF_cls)
set_option linter.unusedVariables false
set_option linter.unusedSimpArgs false
set_option maxRecDepth 100000
theorem sure_true : fn_tillertop_sure 100000 = some true := by kernel_rfl
theorem inner_inf (mi : Bool) (m : Int) : inner 100000 mi (bl [105, 110, 102]) m = some (cond mi 18442240474082181120 9218868437227405312, 0, none) := by
  unfold inner
  refine cT (eqS_bl [105, 110, 102] [105, 110, 102]) ?_
  cases mi
  · rfl
  · exact cT rfl (bd (neg_inf 100000) rfl)
theorem inner_nan (mi : Bool) (m : Int) : inner 100000 mi (bl [110, 97, 110]) m = some (9221120237041090560, 0, none) := by
  unfold inner
  exact cF (eqS_bl [110, 97, 110] [105, 110, 102]) (cT (eqS_bl [110, 97, 110] [110, 97, 110]) rfl)
theorem short_special {p : Int} {t : ByteArray} (h : fn_show_special 100000 p = some (t, true)) : fn_show_Short 100000 p = some t := by
  unfold fn_show_Short t6
  exact bd h (cT rfl rfl)
theorem hex_special {p : Int} {t : ByteArray} (h : fn_show_special 100000 p = some (t, true)) : fn_show_Hex 100000 p = some t := by
  unfold fn_show_Hex
  exact bd h (cT rfl rfl)
theorem special_nan {p : Int} (h0 : 0 ≤ p) (h1 : p < 18446744073709551616) (h : nanB p = true) : fn_show_special 100000 p = some (bl [110, 97, 110], true) := by
  unfold fn_show_special
  exact bd (takeP_eq 100000 p h0 h1) (bd (nan_eq 100000 p h0 h1) (cT h rfl))
theorem special_inf {p : Int} (h0 : 0 ≤ p) (h1 : p < 18446744073709551616) (h : p % 9223372036854775808 = 9218868437227405312) : fn_show_special 100000 p = some (bl (cond (mn p) [45] [] ++ [105, 110, 102]), true) := by
  have hn : nanB p = false := decide_eq_false (by omega)
  have hc : eqI (clsR p) 3 = true := by
    refine eqI_t ?_
    have h3 : eN p = 2047 := by unfold eN; omega
    have h4 : fN p = 0 := by unfold fN; omega
    unfold clsR
    rw [if_pos h3, if_neg (by omega), if_neg (by omega)]
  have hm : decide (9223372036854775808 ≤ p) = mn p := rfl
  unfold fn_show_special
  refine bd (takeP_eq 100000 p h0 h1) (bd (nan_eq 100000 p h0 h1) (cF hn (cT hc ?_)))
  simp only
  rw [hm]
  cases mn p
  · exact cF rfl (cT hc rfl)
  · exact cT rfl rfl
/-- any pattern, told in two ways, and read -/
theorem told {p : Int} (h0 : 0 ≤ p) (h1 : p < 18446744073709551616) (m : Int) : ∃ t1 t2 q G, fn_show_Short 100000 p = some t1 ∧ fn_read_Parse 100000 t1 0 = some (q, G, none) ∧ fn_show_Hex 100000 p = some t2 ∧ fn_read_Parse 100000 t2 m = some (q, 0, none) ∧ (p % 9223372036854775808 ≤ 9218868437227405312 → q = p) ∧ (p = 9221120237041090560 → q = p) := by
  by_cases hf : p % 9223372036854775808 < 9218868437227405312
  · have hp : okF p := ⟨⟨h0, h1⟩, by unfold sz; omega⟩
    rcases Nat.eq_zero_or_pos (sz p) with hz | hz
    · obtain ⟨t1, G, a1, a2⟩ := short_zero hp hz
      obtain ⟨t2, b1, b2⟩ := hex_zero hp hz m
      exact ⟨t1, t2, p, G, a1, a2, b1, b2, fun _ => rfl, fun _ => rfl⟩
    · obtain ⟨t1, G, a1, a2⟩ := short_read hp hz
      obtain ⟨t2, b1, b2⟩ := hex_read hp hz m
      exact ⟨t1, t2, p, G, a1, a2, b1, b2, fun _ => rfl, fun _ => rfl⟩
  · by_cases hi : p % 9223372036854775808 = 9218868437227405312
    · have hs := special_inf h0 h1 hi
      have hr : ∀ m, fn_read_Parse 100000 (bl (cond (mn p) [45] [] ++ [105, 110, 102])) m = some (p, 0, none) := by
        intro m
        rw [parse_sign (mn p) 105 [110, 102] (by decide) (by decide) (by decide), inner_inf]
        congr 2
        unfold mn
        by_cases h : (9223372036854775808 : Int) ≤ p
        · rw [decide_eq_true h, cond_true]; omega
        · rw [decide_eq_false h, cond_false]; omega
      exact ⟨_, _, p, 0, short_special hs, hr 0, hex_special hs, hr m, fun _ => rfl, fun _ => rfl⟩
    · have hn : nanB p = true := decide_eq_true (by omega)
      have hs := special_nan h0 h1 hn
      have hr : ∀ m, fn_read_Parse 100000 (bl [110, 97, 110]) m = some (9221120237041090560, 0, none) := by
        intro m
        rw [parse_plain 110 [97, 110] (by decide) (by decide) (by decide), inner_nan]
      exact ⟨_, _, _, 0, short_special hs, hr 0, hex_special hs, hr m, fun h => by omega, fun h => h.symm⟩
/-- the text's part of the law -/
noncomputable def second (x1 : ByteArray) (x2 : Int) : Option Bool :=
  (fn_read_Parse 100000 x1 x2).bind fun r6 =>
   cond (!(isNoneI r6.2.2))
    ((fn_tillertop_sure 100000).bind fun r7 => some r7)
    ((fn_show_Short 100000 r6.1).bind fun r8 =>
     (fn_read_Parse 100000 r8 0).bind fun r9 =>
      (fn_show_Hex 100000 r6.1).bind fun r10 =>
       (fn_read_Parse 100000 r10 x2).bind fun r11 =>
        cond (isNoneI r9.2.2)
         (cond (isNoneI r11.2.2)
          (cond (eqI r11.2.1 0)
           (cond (eqI r9.1 r6.1)
            (cond (eqI r11.1 r6.1)
             ((fn_tillertop_sure 100000).bind fun r12 => some r12)
             (some false))
            (some false))
           (some false))
          (some false))
         (some false))
theorem law_unf (x0 : Int) (x1 : ByteArray) (x2 : Int) : fn_tillertop_TopTexts 100000 x0 x1 x2 = cond (ltI 1000 (x1.size : Int))
   ((fn_tillertop_sure 100000).bind fun r1 => some r1)
   ((fn_show_Short 100000 x0).bind fun r2 =>
    (fn_read_Parse 100000 r2 0).bind fun r3 =>
     (fn_show_Hex 100000 x0).bind fun r4 =>
      (fn_read_Parse 100000 r4 x2).bind fun r5 =>
       cond (!(isNoneI r3.2.2))
        (some false)
        (cond (!(isNoneI r5.2.2))
         (some false)
         (cond (!(eqI r5.2.1 0))
          (some false)
          (cond (!(eqI r3.1 r5.1))
           (some false)
           (cond (leI (bicI .u64 x0 9223372036854775808) 9218868437227405312)
            (cond (!(eqI r3.1 x0))
             (some false)
             (second x1 x2))
            (second x1 x2)))))) := rfl
theorem sure_bd : ((fn_tillertop_sure 100000).bind fun r => some r) = some true := bd sure_true rfl
theorem eqI_self (a : Int) : eqI a a = true := eqI_t rfl
theorem second_true (s : ByteArray) (hs : s.size ≤ 1000) (m : Int) : second s m = some true := by
  have hl : s.data.toList.length ≤ 1000 := by simpa using hs
  obtain ⟨q, f, h, hp, hq⟩ := parse_tot s.data.toList hl m
  rw [← bl_all] at hp
  unfold second
  refine bd hp ?_
  cases h with
  | some e => exact cT rfl sure_bd
  | none =>
    refine cF rfl ?_
    have hq := hq rfl
    have hu : 0 ≤ q ∧ q < 18446744073709551616 := by
      rcases hq with h | h
      · subst h; decide
      · exact ⟨h.1, h.2.1⟩
    obtain ⟨t1, t2, r, G, a1, a2, b1, b2, c1, c2⟩ := told hu.1 hu.2 m
    have hr : r = q := by
      rcases hq with h | h
      · exact c2 h
      · exact c1 h.2.2
    subst hr
    refine bd a1 (bd a2 (bd b1 (bd b2 ?_)))
    exact cT rfl (cT rfl (cT rfl (cT (eqI_self r) (cT (eqI_self r) sure_bd))))
end Go.Proofs.YtcdhcihjcjpmkaaGreatDoor.Shw
namespace Go.Proofs.YtcdhcihjcjpmkaaGreatDoor
open Go Eng Fns Bw Shw
theorem pure_TopTexts : ∀ (a0 : Int) (a1 : ByteArray) (a2 : Int), okN .u64 a0 → a1.size ≤ maxLen → okN .i64 a2 → ∃ N, fn_tillertop_TopTexts N a0 a1 a2 = some true := by
  intro p s m hp _ _
  obtain ⟨h0, h1⟩ := u64_in hp
  refine ⟨100000, ?_⟩
  rw [law_unf]
  by_cases hs : 1000 < s.size
  · exact cT (ltI_t (by omega)) sure_bd
  · obtain ⟨t1, t2, q, G, a1, a2, b1, b2, c1, c2⟩ := told h0 h1 m
    have e : bicI .u64 p 9223372036854775808 = p % 9223372036854775808 := andNot_sign p h0 h1
    have h2 := second_true s (by omega) m
    refine cF (ltI_f (by omega)) (bd a1 (bd a2 (bd b1 (bd b2 ?_))))
    refine cF rfl (cF rfl (cF rfl (cF (by rw [eqI_self]; rfl) ?_)))
    rw [e]
    by_cases hle : p % 9223372036854775808 ≤ 9218868437227405312
    · have hq := c1 hle
      subst hq
      exact cT (leI_t hle) (cF (by rw [eqI_self]; rfl) h2)
    · exact cF (leI_f hle) h2
end Go.Proofs.YtcdhcihjcjpmkaaGreatDoor

/- TopSides, in plain Lean: what the law's function computes is true. No statement is proved here. -/
import Derived.Test.YtidoegjemkdnlaaGreatDoorTop7
import Derived.Test.YtidoegjemkdnlaaGreatDoorSure
import Derived.Test.YtidoegjemkdnlaaGreatDoorEng13
namespace Go.Proofs.YtidoegjemkdnlaaGreatDoor
open Go Go.RowKit Go.Proofs.YtidoegjemkdnlaaGreatDoor.Eng Go.Proofs.YtidoegjemkdnlaaGreatDoor.Fns Go.Proofs.YtidoegjemkdnlaaGreatDoor.Bw Go.Proofs.YtidoegjemkdnlaaGreatDoor.Wid Go.Proofs.YtidoegjemkdnlaaGreatDoor.Patp Go.Proofs.YtidoegjemkdnlaaGreatDoor.Top
set_option linter.unusedVariables false
set_option linter.unusedSimpArgs false
noncomputable def law (S : Option Bool) (N : Nat) (r1 r2 r3 r4 : Int × Int) : Option Bool :=
      cond (eqI r1.1 9221120237041090560)
       (cond (eqI r1.1 r2.1)
        (cond (eqI r3.1 r1.1)
         (cond (eqI r1.2 r2.2)
          (cond (eqI r1.2 r3.2)
           (S.bind fun r5 =>
            some r5)
           (some false))
          (some false))
         (some false))
        (some false))
       (cond (eqI r2.1 9221120237041090560)
        (cond (eqI r1.1 r2.1)
         (cond (eqI r3.1 r1.1)
          (cond (eqI r1.2 r2.2)
           (cond (eqI r1.2 r3.2)
            (S.bind fun r6 =>
             some r6)
            (some false))
           (some false))
          (some false))
         (some false))
        ((fn_order_Compare N r1.1 r2.1).bind fun r7 =>
         cond (!(eqB (eqI (andI .u8 r1.2 16) 0) (eqI (andI .u8 r2.2 16) 0)))
          (some false)
          (cond (!(eqB (eqI (andI .u8 r1.2 16) 0) (eqI (andI .u8 r3.2 16) 0)))
           (some false)
           (cond (ltI 0 r7.1)
            (some false)
            (cond (!(eqB (eqI (andI .u8 r1.2 16) 0) (eqI r7.1 0)))
             (some false)
             (cond (!(eqI (andI .u8 r1.2 1) 0))
              (some false)
              (cond (eqI (andI .u8 r1.2 16) 0)
               ((fn_order_Compare N r3.1 r1.1).bind fun r8 =>
                cond (eqI r8.1 0)
                 (S.bind fun r9 =>
                  some r9)
                 (some false))
               (cond (!(eqI r3.1 r1.1))
                (cond (!(eqI r3.1 r2.1))
                 (some false)
                 (cond (!(eqI (andI .u64 r1.1 9223372036854775808) 0))
                  (cond (eqI r4.1 r2.1)
                   (cond (eqI (bicI .u64 r1.1 9223372036854775808) (addI .u64 (bicI .u64 r2.1 9223372036854775808) 1))
                    (S.bind fun r10 =>
                     some r10)
                    (some false))
                   (some false))
                  (cond (eqI r4.1 r1.1)
                   (cond (eqI r2.1 (addI .u64 r1.1 1))
                    (S.bind fun r11 =>
                     some r11)
                    (some false))
                   (some false))))
                (cond (!(eqI (andI .u64 r1.1 9223372036854775808) 0))
                 (cond (eqI r4.1 r2.1)
                  (cond (eqI (bicI .u64 r1.1 9223372036854775808) (addI .u64 (bicI .u64 r2.1 9223372036854775808) 1))
                   (S.bind fun r12 =>
                    some r12)
                   (some false))
                  (some false))
                 (cond (eqI r4.1 r1.1)
                  (cond (eqI r2.1 (addI .u64 r1.1 1))
                   (S.bind fun r13 =>
                    some r13)
                   (some false))
                  (some false)))))))))))
theorem law_unf (N : Nat) (x0 : Vec 3) (x1 x2 : Int) : fn_tillertop_TopSides N x0 x1 x2 =
  (fn_tillertop_do N (cvI .i64 (remI .u64 (cvI .u64 x1) 5)) (Vec.rd x0 0) (Vec.rd x0 1) (Vec.rd x0 2) 4).bind fun r1 =>
   (fn_tillertop_do N (cvI .i64 (remI .u64 (cvI .u64 x1) 5)) (Vec.rd x0 0) (Vec.rd x0 1) (Vec.rd x0 2) 3).bind fun r2 =>
    (fn_tillertop_do N (cvI .i64 (remI .u64 (cvI .u64 x1) 5)) (Vec.rd x0 0) (Vec.rd x0 1) (Vec.rd x0 2) x2).bind fun r3 =>
     (fn_tillertop_do N (cvI .i64 (remI .u64 (cvI .u64 x1) 5)) (Vec.rd x0 0) (Vec.rd x0 1) (Vec.rd x0 2) 2).bind fun r4 => law (fn_tillertop_sure N) N r1 r2 r3 r4 := rfl
theorem law_nan (N : Nat) (f : Int) (r4 : Int × Int) : law (some true) N (9221120237041090560, f) (9221120237041090560, f) (9221120237041090560, f) r4 = some true := by
  unfold law
  exact cnT rfl (cnT rfl (cnT rfl (cnT (eqI_t rfl) (cnT (eqI_t rfl) rfl))))
theorem not_nan {p : Int} (hp : okP p) : eqI p 9221120237041090560 = false := eqI_f (fun h => by have := hp.2.2; rw [h] at this; revert this; decide)
theorem cmp_same (N : Nat) {p : Int} (hp : okP p) : fn_order_Compare N p p = some (0, 0) := by rw [compare_eq N hp hp, if_pos (.inr rfl)]
theorem law_const (N : Nat) {p f : Int} (hp : okP p) (hf : f = 0 ∨ f = 2) (r4 : Int × Int) : law (some true) N (p, f) (p, f) (p, f) r4 = some true := by
  have h16 : andI .u8 f 16 = 0 := by rcases hf with rfl | rfl <;> decide +kernel
  have h1 : andI .u8 f 1 = 0 := by rcases hf with rfl | rfl <;> decide +kernel
  unfold law
  simp only [h16, h1]
  exact cnF (not_nan hp) (cnF (not_nan hp) (bnd (cmp_same N hp) (cnF rfl (cnF rfl (cnF rfl (cnF rfl (cnF rfl (cnT rfl (bnd (cmp_same N hp) (cnT rfl rfl))))))))))
theorem law_zero (N : Nat) (t : Bool) (r4 : Int × Int) : law (some true) N (9223372036854775808, 0) (0, 0) (sg t, 0) r4 = some true := by
  have h16 : andI .u8 0 16 = 0 := by decide +kernel
  have h1 : andI .u8 0 1 = 0 := by decide +kernel
  have c1 : fn_order_Compare N 9223372036854775808 0 = some (0, 0) := by
    rw [compare_eq N (p := 9223372036854775808) (q := 0) ⟨by decide, by decide, by decide⟩ ⟨by decide, by decide, by decide⟩, if_pos (.inl ⟨by decide, by decide⟩)]
  have c2 : fn_order_Compare N (sg t) 9223372036854775808 = some (0, 0) := by
    rw [compare_eq N (p := sg t) (q := 9223372036854775808) (ok_sg t) ⟨by decide, by decide, by decide⟩, if_pos (.inl ⟨by cases t <;> decide, by decide⟩)]
  unfold law
  simp only [h16, h1]
  exact cnF rfl (cnF rfl (bnd c1 (cnF rfl (cnF rfl (cnF rfl (cnF rfl (cnF rfl (cnT rfl (bnd c2 (cnT rfl rfl))))))))))
theorem fl16 {f : Int} (h : f = 16 ∨ f = 24 ∨ f = 20) : andI .u8 f 16 = 16 ∧ andI .u8 f 1 = 0 := by rcases h with rfl | rfl | rfl <;> exact ⟨by decide +kernel, by decide +kernel⟩
theorem law_plus (N : Nat) {b f g h : Int} (u : Bool) (r : Int) (h0 : 0 ≤ b) (h1 : b + 1 ≤ 9218868437227405312) (hf : f = 16 ∨ f = 24 ∨ f = 20) (hg : g = 16 ∨ g = 24 ∨ g = 20) (hh : h = 16 ∨ h = 24 ∨ h = 20) :
    law (some true) N (b, f) (b + 1, g) (b + cond u 1 0, h) (b, r) = some true := by
  obtain ⟨f1, f2⟩ := fl16 hf
  obtain ⟨g1, _⟩ := fl16 hg
  obtain ⟨k1, _⟩ := fl16 hh
  have ob : okP b := ⟨h0, by omega, by omega⟩
  have oc : okP (b + 1) := ⟨by omega, by omega, by omega⟩
  have cc : fn_order_Compare N b (b + 1) = some (-1, 0) := by
    rw [compare_eq N ob oc, if_neg (by omega), if_pos (by unfold keyZ; rw [if_pos (by omega), if_pos (by omega)]; omega)]
  have hs : andI .u64 b 9223372036854775808 = 0 := by
    have := and_sign b h0 (by omega); rw [if_pos (by omega)] at this; exact this
  have ha : addI .u64 b 1 = b + 1 := addI_u (by omega) (by omega)
  have fin : cond (!(eqI (0 : Int) 0)) (cond (eqI b (b + 1)) (cond (eqI (bicI .u64 b 9223372036854775808) (addI .u64 (bicI .u64 (b + 1) 9223372036854775808) 1)) ((some true).bind fun r10 => some r10) (some false)) (some false))
      (cond (eqI b b) (cond (eqI (b + 1) (b + 1)) ((some true).bind fun r11 => some r11) (some false)) (some false)) = some true :=
    cnF rfl (cnT (eqI_t rfl) (cnT (eqI_t rfl) rfl))
  unfold law
  simp only [f1, f2, g1, k1, hs, ha]
  refine cnF (not_nan ob) (cnF (not_nan oc) (bnd cc (cnF rfl (cnF rfl (cnF rfl (cnF rfl (cnF rfl (cnF rfl ?_))))))))
  cases u
  · exact cnF (by rw [cond_false, Int.add_zero, eqI_t rfl]; rfl) fin
  · exact cnT (by rw [cond_true, eqI_f (by omega)]; rfl) (cnF (by rw [cond_true, eqI_t rfl]; rfl) fin)
theorem law_minus (N : Nat) {b f g h : Int} (u : Bool) (r : Int) (h0 : 0 ≤ b) (h1 : b + 1 ≤ 9218868437227405312) (hf : f = 16 ∨ f = 24 ∨ f = 20) (hg : g = 16 ∨ g = 24 ∨ g = 20) (hh : h = 16 ∨ h = 24 ∨ h = 20) :
    law (some true) N (9223372036854775808 + b + 1, f) (9223372036854775808 + b, g) (9223372036854775808 + b + cond u 1 0, h) (9223372036854775808 + b, r) = some true := by
  obtain ⟨f1, f2⟩ := fl16 hf
  obtain ⟨g1, _⟩ := fl16 hg
  obtain ⟨k1, _⟩ := fl16 hh
  have ob : okP (9223372036854775808 + b + 1) := ⟨by omega, by omega, by omega⟩
  have oc : okP (9223372036854775808 + b) := ⟨by omega, by omega, by omega⟩
  have cc : fn_order_Compare N (9223372036854775808 + b + 1) (9223372036854775808 + b) = some (-1, 0) := by
    rw [compare_eq N ob oc, if_neg (by omega), if_pos (by unfold keyZ; rw [if_neg (by omega), if_neg (by omega)]; omega)]
  have hs : andI .u64 (9223372036854775808 + b + 1) 9223372036854775808 = 9223372036854775808 := by
    have := and_sign (9223372036854775808 + b + 1) (by omega) (by omega); rw [if_neg (by omega)] at this; exact this
  have hb1 : bicI .u64 (9223372036854775808 + b + 1) 9223372036854775808 = b + 1 := by
    have := andNot_sign (9223372036854775808 + b + 1) (by omega) (by omega)
    exact this.trans (by omega)
  have hb2 : bicI .u64 (9223372036854775808 + b) 9223372036854775808 = b := by
    have := andNot_sign (9223372036854775808 + b) (by omega) (by omega)
    exact this.trans (by omega)
  have ha : addI .u64 b 1 = b + 1 := addI_u (by omega) (by omega)
  have fin : cond (!(eqI (9223372036854775808 : Int) 0)) (cond (eqI (9223372036854775808 + b) (9223372036854775808 + b)) (cond (eqI (b + 1) (b + 1)) ((some true).bind fun r10 => some r10) (some false)) (some false))
      (cond (eqI (9223372036854775808 + b) (9223372036854775808 + b + 1)) (cond (eqI (9223372036854775808 + b) (addI .u64 (9223372036854775808 + b + 1) 1)) ((some true).bind fun r11 => some r11) (some false)) (some false)) = some true :=
    cnT rfl (cnT (eqI_t rfl) (cnT (eqI_t rfl) rfl))
  unfold law
  simp only [f1, f2, g1, k1, hs, hb1, hb2, ha]
  refine cnF (not_nan ob) (cnF (not_nan oc) (bnd cc (cnF rfl (cnF rfl (cnF rfl (cnF rfl (cnF rfl (cnF rfl ?_))))))))
  cases u
  · exact cnT (by rw [cond_false, eqI_f (by omega)]; rfl) (cnF (by rw [cond_false, Int.add_zero, eqI_t rfl]; rfl) fin)
  · exact cnF (by rw [cond_true, eqI_t rfl]; rfl) fin
theorem rd_u {v : Vec 3} (h : okL .u64 v.1) {i : Nat} (hi : i < 3) : U (Vec.rd v (i : Int)) := by
  have e : Vec.rd v (i : Int) = v.1[i]'(by rw [v.2]; exact hi) := by simp [Vec.rd, List.getD_eq_getElem?_getD, v.2, hi]
  rw [e]
  exact u64_in (h _ (List.getElem_mem _))
theorem pure_TopSides : ∀ (a0 : Vec 3) (a1 a2 : Int), okL .u64 a0.1 → okN .i64 a1 → okN .i64 a2 → ∃ N, fn_tillertop_TopSides N a0 a1 a2 = some true := by
  intro v op m hv _ _
  refine ⟨400, ?_⟩
  have hs := do_sp 400 (by decide) (cvI .i64 (remI .u64 (cvI .u64 op) 5)) (rd_u hv (i := 0) (by decide)) (rd_u hv (i := 1) (by decide)) (rd_u hv (i := 2) (by decide))
  rw [law_unf, Pure.sure_true]
  change Sp (fun m => fn_tillertop_do 400 (cvI .i64 (remI .u64 (cvI .u64 op) 5)) (Vec.rd v 0) (Vec.rd v 1) (Vec.rd v 2) m) at hs
  generalize fn_tillertop_do 400 (cvI .i64 (remI .u64 (cvI .u64 op) 5)) (Vec.rd v 0) (Vec.rd v 1) (Vec.rd v 2) = g at hs ⊢
  rcases hs with ⟨p, f, h, hp⟩ | ⟨mi, b, ix, u, h0, h1, h2, h3, h4⟩ | h
  · refine bnd (h 4) (bnd (h 3) (bnd (h m) (bnd (h 2) ?_)))
    rcases hp with rfl | ⟨hp, hf⟩
    · exact law_nan 400 f _
    · exact law_const 400 hp hf _
  · obtain ⟨f4, e4, a4, b4⟩ := h2 4
    obtain ⟨f3, e3, a3, b3⟩ := h2 3
    obtain ⟨fm, em, am, bm⟩ := h2 m
    obtain ⟨f2, e2, a2, b2⟩ := h2 2
    refine bnd e4 (bnd e3 (bnd em (bnd e2 ?_)))
    cases ix
    · have hu := h3 rfl
      rw [hu 4, hu 3, hu m, hu 2, b4 rfl, b3 rfl, bm rfl, cond_false, Int.add_zero]
      exact law_const 400 ⟨by cases mi <;> simp only [sg, cond_true, cond_false] <;> omega, by cases mi <;> simp only [sg, cond_true, cond_false] <;> omega, by cases mi <;> simp only [sg, cond_true, cond_false] <;> omega⟩ (.inl rfl) _
    · obtain ⟨u2, u3, u4⟩ := h4 rfl
      rw [u2, u3, u4, cond_false, Int.add_zero]
      cases mi
      · have z : sg false = 0 := rfl
        rw [z, Int.zero_add]
        show law (some true) 400 (b + 0, f4) (b + 1, f3) (b + cond (u m) 1 0, fm) (b, f2) = some true
        rw [Int.add_zero]
        exact law_plus 400 (u m) f2 h0 h1 (a4 rfl) (a3 rfl) (am rfl)
      · have z : sg true = 9223372036854775808 := rfl
        rw [z]
        show law (some true) 400 (9223372036854775808 + b + 1, f4) (9223372036854775808 + b + 0, f3) (9223372036854775808 + b + cond (u m) 1 0, fm) (9223372036854775808 + b, f2) = some true
        rw [Int.add_zero]
        exact law_minus 400 (u m) f2 h0 h1 (a4 rfl) (a3 rfl) (am rfl)
  · refine bnd (h 4) (bnd (h 3) (bnd (h m) (bnd (h 2) ?_)))
    exact law_zero 400 (eqI m 4) _
end Go.Proofs.YtidoegjemkdnlaaGreatDoor

/- The law's function as a plain Lean function, and the engine's run of it. No statement is proved here. Laid by eng.py. -/
import Derived.Test.YtoconobigciggaaDoorFn1
namespace Go.Proofs.YtoconobigciggaaDoor.Fns
open Go Go.RowKit Go.Proofs Go.Proofs.YtoconobigciggaaDoor.Eng Go.Proofs.YtoconobigciggaaDoor.Num
set_option linter.unusedVariables false
set_option maxRecDepth 100000
/-! ### tiller/tillerlaw15.FixSines: function 5 -/
noncomputable def c5 : Code := (Tryd.f5.body).getD .skip
noncomputable def T5 : Tb := ⟨tyOf tys, [], []⟩
noncomputable def G5 {R : Type} (N : Nat) : FuncId → List AV → (AV → Option R) → Option R := gCons 18 (gOf ad18 rd18 (F18 N)) (gCons 19 (gOf ad19 rd19 (F19 N)) (gCons 17 (gOf ad17 rd17 (F17 N)) (gCons 20 (gOf ad20 rd20 (F20 N)) (gCons 10 (gOf (aC (cErr 55) a0) (r1 (cInt .i64)) (fun a => fn_num N a.1)) (gCons 14 (gOf ad14 rd14 (F14 N)) (gCons 21 (gOf ad21 rd21 (F21 N)) (gCons 12 (gOf ad12 rd12 (F12 N)) (gCons 22 (gOf ad22 rd22 (F22 N)) (gCons 23 (gOf ad23 rd23 (F23 N)) (gCons 24 (gOf ad24 rd24 (F24 N)) (gCons 26 (gOf ad26 rd26 (F26 N)) (gCons 25 (gOf ad25 rd25 (F25 N)) (gCons 27 (gOf ad27 rd27 (F27 N)) (gNil))))))))))))))
theorem gok5 {R : Type} (N : Nat) : GOK Tryd.prog (G5 (R := R) N) := gCons_ok (ok18 N) (gCons_ok (ok19 N) (gCons_ok (ok17 N) (gCons_ok (ok20 N) (gCons_ok (num_ok N) (gCons_ok (ok14 N) (gCons_ok (ok21 N) (gCons_ok (ok12 N) (gCons_ok (ok22 N) (gCons_ok (ok23 N) (gCons_ok (ok24 N) (gCons_ok (ok26 N) (gCons_ok (ok25 N) (gCons_ok (ok27 N) (gNil_ok))))))))))))))
noncomputable def live5 : List (Nat × List (Nat × HK)) := []
noncomputable def ad5 : Ad (Vec 4 × Unit) := aC (cVec .u64 4) (a0)
noncomputable def rd5 : Rd (Bool) := r1 (cBool)
noncomputable def fn_tillerlaw15_FixSines (N : Nat) (x0 : Vec 4) : Option (Bool) :=
  (fn_fix_Sin N x0).bind fun r1 =>
   (fn_fix_Cos N x0).bind fun r2 =>
    (fn_tillerlaw15_one N).bind fun r3 =>
     (fn_wide_Cmp N x0 r3).bind fun r4 =>
      cond (ltI 0 r4)
       ((fn_num N r1.2.2).bind fun r5 =>
        cond (eqI r5 1)
         ((fn_num N r2.2.2).bind fun r6 =>
          cond (eqI r6 1)
           ((fn_tillerlaw15_sure N).bind fun r7 =>
            some r7)
           (some false))
         (some false))
       ((fn_wide_Sub N r1.2.1 r1.1).bind fun r8 =>
        (fn_wide_Sub N r2.2.1 r2.1).bind fun r9 =>
         (fn_tillerlaw15_of N x0).bind fun r10 =>
          (fn_tillerref02_Shl N r10 72).bind fun r11 =>
           cond (isNoneI r1.2.2)
            (cond (isNoneI r2.2.2)
             (cond (!(r8.2))
              (cond (!(r9.2))
               ((fn_wide_Len N r8.1).bind fun r12 =>
                cond (leI r12 13)
                 ((fn_wide_Of N 4096).bind fun r13 =>
                  (fn_wide_Cmp N r8.1 r13).bind fun r14 =>
                   cond (leI r14 0)
                    ((fn_wide_Of N 4096).bind fun r15 =>
                     (fn_wide_Cmp N r9.1 r15).bind fun r16 =>
                      cond (leI r16 0)
                       ((fn_tillerref15_Sin N r11).bind fun r17 =>
                        (fn_tillerlaw15_of N r1.1).bind fun r18 =>
                         (fn_tillerlaw15_of N r1.2.1).bind fun r19 =>
                          (fn_tillerref15_Bounds N r17 r18 r19).bind fun r20 =>
                           cond r20
                            ((fn_tillerref15_Cos N r11).bind fun r21 =>
                             (fn_tillerlaw15_of N r2.1).bind fun r22 =>
                              (fn_tillerlaw15_of N r2.2.1).bind fun r23 =>
                               (fn_tillerref15_Bounds N r21 r22 r23).bind fun r24 =>
                                cond r24
                                 ((fn_tillerlaw15_sure N).bind fun r25 =>
                                  some r25)
                                 (some false))
                            (some false))
                       (some false))
                    (some false))
                 (some false))
               (some false))
              (some false))
             (some false))
            (some false))
theorem run5 (N : Nat) (x0 : Vec 4) : Eng.run T5 (G5 N) N live5 c5 Tryd.f5.results.toList Tryd.f5.ntmps ((ad5).enc (x0, ())) (rd5).dec = fn_tillerlaw15_FixSines N x0 := by kernel_rfl
noncomputable def F5 (N : Nat) (a : Vec 4 × Unit) : Option (Bool) := fn_tillerlaw15_FixSines N a.1
theorem ok5 (N : Nat) : FnOK Tryd.prog 5 ad5 rd5 (F5 N) :=
  fn_ok (N := N) (live := live5) (code := c5) (tok T5.rt T5.kl) mixed (gok5 N) Tryd.func5 (by kernel_rfl) (by kernel_rfl) (by kernel_rfl) fun a p h => by rw [← h]; exact run5 N a.1
end Go.Proofs.YtoconobigciggaaDoor.Fns

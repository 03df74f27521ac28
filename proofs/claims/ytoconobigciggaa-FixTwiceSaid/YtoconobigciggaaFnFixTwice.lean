/- The law's function as a plain Lean function, and the engine's run of it. No statement is proved here. Laid by eng.py. -/
import Derived.Test.YtoconobigciggaaFn1
namespace Go.Proofs.Ytoconobigciggaa.Fns
open Go Go.RowKit Go.Proofs Go.Proofs.Ytoconobigciggaa.Eng
set_option linter.unusedVariables false
set_option maxRecDepth 100000
/-! ### tiller/tillerlaw15.FixTwice: function 5 -/
noncomputable def c5 : Code := (Try.f5.body).getD .skip
noncomputable def T5 : Tb := ⟨tyOf tys, [], [], wrNil⟩
noncomputable def G5 {R : Type} (N : Nat) : FuncId → List AV → (AV → Option R) → Option R := gCons 20 (gOf ad20 rd20 (F20 N)) (gCons 17 (gOf ad17 rd17 (F17 N)) (gCons 16 (gOf ad16 rd16 (F16 N)) (gCons 13 (gOf ad13 rd13 (F13 N)) (gCons 21 (gOf ad21 rd21 (F21 N)) (gCons 14 (gOf ad14 rd14 (F14 N)) (gCons 15 (gOf ad15 rd15 (F15 N)) (gCons 9 (gOf ad9 rd9 (F9 N)) (gCons 8 (gOf ad8 rd8 (F8 N)) (gCons 11 (gOf ad11 rd11 (F11 N)) (gCons 12 (gOf ad12 rd12 (F12 N)) (gNil)))))))))))
theorem gok5 {R : Type} (N : Nat) : GOK Try.prog (G5 (R := R) N) := gCons_ok (ok20 N) (gCons_ok (ok17 N) (gCons_ok (ok16 N) (gCons_ok (ok13 N) (gCons_ok (ok21 N) (gCons_ok (ok14 N) (gCons_ok (ok15 N) (gCons_ok (ok9 N) (gCons_ok (ok8 N) (gCons_ok (ok11 N) (gCons_ok (ok12 N) (gNil_ok)))))))))))
noncomputable def live5 : List (Nat × List (Nat × HK)) := []
noncomputable def ad5 : Ad (Vec 4 × Unit) := aC (cVec .u64 4) (a0)
noncomputable def rd5 : Rd (Bool) := r1 (cBool)
noncomputable def fn_tillerlaw15_FixTwice (N : Nat) (x0 : Vec 4) : Option (Bool) :=
  (fn_wide_Shr N x0 1).bind fun r1 =>
   (fn_tillerlaw15_one N).bind fun r2 =>
    (fn_wide_Cmp N x0 r2).bind fun r3 =>
     cond (ltI 0 r3)
      ((fn_tillerlaw15_sure N).bind fun r4 =>
       some r4)
      ((fn_wide_Shl N r1.1 1).bind fun r5 =>
       (fn_fix_Sin N r1.1).bind fun r6 =>
        (fn_fix_Cos N r1.1).bind fun r7 =>
         (fn_fix_Sin N r5).bind fun r8 =>
          (fn_tillerlaw15_of N r6.1).bind fun r9 =>
           (fn_tillerlaw15_of N r7.1).bind fun r10 =>
            (fn_tillerref02_Mul N r9 r10).bind fun r11 =>
             (fn_tillerref02_Shl N r11 1).bind fun r12 =>
              (fn_tillerlaw15_of N r6.2.1).bind fun r13 =>
               (fn_tillerlaw15_of N r7.2.1).bind fun r14 =>
                (fn_tillerref02_Mul N r13 r14).bind fun r15 =>
                 (fn_tillerref02_Shl N r15 1).bind fun r16 =>
                  cond (isNoneI r6.2.2)
                   (cond (isNoneI r7.2.2)
                    (cond (isNoneI r8.2.2)
                     ((fn_tillerlaw15_of N r8.2.1).bind fun r17 =>
                      (fn_tillerref02_Shl N r17 248).bind fun r18 =>
                       (fn_tillerref02_Cmp N r12 r18).bind fun r19 =>
                        cond (leI r19 0)
                         ((fn_tillerlaw15_of N r8.1).bind fun r20 =>
                          (fn_tillerref02_Shl N r20 248).bind fun r21 =>
                           (fn_tillerref02_Cmp N r21 r16).bind fun r22 =>
                            cond (leI r22 0)
                             ((fn_tillerlaw15_sure N).bind fun r23 =>
                              some r23)
                             (some false))
                         (some false))
                     (some false))
                    (some false))
                   (some false))
theorem run5 (N : Nat) (x0 : Vec 4) : Eng.run T5 (G5 N) N live5 c5 Try.f5.results.toList Try.f5.ntmps ((ad5).enc (x0, ())) (rd5).dec = fn_tillerlaw15_FixTwice N x0 := by kernel_rfl
noncomputable def F5 (N : Nat) (a : Vec 4 × Unit) : Option (Bool) := fn_tillerlaw15_FixTwice N a.1
theorem ok5 (N : Nat) : FnOK Try.prog 5 ad5 rd5 (F5 N) :=
  fn_ok (N := N) (live := live5) (code := c5) (tok T5.rt T5.kl (wrNil_ok)) mixed (gok5 N) Try.func5 (by kernel_rfl) (by kernel_rfl) (by kernel_rfl) fun a p h => by rw [← h]; exact run5 N a.1
end Go.Proofs.Ytoconobigciggaa.Fns

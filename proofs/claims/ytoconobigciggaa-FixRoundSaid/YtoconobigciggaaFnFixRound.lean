/- The law's function as a plain Lean function, and the engine's run of it. No statement is proved here. Laid by eng.py. -/
import Derived.Test.YtoconobigciggaaFn1
namespace Go.Proofs.Ytoconobigciggaa.Fns
open Go Go.RowKit Go.Proofs Go.Proofs.Ytoconobigciggaa.Eng
set_option linter.unusedVariables false
set_option maxRecDepth 100000
/-! ### tiller/tillerlaw15.FixRound: function 4 -/
noncomputable def c4 : Code := (Try.f4.body).getD .skip
noncomputable def T4 : Tb := ⟨tyOf tys, [], [], wrNil⟩
noncomputable def G4 {R : Type} (N : Nat) : FuncId → List AV → (AV → Option R) → Option R := gCons 14 (gOf ad14 rd14 (F14 N)) (gCons 15 (gOf ad15 rd15 (F15 N)) (gCons 17 (gOf ad17 rd17 (F17 N)) (gCons 16 (gOf ad16 rd16 (F16 N)) (gCons 13 (gOf ad13 rd13 (F13 N)) (gCons 9 (gOf ad9 rd9 (F9 N)) (gCons 8 (gOf ad8 rd8 (F8 N)) (gCons 18 (gOf ad18 rd18 (F18 N)) (gCons 19 (gOf ad19 rd19 (F19 N)) (gCons 11 (gOf ad11 rd11 (F11 N)) (gCons 12 (gOf ad12 rd12 (F12 N)) (gNil)))))))))))
theorem gok4 {R : Type} (N : Nat) : GOK Try.prog (G4 (R := R) N) := gCons_ok (ok14 N) (gCons_ok (ok15 N) (gCons_ok (ok17 N) (gCons_ok (ok16 N) (gCons_ok (ok13 N) (gCons_ok (ok9 N) (gCons_ok (ok8 N) (gCons_ok (ok18 N) (gCons_ok (ok19 N) (gCons_ok (ok11 N) (gCons_ok (ok12 N) (gNil_ok)))))))))))
noncomputable def live4 : List (Nat × List (Nat × HK)) := []
noncomputable def ad4 : Ad (Vec 4 × Unit) := aC (cVec .u64 4) (a0)
noncomputable def rd4 : Rd (Bool) := r1 (cBool)
noncomputable def fn_tillerlaw15_FixRound (N : Nat) (x0 : Vec 4) : Option (Bool) :=
  (fn_fix_Sin N x0).bind fun r1 =>
   (fn_fix_Cos N x0).bind fun r2 =>
    cond (!(isNoneI r1.2.2))
     ((fn_tillerlaw15_one N).bind fun r3 =>
      (fn_wide_Cmp N x0 r3).bind fun r4 =>
       cond (ltI 0 r4)
        ((fn_tillerlaw15_sure N).bind fun r5 =>
         some r5)
        (some false))
     (cond (!(isNoneI r2.2.2))
      ((fn_tillerlaw15_one N).bind fun r6 =>
       (fn_wide_Cmp N x0 r6).bind fun r7 =>
        cond (ltI 0 r7)
         ((fn_tillerlaw15_sure N).bind fun r8 =>
          some r8)
         (some false))
      ((fn_tillerlaw15_of N r1.1).bind fun r9 =>
       (fn_tillerlaw15_of N r1.1).bind fun r10 =>
        (fn_tillerref02_Mul N r9 r10).bind fun r11 =>
         (fn_tillerlaw15_of N r2.1).bind fun r12 =>
          (fn_tillerlaw15_of N r2.1).bind fun r13 =>
           (fn_tillerref02_Mul N r12 r13).bind fun r14 =>
            (fn_tillerref02_Add N r11 r14).bind fun r15 =>
             (fn_tillerlaw15_of N r1.2.1).bind fun r16 =>
              (fn_tillerlaw15_of N r1.2.1).bind fun r17 =>
               (fn_tillerref02_Mul N r16 r17).bind fun r18 =>
                (fn_tillerlaw15_of N r2.2.1).bind fun r19 =>
                 (fn_tillerlaw15_of N r2.2.1).bind fun r20 =>
                  (fn_tillerref02_Mul N r19 r20).bind fun r21 =>
                   (fn_tillerref02_Add N r18 r21).bind fun r22 =>
                    (fn_tillerref02_Of N 1).bind fun r23 =>
                     (fn_tillerref02_Shl N r23 496).bind fun r24 =>
                      (fn_tillerref02_Cmp N r15 r24).bind fun r25 =>
                       cond (leI r25 0)
                        ((fn_tillerref02_Cmp N r24 r22).bind fun r26 =>
                         cond (leI r26 0)
                          ((fn_tillerlaw15_sure N).bind fun r27 =>
                           some r27)
                          (some false))
                        (some false)))
theorem run4 (N : Nat) (x0 : Vec 4) : Eng.run T4 (G4 N) N live4 c4 Try.f4.results.toList Try.f4.ntmps ((ad4).enc (x0, ())) (rd4).dec = fn_tillerlaw15_FixRound N x0 := by kernel_rfl
noncomputable def F4 (N : Nat) (a : Vec 4 × Unit) : Option (Bool) := fn_tillerlaw15_FixRound N a.1
theorem ok4 (N : Nat) : FnOK Try.prog 4 ad4 rd4 (F4 N) :=
  fn_ok (N := N) (live := live4) (code := c4) (tok T4.rt T4.kl (wrNil_ok)) mixed (gok4 N) Try.func4 (by kernel_rfl) (by kernel_rfl) (by kernel_rfl) fun a p h => by rw [← h]; exact run4 N a.1
end Go.Proofs.Ytoconobigciggaa.Fns

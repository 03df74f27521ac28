/- The law's function as a plain Lean function, and the engine's run of it. No statement is proved here. Laid by eng.py. -/
import Derived.Test.YtoihjgfnocimjaaDoorFn1
namespace Go.Proofs.YtoihjgfnocimjaaDoor.Fns
open Go Go.RowKit Go.Proofs Go.Proofs.YtoihjgfnocimjaaDoor.Eng Go.Proofs.YtoihjgfnocimjaaDoor.Num Go.Proofs.YtoihjgfnocimjaaDoor.Slc
set_option linter.unusedVariables false
set_option maxRecDepth 100000
/-! ### tiller/tillerlaw02.NatTexts: function 5 -/
noncomputable def c5 : Code := (Tryd.f5.body).getD .skip
noncomputable def T5 : Tb := ⟨tyOf tys, [], [], wrNil⟩
noncomputable def G5 {R : Type} (N : Nat) : FuncId → List AV → (AV → Option R) → Option R := gCons 9 (gOf ad9 rd9 (F9 N)) (gCons 23 (gOf ad23 rd23 (F23 N)) (gCons 24 (gOf ad24 rd24 (F24 N)) (gCons 25 (gOf ad25 rd25 (F25 N)) (gCons 14 (gOf ad14 rd14 (F14 N)) (gCons 13 (gOf ad13 rd13 (F13 N)) (gCons 12 (gOf (aC (cErr 60) a0) (r1 (cInt .i64)) (fun a => fn_num N a.1)) (gCons 11 (gOf ad11 rd11 (F11 N)) (gCons 16 (gOf ad16 rd16 (F16 N)) (gCons 26 (gOf ad26 rd26 (F26 N)) (gNil))))))))))
theorem gok5 {R : Type} (N : Nat) : GOK Tryd.prog (G5 (R := R) N) := gCons_ok (ok9 N) (gCons_ok (ok23 N) (gCons_ok (ok24 N) (gCons_ok (ok25 N) (gCons_ok (ok14 N) (gCons_ok (ok13 N) (gCons_ok (num_ok N) (gCons_ok (ok11 N) (gCons_ok (ok16 N) (gCons_ok (ok26 N) (gNil_ok))))))))))
noncomputable def live5 : List (Nat × List (Nat × HK)) := []
noncomputable def ad5 : Ad (List Int × ByteArray × Unit) := aC (cLi .u32) (aC (cStr) (a0))
noncomputable def rd5 : Rd (Bool) := r1 (cBool)
noncomputable def fn_tillerlaw02_NatTexts (N : Nat) (x0 : List Int) (x1 : ByteArray) : Option (Bool) :=
  cond (ltI 30 (x0.length : Int))
   ((fn_tillerlaw02_sure N).bind fun r1 =>
    some r1)
   (cond (ltI 300 (x1.size : Int))
    ((fn_tillerlaw02_sure N).bind fun r2 =>
     some r2)
    ((fn_nat_Decimal N x0).bind fun r3 =>
     (fn_nat_Parse N x1).bind fun r4 =>
      (fn_tillerref02_Parse N x1).bind fun r5 =>
       cond (!(eqB (isNoneI r4.2) r5.2))
        (some false)
        (cond r5.2
         ((fn_tillerref02_Words N r5.1).bind fun r6 =>
          (fn_tillerlaw02_words N r4.1 r6).bind fun r7 =>
           cond (!(r7))
            (some false)
            (cond (!(r5.2))
             ((fn_num N r4.2).bind fun r8 =>
              cond (!(eqI r8 3))
               (some false)
               ((fn_tillerlaw02_is N x0).bind fun r9 =>
                cond (!(r9))
                 ((fn_num N r3.2).bind fun r10 =>
                  cond (eqI r10 1)
                   (cond (eqS r3.1 (⟨#[]⟩ : ByteArray))
                    ((fn_tillerlaw02_sure N).bind fun r11 =>
                     some r11)
                    (some false))
                   (some false))
                 ((fn_nat_Parse N r3.1).bind fun r12 =>
                  cond (isNoneI r3.2)
                   (cond (isNoneI r12.2)
                    ((fn_tillerref02_From N x0).bind fun r13 =>
                     (fn_tillerref02_Decimal N r13).bind fun r14 =>
                      cond (eqS r3.1 r14)
                       ((fn_tillerlaw02_words N r12.1 x0).bind fun r15 =>
                        cond r15
                         ((fn_tillerlaw02_sure N).bind fun r16 =>
                          some r16)
                         (some false))
                       (some false))
                    (some false))
                   (some false))))
             ((fn_tillerlaw02_is N x0).bind fun r17 =>
              cond (!(r17))
               ((fn_num N r3.2).bind fun r18 =>
                cond (eqI r18 1)
                 (cond (eqS r3.1 (⟨#[]⟩ : ByteArray))
                  ((fn_tillerlaw02_sure N).bind fun r19 =>
                   some r19)
                  (some false))
                 (some false))
               ((fn_nat_Parse N r3.1).bind fun r20 =>
                cond (isNoneI r3.2)
                 (cond (isNoneI r20.2)
                  ((fn_tillerref02_From N x0).bind fun r21 =>
                   (fn_tillerref02_Decimal N r21).bind fun r22 =>
                    cond (eqS r3.1 r22)
                     ((fn_tillerlaw02_words N r20.1 x0).bind fun r23 =>
                      cond r23
                       ((fn_tillerlaw02_sure N).bind fun r24 =>
                        some r24)
                       (some false))
                     (some false))
                  (some false))
                 (some false)))))
         (cond (!(r5.2))
          ((fn_num N r4.2).bind fun r25 =>
           cond (!(eqI r25 3))
            (some false)
            ((fn_tillerlaw02_is N x0).bind fun r26 =>
             cond (!(r26))
              ((fn_num N r3.2).bind fun r27 =>
               cond (eqI r27 1)
                (cond (eqS r3.1 (⟨#[]⟩ : ByteArray))
                 ((fn_tillerlaw02_sure N).bind fun r28 =>
                  some r28)
                 (some false))
                (some false))
              ((fn_nat_Parse N r3.1).bind fun r29 =>
               cond (isNoneI r3.2)
                (cond (isNoneI r29.2)
                 ((fn_tillerref02_From N x0).bind fun r30 =>
                  (fn_tillerref02_Decimal N r30).bind fun r31 =>
                   cond (eqS r3.1 r31)
                    ((fn_tillerlaw02_words N r29.1 x0).bind fun r32 =>
                     cond r32
                      ((fn_tillerlaw02_sure N).bind fun r33 =>
                       some r33)
                      (some false))
                    (some false))
                 (some false))
                (some false))))
          ((fn_tillerlaw02_is N x0).bind fun r34 =>
           cond (!(r34))
            ((fn_num N r3.2).bind fun r35 =>
             cond (eqI r35 1)
              (cond (eqS r3.1 (⟨#[]⟩ : ByteArray))
               ((fn_tillerlaw02_sure N).bind fun r36 =>
                some r36)
               (some false))
              (some false))
            ((fn_nat_Parse N r3.1).bind fun r37 =>
             cond (isNoneI r3.2)
              (cond (isNoneI r37.2)
               ((fn_tillerref02_From N x0).bind fun r38 =>
                (fn_tillerref02_Decimal N r38).bind fun r39 =>
                 cond (eqS r3.1 r39)
                  ((fn_tillerlaw02_words N r37.1 x0).bind fun r40 =>
                   cond r40
                    ((fn_tillerlaw02_sure N).bind fun r41 =>
                     some r41)
                    (some false))
                  (some false))
               (some false))
              (some false)))))))
theorem run5 (N : Nat) (x0 : List Int) (x1 : ByteArray) : Eng.run T5 (G5 N) N live5 c5 Tryd.f5.results.toList Tryd.f5.ntmps ((ad5).enc (x0, x1, ())) (rd5).dec = fn_tillerlaw02_NatTexts N x0 x1 := by kernel_rfl
noncomputable def F5 (N : Nat) (a : List Int × ByteArray × Unit) : Option (Bool) := fn_tillerlaw02_NatTexts N a.1 a.2.1
theorem ok5 (N : Nat) : FnOK Tryd.prog 5 ad5 rd5 (F5 N) :=
  fn_ok (N := N) (live := live5) (code := c5) (tok T5.rt T5.kl (wrNil_ok)) mixed (gok5 N) Tryd.func5 (by kernel_rfl) (by kernel_rfl) (by kernel_rfl) fun a p h => by rw [← h]; exact run5 N a.1 a.2.1
end Go.Proofs.YtoihjgfnocimjaaDoor.Fns

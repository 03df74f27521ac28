/- The law's function as a plain Lean function, and the engine's run of it. No statement is proved here. Laid by eng.py. -/
import Derived.Test.YtoihjgfnocimjaaDoorFn1
namespace Go.Proofs.YtoihjgfnocimjaaDoor.Fns
open Go Go.RowKit Go.Proofs Go.Proofs.YtoihjgfnocimjaaDoor.Eng Go.Proofs.YtoihjgfnocimjaaDoor.Num Go.Proofs.YtoihjgfnocimjaaDoor.Slc
set_option linter.unusedVariables false
set_option maxRecDepth 100000
/-! ### tiller/tillerlaw02.NatSums: function 7 -/
noncomputable def c7 : Code := (Tryd.f7.body).getD .skip
noncomputable def T7 : Tb := ⟨tyOf tys, [], [], wrNil⟩
noncomputable def G7 {R : Type} (N : Nat) : FuncId → List AV → (AV → Option R) → Option R := gCons 9 (gOf ad9 rd9 (F9 N)) (gCons 27 (gOf ad27 rd27 (F27 N)) (gCons 28 (gOf ad28 rd28 (F28 N)) (gCons 29 (gOf ad29 rd29 (F29 N)) (gCons 30 (gOf ad30 rd30 (F30 N)) (gCons 11 (gOf ad11 rd11 (F11 N)) (gCons 12 (gOf (aC (cErr 60) a0) (r1 (cInt .i64)) (fun a => fn_num N a.1)) (gCons 16 (gOf ad16 rd16 (F16 N)) (gCons 31 (gOf ad31 rd31 (F31 N)) (gCons 32 (gOf ad32 rd32 (F32 N)) (gCons 14 (gOf ad14 rd14 (F14 N)) (gCons 13 (gOf ad13 rd13 (F13 N)) (gCons 33 (gOf ad33 rd33 (F33 N)) (gNil)))))))))))))
theorem gok7 {R : Type} (N : Nat) : GOK Tryd.prog (G7 (R := R) N) := gCons_ok (ok9 N) (gCons_ok (ok27 N) (gCons_ok (ok28 N) (gCons_ok (ok29 N) (gCons_ok (ok30 N) (gCons_ok (ok11 N) (gCons_ok (num_ok N) (gCons_ok (ok16 N) (gCons_ok (ok31 N) (gCons_ok (ok32 N) (gCons_ok (ok14 N) (gCons_ok (ok13 N) (gCons_ok (ok33 N) (gNil_ok)))))))))))))
noncomputable def live7 : List (Nat × List (Nat × HK)) := []
noncomputable def ad7 : Ad (List Int × List Int × Unit) := aC (cLi .u32) (aC (cLi .u32) (a0))
noncomputable def rd7 : Rd (Bool) := r1 (cBool)
noncomputable def fn_tillerlaw02_NatSums (N : Nat) (x0 : List Int) (x1 : List Int) : Option (Bool) :=
  cond (ltI 300 (x0.length : Int))
   ((fn_tillerlaw02_sure N).bind fun r1 =>
    some r1)
   (cond (ltI 300 (x1.length : Int))
    ((fn_tillerlaw02_sure N).bind fun r2 =>
     some r2)
    ((fn_nat_Add N x0 x1).bind fun r3 =>
     (fn_nat_Sub N x0 x1).bind fun r4 =>
      (fn_nat_Cmp N x0 x1).bind fun r5 =>
       (fn_nat_Check N x0).bind fun r6 =>
        (fn_tillerlaw02_is N x0).bind fun r7 =>
         cond (!(eqB (isNoneI r6) r7))
          (some false)
          ((fn_tillerlaw02_is N x0).bind fun r8 =>
           cond (!(r8))
            ((fn_num N r3.2).bind fun r9 =>
             cond (eqI r9 1)
              ((fn_num N r4.2).bind fun r10 =>
               cond (eqI r10 1)
                ((fn_num N r5.2).bind fun r11 =>
                 cond (eqI r11 1)
                  (cond (eqI (addI .i64 (addI .i64 (r3.1.length : Int) (r4.1.length : Int)) r5.1) 0)
                   ((fn_tillerlaw02_sure N).bind fun r12 =>
                    some r12)
                   (some false))
                  (some false))
                (some false))
              (some false))
            ((fn_tillerlaw02_is N x1).bind fun r13 =>
             cond (!(r13))
              ((fn_num N r3.2).bind fun r14 =>
               cond (eqI r14 1)
                ((fn_num N r4.2).bind fun r15 =>
                 cond (eqI r15 1)
                  ((fn_num N r5.2).bind fun r16 =>
                   cond (eqI r16 1)
                    (cond (eqI (addI .i64 (addI .i64 (r3.1.length : Int) (r4.1.length : Int)) r5.1) 0)
                     ((fn_tillerlaw02_sure N).bind fun r17 =>
                      some r17)
                     (some false))
                    (some false))
                  (some false))
                (some false))
              ((fn_tillerref02_From N x0).bind fun r18 =>
               (fn_tillerref02_From N x1).bind fun r19 =>
                cond (!(isNoneI r3.2))
                 (some false)
                 (cond (!(isNoneI r5.2))
                  (some false)
                  ((fn_tillerref02_Cmp N r18 r19).bind fun r20 =>
                   cond (!(eqI r5.1 r20))
                    (some false)
                    ((fn_tillerref02_Add N r18 r19).bind fun r21 =>
                     (fn_tillerref02_Words N r21).bind fun r22 =>
                      (fn_tillerlaw02_words N r3.1 r22).bind fun r23 =>
                       cond (!(r23))
                        (some false)
                        (cond (ltI r5.1 0)
                         ((fn_num N r4.2).bind fun r24 =>
                          cond (eqI r24 4)
                           (cond (eqI (r4.1.length : Int) 0)
                            ((fn_tillerlaw02_sure N).bind fun r25 =>
                             some r25)
                            (some false))
                           (some false))
                         (cond (isNoneI r4.2)
                          ((fn_tillerref02_Sub N r18 r19).bind fun r26 =>
                           (fn_tillerref02_Words N r26).bind fun r27 =>
                            (fn_tillerlaw02_words N r4.1 r27).bind fun r28 =>
                             cond r28
                              ((fn_tillerlaw02_sure N).bind fun r29 =>
                               some r29)
                              (some false))
                          (some false)))))))))))
theorem run7 (N : Nat) (x0 : List Int) (x1 : List Int) : Eng.run T7 (G7 N) N live7 c7 Tryd.f7.results.toList Tryd.f7.ntmps ((ad7).enc (x0, x1, ())) (rd7).dec = fn_tillerlaw02_NatSums N x0 x1 := by kernel_rfl
noncomputable def F7 (N : Nat) (a : List Int × List Int × Unit) : Option (Bool) := fn_tillerlaw02_NatSums N a.1 a.2.1
theorem ok7 (N : Nat) : FnOK Tryd.prog 7 ad7 rd7 (F7 N) :=
  fn_ok (N := N) (live := live7) (code := c7) (tok T7.rt T7.kl (wrNil_ok)) mixed (gok7 N) Tryd.func7 (by kernel_rfl) (by kernel_rfl) (by kernel_rfl) fun a p h => by rw [← h]; exact run7 N a.1 a.2.1
end Go.Proofs.YtoihjgfnocimjaaDoor.Fns

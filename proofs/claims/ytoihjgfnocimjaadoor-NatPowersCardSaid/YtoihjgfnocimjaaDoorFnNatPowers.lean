/- The law's function as a plain Lean function, and the engine's run of it. No statement is proved here. Laid by eng.py. -/
import Derived.Test.YtoihjgfnocimjaaDoorFn1
namespace Go.Proofs.YtoihjgfnocimjaaDoor.Fns
open Go Go.RowKit Go.Proofs Go.Proofs.YtoihjgfnocimjaaDoor.Eng Go.Proofs.YtoihjgfnocimjaaDoor.Num Go.Proofs.YtoihjgfnocimjaaDoor.Slc
set_option linter.unusedVariables false
set_option maxRecDepth 100000
/-! ### tiller/tillerlaw02.NatPowers: function 4 -/
noncomputable def c4 : Code := (Tryd.f4.body).getD .skip
noncomputable def T4 : Tb := ⟨tyOf tys, [], [], wrNil⟩
noncomputable def G4 {R : Type} (N : Nat) : FuncId → List AV → (AV → Option R) → Option R := gCons 9 (gOf ad9 rd9 (F9 N)) (gCons 17 (gOf ad17 rd17 (F17 N)) (gCons 18 (gOf ad18 rd18 (F18 N)) (gCons 11 (gOf ad11 rd11 (F11 N)) (gCons 12 (gOf (aC (cErr 60) a0) (r1 (cInt .i64)) (fun a => fn_num N a.1)) (gCons 19 (gOf ad19 rd19 (F19 N)) (gCons 16 (gOf ad16 rd16 (F16 N)) (gCons 20 (gOf ad20 rd20 (F20 N)) (gCons 21 (gOf ad21 rd21 (F21 N)) (gCons 14 (gOf ad14 rd14 (F14 N)) (gCons 13 (gOf ad13 rd13 (F13 N)) (gCons 22 (gOf ad22 rd22 (F22 N)) (gNil))))))))))))
theorem gok4 {R : Type} (N : Nat) : GOK Tryd.prog (G4 (R := R) N) := gCons_ok (ok9 N) (gCons_ok (ok17 N) (gCons_ok (ok18 N) (gCons_ok (ok11 N) (gCons_ok (num_ok N) (gCons_ok (ok19 N) (gCons_ok (ok16 N) (gCons_ok (ok20 N) (gCons_ok (ok21 N) (gCons_ok (ok14 N) (gCons_ok (ok13 N) (gCons_ok (ok22 N) (gNil_ok))))))))))))
noncomputable def live4 : List (Nat × List (Nat × HK)) := []
noncomputable def ad4 : Ad (Int × Int × List Int × Unit) := aC (cInt .u32) (aC (cInt .i64) (aC (cLi .u32) (a0)))
noncomputable def rd4 : Rd (Bool) := r1 (cBool)
noncomputable def fn_tillerlaw02_NatPowers (N : Nat) (x0 : Int) (x1 : Int) (x2 : List Int) : Option (Bool) :=
  cond (ltI 100 (x2.length : Int))
   ((fn_tillerlaw02_sure N).bind fun r1 =>
    some r1)
   (cond (ltI 300 x1)
    (cond (leI x1 1000000)
     ((fn_tillerlaw02_sure N).bind fun r2 =>
      some r2)
     ((fn_nat_Pow N x0 x1).bind fun r3 =>
      (fn_nat_Shl N x2 x1).bind fun r4 =>
       (fn_tillerlaw02_is N x2).bind fun r5 =>
        cond (!(r5))
         ((fn_num N r4.2).bind fun r6 =>
          cond (eqI r6 1)
           ((fn_nat_Len N x2).bind fun r7 =>
            cond (eqI r7 0)
             ((fn_tillerlaw02_sure N).bind fun r8 =>
              some r8)
             (some false))
           (some false))
         ((fn_nat_Len N x2).bind fun r9 =>
          (fn_tillerref02_From N x2).bind fun r10 =>
           (fn_tillerref02_Len N r10).bind fun r11 =>
            cond (!(eqI r9 r11))
             (some false)
             (cond (ltI x1 0)
              ((fn_num N r3.2).bind fun r12 =>
               cond (eqI r12 1)
                (cond (ltI x1 0)
                 ((fn_num N r4.2).bind fun r13 =>
                  cond (eqI r13 1)
                   ((fn_tillerlaw02_sure N).bind fun r14 =>
                    some r14)
                   (cond (ltI 300 x1)
                    (cond (eqI (x2.length : Int) 0)
                     (cond (isNoneI r4.2)
                      ((fn_tillerlaw02_sure N).bind fun r15 =>
                       some r15)
                      ((fn_num N r4.2).bind fun r16 =>
                       cond (eqI r16 2)
                        ((fn_tillerlaw02_sure N).bind fun r17 =>
                         some r17)
                        (some false)))
                     ((fn_num N r4.2).bind fun r18 =>
                      cond (eqI r18 2)
                       ((fn_tillerlaw02_sure N).bind fun r19 =>
                        some r19)
                       (some false)))
                    (some false)))
                 (cond (ltI 300 x1)
                  (cond (eqI (x2.length : Int) 0)
                   (cond (isNoneI r4.2)
                    ((fn_tillerlaw02_sure N).bind fun r20 =>
                     some r20)
                    ((fn_num N r4.2).bind fun r21 =>
                     cond (eqI r21 2)
                      ((fn_tillerlaw02_sure N).bind fun r22 =>
                       some r22)
                      (some false)))
                   ((fn_num N r4.2).bind fun r23 =>
                    cond (eqI r23 2)
                     ((fn_tillerlaw02_sure N).bind fun r24 =>
                      some r24)
                     (some false)))
                  (some false)))
                (some false))
              (cond (ltI 300 x1)
               ((fn_num N r3.2).bind fun r25 =>
                cond (eqI r25 1)
                 (cond (ltI x1 0)
                  ((fn_num N r4.2).bind fun r26 =>
                   cond (eqI r26 1)
                    ((fn_tillerlaw02_sure N).bind fun r27 =>
                     some r27)
                    (cond (ltI 300 x1)
                     (cond (eqI (x2.length : Int) 0)
                      (cond (isNoneI r4.2)
                       ((fn_tillerlaw02_sure N).bind fun r28 =>
                        some r28)
                       ((fn_num N r4.2).bind fun r29 =>
                        cond (eqI r29 2)
                         ((fn_tillerlaw02_sure N).bind fun r30 =>
                          some r30)
                         (some false)))
                      ((fn_num N r4.2).bind fun r31 =>
                       cond (eqI r31 2)
                        ((fn_tillerlaw02_sure N).bind fun r32 =>
                         some r32)
                        (some false)))
                     (some false)))
                  (cond (ltI 300 x1)
                   (cond (eqI (x2.length : Int) 0)
                    (cond (isNoneI r4.2)
                     ((fn_tillerlaw02_sure N).bind fun r33 =>
                      some r33)
                     ((fn_num N r4.2).bind fun r34 =>
                      cond (eqI r34 2)
                       ((fn_tillerlaw02_sure N).bind fun r35 =>
                        some r35)
                       (some false)))
                    ((fn_num N r4.2).bind fun r36 =>
                     cond (eqI r36 2)
                      ((fn_tillerlaw02_sure N).bind fun r37 =>
                       some r37)
                      (some false)))
                   (some false)))
                 (some false))
               (cond (isNoneI r3.2)
                (cond (isNoneI r4.2)
                 ((fn_tillerref02_Pow N x0 x1).bind fun r38 =>
                  (fn_tillerref02_Words N r38).bind fun r39 =>
                   (fn_tillerlaw02_words N r3.1 r39).bind fun r40 =>
                    cond r40
                     ((fn_tillerref02_From N x2).bind fun r41 =>
                      (fn_tillerref02_Shl N r41 x1).bind fun r42 =>
                       (fn_tillerref02_Words N r42).bind fun r43 =>
                        (fn_tillerlaw02_words N r4.1 r43).bind fun r44 =>
                         cond r44
                          ((fn_tillerlaw02_sure N).bind fun r45 =>
                           some r45)
                          (some false))
                     (some false))
                 (some false))
                (some false)))))))
    ((fn_nat_Pow N x0 x1).bind fun r46 =>
     (fn_nat_Shl N x2 x1).bind fun r47 =>
      (fn_tillerlaw02_is N x2).bind fun r48 =>
       cond (!(r48))
        ((fn_num N r47.2).bind fun r49 =>
         cond (eqI r49 1)
          ((fn_nat_Len N x2).bind fun r50 =>
           cond (eqI r50 0)
            ((fn_tillerlaw02_sure N).bind fun r51 =>
             some r51)
            (some false))
          (some false))
        ((fn_nat_Len N x2).bind fun r52 =>
         (fn_tillerref02_From N x2).bind fun r53 =>
          (fn_tillerref02_Len N r53).bind fun r54 =>
           cond (!(eqI r52 r54))
            (some false)
            (cond (ltI x1 0)
             ((fn_num N r46.2).bind fun r55 =>
              cond (eqI r55 1)
               (cond (ltI x1 0)
                ((fn_num N r47.2).bind fun r56 =>
                 cond (eqI r56 1)
                  ((fn_tillerlaw02_sure N).bind fun r57 =>
                   some r57)
                  (cond (ltI 300 x1)
                   (cond (eqI (x2.length : Int) 0)
                    (cond (isNoneI r47.2)
                     ((fn_tillerlaw02_sure N).bind fun r58 =>
                      some r58)
                     ((fn_num N r47.2).bind fun r59 =>
                      cond (eqI r59 2)
                       ((fn_tillerlaw02_sure N).bind fun r60 =>
                        some r60)
                       (some false)))
                    ((fn_num N r47.2).bind fun r61 =>
                     cond (eqI r61 2)
                      ((fn_tillerlaw02_sure N).bind fun r62 =>
                       some r62)
                      (some false)))
                   (some false)))
                (cond (ltI 300 x1)
                 (cond (eqI (x2.length : Int) 0)
                  (cond (isNoneI r47.2)
                   ((fn_tillerlaw02_sure N).bind fun r63 =>
                    some r63)
                   ((fn_num N r47.2).bind fun r64 =>
                    cond (eqI r64 2)
                     ((fn_tillerlaw02_sure N).bind fun r65 =>
                      some r65)
                     (some false)))
                  ((fn_num N r47.2).bind fun r66 =>
                   cond (eqI r66 2)
                    ((fn_tillerlaw02_sure N).bind fun r67 =>
                     some r67)
                    (some false)))
                 (some false)))
               (some false))
             (cond (ltI 300 x1)
              ((fn_num N r46.2).bind fun r68 =>
               cond (eqI r68 1)
                (cond (ltI x1 0)
                 ((fn_num N r47.2).bind fun r69 =>
                  cond (eqI r69 1)
                   ((fn_tillerlaw02_sure N).bind fun r70 =>
                    some r70)
                   (cond (ltI 300 x1)
                    (cond (eqI (x2.length : Int) 0)
                     (cond (isNoneI r47.2)
                      ((fn_tillerlaw02_sure N).bind fun r71 =>
                       some r71)
                      ((fn_num N r47.2).bind fun r72 =>
                       cond (eqI r72 2)
                        ((fn_tillerlaw02_sure N).bind fun r73 =>
                         some r73)
                        (some false)))
                     ((fn_num N r47.2).bind fun r74 =>
                      cond (eqI r74 2)
                       ((fn_tillerlaw02_sure N).bind fun r75 =>
                        some r75)
                       (some false)))
                    (some false)))
                 (cond (ltI 300 x1)
                  (cond (eqI (x2.length : Int) 0)
                   (cond (isNoneI r47.2)
                    ((fn_tillerlaw02_sure N).bind fun r76 =>
                     some r76)
                    ((fn_num N r47.2).bind fun r77 =>
                     cond (eqI r77 2)
                      ((fn_tillerlaw02_sure N).bind fun r78 =>
                       some r78)
                      (some false)))
                   ((fn_num N r47.2).bind fun r79 =>
                    cond (eqI r79 2)
                     ((fn_tillerlaw02_sure N).bind fun r80 =>
                      some r80)
                     (some false)))
                  (some false)))
                (some false))
              (cond (isNoneI r46.2)
               (cond (isNoneI r47.2)
                ((fn_tillerref02_Pow N x0 x1).bind fun r81 =>
                 (fn_tillerref02_Words N r81).bind fun r82 =>
                  (fn_tillerlaw02_words N r46.1 r82).bind fun r83 =>
                   cond r83
                    ((fn_tillerref02_From N x2).bind fun r84 =>
                     (fn_tillerref02_Shl N r84 x1).bind fun r85 =>
                      (fn_tillerref02_Words N r85).bind fun r86 =>
                       (fn_tillerlaw02_words N r47.1 r86).bind fun r87 =>
                        cond r87
                         ((fn_tillerlaw02_sure N).bind fun r88 =>
                          some r88)
                         (some false))
                    (some false))
                (some false))
               (some false)))))))
theorem run4 (N : Nat) (x0 : Int) (x1 : Int) (x2 : List Int) : Eng.run T4 (G4 N) N live4 c4 Tryd.f4.results.toList Tryd.f4.ntmps ((ad4).enc (x0, x1, x2, ())) (rd4).dec = fn_tillerlaw02_NatPowers N x0 x1 x2 := by kernel_rfl
noncomputable def F4 (N : Nat) (a : Int × Int × List Int × Unit) : Option (Bool) := fn_tillerlaw02_NatPowers N a.1 a.2.1 a.2.2.1
theorem ok4 (N : Nat) : FnOK Tryd.prog 4 ad4 rd4 (F4 N) :=
  fn_ok (N := N) (live := live4) (code := c4) (tok T4.rt T4.kl (wrNil_ok)) mixed (gok4 N) Tryd.func4 (by kernel_rfl) (by kernel_rfl) (by kernel_rfl) fun a p h => by rw [← h]; exact run4 N a.1 a.2.1 a.2.2.1
end Go.Proofs.YtoihjgfnocimjaaDoor.Fns

/- The law's function as a plain Lean function, and the engine's run of it. No statement is proved here. Laid by eng.py. -/
import Derived.Test.YtfcmenjachkleaaDoorFn1
namespace Go.Proofs.YtfcmenjachkleaaDoor.Fns
open Go Go.RowKit Go.Proofs Go.Proofs.YtfcmenjachkleaaDoor.Eng Go.Proofs.YtfcmenjachkleaaDoor.Num
set_option linter.unusedVariables false
set_option maxRecDepth 100000
/-! ### tiller/tillerlaw03.PatClasses: function 5 -/
noncomputable def c5 : Code := (Tryd.f5.body).getD .skip
noncomputable def T5 : Tb := ⟨tyOf tys, [], []⟩
noncomputable def G5 {R : Type} (N : Nat) : FuncId → List AV → (AV → Option R) → Option R := gCons 9 (gOf ad9 rd9 (F9 N)) (gCons 17 (gOf ad17 rd17 (F17 N)) (gCons 12 (gOf ad12 rd12 (F12 N)) (gCons 10 (gOf ad10 rd10 (F10 N)) (gCons 7 (gOf ad7 rd7 (F7 N)) (gCons 14 (gOf ad14 rd14 (F14 N)) (gNil))))))
theorem gok5 {R : Type} (N : Nat) : GOK Tryd.prog (G5 (R := R) N) := gCons_ok (ok9 N) (gCons_ok (ok17 N) (gCons_ok (ok12 N) (gCons_ok (ok10 N) (gCons_ok (ok7 N) (gCons_ok (ok14 N) (gNil_ok))))))
noncomputable def live5 : List (Nat × List (Nat × HK)) := []
noncomputable def ad5 : Ad (Int × Unit) := aC (cInt .u64) (a0)
noncomputable def rd5 : Rd (Bool) := r1 (cBool)
noncomputable def fn_tillerlaw03_PatClasses (N : Nat) (x0 : Int) : Option (Bool) :=
  cond (eqI (andI .u64 (shrI .u64 x0 52) 2047) 2047)
   (cond (eqI (andI .u64 x0 4503599627370495) 0)
    ((fn_pat_Class N x0).bind fun r1 =>
     cond (eqI r1 3)
      ((fn_pat_Neg N x0).bind fun r2 =>
       (fn_pat_Class N r2).bind fun r3 =>
        cond (eqI r3 3)
         ((fn_pat_Finite N x0).bind fun r4 =>
          cond (eqB r4 (leI 3 2))
           ((fn_pat_IsNaN N x0).bind fun r5 =>
            cond (eqB r5 (leI 4 3))
             ((fn_pat_Take N x0).bind fun r6 =>
              cond (eqB r6.1 (leI 9223372036854775808 x0))
               ((fn_tillerlaw03_sure N).bind fun r7 =>
                some r7)
               (some false))
             (some false))
           (some false))
         (some false))
      (some false))
    (cond (eqI (andI .u64 (shrI .u64 x0 52) 2047) 2047)
     (cond (eqI (shrI .u64 (andI .u64 x0 4503599627370495) 51) 1)
      ((fn_pat_Class N x0).bind fun r8 =>
       cond (eqI r8 4)
        ((fn_pat_Neg N x0).bind fun r9 =>
         (fn_pat_Class N r9).bind fun r10 =>
          cond (eqI r10 4)
           ((fn_pat_Finite N x0).bind fun r11 =>
            cond (eqB r11 (leI 4 2))
             ((fn_pat_IsNaN N x0).bind fun r12 =>
              cond (eqB r12 (leI 4 4))
               ((fn_pat_Take N x0).bind fun r13 =>
                cond (eqB r13.1 (leI 9223372036854775808 x0))
                 ((fn_tillerlaw03_sure N).bind fun r14 =>
                  some r14)
                 (some false))
               (some false))
             (some false))
           (some false))
        (some false))
      (cond (eqI (andI .u64 (shrI .u64 x0 52) 2047) 2047)
       ((fn_pat_Class N x0).bind fun r15 =>
        cond (eqI r15 5)
         ((fn_pat_Neg N x0).bind fun r16 =>
          (fn_pat_Class N r16).bind fun r17 =>
           cond (eqI r17 5)
            ((fn_pat_Finite N x0).bind fun r18 =>
             cond (eqB r18 (leI 5 2))
              ((fn_pat_IsNaN N x0).bind fun r19 =>
               cond (eqB r19 (leI 4 5))
                ((fn_pat_Take N x0).bind fun r20 =>
                 cond (eqB r20.1 (leI 9223372036854775808 x0))
                  ((fn_tillerlaw03_sure N).bind fun r21 =>
                   some r21)
                  (some false))
                (some false))
              (some false))
            (some false))
         (some false))
       (cond (eqI (andI .u64 (shrI .u64 x0 52) 2047) 0)
        (cond (eqI (andI .u64 x0 4503599627370495) 0)
         ((fn_pat_Class N x0).bind fun r22 =>
          cond (eqI r22 0)
           ((fn_pat_Neg N x0).bind fun r23 =>
            (fn_pat_Class N r23).bind fun r24 =>
             cond (eqI r24 0)
              ((fn_pat_Finite N x0).bind fun r25 =>
               cond (eqB r25 (leI 0 2))
                ((fn_pat_IsNaN N x0).bind fun r26 =>
                 cond (eqB r26 (leI 4 0))
                  ((fn_pat_Take N x0).bind fun r27 =>
                   cond (eqB r27.1 (leI 9223372036854775808 x0))
                    ((fn_tillerlaw03_sure N).bind fun r28 =>
                     some r28)
                    (some false))
                  (some false))
                (some false))
              (some false))
           (some false))
         (cond (eqI (andI .u64 (shrI .u64 x0 52) 2047) 0)
          ((fn_pat_Class N x0).bind fun r29 =>
           cond (eqI r29 1)
            ((fn_pat_Neg N x0).bind fun r30 =>
             (fn_pat_Class N r30).bind fun r31 =>
              cond (eqI r31 1)
               ((fn_pat_Finite N x0).bind fun r32 =>
                cond (eqB r32 (leI 1 2))
                 ((fn_pat_IsNaN N x0).bind fun r33 =>
                  cond (eqB r33 (leI 4 1))
                   ((fn_pat_Take N x0).bind fun r34 =>
                    cond (eqB r34.1 (leI 9223372036854775808 x0))
                     ((fn_tillerlaw03_sure N).bind fun r35 =>
                      some r35)
                     (some false))
                   (some false))
                 (some false))
               (some false))
            (some false))
          ((fn_pat_Class N x0).bind fun r36 =>
           cond (eqI r36 2)
            ((fn_pat_Neg N x0).bind fun r37 =>
             (fn_pat_Class N r37).bind fun r38 =>
              cond (eqI r38 2)
               ((fn_pat_Finite N x0).bind fun r39 =>
                cond (eqB r39 (leI 2 2))
                 ((fn_pat_IsNaN N x0).bind fun r40 =>
                  cond (eqB r40 (leI 4 2))
                   ((fn_pat_Take N x0).bind fun r41 =>
                    cond (eqB r41.1 (leI 9223372036854775808 x0))
                     ((fn_tillerlaw03_sure N).bind fun r42 =>
                      some r42)
                     (some false))
                   (some false))
                 (some false))
               (some false))
            (some false))))
        (cond (eqI (andI .u64 (shrI .u64 x0 52) 2047) 0)
         ((fn_pat_Class N x0).bind fun r43 =>
          cond (eqI r43 1)
           ((fn_pat_Neg N x0).bind fun r44 =>
            (fn_pat_Class N r44).bind fun r45 =>
             cond (eqI r45 1)
              ((fn_pat_Finite N x0).bind fun r46 =>
               cond (eqB r46 (leI 1 2))
                ((fn_pat_IsNaN N x0).bind fun r47 =>
                 cond (eqB r47 (leI 4 1))
                  ((fn_pat_Take N x0).bind fun r48 =>
                   cond (eqB r48.1 (leI 9223372036854775808 x0))
                    ((fn_tillerlaw03_sure N).bind fun r49 =>
                     some r49)
                    (some false))
                  (some false))
                (some false))
              (some false))
           (some false))
         ((fn_pat_Class N x0).bind fun r50 =>
          cond (eqI r50 2)
           ((fn_pat_Neg N x0).bind fun r51 =>
            (fn_pat_Class N r51).bind fun r52 =>
             cond (eqI r52 2)
              ((fn_pat_Finite N x0).bind fun r53 =>
               cond (eqB r53 (leI 2 2))
                ((fn_pat_IsNaN N x0).bind fun r54 =>
                 cond (eqB r54 (leI 4 2))
                  ((fn_pat_Take N x0).bind fun r55 =>
                   cond (eqB r55.1 (leI 9223372036854775808 x0))
                    ((fn_tillerlaw03_sure N).bind fun r56 =>
                     some r56)
                    (some false))
                  (some false))
                (some false))
              (some false))
           (some false))))))
     (cond (eqI (andI .u64 (shrI .u64 x0 52) 2047) 2047)
      ((fn_pat_Class N x0).bind fun r57 =>
       cond (eqI r57 5)
        ((fn_pat_Neg N x0).bind fun r58 =>
         (fn_pat_Class N r58).bind fun r59 =>
          cond (eqI r59 5)
           ((fn_pat_Finite N x0).bind fun r60 =>
            cond (eqB r60 (leI 5 2))
             ((fn_pat_IsNaN N x0).bind fun r61 =>
              cond (eqB r61 (leI 4 5))
               ((fn_pat_Take N x0).bind fun r62 =>
                cond (eqB r62.1 (leI 9223372036854775808 x0))
                 ((fn_tillerlaw03_sure N).bind fun r63 =>
                  some r63)
                 (some false))
               (some false))
             (some false))
           (some false))
        (some false))
      (cond (eqI (andI .u64 (shrI .u64 x0 52) 2047) 0)
       (cond (eqI (andI .u64 x0 4503599627370495) 0)
        ((fn_pat_Class N x0).bind fun r64 =>
         cond (eqI r64 0)
          ((fn_pat_Neg N x0).bind fun r65 =>
           (fn_pat_Class N r65).bind fun r66 =>
            cond (eqI r66 0)
             ((fn_pat_Finite N x0).bind fun r67 =>
              cond (eqB r67 (leI 0 2))
               ((fn_pat_IsNaN N x0).bind fun r68 =>
                cond (eqB r68 (leI 4 0))
                 ((fn_pat_Take N x0).bind fun r69 =>
                  cond (eqB r69.1 (leI 9223372036854775808 x0))
                   ((fn_tillerlaw03_sure N).bind fun r70 =>
                    some r70)
                   (some false))
                 (some false))
               (some false))
             (some false))
          (some false))
        (cond (eqI (andI .u64 (shrI .u64 x0 52) 2047) 0)
         ((fn_pat_Class N x0).bind fun r71 =>
          cond (eqI r71 1)
           ((fn_pat_Neg N x0).bind fun r72 =>
            (fn_pat_Class N r72).bind fun r73 =>
             cond (eqI r73 1)
              ((fn_pat_Finite N x0).bind fun r74 =>
               cond (eqB r74 (leI 1 2))
                ((fn_pat_IsNaN N x0).bind fun r75 =>
                 cond (eqB r75 (leI 4 1))
                  ((fn_pat_Take N x0).bind fun r76 =>
                   cond (eqB r76.1 (leI 9223372036854775808 x0))
                    ((fn_tillerlaw03_sure N).bind fun r77 =>
                     some r77)
                    (some false))
                  (some false))
                (some false))
              (some false))
           (some false))
         ((fn_pat_Class N x0).bind fun r78 =>
          cond (eqI r78 2)
           ((fn_pat_Neg N x0).bind fun r79 =>
            (fn_pat_Class N r79).bind fun r80 =>
             cond (eqI r80 2)
              ((fn_pat_Finite N x0).bind fun r81 =>
               cond (eqB r81 (leI 2 2))
                ((fn_pat_IsNaN N x0).bind fun r82 =>
                 cond (eqB r82 (leI 4 2))
                  ((fn_pat_Take N x0).bind fun r83 =>
                   cond (eqB r83.1 (leI 9223372036854775808 x0))
                    ((fn_tillerlaw03_sure N).bind fun r84 =>
                     some r84)
                    (some false))
                  (some false))
                (some false))
              (some false))
           (some false))))
       (cond (eqI (andI .u64 (shrI .u64 x0 52) 2047) 0)
        ((fn_pat_Class N x0).bind fun r85 =>
         cond (eqI r85 1)
          ((fn_pat_Neg N x0).bind fun r86 =>
           (fn_pat_Class N r86).bind fun r87 =>
            cond (eqI r87 1)
             ((fn_pat_Finite N x0).bind fun r88 =>
              cond (eqB r88 (leI 1 2))
               ((fn_pat_IsNaN N x0).bind fun r89 =>
                cond (eqB r89 (leI 4 1))
                 ((fn_pat_Take N x0).bind fun r90 =>
                  cond (eqB r90.1 (leI 9223372036854775808 x0))
                   ((fn_tillerlaw03_sure N).bind fun r91 =>
                    some r91)
                   (some false))
                 (some false))
               (some false))
             (some false))
          (some false))
        ((fn_pat_Class N x0).bind fun r92 =>
         cond (eqI r92 2)
          ((fn_pat_Neg N x0).bind fun r93 =>
           (fn_pat_Class N r93).bind fun r94 =>
            cond (eqI r94 2)
             ((fn_pat_Finite N x0).bind fun r95 =>
              cond (eqB r95 (leI 2 2))
               ((fn_pat_IsNaN N x0).bind fun r96 =>
                cond (eqB r96 (leI 4 2))
                 ((fn_pat_Take N x0).bind fun r97 =>
                  cond (eqB r97.1 (leI 9223372036854775808 x0))
                   ((fn_tillerlaw03_sure N).bind fun r98 =>
                    some r98)
                   (some false))
                 (some false))
               (some false))
             (some false))
          (some false)))))))
   (cond (eqI (andI .u64 (shrI .u64 x0 52) 2047) 2047)
    (cond (eqI (shrI .u64 (andI .u64 x0 4503599627370495) 51) 1)
     ((fn_pat_Class N x0).bind fun r99 =>
      cond (eqI r99 4)
       ((fn_pat_Neg N x0).bind fun r100 =>
        (fn_pat_Class N r100).bind fun r101 =>
         cond (eqI r101 4)
          ((fn_pat_Finite N x0).bind fun r102 =>
           cond (eqB r102 (leI 4 2))
            ((fn_pat_IsNaN N x0).bind fun r103 =>
             cond (eqB r103 (leI 4 4))
              ((fn_pat_Take N x0).bind fun r104 =>
               cond (eqB r104.1 (leI 9223372036854775808 x0))
                ((fn_tillerlaw03_sure N).bind fun r105 =>
                 some r105)
                (some false))
              (some false))
            (some false))
          (some false))
       (some false))
     (cond (eqI (andI .u64 (shrI .u64 x0 52) 2047) 2047)
      ((fn_pat_Class N x0).bind fun r106 =>
       cond (eqI r106 5)
        ((fn_pat_Neg N x0).bind fun r107 =>
         (fn_pat_Class N r107).bind fun r108 =>
          cond (eqI r108 5)
           ((fn_pat_Finite N x0).bind fun r109 =>
            cond (eqB r109 (leI 5 2))
             ((fn_pat_IsNaN N x0).bind fun r110 =>
              cond (eqB r110 (leI 4 5))
               ((fn_pat_Take N x0).bind fun r111 =>
                cond (eqB r111.1 (leI 9223372036854775808 x0))
                 ((fn_tillerlaw03_sure N).bind fun r112 =>
                  some r112)
                 (some false))
               (some false))
             (some false))
           (some false))
        (some false))
      (cond (eqI (andI .u64 (shrI .u64 x0 52) 2047) 0)
       (cond (eqI (andI .u64 x0 4503599627370495) 0)
        ((fn_pat_Class N x0).bind fun r113 =>
         cond (eqI r113 0)
          ((fn_pat_Neg N x0).bind fun r114 =>
           (fn_pat_Class N r114).bind fun r115 =>
            cond (eqI r115 0)
             ((fn_pat_Finite N x0).bind fun r116 =>
              cond (eqB r116 (leI 0 2))
               ((fn_pat_IsNaN N x0).bind fun r117 =>
                cond (eqB r117 (leI 4 0))
                 ((fn_pat_Take N x0).bind fun r118 =>
                  cond (eqB r118.1 (leI 9223372036854775808 x0))
                   ((fn_tillerlaw03_sure N).bind fun r119 =>
                    some r119)
                   (some false))
                 (some false))
               (some false))
             (some false))
          (some false))
        (cond (eqI (andI .u64 (shrI .u64 x0 52) 2047) 0)
         ((fn_pat_Class N x0).bind fun r120 =>
          cond (eqI r120 1)
           ((fn_pat_Neg N x0).bind fun r121 =>
            (fn_pat_Class N r121).bind fun r122 =>
             cond (eqI r122 1)
              ((fn_pat_Finite N x0).bind fun r123 =>
               cond (eqB r123 (leI 1 2))
                ((fn_pat_IsNaN N x0).bind fun r124 =>
                 cond (eqB r124 (leI 4 1))
                  ((fn_pat_Take N x0).bind fun r125 =>
                   cond (eqB r125.1 (leI 9223372036854775808 x0))
                    ((fn_tillerlaw03_sure N).bind fun r126 =>
                     some r126)
                    (some false))
                  (some false))
                (some false))
              (some false))
           (some false))
         ((fn_pat_Class N x0).bind fun r127 =>
          cond (eqI r127 2)
           ((fn_pat_Neg N x0).bind fun r128 =>
            (fn_pat_Class N r128).bind fun r129 =>
             cond (eqI r129 2)
              ((fn_pat_Finite N x0).bind fun r130 =>
               cond (eqB r130 (leI 2 2))
                ((fn_pat_IsNaN N x0).bind fun r131 =>
                 cond (eqB r131 (leI 4 2))
                  ((fn_pat_Take N x0).bind fun r132 =>
                   cond (eqB r132.1 (leI 9223372036854775808 x0))
                    ((fn_tillerlaw03_sure N).bind fun r133 =>
                     some r133)
                    (some false))
                  (some false))
                (some false))
              (some false))
           (some false))))
       (cond (eqI (andI .u64 (shrI .u64 x0 52) 2047) 0)
        ((fn_pat_Class N x0).bind fun r134 =>
         cond (eqI r134 1)
          ((fn_pat_Neg N x0).bind fun r135 =>
           (fn_pat_Class N r135).bind fun r136 =>
            cond (eqI r136 1)
             ((fn_pat_Finite N x0).bind fun r137 =>
              cond (eqB r137 (leI 1 2))
               ((fn_pat_IsNaN N x0).bind fun r138 =>
                cond (eqB r138 (leI 4 1))
                 ((fn_pat_Take N x0).bind fun r139 =>
                  cond (eqB r139.1 (leI 9223372036854775808 x0))
                   ((fn_tillerlaw03_sure N).bind fun r140 =>
                    some r140)
                   (some false))
                 (some false))
               (some false))
             (some false))
          (some false))
        ((fn_pat_Class N x0).bind fun r141 =>
         cond (eqI r141 2)
          ((fn_pat_Neg N x0).bind fun r142 =>
           (fn_pat_Class N r142).bind fun r143 =>
            cond (eqI r143 2)
             ((fn_pat_Finite N x0).bind fun r144 =>
              cond (eqB r144 (leI 2 2))
               ((fn_pat_IsNaN N x0).bind fun r145 =>
                cond (eqB r145 (leI 4 2))
                 ((fn_pat_Take N x0).bind fun r146 =>
                  cond (eqB r146.1 (leI 9223372036854775808 x0))
                   ((fn_tillerlaw03_sure N).bind fun r147 =>
                    some r147)
                   (some false))
                 (some false))
               (some false))
             (some false))
          (some false))))))
    (cond (eqI (andI .u64 (shrI .u64 x0 52) 2047) 2047)
     ((fn_pat_Class N x0).bind fun r148 =>
      cond (eqI r148 5)
       ((fn_pat_Neg N x0).bind fun r149 =>
        (fn_pat_Class N r149).bind fun r150 =>
         cond (eqI r150 5)
          ((fn_pat_Finite N x0).bind fun r151 =>
           cond (eqB r151 (leI 5 2))
            ((fn_pat_IsNaN N x0).bind fun r152 =>
             cond (eqB r152 (leI 4 5))
              ((fn_pat_Take N x0).bind fun r153 =>
               cond (eqB r153.1 (leI 9223372036854775808 x0))
                ((fn_tillerlaw03_sure N).bind fun r154 =>
                 some r154)
                (some false))
              (some false))
            (some false))
          (some false))
       (some false))
     (cond (eqI (andI .u64 (shrI .u64 x0 52) 2047) 0)
      (cond (eqI (andI .u64 x0 4503599627370495) 0)
       ((fn_pat_Class N x0).bind fun r155 =>
        cond (eqI r155 0)
         ((fn_pat_Neg N x0).bind fun r156 =>
          (fn_pat_Class N r156).bind fun r157 =>
           cond (eqI r157 0)
            ((fn_pat_Finite N x0).bind fun r158 =>
             cond (eqB r158 (leI 0 2))
              ((fn_pat_IsNaN N x0).bind fun r159 =>
               cond (eqB r159 (leI 4 0))
                ((fn_pat_Take N x0).bind fun r160 =>
                 cond (eqB r160.1 (leI 9223372036854775808 x0))
                  ((fn_tillerlaw03_sure N).bind fun r161 =>
                   some r161)
                  (some false))
                (some false))
              (some false))
            (some false))
         (some false))
       (cond (eqI (andI .u64 (shrI .u64 x0 52) 2047) 0)
        ((fn_pat_Class N x0).bind fun r162 =>
         cond (eqI r162 1)
          ((fn_pat_Neg N x0).bind fun r163 =>
           (fn_pat_Class N r163).bind fun r164 =>
            cond (eqI r164 1)
             ((fn_pat_Finite N x0).bind fun r165 =>
              cond (eqB r165 (leI 1 2))
               ((fn_pat_IsNaN N x0).bind fun r166 =>
                cond (eqB r166 (leI 4 1))
                 ((fn_pat_Take N x0).bind fun r167 =>
                  cond (eqB r167.1 (leI 9223372036854775808 x0))
                   ((fn_tillerlaw03_sure N).bind fun r168 =>
                    some r168)
                   (some false))
                 (some false))
               (some false))
             (some false))
          (some false))
        ((fn_pat_Class N x0).bind fun r169 =>
         cond (eqI r169 2)
          ((fn_pat_Neg N x0).bind fun r170 =>
           (fn_pat_Class N r170).bind fun r171 =>
            cond (eqI r171 2)
             ((fn_pat_Finite N x0).bind fun r172 =>
              cond (eqB r172 (leI 2 2))
               ((fn_pat_IsNaN N x0).bind fun r173 =>
                cond (eqB r173 (leI 4 2))
                 ((fn_pat_Take N x0).bind fun r174 =>
                  cond (eqB r174.1 (leI 9223372036854775808 x0))
                   ((fn_tillerlaw03_sure N).bind fun r175 =>
                    some r175)
                   (some false))
                 (some false))
               (some false))
             (some false))
          (some false))))
      (cond (eqI (andI .u64 (shrI .u64 x0 52) 2047) 0)
       ((fn_pat_Class N x0).bind fun r176 =>
        cond (eqI r176 1)
         ((fn_pat_Neg N x0).bind fun r177 =>
          (fn_pat_Class N r177).bind fun r178 =>
           cond (eqI r178 1)
            ((fn_pat_Finite N x0).bind fun r179 =>
             cond (eqB r179 (leI 1 2))
              ((fn_pat_IsNaN N x0).bind fun r180 =>
               cond (eqB r180 (leI 4 1))
                ((fn_pat_Take N x0).bind fun r181 =>
                 cond (eqB r181.1 (leI 9223372036854775808 x0))
                  ((fn_tillerlaw03_sure N).bind fun r182 =>
                   some r182)
                  (some false))
                (some false))
              (some false))
            (some false))
         (some false))
       ((fn_pat_Class N x0).bind fun r183 =>
        cond (eqI r183 2)
         ((fn_pat_Neg N x0).bind fun r184 =>
          (fn_pat_Class N r184).bind fun r185 =>
           cond (eqI r185 2)
            ((fn_pat_Finite N x0).bind fun r186 =>
             cond (eqB r186 (leI 2 2))
              ((fn_pat_IsNaN N x0).bind fun r187 =>
               cond (eqB r187 (leI 4 2))
                ((fn_pat_Take N x0).bind fun r188 =>
                 cond (eqB r188.1 (leI 9223372036854775808 x0))
                  ((fn_tillerlaw03_sure N).bind fun r189 =>
                   some r189)
                  (some false))
                (some false))
              (some false))
            (some false))
         (some false))))))
theorem run5 (N : Nat) (x0 : Int) : Eng.run T5 (G5 N) N live5 c5 Tryd.f5.results.toList Tryd.f5.ntmps ((ad5).enc (x0, ())) (rd5).dec = fn_tillerlaw03_PatClasses N x0 := by kernel_rfl
noncomputable def F5 (N : Nat) (a : Int × Unit) : Option (Bool) := fn_tillerlaw03_PatClasses N a.1
theorem ok5 (N : Nat) : FnOK Tryd.prog 5 ad5 rd5 (F5 N) :=
  fn_ok (N := N) (live := live5) (code := c5) (tok T5.rt T5.kl) mixed (gok5 N) Tryd.func5 (by kernel_rfl) (by kernel_rfl) (by kernel_rfl) fun a p h => by rw [← h]; exact run5 N a.1
end Go.Proofs.YtfcmenjachkleaaDoor.Fns

/- The law's function as a plain Lean function, and the engine's run of it. No statement is proved here. Laid by eng.py. -/
import Derived.Test.YtkipjjijaphjpaaFn1
namespace Go.Proofs.Ytkipjjijaphjpaa.Fns
open Go Go.RowKit Go.Proofs Go.Proofs.Ytkipjjijaphjpaa.Eng
set_option linter.unusedVariables false
set_option maxRecDepth 100000
/-! ### tiller/tillerlaw10.OrderAll: function 4 -/
noncomputable def c4 : Code := (Try.f4.body).getD .skip
noncomputable def T4 : Tb := ⟨tyOf tys, []⟩
noncomputable def G4 {R : Type} (N : Nat) : FuncId → List AV → (AV → Option R) → Option R := gCons 9 (gOf ad9 rd9 (F9 N)) (gCons 12 (gOf ad12 rd12 (F12 N)) (gCons 11 (gOf ad11 rd11 (F11 N)) (gNil)))
theorem gok4 {R : Type} (N : Nat) : GOK Try.prog (G4 (R := R) N) := gCons_ok (ok9 N) (gCons_ok (ok12 N) (gCons_ok (ok11 N) (gNil_ok)))
noncomputable def live4 : List (Nat × List Nat) := []
noncomputable def ad4 : Ad (Int × Int × Int × Unit) := aC (cInt .u64) (aC (cInt .u64) (aC (cInt .u64) (a0)))
noncomputable def rd4 : Rd (Bool) := r1 (cBool)
noncomputable def fn_tillerlaw10_OrderAll (N : Nat) (x0 : Int) (x1 : Int) (x2 : Int) : Option (Bool) :=
  (fn_order_Total N x0 x1).bind fun r1 =>
   (fn_order_Total N x1 x0).bind fun r2 =>
    cond (!(r1))
     (cond (!(r2))
      (some false)
      (cond r1
       (cond (!(eqB r2 (eqI x0 x1)))
        (some false)
        (cond r1
         ((fn_order_Total N x1 x2).bind fun r3 =>
          cond r3
           ((fn_order_Total N x0 x2).bind fun r4 =>
            cond (!(r4))
             (some false)
             ((fn_order_Compare N x0 x1).bind fun r5 =>
              (fn_order_Compare N x1 x0).bind fun r6 =>
               cond (eqI r5.1 2)
                (cond (eqI r6.1 r5.1)
                 ((fn_tillerlaw10_sure N).bind fun r7 =>
                  some r7)
                 (some false))
                (cond (eqI r5.1 (subI .i64 0 r6.1))
                 (cond (!(eqI r5.1 (-1)))
                  ((fn_tillerlaw10_sure N).bind fun r8 =>
                   some r8)
                  (cond r1
                   (cond (!(r2))
                    ((fn_tillerlaw10_sure N).bind fun r9 =>
                     some r9)
                    (some false))
                   (some false)))
                 (some false))))
           ((fn_order_Compare N x0 x1).bind fun r10 =>
            (fn_order_Compare N x1 x0).bind fun r11 =>
             cond (eqI r10.1 2)
              (cond (eqI r11.1 r10.1)
               ((fn_tillerlaw10_sure N).bind fun r12 =>
                some r12)
               (some false))
              (cond (eqI r10.1 (subI .i64 0 r11.1))
               (cond (!(eqI r10.1 (-1)))
                ((fn_tillerlaw10_sure N).bind fun r13 =>
                 some r13)
                (cond r1
                 (cond (!(r2))
                  ((fn_tillerlaw10_sure N).bind fun r14 =>
                   some r14)
                  (some false))
                 (some false)))
               (some false))))
         ((fn_order_Compare N x0 x1).bind fun r15 =>
          (fn_order_Compare N x1 x0).bind fun r16 =>
           cond (eqI r15.1 2)
            (cond (eqI r16.1 r15.1)
             ((fn_tillerlaw10_sure N).bind fun r17 =>
              some r17)
             (some false))
            (cond (eqI r15.1 (subI .i64 0 r16.1))
             (cond (!(eqI r15.1 (-1)))
              ((fn_tillerlaw10_sure N).bind fun r18 =>
               some r18)
              (cond r1
               (cond (!(r2))
                ((fn_tillerlaw10_sure N).bind fun r19 =>
                 some r19)
                (some false))
               (some false)))
             (some false)))))
       (cond (!(eqB false (eqI x0 x1)))
        (some false)
        (cond r1
         ((fn_order_Total N x1 x2).bind fun r20 =>
          cond r20
           ((fn_order_Total N x0 x2).bind fun r21 =>
            cond (!(r21))
             (some false)
             ((fn_order_Compare N x0 x1).bind fun r22 =>
              (fn_order_Compare N x1 x0).bind fun r23 =>
               cond (eqI r22.1 2)
                (cond (eqI r23.1 r22.1)
                 ((fn_tillerlaw10_sure N).bind fun r24 =>
                  some r24)
                 (some false))
                (cond (eqI r22.1 (subI .i64 0 r23.1))
                 (cond (!(eqI r22.1 (-1)))
                  ((fn_tillerlaw10_sure N).bind fun r25 =>
                   some r25)
                  (cond r1
                   (cond (!(r2))
                    ((fn_tillerlaw10_sure N).bind fun r26 =>
                     some r26)
                    (some false))
                   (some false)))
                 (some false))))
           ((fn_order_Compare N x0 x1).bind fun r27 =>
            (fn_order_Compare N x1 x0).bind fun r28 =>
             cond (eqI r27.1 2)
              (cond (eqI r28.1 r27.1)
               ((fn_tillerlaw10_sure N).bind fun r29 =>
                some r29)
               (some false))
              (cond (eqI r27.1 (subI .i64 0 r28.1))
               (cond (!(eqI r27.1 (-1)))
                ((fn_tillerlaw10_sure N).bind fun r30 =>
                 some r30)
                (cond r1
                 (cond (!(r2))
                  ((fn_tillerlaw10_sure N).bind fun r31 =>
                   some r31)
                  (some false))
                 (some false)))
               (some false))))
         ((fn_order_Compare N x0 x1).bind fun r32 =>
          (fn_order_Compare N x1 x0).bind fun r33 =>
           cond (eqI r32.1 2)
            (cond (eqI r33.1 r32.1)
             ((fn_tillerlaw10_sure N).bind fun r34 =>
              some r34)
             (some false))
            (cond (eqI r32.1 (subI .i64 0 r33.1))
             (cond (!(eqI r32.1 (-1)))
              ((fn_tillerlaw10_sure N).bind fun r35 =>
               some r35)
              (cond r1
               (cond (!(r2))
                ((fn_tillerlaw10_sure N).bind fun r36 =>
                 some r36)
                (some false))
               (some false)))
             (some false)))))))
     (cond r1
      (cond (!(eqB r2 (eqI x0 x1)))
       (some false)
       (cond r1
        ((fn_order_Total N x1 x2).bind fun r37 =>
         cond r37
          ((fn_order_Total N x0 x2).bind fun r38 =>
           cond (!(r38))
            (some false)
            ((fn_order_Compare N x0 x1).bind fun r39 =>
             (fn_order_Compare N x1 x0).bind fun r40 =>
              cond (eqI r39.1 2)
               (cond (eqI r40.1 r39.1)
                ((fn_tillerlaw10_sure N).bind fun r41 =>
                 some r41)
                (some false))
               (cond (eqI r39.1 (subI .i64 0 r40.1))
                (cond (!(eqI r39.1 (-1)))
                 ((fn_tillerlaw10_sure N).bind fun r42 =>
                  some r42)
                 (cond r1
                  (cond (!(r2))
                   ((fn_tillerlaw10_sure N).bind fun r43 =>
                    some r43)
                   (some false))
                  (some false)))
                (some false))))
          ((fn_order_Compare N x0 x1).bind fun r44 =>
           (fn_order_Compare N x1 x0).bind fun r45 =>
            cond (eqI r44.1 2)
             (cond (eqI r45.1 r44.1)
              ((fn_tillerlaw10_sure N).bind fun r46 =>
               some r46)
              (some false))
             (cond (eqI r44.1 (subI .i64 0 r45.1))
              (cond (!(eqI r44.1 (-1)))
               ((fn_tillerlaw10_sure N).bind fun r47 =>
                some r47)
               (cond r1
                (cond (!(r2))
                 ((fn_tillerlaw10_sure N).bind fun r48 =>
                  some r48)
                 (some false))
                (some false)))
              (some false))))
        ((fn_order_Compare N x0 x1).bind fun r49 =>
         (fn_order_Compare N x1 x0).bind fun r50 =>
          cond (eqI r49.1 2)
           (cond (eqI r50.1 r49.1)
            ((fn_tillerlaw10_sure N).bind fun r51 =>
             some r51)
            (some false))
           (cond (eqI r49.1 (subI .i64 0 r50.1))
            (cond (!(eqI r49.1 (-1)))
             ((fn_tillerlaw10_sure N).bind fun r52 =>
              some r52)
             (cond r1
              (cond (!(r2))
               ((fn_tillerlaw10_sure N).bind fun r53 =>
                some r53)
               (some false))
              (some false)))
            (some false)))))
      (cond (!(eqB false (eqI x0 x1)))
       (some false)
       (cond r1
        ((fn_order_Total N x1 x2).bind fun r54 =>
         cond r54
          ((fn_order_Total N x0 x2).bind fun r55 =>
           cond (!(r55))
            (some false)
            ((fn_order_Compare N x0 x1).bind fun r56 =>
             (fn_order_Compare N x1 x0).bind fun r57 =>
              cond (eqI r56.1 2)
               (cond (eqI r57.1 r56.1)
                ((fn_tillerlaw10_sure N).bind fun r58 =>
                 some r58)
                (some false))
               (cond (eqI r56.1 (subI .i64 0 r57.1))
                (cond (!(eqI r56.1 (-1)))
                 ((fn_tillerlaw10_sure N).bind fun r59 =>
                  some r59)
                 (cond r1
                  (cond (!(r2))
                   ((fn_tillerlaw10_sure N).bind fun r60 =>
                    some r60)
                   (some false))
                  (some false)))
                (some false))))
          ((fn_order_Compare N x0 x1).bind fun r61 =>
           (fn_order_Compare N x1 x0).bind fun r62 =>
            cond (eqI r61.1 2)
             (cond (eqI r62.1 r61.1)
              ((fn_tillerlaw10_sure N).bind fun r63 =>
               some r63)
              (some false))
             (cond (eqI r61.1 (subI .i64 0 r62.1))
              (cond (!(eqI r61.1 (-1)))
               ((fn_tillerlaw10_sure N).bind fun r64 =>
                some r64)
               (cond r1
                (cond (!(r2))
                 ((fn_tillerlaw10_sure N).bind fun r65 =>
                  some r65)
                 (some false))
                (some false)))
              (some false))))
        ((fn_order_Compare N x0 x1).bind fun r66 =>
         (fn_order_Compare N x1 x0).bind fun r67 =>
          cond (eqI r66.1 2)
           (cond (eqI r67.1 r66.1)
            ((fn_tillerlaw10_sure N).bind fun r68 =>
             some r68)
            (some false))
           (cond (eqI r66.1 (subI .i64 0 r67.1))
            (cond (!(eqI r66.1 (-1)))
             ((fn_tillerlaw10_sure N).bind fun r69 =>
              some r69)
             (cond r1
              (cond (!(r2))
               ((fn_tillerlaw10_sure N).bind fun r70 =>
                some r70)
               (some false))
              (some false)))
            (some false))))))
theorem run4 (N : Nat) (x0 : Int) (x1 : Int) (x2 : Int) : Eng.run T4 (G4 N) N live4 c4 Try.f4.results.toList Try.f4.ntmps ((ad4).enc (x0, x1, x2, ())) (rd4).dec = fn_tillerlaw10_OrderAll N x0 x1 x2 := by kernel_rfl
noncomputable def F4 (N : Nat) (a : Int × Int × Int × Unit) : Option (Bool) := fn_tillerlaw10_OrderAll N a.1 a.2.1 a.2.2.1
theorem ok4 (N : Nat) : FnOK Try.prog 4 ad4 rd4 (F4 N) :=
  fn_ok (N := N) (live := live4) (code := c4) (tok T4.rt) mixed (gok4 N) Try.func4 (by kernel_rfl) (by kernel_rfl) (by kernel_rfl) fun a p h => by rw [← h]; exact run4 N a.1 a.2.1 a.2.2.1
end Go.Proofs.Ytkipjjijaphjpaa.Fns

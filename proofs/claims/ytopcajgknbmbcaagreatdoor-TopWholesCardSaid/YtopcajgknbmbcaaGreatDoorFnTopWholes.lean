/- The law's function as a plain Lean function, and the engine's run of it. No statement is proved here. Laid by eng.py. -/
import Derived.Test.YtopcajgknbmbcaaGreatDoorFn2
namespace Go.Proofs.YtopcajgknbmbcaaGreatDoor.Fns
open Go Go.RowKit Go.Proofs Go.Proofs.YtopcajgknbmbcaaGreatDoor.Eng Go.Proofs.YtopcajgknbmbcaaGreatDoor.Num Go.Proofs.YtopcajgknbmbcaaGreatDoor.Slc
set_option linter.unusedVariables false
set_option maxRecDepth 100000
/-! ### tiller/tillertop.TopWholes: function 4 -/
noncomputable def c4 : Code := (Tryz.f4.body).getD .skip
noncomputable def T4 : Tb := ⟨tyOf tys, [], [], wrNil⟩
noncomputable def G4 {R : Type} (N : Nat) : FuncId → List AV → (AV → Option R) → Option R := gCons 12 (gOf ad12 rd12 (F12 N)) (gCons 10 (gOf ad10 rd10 (F10 N)) (gCons 11 (gOf ad11 rd11 (F11 N)) (gCons 13 (gOf ad13 rd13 (F13 N)) (gCons 14 (gOf ad14 rd14 (F14 N)) (gCons 5 (gOf ad5 rd5 (F5 N)) (gCons 15 (gOf ad15 rd15 (F15 N)) (gCons 7 (gOf ad7 rd7 (F7 N)) (gCons 8 (gOf ad8 rd8 (F8 N)) (gNil)))))))))
theorem gok4 {R : Type} (N : Nat) : GOK Tryz.prog (G4 (R := R) N) := gCons_ok (ok12 N) (gCons_ok (ok10 N) (gCons_ok (ok11 N) (gCons_ok (ok13 N) (gCons_ok (ok14 N) (gCons_ok (ok5 N) (gCons_ok (ok15 N) (gCons_ok (ok7 N) (gCons_ok (ok8 N) (gNil_ok)))))))))
noncomputable def live4 : List (Nat × List (Nat × HK)) := []
noncomputable def ad4 : Ad (Int × Int × Int × Unit) := aC (cInt .i64) (aC (cInt .i64) (aC (cInt .i64) (a0)))
noncomputable def rd4 : Rd (Bool) := r1 (cBool)
noncomputable def fn_tillertop_TopWholes (N : Nat) (x0 : Int) (x1 : Int) (x2 : Int) : Option (Bool) :=
  (fn_ints_Of N (remI .i64 x0 67108864) x2).bind fun r1 =>
   (fn_ints_Of N (remI .i64 x1 67108864) x2).bind fun r2 =>
    (fn_sums_Add N r1.1 r2.1 x2).bind fun r3 =>
     (fn_sums_Sub N r1.1 r2.1 x2).bind fun r4 =>
      (fn_prod_Mul N r1.1 r2.1 x2).bind fun r5 =>
       (fn_ints_To N r3.1 x2 true).bind fun r6 =>
        (fn_ints_To N r4.1 x2 true).bind fun r7 =>
         (fn_ints_To N r5.1 x2 true).bind fun r8 =>
          cond (!(eqI (orI .u8 (orI .u8 (orI .u8 (orI .u8 (orI .u8 r3.2 r4.2) r5.2) r6.2) r7.2) r8.2) 0))
           (some false)
           (cond (!(eqI r6.1 (addI .i64 (remI .i64 x0 67108864) (remI .i64 x1 67108864))))
            (some false)
            (cond (!(eqI r7.1 (subI .i64 (remI .i64 x0 67108864) (remI .i64 x1 67108864))))
             (some false)
             (cond (!(eqI r8.1 (mulI .i64 (remI .i64 x0 67108864) (remI .i64 x1 67108864))))
              (some false)
              (cond (eqI (remI .i64 x1 67108864) 0)
               ((fn_tillertop_sure N).bind fun r9 =>
                some r9)
               ((fn_whole_Mod N r1.1 r2.1).bind fun r10 =>
                (fn_ints_To N r10.1 x2 true).bind fun r11 =>
                 (fn_quot_Div N r1.1 r2.1 2).bind fun r12 =>
                  (fn_whole_Round N r12.1 2 false).bind fun r13 =>
                   (fn_ints_To N r13.1 x2 true).bind fun r14 =>
                    cond (eqI (orI .u8 r10.2 r11.2) 0)
                     (cond (eqI (remI .i64 x1 67108864) 0)
                      (none)
                      (cond (eqI r11.1 (remI .i64 (remI .i64 x0 67108864) (remI .i64 x1 67108864)))
                       (cond (eqI (remI .i64 x1 67108864) 0)
                        (none)
                        (cond (eqI r14.1 (quoI .i64 (remI .i64 x0 67108864) (remI .i64 x1 67108864)))
                         ((fn_tillertop_sure N).bind fun r15 =>
                          some r15)
                         (some false)))
                       (some false)))
                     (some false))))))
theorem run4 (N : Nat) (x0 : Int) (x1 : Int) (x2 : Int) : Eng.run T4 (G4 N) N live4 c4 Tryz.f4.results.toList Tryz.f4.ntmps ((ad4).enc (x0, x1, x2, ())) (rd4).dec = fn_tillertop_TopWholes N x0 x1 x2 := by kernel_rfl
noncomputable def F4 (N : Nat) (a : Int × Int × Int × Unit) : Option (Bool) := fn_tillertop_TopWholes N a.1 a.2.1 a.2.2.1
theorem ok4 (N : Nat) : FnOK Tryz.prog 4 ad4 rd4 (F4 N) :=
  fn_ok (N := N) (live := live4) (code := c4) (tok T4.rt T4.kl (wrNil_ok)) mixed (gok4 N) Tryz.func4 (by kernel_rfl) (by kernel_rfl) (by kernel_rfl) fun a p h => by rw [← h]; exact run4 N a.1 a.2.1 a.2.2.1
end Go.Proofs.YtopcajgknbmbcaaGreatDoor.Fns

/- The law's function as a plain Lean function, and the engine's run of it. No statement is proved here. Laid by eng.py. -/
import Derived.Test.YtopcajgknbmbcaaGreatDoorFn2
namespace Go.Proofs.YtopcajgknbmbcaaGreatDoor.Fns
open Go Go.RowKit Go.Proofs Go.Proofs.YtopcajgknbmbcaaGreatDoor.Eng Go.Proofs.YtopcajgknbmbcaaGreatDoor.Num Go.Proofs.YtopcajgknbmbcaaGreatDoor.Slc
set_option linter.unusedVariables false
set_option maxRecDepth 100000
/-! ### tiller/tillertop.TopRests: function 3 -/
noncomputable def c3 : Code := (Tryz.f3.body).getD .skip
noncomputable def T3 : Tb := ⟨tyOf tys, [], [], wrNil⟩
noncomputable def G3 {R : Type} (N : Nat) : FuncId → List AV → (AV → Option R) → Option R := gCons 5 (gOf ad5 rd5 (F5 N)) (gCons 6 (gOf ad6 rd6 (F6 N)) (gCons 7 (gOf ad7 rd7 (F7 N)) (gCons 8 (gOf ad8 rd8 (F8 N)) (gCons 9 (gOf ad9 rd9 (F9 N)) (gCons 10 (gOf ad10 rd10 (F10 N)) (gCons 11 (gOf ad11 rd11 (F11 N)) (gNil)))))))
theorem gok3 {R : Type} (N : Nat) : GOK Tryz.prog (G3 (R := R) N) := gCons_ok (ok5 N) (gCons_ok (ok6 N) (gCons_ok (ok7 N) (gCons_ok (ok8 N) (gCons_ok (ok9 N) (gCons_ok (ok10 N) (gCons_ok (ok11 N) (gNil_ok)))))))
noncomputable def live3 : List (Nat × List (Nat × HK)) := []
noncomputable def ad3 : Ad (Int × Int × Unit) := aC (cInt .u64) (aC (cInt .u64) (a0))
noncomputable def rd3 : Rd (Bool) := r1 (cBool)
noncomputable def fn_tillertop_TopRests (N : Nat) (x0 : Int) (x1 : Int) : Option (Bool) :=
  cond (ltI (bicI .u64 x0 9223372036854775808) 900719925474099200)
   ((fn_tillertop_sure N).bind fun r1 =>
    some r1)
   (cond (ltI (bicI .u64 x1 9223372036854775808) 900719925474099200)
    ((fn_tillertop_sure N).bind fun r2 =>
     some r2)
    (cond (ltI 8106479329266892800 (bicI .u64 x0 9223372036854775808))
     ((fn_tillertop_sure N).bind fun r3 =>
      some r3)
     (cond (ltI 8106479329266892800 (bicI .u64 x1 9223372036854775808))
      ((fn_tillertop_sure N).bind fun r4 =>
       some r4)
      (cond (ltI (addI .u64 (shrI .u64 (bicI .u64 x1 9223372036854775808) 52) 50) (shrI .u64 (bicI .u64 x0 9223372036854775808) 52))
       ((fn_tillertop_sure N).bind fun r5 =>
        some r5)
       ((fn_whole_Rem N (bicI .u64 x0 9223372036854775808) (bicI .u64 x1 9223372036854775808)).bind fun r6 =>
        (fn_quot_Div N (bicI .u64 x0 9223372036854775808) (bicI .u64 x1 9223372036854775808) 0).bind fun r7 =>
         (fn_whole_Round N r7.1 0 false).bind fun r8 =>
          (fn_prod_Fma N (orI .u64 r8.1 9223372036854775808) (bicI .u64 x1 9223372036854775808) (bicI .u64 x0 9223372036854775808) 0).bind fun r9 =>
           cond (!(eqI r6.2 0))
            (some false)
            (cond (eqI r9.1 r6.1)
             (cond (eqI r9.2 0)
              ((fn_tillertop_sure N).bind fun r10 =>
               some r10)
              (some false))
             (cond (eqI (bicI .u64 r9.1 9223372036854775808) 0)
              (cond (eqI (bicI .u64 r6.1 9223372036854775808) 0)
               (cond (eqI r9.2 0)
                ((fn_tillertop_sure N).bind fun r11 =>
                 some r11)
                (some false))
               ((fn_sums_Add N r8.1 4607182418800017408 0).bind fun r12 =>
                (fn_sums_Sub N r8.1 4607182418800017408 0).bind fun r13 =>
                 (fn_prod_Fma N (orI .u64 r12.1 9223372036854775808) (bicI .u64 x1 9223372036854775808) (bicI .u64 x0 9223372036854775808) 0).bind fun r14 =>
                  (fn_prod_Fma N (xorI .u64 r13.1 9223372036854775808) (bicI .u64 x1 9223372036854775808) (bicI .u64 x0 9223372036854775808) 0).bind fun r15 =>
                   cond (eqI r14.1 r6.1)
                    ((fn_tillertop_sure N).bind fun r16 =>
                     some r16)
                    (cond (eqI r15.1 r6.1)
                     ((fn_tillertop_sure N).bind fun r17 =>
                      some r17)
                     (some false))))
              ((fn_sums_Add N r8.1 4607182418800017408 0).bind fun r18 =>
               (fn_sums_Sub N r8.1 4607182418800017408 0).bind fun r19 =>
                (fn_prod_Fma N (orI .u64 r18.1 9223372036854775808) (bicI .u64 x1 9223372036854775808) (bicI .u64 x0 9223372036854775808) 0).bind fun r20 =>
                 (fn_prod_Fma N (xorI .u64 r19.1 9223372036854775808) (bicI .u64 x1 9223372036854775808) (bicI .u64 x0 9223372036854775808) 0).bind fun r21 =>
                  cond (eqI r20.1 r6.1)
                   ((fn_tillertop_sure N).bind fun r22 =>
                    some r22)
                   (cond (eqI r21.1 r6.1)
                    ((fn_tillertop_sure N).bind fun r23 =>
                     some r23)
                    (some false))))))))))
theorem run3 (N : Nat) (x0 : Int) (x1 : Int) : Eng.run T3 (G3 N) N live3 c3 Tryz.f3.results.toList Tryz.f3.ntmps ((ad3).enc (x0, x1, ())) (rd3).dec = fn_tillertop_TopRests N x0 x1 := by kernel_rfl
noncomputable def F3 (N : Nat) (a : Int × Int × Unit) : Option (Bool) := fn_tillertop_TopRests N a.1 a.2.1
theorem ok3 (N : Nat) : FnOK Tryz.prog 3 ad3 rd3 (F3 N) :=
  fn_ok (N := N) (live := live3) (code := c3) (tok T3.rt T3.kl (wrNil_ok)) mixed (gok3 N) Tryz.func3 (by kernel_rfl) (by kernel_rfl) (by kernel_rfl) fun a p h => by rw [← h]; exact run3 N a.1 a.2.1
end Go.Proofs.YtopcajgknbmbcaaGreatDoor.Fns

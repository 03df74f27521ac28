/- The law's function as a plain Lean function, and the engine's run of it. No statement is proved here. Laid by eng.py. -/
import Derived.Test.YtcdhcihjcjpmkaaGreatDoorFn2
namespace Go.Proofs.YtcdhcihjcjpmkaaGreatDoor.Fns
open Go Go.RowKit Go.Proofs Go.Proofs.YtcdhcihjcjpmkaaGreatDoor.Eng Go.Proofs.YtcdhcihjcjpmkaaGreatDoor.Num Go.Proofs.YtcdhcihjcjpmkaaGreatDoor.Slc
set_option linter.unusedVariables false
set_option maxRecDepth 100000
/-! ### tiller/tillertop.TopTexts: function 3 -/
noncomputable def c3 : Code := (Tryz.f3.body).getD .skip
noncomputable def T3 : Tb := ⟨tyOf tys, [], [], wrNil⟩
noncomputable def G3 {R : Type} (N : Nat) : FuncId → List AV → (AV → Option R) → Option R := gCons 4 (gOf ad4 rd4 (F4 N)) (gCons 6 (gOf ad6 rd6 (F6 N)) (gCons 5 (gOf ad5 rd5 (F5 N)) (gCons 7 (gOf ad7 rd7 (F7 N)) (gNil))))
theorem gok3 {R : Type} (N : Nat) : GOK Tryz.prog (G3 (R := R) N) := gCons_ok (ok4 N) (gCons_ok (ok6 N) (gCons_ok (ok5 N) (gCons_ok (ok7 N) (gNil_ok))))
noncomputable def live3 : List (Nat × List (Nat × HK)) := []
noncomputable def ad3 : Ad (Int × ByteArray × Int × Unit) := aC (cInt .u64) (aC (cStr) (aC (cInt .i64) (a0)))
noncomputable def rd3 : Rd (Bool) := r1 (cBool)
noncomputable def fn_tillertop_TopTexts (N : Nat) (x0 : Int) (x1 : ByteArray) (x2 : Int) : Option (Bool) :=
  cond (ltI 1000 (x1.size : Int))
   ((fn_tillertop_sure N).bind fun r1 =>
    some r1)
   ((fn_show_Short N x0).bind fun r2 =>
    (fn_read_Parse N r2 0).bind fun r3 =>
     (fn_show_Hex N x0).bind fun r4 =>
      (fn_read_Parse N r4 x2).bind fun r5 =>
       cond (!(isNoneI r3.2.2))
        (some false)
        (cond (!(isNoneI r5.2.2))
         (some false)
         (cond (!(eqI r5.2.1 0))
          (some false)
          (cond (!(eqI r3.1 r5.1))
           (some false)
           (cond (leI (bicI .u64 x0 9223372036854775808) 9218868437227405312)
            (cond (!(eqI r3.1 x0))
             (some false)
             ((fn_read_Parse N x1 x2).bind fun r6 =>
              cond (!(isNoneI r6.2.2))
               ((fn_tillertop_sure N).bind fun r7 =>
                some r7)
               ((fn_show_Short N r6.1).bind fun r8 =>
                (fn_read_Parse N r8 0).bind fun r9 =>
                 (fn_show_Hex N r6.1).bind fun r10 =>
                  (fn_read_Parse N r10 x2).bind fun r11 =>
                   cond (isNoneI r9.2.2)
                    (cond (isNoneI r11.2.2)
                     (cond (eqI r11.2.1 0)
                      (cond (eqI r9.1 r6.1)
                       (cond (eqI r11.1 r6.1)
                        ((fn_tillertop_sure N).bind fun r12 =>
                         some r12)
                        (some false))
                       (some false))
                      (some false))
                     (some false))
                    (some false))))
            ((fn_read_Parse N x1 x2).bind fun r13 =>
             cond (!(isNoneI r13.2.2))
              ((fn_tillertop_sure N).bind fun r14 =>
               some r14)
              ((fn_show_Short N r13.1).bind fun r15 =>
               (fn_read_Parse N r15 0).bind fun r16 =>
                (fn_show_Hex N r13.1).bind fun r17 =>
                 (fn_read_Parse N r17 x2).bind fun r18 =>
                  cond (isNoneI r16.2.2)
                   (cond (isNoneI r18.2.2)
                    (cond (eqI r18.2.1 0)
                     (cond (eqI r16.1 r13.1)
                      (cond (eqI r18.1 r13.1)
                       ((fn_tillertop_sure N).bind fun r19 =>
                        some r19)
                       (some false))
                      (some false))
                     (some false))
                    (some false))
                   (some false))))))))
theorem run3 (N : Nat) (x0 : Int) (x1 : ByteArray) (x2 : Int) : Eng.run T3 (G3 N) N live3 c3 Tryz.f3.results.toList Tryz.f3.ntmps ((ad3).enc (x0, x1, x2, ())) (rd3).dec = fn_tillertop_TopTexts N x0 x1 x2 := by kernel_rfl
noncomputable def F3 (N : Nat) (a : Int × ByteArray × Int × Unit) : Option (Bool) := fn_tillertop_TopTexts N a.1 a.2.1 a.2.2.1
theorem ok3 (N : Nat) : FnOK Tryz.prog 3 ad3 rd3 (F3 N) :=
  fn_ok (N := N) (live := live3) (code := c3) (tok T3.rt T3.kl (wrNil_ok)) mixed (gok3 N) Tryz.func3 (by kernel_rfl) (by kernel_rfl) (by kernel_rfl) fun a p h => by rw [← h]; exact run3 N a.1 a.2.1 a.2.2.1
end Go.Proofs.YtcdhcihjcjpmkaaGreatDoor.Fns

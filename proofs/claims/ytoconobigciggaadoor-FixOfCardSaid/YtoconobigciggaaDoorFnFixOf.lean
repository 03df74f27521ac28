/- The law's function as a plain Lean function, and the engine's run of it. No statement is proved here. Laid by eng.py. -/
import Derived.Test.YtoconobigciggaaDoorFn1
namespace Go.Proofs.YtoconobigciggaaDoor.Fns
open Go Go.RowKit Go.Proofs Go.Proofs.YtoconobigciggaaDoor.Eng Go.Proofs.YtoconobigciggaaDoor.Num
set_option linter.unusedVariables false
set_option maxRecDepth 100000
/-! ### tiller/tillerlaw15.FixOf: function 3 -/
noncomputable def c3 : Code := (Tryd.f3.body).getD .skip
noncomputable def T3 : Tb := ⟨tyOf tys, [], []⟩
noncomputable def G3 {R : Type} (N : Nat) : FuncId → List AV → (AV → Option R) → Option R := gCons 6 (gOf ad6 rd6 (F6 N)) (gCons 7 (gOf ad7 rd7 (F7 N)) (gCons 9 (gOf ad9 rd9 (F9 N)) (gCons 8 (gOf ad8 rd8 (F8 N)) (gCons 10 (gOf (aC (cErr 55) a0) (r1 (cInt .i64)) (fun a => fn_num N a.1)) (gCons 12 (gOf ad12 rd12 (F12 N)) (gCons 11 (gOf ad11 rd11 (F11 N)) (gCons 13 (gOf ad13 rd13 (F13 N)) (gCons 14 (gOf ad14 rd14 (F14 N)) (gNil)))))))))
theorem gok3 {R : Type} (N : Nat) : GOK Tryd.prog (G3 (R := R) N) := gCons_ok (ok6 N) (gCons_ok (ok7 N) (gCons_ok (ok9 N) (gCons_ok (ok8 N) (gCons_ok (num_ok N) (gCons_ok (ok12 N) (gCons_ok (ok11 N) (gCons_ok (ok13 N) (gCons_ok (ok14 N) (gNil_ok)))))))))
noncomputable def live3 : List (Nat × List (Nat × HK)) := []
noncomputable def ad3 : Ad (Int × Int × Unit) := aC (cInt .u64) (aC (cInt .u64) (a0))
noncomputable def rd3 : Rd (Bool) := r1 (cBool)
noncomputable def fn_tillerlaw15_FixOf (N : Nat) (x0 : Int) (x1 : Int) : Option (Bool) :=
  (fn_fix_Of N x0 x1).bind fun r1 =>
   (fn_tillerref15_Of N x0 x1).bind fun r2 =>
    (fn_tillerref15_Pi N).bind fun r3 =>
     (fn_tillerref02_Shr N r3 72).bind fun r4 =>
      (fn_num N r1.2).bind fun r5 =>
       cond (eqI r5 r2.2)
        ((fn_tillerlaw15_of N r1.1).bind fun r6 =>
         (fn_tillerref02_Cmp N r6 r2.1).bind fun r7 =>
          cond (eqI r7 0)
           ((fn_fix_Pi N).bind fun r8 =>
            (fn_tillerlaw15_of N r8).bind fun r9 =>
             (fn_tillerref02_Cmp N r9 r4.1).bind fun r10 =>
              cond (eqI r10 0)
               ((fn_tillerlaw15_sure N).bind fun r11 =>
                some r11)
               (some false))
           (some false))
        (some false)
theorem run3 (N : Nat) (x0 : Int) (x1 : Int) : Eng.run T3 (G3 N) N live3 c3 Tryd.f3.results.toList Tryd.f3.ntmps ((ad3).enc (x0, x1, ())) (rd3).dec = fn_tillerlaw15_FixOf N x0 x1 := by kernel_rfl
noncomputable def F3 (N : Nat) (a : Int × Int × Unit) : Option (Bool) := fn_tillerlaw15_FixOf N a.1 a.2.1
theorem ok3 (N : Nat) : FnOK Tryd.prog 3 ad3 rd3 (F3 N) :=
  fn_ok (N := N) (live := live3) (code := c3) (tok T3.rt T3.kl) mixed (gok3 N) Tryd.func3 (by kernel_rfl) (by kernel_rfl) (by kernel_rfl) fun a p h => by rw [← h]; exact run3 N a.1 a.2.1
end Go.Proofs.YtoconobigciggaaDoor.Fns

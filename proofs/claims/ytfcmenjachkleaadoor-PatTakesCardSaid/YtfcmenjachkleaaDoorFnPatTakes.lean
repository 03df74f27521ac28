/- The law's function as a plain Lean function, and the engine's run of it. No statement is proved here. Laid by eng.py. -/
import Derived.Test.YtfcmenjachkleaaDoorFn1
namespace Go.Proofs.YtfcmenjachkleaaDoor.Fns
open Go Go.RowKit Go.Proofs Go.Proofs.YtfcmenjachkleaaDoor.Eng Go.Proofs.YtfcmenjachkleaaDoor.Num
set_option linter.unusedVariables false
set_option maxRecDepth 100000
/-! ### tiller/tillerlaw03.PatTakes: function 3 -/
noncomputable def c3 : Code := (Tryd.f3.body).getD .skip
noncomputable def T3 : Tb := ⟨tyOf tys, [(13, 3)], []⟩
noncomputable def G3 {R : Type} (N : Nat) : FuncId → List AV → (AV → Option R) → Option R := gCons 7 (gOf ad7 rd7 (F7 N)) (gCons 8 (gOf ad8 rd8 (F8 N)) (gCons 9 (gOf ad9 rd9 (F9 N)) (gCons 10 (gOf ad10 rd10 (F10 N)) (gCons 11 (gOf ad11 rd11 (F11 N)) (gCons 12 (gOf ad12 rd12 (F12 N)) (gCons 13 (gOf ad13 rd13 (F13 N)) (gCons 14 (gOf ad14 rd14 (F14 N)) (gNil))))))))
theorem gok3 {R : Type} (N : Nat) : GOK Tryd.prog (G3 (R := R) N) := gCons_ok (ok7 N) (gCons_ok (ok8 N) (gCons_ok (ok9 N) (gCons_ok (ok10 N) (gCons_ok (ok11 N) (gCons_ok (ok12 N) (gCons_ok (ok13 N) (gCons_ok (ok14 N) (gNil_ok))))))))
noncomputable def live3 : List (Nat × List (Nat × HK)) := []
noncomputable def ad3 : Ad (Int × Unit) := aC (cInt .u64) (a0)
noncomputable def rd3 : Rd (Bool) := r1 (cBool)
noncomputable def fn_tillerlaw03_PatTakes (N : Nat) (x0 : Int) : Option (Bool) :=
  (fn_pat_Take N x0).bind fun r1 =>
   (fn_tillerref03_Take N x0).bind fun r2 =>
    cond ((eqB r1.1 r2.1) && ((eqI r1.2.1 r2.2.1) && ((eqI r1.2.2.1 r2.2.2.1) && ((eqI r1.2.2.2 r2.2.2.2) && true))))
     ((fn_pat_Class N x0).bind fun r3 =>
      cond (eqI r3 r1.2.1)
       ((fn_pat_IsNaN N x0).bind fun r4 =>
        (fn_tillerref03_NaN N x0).bind fun r5 =>
         cond (eqB r4 r5)
          ((fn_pat_Finite N x0).bind fun r6 =>
           (fn_tillerref03_Finite N x0).bind fun r7 =>
            cond (eqB r6 r7)
             ((fn_tillerlaw03_sure N).bind fun r8 =>
              some r8)
             (some false))
          (some false))
       (some false))
     (some false)
theorem run3 (N : Nat) (x0 : Int) : Eng.run T3 (G3 N) N live3 c3 Tryd.f3.results.toList Tryd.f3.ntmps ((ad3).enc (x0, ())) (rd3).dec = fn_tillerlaw03_PatTakes N x0 := by kernel_rfl
noncomputable def F3 (N : Nat) (a : Int × Unit) : Option (Bool) := fn_tillerlaw03_PatTakes N a.1
theorem ok3 (N : Nat) : FnOK Tryd.prog 3 ad3 rd3 (F3 N) :=
  fn_ok (N := N) (live := live3) (code := c3) (tok T3.rt T3.kl) mixed (gok3 N) Tryd.func3 (by kernel_rfl) (by kernel_rfl) (by kernel_rfl) fun a p h => by rw [← h]; exact run3 N a.1
end Go.Proofs.YtfcmenjachkleaaDoor.Fns

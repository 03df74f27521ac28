/- The law's function as a plain Lean function, and the engine's run of it. No statement is proved here. Laid by eng.py. -/
import Derived.Test.YtfcmenjachkleaaDoorFn1
namespace Go.Proofs.YtfcmenjachkleaaDoor.Fns
open Go Go.RowKit Go.Proofs Go.Proofs.YtfcmenjachkleaaDoor.Eng Go.Proofs.YtfcmenjachkleaaDoor.Num
set_option linter.unusedVariables false
set_option maxRecDepth 100000
/-! ### tiller/tillerlaw03.PatBack: function 6 -/
noncomputable def c6 : Code := (Tryd.f6.body).getD .skip
noncomputable def T6 : Tb := ⟨tyOf tys, [], []⟩
noncomputable def G6 {R : Type} (N : Nat) : FuncId → List AV → (AV → Option R) → Option R := gCons 7 (gOf ad7 rd7 (F7 N)) (gCons 20 (gOf ad20 rd20 (F20 N)) (gCons 14 (gOf ad14 rd14 (F14 N)) (gNil)))
theorem gok6 {R : Type} (N : Nat) : GOK Tryd.prog (G6 (R := R) N) := gCons_ok (ok7 N) (gCons_ok (ok20 N) (gCons_ok (ok14 N) (gNil_ok)))
noncomputable def live6 : List (Nat × List (Nat × HK)) := []
noncomputable def ad6 : Ad (Int × (Bool × Int × Int × Int) × Unit) := aC (cInt .u64) (aC (cSt (fC (lBool) (fC (lInt .i64) (fC (lInt .i64) (fO (lInt .u64)))))) (a0))
noncomputable def rd6 : Rd (Bool) := r1 (cBool)
noncomputable def fn_tillerlaw03_PatBack (N : Nat) (x0 : Int) (x1 : (Bool × Int × Int × Int)) : Option (Bool) :=
  (fn_pat_Take N x0).bind fun r1 =>
   (fn_pat_Make N (r1.1, r1.2.1, r1.2.2.1, r1.2.2.2)).bind fun r2 =>
    (fn_pat_Make N (x1.1, x1.2.1, x1.2.2.1, x1.2.2.2)).bind fun r3 =>
     cond (isNoneI r2.2)
      (cond (eqI r2.1 x0)
       (cond (!(isNoneI r3.2))
        ((fn_tillerlaw03_sure N).bind fun r4 =>
         some r4)
        ((fn_pat_Take N r3.1).bind fun r5 =>
         cond ((eqB r5.1 x1.1) && ((eqI r5.2.1 x1.2.1) && ((eqI r5.2.2.1 x1.2.2.1) && ((eqI r5.2.2.2 x1.2.2.2) && true))))
          ((fn_tillerlaw03_sure N).bind fun r6 =>
           some r6)
          (some false)))
       (some false))
      (some false)
theorem run6 (N : Nat) (x0 : Int) (x1 : (Bool × Int × Int × Int)) : Eng.run T6 (G6 N) N live6 c6 Tryd.f6.results.toList Tryd.f6.ntmps ((ad6).enc (x0, x1, ())) (rd6).dec = fn_tillerlaw03_PatBack N x0 x1 := by kernel_rfl
noncomputable def F6 (N : Nat) (a : Int × (Bool × Int × Int × Int) × Unit) : Option (Bool) := fn_tillerlaw03_PatBack N a.1 a.2.1
theorem ok6 (N : Nat) : FnOK Tryd.prog 6 ad6 rd6 (F6 N) :=
  fn_ok (N := N) (live := live6) (code := c6) (tok T6.rt T6.kl) mixed (gok6 N) Tryd.func6 (by kernel_rfl) (by kernel_rfl) (by kernel_rfl) fun a p h => by rw [← h]; exact run6 N a.1 a.2.1
end Go.Proofs.YtfcmenjachkleaaDoor.Fns

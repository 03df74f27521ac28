/- The law's function as a plain Lean function, and the engine's run of it. No statement is proved here. Laid by eng.py. -/
import Derived.Test.YtfcmenjachkleaaDoorFn1
namespace Go.Proofs.YtfcmenjachkleaaDoor.Fns
open Go Go.RowKit Go.Proofs Go.Proofs.YtfcmenjachkleaaDoor.Eng Go.Proofs.YtfcmenjachkleaaDoor.Num
set_option linter.unusedVariables false
set_option maxRecDepth 100000
/-! ### tiller/tillerlaw03.PatSigns: function 4 -/
noncomputable def c4 : Code := (Tryd.f4.body).getD .skip
noncomputable def T4 : Tb := ⟨tyOf tys, [], []⟩
noncomputable def G4 {R : Type} (N : Nat) : FuncId → List AV → (AV → Option R) → Option R := gCons 15 (gOf ad15 rd15 (F15 N)) (gCons 16 (gOf ad16 rd16 (F16 N)) (gCons 17 (gOf ad17 rd17 (F17 N)) (gCons 18 (gOf ad18 rd18 (F18 N)) (gCons 19 (gOf ad19 rd19 (F19 N)) (gCons 14 (gOf ad14 rd14 (F14 N)) (gNil))))))
theorem gok4 {R : Type} (N : Nat) : GOK Tryd.prog (G4 (R := R) N) := gCons_ok (ok15 N) (gCons_ok (ok16 N) (gCons_ok (ok17 N) (gCons_ok (ok18 N) (gCons_ok (ok19 N) (gCons_ok (ok14 N) (gNil_ok))))))
noncomputable def live4 : List (Nat × List (Nat × HK)) := []
noncomputable def ad4 : Ad (Int × Int × Unit) := aC (cInt .u64) (aC (cInt .u64) (a0))
noncomputable def rd4 : Rd (Bool) := r1 (cBool)
noncomputable def fn_tillerlaw03_PatSigns (N : Nat) (x0 : Int) (x1 : Int) : Option (Bool) :=
  (fn_tillerref03_Abs N x0).bind fun r1 =>
   cond (leI 9223372036854775808 x1)
    ((fn_tillerref03_Neg N r1).bind fun r2 =>
     (fn_pat_Neg N x0).bind fun r3 =>
      (fn_tillerref03_Neg N x0).bind fun r4 =>
       cond (eqI r3 r4)
        ((fn_pat_Abs N x0).bind fun r5 =>
         (fn_tillerref03_Abs N x0).bind fun r6 =>
          cond (eqI r5 r6)
           ((fn_pat_Copy N x0 x1).bind fun r7 =>
            cond (eqI r7 r2)
             ((fn_tillerlaw03_sure N).bind fun r8 =>
              some r8)
             (some false))
           (some false))
        (some false))
    ((fn_pat_Neg N x0).bind fun r9 =>
     (fn_tillerref03_Neg N x0).bind fun r10 =>
      cond (eqI r9 r10)
       ((fn_pat_Abs N x0).bind fun r11 =>
        (fn_tillerref03_Abs N x0).bind fun r12 =>
         cond (eqI r11 r12)
          ((fn_pat_Copy N x0 x1).bind fun r13 =>
           cond (eqI r13 r1)
            ((fn_tillerlaw03_sure N).bind fun r14 =>
             some r14)
            (some false))
          (some false))
       (some false))
theorem run4 (N : Nat) (x0 : Int) (x1 : Int) : Eng.run T4 (G4 N) N live4 c4 Tryd.f4.results.toList Tryd.f4.ntmps ((ad4).enc (x0, x1, ())) (rd4).dec = fn_tillerlaw03_PatSigns N x0 x1 := by kernel_rfl
noncomputable def F4 (N : Nat) (a : Int × Int × Unit) : Option (Bool) := fn_tillerlaw03_PatSigns N a.1 a.2.1
theorem ok4 (N : Nat) : FnOK Tryd.prog 4 ad4 rd4 (F4 N) :=
  fn_ok (N := N) (live := live4) (code := c4) (tok T4.rt T4.kl) mixed (gok4 N) Tryd.func4 (by kernel_rfl) (by kernel_rfl) (by kernel_rfl) fun a p h => by rw [← h]; exact run4 N a.1 a.2.1
end Go.Proofs.YtfcmenjachkleaaDoor.Fns

/- The law's function as a plain Lean function, and the engine's run of it. No statement is proved here. Laid by eng.py. -/
import Derived.Test.YtoconobigciggaaDoorFn1
namespace Go.Proofs.YtoconobigciggaaDoor.Fns
open Go Go.RowKit Go.Proofs Go.Proofs.YtoconobigciggaaDoor.Eng Go.Proofs.YtoconobigciggaaDoor.Num
set_option linter.unusedVariables false
set_option maxRecDepth 100000
/-! ### tiller/tillerlaw15.FixHalves: function 4 -/
noncomputable def c4 : Code := (Tryd.f4.body).getD .skip
noncomputable def T4 : Tb := ⟨tyOf tys, [], []⟩
noncomputable def G4 {R : Type} (N : Nat) : FuncId → List AV → (AV → Option R) → Option R := gCons 6 (gOf ad6 rd6 (F6 N)) (gCons 15 (gOf ad15 rd15 (F15 N)) (gCons 16 (gOf ad16 rd16 (F16 N)) (gCons 17 (gOf ad17 rd17 (F17 N)) (gCons 10 (gOf (aC (cErr 55) a0) (r1 (cInt .i64)) (fun a => fn_num N a.1)) (gCons 14 (gOf ad14 rd14 (F14 N)) (gNil))))))
theorem gok4 {R : Type} (N : Nat) : GOK Tryd.prog (G4 (R := R) N) := gCons_ok (ok6 N) (gCons_ok (ok15 N) (gCons_ok (ok16 N) (gCons_ok (ok17 N) (gCons_ok (num_ok N) (gCons_ok (ok14 N) (gNil_ok))))))
noncomputable def live4 : List (Nat × List (Nat × HK)) := []
noncomputable def ad4 : Ad (Vec 4 × Int × Unit) := aC (cVec .u64 4) (aC (cInt .u64) (a0))
noncomputable def rd4 : Rd (Bool) := r1 (cBool)
noncomputable def fn_tillerlaw15_FixHalves (N : Nat) (x0 : Vec 4) (x1 : Int) : Option (Bool) :=
  (fn_fix_Of N 1 2).bind fun r1 =>
   (fn_fix_Mul N x0 r1.1).bind fun r2 =>
    (fn_wide_Shr N x0 1).bind fun r3 =>
     (fn_tillerlaw15_one N).bind fun r4 =>
      (fn_fix_Mul N x0 r4).bind fun r5 =>
       (fn_fix_Of N x1 x1).bind fun r6 =>
        cond (isNoneI r1.2)
         (cond (!(r2.2))
          (cond (eqL r2.1.1 r3.1.1)
           (cond (eqL r5.1.1 x0.1)
            (cond (!(r5.2))
             (cond (eqI x1 0)
              ((fn_num N r6.2).bind fun r7 =>
               cond (eqI r7 5)
                ((fn_tillerlaw15_sure N).bind fun r8 =>
                 some r8)
                (cond (isNoneI r6.2)
                 ((fn_tillerlaw15_one N).bind fun r9 =>
                  cond (eqL r6.1.1 r9.1)
                   ((fn_tillerlaw15_sure N).bind fun r10 =>
                    some r10)
                   (some false))
                 (some false)))
              (cond (isNoneI r6.2)
               ((fn_tillerlaw15_one N).bind fun r11 =>
                cond (eqL r6.1.1 r11.1)
                 ((fn_tillerlaw15_sure N).bind fun r12 =>
                  some r12)
                 (some false))
               (some false)))
             (some false))
            (some false))
           (some false))
          (some false))
         (some false)
theorem run4 (N : Nat) (x0 : Vec 4) (x1 : Int) : Eng.run T4 (G4 N) N live4 c4 Tryd.f4.results.toList Tryd.f4.ntmps ((ad4).enc (x0, x1, ())) (rd4).dec = fn_tillerlaw15_FixHalves N x0 x1 := by kernel_rfl
noncomputable def F4 (N : Nat) (a : Vec 4 × Int × Unit) : Option (Bool) := fn_tillerlaw15_FixHalves N a.1 a.2.1
theorem ok4 (N : Nat) : FnOK Tryd.prog 4 ad4 rd4 (F4 N) :=
  fn_ok (N := N) (live := live4) (code := c4) (tok T4.rt T4.kl) mixed (gok4 N) Tryd.func4 (by kernel_rfl) (by kernel_rfl) (by kernel_rfl) fun a p h => by rw [← h]; exact run4 N a.1 a.2.1
end Go.Proofs.YtoconobigciggaaDoor.Fns

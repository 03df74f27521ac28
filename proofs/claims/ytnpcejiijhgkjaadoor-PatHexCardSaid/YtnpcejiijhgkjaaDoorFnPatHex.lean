/- The law's function as a plain Lean function, and the engine's run of it. No statement is proved here. Laid by eng.py. -/
import Derived.Test.YtnpcejiijhgkjaaDoorFn1
namespace Go.Proofs.YtnpcejiijhgkjaaDoor.Fns
open Go Go.RowKit Go.Proofs Go.Proofs.YtnpcejiijhgkjaaDoor.Eng Go.Proofs.YtnpcejiijhgkjaaDoor.Num
set_option linter.unusedVariables false
set_option maxRecDepth 100000
/-! ### tiller/tillerlaw03.PatHex: function 3 -/
noncomputable def c3 : Code := (Tryd.f3.body).getD .skip
noncomputable def T3 : Tb := ⟨tyOf tys, [], [], wrNil⟩
noncomputable def G3 {R : Type} (N : Nat) : FuncId → List AV → (AV → Option R) → Option R := gCons 5 (gOf ad5 rd5 (F5 N)) (gCons 6 (gOf ad6 rd6 (F6 N)) (gCons 7 (gOf ad7 rd7 (F7 N)) (gCons 8 (gOf ad8 rd8 (F8 N)) (gCons 9 (gOf (aC (cErr 40) a0) (r1 (cInt .i64)) (fun a => fn_num N a.1)) (gCons 10 (gOf ad10 rd10 (F10 N)) (gNil))))))
theorem gok3 {R : Type} (N : Nat) : GOK Tryd.prog (G3 (R := R) N) := gCons_ok (ok5 N) (gCons_ok (ok6 N) (gCons_ok (ok7 N) (gCons_ok (ok8 N) (gCons_ok (num_ok N) (gCons_ok (ok10 N) (gNil_ok))))))
noncomputable def live3 : List (Nat × List (Nat × HK)) := []
noncomputable def ad3 : Ad (Int × ByteArray × Unit) := aC (cInt .u64) (aC (cStr) (a0))
noncomputable def rd3 : Rd (Bool) := r1 (cBool)
noncomputable def fn_tillerlaw03_PatHex (N : Nat) (x0 : Int) (x1 : ByteArray) : Option (Bool) :=
  (fn_pat_Parse N x1).bind fun r1 =>
   (fn_tillerref03_Parse N x1).bind fun r2 =>
    (fn_pat_Hex N x0).bind fun r3 =>
     (fn_pat_Parse N r3).bind fun r4 =>
      (fn_pat_Hex N x0).bind fun r5 =>
       (fn_tillerref03_Hex N x0).bind fun r6 =>
        cond (eqS r5 r6)
         (cond (eqI r1.1 r2.1)
          ((fn_num N r1.2).bind fun r7 =>
           cond (eqI r7 r2.2)
            (cond (eqI r4.1 x0)
             (cond (isNoneI r4.2)
              ((fn_tillerlaw03_sure N).bind fun r8 =>
               some r8)
              (some false))
             (some false))
            (some false))
          (some false))
         (some false)
theorem run3 (N : Nat) (x0 : Int) (x1 : ByteArray) : Eng.run T3 (G3 N) N live3 c3 Tryd.f3.results.toList Tryd.f3.ntmps ((ad3).enc (x0, x1, ())) (rd3).dec = fn_tillerlaw03_PatHex N x0 x1 := by kernel_rfl
noncomputable def F3 (N : Nat) (a : Int × ByteArray × Unit) : Option (Bool) := fn_tillerlaw03_PatHex N a.1 a.2.1
theorem ok3 (N : Nat) : FnOK Tryd.prog 3 ad3 rd3 (F3 N) :=
  fn_ok (N := N) (live := live3) (code := c3) (tok T3.rt T3.kl (wrNil_ok)) mixed (gok3 N) Tryd.func3 (by kernel_rfl) (by kernel_rfl) (by kernel_rfl) fun a p h => by rw [← h]; exact run3 N a.1 a.2.1
end Go.Proofs.YtnpcejiijhgkjaaDoor.Fns

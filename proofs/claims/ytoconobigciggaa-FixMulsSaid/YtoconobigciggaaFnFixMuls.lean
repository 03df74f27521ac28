/- The law's function as a plain Lean function, and the engine's run of it. No statement is proved here. Laid by eng.py. -/
import Derived.Test.YtoconobigciggaaFn1
namespace Go.Proofs.Ytoconobigciggaa.Fns
open Go Go.RowKit Go.Proofs Go.Proofs.Ytoconobigciggaa.Eng
set_option linter.unusedVariables false
set_option maxRecDepth 100000
/-! ### tiller/tillerlaw15.FixMuls: function 3 -/
noncomputable def c3 : Code := (Try.f3.body).getD .skip
noncomputable def T3 : Tb := ⟨tyOf tys, [], []⟩
noncomputable def G3 {R : Type} (N : Nat) : FuncId → List AV → (AV → Option R) → Option R := gCons 6 (gOf ad6 rd6 (F6 N)) (gCons 9 (gOf ad9 rd9 (F9 N)) (gCons 8 (gOf ad8 rd8 (F8 N)) (gCons 7 (gOf ad7 rd7 (F7 N)) (gCons 11 (gOf ad11 rd11 (F11 N)) (gCons 10 (gOf ad10 rd10 (F10 N)) (gCons 12 (gOf ad12 rd12 (F12 N)) (gCons 13 (gOf ad13 rd13 (F13 N)) (gNil))))))))
theorem gok3 {R : Type} (N : Nat) : GOK Try.prog (G3 (R := R) N) := gCons_ok (ok6 N) (gCons_ok (ok9 N) (gCons_ok (ok8 N) (gCons_ok (ok7 N) (gCons_ok (ok11 N) (gCons_ok (ok10 N) (gCons_ok (ok12 N) (gCons_ok (ok13 N) (gNil_ok))))))))
noncomputable def live3 : List (Nat × List (Nat × HK)) := []
noncomputable def ad3 : Ad (Vec 4 × Vec 4 × Unit) := aC (cVec .u64 4) (aC (cVec .u64 4) (a0))
noncomputable def rd3 : Rd (Bool) := r1 (cBool)
noncomputable def fn_tillerlaw15_FixMuls (N : Nat) (x0 : Vec 4) (x1 : Vec 4) : Option (Bool) :=
  (fn_fix_Mul N x0 x1).bind fun r1 =>
   (fn_tillerlaw15_of N x0).bind fun r2 =>
    (fn_tillerlaw15_of N x1).bind fun r3 =>
     (fn_tillerref02_Mul N r2 r3).bind fun r4 =>
      (fn_tillerref02_Shr N r4 248).bind fun r5 =>
       (fn_tillerref02_Shr N r5.1 256).bind fun r6 =>
        (fn_tillerref02_Shl N r6.1 256).bind fun r7 =>
         (fn_tillerref02_Sub N r5.1 r7).bind fun r8 =>
          (fn_tillerlaw15_of N r1.1).bind fun r9 =>
           (fn_tillerref02_Cmp N r9 r8).bind fun r10 =>
            cond (eqI r10 0)
             (cond (eqB r1.2 (ltI 0 (r6.1.length : Int)))
              ((fn_tillerlaw15_sure N).bind fun r11 =>
               some r11)
              (some false))
             (some false)
theorem run3 (N : Nat) (x0 : Vec 4) (x1 : Vec 4) : Eng.run T3 (G3 N) N live3 c3 Try.f3.results.toList Try.f3.ntmps ((ad3).enc (x0, x1, ())) (rd3).dec = fn_tillerlaw15_FixMuls N x0 x1 := by kernel_rfl
noncomputable def F3 (N : Nat) (a : Vec 4 × Vec 4 × Unit) : Option (Bool) := fn_tillerlaw15_FixMuls N a.1 a.2.1
theorem ok3 (N : Nat) : FnOK Try.prog 3 ad3 rd3 (F3 N) :=
  fn_ok (N := N) (live := live3) (code := c3) (tok T3.rt T3.kl) mixed (gok3 N) Try.func3 (by kernel_rfl) (by kernel_rfl) (by kernel_rfl) fun a p h => by rw [← h]; exact run3 N a.1 a.2.1
end Go.Proofs.Ytoconobigciggaa.Fns

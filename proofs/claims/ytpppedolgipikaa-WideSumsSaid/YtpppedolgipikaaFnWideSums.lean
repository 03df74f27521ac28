/- The law's function as a plain Lean function, and the engine's run of it. No statement is proved here. Laid by eng.py. -/
import Derived.Test.YtpppedolgipikaaFn1
namespace Go.Proofs.Ytpppedolgipikaa.Fns
open Go Go.RowKit Go.Proofs Go.Proofs.Ytpppedolgipikaa.Eng
set_option linter.unusedVariables false
set_option maxRecDepth 100000
/-! ### tiller/tillerlaw01.WideSums: function 5 -/
noncomputable def c5 : Code := (Try.f5.body).getD .skip
noncomputable def T5 : Tb := ⟨tyOf tys, []⟩
noncomputable def G5 {R : Type} (N : Nat) : FuncId → List AV → (AV → Option R) → Option R := gCons 21 (gOf ad21 rd21 (F21 N)) (gCons 13 (gOf ad13 rd13 (F13 N)) (gCons 22 (gOf ad22 rd22 (F22 N)) (gCons 23 (gOf ad23 rd23 (F23 N)) (gCons 24 (gOf ad24 rd24 (F24 N)) (gCons 14 (gOf ad14 rd14 (F14 N)) (gCons 15 (gOf ad15 rd15 (F15 N)) (gNil)))))))
theorem gok5 {R : Type} (N : Nat) : GOK Try.prog (G5 (R := R) N) := gCons_ok (ok21 N) (gCons_ok (ok13 N) (gCons_ok (ok22 N) (gCons_ok (ok23 N) (gCons_ok (ok24 N) (gCons_ok (ok14 N) (gCons_ok (ok15 N) (gNil_ok)))))))
noncomputable def live5 : List (Nat × List Nat) := []
noncomputable def ad5 : Ad (Vec 4 × Vec 4 × Unit) := aC (cVec .u64 4) (aC (cVec .u64 4) (a0))
noncomputable def rd5 : Rd (Bool) := r1 (cBool)
noncomputable def fn_tillerlaw01_WideSums (N : Nat) (x0 : Vec 4) (x1 : Vec 4) : Option (Bool) :=
  (fn_wide_Add N x0 x1).bind fun r1 =>
   (fn_tillerref01_Add N x0 x1).bind fun r2 =>
    (fn_wide_Sub N x0 x1).bind fun r3 =>
     (fn_tillerref01_Sub N x0 x1).bind fun r4 =>
      cond (eqL r1.1.1 r2.1.1)
       (cond (eqB r1.2 r2.2)
        (cond (eqL r3.1.1 r4.1.1)
         (cond (eqB r3.2 r4.2)
          ((fn_wide_Cmp N x0 x1).bind fun r5 =>
           (fn_tillerref01_Cmp N x0 x1).bind fun r6 =>
            cond (eqI r5 r6)
             ((fn_tillerlaw01_sure N).bind fun r7 =>
              some r7)
             (some false))
          (some false))
         (some false))
        (some false))
       (some false)
theorem run5 (N : Nat) (x0 : Vec 4) (x1 : Vec 4) : Eng.run T5 (G5 N) N live5 c5 Try.f5.results.toList Try.f5.ntmps ((ad5).enc (x0, x1, ())) (rd5).dec = fn_tillerlaw01_WideSums N x0 x1 := by kernel_rfl
noncomputable def F5 (N : Nat) (a : Vec 4 × Vec 4 × Unit) : Option (Bool) := fn_tillerlaw01_WideSums N a.1 a.2.1
theorem ok5 (N : Nat) : FnOK Try.prog 5 ad5 rd5 (F5 N) :=
  fn_ok (N := N) (live := live5) (code := c5) (tok T5.rt) mixed (gok5 N) Try.func5 (by kernel_rfl) (by kernel_rfl) (by kernel_rfl) fun a p h => by rw [← h]; exact run5 N a.1 a.2.1
end Go.Proofs.Ytpppedolgipikaa.Fns

/- The law's function as a plain Lean function, and the engine's run of it. No statement is proved here. Laid by eng.py. -/
import Derived.Test.YtkipjjijaphjpaaFn1
namespace Go.Proofs.Ytkipjjijaphjpaa.Fns
open Go Go.RowKit Go.Proofs Go.Proofs.Ytkipjjijaphjpaa.Eng
set_option linter.unusedVariables false
set_option maxRecDepth 100000
/-! ### tiller/tillerlaw10.OrderCompares: function 5 -/
noncomputable def c5 : Code := (Try.f5.body).getD .skip
noncomputable def T5 : Tb := ⟨tyOf tys, [], []⟩
noncomputable def G5 {R : Type} (N : Nat) : FuncId → List AV → (AV → Option R) → Option R := gCons 12 (gOf ad12 rd12 (F12 N)) (gCons 13 (gOf ad13 rd13 (F13 N)) (gCons 14 (gOf ad14 rd14 (F14 N)) (gCons 11 (gOf ad11 rd11 (F11 N)) (gNil))))
theorem gok5 {R : Type} (N : Nat) : GOK Try.prog (G5 (R := R) N) := gCons_ok (ok12 N) (gCons_ok (ok13 N) (gCons_ok (ok14 N) (gCons_ok (ok11 N) (gNil_ok))))
noncomputable def live5 : List (Nat × List (Nat × HK)) := []
noncomputable def ad5 : Ad (Int × Int × Unit) := aC (cInt .u64) (aC (cInt .u64) (a0))
noncomputable def rd5 : Rd (Bool) := r1 (cBool)
noncomputable def fn_tillerlaw10_OrderCompares (N : Nat) (x0 : Int) (x1 : Int) : Option (Bool) :=
  (fn_order_Compare N x0 x1).bind fun r1 =>
   (fn_tillerref10_Compare N x0 x1).bind fun r2 =>
    (fn_order_Signal N x0 x1).bind fun r3 =>
     cond (eqI r2.1 2)
      (cond (eqI r1.1 r2.1)
       (cond (eqI (cvI .i64 r1.2) r2.2)
        (cond (eqI r3.1 r2.1)
         (cond (eqI (cvI .i64 r3.2) 1)
          ((fn_tillerlaw10_sure N).bind fun r4 =>
           some r4)
          (some false))
         (some false))
        (some false))
       (some false))
      (cond (eqI r1.1 r2.1)
       (cond (eqI (cvI .i64 r1.2) r2.2)
        (cond (eqI r3.1 r2.1)
         (cond (eqI (cvI .i64 r3.2) 0)
          ((fn_tillerlaw10_sure N).bind fun r5 =>
           some r5)
          (some false))
         (some false))
        (some false))
       (some false))
theorem run5 (N : Nat) (x0 : Int) (x1 : Int) : Eng.run T5 (G5 N) N live5 c5 Try.f5.results.toList Try.f5.ntmps ((ad5).enc (x0, x1, ())) (rd5).dec = fn_tillerlaw10_OrderCompares N x0 x1 := by kernel_rfl
noncomputable def F5 (N : Nat) (a : Int × Int × Unit) : Option (Bool) := fn_tillerlaw10_OrderCompares N a.1 a.2.1
theorem ok5 (N : Nat) : FnOK Try.prog 5 ad5 rd5 (F5 N) :=
  fn_ok (N := N) (live := live5) (code := c5) (tok T5.rt T5.kl) mixed (gok5 N) Try.func5 (by kernel_rfl) (by kernel_rfl) (by kernel_rfl) fun a p h => by rw [← h]; exact run5 N a.1 a.2.1
end Go.Proofs.Ytkipjjijaphjpaa.Fns

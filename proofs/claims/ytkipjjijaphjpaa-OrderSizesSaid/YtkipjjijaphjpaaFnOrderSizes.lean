/- The law's function as a plain Lean function, and the engine's run of it. No statement is proved here. Laid by eng.py. -/
import Derived.Test.YtkipjjijaphjpaaFn1
namespace Go.Proofs.Ytkipjjijaphjpaa.Fns
open Go Go.RowKit Go.Proofs Go.Proofs.Ytkipjjijaphjpaa.Eng
set_option linter.unusedVariables false
set_option maxRecDepth 100000
/-! ### tiller/tillerlaw10.OrderSizes: function 7 -/
noncomputable def c7 : Code := (Try.f7.body).getD .skip
noncomputable def T7 : Tb := ⟨tyOf tys, [], []⟩
noncomputable def G7 {R : Type} (N : Nat) : FuncId → List AV → (AV → Option R) → Option R := gCons 20 (gOf ad20 rd20 (F20 N)) (gCons 16 (gOf ad16 rd16 (F16 N)) (gCons 21 (gOf ad21 rd21 (F21 N)) (gCons 11 (gOf ad11 rd11 (F11 N)) (gNil))))
theorem gok7 {R : Type} (N : Nat) : GOK Try.prog (G7 (R := R) N) := gCons_ok (ok20 N) (gCons_ok (ok16 N) (gCons_ok (ok21 N) (gCons_ok (ok11 N) (gNil_ok))))
noncomputable def live7 : List (Nat × List (Nat × HK)) := []
noncomputable def ad7 : Ad (Int × Int × Unit) := aC (cInt .u64) (aC (cInt .u64) (a0))
noncomputable def rd7 : Rd (Bool) := r1 (cBool)
noncomputable def fn_tillerlaw10_OrderSizes (N : Nat) (x0 : Int) (x1 : Int) : Option (Bool) :=
  (fn_order_MinSize N x0 x1).bind fun r1 =>
   (fn_tillerref10_Pick N x0 x1 true true false).bind fun r2 =>
    (fn_order_MaxSize N x0 x1).bind fun r3 =>
     (fn_tillerref10_Pick N x0 x1 false true false).bind fun r4 =>
      cond (eqI r1.1 r2.1)
       (cond (eqI (cvI .i64 r1.2) r2.2)
        (cond (eqI r3.1 r4.1)
         (cond (eqI (cvI .i64 r3.2) r4.2)
          ((fn_tillerlaw10_sure N).bind fun r5 =>
           some r5)
          (some false))
         (some false))
        (some false))
       (some false)
theorem run7 (N : Nat) (x0 : Int) (x1 : Int) : Eng.run T7 (G7 N) N live7 c7 Try.f7.results.toList Try.f7.ntmps ((ad7).enc (x0, x1, ())) (rd7).dec = fn_tillerlaw10_OrderSizes N x0 x1 := by kernel_rfl
noncomputable def F7 (N : Nat) (a : Int × Int × Unit) : Option (Bool) := fn_tillerlaw10_OrderSizes N a.1 a.2.1
theorem ok7 (N : Nat) : FnOK Try.prog 7 ad7 rd7 (F7 N) :=
  fn_ok (N := N) (live := live7) (code := c7) (tok T7.rt T7.kl) mixed (gok7 N) Try.func7 (by kernel_rfl) (by kernel_rfl) (by kernel_rfl) fun a p h => by rw [← h]; exact run7 N a.1 a.2.1
end Go.Proofs.Ytkipjjijaphjpaa.Fns

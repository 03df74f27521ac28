/- The law's function as a plain Lean function, and the engine's run of it. No statement is proved here. Laid by eng.py. -/
import Derived.Test.YtkipjjijaphjpaaFn1
namespace Go.Proofs.Ytkipjjijaphjpaa.Fns
open Go Go.RowKit Go.Proofs Go.Proofs.Ytkipjjijaphjpaa.Eng
set_option linter.unusedVariables false
set_option maxRecDepth 100000
/-! ### tiller/tillerlaw10.OrderTotals: function 3 -/
noncomputable def c3 : Code := (Try.f3.body).getD .skip
noncomputable def T3 : Tb := ⟨tyOf tys, [], []⟩
noncomputable def G3 {R : Type} (N : Nat) : FuncId → List AV → (AV → Option R) → Option R := gCons 9 (gOf ad9 rd9 (F9 N)) (gCons 10 (gOf ad10 rd10 (F10 N)) (gCons 11 (gOf ad11 rd11 (F11 N)) (gNil)))
theorem gok3 {R : Type} (N : Nat) : GOK Try.prog (G3 (R := R) N) := gCons_ok (ok9 N) (gCons_ok (ok10 N) (gCons_ok (ok11 N) (gNil_ok)))
noncomputable def live3 : List (Nat × List (Nat × HK)) := []
noncomputable def ad3 : Ad (Int × Int × Unit) := aC (cInt .u64) (aC (cInt .u64) (a0))
noncomputable def rd3 : Rd (Bool) := r1 (cBool)
noncomputable def fn_tillerlaw10_OrderTotals (N : Nat) (x0 : Int) (x1 : Int) : Option (Bool) :=
  (fn_order_Total N x0 x1).bind fun r1 =>
   (fn_tillerref10_Total N x0 x1).bind fun r2 =>
    cond (eqB r1 r2)
     ((fn_tillerlaw10_sure N).bind fun r3 =>
      some r3)
     (some false)
theorem run3 (N : Nat) (x0 : Int) (x1 : Int) : Eng.run T3 (G3 N) N live3 c3 Try.f3.results.toList Try.f3.ntmps ((ad3).enc (x0, x1, ())) (rd3).dec = fn_tillerlaw10_OrderTotals N x0 x1 := by kernel_rfl
noncomputable def F3 (N : Nat) (a : Int × Int × Unit) : Option (Bool) := fn_tillerlaw10_OrderTotals N a.1 a.2.1
theorem ok3 (N : Nat) : FnOK Try.prog 3 ad3 rd3 (F3 N) :=
  fn_ok (N := N) (live := live3) (code := c3) (tok T3.rt T3.kl) mixed (gok3 N) Try.func3 (by kernel_rfl) (by kernel_rfl) (by kernel_rfl) fun a p h => by rw [← h]; exact run3 N a.1 a.2.1
end Go.Proofs.Ytkipjjijaphjpaa.Fns

/- The law's function as a plain Lean function, and the engine's run of it. No statement is proved here. Laid by eng.py. -/
import Derived.Test.YtkipjjijaphjpaaFn1
namespace Go.Proofs.Ytkipjjijaphjpaa.Fns
open Go Go.RowKit Go.Proofs Go.Proofs.Ytkipjjijaphjpaa.Eng
set_option linter.unusedVariables false
set_option maxRecDepth 100000
/-! ### tiller/tillerlaw10.OrderPicks: function 6 -/
noncomputable def c6 : Code := (Try.f6.body).getD .skip
noncomputable def T6 : Tb := ⟨tyOf tys, [], []⟩
noncomputable def G6 {R : Type} (N : Nat) : FuncId → List AV → (AV → Option R) → Option R := gCons 15 (gOf ad15 rd15 (F15 N)) (gCons 16 (gOf ad16 rd16 (F16 N)) (gCons 17 (gOf ad17 rd17 (F17 N)) (gCons 18 (gOf ad18 rd18 (F18 N)) (gCons 19 (gOf ad19 rd19 (F19 N)) (gCons 11 (gOf ad11 rd11 (F11 N)) (gNil))))))
theorem gok6 {R : Type} (N : Nat) : GOK Try.prog (G6 (R := R) N) := gCons_ok (ok15 N) (gCons_ok (ok16 N) (gCons_ok (ok17 N) (gCons_ok (ok18 N) (gCons_ok (ok19 N) (gCons_ok (ok11 N) (gNil_ok))))))
noncomputable def live6 : List (Nat × List (Nat × HK)) := []
noncomputable def ad6 : Ad (Int × Int × Unit) := aC (cInt .u64) (aC (cInt .u64) (a0))
noncomputable def rd6 : Rd (Bool) := r1 (cBool)
noncomputable def fn_tillerlaw10_OrderPicks (N : Nat) (x0 : Int) (x1 : Int) : Option (Bool) :=
  (fn_order_Min N x0 x1).bind fun r1 =>
   (fn_tillerref10_Pick N x0 x1 true false false).bind fun r2 =>
    (fn_order_Max N x0 x1).bind fun r3 =>
     (fn_tillerref10_Pick N x0 x1 false false false).bind fun r4 =>
      cond (!(eqI r1.1 r2.1))
       (some false)
       (cond (!(eqI (cvI .i64 r1.2) r2.2))
        (some false)
        (cond (!(eqI r3.1 r4.1))
         (some false)
         (cond (!(eqI (cvI .i64 r3.2) r4.2))
          (some false)
          ((fn_order_MinNumber N x0 x1).bind fun r5 =>
           (fn_tillerref10_Pick N x0 x1 true false true).bind fun r6 =>
            (fn_order_MaxNumber N x0 x1).bind fun r7 =>
             (fn_tillerref10_Pick N x0 x1 false false true).bind fun r8 =>
              cond (eqI r5.1 r6.1)
               (cond (eqI (cvI .i64 r5.2) r6.2)
                (cond (eqI r7.1 r8.1)
                 (cond (eqI (cvI .i64 r7.2) r8.2)
                  ((fn_tillerlaw10_sure N).bind fun r9 =>
                   some r9)
                  (some false))
                 (some false))
                (some false))
               (some false)))))
theorem run6 (N : Nat) (x0 : Int) (x1 : Int) : Eng.run T6 (G6 N) N live6 c6 Try.f6.results.toList Try.f6.ntmps ((ad6).enc (x0, x1, ())) (rd6).dec = fn_tillerlaw10_OrderPicks N x0 x1 := by kernel_rfl
noncomputable def F6 (N : Nat) (a : Int × Int × Unit) : Option (Bool) := fn_tillerlaw10_OrderPicks N a.1 a.2.1
theorem ok6 (N : Nat) : FnOK Try.prog 6 ad6 rd6 (F6 N) :=
  fn_ok (N := N) (live := live6) (code := c6) (tok T6.rt T6.kl) mixed (gok6 N) Try.func6 (by kernel_rfl) (by kernel_rfl) (by kernel_rfl) fun a p h => by rw [← h]; exact run6 N a.1 a.2.1
end Go.Proofs.Ytkipjjijaphjpaa.Fns

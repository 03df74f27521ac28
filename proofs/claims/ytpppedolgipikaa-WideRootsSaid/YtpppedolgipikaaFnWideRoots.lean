/- The law's function as a plain Lean function, and the engine's run of it. No statement is proved here. Laid by eng.py. -/
import Derived.Test.YtpppedolgipikaaFn1
namespace Go.Proofs.Ytpppedolgipikaa.Fns
open Go Go.RowKit Go.Proofs Go.Proofs.Ytpppedolgipikaa.Eng
set_option linter.unusedVariables false
set_option maxRecDepth 100000
/-! ### tiller/tillerlaw01.WideRoots: function 3 -/
noncomputable def c3 : Code := (Try.f3.body).getD .skip
noncomputable def T3 : Tb := ⟨tyOf tys, []⟩
noncomputable def G3 {R : Type} (N : Nat) : FuncId → List AV → (AV → Option R) → Option R := gCons 11 (gOf ad11 rd11 (F11 N)) (gCons 12 (gOf ad12 rd12 (F12 N)) (gCons 13 (gOf ad13 rd13 (F13 N)) (gCons 14 (gOf ad14 rd14 (F14 N)) (gCons 15 (gOf ad15 rd15 (F15 N)) (gNil)))))
theorem gok3 {R : Type} (N : Nat) : GOK Try.prog (G3 (R := R) N) := gCons_ok (ok11 N) (gCons_ok (ok12 N) (gCons_ok (ok13 N) (gCons_ok (ok14 N) (gCons_ok (ok15 N) (gNil_ok)))))
noncomputable def live3 : List (Nat × List Nat) := []
noncomputable def ad3 : Ad (Vec 4 × Unit) := aC (cVec .u64 4) (a0)
noncomputable def rd3 : Rd (Bool) := r1 (cBool)
noncomputable def fn_tillerlaw01_WideRoots (N : Nat) (x0 : Vec 4) : Option (Bool) :=
  (fn_wide_Sqrt N x0).bind fun r1 =>
   (fn_tillerref01_Mul N r1.1 r1.1).bind fun r2 =>
    (fn_tillerref01_Add N r2.1 r1.2).bind fun r3 =>
     (fn_tillerref01_Add N r1.1 r1.1).bind fun r4 =>
      cond (eqL r2.2.1 (Vec.zero 4).1)
       (cond (!(r3.2))
        (cond (!(r4.2))
         (cond (eqL r3.1.1 x0.1)
          ((fn_tillerref01_Cmp N r1.2 r4.1).bind fun r5 =>
           cond (leI r5 0)
            ((fn_tillerlaw01_sure N).bind fun r6 =>
             some r6)
            (some false))
          (some false))
         (some false))
        (some false))
       (some false)
theorem run3 (N : Nat) (x0 : Vec 4) : Eng.run T3 (G3 N) N live3 c3 Try.f3.results.toList Try.f3.ntmps ((ad3).enc (x0, ())) (rd3).dec = fn_tillerlaw01_WideRoots N x0 := by kernel_rfl
noncomputable def F3 (N : Nat) (a : Vec 4 × Unit) : Option (Bool) := fn_tillerlaw01_WideRoots N a.1
theorem ok3 (N : Nat) : FnOK Try.prog 3 ad3 rd3 (F3 N) :=
  fn_ok (N := N) (live := live3) (code := c3) (tok T3.rt) mixed (gok3 N) Try.func3 (by kernel_rfl) (by kernel_rfl) (by kernel_rfl) fun a p h => by rw [← h]; exact run3 N a.1
end Go.Proofs.Ytpppedolgipikaa.Fns

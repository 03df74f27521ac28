/- The law's function as a plain Lean function, and the engine's run of it. No statement is proved here. Laid by eng.py. -/
import Derived.Test.YtpppedolgipikaaFn1
namespace Go.Proofs.Ytpppedolgipikaa.Fns
open Go Go.RowKit Go.Proofs Go.Proofs.Ytpppedolgipikaa.Eng
set_option linter.unusedVariables false
set_option maxRecDepth 100000
/-! ### tiller/tillerlaw01.WideMuls: function 10 -/
noncomputable def c10 : Code := (Try.f10.body).getD .skip
noncomputable def T10 : Tb := ⟨tyOf tys, []⟩
noncomputable def G10 {R : Type} (N : Nat) : FuncId → List AV → (AV → Option R) → Option R := gCons 29 (gOf ad29 rd29 (F29 N)) (gCons 12 (gOf ad12 rd12 (F12 N)) (gCons 15 (gOf ad15 rd15 (F15 N)) (gNil)))
theorem gok10 {R : Type} (N : Nat) : GOK Try.prog (G10 (R := R) N) := gCons_ok (ok29 N) (gCons_ok (ok12 N) (gCons_ok (ok15 N) (gNil_ok)))
noncomputable def live10 : List (Nat × List Nat) := []
noncomputable def ad10 : Ad (Vec 4 × Vec 4 × Unit) := aC (cVec .u64 4) (aC (cVec .u64 4) (a0))
noncomputable def rd10 : Rd (Bool) := r1 (cBool)
noncomputable def fn_tillerlaw01_WideMuls (N : Nat) (x0 : Vec 4) (x1 : Vec 4) : Option (Bool) :=
  (fn_wide_Mul N x0 x1).bind fun r1 =>
   (fn_tillerref01_Mul N x0 x1).bind fun r2 =>
    cond (eqL r1.1.1 r2.1.1)
     (cond (eqL r1.2.1 r2.2.1)
      ((fn_tillerlaw01_sure N).bind fun r3 =>
       some r3)
      (some false))
     (some false)
theorem run10 (N : Nat) (x0 : Vec 4) (x1 : Vec 4) : Eng.run T10 (G10 N) N live10 c10 Try.f10.results.toList Try.f10.ntmps ((ad10).enc (x0, x1, ())) (rd10).dec = fn_tillerlaw01_WideMuls N x0 x1 := by kernel_rfl
noncomputable def F10 (N : Nat) (a : Vec 4 × Vec 4 × Unit) : Option (Bool) := fn_tillerlaw01_WideMuls N a.1 a.2.1
theorem ok10 (N : Nat) : FnOK Try.prog 10 ad10 rd10 (F10 N) :=
  fn_ok (N := N) (live := live10) (code := c10) (tok T10.rt) mixed (gok10 N) Try.func10 (by kernel_rfl) (by kernel_rfl) (by kernel_rfl) fun a p h => by rw [← h]; exact run10 N a.1 a.2.1
end Go.Proofs.Ytpppedolgipikaa.Fns

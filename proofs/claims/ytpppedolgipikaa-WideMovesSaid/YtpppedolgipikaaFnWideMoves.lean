/- The law's function as a plain Lean function, and the engine's run of it. No statement is proved here. Laid by eng.py. -/
import Derived.Test.YtpppedolgipikaaFn1
namespace Go.Proofs.Ytpppedolgipikaa.Fns
open Go Go.RowKit Go.Proofs Go.Proofs.Ytpppedolgipikaa.Eng
set_option linter.unusedVariables false
set_option maxRecDepth 100000
/-! ### tiller/tillerlaw01.WideMoves: function 7 -/
noncomputable def c7 : Code := (Try.f7.body).getD .skip
noncomputable def T7 : Tb := ⟨tyOf tys, []⟩
noncomputable def G7 {R : Type} (N : Nat) : FuncId → List AV → (AV → Option R) → Option R := gCons 25 (gOf ad25 rd25 (F25 N)) (gCons 26 (gOf ad26 rd26 (F26 N)) (gCons 27 (gOf ad27 rd27 (F27 N)) (gCons 28 (gOf ad28 rd28 (F28 N)) (gCons 15 (gOf ad15 rd15 (F15 N)) (gNil)))))
theorem gok7 {R : Type} (N : Nat) : GOK Try.prog (G7 (R := R) N) := gCons_ok (ok25 N) (gCons_ok (ok26 N) (gCons_ok (ok27 N) (gCons_ok (ok28 N) (gCons_ok (ok15 N) (gNil_ok)))))
noncomputable def live7 : List (Nat × List Nat) := []
noncomputable def ad7 : Ad (Vec 4 × Int × Unit) := aC (cVec .u64 4) (aC (cInt .i64) (a0))
noncomputable def rd7 : Rd (Bool) := r1 (cBool)
noncomputable def fn_tillerlaw01_WideMoves (N : Nat) (x0 : Vec 4) (x1 : Int) : Option (Bool) :=
  (fn_wide_Shr N x0 x1).bind fun r1 =>
   (fn_tillerref01_Shr N x0 x1).bind fun r2 =>
    (fn_wide_Shl N x0 x1).bind fun r3 =>
     (fn_tillerref01_Shl N x0 x1).bind fun r4 =>
      cond (eqL r3.1 r4.1)
       (cond (eqL r1.1.1 r2.1.1)
        (cond (eqB r1.2 r2.2)
         ((fn_tillerlaw01_sure N).bind fun r5 =>
          some r5)
         (some false))
        (some false))
       (some false)
theorem run7 (N : Nat) (x0 : Vec 4) (x1 : Int) : Eng.run T7 (G7 N) N live7 c7 Try.f7.results.toList Try.f7.ntmps ((ad7).enc (x0, x1, ())) (rd7).dec = fn_tillerlaw01_WideMoves N x0 x1 := by kernel_rfl
noncomputable def F7 (N : Nat) (a : Vec 4 × Int × Unit) : Option (Bool) := fn_tillerlaw01_WideMoves N a.1 a.2.1
theorem ok7 (N : Nat) : FnOK Try.prog 7 ad7 rd7 (F7 N) :=
  fn_ok (N := N) (live := live7) (code := c7) (tok T7.rt) mixed (gok7 N) Try.func7 (by kernel_rfl) (by kernel_rfl) (by kernel_rfl) fun a p h => by rw [← h]; exact run7 N a.1 a.2.1
end Go.Proofs.Ytpppedolgipikaa.Fns

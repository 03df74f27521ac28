/- The law's function as a plain Lean function, and the engine's run of it. No statement is proved here. Laid by eng.py. -/
import Derived.Test.YtpppedolgipikaaFn1
namespace Go.Proofs.Ytpppedolgipikaa.Fns
open Go Go.RowKit Go.Proofs Go.Proofs.Ytpppedolgipikaa.Eng
set_option linter.unusedVariables false
set_option maxRecDepth 100000
/-! ### tiller/tillerlaw01.WideBits: function 4 -/
noncomputable def c4 : Code := (Try.f4.body).getD .skip
noncomputable def T4 : Tb := ⟨tyOf tys, []⟩
noncomputable def G4 {R : Type} (N : Nat) : FuncId → List AV → (AV → Option R) → Option R := gCons 16 (gOf ad16 rd16 (F16 N)) (gCons 17 (gOf ad17 rd17 (F17 N)) (gCons 18 (gOf ad18 rd18 (F18 N)) (gCons 19 (gOf ad19 rd19 (F19 N)) (gCons 20 (gOf ad20 rd20 (F20 N)) (gCons 15 (gOf ad15 rd15 (F15 N)) (gNil))))))
theorem gok4 {R : Type} (N : Nat) : GOK Try.prog (G4 (R := R) N) := gCons_ok (ok16 N) (gCons_ok (ok17 N) (gCons_ok (ok18 N) (gCons_ok (ok19 N) (gCons_ok (ok20 N) (gCons_ok (ok15 N) (gNil_ok))))))
noncomputable def live4 : List (Nat × List Nat) := []
noncomputable def ad4 : Ad (Vec 4 × Int × Int × Unit) := aC (cVec .u64 4) (aC (cInt .i64) (aC (cInt .u64) (a0)))
noncomputable def rd4 : Rd (Bool) := r1 (cBool)
noncomputable def fn_tillerlaw01_WideBits (N : Nat) (x0 : Vec 4) (x1 : Int) (x2 : Int) : Option (Bool) :=
  (fn_wide_Len N x0).bind fun r1 =>
   (fn_tillerref01_Len N x0).bind fun r2 =>
    cond (eqI r1 r2)
     ((fn_wide_Bit N x0 x1).bind fun r3 =>
      (fn_tillerref01_Bit N x0 x1).bind fun r4 =>
       cond (eqI (cvI .i64 r3) r4)
        ((fn_wide_Of N x2).bind fun r5 =>
         cond (eqL r5.1 (Vec.st (Vec.zero 4) 0 x2).1)
          ((fn_tillerlaw01_sure N).bind fun r6 =>
           some r6)
          (some false))
        (some false))
     (some false)
theorem run4 (N : Nat) (x0 : Vec 4) (x1 : Int) (x2 : Int) : Eng.run T4 (G4 N) N live4 c4 Try.f4.results.toList Try.f4.ntmps ((ad4).enc (x0, x1, x2, ())) (rd4).dec = fn_tillerlaw01_WideBits N x0 x1 x2 := by kernel_rfl
noncomputable def F4 (N : Nat) (a : Vec 4 × Int × Int × Unit) : Option (Bool) := fn_tillerlaw01_WideBits N a.1 a.2.1 a.2.2.1
theorem ok4 (N : Nat) : FnOK Try.prog 4 ad4 rd4 (F4 N) :=
  fn_ok (N := N) (live := live4) (code := c4) (tok T4.rt) mixed (gok4 N) Try.func4 (by kernel_rfl) (by kernel_rfl) (by kernel_rfl) fun a p h => by rw [← h]; exact run4 N a.1 a.2.1 a.2.2.1
end Go.Proofs.Ytpppedolgipikaa.Fns

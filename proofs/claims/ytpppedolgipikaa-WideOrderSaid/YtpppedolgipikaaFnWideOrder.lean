/- The law's function as a plain Lean function, and the engine's run of it. No statement is proved here. Laid by eng.py. -/
import Derived.Test.YtpppedolgipikaaFn1
namespace Go.Proofs.Ytpppedolgipikaa.Fns
open Go Go.RowKit Go.Proofs Go.Proofs.Ytpppedolgipikaa.Eng
set_option linter.unusedVariables false
set_option maxRecDepth 100000
/-! ### tiller/tillerlaw01.WideOrder: function 6 -/
noncomputable def c6 : Code := (Try.f6.body).getD .skip
noncomputable def T6 : Tb := ⟨tyOf tys, []⟩
noncomputable def G6 {R : Type} (N : Nat) : FuncId → List AV → (AV → Option R) → Option R := gCons 24 (gOf ad24 rd24 (F24 N)) (gCons 22 (gOf ad22 rd22 (F22 N)) (gCons 15 (gOf ad15 rd15 (F15 N)) (gNil)))
theorem gok6 {R : Type} (N : Nat) : GOK Try.prog (G6 (R := R) N) := gCons_ok (ok24 N) (gCons_ok (ok22 N) (gCons_ok (ok15 N) (gNil_ok)))
noncomputable def live6 : List (Nat × List Nat) := []
noncomputable def ad6 : Ad (Vec 4 × Vec 4 × Unit) := aC (cVec .u64 4) (aC (cVec .u64 4) (a0))
noncomputable def rd6 : Rd (Bool) := r1 (cBool)
noncomputable def fn_tillerlaw01_WideOrder (N : Nat) (x0 : Vec 4) (x1 : Vec 4) : Option (Bool) :=
  (fn_wide_Cmp N x0 x1).bind fun r1 =>
   (fn_wide_Sub N x0 x1).bind fun r2 =>
    (fn_wide_Cmp N x1 x0).bind fun r3 =>
     cond (eqI r1 (subI .i64 0 r3))
      (cond (eqB (eqI r1 0) (eqL x0.1 x1.1))
       (cond (eqB (ltI r1 0) r2.2)
        (cond (!(eqI r1 0))
         ((fn_tillerlaw01_sure N).bind fun r4 =>
          some r4)
         (cond (eqL r2.1.1 (Vec.zero 4).1)
          ((fn_tillerlaw01_sure N).bind fun r5 =>
           some r5)
          (some false)))
        (some false))
       (some false))
      (some false)
theorem run6 (N : Nat) (x0 : Vec 4) (x1 : Vec 4) : Eng.run T6 (G6 N) N live6 c6 Try.f6.results.toList Try.f6.ntmps ((ad6).enc (x0, x1, ())) (rd6).dec = fn_tillerlaw01_WideOrder N x0 x1 := by kernel_rfl
noncomputable def F6 (N : Nat) (a : Vec 4 × Vec 4 × Unit) : Option (Bool) := fn_tillerlaw01_WideOrder N a.1 a.2.1
theorem ok6 (N : Nat) : FnOK Try.prog 6 ad6 rd6 (F6 N) :=
  fn_ok (N := N) (live := live6) (code := c6) (tok T6.rt) mixed (gok6 N) Try.func6 (by kernel_rfl) (by kernel_rfl) (by kernel_rfl) fun a p h => by rw [← h]; exact run6 N a.1 a.2.1
end Go.Proofs.Ytpppedolgipikaa.Fns

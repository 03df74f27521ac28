/- The law's function as a plain Lean function, and the engine's run of it. No statement is proved here. Laid by eng.py. -/
import Derived.Test.YtpppedolgipikaaFn1
namespace Go.Proofs.Ytpppedolgipikaa.Fns
open Go Go.RowKit Go.Proofs Go.Proofs.Ytpppedolgipikaa.Eng
set_option linter.unusedVariables false
set_option maxRecDepth 100000
/-! ### tiller/tillerlaw01.WideBack: function 8 -/
noncomputable def c8 : Code := (Try.f8.body).getD .skip
noncomputable def T8 : Tb := ⟨tyOf tys, []⟩
noncomputable def G8 {R : Type} (N : Nat) : FuncId → List AV → (AV → Option R) → Option R := gCons 21 (gOf ad21 rd21 (F21 N)) (gCons 22 (gOf ad22 rd22 (F22 N)) (gCons 27 (gOf ad27 rd27 (F27 N)) (gCons 25 (gOf ad25 rd25 (F25 N)) (gCons 15 (gOf ad15 rd15 (F15 N)) (gNil)))))
theorem gok8 {R : Type} (N : Nat) : GOK Try.prog (G8 (R := R) N) := gCons_ok (ok21 N) (gCons_ok (ok22 N) (gCons_ok (ok27 N) (gCons_ok (ok25 N) (gCons_ok (ok15 N) (gNil_ok)))))
noncomputable def live8 : List (Nat × List Nat) := []
noncomputable def ad8 : Ad (Vec 4 × Vec 4 × Int × Unit) := aC (cVec .u64 4) (aC (cVec .u64 4) (aC (cInt .i64) (a0)))
noncomputable def rd8 : Rd (Bool) := r1 (cBool)
noncomputable def fn_tillerlaw01_WideBack (N : Nat) (x0 : Vec 4) (x1 : Vec 4) (x2 : Int) : Option (Bool) :=
  (fn_wide_Add N x0 x1).bind fun r1 =>
   (fn_wide_Sub N r1.1 x1).bind fun r2 =>
    (fn_wide_Shl N x0 (cvI .i64 (remI .u64 (cvI .u64 x2) 256))).bind fun r3 =>
     (fn_wide_Shr N r3 (cvI .i64 (remI .u64 (cvI .u64 x2) 256))).bind fun r4 =>
      (fn_wide_Shr N x0 (subI .i64 256 (cvI .i64 (remI .u64 (cvI .u64 x2) 256)))).bind fun r5 =>
       cond (eqI (cvI .i64 (remI .u64 (cvI .u64 x2) 256)) 0)
        ((fn_wide_Shl N (Vec.zero 4) (subI .i64 256 (cvI .i64 (remI .u64 (cvI .u64 x2) 256)))).bind fun r6 =>
         (fn_wide_Sub N x0 r6).bind fun r7 =>
          cond (eqL r2.1.1 x0.1)
           (cond (!(r4.2))
            (cond (eqL r4.1.1 r7.1.1)
             ((fn_tillerlaw01_sure N).bind fun r8 =>
              some r8)
             (some false))
            (some false))
           (some false))
        ((fn_wide_Shl N r5.1 (subI .i64 256 (cvI .i64 (remI .u64 (cvI .u64 x2) 256)))).bind fun r9 =>
         (fn_wide_Sub N x0 r9).bind fun r10 =>
          cond (eqL r2.1.1 x0.1)
           (cond (!(r4.2))
            (cond (eqL r4.1.1 r10.1.1)
             ((fn_tillerlaw01_sure N).bind fun r11 =>
              some r11)
             (some false))
            (some false))
           (some false))
theorem run8 (N : Nat) (x0 : Vec 4) (x1 : Vec 4) (x2 : Int) : Eng.run T8 (G8 N) N live8 c8 Try.f8.results.toList Try.f8.ntmps ((ad8).enc (x0, x1, x2, ())) (rd8).dec = fn_tillerlaw01_WideBack N x0 x1 x2 := by kernel_rfl
noncomputable def F8 (N : Nat) (a : Vec 4 × Vec 4 × Int × Unit) : Option (Bool) := fn_tillerlaw01_WideBack N a.1 a.2.1 a.2.2.1
theorem ok8 (N : Nat) : FnOK Try.prog 8 ad8 rd8 (F8 N) :=
  fn_ok (N := N) (live := live8) (code := c8) (tok T8.rt) mixed (gok8 N) Try.func8 (by kernel_rfl) (by kernel_rfl) (by kernel_rfl) fun a p h => by rw [← h]; exact run8 N a.1 a.2.1 a.2.2.1
end Go.Proofs.Ytpppedolgipikaa.Fns

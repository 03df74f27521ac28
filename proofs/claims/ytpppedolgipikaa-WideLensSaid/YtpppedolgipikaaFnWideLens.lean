/- The law's function as a plain Lean function, and the engine's run of it. No statement is proved here. Laid by eng.py. -/
import Derived.Test.YtpppedolgipikaaFn1
namespace Go.Proofs.Ytpppedolgipikaa.Fns
open Go Go.RowKit Go.Proofs Go.Proofs.Ytpppedolgipikaa.Eng
set_option linter.unusedVariables false
set_option maxRecDepth 100000
/-! ### tiller/tillerlaw01.WideLens: function 9 -/
noncomputable def c9 : Code := (Try.f9.body).getD .skip
noncomputable def T9 : Tb := ⟨tyOf tys, []⟩
noncomputable def G9 {R : Type} (N : Nat) : FuncId → List AV → (AV → Option R) → Option R := gCons 16 (gOf ad16 rd16 (F16 N)) (gCons 15 (gOf ad15 rd15 (F15 N)) (gCons 25 (gOf ad25 rd25 (F25 N)) (gCons 20 (gOf ad20 rd20 (F20 N)) (gCons 18 (gOf ad18 rd18 (F18 N)) (gCons 27 (gOf ad27 rd27 (F27 N)) (gNil))))))
theorem gok9 {R : Type} (N : Nat) : GOK Try.prog (G9 (R := R) N) := gCons_ok (ok16 N) (gCons_ok (ok15 N) (gCons_ok (ok25 N) (gCons_ok (ok20 N) (gCons_ok (ok18 N) (gCons_ok (ok27 N) (gNil_ok))))))
noncomputable def live9 : List (Nat × List Nat) := []
noncomputable def ad9 : Ad (Vec 4 × Int × Unit) := aC (cVec .u64 4) (aC (cInt .i64) (a0))
noncomputable def rd9 : Rd (Bool) := r1 (cBool)
noncomputable def fn_tillerlaw01_WideLens (N : Nat) (x0 : Vec 4) (x1 : Int) : Option (Bool) :=
  (fn_wide_Len N x0).bind fun r1 =>
   cond (eqL x0.1 (Vec.zero 4).1)
    (cond (eqI r1 0)
     ((fn_tillerlaw01_sure N).bind fun r2 =>
      some r2)
     (some false))
    ((fn_wide_Shr N x0 (subI .i64 r1 1)).bind fun r3 =>
     cond (ltI r1 1)
      (some false)
      (cond (ltI 256 r1)
       (some false)
       ((fn_wide_Of N 1).bind fun r4 =>
        cond (!(eqL r3.1.1 r4.1))
         (some false)
         ((fn_wide_Bit N x0 (subI .i64 r1 1)).bind fun r5 =>
          cond (!(eqI r5 1))
           (some false)
           ((fn_wide_Bit N x0 r1).bind fun r6 =>
            cond (!(eqI r6 0))
             (some false)
             (cond r3.2
              (cond (eqI r1 1)
               (some false)
               (cond (eqI (cvI .u64 (subI .i64 257 r1)) 0)
                (none)
                ((fn_wide_Shl N x0 (cvI .i64 (remI .u64 (cvI .u64 x1) (cvI .u64 (subI .i64 257 r1))))).bind fun r7 =>
                 (fn_wide_Len N r7).bind fun r8 =>
                  cond (eqI r8 (addI .i64 r1 (cvI .i64 (remI .u64 (cvI .u64 x1) (cvI .u64 (subI .i64 257 r1))))))
                   ((fn_tillerlaw01_sure N).bind fun r9 =>
                    some r9)
                   (some false))))
              (cond (eqI (cvI .u64 (subI .i64 257 r1)) 0)
               (none)
               ((fn_wide_Shl N x0 (cvI .i64 (remI .u64 (cvI .u64 x1) (cvI .u64 (subI .i64 257 r1))))).bind fun r10 =>
                (fn_wide_Len N r10).bind fun r11 =>
                 cond (eqI r11 (addI .i64 r1 (cvI .i64 (remI .u64 (cvI .u64 x1) (cvI .u64 (subI .i64 257 r1))))))
                  ((fn_tillerlaw01_sure N).bind fun r12 =>
                   some r12)
                  (some false)))))))))
theorem run9 (N : Nat) (x0 : Vec 4) (x1 : Int) : Eng.run T9 (G9 N) N live9 c9 Try.f9.results.toList Try.f9.ntmps ((ad9).enc (x0, x1, ())) (rd9).dec = fn_tillerlaw01_WideLens N x0 x1 := by kernel_rfl
noncomputable def F9 (N : Nat) (a : Vec 4 × Int × Unit) : Option (Bool) := fn_tillerlaw01_WideLens N a.1 a.2.1
theorem ok9 (N : Nat) : FnOK Try.prog 9 ad9 rd9 (F9 N) :=
  fn_ok (N := N) (live := live9) (code := c9) (tok T9.rt) mixed (gok9 N) Try.func9 (by kernel_rfl) (by kernel_rfl) (by kernel_rfl) fun a p h => by rw [← h]; exact run9 N a.1 a.2.1
end Go.Proofs.Ytpppedolgipikaa.Fns

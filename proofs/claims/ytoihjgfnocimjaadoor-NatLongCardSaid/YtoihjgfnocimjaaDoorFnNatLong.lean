/- The law's function as a plain Lean function, and the engine's run of it. No statement is proved here. Laid by eng.py. -/
import Derived.Test.YtoihjgfnocimjaaDoorFn1
namespace Go.Proofs.YtoihjgfnocimjaaDoor.Fns
open Go Go.RowKit Go.Proofs Go.Proofs.YtoihjgfnocimjaaDoor.Eng Go.Proofs.YtoihjgfnocimjaaDoor.Num Go.Proofs.YtoihjgfnocimjaaDoor.Slc
set_option linter.unusedVariables false
set_option maxRecDepth 100000
/-! ### tiller/tillerlaw02.NatLong: function 6 -/
noncomputable def c6 : Code := (Tryd.f6.body).getD .skip
noncomputable def T6 : Tb := ⟨tyOf tys, [], [26], wrNil⟩
noncomputable def G6 {R : Type} (N : Nat) : FuncId → List AV → (AV → Option R) → Option R := gCons 18 (gOf ad18 rd18 (F18 N)) (gCons 10 (gOf ad10 rd10 (F10 N)) (gCons 12 (gOf (aC (cErr 60) a0) (r1 (cInt .i64)) (fun a => fn_num N a.1)) (gCons 9 (gOf ad9 rd9 (F9 N)) (gNil))))
theorem gok6 {R : Type} (N : Nat) : GOK Tryd.prog (G6 (R := R) N) := gCons_ok (ok18 N) (gCons_ok (ok10 N) (gCons_ok (num_ok N) (gCons_ok (ok9 N) (gNil_ok))))
noncomputable def live6 : List (Nat × List (Nat × HK)) := []
noncomputable def ad6 : Ad (Int × Int × Unit) := aC (cInt .i64) (aC (cInt .u32) (a0))
noncomputable def rd6 : Rd (Bool) := r1 (cBool)
noncomputable def fn_tillerlaw02_NatLong (N : Nat) (x0 : Int) (x1 : Int) : Option (Bool) :=
  (fn_nat_Shl N [addI .u32 1 (remI .u32 x1 7)] (addI .i64 262016 (mulI .i64 32 (cvI .i64 (remI .u64 (cvI .u64 x0) 4))))).bind fun r1 =>
   cond (!(isNoneI r1.2))
    (some false)
    (cond (!(eqI (r1.1.length : Int) (addI .i64 8189 (cvI .i64 (remI .u64 (cvI .u64 x0) 4)))))
     (some false)
     ((fn_nat_Shl N r1.1 (mulI .i64 32 (subI .i64 3 (cvI .i64 (remI .u64 (cvI .u64 x0) 4))))).bind fun r2 =>
      (fn_nat_Shl N r1.1 (mulI .i64 32 (subI .i64 4 (cvI .i64 (remI .u64 (cvI .u64 x0) 4))))).bind fun r3 =>
       (fn_nat_Mul N r1.1 r1.1).bind fun r4 =>
        cond (isNoneI r2.2)
         (cond (eqI (r2.1.length : Int) 8192)
          ((fn_num N r3.2).bind fun r5 =>
           cond (eqI r5 2)
            ((fn_num N r4.2).bind fun r6 =>
             cond (eqI r6 2)
              ((fn_tillerlaw02_sure N).bind fun r7 =>
               some r7)
              (some false))
            (some false))
          (some false))
         (some false)))
theorem run6 (N : Nat) (x0 : Int) (x1 : Int) : Eng.run T6 (G6 N) N live6 c6 Tryd.f6.results.toList Tryd.f6.ntmps ((ad6).enc (x0, x1, ())) (rd6).dec = fn_tillerlaw02_NatLong N x0 x1 := by kernel_rfl
noncomputable def F6 (N : Nat) (a : Int × Int × Unit) : Option (Bool) := fn_tillerlaw02_NatLong N a.1 a.2.1
theorem ok6 (N : Nat) : FnOK Tryd.prog 6 ad6 rd6 (F6 N) :=
  fn_ok (N := N) (live := live6) (code := c6) (tok T6.rt T6.kl (wrNil_ok)) mixed (gok6 N) Tryd.func6 (by kernel_rfl) (by kernel_rfl) (by kernel_rfl) fun a p h => by rw [← h]; exact run6 N a.1 a.2.1
end Go.Proofs.YtoihjgfnocimjaaDoor.Fns

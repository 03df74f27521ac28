/- The law's function as a plain Lean function, and the engine's run of it. No statement is proved here. Laid by eng.py. -/
import Derived.Test.YtoihjgfnocimjaaDoorFn1
namespace Go.Proofs.YtoihjgfnocimjaaDoor.Fns
open Go Go.RowKit Go.Proofs Go.Proofs.YtoihjgfnocimjaaDoor.Eng Go.Proofs.YtoihjgfnocimjaaDoor.Num Go.Proofs.YtoihjgfnocimjaaDoor.Slc
set_option linter.unusedVariables false
set_option maxRecDepth 100000
/-! ### tiller/tillerlaw02.NatMuls: function 3 -/
noncomputable def c3 : Code := (Tryd.f3.body).getD .skip
noncomputable def T3 : Tb := ⟨tyOf tys, [], [], wrNil⟩
noncomputable def G3 {R : Type} (N : Nat) : FuncId → List AV → (AV → Option R) → Option R := gCons 9 (gOf ad9 rd9 (F9 N)) (gCons 10 (gOf ad10 rd10 (F10 N)) (gCons 11 (gOf ad11 rd11 (F11 N)) (gCons 12 (gOf (aC (cErr 60) a0) (r1 (cInt .i64)) (fun a => fn_num N a.1)) (gCons 16 (gOf ad16 rd16 (F16 N)) (gCons 15 (gOf ad15 rd15 (F15 N)) (gCons 14 (gOf ad14 rd14 (F14 N)) (gCons 13 (gOf ad13 rd13 (F13 N)) (gNil))))))))
theorem gok3 {R : Type} (N : Nat) : GOK Tryd.prog (G3 (R := R) N) := gCons_ok (ok9 N) (gCons_ok (ok10 N) (gCons_ok (ok11 N) (gCons_ok (num_ok N) (gCons_ok (ok16 N) (gCons_ok (ok15 N) (gCons_ok (ok14 N) (gCons_ok (ok13 N) (gNil_ok))))))))
noncomputable def live3 : List (Nat × List (Nat × HK)) := []
noncomputable def ad3 : Ad (List Int × List Int × Unit) := aC (cLi .u32) (aC (cLi .u32) (a0))
noncomputable def rd3 : Rd (Bool) := r1 (cBool)
noncomputable def fn_tillerlaw02_NatMuls (N : Nat) (x0 : List Int) (x1 : List Int) : Option (Bool) :=
  cond (ltI 60 (x0.length : Int))
   ((fn_tillerlaw02_sure N).bind fun r1 =>
    some r1)
   (cond (ltI 60 (x1.length : Int))
    ((fn_tillerlaw02_sure N).bind fun r2 =>
     some r2)
    ((fn_nat_Mul N x0 x1).bind fun r3 =>
     (fn_tillerlaw02_is N x0).bind fun r4 =>
      cond (!(r4))
       ((fn_num N r3.2).bind fun r5 =>
        cond (eqI r5 1)
         (cond (eqI (r3.1.length : Int) 0)
          ((fn_tillerlaw02_sure N).bind fun r6 =>
           some r6)
          (some false))
         (some false))
       ((fn_tillerlaw02_is N x1).bind fun r7 =>
        cond (!(r7))
         ((fn_num N r3.2).bind fun r8 =>
          cond (eqI r8 1)
           (cond (eqI (r3.1.length : Int) 0)
            ((fn_tillerlaw02_sure N).bind fun r9 =>
             some r9)
            (some false))
           (some false))
         (cond (isNoneI r3.2)
          ((fn_tillerref02_From N x0).bind fun r10 =>
           (fn_tillerref02_From N x1).bind fun r11 =>
            (fn_tillerref02_Mul N r10 r11).bind fun r12 =>
             (fn_tillerref02_Words N r12).bind fun r13 =>
              (fn_tillerlaw02_words N r3.1 r13).bind fun r14 =>
               cond r14
                ((fn_tillerlaw02_sure N).bind fun r15 =>
                 some r15)
                (some false))
          (some false)))))
theorem run3 (N : Nat) (x0 : List Int) (x1 : List Int) : Eng.run T3 (G3 N) N live3 c3 Tryd.f3.results.toList Tryd.f3.ntmps ((ad3).enc (x0, x1, ())) (rd3).dec = fn_tillerlaw02_NatMuls N x0 x1 := by kernel_rfl
noncomputable def F3 (N : Nat) (a : List Int × List Int × Unit) : Option (Bool) := fn_tillerlaw02_NatMuls N a.1 a.2.1
theorem ok3 (N : Nat) : FnOK Tryd.prog 3 ad3 rd3 (F3 N) :=
  fn_ok (N := N) (live := live3) (code := c3) (tok T3.rt T3.kl (wrNil_ok)) mixed (gok3 N) Tryd.func3 (by kernel_rfl) (by kernel_rfl) (by kernel_rfl) fun a p h => by rw [← h]; exact run3 N a.1 a.2.1
end Go.Proofs.YtoihjgfnocimjaaDoor.Fns

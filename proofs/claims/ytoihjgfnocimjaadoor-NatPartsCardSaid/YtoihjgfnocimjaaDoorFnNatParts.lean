/- The law's function as a plain Lean function, and the engine's run of it. No statement is proved here. Laid by eng.py. -/
import Derived.Test.YtoihjgfnocimjaaDoorFn1
namespace Go.Proofs.YtoihjgfnocimjaaDoor.Fns
open Go Go.RowKit Go.Proofs Go.Proofs.YtoihjgfnocimjaaDoor.Eng Go.Proofs.YtoihjgfnocimjaaDoor.Num Go.Proofs.YtoihjgfnocimjaaDoor.Slc
set_option linter.unusedVariables false
set_option maxRecDepth 100000
/-! ### tiller/tillerlaw02.NatParts: function 8 -/
noncomputable def c8 : Code := (Tryd.f8.body).getD .skip
noncomputable def T8 : Tb := ⟨tyOf tys, [], [], wrNil⟩
noncomputable def G8 {R : Type} (N : Nat) : FuncId → List AV → (AV → Option R) → Option R := gCons 9 (gOf ad9 rd9 (F9 N)) (gCons 34 (gOf ad34 rd34 (F34 N)) (gCons 11 (gOf ad11 rd11 (F11 N)) (gCons 12 (gOf (aC (cErr 60) a0) (r1 (cInt .i64)) (fun a => fn_num N a.1)) (gCons 10 (gOf ad10 rd10 (F10 N)) (gCons 27 (gOf ad27 rd27 (F27 N)) (gCons 29 (gOf ad29 rd29 (F29 N)) (gCons 13 (gOf ad13 rd13 (F13 N)) (gNil))))))))
theorem gok8 {R : Type} (N : Nat) : GOK Tryd.prog (G8 (R := R) N) := gCons_ok (ok9 N) (gCons_ok (ok34 N) (gCons_ok (ok11 N) (gCons_ok (num_ok N) (gCons_ok (ok10 N) (gCons_ok (ok27 N) (gCons_ok (ok29 N) (gCons_ok (ok13 N) (gNil_ok))))))))
noncomputable def live8 : List (Nat × List (Nat × HK)) := []
noncomputable def ad8 : Ad (List Int × List Int × Unit) := aC (cLi .u32) (aC (cLi .u32) (a0))
noncomputable def rd8 : Rd (Bool) := r1 (cBool)
noncomputable def fn_tillerlaw02_NatParts (N : Nat) (x0 : List Int) (x1 : List Int) : Option (Bool) :=
  cond (ltI 60 (x0.length : Int))
   ((fn_tillerlaw02_sure N).bind fun r1 =>
    some r1)
   (cond (ltI 60 (x1.length : Int))
    ((fn_tillerlaw02_sure N).bind fun r2 =>
     some r2)
    ((fn_nat_DivMod N x0 x1).bind fun r3 =>
     (fn_tillerlaw02_is N x0).bind fun r4 =>
      cond (!(r4))
       ((fn_num N r3.2.2).bind fun r5 =>
        cond (eqI r5 1)
         ((fn_tillerlaw02_sure N).bind fun r6 =>
          some r6)
         (some false))
       ((fn_tillerlaw02_is N x1).bind fun r7 =>
        cond (!(r7))
         ((fn_num N r3.2.2).bind fun r8 =>
          cond (eqI r8 1)
           ((fn_tillerlaw02_sure N).bind fun r9 =>
            some r9)
           (some false))
         (cond (eqI (x1.length : Int) 0)
          ((fn_num N r3.2.2).bind fun r10 =>
           cond (eqI r10 5)
            (cond (eqI (addI .i64 (r3.1.length : Int) (r3.2.1.length : Int)) 0)
             ((fn_tillerlaw02_sure N).bind fun r11 =>
              some r11)
             (some false))
            (some false))
          ((fn_nat_Mul N r3.1 x1).bind fun r12 =>
           (fn_nat_Add N r12.1 r3.2.1).bind fun r13 =>
            (fn_nat_Cmp N r3.2.1 x1).bind fun r14 =>
             cond (isNoneI r3.2.2)
              (cond (isNoneI r12.2)
               (cond (isNoneI r13.2)
                (cond (isNoneI r14.2)
                 (cond (ltI r14.1 0)
                  ((fn_tillerlaw02_words N r13.1 x0).bind fun r15 =>
                   cond r15
                    ((fn_tillerlaw02_is N r3.1).bind fun r16 =>
                     cond r16
                      ((fn_tillerlaw02_is N r3.2.1).bind fun r17 =>
                       cond r17
                        ((fn_tillerlaw02_sure N).bind fun r18 =>
                         some r18)
                        (some false))
                      (some false))
                    (some false))
                  (some false))
                 (some false))
                (some false))
               (some false))
              (some false))))))
theorem run8 (N : Nat) (x0 : List Int) (x1 : List Int) : Eng.run T8 (G8 N) N live8 c8 Tryd.f8.results.toList Tryd.f8.ntmps ((ad8).enc (x0, x1, ())) (rd8).dec = fn_tillerlaw02_NatParts N x0 x1 := by kernel_rfl
noncomputable def F8 (N : Nat) (a : List Int × List Int × Unit) : Option (Bool) := fn_tillerlaw02_NatParts N a.1 a.2.1
theorem ok8 (N : Nat) : FnOK Tryd.prog 8 ad8 rd8 (F8 N) :=
  fn_ok (N := N) (live := live8) (code := c8) (tok T8.rt T8.kl (wrNil_ok)) mixed (gok8 N) Tryd.func8 (by kernel_rfl) (by kernel_rfl) (by kernel_rfl) fun a p h => by rw [← h]; exact run8 N a.1 a.2.1
end Go.Proofs.YtoihjgfnocimjaaDoor.Fns

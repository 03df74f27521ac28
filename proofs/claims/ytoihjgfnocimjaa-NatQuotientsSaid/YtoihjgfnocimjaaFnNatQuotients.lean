/- The law's function as a plain Lean function, and the engine's run of it. No statement is proved here. Laid by eng.py. -/
import Derived.Test.YtoihjgfnocimjaaFn1
namespace Go.Proofs.Ytoihjgfnocimjaa.Fns
open Go Go.RowKit Go.Proofs Go.Proofs.Ytoihjgfnocimjaa.Eng Go.Proofs.Ytoihjgfnocimjaa.Slc
set_option linter.unusedVariables false
set_option maxRecDepth 100000
/-! ### tiller/tillerlaw02.NatQuotients: function 4 -/
noncomputable def c4 : Code := (Try.f4.body).getD .skip
noncomputable def T4 : Tb := ⟨tyOf tys, [], [], wrNil⟩
noncomputable def G4 {R : Type} (N : Nat) : FuncId → List AV → (AV → Option R) → Option R := gCons 12 (gOf ad12 rd12 (F12 N)) (gCons 11 (gOf ad11 rd11 (F11 N)) (gCons 13 (gOf ad13 rd13 (F13 N)) (gCons 15 (gOf ad15 rd15 (F15 N)) (gCons 14 (gOf ad14 rd14 (F14 N)) (gCons 16 (gOf ad16 rd16 (F16 N)) (gCons 10 (gOf ad10 rd10 (F10 N)) (gNil)))))))
theorem gok4 {R : Type} (N : Nat) : GOK Try.prog (G4 (R := R) N) := gCons_ok (ok12 N) (gCons_ok (ok11 N) (gCons_ok (ok13 N) (gCons_ok (ok15 N) (gCons_ok (ok14 N) (gCons_ok (ok16 N) (gCons_ok (ok10 N) (gNil_ok)))))))
noncomputable def live4 : List (Nat × List (Nat × HK)) := []
noncomputable def ad4 : Ad (List Int × List Int × Unit) := aC (cLi .u32) (aC (cLi .u32) (a0))
noncomputable def rd4 : Rd (Bool) := r1 (cBool)
noncomputable def fn_tillerlaw02_NatQuotients (N : Nat) (x0 : List Int) (x1 : List Int) : Option (Bool) :=
  cond (ltI 20 (x0.length : Int))
   ((fn_tillerlaw02_sure N).bind fun r1 =>
    some r1)
   (cond (ltI 20 (x1.length : Int))
    ((fn_tillerlaw02_sure N).bind fun r2 =>
     some r2)
    ((fn_tillerlaw02_is N x0).bind fun r3 =>
     cond (!(r3))
      ((fn_tillerlaw02_sure N).bind fun r4 =>
       some r4)
      ((fn_tillerlaw02_is N x1).bind fun r5 =>
       cond (!(r5))
        ((fn_tillerlaw02_sure N).bind fun r6 =>
         some r6)
        (cond (eqI (x1.length : Int) 0)
         ((fn_tillerlaw02_sure N).bind fun r7 =>
          some r7)
         ((fn_nat_DivMod N x0 x1).bind fun r8 =>
          (fn_tillerref02_From N x0).bind fun r9 =>
           (fn_tillerref02_From N x1).bind fun r10 =>
            (fn_tillerref02_Parts N r9 r10).bind fun r11 =>
             cond (isNoneI r8.2.2)
              ((fn_tillerref02_Words N r11.1).bind fun r12 =>
               (fn_tillerlaw02_words N r8.1 r12).bind fun r13 =>
                cond r13
                 ((fn_tillerref02_Words N r11.2).bind fun r14 =>
                  (fn_tillerlaw02_words N r8.2.1 r14).bind fun r15 =>
                   cond r15
                    ((fn_tillerlaw02_sure N).bind fun r16 =>
                     some r16)
                    (some false))
                 (some false))
              (some false))))))
theorem run4 (N : Nat) (x0 : List Int) (x1 : List Int) : Eng.run T4 (G4 N) N live4 c4 Try.f4.results.toList Try.f4.ntmps ((ad4).enc (x0, x1, ())) (rd4).dec = fn_tillerlaw02_NatQuotients N x0 x1 := by kernel_rfl
noncomputable def F4 (N : Nat) (a : List Int × List Int × Unit) : Option (Bool) := fn_tillerlaw02_NatQuotients N a.1 a.2.1
theorem ok4 (N : Nat) : FnOK Try.prog 4 ad4 rd4 (F4 N) :=
  fn_ok (N := N) (live := live4) (code := c4) (tok T4.rt T4.kl (wrNil_ok)) mixed (gok4 N) Try.func4 (by kernel_rfl) (by kernel_rfl) (by kernel_rfl) fun a p h => by rw [← h]; exact run4 N a.1 a.2.1
end Go.Proofs.Ytoihjgfnocimjaa.Fns

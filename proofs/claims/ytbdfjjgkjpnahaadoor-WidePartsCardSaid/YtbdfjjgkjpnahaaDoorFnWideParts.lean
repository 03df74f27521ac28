/- The law's function as a plain Lean function, and the engine's run of it. No statement is proved here. Laid by eng.py. -/
import Derived.Test.YtbdfjjgkjpnahaaDoorFn1
namespace Go.Proofs.YtbdfjjgkjpnahaaDoor.Fns
open Go Go.RowKit Go.Proofs Go.Proofs.YtbdfjjgkjpnahaaDoor.Eng Go.Proofs.YtbdfjjgkjpnahaaDoor.Num
set_option linter.unusedVariables false
set_option maxRecDepth 100000
/-! ### tiller/tillerlaw01.WideParts: function 3 -/
noncomputable def c3 : Code := (Tryd.f3.body).getD .skip
noncomputable def T3 : Tb := ⟨tyOf tys, [], []⟩
noncomputable def G3 {R : Type} (N : Nat) : FuncId → List AV → (AV → Option R) → Option R := gCons 4 (gOf ad4 rd4 (F4 N)) (gCons 5 (gOf (aC (cErr 38) a0) (r1 (cInt .i64)) (fun a => fn_num N a.1)) (gCons 6 (gOf ad6 rd6 (F6 N)) (gCons 7 (gOf ad7 rd7 (F7 N)) (gCons 8 (gOf ad8 rd8 (F8 N)) (gCons 9 (gOf ad9 rd9 (F9 N)) (gNil))))))
theorem gok3 {R : Type} (N : Nat) : GOK Tryd.prog (G3 (R := R) N) := gCons_ok (ok4 N) (gCons_ok (num_ok N) (gCons_ok (ok6 N) (gCons_ok (ok7 N) (gCons_ok (ok8 N) (gCons_ok (ok9 N) (gNil_ok))))))
noncomputable def live3 : List (Nat × List (Nat × HK)) := []
noncomputable def ad3 : Ad (Vec 4 × Vec 4 × Unit) := aC (cVec .u64 4) (aC (cVec .u64 4) (a0))
noncomputable def rd3 : Rd (Bool) := r1 (cBool)
noncomputable def fn_tillerlaw01_WideParts (N : Nat) (x0 : Vec 4) (x1 : Vec 4) : Option (Bool) :=
  (fn_wide_DivMod N x0 x1).bind fun r1 =>
   cond (eqL x1.1 (Vec.zero 4).1)
    ((fn_num N r1.2.2).bind fun r2 =>
     cond (eqI r2 5)
      (cond (eqL r1.1.1 (Vec.zero 4).1)
       (cond (eqL r1.2.1.1 (Vec.zero 4).1)
        ((fn_tillerlaw01_sure N).bind fun r3 =>
         some r3)
        (some false))
       (some false))
      (some false))
    ((fn_tillerref01_Mul N r1.1 x1).bind fun r4 =>
     (fn_tillerref01_Add N r4.1 r1.2.1).bind fun r5 =>
      cond (isNoneI r1.2.2)
       (cond (eqL r4.2.1 (Vec.zero 4).1)
        (cond (!(r5.2))
         (cond (eqL r5.1.1 x0.1)
          ((fn_tillerref01_Cmp N r1.2.1 x1).bind fun r6 =>
           cond (ltI r6 0)
            ((fn_tillerlaw01_sure N).bind fun r7 =>
             some r7)
            (some false))
          (some false))
         (some false))
        (some false))
       (some false))
theorem run3 (N : Nat) (x0 : Vec 4) (x1 : Vec 4) : Eng.run T3 (G3 N) N live3 c3 Tryd.f3.results.toList Tryd.f3.ntmps ((ad3).enc (x0, x1, ())) (rd3).dec = fn_tillerlaw01_WideParts N x0 x1 := by kernel_rfl
noncomputable def F3 (N : Nat) (a : Vec 4 × Vec 4 × Unit) : Option (Bool) := fn_tillerlaw01_WideParts N a.1 a.2.1
theorem ok3 (N : Nat) : FnOK Tryd.prog 3 ad3 rd3 (F3 N) :=
  fn_ok (N := N) (live := live3) (code := c3) (tok T3.rt T3.kl) mixed (gok3 N) Tryd.func3 (by kernel_rfl) (by kernel_rfl) (by kernel_rfl) fun a p h => by rw [← h]; exact run3 N a.1 a.2.1
end Go.Proofs.YtbdfjjgkjpnahaaDoor.Fns

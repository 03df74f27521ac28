/- The law's function as a plain Lean function, and the engine's run of it. No statement is proved here. Laid by eng.py. -/
import Derived.Test.YtnpcejiijhgkjaaDoorFn1
namespace Go.Proofs.YtnpcejiijhgkjaaDoor.Fns
open Go Go.RowKit Go.Proofs Go.Proofs.YtnpcejiijhgkjaaDoor.Eng Go.Proofs.YtnpcejiijhgkjaaDoor.Num
set_option linter.unusedVariables false
set_option maxRecDepth 100000
/-! ### tiller/tillerlaw03.PatMakes: function 4 -/
noncomputable def c4 : Code := (Tryd.f4.body).getD .skip
noncomputable def T4 : Tb := ⟨tyOf tys, [], [], wrNil⟩
noncomputable def G4 {R : Type} (N : Nat) : FuncId → List AV → (AV → Option R) → Option R := gCons 11 (gOf ad11 rd11 (F11 N)) (gCons 12 (gOf ad12 rd12 (F12 N)) (gCons 9 (gOf (aC (cErr 40) a0) (r1 (cInt .i64)) (fun a => fn_num N a.1)) (gCons 10 (gOf ad10 rd10 (F10 N)) (gNil))))
theorem gok4 {R : Type} (N : Nat) : GOK Tryd.prog (G4 (R := R) N) := gCons_ok (ok11 N) (gCons_ok (ok12 N) (gCons_ok (num_ok N) (gCons_ok (ok10 N) (gNil_ok))))
noncomputable def live4 : List (Nat × List (Nat × HK)) := []
noncomputable def ad4 : Ad ((Bool × Int × Int × Int) × Unit) := aC (cSt (fC (lBool) (fC (lInt .i64) (fC (lInt .i64) (fO (lInt .u64)))))) (a0)
noncomputable def rd4 : Rd (Bool) := r1 (cBool)
noncomputable def fn_tillerlaw03_PatMakes (N : Nat) (x0 : (Bool × Int × Int × Int)) : Option (Bool) :=
  (fn_pat_Make N (x0.1, x0.2.1, x0.2.2.1, x0.2.2.2)).bind fun r1 =>
   (fn_tillerref03_Make N (x0.1, x0.2.1, x0.2.2.1, x0.2.2.2)).bind fun r2 =>
    cond (eqI r1.1 r2.1)
     ((fn_num N r1.2).bind fun r3 =>
      cond (eqI r3 r2.2)
       ((fn_tillerlaw03_sure N).bind fun r4 =>
        some r4)
       (some false))
     (some false)
theorem run4 (N : Nat) (x0 : (Bool × Int × Int × Int)) : Eng.run T4 (G4 N) N live4 c4 Tryd.f4.results.toList Tryd.f4.ntmps ((ad4).enc (x0, ())) (rd4).dec = fn_tillerlaw03_PatMakes N x0 := by kernel_rfl
noncomputable def F4 (N : Nat) (a : (Bool × Int × Int × Int) × Unit) : Option (Bool) := fn_tillerlaw03_PatMakes N a.1
theorem ok4 (N : Nat) : FnOK Tryd.prog 4 ad4 rd4 (F4 N) :=
  fn_ok (N := N) (live := live4) (code := c4) (tok T4.rt T4.kl (wrNil_ok)) mixed (gok4 N) Tryd.func4 (by kernel_rfl) (by kernel_rfl) (by kernel_rfl) fun a p h => by rw [← h]; exact run4 N a.1
end Go.Proofs.YtnpcejiijhgkjaaDoor.Fns

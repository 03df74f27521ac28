/- The law's function as a plain Lean function, and the engine's run of it. No statement is proved here. Laid by eng.py. -/
import Derived.Test.YtidoegjemkdnlaaGreatDoorFn2
namespace Go.Proofs.YtidoegjemkdnlaaGreatDoor.Fns
open Go Go.RowKit Go.Proofs Go.Proofs.YtidoegjemkdnlaaGreatDoor.Eng Go.Proofs.YtidoegjemkdnlaaGreatDoor.Num Go.Proofs.YtidoegjemkdnlaaGreatDoor.Slc
set_option linter.unusedVariables false
set_option maxRecDepth 100000
/-! ### tiller/tillertop.TopSides: function 3 -/
noncomputable def c3 : Code := (Tryz.f3.body).getD .skip
noncomputable def T3 : Tb := ⟨tyOf tys, [(27, 3), (29, 3), (31, 3), (38, 3), (40, 3), (42, 3), (49, 3), (51, 3), (53, 3), (61, 3), (63, 3), (65, 3)], [], wrNil⟩
noncomputable def G3 {R : Type} (N : Nat) : FuncId → List AV → (AV → Option R) → Option R := gCons 4 (gOf ad4 rd4 (F4 N)) (gCons 5 (gOf ad5 rd5 (F5 N)) (gCons 6 (gOf ad6 rd6 (F6 N)) (gNil)))
theorem gok3 {R : Type} (N : Nat) : GOK Tryz.prog (G3 (R := R) N) := gCons_ok (ok4 N) (gCons_ok (ok5 N) (gCons_ok (ok6 N) (gNil_ok)))
noncomputable def live3 : List (Nat × List (Nat × HK)) := []
noncomputable def ad3 : Ad (Vec 3 × Int × Int × Unit) := aC (cVec .u64 3) (aC (cInt .i64) (aC (cInt .i64) (a0)))
noncomputable def rd3 : Rd (Bool) := r1 (cBool)
noncomputable def fn_tillertop_TopSides (N : Nat) (x0 : Vec 3) (x1 : Int) (x2 : Int) : Option (Bool) :=
  (fn_tillertop_do N (cvI .i64 (remI .u64 (cvI .u64 x1) 5)) (Vec.rd x0 0) (Vec.rd x0 1) (Vec.rd x0 2) 4).bind fun r1 =>
   (fn_tillertop_do N (cvI .i64 (remI .u64 (cvI .u64 x1) 5)) (Vec.rd x0 0) (Vec.rd x0 1) (Vec.rd x0 2) 3).bind fun r2 =>
    (fn_tillertop_do N (cvI .i64 (remI .u64 (cvI .u64 x1) 5)) (Vec.rd x0 0) (Vec.rd x0 1) (Vec.rd x0 2) x2).bind fun r3 =>
     (fn_tillertop_do N (cvI .i64 (remI .u64 (cvI .u64 x1) 5)) (Vec.rd x0 0) (Vec.rd x0 1) (Vec.rd x0 2) 2).bind fun r4 =>
      cond (eqI r1.1 9221120237041090560)
       (cond (eqI r1.1 r2.1)
        (cond (eqI r3.1 r1.1)
         (cond (eqI r1.2 r2.2)
          (cond (eqI r1.2 r3.2)
           ((fn_tillertop_sure N).bind fun r5 =>
            some r5)
           (some false))
          (some false))
         (some false))
        (some false))
       (cond (eqI r2.1 9221120237041090560)
        (cond (eqI r1.1 r2.1)
         (cond (eqI r3.1 r1.1)
          (cond (eqI r1.2 r2.2)
           (cond (eqI r1.2 r3.2)
            ((fn_tillertop_sure N).bind fun r6 =>
             some r6)
            (some false))
           (some false))
          (some false))
         (some false))
        ((fn_order_Compare N r1.1 r2.1).bind fun r7 =>
         cond (!(eqB (eqI (andI .u8 r1.2 16) 0) (eqI (andI .u8 r2.2 16) 0)))
          (some false)
          (cond (!(eqB (eqI (andI .u8 r1.2 16) 0) (eqI (andI .u8 r3.2 16) 0)))
           (some false)
           (cond (ltI 0 r7.1)
            (some false)
            (cond (!(eqB (eqI (andI .u8 r1.2 16) 0) (eqI r7.1 0)))
             (some false)
             (cond (!(eqI (andI .u8 r1.2 1) 0))
              (some false)
              (cond (eqI (andI .u8 r1.2 16) 0)
               ((fn_order_Compare N r3.1 r1.1).bind fun r8 =>
                cond (eqI r8.1 0)
                 ((fn_tillertop_sure N).bind fun r9 =>
                  some r9)
                 (some false))
               (cond (!(eqI r3.1 r1.1))
                (cond (!(eqI r3.1 r2.1))
                 (some false)
                 (cond (!(eqI (andI .u64 r1.1 9223372036854775808) 0))
                  (cond (eqI r4.1 r2.1)
                   (cond (eqI (bicI .u64 r1.1 9223372036854775808) (addI .u64 (bicI .u64 r2.1 9223372036854775808) 1))
                    ((fn_tillertop_sure N).bind fun r10 =>
                     some r10)
                    (some false))
                   (some false))
                  (cond (eqI r4.1 r1.1)
                   (cond (eqI r2.1 (addI .u64 r1.1 1))
                    ((fn_tillertop_sure N).bind fun r11 =>
                     some r11)
                    (some false))
                   (some false))))
                (cond (!(eqI (andI .u64 r1.1 9223372036854775808) 0))
                 (cond (eqI r4.1 r2.1)
                  (cond (eqI (bicI .u64 r1.1 9223372036854775808) (addI .u64 (bicI .u64 r2.1 9223372036854775808) 1))
                   ((fn_tillertop_sure N).bind fun r12 =>
                    some r12)
                   (some false))
                  (some false))
                 (cond (eqI r4.1 r1.1)
                  (cond (eqI r2.1 (addI .u64 r1.1 1))
                   ((fn_tillertop_sure N).bind fun r13 =>
                    some r13)
                   (some false))
                  (some false)))))))))))
theorem run3 (N : Nat) (x0 : Vec 3) (x1 : Int) (x2 : Int) : Eng.run T3 (G3 N) N live3 c3 Tryz.f3.results.toList Tryz.f3.ntmps ((ad3).enc (x0, x1, x2, ())) (rd3).dec = fn_tillertop_TopSides N x0 x1 x2 := by kernel_rfl
noncomputable def F3 (N : Nat) (a : Vec 3 × Int × Int × Unit) : Option (Bool) := fn_tillertop_TopSides N a.1 a.2.1 a.2.2.1
theorem ok3 (N : Nat) : FnOK Tryz.prog 3 ad3 rd3 (F3 N) :=
  fn_ok (N := N) (live := live3) (code := c3) (tok T3.rt T3.kl (wrNil_ok)) mixed (gok3 N) Tryz.func3 (by kernel_rfl) (by kernel_rfl) (by kernel_rfl) fun a p h => by rw [← h]; exact run3 N a.1 a.2.1 a.2.2.1
end Go.Proofs.YtidoegjemkdnlaaGreatDoor.Fns

/- Go functions as plain Lean functions, and the engine's run of each. No statement is proved here. Laid by eng.py. -/
import Derived.Test.YtkipjjijaphjpaaFn0
namespace Go.Proofs.Ytkipjjijaphjpaa.Fns
open Go Go.RowKit Go.Proofs Go.Proofs.Ytkipjjijaphjpaa.Eng
set_option linter.unusedVariables false
set_option maxRecDepth 100000
/-! ### tiller/pat.Abs: function 27 -/
noncomputable def c27 : Code := (Try.f27.body).getD .skip
noncomputable def T27 : Tb := ⟨tyOf tys, []⟩
noncomputable def G27 {R : Type} (N : Nat) : FuncId → List AV → (AV → Option R) → Option R := gNil
theorem gok27 {R : Type} (N : Nat) : GOK Try.prog (G27 (R := R) N) := gNil_ok
noncomputable def live27 : List (Nat × List Nat) := []
noncomputable def ad27 : Ad (Int × Unit) := aC (cInt .u64) (a0)
noncomputable def rd27 : Rd (Int) := r1 (cInt .u64)
noncomputable def fn_pat_Abs (N : Nat) (x0 : Int) : Option (Int) :=
  some (bicI .u64 x0 9223372036854775808)
theorem run27 (N : Nat) (x0 : Int) : Eng.run T27 (G27 N) N live27 c27 Try.f27.results.toList Try.f27.ntmps ((ad27).enc (x0, ())) (rd27).dec = fn_pat_Abs N x0 := by kernel_rfl
noncomputable def F27 (N : Nat) (a : Int × Unit) : Option (Int) := fn_pat_Abs N a.1
theorem ok27 (N : Nat) : FnOK Try.prog 27 ad27 rd27 (F27 N) :=
  fn_ok (N := N) (live := live27) (code := c27) (tok T27.rt) mixed (gok27 N) Try.func27 (by kernel_rfl) (by kernel_rfl) (by kernel_rfl) fun a p h => by rw [← h]; exact run27 N a.1

/-! ### tiller/order.key: function 22 -/
noncomputable def c22 : Code := (Try.f22.body).getD .skip
noncomputable def T22 : Tb := ⟨tyOf tys, []⟩
noncomputable def G22 {R : Type} (N : Nat) : FuncId → List AV → (AV → Option R) → Option R := gCons 27 (gOf ad27 rd27 (F27 N)) (gNil)
theorem gok22 {R : Type} (N : Nat) : GOK Try.prog (G22 (R := R) N) := gCons_ok (ok27 N) (gNil_ok)
noncomputable def live22 : List (Nat × List Nat) := []
noncomputable def ad22 : Ad (Int × Unit) := aC (cInt .u64) (a0)
noncomputable def rd22 : Rd (Int) := r1 (cInt .i64)
noncomputable def fn_order_key (N : Nat) (x0 : Int) : Option (Int) :=
  cond (!(eqI (andI .u64 x0 9223372036854775808) 0))
   ((fn_pat_Abs N x0).bind fun r1 =>
    some (subI .i64 (subI .i64 0 (cvI .i64 r1)) 1))
   (some (cvI .i64 x0))
theorem run22 (N : Nat) (x0 : Int) : Eng.run T22 (G22 N) N live22 c22 Try.f22.results.toList Try.f22.ntmps ((ad22).enc (x0, ())) (rd22).dec = fn_order_key N x0 := by kernel_rfl
noncomputable def F22 (N : Nat) (a : Int × Unit) : Option (Int) := fn_order_key N a.1
theorem ok22 (N : Nat) : FnOK Try.prog 22 ad22 rd22 (F22 N) :=
  fn_ok (N := N) (live := live22) (code := c22) (tok T22.rt) mixed (gok22 N) Try.func22 (by kernel_rfl) (by kernel_rfl) (by kernel_rfl) fun a p h => by rw [← h]; exact run22 N a.1

/-! ### tiller/order.Total: function 9 -/
noncomputable def c9 : Code := (Try.f9.body).getD .skip
noncomputable def T9 : Tb := ⟨tyOf tys, []⟩
noncomputable def G9 {R : Type} (N : Nat) : FuncId → List AV → (AV → Option R) → Option R := gCons 22 (gOf ad22 rd22 (F22 N)) (gNil)
theorem gok9 {R : Type} (N : Nat) : GOK Try.prog (G9 (R := R) N) := gCons_ok (ok22 N) (gNil_ok)
noncomputable def live9 : List (Nat × List Nat) := []
noncomputable def ad9 : Ad (Int × Int × Unit) := aC (cInt .u64) (aC (cInt .u64) (a0))
noncomputable def rd9 : Rd (Bool) := r1 (cBool)
noncomputable def fn_order_Total (N : Nat) (x0 : Int) (x1 : Int) : Option (Bool) :=
  (fn_order_key N x0).bind fun r1 =>
   (fn_order_key N x1).bind fun r2 =>
    some (leI r1 r2)
theorem run9 (N : Nat) (x0 : Int) (x1 : Int) : Eng.run T9 (G9 N) N live9 c9 Try.f9.results.toList Try.f9.ntmps ((ad9).enc (x0, x1, ())) (rd9).dec = fn_order_Total N x0 x1 := by kernel_rfl
noncomputable def F9 (N : Nat) (a : Int × Int × Unit) : Option (Bool) := fn_order_Total N a.1 a.2.1
theorem ok9 (N : Nat) : FnOK Try.prog 9 ad9 rd9 (F9 N) :=
  fn_ok (N := N) (live := live9) (code := c9) (tok T9.rt) mixed (gok9 N) Try.func9 (by kernel_rfl) (by kernel_rfl) (by kernel_rfl) fun a p h => by rw [← h]; exact run9 N a.1 a.2.1

/-! ### tiller/pat.IsNaN: function 25 -/
noncomputable def c25 : Code := (Try.f25.body).getD .skip
noncomputable def T25 : Tb := ⟨tyOf tys, []⟩
noncomputable def G25 {R : Type} (N : Nat) : FuncId → List AV → (AV → Option R) → Option R := gCons 27 (gOf ad27 rd27 (F27 N)) (gNil)
theorem gok25 {R : Type} (N : Nat) : GOK Try.prog (G25 (R := R) N) := gCons_ok (ok27 N) (gNil_ok)
noncomputable def live25 : List (Nat × List Nat) := []
noncomputable def ad25 : Ad (Int × Unit) := aC (cInt .u64) (a0)
noncomputable def rd25 : Rd (Bool) := r1 (cBool)
noncomputable def fn_pat_IsNaN (N : Nat) (x0 : Int) : Option (Bool) :=
  (fn_pat_Abs N x0).bind fun r1 =>
   some (ltI 9218868437227405312 r1)
theorem run25 (N : Nat) (x0 : Int) : Eng.run T25 (G25 N) N live25 c25 Try.f25.results.toList Try.f25.ntmps ((ad25).enc (x0, ())) (rd25).dec = fn_pat_IsNaN N x0 := by kernel_rfl
noncomputable def F25 (N : Nat) (a : Int × Unit) : Option (Bool) := fn_pat_IsNaN N a.1
theorem ok25 (N : Nat) : FnOK Try.prog 25 ad25 rd25 (F25 N) :=
  fn_ok (N := N) (live := live25) (code := c25) (tok T25.rt) mixed (gok25 N) Try.func25 (by kernel_rfl) (by kernel_rfl) (by kernel_rfl) fun a p h => by rw [← h]; exact run25 N a.1

/-! ### tiller/pat.Take: function 41 -/
noncomputable def c41 : Code := (Try.f41.body).getD .skip
noncomputable def T41 : Tb := ⟨tyOf tys, [(15, 3), (20, 3), (24, 3), (29, 3), (34, 3), (38, 3), (45, 3), (48, 3), (49, 3), (50, 3), (52, 3), (55, 3), (56, 3)]⟩
noncomputable def G41 {R : Type} (N : Nat) : FuncId → List AV → (AV → Option R) → Option R := gNil
theorem gok41 {R : Type} (N : Nat) : GOK Try.prog (G41 (R := R) N) := gNil_ok
noncomputable def live41 : List (Nat × List Nat) := []
noncomputable def ad41 : Ad (Int × Unit) := aC (cInt .u64) (a0)
noncomputable def rd41 : Rd ((Bool × Int × Int × Int)) := r1 (cSt (fC (lBool) (fC (lInt .i64) (fC (lInt .i64) (fO (lInt .u64))))))
noncomputable def fn_pat_Take (N : Nat) (x0 : Int) : Option ((Bool × Int × Int × Int)) :=
  cond (eqI (andI .i64 (cvI .i64 (shrI .u64 x0 52)) 2047) 2047)
   (cond (eqI (andI .u64 x0 4503599627370495) 0)
    (some (!(eqI (andI .u64 x0 9223372036854775808) 0), 3, 0, andI .u64 x0 4503599627370495))
    (cond (eqI (andI .i64 (cvI .i64 (shrI .u64 x0 52)) 2047) 2047)
     (cond (!(eqI (andI .u64 (andI .u64 x0 4503599627370495) 2251799813685248) 0))
      (some (!(eqI (andI .u64 x0 9223372036854775808) 0), 4, 0, andI .u64 x0 4503599627370495))
      (cond (eqI (andI .i64 (cvI .i64 (shrI .u64 x0 52)) 2047) 2047)
       (some (!(eqI (andI .u64 x0 9223372036854775808) 0), 5, 0, andI .u64 x0 4503599627370495))
       (cond (ltI 0 (andI .i64 (cvI .i64 (shrI .u64 x0 52)) 2047))
        (some (!(eqI (andI .u64 x0 9223372036854775808) 0), 2, subI .i64 (addI .i64 (andI .i64 (cvI .i64 (shrI .u64 x0 52)) 2047) (-1074)) 1, orI .u64 (andI .u64 x0 4503599627370495) 4503599627370496))
        (cond (ltI 0 (andI .u64 x0 4503599627370495))
         (some (!(eqI (andI .u64 x0 9223372036854775808) 0), 1, (-1074), andI .u64 x0 4503599627370495))
         (some (!(eqI (andI .u64 x0 9223372036854775808) 0), 0, (-1074), andI .u64 x0 4503599627370495))))))
     (cond (eqI (andI .i64 (cvI .i64 (shrI .u64 x0 52)) 2047) 2047)
      (some (!(eqI (andI .u64 x0 9223372036854775808) 0), 5, 0, andI .u64 x0 4503599627370495))
      (cond (ltI 0 (andI .i64 (cvI .i64 (shrI .u64 x0 52)) 2047))
       (some (!(eqI (andI .u64 x0 9223372036854775808) 0), 2, subI .i64 (addI .i64 (andI .i64 (cvI .i64 (shrI .u64 x0 52)) 2047) (-1074)) 1, orI .u64 (andI .u64 x0 4503599627370495) 4503599627370496))
       (cond (ltI 0 (andI .u64 x0 4503599627370495))
        (some (!(eqI (andI .u64 x0 9223372036854775808) 0), 1, (-1074), andI .u64 x0 4503599627370495))
        (some (!(eqI (andI .u64 x0 9223372036854775808) 0), 0, (-1074), andI .u64 x0 4503599627370495)))))))
   (cond (eqI (andI .i64 (cvI .i64 (shrI .u64 x0 52)) 2047) 2047)
    (cond (!(eqI (andI .u64 (andI .u64 x0 4503599627370495) 2251799813685248) 0))
     (some (!(eqI (andI .u64 x0 9223372036854775808) 0), 4, 0, andI .u64 x0 4503599627370495))
     (cond (eqI (andI .i64 (cvI .i64 (shrI .u64 x0 52)) 2047) 2047)
      (some (!(eqI (andI .u64 x0 9223372036854775808) 0), 5, 0, andI .u64 x0 4503599627370495))
      (cond (ltI 0 (andI .i64 (cvI .i64 (shrI .u64 x0 52)) 2047))
       (some (!(eqI (andI .u64 x0 9223372036854775808) 0), 2, subI .i64 (addI .i64 (andI .i64 (cvI .i64 (shrI .u64 x0 52)) 2047) (-1074)) 1, orI .u64 (andI .u64 x0 4503599627370495) 4503599627370496))
       (cond (ltI 0 (andI .u64 x0 4503599627370495))
        (some (!(eqI (andI .u64 x0 9223372036854775808) 0), 1, (-1074), andI .u64 x0 4503599627370495))
        (some (!(eqI (andI .u64 x0 9223372036854775808) 0), 0, (-1074), andI .u64 x0 4503599627370495))))))
    (cond (eqI (andI .i64 (cvI .i64 (shrI .u64 x0 52)) 2047) 2047)
     (some (!(eqI (andI .u64 x0 9223372036854775808) 0), 5, 0, andI .u64 x0 4503599627370495))
     (cond (ltI 0 (andI .i64 (cvI .i64 (shrI .u64 x0 52)) 2047))
      (some (!(eqI (andI .u64 x0 9223372036854775808) 0), 2, subI .i64 (addI .i64 (andI .i64 (cvI .i64 (shrI .u64 x0 52)) 2047) (-1074)) 1, orI .u64 (andI .u64 x0 4503599627370495) 4503599627370496))
      (cond (ltI 0 (andI .u64 x0 4503599627370495))
       (some (!(eqI (andI .u64 x0 9223372036854775808) 0), 1, (-1074), andI .u64 x0 4503599627370495))
       (some (!(eqI (andI .u64 x0 9223372036854775808) 0), 0, (-1074), andI .u64 x0 4503599627370495))))))
theorem run41 (N : Nat) (x0 : Int) : Eng.run T41 (G41 N) N live41 c41 Try.f41.results.toList Try.f41.ntmps ((ad41).enc (x0, ())) (rd41).dec = fn_pat_Take N x0 := by kernel_rfl
noncomputable def F41 (N : Nat) (a : Int × Unit) : Option ((Bool × Int × Int × Int)) := fn_pat_Take N a.1
theorem ok41 (N : Nat) : FnOK Try.prog 41 ad41 rd41 (F41 N) :=
  fn_ok (N := N) (live := live41) (code := c41) (tok T41.rt) mixed (gok41 N) Try.func41 (by kernel_rfl) (by kernel_rfl) (by kernel_rfl) fun a p h => by rw [← h]; exact run41 N a.1

/-! ### tiller/pat.Class: function 36 -/
noncomputable def c36 : Code := (Try.f36.body).getD .skip
noncomputable def T36 : Tb := ⟨tyOf tys, []⟩
noncomputable def G36 {R : Type} (N : Nat) : FuncId → List AV → (AV → Option R) → Option R := gCons 41 (gOf ad41 rd41 (F41 N)) (gNil)
theorem gok36 {R : Type} (N : Nat) : GOK Try.prog (G36 (R := R) N) := gCons_ok (ok41 N) (gNil_ok)
noncomputable def live36 : List (Nat × List Nat) := []
noncomputable def ad36 : Ad (Int × Unit) := aC (cInt .u64) (a0)
noncomputable def rd36 : Rd (Int) := r1 (cInt .i64)
noncomputable def fn_pat_Class (N : Nat) (x0 : Int) : Option (Int) :=
  (fn_pat_Take N x0).bind fun r1 =>
   some r1.2.1
theorem run36 (N : Nat) (x0 : Int) : Eng.run T36 (G36 N) N live36 c36 Try.f36.results.toList Try.f36.ntmps ((ad36).enc (x0, ())) (rd36).dec = fn_pat_Class N x0 := by kernel_rfl
noncomputable def F36 (N : Nat) (a : Int × Unit) : Option (Int) := fn_pat_Class N a.1
theorem ok36 (N : Nat) : FnOK Try.prog 36 ad36 rd36 (F36 N) :=
  fn_ok (N := N) (live := live36) (code := c36) (tok T36.rt) mixed (gok36 N) Try.func36 (by kernel_rfl) (by kernel_rfl) (by kernel_rfl) fun a p h => by rw [← h]; exact run36 N a.1

/-! ### tiller/order.loud: function 26 -/
noncomputable def c26 : Code := (Try.f26.body).getD .skip
noncomputable def T26 : Tb := ⟨tyOf tys, []⟩
noncomputable def G26 {R : Type} (N : Nat) : FuncId → List AV → (AV → Option R) → Option R := gCons 36 (gOf ad36 rd36 (F36 N)) (gNil)
theorem gok26 {R : Type} (N : Nat) : GOK Try.prog (G26 (R := R) N) := gCons_ok (ok36 N) (gNil_ok)
noncomputable def live26 : List (Nat × List Nat) := []
noncomputable def ad26 : Ad (Int × Int × Unit) := aC (cInt .u64) (aC (cInt .u64) (a0))
noncomputable def rd26 : Rd (Int) := r1 (cInt .u8)
noncomputable def fn_order_loud (N : Nat) (x0 : Int) (x1 : Int) : Option (Int) :=
  (fn_pat_Class N x0).bind fun r1 =>
   cond (eqI r1 5)
    (some 1)
    ((fn_pat_Class N x1).bind fun r2 =>
     cond (eqI r2 5)
      (some 1)
      (some 0))
theorem run26 (N : Nat) (x0 : Int) (x1 : Int) : Eng.run T26 (G26 N) N live26 c26 Try.f26.results.toList Try.f26.ntmps ((ad26).enc (x0, x1, ())) (rd26).dec = fn_order_loud N x0 x1 := by kernel_rfl
noncomputable def F26 (N : Nat) (a : Int × Int × Unit) : Option (Int) := fn_order_loud N a.1 a.2.1
theorem ok26 (N : Nat) : FnOK Try.prog 26 ad26 rd26 (F26 N) :=
  fn_ok (N := N) (live := live26) (code := c26) (tok T26.rt) mixed (gok26 N) Try.func26 (by kernel_rfl) (by kernel_rfl) (by kernel_rfl) fun a p h => by rw [← h]; exact run26 N a.1 a.2.1

/-! ### tiller/order.Compare: function 12 -/
noncomputable def c12 : Code := (Try.f12.body).getD .skip
noncomputable def T12 : Tb := ⟨tyOf tys, []⟩
noncomputable def G12 {R : Type} (N : Nat) : FuncId → List AV → (AV → Option R) → Option R := gCons 25 (gOf ad25 rd25 (F25 N)) (gCons 26 (gOf ad26 rd26 (F26 N)) (gCons 27 (gOf ad27 rd27 (F27 N)) (gCons 22 (gOf ad22 rd22 (F22 N)) (gNil))))
theorem gok12 {R : Type} (N : Nat) : GOK Try.prog (G12 (R := R) N) := gCons_ok (ok25 N) (gCons_ok (ok26 N) (gCons_ok (ok27 N) (gCons_ok (ok22 N) (gNil_ok))))
noncomputable def live12 : List (Nat × List Nat) := []
noncomputable def ad12 : Ad (Int × Int × Unit) := aC (cInt .u64) (aC (cInt .u64) (a0))
noncomputable def rd12 : Rd (Int × Int) := r2 (cInt .i64) (cInt .u8)
noncomputable def fn_order_Compare (N : Nat) (x0 : Int) (x1 : Int) : Option (Int × Int) :=
  (fn_pat_IsNaN N x0).bind fun r1 =>
   cond r1
    ((fn_order_loud N x0 x1).bind fun r2 =>
     some (2, r2))
    ((fn_pat_IsNaN N x1).bind fun r3 =>
     cond r3
      ((fn_order_loud N x0 x1).bind fun r4 =>
       some (2, r4))
      ((fn_pat_Abs N x0).bind fun r5 =>
       (fn_pat_Abs N x1).bind fun r6 =>
        cond (eqI (orI .u64 r5 r6) 0)
         (some (0, 0))
         (cond (eqI x0 x1)
          (some (0, 0))
          ((fn_order_key N x0).bind fun r7 =>
           (fn_order_key N x1).bind fun r8 =>
            cond (ltI r7 r8)
             (some ((-1), 0))
             (some (1, 0))))))
theorem run12 (N : Nat) (x0 : Int) (x1 : Int) : Eng.run T12 (G12 N) N live12 c12 Try.f12.results.toList Try.f12.ntmps ((ad12).enc (x0, x1, ())) (rd12).dec = fn_order_Compare N x0 x1 := by kernel_rfl
noncomputable def F12 (N : Nat) (a : Int × Int × Unit) : Option (Int × Int) := fn_order_Compare N a.1 a.2.1
theorem ok12 (N : Nat) : FnOK Try.prog 12 ad12 rd12 (F12 N) :=
  fn_ok (N := N) (live := live12) (code := c12) (tok T12.rt) mixed (gok12 N) Try.func12 (by kernel_rfl) (by kernel_rfl) (by kernel_rfl) fun a p h => by rw [← h]; exact run12 N a.1 a.2.1

/-! ### tiller/order.pick: function 32 -/
noncomputable def c32 : Code := (Try.f32.body).getD .skip
noncomputable def T32 : Tb := ⟨tyOf tys, []⟩
noncomputable def G32 {R : Type} (N : Nat) : FuncId → List AV → (AV → Option R) → Option R := gCons 25 (gOf ad25 rd25 (F25 N)) (gCons 26 (gOf ad26 rd26 (F26 N)) (gCons 22 (gOf ad22 rd22 (F22 N)) (gNil)))
theorem gok32 {R : Type} (N : Nat) : GOK Try.prog (G32 (R := R) N) := gCons_ok (ok25 N) (gCons_ok (ok26 N) (gCons_ok (ok22 N) (gNil_ok)))
noncomputable def live32 : List (Nat × List Nat) := []
noncomputable def ad32 : Ad (Int × Int × Bool × Unit) := aC (cInt .u64) (aC (cInt .u64) (aC (cBool) (a0)))
noncomputable def rd32 : Rd (Int × Int) := r2 (cInt .u64) (cInt .u8)
noncomputable def fn_order_pick (N : Nat) (x0 : Int) (x1 : Int) (x2 : Bool) : Option (Int × Int) :=
  (fn_pat_IsNaN N x0).bind fun r1 =>
   cond r1
    ((fn_order_loud N x0 x1).bind fun r2 =>
     some (9221120237041090560, r2))
    ((fn_pat_IsNaN N x1).bind fun r3 =>
     cond r3
      ((fn_order_loud N x0 x1).bind fun r4 =>
       some (9221120237041090560, r4))
      ((fn_order_key N x0).bind fun r5 =>
       (fn_order_key N x1).bind fun r6 =>
        cond (eqB (leI r5 r6) x2)
         (some (x0, 0))
         (some (x1, 0))))
theorem run32 (N : Nat) (x0 : Int) (x1 : Int) (x2 : Bool) : Eng.run T32 (G32 N) N live32 c32 Try.f32.results.toList Try.f32.ntmps ((ad32).enc (x0, x1, x2, ())) (rd32).dec = fn_order_pick N x0 x1 x2 := by kernel_rfl
noncomputable def F32 (N : Nat) (a : Int × Int × Bool × Unit) : Option (Int × Int) := fn_order_pick N a.1 a.2.1 a.2.2.1
theorem ok32 (N : Nat) : FnOK Try.prog 32 ad32 rd32 (F32 N) :=
  fn_ok (N := N) (live := live32) (code := c32) (tok T32.rt) mixed (gok32 N) Try.func32 (by kernel_rfl) (by kernel_rfl) (by kernel_rfl) fun a p h => by rw [← h]; exact run32 N a.1 a.2.1 a.2.2.1

/-! ### tiller/order.Min: function 15 -/
noncomputable def c15 : Code := (Try.f15.body).getD .skip
noncomputable def T15 : Tb := ⟨tyOf tys, []⟩
noncomputable def G15 {R : Type} (N : Nat) : FuncId → List AV → (AV → Option R) → Option R := gCons 32 (gOf ad32 rd32 (F32 N)) (gNil)
theorem gok15 {R : Type} (N : Nat) : GOK Try.prog (G15 (R := R) N) := gCons_ok (ok32 N) (gNil_ok)
noncomputable def live15 : List (Nat × List Nat) := []
noncomputable def ad15 : Ad (Int × Int × Unit) := aC (cInt .u64) (aC (cInt .u64) (a0))
noncomputable def rd15 : Rd (Int × Int) := r2 (cInt .u64) (cInt .u8)
noncomputable def fn_order_Min (N : Nat) (x0 : Int) (x1 : Int) : Option (Int × Int) :=
  (fn_order_pick N x0 x1 true).bind fun r1 =>
   some (r1.1, r1.2)
theorem run15 (N : Nat) (x0 : Int) (x1 : Int) : Eng.run T15 (G15 N) N live15 c15 Try.f15.results.toList Try.f15.ntmps ((ad15).enc (x0, x1, ())) (rd15).dec = fn_order_Min N x0 x1 := by kernel_rfl
noncomputable def F15 (N : Nat) (a : Int × Int × Unit) : Option (Int × Int) := fn_order_Min N a.1 a.2.1
theorem ok15 (N : Nat) : FnOK Try.prog 15 ad15 rd15 (F15 N) :=
  fn_ok (N := N) (live := live15) (code := c15) (tok T15.rt) mixed (gok15 N) Try.func15 (by kernel_rfl) (by kernel_rfl) (by kernel_rfl) fun a p h => by rw [← h]; exact run15 N a.1 a.2.1

/-! ### tiller/tillerlaw10.sure: function 11 -/
noncomputable def c11 : Code := (Try.f11.body).getD .skip
noncomputable def T11 : Tb := ⟨tyOf tys, []⟩
noncomputable def G11 {R : Type} (N : Nat) : FuncId → List AV → (AV → Option R) → Option R := gCons 15 (gOf ad15 rd15 (F15 N)) (gCons 12 (gOf ad12 rd12 (F12 N)) (gNil))
theorem gok11 {R : Type} (N : Nat) : GOK Try.prog (G11 (R := R) N) := gCons_ok (ok15 N) (gCons_ok (ok12 N) (gNil_ok))
noncomputable def live11 : List (Nat × List Nat) := []
noncomputable def ad11 : Ad (Unit) := a0
noncomputable def rd11 : Rd (Bool) := r1 (cBool)
noncomputable def fn_tillerlaw10_sure (N : Nat)  : Option (Bool) :=
  (fn_order_Min N 0 9223372036854775808).bind fun r1 =>
   (fn_order_Compare N 0 9223372036854775808).bind fun r2 =>
    cond (eqI r1.1 9223372036854775808)
     (cond (eqI r1.2 0)
      (cond (eqI r2.1 0)
       (cond (eqI r2.2 0)
        (some true)
        (some false))
       (some false))
      (some false))
     (some false)
theorem run11 (N : Nat)  : Eng.run T11 (G11 N) N live11 c11 Try.f11.results.toList Try.f11.ntmps ((ad11).enc (())) (rd11).dec = fn_tillerlaw10_sure N  := by kernel_rfl
noncomputable def F11 (N : Nat) (a : Unit) : Option (Bool) := fn_tillerlaw10_sure N 
theorem ok11 (N : Nat) : FnOK Try.prog 11 ad11 rd11 (F11 N) :=
  fn_ok (N := N) (live := live11) (code := c11) (tok T11.rt) mixed (gok11 N) Try.func11 (by kernel_rfl) (by kernel_rfl) (by kernel_rfl) fun a p h => by rw [← h]; exact run11 N 

/-! ### tiller/order.Max: function 17 -/
noncomputable def c17 : Code := (Try.f17.body).getD .skip
noncomputable def T17 : Tb := ⟨tyOf tys, []⟩
noncomputable def G17 {R : Type} (N : Nat) : FuncId → List AV → (AV → Option R) → Option R := gCons 32 (gOf ad32 rd32 (F32 N)) (gNil)
theorem gok17 {R : Type} (N : Nat) : GOK Try.prog (G17 (R := R) N) := gCons_ok (ok32 N) (gNil_ok)
noncomputable def live17 : List (Nat × List Nat) := []
noncomputable def ad17 : Ad (Int × Int × Unit) := aC (cInt .u64) (aC (cInt .u64) (a0))
noncomputable def rd17 : Rd (Int × Int) := r2 (cInt .u64) (cInt .u8)
noncomputable def fn_order_Max (N : Nat) (x0 : Int) (x1 : Int) : Option (Int × Int) :=
  (fn_order_pick N x0 x1 false).bind fun r1 =>
   some (r1.1, r1.2)
theorem run17 (N : Nat) (x0 : Int) (x1 : Int) : Eng.run T17 (G17 N) N live17 c17 Try.f17.results.toList Try.f17.ntmps ((ad17).enc (x0, x1, ())) (rd17).dec = fn_order_Max N x0 x1 := by kernel_rfl
noncomputable def F17 (N : Nat) (a : Int × Int × Unit) : Option (Int × Int) := fn_order_Max N a.1 a.2.1
theorem ok17 (N : Nat) : FnOK Try.prog 17 ad17 rd17 (F17 N) :=
  fn_ok (N := N) (live := live17) (code := c17) (tok T17.rt) mixed (gok17 N) Try.func17 (by kernel_rfl) (by kernel_rfl) (by kernel_rfl) fun a p h => by rw [← h]; exact run17 N a.1 a.2.1

/-! ### tiller/order.size: function 34 -/
noncomputable def c34 : Code := (Try.f34.body).getD .skip
noncomputable def T34 : Tb := ⟨tyOf tys, []⟩
noncomputable def G34 {R : Type} (N : Nat) : FuncId → List AV → (AV → Option R) → Option R := gCons 27 (gOf ad27 rd27 (F27 N)) (gCons 32 (gOf ad32 rd32 (F32 N)) (gCons 25 (gOf ad25 rd25 (F25 N)) (gNil)))
theorem gok34 {R : Type} (N : Nat) : GOK Try.prog (G34 (R := R) N) := gCons_ok (ok27 N) (gCons_ok (ok32 N) (gCons_ok (ok25 N) (gNil_ok)))
noncomputable def live34 : List (Nat × List Nat) := []
noncomputable def ad34 : Ad (Int × Int × Bool × Unit) := aC (cInt .u64) (aC (cInt .u64) (aC (cBool) (a0)))
noncomputable def rd34 : Rd (Int × Int) := r2 (cInt .u64) (cInt .u8)
noncomputable def fn_order_size (N : Nat) (x0 : Int) (x1 : Int) (x2 : Bool) : Option (Int × Int) :=
  (fn_pat_Abs N x0).bind fun r1 =>
   (fn_pat_Abs N x1).bind fun r2 =>
    cond (eqI r1 r2)
     ((fn_order_pick N x0 x1 x2).bind fun r3 =>
      some (r3.1, r3.2))
     ((fn_pat_IsNaN N x0).bind fun r4 =>
      cond r4
       ((fn_order_pick N x0 x1 x2).bind fun r5 =>
        some (r5.1, r5.2))
       ((fn_pat_IsNaN N x1).bind fun r6 =>
        cond r6
         ((fn_order_pick N x0 x1 x2).bind fun r7 =>
          some (r7.1, r7.2))
         (cond (eqB (ltI r1 r2) x2)
          (some (x0, 0))
          (some (x1, 0)))))
theorem run34 (N : Nat) (x0 : Int) (x1 : Int) (x2 : Bool) : Eng.run T34 (G34 N) N live34 c34 Try.f34.results.toList Try.f34.ntmps ((ad34).enc (x0, x1, x2, ())) (rd34).dec = fn_order_size N x0 x1 x2 := by kernel_rfl
noncomputable def F34 (N : Nat) (a : Int × Int × Bool × Unit) : Option (Int × Int) := fn_order_size N a.1 a.2.1 a.2.2.1
theorem ok34 (N : Nat) : FnOK Try.prog 34 ad34 rd34 (F34 N) :=
  fn_ok (N := N) (live := live34) (code := c34) (tok T34.rt) mixed (gok34 N) Try.func34 (by kernel_rfl) (by kernel_rfl) (by kernel_rfl) fun a p h => by rw [← h]; exact run34 N a.1 a.2.1 a.2.2.1

/-! ### tiller/order.MinSize: function 20 -/
noncomputable def c20 : Code := (Try.f20.body).getD .skip
noncomputable def T20 : Tb := ⟨tyOf tys, []⟩
noncomputable def G20 {R : Type} (N : Nat) : FuncId → List AV → (AV → Option R) → Option R := gCons 34 (gOf ad34 rd34 (F34 N)) (gNil)
theorem gok20 {R : Type} (N : Nat) : GOK Try.prog (G20 (R := R) N) := gCons_ok (ok34 N) (gNil_ok)
noncomputable def live20 : List (Nat × List Nat) := []
noncomputable def ad20 : Ad (Int × Int × Unit) := aC (cInt .u64) (aC (cInt .u64) (a0))
noncomputable def rd20 : Rd (Int × Int) := r2 (cInt .u64) (cInt .u8)
noncomputable def fn_order_MinSize (N : Nat) (x0 : Int) (x1 : Int) : Option (Int × Int) :=
  (fn_order_size N x0 x1 true).bind fun r1 =>
   some (r1.1, r1.2)
theorem run20 (N : Nat) (x0 : Int) (x1 : Int) : Eng.run T20 (G20 N) N live20 c20 Try.f20.results.toList Try.f20.ntmps ((ad20).enc (x0, x1, ())) (rd20).dec = fn_order_MinSize N x0 x1 := by kernel_rfl
noncomputable def F20 (N : Nat) (a : Int × Int × Unit) : Option (Int × Int) := fn_order_MinSize N a.1 a.2.1
theorem ok20 (N : Nat) : FnOK Try.prog 20 ad20 rd20 (F20 N) :=
  fn_ok (N := N) (live := live20) (code := c20) (tok T20.rt) mixed (gok20 N) Try.func20 (by kernel_rfl) (by kernel_rfl) (by kernel_rfl) fun a p h => by rw [← h]; exact run20 N a.1 a.2.1

/-! ### tiller/order.MaxSize: function 21 -/
noncomputable def c21 : Code := (Try.f21.body).getD .skip
noncomputable def T21 : Tb := ⟨tyOf tys, []⟩
noncomputable def G21 {R : Type} (N : Nat) : FuncId → List AV → (AV → Option R) → Option R := gCons 34 (gOf ad34 rd34 (F34 N)) (gNil)
theorem gok21 {R : Type} (N : Nat) : GOK Try.prog (G21 (R := R) N) := gCons_ok (ok34 N) (gNil_ok)
noncomputable def live21 : List (Nat × List Nat) := []
noncomputable def ad21 : Ad (Int × Int × Unit) := aC (cInt .u64) (aC (cInt .u64) (a0))
noncomputable def rd21 : Rd (Int × Int) := r2 (cInt .u64) (cInt .u8)
noncomputable def fn_order_MaxSize (N : Nat) (x0 : Int) (x1 : Int) : Option (Int × Int) :=
  (fn_order_size N x0 x1 false).bind fun r1 =>
   some (r1.1, r1.2)
theorem run21 (N : Nat) (x0 : Int) (x1 : Int) : Eng.run T21 (G21 N) N live21 c21 Try.f21.results.toList Try.f21.ntmps ((ad21).enc (x0, x1, ())) (rd21).dec = fn_order_MaxSize N x0 x1 := by kernel_rfl
noncomputable def F21 (N : Nat) (a : Int × Int × Unit) : Option (Int × Int) := fn_order_MaxSize N a.1 a.2.1
theorem ok21 (N : Nat) : FnOK Try.prog 21 ad21 rd21 (F21 N) :=
  fn_ok (N := N) (live := live21) (code := c21) (tok T21.rt) mixed (gok21 N) Try.func21 (by kernel_rfl) (by kernel_rfl) (by kernel_rfl) fun a p h => by rw [← h]; exact run21 N a.1 a.2.1

/-! ### tiller/order.number: function 33 -/
noncomputable def c33 : Code := (Try.f33.body).getD .skip
noncomputable def T33 : Tb := ⟨tyOf tys, []⟩
noncomputable def G33 {R : Type} (N : Nat) : FuncId → List AV → (AV → Option R) → Option R := gCons 25 (gOf ad25 rd25 (F25 N)) (gCons 32 (gOf ad32 rd32 (F32 N)) (gCons 26 (gOf ad26 rd26 (F26 N)) (gNil)))
theorem gok33 {R : Type} (N : Nat) : GOK Try.prog (G33 (R := R) N) := gCons_ok (ok25 N) (gCons_ok (ok32 N) (gCons_ok (ok26 N) (gNil_ok)))
noncomputable def live33 : List (Nat × List Nat) := []
noncomputable def ad33 : Ad (Int × Int × Bool × Unit) := aC (cInt .u64) (aC (cInt .u64) (aC (cBool) (a0)))
noncomputable def rd33 : Rd (Int × Int) := r2 (cInt .u64) (cInt .u8)
noncomputable def fn_order_number (N : Nat) (x0 : Int) (x1 : Int) (x2 : Bool) : Option (Int × Int) :=
  (fn_pat_IsNaN N x0).bind fun r1 =>
   (fn_pat_IsNaN N x1).bind fun r2 =>
    cond (eqB r1 r2)
     ((fn_order_pick N x0 x1 x2).bind fun r3 =>
      some (r3.1, r3.2))
     ((fn_pat_IsNaN N x0).bind fun r4 =>
      cond r4
       ((fn_order_loud N x0 x1).bind fun r5 =>
        some (x1, r5))
       ((fn_order_loud N x0 x1).bind fun r6 =>
        some (x0, r6)))
theorem run33 (N : Nat) (x0 : Int) (x1 : Int) (x2 : Bool) : Eng.run T33 (G33 N) N live33 c33 Try.f33.results.toList Try.f33.ntmps ((ad33).enc (x0, x1, x2, ())) (rd33).dec = fn_order_number N x0 x1 x2 := by kernel_rfl
noncomputable def F33 (N : Nat) (a : Int × Int × Bool × Unit) : Option (Int × Int) := fn_order_number N a.1 a.2.1 a.2.2.1
theorem ok33 (N : Nat) : FnOK Try.prog 33 ad33 rd33 (F33 N) :=
  fn_ok (N := N) (live := live33) (code := c33) (tok T33.rt) mixed (gok33 N) Try.func33 (by kernel_rfl) (by kernel_rfl) (by kernel_rfl) fun a p h => by rw [← h]; exact run33 N a.1 a.2.1 a.2.2.1

/-! ### tiller/order.MinNumber: function 18 -/
noncomputable def c18 : Code := (Try.f18.body).getD .skip
noncomputable def T18 : Tb := ⟨tyOf tys, []⟩
noncomputable def G18 {R : Type} (N : Nat) : FuncId → List AV → (AV → Option R) → Option R := gCons 33 (gOf ad33 rd33 (F33 N)) (gNil)
theorem gok18 {R : Type} (N : Nat) : GOK Try.prog (G18 (R := R) N) := gCons_ok (ok33 N) (gNil_ok)
noncomputable def live18 : List (Nat × List Nat) := []
noncomputable def ad18 : Ad (Int × Int × Unit) := aC (cInt .u64) (aC (cInt .u64) (a0))
noncomputable def rd18 : Rd (Int × Int) := r2 (cInt .u64) (cInt .u8)
noncomputable def fn_order_MinNumber (N : Nat) (x0 : Int) (x1 : Int) : Option (Int × Int) :=
  (fn_order_number N x0 x1 true).bind fun r1 =>
   some (r1.1, r1.2)
theorem run18 (N : Nat) (x0 : Int) (x1 : Int) : Eng.run T18 (G18 N) N live18 c18 Try.f18.results.toList Try.f18.ntmps ((ad18).enc (x0, x1, ())) (rd18).dec = fn_order_MinNumber N x0 x1 := by kernel_rfl
noncomputable def F18 (N : Nat) (a : Int × Int × Unit) : Option (Int × Int) := fn_order_MinNumber N a.1 a.2.1
theorem ok18 (N : Nat) : FnOK Try.prog 18 ad18 rd18 (F18 N) :=
  fn_ok (N := N) (live := live18) (code := c18) (tok T18.rt) mixed (gok18 N) Try.func18 (by kernel_rfl) (by kernel_rfl) (by kernel_rfl) fun a p h => by rw [← h]; exact run18 N a.1 a.2.1

/-! ### tiller/order.MaxNumber: function 19 -/
noncomputable def c19 : Code := (Try.f19.body).getD .skip
noncomputable def T19 : Tb := ⟨tyOf tys, []⟩
noncomputable def G19 {R : Type} (N : Nat) : FuncId → List AV → (AV → Option R) → Option R := gCons 33 (gOf ad33 rd33 (F33 N)) (gNil)
theorem gok19 {R : Type} (N : Nat) : GOK Try.prog (G19 (R := R) N) := gCons_ok (ok33 N) (gNil_ok)
noncomputable def live19 : List (Nat × List Nat) := []
noncomputable def ad19 : Ad (Int × Int × Unit) := aC (cInt .u64) (aC (cInt .u64) (a0))
noncomputable def rd19 : Rd (Int × Int) := r2 (cInt .u64) (cInt .u8)
noncomputable def fn_order_MaxNumber (N : Nat) (x0 : Int) (x1 : Int) : Option (Int × Int) :=
  (fn_order_number N x0 x1 false).bind fun r1 =>
   some (r1.1, r1.2)
theorem run19 (N : Nat) (x0 : Int) (x1 : Int) : Eng.run T19 (G19 N) N live19 c19 Try.f19.results.toList Try.f19.ntmps ((ad19).enc (x0, x1, ())) (rd19).dec = fn_order_MaxNumber N x0 x1 := by kernel_rfl
noncomputable def F19 (N : Nat) (a : Int × Int × Unit) : Option (Int × Int) := fn_order_MaxNumber N a.1 a.2.1
theorem ok19 (N : Nat) : FnOK Try.prog 19 ad19 rd19 (F19 N) :=
  fn_ok (N := N) (live := live19) (code := c19) (tok T19.rt) mixed (gok19 N) Try.func19 (by kernel_rfl) (by kernel_rfl) (by kernel_rfl) fun a p h => by rw [← h]; exact run19 N a.1 a.2.1
end Go.Proofs.Ytkipjjijaphjpaa.Fns

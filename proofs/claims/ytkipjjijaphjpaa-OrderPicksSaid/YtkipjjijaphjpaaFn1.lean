/- Go functions as plain Lean functions, and the engine's run of each. No statement is proved here. Laid by eng.py. -/
import Derived.Test.YtkipjjijaphjpaaFn0
namespace Go.Proofs.Ytkipjjijaphjpaa.Fns
open Go Go.RowKit Go.Proofs Go.Proofs.Ytkipjjijaphjpaa.Eng
set_option linter.unusedVariables false
set_option maxRecDepth 100000
/-! ### tiller/pat.Abs: function 27 -/
noncomputable def c27 : Code := (Try.f27.body).getD .skip
noncomputable def T27 : Tb := ⟨tyOf tys, [], []⟩
noncomputable def G27 {R : Type} (N : Nat) : FuncId → List AV → (AV → Option R) → Option R := gNil
theorem gok27 {R : Type} (N : Nat) : GOK Try.prog (G27 (R := R) N) := gNil_ok
noncomputable def live27 : List (Nat × List (Nat × HK)) := []
noncomputable def ad27 : Ad (Int × Unit) := aC (cInt .u64) (a0)
noncomputable def rd27 : Rd (Int) := r1 (cInt .u64)
noncomputable def fn_pat_Abs (N : Nat) (x0 : Int) : Option (Int) :=
  some (bicI .u64 x0 9223372036854775808)
theorem run27 (N : Nat) (x0 : Int) : Eng.run T27 (G27 N) N live27 c27 Try.f27.results.toList Try.f27.ntmps ((ad27).enc (x0, ())) (rd27).dec = fn_pat_Abs N x0 := by kernel_rfl
noncomputable def F27 (N : Nat) (a : Int × Unit) : Option (Int) := fn_pat_Abs N a.1
theorem ok27 (N : Nat) : FnOK Try.prog 27 ad27 rd27 (F27 N) :=
  fn_ok (N := N) (live := live27) (code := c27) (tok T27.rt T27.kl) mixed (gok27 N) Try.func27 (by kernel_rfl) (by kernel_rfl) (by kernel_rfl) fun a p h => by rw [← h]; exact run27 N a.1

/-! ### tiller/order.key: function 22 -/
noncomputable def c22 : Code := (Try.f22.body).getD .skip
noncomputable def T22 : Tb := ⟨tyOf tys, [], []⟩
noncomputable def G22 {R : Type} (N : Nat) : FuncId → List AV → (AV → Option R) → Option R := gCons 27 (gOf ad27 rd27 (F27 N)) (gNil)
theorem gok22 {R : Type} (N : Nat) : GOK Try.prog (G22 (R := R) N) := gCons_ok (ok27 N) (gNil_ok)
noncomputable def live22 : List (Nat × List (Nat × HK)) := []
noncomputable def ad22 : Ad (Int × Unit) := aC (cInt .u64) (a0)
noncomputable def rd22 : Rd (Int) := r1 (cInt .i64)
noncomputable def fn_order_key (N : Nat) (x0 : Int) : Option (Int) :=
  cond (!(eqI (andI .u64 x0 9223372036854775808) 0))
   ((fn_pat_Abs N x0).bind fun r1 =>
    some (subI .i64 (subI .i64 0 (cvI .i64 r1)) 1))
   (some (cvI .i64 x0))
theorem run22 (N : Nat) (x0 : Int) : Eng.run T22 (G22 N) N live22 c22 Try.f22.results.toList Try.f22.ntmps ((ad22).enc (x0, ())) (rd22).dec = fn_order_key N x0 := by kernel_rfl
noncomputable def F22 (N : Nat) (a : Int × Unit) : Option (Int) := fn_order_key N a.1
theorem ok22 (N : Nat) : FnOK Try.prog 22 ad22 rd22 (F22 N) :=
  fn_ok (N := N) (live := live22) (code := c22) (tok T22.rt T22.kl) mixed (gok22 N) Try.func22 (by kernel_rfl) (by kernel_rfl) (by kernel_rfl) fun a p h => by rw [← h]; exact run22 N a.1

/-! ### tiller/order.Total: function 9 -/
noncomputable def c9 : Code := (Try.f9.body).getD .skip
noncomputable def T9 : Tb := ⟨tyOf tys, [], []⟩
noncomputable def G9 {R : Type} (N : Nat) : FuncId → List AV → (AV → Option R) → Option R := gCons 22 (gOf ad22 rd22 (F22 N)) (gNil)
theorem gok9 {R : Type} (N : Nat) : GOK Try.prog (G9 (R := R) N) := gCons_ok (ok22 N) (gNil_ok)
noncomputable def live9 : List (Nat × List (Nat × HK)) := []
noncomputable def ad9 : Ad (Int × Int × Unit) := aC (cInt .u64) (aC (cInt .u64) (a0))
noncomputable def rd9 : Rd (Bool) := r1 (cBool)
noncomputable def fn_order_Total (N : Nat) (x0 : Int) (x1 : Int) : Option (Bool) :=
  (fn_order_key N x0).bind fun r1 =>
   (fn_order_key N x1).bind fun r2 =>
    some (leI r1 r2)
theorem run9 (N : Nat) (x0 : Int) (x1 : Int) : Eng.run T9 (G9 N) N live9 c9 Try.f9.results.toList Try.f9.ntmps ((ad9).enc (x0, x1, ())) (rd9).dec = fn_order_Total N x0 x1 := by kernel_rfl
noncomputable def F9 (N : Nat) (a : Int × Int × Unit) : Option (Bool) := fn_order_Total N a.1 a.2.1
theorem ok9 (N : Nat) : FnOK Try.prog 9 ad9 rd9 (F9 N) :=
  fn_ok (N := N) (live := live9) (code := c9) (tok T9.rt T9.kl) mixed (gok9 N) Try.func9 (by kernel_rfl) (by kernel_rfl) (by kernel_rfl) fun a p h => by rw [← h]; exact run9 N a.1 a.2.1

/-! ### tiller/tillerref03.Abs: function 24 -/
noncomputable def c24 : Code := (Try.f24.body).getD .skip
noncomputable def T24 : Tb := ⟨tyOf tys, [], []⟩
noncomputable def G24 {R : Type} (N : Nat) : FuncId → List AV → (AV → Option R) → Option R := gNil
theorem gok24 {R : Type} (N : Nat) : GOK Try.prog (G24 (R := R) N) := gNil_ok
noncomputable def live24 : List (Nat × List (Nat × HK)) := []
noncomputable def ad24 : Ad (Int × Unit) := aC (cInt .u64) (a0)
noncomputable def rd24 : Rd (Int) := r1 (cInt .u64)
noncomputable def fn_tillerref03_Abs (N : Nat) (x0 : Int) : Option (Int) :=
  some (remI .u64 x0 9223372036854775808)
theorem run24 (N : Nat) (x0 : Int) : Eng.run T24 (G24 N) N live24 c24 Try.f24.results.toList Try.f24.ntmps ((ad24).enc (x0, ())) (rd24).dec = fn_tillerref03_Abs N x0 := by kernel_rfl
noncomputable def F24 (N : Nat) (a : Int × Unit) : Option (Int) := fn_tillerref03_Abs N a.1
theorem ok24 (N : Nat) : FnOK Try.prog 24 ad24 rd24 (F24 N) :=
  fn_ok (N := N) (live := live24) (code := c24) (tok T24.rt T24.kl) mixed (gok24 N) Try.func24 (by kernel_rfl) (by kernel_rfl) (by kernel_rfl) fun a p h => by rw [← h]; exact run24 N a.1

/-! ### tiller/tillerref03.Take: function 37 -/
noncomputable def c37 : Code := (Try.f37.body).getD .skip
noncomputable def T37 : Tb := ⟨tyOf tys, [(17, 5), (20, 5), (23, 5), (27, 5), (30, 5), (32, 5)], []⟩
noncomputable def G37 {R : Type} (N : Nat) : FuncId → List AV → (AV → Option R) → Option R := gNil
theorem gok37 {R : Type} (N : Nat) : GOK Try.prog (G37 (R := R) N) := gNil_ok
noncomputable def live37 : List (Nat × List (Nat × HK)) := []
noncomputable def ad37 : Ad (Int × Unit) := aC (cInt .u64) (a0)
noncomputable def rd37 : Rd ((Bool × Int × Int × Int)) := r1 (cSt (fC (lBool) (fC (lInt .i64) (fC (lInt .i64) (fO (lInt .u64))))))
noncomputable def fn_tillerref03_Take (N : Nat) (x0 : Int) : Option ((Bool × Int × Int × Int)) :=
  cond (eqI (remI .u64 (quoI .u64 x0 4503599627370496) 2048) 2047)
   (cond (leI 2251799813685248 (remI .u64 x0 4503599627370496))
    (some (leI 9223372036854775808 x0, 4, 0, remI .u64 x0 4503599627370496))
    (cond (ltI 0 (remI .u64 x0 4503599627370496))
     (some (leI 9223372036854775808 x0, 5, 0, remI .u64 x0 4503599627370496))
     (some (leI 9223372036854775808 x0, 3, 0, remI .u64 x0 4503599627370496))))
   (cond (eqI (remI .u64 (quoI .u64 x0 4503599627370496) 2048) 0)
    (cond (ltI 0 (remI .u64 x0 4503599627370496))
     (some (leI 9223372036854775808 x0, 1, (-1074), remI .u64 x0 4503599627370496))
     (some (leI 9223372036854775808 x0, 0, (-1074), remI .u64 x0 4503599627370496)))
    (some (leI 9223372036854775808 x0, 2, subI .i64 (cvI .i64 (remI .u64 (quoI .u64 x0 4503599627370496) 2048)) 1075, addI .u64 (remI .u64 x0 4503599627370496) 4503599627370496)))
theorem run37 (N : Nat) (x0 : Int) : Eng.run T37 (G37 N) N live37 c37 Try.f37.results.toList Try.f37.ntmps ((ad37).enc (x0, ())) (rd37).dec = fn_tillerref03_Take N x0 := by kernel_rfl
noncomputable def F37 (N : Nat) (a : Int × Unit) : Option ((Bool × Int × Int × Int)) := fn_tillerref03_Take N a.1
theorem ok37 (N : Nat) : FnOK Try.prog 37 ad37 rd37 (F37 N) :=
  fn_ok (N := N) (live := live37) (code := c37) (tok T37.rt T37.kl) mixed (gok37 N) Try.func37 (by kernel_rfl) (by kernel_rfl) (by kernel_rfl) fun a p h => by rw [← h]; exact run37 N a.1

/-! ### tiller/tillerref10.rank: function 35 -/
noncomputable def c35 : Code := (Try.f35.body).getD .skip
noncomputable def T35 : Tb := ⟨tyOf tys, [(7, 3)], []⟩
noncomputable def G35 {R : Type} (N : Nat) : FuncId → List AV → (AV → Option R) → Option R := gCons 37 (gOf ad37 rd37 (F37 N)) (gNil)
theorem gok35 {R : Type} (N : Nat) : GOK Try.prog (G35 (R := R) N) := gCons_ok (ok37 N) (gNil_ok)
noncomputable def live35 : List (Nat × List (Nat × HK)) := []
noncomputable def ad35 : Ad (Int × Unit) := aC (cInt .u64) (a0)
noncomputable def rd35 : Rd (Int) := r1 (cInt .i64)
noncomputable def fn_tillerref10_rank (N : Nat) (x0 : Int) : Option (Int) :=
  (fn_tillerref03_Take N x0).bind fun r1 =>
   cond (leI 0 r1.2.1)
    (cond (ltI r1.2.1 ([0, 1, 1, 2, 4, 3].length : Int))
     (some (lrd [0, 1, 1, 2, 4, 3] r1.2.1))
     (none))
    (none)
theorem run35 (N : Nat) (x0 : Int) : Eng.run T35 (G35 N) N live35 c35 Try.f35.results.toList Try.f35.ntmps ((ad35).enc (x0, ())) (rd35).dec = fn_tillerref10_rank N x0 := by kernel_rfl
noncomputable def F35 (N : Nat) (a : Int × Unit) : Option (Int) := fn_tillerref10_rank N a.1
theorem ok35 (N : Nat) : FnOK Try.prog 35 ad35 rd35 (F35 N) :=
  fn_ok (N := N) (live := live35) (code := c35) (tok T35.rt T35.kl) mixed (gok35 N) Try.func35 (by kernel_rfl) (by kernel_rfl) (by kernel_rfl) fun a p h => by rw [← h]; exact run35 N a.1

/-! ### tiller/tillerref10.ahead: function 23 -/
noncomputable def c23 : Code := (Try.f23.body).getD .skip
noncomputable def T23 : Tb := ⟨tyOf tys, [], []⟩
noncomputable def G23 {R : Type} (N : Nat) : FuncId → List AV → (AV → Option R) → Option R := gCons 35 (gOf ad35 rd35 (F35 N)) (gNil)
theorem gok23 {R : Type} (N : Nat) : GOK Try.prog (G23 (R := R) N) := gCons_ok (ok35 N) (gNil_ok)
noncomputable def live23 : List (Nat × List (Nat × HK)) := []
noncomputable def ad23 : Ad (Int × Int × Unit) := aC (cInt .u64) (aC (cInt .u64) (a0))
noncomputable def rd23 : Rd (Bool) := r1 (cBool)
noncomputable def fn_tillerref10_ahead (N : Nat) (x0 : Int) (x1 : Int) : Option (Bool) :=
  (fn_tillerref10_rank N x0).bind fun r1 =>
   (fn_tillerref10_rank N x1).bind fun r2 =>
    cond (!(eqI r1 r2))
     ((fn_tillerref10_rank N x0).bind fun r3 =>
      (fn_tillerref10_rank N x1).bind fun r4 =>
       some (ltI r3 r4))
     (some (leI x0 x1))
theorem run23 (N : Nat) (x0 : Int) (x1 : Int) : Eng.run T23 (G23 N) N live23 c23 Try.f23.results.toList Try.f23.ntmps ((ad23).enc (x0, x1, ())) (rd23).dec = fn_tillerref10_ahead N x0 x1 := by kernel_rfl
noncomputable def F23 (N : Nat) (a : Int × Int × Unit) : Option (Bool) := fn_tillerref10_ahead N a.1 a.2.1
theorem ok23 (N : Nat) : FnOK Try.prog 23 ad23 rd23 (F23 N) :=
  fn_ok (N := N) (live := live23) (code := c23) (tok T23.rt T23.kl) mixed (gok23 N) Try.func23 (by kernel_rfl) (by kernel_rfl) (by kernel_rfl) fun a p h => by rw [← h]; exact run23 N a.1 a.2.1

/-! ### tiller/tillerref10.Total: function 10 -/
noncomputable def c10 : Code := (Try.f10.body).getD .skip
noncomputable def T10 : Tb := ⟨tyOf tys, [], []⟩
noncomputable def G10 {R : Type} (N : Nat) : FuncId → List AV → (AV → Option R) → Option R := gCons 24 (gOf ad24 rd24 (F24 N)) (gCons 23 (gOf ad23 rd23 (F23 N)) (gNil))
theorem gok10 {R : Type} (N : Nat) : GOK Try.prog (G10 (R := R) N) := gCons_ok (ok24 N) (gCons_ok (ok23 N) (gNil_ok))
noncomputable def live10 : List (Nat × List (Nat × HK)) := []
noncomputable def ad10 : Ad (Int × Int × Unit) := aC (cInt .u64) (aC (cInt .u64) (a0))
noncomputable def rd10 : Rd (Bool) := r1 (cBool)
noncomputable def fn_tillerref10_Total (N : Nat) (x0 : Int) (x1 : Int) : Option (Bool) :=
  cond (leI 9223372036854775808 x0)
   (cond (leI 9223372036854775808 x1)
    ((fn_tillerref03_Abs N x1).bind fun r1 =>
     (fn_tillerref03_Abs N x0).bind fun r2 =>
      (fn_tillerref10_ahead N r1 r2).bind fun r3 =>
       some r3)
    (cond (leI 9223372036854775808 x0)
     (some (leI 9223372036854775808 x0))
     (cond (leI 9223372036854775808 x1)
      (some (leI 9223372036854775808 x0))
      ((fn_tillerref10_ahead N x0 x1).bind fun r4 =>
       some r4))))
   (cond (leI 9223372036854775808 x0)
    (some (leI 9223372036854775808 x0))
    (cond (leI 9223372036854775808 x1)
     (some (leI 9223372036854775808 x0))
     ((fn_tillerref10_ahead N x0 x1).bind fun r5 =>
      some r5)))
theorem run10 (N : Nat) (x0 : Int) (x1 : Int) : Eng.run T10 (G10 N) N live10 c10 Try.f10.results.toList Try.f10.ntmps ((ad10).enc (x0, x1, ())) (rd10).dec = fn_tillerref10_Total N x0 x1 := by kernel_rfl
noncomputable def F10 (N : Nat) (a : Int × Int × Unit) : Option (Bool) := fn_tillerref10_Total N a.1 a.2.1
theorem ok10 (N : Nat) : FnOK Try.prog 10 ad10 rd10 (F10 N) :=
  fn_ok (N := N) (live := live10) (code := c10) (tok T10.rt T10.kl) mixed (gok10 N) Try.func10 (by kernel_rfl) (by kernel_rfl) (by kernel_rfl) fun a p h => by rw [← h]; exact run10 N a.1 a.2.1

/-! ### tiller/pat.IsNaN: function 25 -/
noncomputable def c25 : Code := (Try.f25.body).getD .skip
noncomputable def T25 : Tb := ⟨tyOf tys, [], []⟩
noncomputable def G25 {R : Type} (N : Nat) : FuncId → List AV → (AV → Option R) → Option R := gCons 27 (gOf ad27 rd27 (F27 N)) (gNil)
theorem gok25 {R : Type} (N : Nat) : GOK Try.prog (G25 (R := R) N) := gCons_ok (ok27 N) (gNil_ok)
noncomputable def live25 : List (Nat × List (Nat × HK)) := []
noncomputable def ad25 : Ad (Int × Unit) := aC (cInt .u64) (a0)
noncomputable def rd25 : Rd (Bool) := r1 (cBool)
noncomputable def fn_pat_IsNaN (N : Nat) (x0 : Int) : Option (Bool) :=
  (fn_pat_Abs N x0).bind fun r1 =>
   some (ltI 9218868437227405312 r1)
theorem run25 (N : Nat) (x0 : Int) : Eng.run T25 (G25 N) N live25 c25 Try.f25.results.toList Try.f25.ntmps ((ad25).enc (x0, ())) (rd25).dec = fn_pat_IsNaN N x0 := by kernel_rfl
noncomputable def F25 (N : Nat) (a : Int × Unit) : Option (Bool) := fn_pat_IsNaN N a.1
theorem ok25 (N : Nat) : FnOK Try.prog 25 ad25 rd25 (F25 N) :=
  fn_ok (N := N) (live := live25) (code := c25) (tok T25.rt T25.kl) mixed (gok25 N) Try.func25 (by kernel_rfl) (by kernel_rfl) (by kernel_rfl) fun a p h => by rw [← h]; exact run25 N a.1

/-! ### tiller/pat.Take: function 41 -/
noncomputable def c41 : Code := (Try.f41.body).getD .skip
noncomputable def T41 : Tb := ⟨tyOf tys, [(15, 3), (20, 3), (24, 3), (29, 3), (34, 3), (38, 3), (45, 3), (48, 3), (49, 3), (50, 3), (52, 3), (55, 3), (56, 3)], []⟩
noncomputable def G41 {R : Type} (N : Nat) : FuncId → List AV → (AV → Option R) → Option R := gNil
theorem gok41 {R : Type} (N : Nat) : GOK Try.prog (G41 (R := R) N) := gNil_ok
noncomputable def live41 : List (Nat × List (Nat × HK)) := []
noncomputable def ad41 : Ad (Int × Unit) := aC (cInt .u64) (a0)
noncomputable def rd41 : Rd ((Bool × Int × Int × Int)) := r1 (cSt (fC (lBool) (fC (lInt .i64) (fC (lInt .i64) (fO (lInt .u64))))))
noncomputable def fn_pat_Take (N : Nat) (x0 : Int) : Option ((Bool × Int × Int × Int)) :=
  cond (eqI (andI .i64 (cvI .i64 (shrI .u64 x0 52)) 2047) 2047)
   (cond (eqI (andI .u64 x0 4503599627370495) 0)
    (some (!(eqI (andI .u64 x0 9223372036854775808) 0), 3, 0, andI .u64 x0 4503599627370495))
    (cond (eqI (andI .i64 (cvI .i64 (shrI .u64 x0 52)) 2047) 2047)
     (cond (!(eqI (andI .u64 (andI .u64 x0 4503599627370495) 2251799813685248) 0))
      (some (!(eqI (andI .u64 x0 9223372036854775808) 0), 4, 0, andI .u64 x0 4503599627370495))
      (cond (eqI (andI .i64 (cvI .i64 (shrI .u64 x0 52)) 2047) 2047)
       (some (!(eqI (andI .u64 x0 9223372036854775808) 0), 5, 0, andI .u64 x0 4503599627370495))
       (cond (ltI 0 (andI .i64 (cvI .i64 (shrI .u64 x0 52)) 2047))
        (some (!(eqI (andI .u64 x0 9223372036854775808) 0), 2, subI .i64 (addI .i64 (andI .i64 (cvI .i64 (shrI .u64 x0 52)) 2047) (-1074)) 1, orI .u64 (andI .u64 x0 4503599627370495) 4503599627370496))
        (cond (ltI 0 (andI .u64 x0 4503599627370495))
         (some (!(eqI (andI .u64 x0 9223372036854775808) 0), 1, (-1074), andI .u64 x0 4503599627370495))
         (some (!(eqI (andI .u64 x0 9223372036854775808) 0), 0, (-1074), andI .u64 x0 4503599627370495))))))
     (cond (eqI (andI .i64 (cvI .i64 (shrI .u64 x0 52)) 2047) 2047)
      (some (!(eqI (andI .u64 x0 9223372036854775808) 0), 5, 0, andI .u64 x0 4503599627370495))
      (cond (ltI 0 (andI .i64 (cvI .i64 (shrI .u64 x0 52)) 2047))
       (some (!(eqI (andI .u64 x0 9223372036854775808) 0), 2, subI .i64 (addI .i64 (andI .i64 (cvI .i64 (shrI .u64 x0 52)) 2047) (-1074)) 1, orI .u64 (andI .u64 x0 4503599627370495) 4503599627370496))
       (cond (ltI 0 (andI .u64 x0 4503599627370495))
        (some (!(eqI (andI .u64 x0 9223372036854775808) 0), 1, (-1074), andI .u64 x0 4503599627370495))
        (some (!(eqI (andI .u64 x0 9223372036854775808) 0), 0, (-1074), andI .u64 x0 4503599627370495)))))))
   (cond (eqI (andI .i64 (cvI .i64 (shrI .u64 x0 52)) 2047) 2047)
    (cond (!(eqI (andI .u64 (andI .u64 x0 4503599627370495) 2251799813685248) 0))
     (some (!(eqI (andI .u64 x0 9223372036854775808) 0), 4, 0, andI .u64 x0 4503599627370495))
     (cond (eqI (andI .i64 (cvI .i64 (shrI .u64 x0 52)) 2047) 2047)
      (some (!(eqI (andI .u64 x0 9223372036854775808) 0), 5, 0, andI .u64 x0 4503599627370495))
      (cond (ltI 0 (andI .i64 (cvI .i64 (shrI .u64 x0 52)) 2047))
       (some (!(eqI (andI .u64 x0 9223372036854775808) 0), 2, subI .i64 (addI .i64 (andI .i64 (cvI .i64 (shrI .u64 x0 52)) 2047) (-1074)) 1, orI .u64 (andI .u64 x0 4503599627370495) 4503599627370496))
       (cond (ltI 0 (andI .u64 x0 4503599627370495))
        (some (!(eqI (andI .u64 x0 9223372036854775808) 0), 1, (-1074), andI .u64 x0 4503599627370495))
        (some (!(eqI (andI .u64 x0 9223372036854775808) 0), 0, (-1074), andI .u64 x0 4503599627370495))))))
    (cond (eqI (andI .i64 (cvI .i64 (shrI .u64 x0 52)) 2047) 2047)
     (some (!(eqI (andI .u64 x0 9223372036854775808) 0), 5, 0, andI .u64 x0 4503599627370495))
     (cond (ltI 0 (andI .i64 (cvI .i64 (shrI .u64 x0 52)) 2047))
      (some (!(eqI (andI .u64 x0 9223372036854775808) 0), 2, subI .i64 (addI .i64 (andI .i64 (cvI .i64 (shrI .u64 x0 52)) 2047) (-1074)) 1, orI .u64 (andI .u64 x0 4503599627370495) 4503599627370496))
      (cond (ltI 0 (andI .u64 x0 4503599627370495))
       (some (!(eqI (andI .u64 x0 9223372036854775808) 0), 1, (-1074), andI .u64 x0 4503599627370495))
       (some (!(eqI (andI .u64 x0 9223372036854775808) 0), 0, (-1074), andI .u64 x0 4503599627370495))))))
theorem run41 (N : Nat) (x0 : Int) : Eng.run T41 (G41 N) N live41 c41 Try.f41.results.toList Try.f41.ntmps ((ad41).enc (x0, ())) (rd41).dec = fn_pat_Take N x0 := by kernel_rfl
noncomputable def F41 (N : Nat) (a : Int × Unit) : Option ((Bool × Int × Int × Int)) := fn_pat_Take N a.1
theorem ok41 (N : Nat) : FnOK Try.prog 41 ad41 rd41 (F41 N) :=
  fn_ok (N := N) (live := live41) (code := c41) (tok T41.rt T41.kl) mixed (gok41 N) Try.func41 (by kernel_rfl) (by kernel_rfl) (by kernel_rfl) fun a p h => by rw [← h]; exact run41 N a.1

/-! ### tiller/pat.Class: function 36 -/
noncomputable def c36 : Code := (Try.f36.body).getD .skip
noncomputable def T36 : Tb := ⟨tyOf tys, [], []⟩
noncomputable def G36 {R : Type} (N : Nat) : FuncId → List AV → (AV → Option R) → Option R := gCons 41 (gOf ad41 rd41 (F41 N)) (gNil)
theorem gok36 {R : Type} (N : Nat) : GOK Try.prog (G36 (R := R) N) := gCons_ok (ok41 N) (gNil_ok)
noncomputable def live36 : List (Nat × List (Nat × HK)) := []
noncomputable def ad36 : Ad (Int × Unit) := aC (cInt .u64) (a0)
noncomputable def rd36 : Rd (Int) := r1 (cInt .i64)
noncomputable def fn_pat_Class (N : Nat) (x0 : Int) : Option (Int) :=
  (fn_pat_Take N x0).bind fun r1 =>
   some r1.2.1
theorem run36 (N : Nat) (x0 : Int) : Eng.run T36 (G36 N) N live36 c36 Try.f36.results.toList Try.f36.ntmps ((ad36).enc (x0, ())) (rd36).dec = fn_pat_Class N x0 := by kernel_rfl
noncomputable def F36 (N : Nat) (a : Int × Unit) : Option (Int) := fn_pat_Class N a.1
theorem ok36 (N : Nat) : FnOK Try.prog 36 ad36 rd36 (F36 N) :=
  fn_ok (N := N) (live := live36) (code := c36) (tok T36.rt T36.kl) mixed (gok36 N) Try.func36 (by kernel_rfl) (by kernel_rfl) (by kernel_rfl) fun a p h => by rw [← h]; exact run36 N a.1

/-! ### tiller/order.loud: function 26 -/
noncomputable def c26 : Code := (Try.f26.body).getD .skip
noncomputable def T26 : Tb := ⟨tyOf tys, [], []⟩
noncomputable def G26 {R : Type} (N : Nat) : FuncId → List AV → (AV → Option R) → Option R := gCons 36 (gOf ad36 rd36 (F36 N)) (gNil)
theorem gok26 {R : Type} (N : Nat) : GOK Try.prog (G26 (R := R) N) := gCons_ok (ok36 N) (gNil_ok)
noncomputable def live26 : List (Nat × List (Nat × HK)) := []
noncomputable def ad26 : Ad (Int × Int × Unit) := aC (cInt .u64) (aC (cInt .u64) (a0))
noncomputable def rd26 : Rd (Int) := r1 (cInt .u8)
noncomputable def fn_order_loud (N : Nat) (x0 : Int) (x1 : Int) : Option (Int) :=
  (fn_pat_Class N x0).bind fun r1 =>
   cond (eqI r1 5)
    (some 1)
    ((fn_pat_Class N x1).bind fun r2 =>
     cond (eqI r2 5)
      (some 1)
      (some 0))
theorem run26 (N : Nat) (x0 : Int) (x1 : Int) : Eng.run T26 (G26 N) N live26 c26 Try.f26.results.toList Try.f26.ntmps ((ad26).enc (x0, x1, ())) (rd26).dec = fn_order_loud N x0 x1 := by kernel_rfl
noncomputable def F26 (N : Nat) (a : Int × Int × Unit) : Option (Int) := fn_order_loud N a.1 a.2.1
theorem ok26 (N : Nat) : FnOK Try.prog 26 ad26 rd26 (F26 N) :=
  fn_ok (N := N) (live := live26) (code := c26) (tok T26.rt T26.kl) mixed (gok26 N) Try.func26 (by kernel_rfl) (by kernel_rfl) (by kernel_rfl) fun a p h => by rw [← h]; exact run26 N a.1 a.2.1

/-! ### tiller/order.pick: function 32 -/
noncomputable def c32 : Code := (Try.f32.body).getD .skip
noncomputable def T32 : Tb := ⟨tyOf tys, [], []⟩
noncomputable def G32 {R : Type} (N : Nat) : FuncId → List AV → (AV → Option R) → Option R := gCons 25 (gOf ad25 rd25 (F25 N)) (gCons 26 (gOf ad26 rd26 (F26 N)) (gCons 22 (gOf ad22 rd22 (F22 N)) (gNil)))
theorem gok32 {R : Type} (N : Nat) : GOK Try.prog (G32 (R := R) N) := gCons_ok (ok25 N) (gCons_ok (ok26 N) (gCons_ok (ok22 N) (gNil_ok)))
noncomputable def live32 : List (Nat × List (Nat × HK)) := []
noncomputable def ad32 : Ad (Int × Int × Bool × Unit) := aC (cInt .u64) (aC (cInt .u64) (aC (cBool) (a0)))
noncomputable def rd32 : Rd (Int × Int) := r2 (cInt .u64) (cInt .u8)
noncomputable def fn_order_pick (N : Nat) (x0 : Int) (x1 : Int) (x2 : Bool) : Option (Int × Int) :=
  (fn_pat_IsNaN N x0).bind fun r1 =>
   cond r1
    ((fn_order_loud N x0 x1).bind fun r2 =>
     some (9221120237041090560, r2))
    ((fn_pat_IsNaN N x1).bind fun r3 =>
     cond r3
      ((fn_order_loud N x0 x1).bind fun r4 =>
       some (9221120237041090560, r4))
      ((fn_order_key N x0).bind fun r5 =>
       (fn_order_key N x1).bind fun r6 =>
        cond (eqB (leI r5 r6) x2)
         (some (x0, 0))
         (some (x1, 0))))
theorem run32 (N : Nat) (x0 : Int) (x1 : Int) (x2 : Bool) : Eng.run T32 (G32 N) N live32 c32 Try.f32.results.toList Try.f32.ntmps ((ad32).enc (x0, x1, x2, ())) (rd32).dec = fn_order_pick N x0 x1 x2 := by kernel_rfl
noncomputable def F32 (N : Nat) (a : Int × Int × Bool × Unit) : Option (Int × Int) := fn_order_pick N a.1 a.2.1 a.2.2.1
theorem ok32 (N : Nat) : FnOK Try.prog 32 ad32 rd32 (F32 N) :=
  fn_ok (N := N) (live := live32) (code := c32) (tok T32.rt T32.kl) mixed (gok32 N) Try.func32 (by kernel_rfl) (by kernel_rfl) (by kernel_rfl) fun a p h => by rw [← h]; exact run32 N a.1 a.2.1 a.2.2.1

/-! ### tiller/order.Min: function 15 -/
noncomputable def c15 : Code := (Try.f15.body).getD .skip
noncomputable def T15 : Tb := ⟨tyOf tys, [], []⟩
noncomputable def G15 {R : Type} (N : Nat) : FuncId → List AV → (AV → Option R) → Option R := gCons 32 (gOf ad32 rd32 (F32 N)) (gNil)
theorem gok15 {R : Type} (N : Nat) : GOK Try.prog (G15 (R := R) N) := gCons_ok (ok32 N) (gNil_ok)
noncomputable def live15 : List (Nat × List (Nat × HK)) := []
noncomputable def ad15 : Ad (Int × Int × Unit) := aC (cInt .u64) (aC (cInt .u64) (a0))
noncomputable def rd15 : Rd (Int × Int) := r2 (cInt .u64) (cInt .u8)
noncomputable def fn_order_Min (N : Nat) (x0 : Int) (x1 : Int) : Option (Int × Int) :=
  (fn_order_pick N x0 x1 true).bind fun r1 =>
   some (r1.1, r1.2)
theorem run15 (N : Nat) (x0 : Int) (x1 : Int) : Eng.run T15 (G15 N) N live15 c15 Try.f15.results.toList Try.f15.ntmps ((ad15).enc (x0, x1, ())) (rd15).dec = fn_order_Min N x0 x1 := by kernel_rfl
noncomputable def F15 (N : Nat) (a : Int × Int × Unit) : Option (Int × Int) := fn_order_Min N a.1 a.2.1
theorem ok15 (N : Nat) : FnOK Try.prog 15 ad15 rd15 (F15 N) :=
  fn_ok (N := N) (live := live15) (code := c15) (tok T15.rt T15.kl) mixed (gok15 N) Try.func15 (by kernel_rfl) (by kernel_rfl) (by kernel_rfl) fun a p h => by rw [← h]; exact run15 N a.1 a.2.1

/-! ### tiller/order.Compare: function 12 -/
noncomputable def c12 : Code := (Try.f12.body).getD .skip
noncomputable def T12 : Tb := ⟨tyOf tys, [], []⟩
noncomputable def G12 {R : Type} (N : Nat) : FuncId → List AV → (AV → Option R) → Option R := gCons 25 (gOf ad25 rd25 (F25 N)) (gCons 26 (gOf ad26 rd26 (F26 N)) (gCons 27 (gOf ad27 rd27 (F27 N)) (gCons 22 (gOf ad22 rd22 (F22 N)) (gNil))))
theorem gok12 {R : Type} (N : Nat) : GOK Try.prog (G12 (R := R) N) := gCons_ok (ok25 N) (gCons_ok (ok26 N) (gCons_ok (ok27 N) (gCons_ok (ok22 N) (gNil_ok))))
noncomputable def live12 : List (Nat × List (Nat × HK)) := []
noncomputable def ad12 : Ad (Int × Int × Unit) := aC (cInt .u64) (aC (cInt .u64) (a0))
noncomputable def rd12 : Rd (Int × Int) := r2 (cInt .i64) (cInt .u8)
noncomputable def fn_order_Compare (N : Nat) (x0 : Int) (x1 : Int) : Option (Int × Int) :=
  (fn_pat_IsNaN N x0).bind fun r1 =>
   cond r1
    ((fn_order_loud N x0 x1).bind fun r2 =>
     some (2, r2))
    ((fn_pat_IsNaN N x1).bind fun r3 =>
     cond r3
      ((fn_order_loud N x0 x1).bind fun r4 =>
       some (2, r4))
      ((fn_pat_Abs N x0).bind fun r5 =>
       (fn_pat_Abs N x1).bind fun r6 =>
        cond (eqI (orI .u64 r5 r6) 0)
         (some (0, 0))
         (cond (eqI x0 x1)
          (some (0, 0))
          ((fn_order_key N x0).bind fun r7 =>
           (fn_order_key N x1).bind fun r8 =>
            cond (ltI r7 r8)
             (some ((-1), 0))
             (some (1, 0))))))
theorem run12 (N : Nat) (x0 : Int) (x1 : Int) : Eng.run T12 (G12 N) N live12 c12 Try.f12.results.toList Try.f12.ntmps ((ad12).enc (x0, x1, ())) (rd12).dec = fn_order_Compare N x0 x1 := by kernel_rfl
noncomputable def F12 (N : Nat) (a : Int × Int × Unit) : Option (Int × Int) := fn_order_Compare N a.1 a.2.1
theorem ok12 (N : Nat) : FnOK Try.prog 12 ad12 rd12 (F12 N) :=
  fn_ok (N := N) (live := live12) (code := c12) (tok T12.rt T12.kl) mixed (gok12 N) Try.func12 (by kernel_rfl) (by kernel_rfl) (by kernel_rfl) fun a p h => by rw [← h]; exact run12 N a.1 a.2.1

/-! ### tiller/tillerlaw10.sure: function 11 -/
noncomputable def c11 : Code := (Try.f11.body).getD .skip
noncomputable def T11 : Tb := ⟨tyOf tys, [], []⟩
noncomputable def G11 {R : Type} (N : Nat) : FuncId → List AV → (AV → Option R) → Option R := gCons 15 (gOf ad15 rd15 (F15 N)) (gCons 12 (gOf ad12 rd12 (F12 N)) (gNil))
theorem gok11 {R : Type} (N : Nat) : GOK Try.prog (G11 (R := R) N) := gCons_ok (ok15 N) (gCons_ok (ok12 N) (gNil_ok))
noncomputable def live11 : List (Nat × List (Nat × HK)) := []
noncomputable def ad11 : Ad (Unit) := a0
noncomputable def rd11 : Rd (Bool) := r1 (cBool)
noncomputable def fn_tillerlaw10_sure (N : Nat)  : Option (Bool) :=
  (fn_order_Min N 0 9223372036854775808).bind fun r1 =>
   (fn_order_Compare N 0 9223372036854775808).bind fun r2 =>
    cond (eqI r1.1 9223372036854775808)
     (cond (eqI r1.2 0)
      (cond (eqI r2.1 0)
       (cond (eqI r2.2 0)
        (some true)
        (some false))
       (some false))
      (some false))
     (some false)
theorem run11 (N : Nat)  : Eng.run T11 (G11 N) N live11 c11 Try.f11.results.toList Try.f11.ntmps ((ad11).enc (())) (rd11).dec = fn_tillerlaw10_sure N  := by kernel_rfl
noncomputable def F11 (N : Nat) (a : Unit) : Option (Bool) := fn_tillerlaw10_sure N 
theorem ok11 (N : Nat) : FnOK Try.prog 11 ad11 rd11 (F11 N) :=
  fn_ok (N := N) (live := live11) (code := c11) (tok T11.rt T11.kl) mixed (gok11 N) Try.func11 (by kernel_rfl) (by kernel_rfl) (by kernel_rfl) fun a p h => by rw [← h]; exact run11 N 

/-! ### tiller/tillerref03.NaN: function 28 -/
noncomputable def c28 : Code := (Try.f28.body).getD .skip
noncomputable def T28 : Tb := ⟨tyOf tys, [], []⟩
noncomputable def G28 {R : Type} (N : Nat) : FuncId → List AV → (AV → Option R) → Option R := gCons 37 (gOf ad37 rd37 (F37 N)) (gNil)
theorem gok28 {R : Type} (N : Nat) : GOK Try.prog (G28 (R := R) N) := gCons_ok (ok37 N) (gNil_ok)
noncomputable def live28 : List (Nat × List (Nat × HK)) := []
noncomputable def ad28 : Ad (Int × Unit) := aC (cInt .u64) (a0)
noncomputable def rd28 : Rd (Bool) := r1 (cBool)
noncomputable def fn_tillerref03_NaN (N : Nat) (x0 : Int) : Option (Bool) :=
  (fn_tillerref03_Take N x0).bind fun r1 =>
   some (ltI 3 r1.2.1)
theorem run28 (N : Nat) (x0 : Int) : Eng.run T28 (G28 N) N live28 c28 Try.f28.results.toList Try.f28.ntmps ((ad28).enc (x0, ())) (rd28).dec = fn_tillerref03_NaN N x0 := by kernel_rfl
noncomputable def F28 (N : Nat) (a : Int × Unit) : Option (Bool) := fn_tillerref03_NaN N a.1
theorem ok28 (N : Nat) : FnOK Try.prog 28 ad28 rd28 (F28 N) :=
  fn_ok (N := N) (live := live28) (code := c28) (tok T28.rt T28.kl) mixed (gok28 N) Try.func28 (by kernel_rfl) (by kernel_rfl) (by kernel_rfl) fun a p h => by rw [← h]; exact run28 N a.1

/-! ### tiller/tillerref05.None: function 29 -/
noncomputable def c29 : Code := (Try.f29.body).getD .skip
noncomputable def T29 : Tb := ⟨tyOf tys, [], []⟩
noncomputable def G29 {R : Type} (N : Nat) : FuncId → List AV → (AV → Option R) → Option R := gCons 37 (gOf ad37 rd37 (F37 N)) (gNil)
theorem gok29 {R : Type} (N : Nat) : GOK Try.prog (G29 (R := R) N) := gCons_ok (ok37 N) (gNil_ok)
noncomputable def live29 : List (Nat × List (Nat × HK)) := []
noncomputable def ad29 : Ad (Int × Int × Unit) := aC (cInt .u64) (aC (cInt .u64) (a0))
noncomputable def rd29 : Rd (Int) := r1 (cInt .i64)
noncomputable def fn_tillerref05_None (N : Nat) (x0 : Int) (x1 : Int) : Option (Int) :=
  (fn_tillerref03_Take N x0).bind fun r1 =>
   cond (eqI r1.2.1 5)
    (some 1)
    ((fn_tillerref03_Take N x1).bind fun r2 =>
     cond (eqI r2.2.1 5)
      (some 1)
      (some 0))
theorem run29 (N : Nat) (x0 : Int) (x1 : Int) : Eng.run T29 (G29 N) N live29 c29 Try.f29.results.toList Try.f29.ntmps ((ad29).enc (x0, x1, ())) (rd29).dec = fn_tillerref05_None N x0 x1 := by kernel_rfl
noncomputable def F29 (N : Nat) (a : Int × Int × Unit) : Option (Int) := fn_tillerref05_None N a.1 a.2.1
theorem ok29 (N : Nat) : FnOK Try.prog 29 ad29 rd29 (F29 N) :=
  fn_ok (N := N) (live := live29) (code := c29) (tok T29.rt T29.kl) mixed (gok29 N) Try.func29 (by kernel_rfl) (by kernel_rfl) (by kernel_rfl) fun a p h => by rw [← h]; exact run29 N a.1 a.2.1

/-! ### tiller/tillerref03.Finite: function 30 -/
noncomputable def c30 : Code := (Try.f30.body).getD .skip
noncomputable def T30 : Tb := ⟨tyOf tys, [], []⟩
noncomputable def G30 {R : Type} (N : Nat) : FuncId → List AV → (AV → Option R) → Option R := gCons 37 (gOf ad37 rd37 (F37 N)) (gNil)
theorem gok30 {R : Type} (N : Nat) : GOK Try.prog (G30 (R := R) N) := gCons_ok (ok37 N) (gNil_ok)
noncomputable def live30 : List (Nat × List (Nat × HK)) := []
noncomputable def ad30 : Ad (Int × Unit) := aC (cInt .u64) (a0)
noncomputable def rd30 : Rd (Bool) := r1 (cBool)
noncomputable def fn_tillerref03_Finite (N : Nat) (x0 : Int) : Option (Bool) :=
  (fn_tillerref03_Take N x0).bind fun r1 =>
   some (ltI r1.2.1 3)
theorem run30 (N : Nat) (x0 : Int) : Eng.run T30 (G30 N) N live30 c30 Try.f30.results.toList Try.f30.ntmps ((ad30).enc (x0, ())) (rd30).dec = fn_tillerref03_Finite N x0 := by kernel_rfl
noncomputable def F30 (N : Nat) (a : Int × Unit) : Option (Bool) := fn_tillerref03_Finite N a.1
theorem ok30 (N : Nat) : FnOK Try.prog 30 ad30 rd30 (F30 N) :=
  fn_ok (N := N) (live := live30) (code := c30) (tok T30.rt T30.kl) mixed (gok30 N) Try.func30 (by kernel_rfl) (by kernel_rfl) (by kernel_rfl) fun a p h => by rw [← h]; exact run30 N a.1

/-! ### tiller/tillerref02.trim: function 44 -/
noncomputable def c44 : Code := (Try.f44.body).getD .skip
noncomputable def T44 : Tb := ⟨tyOf tys, [], []⟩
noncomputable def G44 {R : Type} (N : Nat) : FuncId → List AV → (AV → Option R) → Option R := gNil
theorem gok44 {R : Type} (N : Nat) : GOK Try.prog (G44 (R := R) N) := gNil_ok
noncomputable def live44 : List (Nat × List (Nat × HK)) := [(2, [(0, .keep), (3, .keep)])]
noncomputable def ad44 : Ad (List Int × Unit) := aC (cLi .u32) (a0)
noncomputable def rd44 : Rd (List Int) := r1 (cLi .u32)
noncomputable def st44_0 (v0 : List Int) (v1 : Int) : St := ⟨[AV.li .u32 v0, AV.none, AV.none, AV.v (.int .i64 v1), AV.none, AV.none, AV.none, AV.none, AV.none, AV.none, AV.none, AV.none, AV.none, AV.none, AV.none, AV.none, AV.none, AV.none, AV.none, AV.none, AV.none, AV.none], [none, none, none, none, none, none, none, none, none, none, none, none, none, none, none, none, none, none, none, none, none, none]⟩
noncomputable def raw44_0 (N : Nat) (n : Nat) (v0 : List Int) (v1 : Int) : Option (List Int) := loopN (lookN live44 2) (exec T44 (G44 N) N live44 (cL (cL (cL (cR (cR c44)))))) n (st44_0 v0 v1) (blockK 0 (seqK (exec T44 (G44 N) N live44 (cR (cR (cR c44)))) (retK T44 Try.f44.results.toList (rd44).dec)))
noncomputable def s44_0 (N : Nat) (Ln0 : List Int → Int → Option (List Int)) (v0 : List Int) (v1 : Int) : Option (List Int) :=
  cond (ltI 0 v1)
   (cond (leI 0 (subI .i64 v1 1))
    (cond (ltI (subI .i64 v1 1) (v0.length : Int))
     (cond (eqI (lrd v0 (subI .i64 v1 1)) 0)
      (Ln0 v0 (subI .i64 v1 1))
      (cond (((((leI 0 0) && (leI 0 v1)) && (leI v1 v1)) && (leI v1 (v0.length : Int))) && (true || false))
       (some ((v0.take v1.toNat).drop ((0 : Int).toNat)))
       (none)))
     (none))
    (none))
   (cond (((((leI 0 0) && (leI 0 v1)) && (leI v1 v1)) && (leI v1 (v0.length : Int))) && (true || false))
    (some ((v0.take v1.toNat).drop ((0 : Int).toNat)))
    (none))
theorem step44_0 (N : Nat) (n : Nat) (v0 : List Int) (v1 : Int) : raw44_0 N  (n + 1) v0 v1 = s44_0 N (raw44_0 N  n) v0 v1 := by kernel_rfl
noncomputable def l44_0 (N : Nat) : Nat → List Int → Int → Option (List Int)
  | 0 => fun _ _ => none
  | n + 1 => fun v0 v1 => s44_0 N (l44_0 N  n) v0 v1
theorem eq44_0 (N : Nat) : ∀ n, raw44_0 N  n = l44_0 N  n := by
  intro n
  induction n with
  | zero => exact funext fun v0 => funext fun v1 => rfl
  | succ n ih => exact funext fun v0 => funext fun v1 => by rw [step44_0, ih]; rfl
noncomputable def t44 (N : Nat) (Le0 : List Int → Int → Option (List Int)) (x0 : List Int) : Option (List Int) :=
  Le0 x0 (x0.length : Int)
noncomputable def fn_tillerref02_trim (N : Nat) (x0 : List Int) : Option (List Int) := t44 N (l44_0 N N) x0
theorem run44 (N : Nat) (x0 : List Int) : Eng.run T44 (G44 N) N live44 c44 Try.f44.results.toList Try.f44.ntmps ((ad44).enc (x0, ())) (rd44).dec = fn_tillerref02_trim N x0 := by
  refine Eq.trans (show _ = t44 N (raw44_0 N N) x0 from by kernel_rfl) ?_
  unfold fn_tillerref02_trim
  rw [eq44_0 N N]
noncomputable def F44 (N : Nat) (a : List Int × Unit) : Option (List Int) := fn_tillerref02_trim N a.1
theorem ok44 (N : Nat) : FnOK Try.prog 44 ad44 rd44 (F44 N) :=
  fn_ok (N := N) (live := live44) (code := c44) (tok T44.rt T44.kl) mixed (gok44 N) Try.func44 (by kernel_rfl) (by kernel_rfl) (by kernel_rfl) fun a p h => by rw [← h]; exact run44 N a.1

/-! ### tiller/tillerref02.Of: function 42 -/
noncomputable def c42 : Code := (Try.f42.body).getD .skip
noncomputable def T42 : Tb := ⟨tyOf tys, [], [18]⟩
noncomputable def G42 {R : Type} (N : Nat) : FuncId → List AV → (AV → Option R) → Option R := gCons 44 (gOf ad44 rd44 (F44 N)) (gNil)
theorem gok42 {R : Type} (N : Nat) : GOK Try.prog (G42 (R := R) N) := gCons_ok (ok44 N) (gNil_ok)
noncomputable def live42 : List (Nat × List (Nat × HK)) := []
noncomputable def ad42 : Ad (Int × Unit) := aC (cInt .u64) (a0)
noncomputable def rd42 : Rd (List Int) := r1 (cLi .u32)
noncomputable def fn_tillerref02_Of (N : Nat) (x0 : Int) : Option (List Int) :=
  (fn_tillerref02_trim N [cvI .u32 (remI .u64 x0 65536), cvI .u32 (remI .u64 (quoI .u64 x0 65536) 65536), cvI .u32 (remI .u64 (quoI .u64 x0 4294967296) 65536), cvI .u32 (quoI .u64 x0 281474976710656)]).bind fun r1 =>
   some r1
theorem run42 (N : Nat) (x0 : Int) : Eng.run T42 (G42 N) N live42 c42 Try.f42.results.toList Try.f42.ntmps ((ad42).enc (x0, ())) (rd42).dec = fn_tillerref02_Of N x0 := by kernel_rfl
noncomputable def F42 (N : Nat) (a : Int × Unit) : Option (List Int) := fn_tillerref02_Of N a.1
theorem ok42 (N : Nat) : FnOK Try.prog 42 ad42 rd42 (F42 N) :=
  fn_ok (N := N) (live := live42) (code := c42) (tok T42.rt T42.kl) mixed (gok42 N) Try.func42 (by kernel_rfl) (by kernel_rfl) (by kernel_rfl) fun a p h => by rw [← h]; exact run42 N a.1

/-! ### tiller/tillerref04.Pattern: function 38 -/
noncomputable def c38 : Code := (Try.f38.body).getD .skip
noncomputable def T38 : Tb := ⟨tyOf tys, [(6, 3), (8, 3), (10, 3)], []⟩
noncomputable def G38 {R : Type} (N : Nat) : FuncId → List AV → (AV → Option R) → Option R := gCons 37 (gOf ad37 rd37 (F37 N)) (gCons 42 (gOf ad42 rd42 (F42 N)) (gNil))
theorem gok38 {R : Type} (N : Nat) : GOK Try.prog (G38 (R := R) N) := gCons_ok (ok37 N) (gCons_ok (ok42 N) (gNil_ok))
noncomputable def live38 : List (Nat × List (Nat × HK)) := []
noncomputable def ad38 : Ad (Int × Unit) := aC (cInt .u64) (a0)
noncomputable def rd38 : Rd ((Bool × Int × List Int)) := r1 (cSt (fC (lBool) (fC (lInt .i64) (fO (lLi .u32)))))
noncomputable def fn_tillerref04_Pattern (N : Nat) (x0 : Int) : Option ((Bool × Int × List Int)) :=
  (fn_tillerref03_Take N x0).bind fun r1 =>
   (fn_tillerref02_Of N r1.2.2.2).bind fun r2 =>
    some (r1.1, r1.2.2.1, r2)
theorem run38 (N : Nat) (x0 : Int) : Eng.run T38 (G38 N) N live38 c38 Try.f38.results.toList Try.f38.ntmps ((ad38).enc (x0, ())) (rd38).dec = fn_tillerref04_Pattern N x0 := by kernel_rfl
noncomputable def F38 (N : Nat) (a : Int × Unit) : Option ((Bool × Int × List Int)) := fn_tillerref04_Pattern N a.1
theorem ok38 (N : Nat) : FnOK Try.prog 38 ad38 rd38 (F38 N) :=
  fn_ok (N := N) (live := live38) (code := c38) (tok T38.rt T38.kl) mixed (gok38 N) Try.func38 (by kernel_rfl) (by kernel_rfl) (by kernel_rfl) fun a p h => by rw [← h]; exact run38 N a.1

/-! ### tiller/tillerref02.Shl: function 40 -/
noncomputable def c40 : Code := (Try.f40.body).getD .skip
noncomputable def T40 : Tb := ⟨tyOf tys, [], [49]⟩
noncomputable def G40 {R : Type} (N : Nat) : FuncId → List AV → (AV → Option R) → Option R := gCons 44 (gOf ad44 rd44 (F44 N)) (gNil)
theorem gok40 {R : Type} (N : Nat) : GOK Try.prog (G40 (R := R) N) := gCons_ok (ok44 N) (gNil_ok)
noncomputable def live40 : List (Nat × List (Nat × HK)) := [(6, [(0, .keep), (1, .keep), (5, .row .u32 56), (6, .keep), (7, .keep)]), (11, [(0, .keep), (5, .row .u32 56), (6, .keep), (8, .keep), (9, .keep)])]
noncomputable def ad40 : Ad (List Int × Int × Unit) := aC (cLi .u32) (aC (cInt .i64) (a0))
noncomputable def rd40 : Rd (List Int) := r1 (cLi .u32)
noncomputable def st40_0 (v0 : List Int) (v1 : Int) (v2 : Int) (v3 : Int) (v4 : List Int) : St := ⟨[AV.li .u32 v0, AV.v (.int .i64 v1), AV.none, AV.none, AV.none, AV.own 5, AV.v (.int .u32 v2), AV.v (.int .i64 v3), AV.none, AV.none, AV.none, AV.none, AV.none, AV.none, AV.none, AV.none, AV.none, AV.none, AV.none, AV.none, AV.none, AV.none, AV.none, AV.none, AV.none, AV.none, AV.none, AV.none, AV.none, AV.none, AV.none, AV.none, AV.none, AV.none, AV.none, AV.none, AV.none, AV.none, AV.none, AV.none, AV.none, AV.none, AV.none, AV.none, AV.none, AV.none, AV.none, AV.none, AV.none, AV.none], [none, none, none, none, none, some (OB.row .u32 56 v4), none, none, none, none, none, none, none, none, none, none, none, none, none, none, none, none, none, none, none, none, none, none, none, none, none, none, none, none, none, none, none, none, none, none, none, none, none, none, none, none, none, none, none, none]⟩
noncomputable def raw40_0 (N : Nat) (n : Nat) (v0 : List Int) (v1 : Int) (v2 : Int) (v3 : Int) (v4 : List Int) : Option (List Int) := loopN (lookN live40 6) (exec T40 (G40 N) N live40 (cL (cL (cR (cL (cR (cR (cR (cR c40))))))))) n (st40_0 v0 v1 v2 v3 v4) (blockK 0 (seqK (exec T40 (G40 N) N live40 (cR (cR (cR (cR (cR c40)))))) (retK T40 Try.f40.results.toList (rd40).dec)))
noncomputable def st40_1 (v0 : List Int) (v1 : Int) (v2 : Int) (v3 : Int) (v4 : List Int) : St := ⟨[AV.li .u32 v0, AV.none, AV.none, AV.none, AV.none, AV.own 5, AV.v (.int .u32 v1), AV.none, AV.v (.int .u32 v2), AV.v (.int .i64 v3), AV.none, AV.none, AV.none, AV.none, AV.none, AV.none, AV.none, AV.none, AV.none, AV.none, AV.none, AV.none, AV.none, AV.none, AV.none, AV.none, AV.none, AV.none, AV.none, AV.none, AV.none, AV.none, AV.none, AV.none, AV.none, AV.none, AV.none, AV.none, AV.none, AV.none, AV.none, AV.none, AV.none, AV.none, AV.none, AV.none, AV.none, AV.none, AV.none, AV.none], [none, none, none, none, none, some (OB.row .u32 56 v4), none, none, none, none, none, none, none, none, none, none, none, none, none, none, none, none, none, none, none, none, none, none, none, none, none, none, none, none, none, none, none, none, none, none, none, none, none, none, none, none, none, none, none, none]⟩
noncomputable def raw40_1 (N : Nat) (n : Nat) (v0 : List Int) (v1 : Int) (v2 : Int) (v3 : Int) (v4 : List Int) : Option (List Int) := loopN (lookN live40 11) (exec T40 (G40 N) N live40 (cL (cL (cR (cL (cR (cR (cR (cR (cR (cR c40))))))))))) n (st40_1 v0 v1 v2 v3 v4) (blockK 2 (seqK (exec T40 (G40 N) N live40 (cR (cR (cR (cR (cR (cR (cR c40)))))))) (retK T40 Try.f40.results.toList (rd40).dec)))
noncomputable def s40_1 (N : Nat) (Ln1 : List Int → Int → Int → Int → List Int → Option (List Int)) (v0 : List Int) (v1 : Int) (v2 : Int) (v3 : Int) (v4 : List Int) : Option (List Int) :=
  cond (ltI v3 (v0.length : Int))
   (cond (leI 0 v3)
    (cond (ltI v3 (v0.length : Int))
     (cond (fitL (v4.length + [remI .u32 (addI .u32 v2 (mulI .u32 (lrd v0 v3) v1)) 65536].length))
      (Ln1 v0 v1 (quoI .u32 (addI .u32 v2 (mulI .u32 (lrd v0 v3) v1)) 65536) (addI .i64 v3 1) (v4 ++ [remI .u32 (addI .u32 v2 (mulI .u32 (lrd v0 v3) v1)) 65536]))
      (none))
     (none))
    (none))
   (cond (fitL (v4.length + [v2].length))
    ((fn_tillerref02_trim N (v4 ++ [v2])).bind fun r1 =>
     some r1)
    (none))
theorem step40_1 (N : Nat) (n : Nat) (v0 : List Int) (v1 : Int) (v2 : Int) (v3 : Int) (v4 : List Int) : raw40_1 N  (n + 1) v0 v1 v2 v3 v4 = s40_1 N (raw40_1 N  n) v0 v1 v2 v3 v4 := by kernel_rfl
noncomputable def l40_1 (N : Nat) : Nat → List Int → Int → Int → Int → List Int → Option (List Int)
  | 0 => fun _ _ _ _ _ => none
  | n + 1 => fun v0 v1 v2 v3 v4 => s40_1 N (l40_1 N  n) v0 v1 v2 v3 v4
theorem eq40_1 (N : Nat) : ∀ n, raw40_1 N  n = l40_1 N  n := by
  intro n
  induction n with
  | zero => exact funext fun v0 => funext fun v1 => funext fun v2 => funext fun v3 => funext fun v4 => rfl
  | succ n ih => exact funext fun v0 => funext fun v1 => funext fun v2 => funext fun v3 => funext fun v4 => by rw [step40_1, ih]; rfl
noncomputable def s40_0 (N : Nat) (Ln0 : List Int → Int → Int → Int → List Int → Option (List Int)) (Le1 : List Int → Int → Int → Int → List Int → Option (List Int)) (v0 : List Int) (v1 : Int) (v2 : Int) (v3 : Int) (v4 : List Int) : Option (List Int) :=
  cond (ltI v3 (remI .i64 v1 16))
   (Ln0 v0 v1 (mulI .u32 2 v2) (addI .i64 v3 1) v4)
   (Le1 v0 v2 0 0 v4)
theorem step40_0 (N : Nat) (n : Nat) (v0 : List Int) (v1 : Int) (v2 : Int) (v3 : Int) (v4 : List Int) : raw40_0 N  (n + 1) v0 v1 v2 v3 v4 = s40_0 N (raw40_0 N  n) (raw40_1 N  N) v0 v1 v2 v3 v4 := by kernel_rfl
noncomputable def l40_0 (N : Nat) : Nat → List Int → Int → Int → Int → List Int → Option (List Int)
  | 0 => fun _ _ _ _ _ => none
  | n + 1 => fun v0 v1 v2 v3 v4 => s40_0 N (l40_0 N  n) (l40_1 N  N) v0 v1 v2 v3 v4
theorem eq40_0 (N : Nat) : ∀ n, raw40_0 N  n = l40_0 N  n := by
  intro n
  induction n with
  | zero => exact funext fun v0 => funext fun v1 => funext fun v2 => funext fun v3 => funext fun v4 => rfl
  | succ n ih => exact funext fun v0 => funext fun v1 => funext fun v2 => funext fun v3 => funext fun v4 => by rw [step40_0, eq40_1 N  N, ih]; rfl
noncomputable def t40 (N : Nat) (Le0 : List Int → Int → Int → Int → List Int → Option (List Int)) (x0 : List Int) (x1 : Int) : Option (List Int) :=
  cond (eqI (x0.length : Int) 0)
   (some [])
   (cond (leI 0 (quoI .i64 x1 16))
    (cond (leI (quoI .i64 x1 16) 17592186044416)
     (Le0 x0 x1 1 0 (List.replicate ((quoI .i64 x1 16).toNat) 0))
     (none))
    (none))
noncomputable def fn_tillerref02_Shl (N : Nat) (x0 : List Int) (x1 : Int) : Option (List Int) := t40 N (l40_0 N N) x0 x1
theorem run40 (N : Nat) (x0 : List Int) (x1 : Int) : Eng.run T40 (G40 N) N live40 c40 Try.f40.results.toList Try.f40.ntmps ((ad40).enc (x0, x1, ())) (rd40).dec = fn_tillerref02_Shl N x0 x1 := by
  refine Eq.trans (show _ = t40 N (raw40_0 N N) x0 x1 from by kernel_rfl) ?_
  unfold fn_tillerref02_Shl
  rw [eq40_0 N N]
noncomputable def F40 (N : Nat) (a : List Int × Int × Unit) : Option (List Int) := fn_tillerref02_Shl N a.1 a.2.1
theorem ok40 (N : Nat) : FnOK Try.prog 40 ad40 rd40 (F40 N) :=
  fn_ok (N := N) (live := live40) (code := c40) (tok T40.rt T40.kl) mixed (gok40 N) Try.func40 (by kernel_rfl) (by kernel_rfl) (by kernel_rfl) fun a p h => by rw [← h]; exact run40 N a.1 a.2.1

/-! ### tiller/tillerref02.at: function 43 -/
noncomputable def c43 : Code := (Try.f43.body).getD .skip
noncomputable def T43 : Tb := ⟨tyOf tys, [], []⟩
noncomputable def G43 {R : Type} (N : Nat) : FuncId → List AV → (AV → Option R) → Option R := gNil
theorem gok43 {R : Type} (N : Nat) : GOK Try.prog (G43 (R := R) N) := gNil_ok
noncomputable def live43 : List (Nat × List (Nat × HK)) := []
noncomputable def ad43 : Ad (List Int × Int × Unit) := aC (cLi .u32) (aC (cInt .i64) (a0))
noncomputable def rd43 : Rd (Int) := r1 (cInt .u32)
noncomputable def fn_tillerref02_at (N : Nat) (x0 : List Int) (x1 : Int) : Option (Int) :=
  cond (leI 0 x1)
   (cond (ltI x1 (x0.length : Int))
    (cond (leI 0 x1)
     (cond (ltI x1 (x0.length : Int))
      (some (lrd x0 x1))
      (none))
     (none))
    (some 0))
   (some 0)
theorem run43 (N : Nat) (x0 : List Int) (x1 : Int) : Eng.run T43 (G43 N) N live43 c43 Try.f43.results.toList Try.f43.ntmps ((ad43).enc (x0, x1, ())) (rd43).dec = fn_tillerref02_at N x0 x1 := by kernel_rfl
noncomputable def F43 (N : Nat) (a : List Int × Int × Unit) : Option (Int) := fn_tillerref02_at N a.1 a.2.1
theorem ok43 (N : Nat) : FnOK Try.prog 43 ad43 rd43 (F43 N) :=
  fn_ok (N := N) (live := live43) (code := c43) (tok T43.rt T43.kl) mixed (gok43 N) Try.func43 (by kernel_rfl) (by kernel_rfl) (by kernel_rfl) fun a p h => by rw [← h]; exact run43 N a.1 a.2.1

/-! ### tiller/tillerref02.Cmp: function 39 -/
noncomputable def c39 : Code := (Try.f39.body).getD .skip
noncomputable def T39 : Tb := ⟨tyOf tys, [], []⟩
noncomputable def G39 {R : Type} (N : Nat) : FuncId → List AV → (AV → Option R) → Option R := gCons 43 (gOf ad43 rd43 (F43 N)) (gNil)
theorem gok39 {R : Type} (N : Nat) : GOK Try.prog (G39 (R := R) N) := gCons_ok (ok43 N) (gNil_ok)
noncomputable def live39 : List (Nat × List (Nat × HK)) := [(2, [(0, .keep), (1, .keep), (5, .keep)])]
noncomputable def ad39 : Ad (List Int × List Int × Unit) := aC (cLi .u32) (aC (cLi .u32) (a0))
noncomputable def rd39 : Rd (Int) := r1 (cInt .i64)
noncomputable def st39_0 (v0 : List Int) (v1 : List Int) (v2 : Int) : St := ⟨[AV.li .u32 v0, AV.li .u32 v1, AV.none, AV.none, AV.none, AV.v (.int .i64 v2), AV.none, AV.none, AV.none, AV.none, AV.none, AV.none, AV.none, AV.none, AV.none, AV.none, AV.none, AV.none, AV.none, AV.none, AV.none, AV.none, AV.none, AV.none, AV.none, AV.none, AV.none, AV.none, AV.none, AV.none], [none, none, none, none, none, none, none, none, none, none, none, none, none, none, none, none, none, none, none, none, none, none, none, none, none, none, none, none, none, none]⟩
noncomputable def raw39_0 (N : Nat) (n : Nat) (v0 : List Int) (v1 : List Int) (v2 : Int) : Option (Int) := loopN (lookN live39 2) (exec T39 (G39 N) N live39 (cL (cL (cR (cL (cR c39)))))) n (st39_0 v0 v1 v2) (blockK 0 (seqK (exec T39 (G39 N) N live39 (cR (cR c39))) (retK T39 Try.f39.results.toList (rd39).dec)))
noncomputable def s39_0 (N : Nat) (Ln0 : List Int → List Int → Int → Option (Int)) (v0 : List Int) (v1 : List Int) (v2 : Int) : Option (Int) :=
  cond (leI 0 v2)
   ((fn_tillerref02_at N v0 v2).bind fun r1 =>
    (fn_tillerref02_at N v1 v2).bind fun r2 =>
     cond (ltI r1 r2)
      (some (-1))
      ((fn_tillerref02_at N v0 v2).bind fun r3 =>
       (fn_tillerref02_at N v1 v2).bind fun r4 =>
        cond (ltI r4 r3)
         (some 1)
         (Ln0 v0 v1 (subI .i64 v2 1))))
   (some 0)
theorem step39_0 (N : Nat) (n : Nat) (v0 : List Int) (v1 : List Int) (v2 : Int) : raw39_0 N  (n + 1) v0 v1 v2 = s39_0 N (raw39_0 N  n) v0 v1 v2 := by kernel_rfl
noncomputable def l39_0 (N : Nat) : Nat → List Int → List Int → Int → Option (Int)
  | 0 => fun _ _ _ => none
  | n + 1 => fun v0 v1 v2 => s39_0 N (l39_0 N  n) v0 v1 v2
theorem eq39_0 (N : Nat) : ∀ n, raw39_0 N  n = l39_0 N  n := by
  intro n
  induction n with
  | zero => exact funext fun v0 => funext fun v1 => funext fun v2 => rfl
  | succ n ih => exact funext fun v0 => funext fun v1 => funext fun v2 => by rw [step39_0, ih]; rfl
noncomputable def t39 (N : Nat) (Le0 : List Int → List Int → Int → Option (Int)) (x0 : List Int) (x1 : List Int) : Option (Int) :=
  Le0 x0 x1 (subI .i64 (maxI (x0.length : Int) (x1.length : Int)) 1)
noncomputable def fn_tillerref02_Cmp (N : Nat) (x0 : List Int) (x1 : List Int) : Option (Int) := t39 N (l39_0 N N) x0 x1
theorem run39 (N : Nat) (x0 : List Int) (x1 : List Int) : Eng.run T39 (G39 N) N live39 c39 Try.f39.results.toList Try.f39.ntmps ((ad39).enc (x0, x1, ())) (rd39).dec = fn_tillerref02_Cmp N x0 x1 := by
  refine Eq.trans (show _ = t39 N (raw39_0 N N) x0 x1 from by kernel_rfl) ?_
  unfold fn_tillerref02_Cmp
  rw [eq39_0 N N]
noncomputable def F39 (N : Nat) (a : List Int × List Int × Unit) : Option (Int) := fn_tillerref02_Cmp N a.1 a.2.1
theorem ok39 (N : Nat) : FnOK Try.prog 39 ad39 rd39 (F39 N) :=
  fn_ok (N := N) (live := live39) (code := c39) (tok T39.rt T39.kl) mixed (gok39 N) Try.func39 (by kernel_rfl) (by kernel_rfl) (by kernel_rfl) fun a p h => by rw [← h]; exact run39 N a.1 a.2.1

/-! ### tiller/tillerref10.value: function 31 -/
noncomputable def c31 : Code := (Try.f31.body).getD .skip
noncomputable def T31 : Tb := ⟨tyOf tys, [(15, 5), (17, 6), (20, 5), (22, 5), (27, 6), (29, 6), (35, 5), (40, 5), (43, 6), (48, 6)], []⟩
noncomputable def G31 {R : Type} (N : Nat) : FuncId → List AV → (AV → Option R) → Option R := gCons 38 (gOf ad38 rd38 (F38 N)) (gCons 40 (gOf ad40 rd40 (F40 N)) (gCons 39 (gOf ad39 rd39 (F39 N)) (gNil)))
theorem gok31 {R : Type} (N : Nat) : GOK Try.prog (G31 (R := R) N) := gCons_ok (ok38 N) (gCons_ok (ok40 N) (gCons_ok (ok39 N) (gNil_ok)))
noncomputable def live31 : List (Nat × List (Nat × HK)) := []
noncomputable def ad31 : Ad (Int × Int × Unit) := aC (cInt .u64) (aC (cInt .u64) (a0))
noncomputable def rd31 : Rd (Int) := r1 (cInt .i64)
noncomputable def fn_tillerref10_value (N : Nat) (x0 : Int) (x1 : Int) : Option (Int) :=
  (fn_tillerref04_Pattern N x0).bind fun r1 =>
   (fn_tillerref04_Pattern N x1).bind fun r2 =>
    (fn_tillerref02_Shl N r1.2.2 (subI .i64 r1.2.1 (minI r1.2.1 r2.2.1))).bind fun r3 =>
     (fn_tillerref02_Shl N r2.2.2 (subI .i64 r2.2.1 (minI r1.2.1 r2.2.1))).bind fun r4 =>
      (fn_tillerref02_Cmp N r3 r4).bind fun r5 =>
       cond (ltI 0 (r1.2.2.length : Int))
        (cond (ltI 0 (r2.2.2.length : Int))
         (cond r1.1
          (cond r2.1
           (some (subI .i64 0 r5))
           (cond r1.1
            (some (-1))
            (cond r2.1
             (some 1)
             (some r5))))
          (cond r1.1
           (some (-1))
           (cond r2.1
            (some 1)
            (some r5))))
         (cond r1.1
          (cond r1.1
           (some (-1))
           (some r5))
          (cond r1.1
           (some (-1))
           (some r5))))
        (cond (ltI 0 (r2.2.2.length : Int))
         (cond r2.1
          (some 1)
          (some r5))
         (some r5))
theorem run31 (N : Nat) (x0 : Int) (x1 : Int) : Eng.run T31 (G31 N) N live31 c31 Try.f31.results.toList Try.f31.ntmps ((ad31).enc (x0, x1, ())) (rd31).dec = fn_tillerref10_value N x0 x1 := by kernel_rfl
noncomputable def F31 (N : Nat) (a : Int × Int × Unit) : Option (Int) := fn_tillerref10_value N a.1 a.2.1
theorem ok31 (N : Nat) : FnOK Try.prog 31 ad31 rd31 (F31 N) :=
  fn_ok (N := N) (live := live31) (code := c31) (tok T31.rt T31.kl) mixed (gok31 N) Try.func31 (by kernel_rfl) (by kernel_rfl) (by kernel_rfl) fun a p h => by rw [← h]; exact run31 N a.1 a.2.1

/-! ### tiller/tillerref10.Compare: function 13 -/
noncomputable def c13 : Code := (Try.f13.body).getD .skip
noncomputable def T13 : Tb := ⟨tyOf tys, [], []⟩
noncomputable def G13 {R : Type} (N : Nat) : FuncId → List AV → (AV → Option R) → Option R := gCons 28 (gOf ad28 rd28 (F28 N)) (gCons 29 (gOf ad29 rd29 (F29 N)) (gCons 30 (gOf ad30 rd30 (F30 N)) (gCons 31 (gOf ad31 rd31 (F31 N)) (gNil))))
theorem gok13 {R : Type} (N : Nat) : GOK Try.prog (G13 (R := R) N) := gCons_ok (ok28 N) (gCons_ok (ok29 N) (gCons_ok (ok30 N) (gCons_ok (ok31 N) (gNil_ok))))
noncomputable def live13 : List (Nat × List (Nat × HK)) := []
noncomputable def ad13 : Ad (Int × Int × Unit) := aC (cInt .u64) (aC (cInt .u64) (a0))
noncomputable def rd13 : Rd (Int × Int) := r2 (cInt .i64) (cInt .i64)
noncomputable def fn_tillerref10_Compare (N : Nat) (x0 : Int) (x1 : Int) : Option (Int × Int) :=
  (fn_tillerref03_NaN N x0).bind fun r1 =>
   cond r1
    ((fn_tillerref05_None N x0 x1).bind fun r2 =>
     some (2, r2))
    ((fn_tillerref03_NaN N x1).bind fun r3 =>
     cond r3
      ((fn_tillerref05_None N x0 x1).bind fun r4 =>
       some (2, r4))
      ((fn_tillerref03_Finite N x0).bind fun r5 =>
       cond r5
        ((fn_tillerref03_Finite N x1).bind fun r6 =>
         cond r6
          ((fn_tillerref10_value N x0 x1).bind fun r7 =>
           some (r7, 0))
          (cond (eqI x0 x1)
           (some (0, 0))
           (cond (eqI x0 9218868437227405312)
            (some (1, 0))
            (cond (eqI x1 18442240474082181120)
             (some (1, 0))
             (some ((-1), 0))))))
        (cond (eqI x0 x1)
         (some (0, 0))
         (cond (eqI x0 9218868437227405312)
          (some (1, 0))
          (cond (eqI x1 18442240474082181120)
           (some (1, 0))
           (some ((-1), 0)))))))
theorem run13 (N : Nat) (x0 : Int) (x1 : Int) : Eng.run T13 (G13 N) N live13 c13 Try.f13.results.toList Try.f13.ntmps ((ad13).enc (x0, x1, ())) (rd13).dec = fn_tillerref10_Compare N x0 x1 := by kernel_rfl
noncomputable def F13 (N : Nat) (a : Int × Int × Unit) : Option (Int × Int) := fn_tillerref10_Compare N a.1 a.2.1
theorem ok13 (N : Nat) : FnOK Try.prog 13 ad13 rd13 (F13 N) :=
  fn_ok (N := N) (live := live13) (code := c13) (tok T13.rt T13.kl) mixed (gok13 N) Try.func13 (by kernel_rfl) (by kernel_rfl) (by kernel_rfl) fun a p h => by rw [← h]; exact run13 N a.1 a.2.1

/-! ### tiller/order.Signal: function 14 -/
noncomputable def c14 : Code := (Try.f14.body).getD .skip
noncomputable def T14 : Tb := ⟨tyOf tys, [], []⟩
noncomputable def G14 {R : Type} (N : Nat) : FuncId → List AV → (AV → Option R) → Option R := gCons 12 (gOf ad12 rd12 (F12 N)) (gNil)
theorem gok14 {R : Type} (N : Nat) : GOK Try.prog (G14 (R := R) N) := gCons_ok (ok12 N) (gNil_ok)
noncomputable def live14 : List (Nat × List (Nat × HK)) := []
noncomputable def ad14 : Ad (Int × Int × Unit) := aC (cInt .u64) (aC (cInt .u64) (a0))
noncomputable def rd14 : Rd (Int × Int) := r2 (cInt .i64) (cInt .u8)
noncomputable def fn_order_Signal (N : Nat) (x0 : Int) (x1 : Int) : Option (Int × Int) :=
  (fn_order_Compare N x0 x1).bind fun r1 =>
   cond (eqI r1.1 2)
    (some (r1.1, 1))
    (some (r1.1, r1.2))
theorem run14 (N : Nat) (x0 : Int) (x1 : Int) : Eng.run T14 (G14 N) N live14 c14 Try.f14.results.toList Try.f14.ntmps ((ad14).enc (x0, x1, ())) (rd14).dec = fn_order_Signal N x0 x1 := by kernel_rfl
noncomputable def F14 (N : Nat) (a : Int × Int × Unit) : Option (Int × Int) := fn_order_Signal N a.1 a.2.1
theorem ok14 (N : Nat) : FnOK Try.prog 14 ad14 rd14 (F14 N) :=
  fn_ok (N := N) (live := live14) (code := c14) (tok T14.rt T14.kl) mixed (gok14 N) Try.func14 (by kernel_rfl) (by kernel_rfl) (by kernel_rfl) fun a p h => by rw [← h]; exact run14 N a.1 a.2.1

/-! ### tiller/tillerref10.Pick: function 16 -/
noncomputable def c16 : Code := (Try.f16.body).getD .skip
noncomputable def T16 : Tb := ⟨tyOf tys, [], []⟩
noncomputable def G16 {R : Type} (N : Nat) : FuncId → List AV → (AV → Option R) → Option R := gCons 28 (gOf ad28 rd28 (F28 N)) (gCons 29 (gOf ad29 rd29 (F29 N)) (gCons 13 (gOf ad13 rd13 (F13 N)) (gCons 24 (gOf ad24 rd24 (F24 N)) (gNil))))
theorem gok16 {R : Type} (N : Nat) : GOK Try.prog (G16 (R := R) N) := gCons_ok (ok28 N) (gCons_ok (ok29 N) (gCons_ok (ok13 N) (gCons_ok (ok24 N) (gNil_ok))))
noncomputable def live16 : List (Nat × List (Nat × HK)) := []
noncomputable def ad16 : Ad (Int × Int × Bool × Bool × Bool × Unit) := aC (cInt .u64) (aC (cInt .u64) (aC (cBool) (aC (cBool) (aC (cBool) (a0)))))
noncomputable def rd16 : Rd (Int × Int) := r2 (cInt .u64) (cInt .i64)
noncomputable def fn_tillerref10_Pick (N : Nat) (x0 : Int) (x1 : Int) (x2 : Bool) (x3 : Bool) (x4 : Bool) : Option (Int × Int) :=
  cond x4
   ((fn_tillerref03_NaN N x0).bind fun r1 =>
    (fn_tillerref03_NaN N x1).bind fun r2 =>
     cond (!(eqB r1 r2))
      ((fn_tillerref03_NaN N x0).bind fun r3 =>
       cond r3
        ((fn_tillerref05_None N x0 x1).bind fun r4 =>
         some (x1, r4))
        ((fn_tillerref05_None N x0 x1).bind fun r5 =>
         some (x0, r5)))
      ((fn_tillerref03_NaN N x0).bind fun r6 =>
       cond r6
        ((fn_tillerref05_None N x0 x1).bind fun r7 =>
         some (9221120237041090560, r7))
        ((fn_tillerref03_NaN N x1).bind fun r8 =>
         cond r8
          ((fn_tillerref05_None N x0 x1).bind fun r9 =>
           some (9221120237041090560, r9))
          ((fn_tillerref10_Compare N x0 x1).bind fun r10 =>
           cond x3
            ((fn_tillerref03_Abs N x0).bind fun r11 =>
             (fn_tillerref03_Abs N x1).bind fun r12 =>
              (fn_tillerref10_Compare N r11 r12).bind fun r13 =>
               cond (!(eqI r13.1 0))
                (cond (eqI r13.1 0)
                 (cond (leI 9223372036854775808 x0)
                  (cond (ltI x1 9223372036854775808)
                   (cond (eqB (ltI (-1) 0) x2)
                    (some (x0, 0))
                    (some (x1, 0)))
                   (cond (eqI r13.1 0)
                    (cond (ltI x0 9223372036854775808)
                     (cond (leI 9223372036854775808 x1)
                      (cond (eqB (ltI 1 0) x2)
                       (some (x0, 0))
                       (some (x1, 0)))
                      (cond (eqB (ltI r13.1 0) x2)
                       (some (x0, 0))
                       (some (x1, 0))))
                     (cond (eqB (ltI r13.1 0) x2)
                      (some (x0, 0))
                      (some (x1, 0))))
                    (cond (eqB (ltI r13.1 0) x2)
                     (some (x0, 0))
                     (some (x1, 0)))))
                  (cond (eqI r13.1 0)
                   (cond (ltI x0 9223372036854775808)
                    (cond (leI 9223372036854775808 x1)
                     (cond (eqB (ltI 1 0) x2)
                      (some (x0, 0))
                      (some (x1, 0)))
                     (cond (eqB (ltI r13.1 0) x2)
                      (some (x0, 0))
                      (some (x1, 0))))
                    (cond (eqB (ltI r13.1 0) x2)
                     (some (x0, 0))
                     (some (x1, 0))))
                   (cond (eqB (ltI r13.1 0) x2)
                    (some (x0, 0))
                    (some (x1, 0)))))
                 (cond (eqI r13.1 0)
                  (cond (ltI x0 9223372036854775808)
                   (cond (leI 9223372036854775808 x1)
                    (cond (eqB (ltI 1 0) x2)
                     (some (x0, 0))
                     (some (x1, 0)))
                    (cond (eqB (ltI r13.1 0) x2)
                     (some (x0, 0))
                     (some (x1, 0))))
                   (cond (eqB (ltI r13.1 0) x2)
                    (some (x0, 0))
                    (some (x1, 0))))
                  (cond (eqB (ltI r13.1 0) x2)
                   (some (x0, 0))
                   (some (x1, 0)))))
                (cond (eqI r10.1 0)
                 (cond (leI 9223372036854775808 x0)
                  (cond (ltI x1 9223372036854775808)
                   (cond (eqB (ltI (-1) 0) x2)
                    (some (x0, 0))
                    (some (x1, 0)))
                   (cond (eqI r10.1 0)
                    (cond (ltI x0 9223372036854775808)
                     (cond (leI 9223372036854775808 x1)
                      (cond (eqB (ltI 1 0) x2)
                       (some (x0, 0))
                       (some (x1, 0)))
                      (cond (eqB (ltI r10.1 0) x2)
                       (some (x0, 0))
                       (some (x1, 0))))
                     (cond (eqB (ltI r10.1 0) x2)
                      (some (x0, 0))
                      (some (x1, 0))))
                    (cond (eqB (ltI r10.1 0) x2)
                     (some (x0, 0))
                     (some (x1, 0)))))
                  (cond (eqI r10.1 0)
                   (cond (ltI x0 9223372036854775808)
                    (cond (leI 9223372036854775808 x1)
                     (cond (eqB (ltI 1 0) x2)
                      (some (x0, 0))
                      (some (x1, 0)))
                     (cond (eqB (ltI r10.1 0) x2)
                      (some (x0, 0))
                      (some (x1, 0))))
                    (cond (eqB (ltI r10.1 0) x2)
                     (some (x0, 0))
                     (some (x1, 0))))
                   (cond (eqB (ltI r10.1 0) x2)
                    (some (x0, 0))
                    (some (x1, 0)))))
                 (cond (eqI r10.1 0)
                  (cond (ltI x0 9223372036854775808)
                   (cond (leI 9223372036854775808 x1)
                    (cond (eqB (ltI 1 0) x2)
                     (some (x0, 0))
                     (some (x1, 0)))
                    (cond (eqB (ltI r10.1 0) x2)
                     (some (x0, 0))
                     (some (x1, 0))))
                   (cond (eqB (ltI r10.1 0) x2)
                    (some (x0, 0))
                    (some (x1, 0))))
                  (cond (eqB (ltI r10.1 0) x2)
                   (some (x0, 0))
                   (some (x1, 0))))))
            (cond (eqI r10.1 0)
             (cond (leI 9223372036854775808 x0)
              (cond (ltI x1 9223372036854775808)
               (cond (eqB (ltI (-1) 0) x2)
                (some (x0, 0))
                (some (x1, 0)))
               (cond (eqI r10.1 0)
                (cond (ltI x0 9223372036854775808)
                 (cond (leI 9223372036854775808 x1)
                  (cond (eqB (ltI 1 0) x2)
                   (some (x0, 0))
                   (some (x1, 0)))
                  (cond (eqB (ltI r10.1 0) x2)
                   (some (x0, 0))
                   (some (x1, 0))))
                 (cond (eqB (ltI r10.1 0) x2)
                  (some (x0, 0))
                  (some (x1, 0))))
                (cond (eqB (ltI r10.1 0) x2)
                 (some (x0, 0))
                 (some (x1, 0)))))
              (cond (eqI r10.1 0)
               (cond (ltI x0 9223372036854775808)
                (cond (leI 9223372036854775808 x1)
                 (cond (eqB (ltI 1 0) x2)
                  (some (x0, 0))
                  (some (x1, 0)))
                 (cond (eqB (ltI r10.1 0) x2)
                  (some (x0, 0))
                  (some (x1, 0))))
                (cond (eqB (ltI r10.1 0) x2)
                 (some (x0, 0))
                 (some (x1, 0))))
               (cond (eqB (ltI r10.1 0) x2)
                (some (x0, 0))
                (some (x1, 0)))))
             (cond (eqI r10.1 0)
              (cond (ltI x0 9223372036854775808)
               (cond (leI 9223372036854775808 x1)
                (cond (eqB (ltI 1 0) x2)
                 (some (x0, 0))
                 (some (x1, 0)))
                (cond (eqB (ltI r10.1 0) x2)
                 (some (x0, 0))
                 (some (x1, 0))))
               (cond (eqB (ltI r10.1 0) x2)
                (some (x0, 0))
                (some (x1, 0))))
              (cond (eqB (ltI r10.1 0) x2)
               (some (x0, 0))
               (some (x1, 0)))))))))
   ((fn_tillerref03_NaN N x0).bind fun r14 =>
    cond r14
     ((fn_tillerref05_None N x0 x1).bind fun r15 =>
      some (9221120237041090560, r15))
     ((fn_tillerref03_NaN N x1).bind fun r16 =>
      cond r16
       ((fn_tillerref05_None N x0 x1).bind fun r17 =>
        some (9221120237041090560, r17))
       ((fn_tillerref10_Compare N x0 x1).bind fun r18 =>
        cond x3
         ((fn_tillerref03_Abs N x0).bind fun r19 =>
          (fn_tillerref03_Abs N x1).bind fun r20 =>
           (fn_tillerref10_Compare N r19 r20).bind fun r21 =>
            cond (!(eqI r21.1 0))
             (cond (eqI r21.1 0)
              (cond (leI 9223372036854775808 x0)
               (cond (ltI x1 9223372036854775808)
                (cond (eqB (ltI (-1) 0) x2)
                 (some (x0, 0))
                 (some (x1, 0)))
                (cond (eqI r21.1 0)
                 (cond (ltI x0 9223372036854775808)
                  (cond (leI 9223372036854775808 x1)
                   (cond (eqB (ltI 1 0) x2)
                    (some (x0, 0))
                    (some (x1, 0)))
                   (cond (eqB (ltI r21.1 0) x2)
                    (some (x0, 0))
                    (some (x1, 0))))
                  (cond (eqB (ltI r21.1 0) x2)
                   (some (x0, 0))
                   (some (x1, 0))))
                 (cond (eqB (ltI r21.1 0) x2)
                  (some (x0, 0))
                  (some (x1, 0)))))
               (cond (eqI r21.1 0)
                (cond (ltI x0 9223372036854775808)
                 (cond (leI 9223372036854775808 x1)
                  (cond (eqB (ltI 1 0) x2)
                   (some (x0, 0))
                   (some (x1, 0)))
                  (cond (eqB (ltI r21.1 0) x2)
                   (some (x0, 0))
                   (some (x1, 0))))
                 (cond (eqB (ltI r21.1 0) x2)
                  (some (x0, 0))
                  (some (x1, 0))))
                (cond (eqB (ltI r21.1 0) x2)
                 (some (x0, 0))
                 (some (x1, 0)))))
              (cond (eqI r21.1 0)
               (cond (ltI x0 9223372036854775808)
                (cond (leI 9223372036854775808 x1)
                 (cond (eqB (ltI 1 0) x2)
                  (some (x0, 0))
                  (some (x1, 0)))
                 (cond (eqB (ltI r21.1 0) x2)
                  (some (x0, 0))
                  (some (x1, 0))))
                (cond (eqB (ltI r21.1 0) x2)
                 (some (x0, 0))
                 (some (x1, 0))))
               (cond (eqB (ltI r21.1 0) x2)
                (some (x0, 0))
                (some (x1, 0)))))
             (cond (eqI r18.1 0)
              (cond (leI 9223372036854775808 x0)
               (cond (ltI x1 9223372036854775808)
                (cond (eqB (ltI (-1) 0) x2)
                 (some (x0, 0))
                 (some (x1, 0)))
                (cond (eqI r18.1 0)
                 (cond (ltI x0 9223372036854775808)
                  (cond (leI 9223372036854775808 x1)
                   (cond (eqB (ltI 1 0) x2)
                    (some (x0, 0))
                    (some (x1, 0)))
                   (cond (eqB (ltI r18.1 0) x2)
                    (some (x0, 0))
                    (some (x1, 0))))
                  (cond (eqB (ltI r18.1 0) x2)
                   (some (x0, 0))
                   (some (x1, 0))))
                 (cond (eqB (ltI r18.1 0) x2)
                  (some (x0, 0))
                  (some (x1, 0)))))
               (cond (eqI r18.1 0)
                (cond (ltI x0 9223372036854775808)
                 (cond (leI 9223372036854775808 x1)
                  (cond (eqB (ltI 1 0) x2)
                   (some (x0, 0))
                   (some (x1, 0)))
                  (cond (eqB (ltI r18.1 0) x2)
                   (some (x0, 0))
                   (some (x1, 0))))
                 (cond (eqB (ltI r18.1 0) x2)
                  (some (x0, 0))
                  (some (x1, 0))))
                (cond (eqB (ltI r18.1 0) x2)
                 (some (x0, 0))
                 (some (x1, 0)))))
              (cond (eqI r18.1 0)
               (cond (ltI x0 9223372036854775808)
                (cond (leI 9223372036854775808 x1)
                 (cond (eqB (ltI 1 0) x2)
                  (some (x0, 0))
                  (some (x1, 0)))
                 (cond (eqB (ltI r18.1 0) x2)
                  (some (x0, 0))
                  (some (x1, 0))))
                (cond (eqB (ltI r18.1 0) x2)
                 (some (x0, 0))
                 (some (x1, 0))))
               (cond (eqB (ltI r18.1 0) x2)
                (some (x0, 0))
                (some (x1, 0))))))
         (cond (eqI r18.1 0)
          (cond (leI 9223372036854775808 x0)
           (cond (ltI x1 9223372036854775808)
            (cond (eqB (ltI (-1) 0) x2)
             (some (x0, 0))
             (some (x1, 0)))
            (cond (eqI r18.1 0)
             (cond (ltI x0 9223372036854775808)
              (cond (leI 9223372036854775808 x1)
               (cond (eqB (ltI 1 0) x2)
                (some (x0, 0))
                (some (x1, 0)))
               (cond (eqB (ltI r18.1 0) x2)
                (some (x0, 0))
                (some (x1, 0))))
              (cond (eqB (ltI r18.1 0) x2)
               (some (x0, 0))
               (some (x1, 0))))
             (cond (eqB (ltI r18.1 0) x2)
              (some (x0, 0))
              (some (x1, 0)))))
           (cond (eqI r18.1 0)
            (cond (ltI x0 9223372036854775808)
             (cond (leI 9223372036854775808 x1)
              (cond (eqB (ltI 1 0) x2)
               (some (x0, 0))
               (some (x1, 0)))
              (cond (eqB (ltI r18.1 0) x2)
               (some (x0, 0))
               (some (x1, 0))))
             (cond (eqB (ltI r18.1 0) x2)
              (some (x0, 0))
              (some (x1, 0))))
            (cond (eqB (ltI r18.1 0) x2)
             (some (x0, 0))
             (some (x1, 0)))))
          (cond (eqI r18.1 0)
           (cond (ltI x0 9223372036854775808)
            (cond (leI 9223372036854775808 x1)
             (cond (eqB (ltI 1 0) x2)
              (some (x0, 0))
              (some (x1, 0)))
             (cond (eqB (ltI r18.1 0) x2)
              (some (x0, 0))
              (some (x1, 0))))
            (cond (eqB (ltI r18.1 0) x2)
             (some (x0, 0))
             (some (x1, 0))))
           (cond (eqB (ltI r18.1 0) x2)
            (some (x0, 0))
            (some (x1, 0))))))))
theorem run16 (N : Nat) (x0 : Int) (x1 : Int) (x2 : Bool) (x3 : Bool) (x4 : Bool) : Eng.run T16 (G16 N) N live16 c16 Try.f16.results.toList Try.f16.ntmps ((ad16).enc (x0, x1, x2, x3, x4, ())) (rd16).dec = fn_tillerref10_Pick N x0 x1 x2 x3 x4 := by kernel_rfl
noncomputable def F16 (N : Nat) (a : Int × Int × Bool × Bool × Bool × Unit) : Option (Int × Int) := fn_tillerref10_Pick N a.1 a.2.1 a.2.2.1 a.2.2.2.1 a.2.2.2.2.1
theorem ok16 (N : Nat) : FnOK Try.prog 16 ad16 rd16 (F16 N) :=
  fn_ok (N := N) (live := live16) (code := c16) (tok T16.rt T16.kl) mixed (gok16 N) Try.func16 (by kernel_rfl) (by kernel_rfl) (by kernel_rfl) fun a p h => by rw [← h]; exact run16 N a.1 a.2.1 a.2.2.1 a.2.2.2.1 a.2.2.2.2.1

/-! ### tiller/order.Max: function 17 -/
noncomputable def c17 : Code := (Try.f17.body).getD .skip
noncomputable def T17 : Tb := ⟨tyOf tys, [], []⟩
noncomputable def G17 {R : Type} (N : Nat) : FuncId → List AV → (AV → Option R) → Option R := gCons 32 (gOf ad32 rd32 (F32 N)) (gNil)
theorem gok17 {R : Type} (N : Nat) : GOK Try.prog (G17 (R := R) N) := gCons_ok (ok32 N) (gNil_ok)
noncomputable def live17 : List (Nat × List (Nat × HK)) := []
noncomputable def ad17 : Ad (Int × Int × Unit) := aC (cInt .u64) (aC (cInt .u64) (a0))
noncomputable def rd17 : Rd (Int × Int) := r2 (cInt .u64) (cInt .u8)
noncomputable def fn_order_Max (N : Nat) (x0 : Int) (x1 : Int) : Option (Int × Int) :=
  (fn_order_pick N x0 x1 false).bind fun r1 =>
   some (r1.1, r1.2)
theorem run17 (N : Nat) (x0 : Int) (x1 : Int) : Eng.run T17 (G17 N) N live17 c17 Try.f17.results.toList Try.f17.ntmps ((ad17).enc (x0, x1, ())) (rd17).dec = fn_order_Max N x0 x1 := by kernel_rfl
noncomputable def F17 (N : Nat) (a : Int × Int × Unit) : Option (Int × Int) := fn_order_Max N a.1 a.2.1
theorem ok17 (N : Nat) : FnOK Try.prog 17 ad17 rd17 (F17 N) :=
  fn_ok (N := N) (live := live17) (code := c17) (tok T17.rt T17.kl) mixed (gok17 N) Try.func17 (by kernel_rfl) (by kernel_rfl) (by kernel_rfl) fun a p h => by rw [← h]; exact run17 N a.1 a.2.1

/-! ### tiller/order.number: function 33 -/
noncomputable def c33 : Code := (Try.f33.body).getD .skip
noncomputable def T33 : Tb := ⟨tyOf tys, [], []⟩
noncomputable def G33 {R : Type} (N : Nat) : FuncId → List AV → (AV → Option R) → Option R := gCons 25 (gOf ad25 rd25 (F25 N)) (gCons 32 (gOf ad32 rd32 (F32 N)) (gCons 26 (gOf ad26 rd26 (F26 N)) (gNil)))
theorem gok33 {R : Type} (N : Nat) : GOK Try.prog (G33 (R := R) N) := gCons_ok (ok25 N) (gCons_ok (ok32 N) (gCons_ok (ok26 N) (gNil_ok)))
noncomputable def live33 : List (Nat × List (Nat × HK)) := []
noncomputable def ad33 : Ad (Int × Int × Bool × Unit) := aC (cInt .u64) (aC (cInt .u64) (aC (cBool) (a0)))
noncomputable def rd33 : Rd (Int × Int) := r2 (cInt .u64) (cInt .u8)
noncomputable def fn_order_number (N : Nat) (x0 : Int) (x1 : Int) (x2 : Bool) : Option (Int × Int) :=
  (fn_pat_IsNaN N x0).bind fun r1 =>
   (fn_pat_IsNaN N x1).bind fun r2 =>
    cond (eqB r1 r2)
     ((fn_order_pick N x0 x1 x2).bind fun r3 =>
      some (r3.1, r3.2))
     ((fn_pat_IsNaN N x0).bind fun r4 =>
      cond r4
       ((fn_order_loud N x0 x1).bind fun r5 =>
        some (x1, r5))
       ((fn_order_loud N x0 x1).bind fun r6 =>
        some (x0, r6)))
theorem run33 (N : Nat) (x0 : Int) (x1 : Int) (x2 : Bool) : Eng.run T33 (G33 N) N live33 c33 Try.f33.results.toList Try.f33.ntmps ((ad33).enc (x0, x1, x2, ())) (rd33).dec = fn_order_number N x0 x1 x2 := by kernel_rfl
noncomputable def F33 (N : Nat) (a : Int × Int × Bool × Unit) : Option (Int × Int) := fn_order_number N a.1 a.2.1 a.2.2.1
theorem ok33 (N : Nat) : FnOK Try.prog 33 ad33 rd33 (F33 N) :=
  fn_ok (N := N) (live := live33) (code := c33) (tok T33.rt T33.kl) mixed (gok33 N) Try.func33 (by kernel_rfl) (by kernel_rfl) (by kernel_rfl) fun a p h => by rw [← h]; exact run33 N a.1 a.2.1 a.2.2.1

/-! ### tiller/order.MinNumber: function 18 -/
noncomputable def c18 : Code := (Try.f18.body).getD .skip
noncomputable def T18 : Tb := ⟨tyOf tys, [], []⟩
noncomputable def G18 {R : Type} (N : Nat) : FuncId → List AV → (AV → Option R) → Option R := gCons 33 (gOf ad33 rd33 (F33 N)) (gNil)
theorem gok18 {R : Type} (N : Nat) : GOK Try.prog (G18 (R := R) N) := gCons_ok (ok33 N) (gNil_ok)
noncomputable def live18 : List (Nat × List (Nat × HK)) := []
noncomputable def ad18 : Ad (Int × Int × Unit) := aC (cInt .u64) (aC (cInt .u64) (a0))
noncomputable def rd18 : Rd (Int × Int) := r2 (cInt .u64) (cInt .u8)
noncomputable def fn_order_MinNumber (N : Nat) (x0 : Int) (x1 : Int) : Option (Int × Int) :=
  (fn_order_number N x0 x1 true).bind fun r1 =>
   some (r1.1, r1.2)
theorem run18 (N : Nat) (x0 : Int) (x1 : Int) : Eng.run T18 (G18 N) N live18 c18 Try.f18.results.toList Try.f18.ntmps ((ad18).enc (x0, x1, ())) (rd18).dec = fn_order_MinNumber N x0 x1 := by kernel_rfl
noncomputable def F18 (N : Nat) (a : Int × Int × Unit) : Option (Int × Int) := fn_order_MinNumber N a.1 a.2.1
theorem ok18 (N : Nat) : FnOK Try.prog 18 ad18 rd18 (F18 N) :=
  fn_ok (N := N) (live := live18) (code := c18) (tok T18.rt T18.kl) mixed (gok18 N) Try.func18 (by kernel_rfl) (by kernel_rfl) (by kernel_rfl) fun a p h => by rw [← h]; exact run18 N a.1 a.2.1

/-! ### tiller/order.MaxNumber: function 19 -/
noncomputable def c19 : Code := (Try.f19.body).getD .skip
noncomputable def T19 : Tb := ⟨tyOf tys, [], []⟩
noncomputable def G19 {R : Type} (N : Nat) : FuncId → List AV → (AV → Option R) → Option R := gCons 33 (gOf ad33 rd33 (F33 N)) (gNil)
theorem gok19 {R : Type} (N : Nat) : GOK Try.prog (G19 (R := R) N) := gCons_ok (ok33 N) (gNil_ok)
noncomputable def live19 : List (Nat × List (Nat × HK)) := []
noncomputable def ad19 : Ad (Int × Int × Unit) := aC (cInt .u64) (aC (cInt .u64) (a0))
noncomputable def rd19 : Rd (Int × Int) := r2 (cInt .u64) (cInt .u8)
noncomputable def fn_order_MaxNumber (N : Nat) (x0 : Int) (x1 : Int) : Option (Int × Int) :=
  (fn_order_number N x0 x1 false).bind fun r1 =>
   some (r1.1, r1.2)
theorem run19 (N : Nat) (x0 : Int) (x1 : Int) : Eng.run T19 (G19 N) N live19 c19 Try.f19.results.toList Try.f19.ntmps ((ad19).enc (x0, x1, ())) (rd19).dec = fn_order_MaxNumber N x0 x1 := by kernel_rfl
noncomputable def F19 (N : Nat) (a : Int × Int × Unit) : Option (Int × Int) := fn_order_MaxNumber N a.1 a.2.1
theorem ok19 (N : Nat) : FnOK Try.prog 19 ad19 rd19 (F19 N) :=
  fn_ok (N := N) (live := live19) (code := c19) (tok T19.rt T19.kl) mixed (gok19 N) Try.func19 (by kernel_rfl) (by kernel_rfl) (by kernel_rfl) fun a p h => by rw [← h]; exact run19 N a.1 a.2.1

/-! ### tiller/order.size: function 34 -/
noncomputable def c34 : Code := (Try.f34.body).getD .skip
noncomputable def T34 : Tb := ⟨tyOf tys, [], []⟩
noncomputable def G34 {R : Type} (N : Nat) : FuncId → List AV → (AV → Option R) → Option R := gCons 27 (gOf ad27 rd27 (F27 N)) (gCons 32 (gOf ad32 rd32 (F32 N)) (gCons 25 (gOf ad25 rd25 (F25 N)) (gNil)))
theorem gok34 {R : Type} (N : Nat) : GOK Try.prog (G34 (R := R) N) := gCons_ok (ok27 N) (gCons_ok (ok32 N) (gCons_ok (ok25 N) (gNil_ok)))
noncomputable def live34 : List (Nat × List (Nat × HK)) := []
noncomputable def ad34 : Ad (Int × Int × Bool × Unit) := aC (cInt .u64) (aC (cInt .u64) (aC (cBool) (a0)))
noncomputable def rd34 : Rd (Int × Int) := r2 (cInt .u64) (cInt .u8)
noncomputable def fn_order_size (N : Nat) (x0 : Int) (x1 : Int) (x2 : Bool) : Option (Int × Int) :=
  (fn_pat_Abs N x0).bind fun r1 =>
   (fn_pat_Abs N x1).bind fun r2 =>
    cond (eqI r1 r2)
     ((fn_order_pick N x0 x1 x2).bind fun r3 =>
      some (r3.1, r3.2))
     ((fn_pat_IsNaN N x0).bind fun r4 =>
      cond r4
       ((fn_order_pick N x0 x1 x2).bind fun r5 =>
        some (r5.1, r5.2))
       ((fn_pat_IsNaN N x1).bind fun r6 =>
        cond r6
         ((fn_order_pick N x0 x1 x2).bind fun r7 =>
          some (r7.1, r7.2))
         (cond (eqB (ltI r1 r2) x2)
          (some (x0, 0))
          (some (x1, 0)))))
theorem run34 (N : Nat) (x0 : Int) (x1 : Int) (x2 : Bool) : Eng.run T34 (G34 N) N live34 c34 Try.f34.results.toList Try.f34.ntmps ((ad34).enc (x0, x1, x2, ())) (rd34).dec = fn_order_size N x0 x1 x2 := by kernel_rfl
noncomputable def F34 (N : Nat) (a : Int × Int × Bool × Unit) : Option (Int × Int) := fn_order_size N a.1 a.2.1 a.2.2.1
theorem ok34 (N : Nat) : FnOK Try.prog 34 ad34 rd34 (F34 N) :=
  fn_ok (N := N) (live := live34) (code := c34) (tok T34.rt T34.kl) mixed (gok34 N) Try.func34 (by kernel_rfl) (by kernel_rfl) (by kernel_rfl) fun a p h => by rw [← h]; exact run34 N a.1 a.2.1 a.2.2.1

/-! ### tiller/order.MinSize: function 20 -/
noncomputable def c20 : Code := (Try.f20.body).getD .skip
noncomputable def T20 : Tb := ⟨tyOf tys, [], []⟩
noncomputable def G20 {R : Type} (N : Nat) : FuncId → List AV → (AV → Option R) → Option R := gCons 34 (gOf ad34 rd34 (F34 N)) (gNil)
theorem gok20 {R : Type} (N : Nat) : GOK Try.prog (G20 (R := R) N) := gCons_ok (ok34 N) (gNil_ok)
noncomputable def live20 : List (Nat × List (Nat × HK)) := []
noncomputable def ad20 : Ad (Int × Int × Unit) := aC (cInt .u64) (aC (cInt .u64) (a0))
noncomputable def rd20 : Rd (Int × Int) := r2 (cInt .u64) (cInt .u8)
noncomputable def fn_order_MinSize (N : Nat) (x0 : Int) (x1 : Int) : Option (Int × Int) :=
  (fn_order_size N x0 x1 true).bind fun r1 =>
   some (r1.1, r1.2)
theorem run20 (N : Nat) (x0 : Int) (x1 : Int) : Eng.run T20 (G20 N) N live20 c20 Try.f20.results.toList Try.f20.ntmps ((ad20).enc (x0, x1, ())) (rd20).dec = fn_order_MinSize N x0 x1 := by kernel_rfl
noncomputable def F20 (N : Nat) (a : Int × Int × Unit) : Option (Int × Int) := fn_order_MinSize N a.1 a.2.1
theorem ok20 (N : Nat) : FnOK Try.prog 20 ad20 rd20 (F20 N) :=
  fn_ok (N := N) (live := live20) (code := c20) (tok T20.rt T20.kl) mixed (gok20 N) Try.func20 (by kernel_rfl) (by kernel_rfl) (by kernel_rfl) fun a p h => by rw [← h]; exact run20 N a.1 a.2.1

/-! ### tiller/order.MaxSize: function 21 -/
noncomputable def c21 : Code := (Try.f21.body).getD .skip
noncomputable def T21 : Tb := ⟨tyOf tys, [], []⟩
noncomputable def G21 {R : Type} (N : Nat) : FuncId → List AV → (AV → Option R) → Option R := gCons 34 (gOf ad34 rd34 (F34 N)) (gNil)
theorem gok21 {R : Type} (N : Nat) : GOK Try.prog (G21 (R := R) N) := gCons_ok (ok34 N) (gNil_ok)
noncomputable def live21 : List (Nat × List (Nat × HK)) := []
noncomputable def ad21 : Ad (Int × Int × Unit) := aC (cInt .u64) (aC (cInt .u64) (a0))
noncomputable def rd21 : Rd (Int × Int) := r2 (cInt .u64) (cInt .u8)
noncomputable def fn_order_MaxSize (N : Nat) (x0 : Int) (x1 : Int) : Option (Int × Int) :=
  (fn_order_size N x0 x1 false).bind fun r1 =>
   some (r1.1, r1.2)
theorem run21 (N : Nat) (x0 : Int) (x1 : Int) : Eng.run T21 (G21 N) N live21 c21 Try.f21.results.toList Try.f21.ntmps ((ad21).enc (x0, x1, ())) (rd21).dec = fn_order_MaxSize N x0 x1 := by kernel_rfl
noncomputable def F21 (N : Nat) (a : Int × Int × Unit) : Option (Int × Int) := fn_order_MaxSize N a.1 a.2.1
theorem ok21 (N : Nat) : FnOK Try.prog 21 ad21 rd21 (F21 N) :=
  fn_ok (N := N) (live := live21) (code := c21) (tok T21.rt T21.kl) mixed (gok21 N) Try.func21 (by kernel_rfl) (by kernel_rfl) (by kernel_rfl) fun a p h => by rw [← h]; exact run21 N a.1 a.2.1
end Go.Proofs.Ytkipjjijaphjpaa.Fns

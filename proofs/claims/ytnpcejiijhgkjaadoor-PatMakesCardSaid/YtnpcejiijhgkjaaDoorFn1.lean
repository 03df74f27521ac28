/- Go functions as plain Lean functions, and the engine's run of each. No statement is proved here. Laid by eng.py. -/
import Derived.Test.YtnpcejiijhgkjaaDoorFn0
namespace Go.Proofs.YtnpcejiijhgkjaaDoor.Fns
open Go Go.RowKit Go.Proofs Go.Proofs.YtnpcejiijhgkjaaDoor.Eng Go.Proofs.YtnpcejiijhgkjaaDoor.Num
set_option linter.unusedVariables false
set_option maxRecDepth 100000
/-! ### tiller/pat.laid: function 17 -/
noncomputable def c17 : Code := (Tryd.f17.body).getD .skip
noncomputable def T17 : Tb := ⟨tyOf tys, [(4, 1), (8, 1), (14, 1), (18, 1), (26, 1)], [], wrNil⟩
noncomputable def G17 {R : Type} (N : Nat) : FuncId → List AV → (AV → Option R) → Option R := gNil
theorem gok17 {R : Type} (N : Nat) : GOK Tryd.prog (G17 (R := R) N) := gNil_ok
noncomputable def live17 : List (Nat × List (Nat × HK)) := []
noncomputable def ad17 : Ad ((Bool × Int × Int × Int) × Unit) := aC (cSt (fC (lBool) (fC (lInt .i64) (fC (lInt .i64) (fO (lInt .u64)))))) (a0)
noncomputable def rd17 : Rd (Int) := r1 (cInt .u64)
noncomputable def fn_pat_laid (N : Nat) (x0 : (Bool × Int × Int × Int)) : Option (Int) :=
  cond (leI 3 x0.2.1)
   (cond x0.1
    (some (orI .u64 (orI .u64 (andI .u64 x0.2.2.2 4503599627370495) 9218868437227405312) 9223372036854775808))
    (some (orI .u64 (andI .u64 x0.2.2.2 4503599627370495) 9218868437227405312)))
   (cond (eqI x0.2.1 2)
    (cond x0.1
     (some (orI .u64 (orI .u64 (andI .u64 x0.2.2.2 4503599627370495) (shlI .u64 (andI .u64 (cvI .u64 (addI .i64 (subI .i64 x0.2.2.1 (-1074)) 1)) 2047) 52)) 9223372036854775808))
     (some (orI .u64 (andI .u64 x0.2.2.2 4503599627370495) (shlI .u64 (andI .u64 (cvI .u64 (addI .i64 (subI .i64 x0.2.2.1 (-1074)) 1)) 2047) 52))))
    (cond x0.1
     (some (orI .u64 (andI .u64 x0.2.2.2 4503599627370495) 9223372036854775808))
     (some (andI .u64 x0.2.2.2 4503599627370495))))
theorem run17 (N : Nat) (x0 : (Bool × Int × Int × Int)) : Eng.run T17 (G17 N) N live17 c17 Tryd.f17.results.toList Tryd.f17.ntmps ((ad17).enc (x0, ())) (rd17).dec = fn_pat_laid N x0 := by kernel_rfl
noncomputable def F17 (N : Nat) (a : (Bool × Int × Int × Int) × Unit) : Option (Int) := fn_pat_laid N a.1
theorem ok17 (N : Nat) : FnOK Tryd.prog 17 ad17 rd17 (F17 N) :=
  fn_ok (N := N) (live := live17) (code := c17) (tok T17.rt T17.kl (wrNil_ok)) mixed (gok17 N) Tryd.func17 (by kernel_rfl) (by kernel_rfl) (by kernel_rfl) fun a p h => by rw [← h]; exact run17 N a.1

/-! ### tiller/pat.Take: function 15 -/
noncomputable def c15 : Code := (Tryd.f15.body).getD .skip
noncomputable def T15 : Tb := ⟨tyOf tys, [(15, 3), (20, 3), (24, 3), (29, 3), (34, 3), (38, 3), (45, 3), (48, 3), (49, 3), (50, 3), (52, 3), (55, 3), (56, 3)], [], wrNil⟩
noncomputable def G15 {R : Type} (N : Nat) : FuncId → List AV → (AV → Option R) → Option R := gNil
theorem gok15 {R : Type} (N : Nat) : GOK Tryd.prog (G15 (R := R) N) := gNil_ok
noncomputable def live15 : List (Nat × List (Nat × HK)) := []
noncomputable def ad15 : Ad (Int × Unit) := aC (cInt .u64) (a0)
noncomputable def rd15 : Rd ((Bool × Int × Int × Int)) := r1 (cSt (fC (lBool) (fC (lInt .i64) (fC (lInt .i64) (fO (lInt .u64))))))
noncomputable def fn_pat_Take (N : Nat) (x0 : Int) : Option ((Bool × Int × Int × Int)) :=
  cond (eqI (andI .i64 (cvI .i64 (shrI .u64 x0 52)) 2047) 2047)
   (cond (eqI (andI .u64 x0 4503599627370495) 0)
    (some (!(eqI (andI .u64 x0 9223372036854775808) 0), 3, 0, andI .u64 x0 4503599627370495))
    (cond (eqI (andI .i64 (cvI .i64 (shrI .u64 x0 52)) 2047) 2047)
     (cond (!(eqI (andI .u64 (andI .u64 x0 4503599627370495) 2251799813685248) 0))
      (some (!(eqI (andI .u64 x0 9223372036854775808) 0), 4, 0, andI .u64 x0 4503599627370495))
      (cond (eqI (andI .i64 (cvI .i64 (shrI .u64 x0 52)) 2047) 2047)
       (some (!(eqI (andI .u64 x0 9223372036854775808) 0), 5, 0, andI .u64 x0 4503599627370495))
       (cond (ltI 0 (andI .i64 (cvI .i64 (shrI .u64 x0 52)) 2047))
        (some (!(eqI (andI .u64 x0 9223372036854775808) 0), 2, subI .i64 (addI .i64 (andI .i64 (cvI .i64 (shrI .u64 x0 52)) 2047) (-1074)) 1, orI .u64 (andI .u64 x0 4503599627370495) 4503599627370496))
        (cond (ltI 0 (andI .u64 x0 4503599627370495))
         (some (!(eqI (andI .u64 x0 9223372036854775808) 0), 1, (-1074), andI .u64 x0 4503599627370495))
         (some (!(eqI (andI .u64 x0 9223372036854775808) 0), 0, (-1074), andI .u64 x0 4503599627370495))))))
     (cond (eqI (andI .i64 (cvI .i64 (shrI .u64 x0 52)) 2047) 2047)
      (some (!(eqI (andI .u64 x0 9223372036854775808) 0), 5, 0, andI .u64 x0 4503599627370495))
      (cond (ltI 0 (andI .i64 (cvI .i64 (shrI .u64 x0 52)) 2047))
       (some (!(eqI (andI .u64 x0 9223372036854775808) 0), 2, subI .i64 (addI .i64 (andI .i64 (cvI .i64 (shrI .u64 x0 52)) 2047) (-1074)) 1, orI .u64 (andI .u64 x0 4503599627370495) 4503599627370496))
       (cond (ltI 0 (andI .u64 x0 4503599627370495))
        (some (!(eqI (andI .u64 x0 9223372036854775808) 0), 1, (-1074), andI .u64 x0 4503599627370495))
        (some (!(eqI (andI .u64 x0 9223372036854775808) 0), 0, (-1074), andI .u64 x0 4503599627370495)))))))
   (cond (eqI (andI .i64 (cvI .i64 (shrI .u64 x0 52)) 2047) 2047)
    (cond (!(eqI (andI .u64 (andI .u64 x0 4503599627370495) 2251799813685248) 0))
     (some (!(eqI (andI .u64 x0 9223372036854775808) 0), 4, 0, andI .u64 x0 4503599627370495))
     (cond (eqI (andI .i64 (cvI .i64 (shrI .u64 x0 52)) 2047) 2047)
      (some (!(eqI (andI .u64 x0 9223372036854775808) 0), 5, 0, andI .u64 x0 4503599627370495))
      (cond (ltI 0 (andI .i64 (cvI .i64 (shrI .u64 x0 52)) 2047))
       (some (!(eqI (andI .u64 x0 9223372036854775808) 0), 2, subI .i64 (addI .i64 (andI .i64 (cvI .i64 (shrI .u64 x0 52)) 2047) (-1074)) 1, orI .u64 (andI .u64 x0 4503599627370495) 4503599627370496))
       (cond (ltI 0 (andI .u64 x0 4503599627370495))
        (some (!(eqI (andI .u64 x0 9223372036854775808) 0), 1, (-1074), andI .u64 x0 4503599627370495))
        (some (!(eqI (andI .u64 x0 9223372036854775808) 0), 0, (-1074), andI .u64 x0 4503599627370495))))))
    (cond (eqI (andI .i64 (cvI .i64 (shrI .u64 x0 52)) 2047) 2047)
     (some (!(eqI (andI .u64 x0 9223372036854775808) 0), 5, 0, andI .u64 x0 4503599627370495))
     (cond (ltI 0 (andI .i64 (cvI .i64 (shrI .u64 x0 52)) 2047))
      (some (!(eqI (andI .u64 x0 9223372036854775808) 0), 2, subI .i64 (addI .i64 (andI .i64 (cvI .i64 (shrI .u64 x0 52)) 2047) (-1074)) 1, orI .u64 (andI .u64 x0 4503599627370495) 4503599627370496))
      (cond (ltI 0 (andI .u64 x0 4503599627370495))
       (some (!(eqI (andI .u64 x0 9223372036854775808) 0), 1, (-1074), andI .u64 x0 4503599627370495))
       (some (!(eqI (andI .u64 x0 9223372036854775808) 0), 0, (-1074), andI .u64 x0 4503599627370495))))))
theorem run15 (N : Nat) (x0 : Int) : Eng.run T15 (G15 N) N live15 c15 Tryd.f15.results.toList Tryd.f15.ntmps ((ad15).enc (x0, ())) (rd15).dec = fn_pat_Take N x0 := by kernel_rfl
noncomputable def F15 (N : Nat) (a : Int × Unit) : Option ((Bool × Int × Int × Int)) := fn_pat_Take N a.1
theorem ok15 (N : Nat) : FnOK Tryd.prog 15 ad15 rd15 (F15 N) :=
  fn_ok (N := N) (live := live15) (code := c15) (tok T15.rt T15.kl (wrNil_ok)) mixed (gok15 N) Tryd.func15 (by kernel_rfl) (by kernel_rfl) (by kernel_rfl) fun a p h => by rw [← h]; exact run15 N a.1

/-! ### tiller/pat.Make: function 11 -/
noncomputable def c11 : Code := (Tryd.f11.body).getD .skip
noncomputable def T11 : Tb := ⟨tyOf tys, [], [], wrNil⟩
noncomputable def G11 {R : Type} (N : Nat) : FuncId → List AV → (AV → Option R) → Option R := gCons 17 (gOf ad17 rd17 (F17 N)) (gCons 15 (gOf ad15 rd15 (F15 N)) (gNil))
theorem gok11 {R : Type} (N : Nat) : GOK Tryd.prog (G11 (R := R) N) := gCons_ok (ok17 N) (gCons_ok (ok15 N) (gNil_ok))
noncomputable def live11 : List (Nat × List (Nat × HK)) := []
noncomputable def ad11 : Ad ((Bool × Int × Int × Int) × Unit) := aC (cSt (fC (lBool) (fC (lInt .i64) (fC (lInt .i64) (fO (lInt .u64)))))) (a0)
noncomputable def rd11 : Rd (Int × Option Int) := r2 (cInt .u64) (cErr 40)
noncomputable def fn_pat_Make (N : Nat) (x0 : (Bool × Int × Int × Int)) : Option (Int × Option Int) :=
  (fn_pat_laid N (x0.1, x0.2.1, x0.2.2.1, x0.2.2.2)).bind fun r1 =>
   (fn_pat_Take N r1).bind fun r2 =>
    cond (!((eqB r2.1 x0.1) && ((eqI r2.2.1 x0.2.1) && ((eqI r2.2.2.1 x0.2.2.1) && ((eqI r2.2.2.2 x0.2.2.2) && true)))))
     (some (0, some 1))
     (some (r1, none))
theorem run11 (N : Nat) (x0 : (Bool × Int × Int × Int)) : Eng.run T11 (G11 N) N live11 c11 Tryd.f11.results.toList Tryd.f11.ntmps ((ad11).enc (x0, ())) (rd11).dec = fn_pat_Make N x0 := by kernel_rfl
noncomputable def F11 (N : Nat) (a : (Bool × Int × Int × Int) × Unit) : Option (Int × Option Int) := fn_pat_Make N a.1
theorem ok11 (N : Nat) : FnOK Tryd.prog 11 ad11 rd11 (F11 N) :=
  fn_ok (N := N) (live := live11) (code := c11) (tok T11.rt T11.kl (wrNil_ok)) mixed (gok11 N) Tryd.func11 (by kernel_rfl) (by kernel_rfl) (by kernel_rfl) fun a p h => by rw [← h]; exact run11 N a.1

/-! ### tiller/tillerref03.Make: function 12 -/
noncomputable def c12 : Code := (Tryd.f12.body).getD .skip
noncomputable def T12 : Tb := ⟨tyOf tys, [(6, 1), (10, 1), (15, 1), (20, 1), (24, 1), (29, 1), (34, 1), (38, 1), (41, 1), (45, 1), (50, 1), (55, 1), (60, 1), (64, 1), (69, 1), (74, 1), (78, 1), (83, 1), (87, 1), (91, 1), (96, 1), (101, 1), (105, 1), (109, 1), (114, 1), (119, 1), (123, 1), (126, 1)], [], wrNil⟩
noncomputable def G12 {R : Type} (N : Nat) : FuncId → List AV → (AV → Option R) → Option R := gNil
theorem gok12 {R : Type} (N : Nat) : GOK Tryd.prog (G12 (R := R) N) := gNil_ok
noncomputable def live12 : List (Nat × List (Nat × HK)) := []
noncomputable def ad12 : Ad ((Bool × Int × Int × Int) × Unit) := aC (cSt (fC (lBool) (fC (lInt .i64) (fC (lInt .i64) (fO (lInt .u64)))))) (a0)
noncomputable def rd12 : Rd (Int × Int) := r2 (cInt .u64) (cInt .i64)
noncomputable def m12_11 (N : Nat) (x0 : (Bool × Int × Int × Int)) : Option (Int × Int) :=
  cond x0.1
   (some (addI .u64 (addI .u64 9218868437227405312 x0.2.2.2) 9223372036854775808, 0))
   (some (addI .u64 9218868437227405312 x0.2.2.2, 0))
noncomputable def m12_18 (N : Nat) (x0 : (Bool × Int × Int × Int)) : Option (Int × Int) :=
  cond (eqI x0.2.1 5)
   (cond (eqI x0.2.2.1 0)
    (cond (ltI 0 x0.2.2.2)
     (cond (ltI x0.2.2.2 2251799813685248)
      (m12_11 N x0)
      (some (0, 1)))
     (some (0, 1)))
    (some (0, 1)))
   (some (0, 1))
noncomputable def m12_22 (N : Nat) (x0 : (Bool × Int × Int × Int)) : Option (Int × Int) :=
  cond (eqI x0.2.1 4)
   (cond (eqI x0.2.2.1 0)
    (cond (leI 2251799813685248 x0.2.2.2)
     (cond (ltI x0.2.2.2 4503599627370496)
      (cond (ltI x0.2.2.2 4503599627370496)
       (m12_11 N x0)
       (some (0, 1)))
      (m12_18 N x0))
     (m12_18 N x0))
    (m12_18 N x0))
   (m12_18 N x0)
noncomputable def m12_25 (N : Nat) (x0 : (Bool × Int × Int × Int)) : Option (Int × Int) :=
  cond (eqI x0.2.1 3)
   (cond (eqI x0.2.2.1 0)
    (cond (eqI x0.2.2.2 0)
     (cond (eqI x0.2.2.2 0)
      (m12_11 N x0)
      (some (0, 1)))
     (m12_22 N x0))
    (m12_22 N x0))
   (m12_22 N x0)
noncomputable def m12_30 (N : Nat) (x0 : (Bool × Int × Int × Int)) : Option (Int × Int) :=
  cond (eqI x0.2.1 2)
   (cond (leI (-1074) x0.2.2.1)
    (cond (leI x0.2.2.1 971)
     (cond (leI 4503599627370496 x0.2.2.2)
      (cond (ltI x0.2.2.2 9007199254740992)
       (cond x0.1
        (some (addI .u64 (subI .u64 (addI .u64 (mulI .u64 (cvI .u64 (addI .i64 x0.2.2.1 1075)) 4503599627370496) x0.2.2.2) 4503599627370496) 9223372036854775808, 0))
        (some (subI .u64 (addI .u64 (mulI .u64 (cvI .u64 (addI .i64 x0.2.2.1 1075)) 4503599627370496) x0.2.2.2) 4503599627370496, 0)))
       (m12_25 N x0))
      (m12_25 N x0))
     (m12_25 N x0))
    (m12_25 N x0))
   (m12_25 N x0)
noncomputable def m12_34 (N : Nat) (x0 : (Bool × Int × Int × Int)) : Option (Int × Int) :=
  cond (eqI x0.2.1 1)
   (cond (eqI x0.2.2.1 (-1074))
    (cond (ltI 0 x0.2.2.2)
     (cond (ltI x0.2.2.2 4503599627370496)
      (cond x0.1
       (some (addI .u64 x0.2.2.2 9223372036854775808, 0))
       (some (x0.2.2.2, 0)))
      (m12_30 N x0))
     (m12_30 N x0))
    (m12_30 N x0))
   (m12_30 N x0)
noncomputable def fn_tillerref03_Make (N : Nat) (x0 : (Bool × Int × Int × Int)) : Option (Int × Int) :=
  cond (eqI x0.2.1 0)
   (cond (eqI x0.2.2.1 (-1074))
    (cond (eqI x0.2.2.2 0)
     (cond x0.1
      (some (addI .u64 0 9223372036854775808, 0))
      (some (0, 0)))
     (m12_34 N x0))
    (m12_34 N x0))
   (m12_34 N x0)
theorem run12 (N : Nat) : ∀ (x0 : (Bool × Int × Int × Int)), Eng.run T12 (G12 N) N live12 c12 Tryd.f12.results.toList Tryd.f12.ntmps ((ad12).enc (x0, ())) (rd12).dec = fn_tillerref03_Make N x0
  | (m, .ofNat 0, e, s) => by kernel_rfl
  | (m, .ofNat 1, e, s) => by kernel_rfl
  | (m, .ofNat 2, e, s) => by kernel_rfl
  | (m, .ofNat 3, e, s) => by kernel_rfl
  | (m, .ofNat 4, e, s) => by kernel_rfl
  | (m, .ofNat 5, e, s) => by kernel_rfl
  | (m, .ofNat (n + 6), e, s) => by kernel_rfl
  | (m, .negSucc n, e, s) => by kernel_rfl
noncomputable def F12 (N : Nat) (a : (Bool × Int × Int × Int) × Unit) : Option (Int × Int) := fn_tillerref03_Make N a.1
theorem ok12 (N : Nat) : FnOK Tryd.prog 12 ad12 rd12 (F12 N) :=
  fn_ok (N := N) (live := live12) (code := c12) (tok T12.rt T12.kl (wrNil_ok)) mixed (gok12 N) Tryd.func12 (by kernel_rfl) (by kernel_rfl) (by kernel_rfl) fun a p h => by rw [← h]; exact run12 N a.1

/-! ### tiller/pat.Abs: function 23 -/
noncomputable def c23 : Code := (Tryd.f23.body).getD .skip
noncomputable def T23 : Tb := ⟨tyOf tys, [], [], wrNil⟩
noncomputable def G23 {R : Type} (N : Nat) : FuncId → List AV → (AV → Option R) → Option R := gNil
theorem gok23 {R : Type} (N : Nat) : GOK Tryd.prog (G23 (R := R) N) := gNil_ok
noncomputable def live23 : List (Nat × List (Nat × HK)) := []
noncomputable def ad23 : Ad (Int × Unit) := aC (cInt .u64) (a0)
noncomputable def rd23 : Rd (Int) := r1 (cInt .u64)
noncomputable def fn_pat_Abs (N : Nat) (x0 : Int) : Option (Int) :=
  some (bicI .u64 x0 9223372036854775808)
theorem run23 (N : Nat) (x0 : Int) : Eng.run T23 (G23 N) N live23 c23 Tryd.f23.results.toList Tryd.f23.ntmps ((ad23).enc (x0, ())) (rd23).dec = fn_pat_Abs N x0 := by kernel_rfl
noncomputable def F23 (N : Nat) (a : Int × Unit) : Option (Int) := fn_pat_Abs N a.1
theorem ok23 (N : Nat) : FnOK Tryd.prog 23 ad23 rd23 (F23 N) :=
  fn_ok (N := N) (live := live23) (code := c23) (tok T23.rt T23.kl (wrNil_ok)) mixed (gok23 N) Tryd.func23 (by kernel_rfl) (by kernel_rfl) (by kernel_rfl) fun a p h => by rw [← h]; exact run23 N a.1

/-! ### tiller/pat.IsNaN: function 16 -/
noncomputable def c16 : Code := (Tryd.f16.body).getD .skip
noncomputable def T16 : Tb := ⟨tyOf tys, [], [], wrNil⟩
noncomputable def G16 {R : Type} (N : Nat) : FuncId → List AV → (AV → Option R) → Option R := gCons 23 (gOf ad23 rd23 (F23 N)) (gNil)
theorem gok16 {R : Type} (N : Nat) : GOK Tryd.prog (G16 (R := R) N) := gCons_ok (ok23 N) (gNil_ok)
noncomputable def live16 : List (Nat × List (Nat × HK)) := []
noncomputable def ad16 : Ad (Int × Unit) := aC (cInt .u64) (a0)
noncomputable def rd16 : Rd (Bool) := r1 (cBool)
noncomputable def fn_pat_IsNaN (N : Nat) (x0 : Int) : Option (Bool) :=
  (fn_pat_Abs N x0).bind fun r1 =>
   some (ltI 9218868437227405312 r1)
theorem run16 (N : Nat) (x0 : Int) : Eng.run T16 (G16 N) N live16 c16 Tryd.f16.results.toList Tryd.f16.ntmps ((ad16).enc (x0, ())) (rd16).dec = fn_pat_IsNaN N x0 := by kernel_rfl
noncomputable def F16 (N : Nat) (a : Int × Unit) : Option (Bool) := fn_pat_IsNaN N a.1
theorem ok16 (N : Nat) : FnOK Tryd.prog 16 ad16 rd16 (F16 N) :=
  fn_ok (N := N) (live := live16) (code := c16) (tok T16.rt T16.kl (wrNil_ok)) mixed (gok16 N) Tryd.func16 (by kernel_rfl) (by kernel_rfl) (by kernel_rfl) fun a p h => by rw [← h]; exact run16 N a.1

/-! ### internal/strconv.small: function 24 -/
noncomputable def c24 : Code := (Tryd.f24.body).getD .skip
noncomputable def T24 : Tb := ⟨tyOf tys, [], [], wrNil⟩
noncomputable def G24 {R : Type} (N : Nat) : FuncId → List AV → (AV → Option R) → Option R := gNil
theorem gok24 {R : Type} (N : Nat) : GOK Tryd.prog (G24 (R := R) N) := gNil_ok
noncomputable def live24 : List (Nat × List (Nat × HK)) := []
noncomputable def ad24 : Ad (Int × Unit) := aC (cInt .i64) (a0)
noncomputable def rd24 : Rd (ByteArray) := r1 (cStr)
noncomputable def fn_strconv_small (N : Nat) (x0 : Int) : Option (ByteArray) :=
  cond (ltI x0 10)
   (cond (((leI 0 x0) && (leI x0 (addI .i64 x0 1))) && (leI (addI .i64 x0 1) (str0.size : Int)))
    (some (str0.extract x0.toNat ((addI .i64 x0 1).toNat)))
    (none))
   (cond (((leI 0 (mulI .i64 x0 2)) && (leI (mulI .i64 x0 2) (addI .i64 (mulI .i64 x0 2) 2))) && (leI (addI .i64 (mulI .i64 x0 2) 2) (str1.size : Int)))
    (some (str1.extract ((mulI .i64 x0 2).toNat) ((addI .i64 (mulI .i64 x0 2) 2).toNat)))
    (none))
theorem run24 (N : Nat) (x0 : Int) : Eng.run T24 (G24 N) N live24 c24 Tryd.f24.results.toList Tryd.f24.ntmps ((ad24).enc (x0, ())) (rd24).dec = fn_strconv_small N x0 := by kernel_rfl
noncomputable def F24 (N : Nat) (a : Int × Unit) : Option (ByteArray) := fn_strconv_small N a.1
theorem ok24 (N : Nat) : FnOK Tryd.prog 24 ad24 rd24 (F24 N) :=
  fn_ok (N := N) (live := live24) (code := c24) (tok T24.rt T24.kl (wrNil_ok)) mixed (gok24 N) Tryd.func24 (by kernel_rfl) (by kernel_rfl) (by kernel_rfl) fun a p h => by rw [← h]; exact run24 N a.1

/-! ### math/bits.Len64: function 32 -/
noncomputable def c32 : Code := (Tryd.f32.body).getD .skip
noncomputable def T32 : Tb := ⟨tyOf tys, [], [], wrNil⟩
noncomputable def G32 {R : Type} (N : Nat) : FuncId → List AV → (AV → Option R) → Option R := gNil
theorem gok32 {R : Type} (N : Nat) : GOK Tryd.prog (G32 (R := R) N) := gNil_ok
noncomputable def live32 : List (Nat × List (Nat × HK)) := []
noncomputable def ad32 : Ad (Int × Unit) := aC (cInt .u64) (a0)
noncomputable def rd32 : Rd (Int) := r1 (cInt .i64)
noncomputable def fn_bits_Len64 (N : Nat) (x0 : Int) : Option (Int) :=
  cond (leI 4294967296 x0)
   (cond (leI 65536 (shrI .u64 x0 32))
    (cond (leI 256 (shrI .u64 (shrI .u64 x0 32) 16))
     (cond (leI 0 (cvI .u8 (shrI .u64 (shrI .u64 (shrI .u64 x0 32) 16) 8)))
      (cond (ltI (cvI .u8 (shrI .u64 (shrI .u64 (shrI .u64 x0 32) 16) 8)) (str2.size : Int))
       (some (addI .i64 (addI .i64 (addI .i64 32 16) 8) (cvI .i64 (sAt str2 (cvI .u8 (shrI .u64 (shrI .u64 (shrI .u64 x0 32) 16) 8))))))
       (none))
      (none))
     (cond (leI 0 (cvI .u8 (shrI .u64 (shrI .u64 x0 32) 16)))
      (cond (ltI (cvI .u8 (shrI .u64 (shrI .u64 x0 32) 16)) (str2.size : Int))
       (some (addI .i64 (addI .i64 32 16) (cvI .i64 (sAt str2 (cvI .u8 (shrI .u64 (shrI .u64 x0 32) 16))))))
       (none))
      (none)))
    (cond (leI 256 (shrI .u64 x0 32))
     (cond (leI 0 (cvI .u8 (shrI .u64 (shrI .u64 x0 32) 8)))
      (cond (ltI (cvI .u8 (shrI .u64 (shrI .u64 x0 32) 8)) (str2.size : Int))
       (some (addI .i64 (addI .i64 32 8) (cvI .i64 (sAt str2 (cvI .u8 (shrI .u64 (shrI .u64 x0 32) 8))))))
       (none))
      (none))
     (cond (leI 0 (cvI .u8 (shrI .u64 x0 32)))
      (cond (ltI (cvI .u8 (shrI .u64 x0 32)) (str2.size : Int))
       (some (addI .i64 32 (cvI .i64 (sAt str2 (cvI .u8 (shrI .u64 x0 32))))))
       (none))
      (none))))
   (cond (leI 65536 x0)
    (cond (leI 256 (shrI .u64 x0 16))
     (cond (leI 0 (cvI .u8 (shrI .u64 (shrI .u64 x0 16) 8)))
      (cond (ltI (cvI .u8 (shrI .u64 (shrI .u64 x0 16) 8)) (str2.size : Int))
       (some (addI .i64 (addI .i64 (addI .i64 0 16) 8) (cvI .i64 (sAt str2 (cvI .u8 (shrI .u64 (shrI .u64 x0 16) 8))))))
       (none))
      (none))
     (cond (leI 0 (cvI .u8 (shrI .u64 x0 16)))
      (cond (ltI (cvI .u8 (shrI .u64 x0 16)) (str2.size : Int))
       (some (addI .i64 (addI .i64 0 16) (cvI .i64 (sAt str2 (cvI .u8 (shrI .u64 x0 16))))))
       (none))
      (none)))
    (cond (leI 256 x0)
     (cond (leI 0 (cvI .u8 (shrI .u64 x0 8)))
      (cond (ltI (cvI .u8 (shrI .u64 x0 8)) (str2.size : Int))
       (some (addI .i64 (addI .i64 0 8) (cvI .i64 (sAt str2 (cvI .u8 (shrI .u64 x0 8))))))
       (none))
      (none))
     (cond (leI 0 (cvI .u8 x0))
      (cond (ltI (cvI .u8 x0) (str2.size : Int))
       (some (addI .i64 0 (cvI .i64 (sAt str2 (cvI .u8 x0)))))
       (none))
      (none))))
theorem run32 (N : Nat) (x0 : Int) : Eng.run T32 (G32 N) N live32 c32 Tryd.f32.results.toList Tryd.f32.ntmps ((ad32).enc (x0, ())) (rd32).dec = fn_bits_Len64 N x0 := by kernel_rfl
noncomputable def F32 (N : Nat) (a : Int × Unit) : Option (Int) := fn_bits_Len64 N a.1
theorem ok32 (N : Nat) : FnOK Tryd.prog 32 ad32 rd32 (F32 N) :=
  fn_ok (N := N) (live := live32) (code := c32) (tok T32.rt T32.kl (wrNil_ok)) mixed (gok32 N) Tryd.func32 (by kernel_rfl) (by kernel_rfl) (by kernel_rfl) fun a p h => by rw [← h]; exact run32 N a.1

/-! ### internal/strconv.log10Pow2: function 31 -/
noncomputable def c31 : Code := (Tryd.f31.body).getD .skip
noncomputable def T31 : Tb := ⟨tyOf tys, [], [], wrNil⟩
noncomputable def G31 {R : Type} (N : Nat) : FuncId → List AV → (AV → Option R) → Option R := gNil
theorem gok31 {R : Type} (N : Nat) : GOK Tryd.prog (G31 (R := R) N) := gNil_ok
noncomputable def live31 : List (Nat × List (Nat × HK)) := []
noncomputable def ad31 : Ad (Int × Unit) := aC (cInt .i64) (a0)
noncomputable def rd31 : Rd (Int) := r1 (cInt .i64)
noncomputable def fn_strconv_log10Pow2 (N : Nat) (x0 : Int) : Option (Int) :=
  some (shrI .i64 (mulI .i64 x0 78913) 18)
theorem run31 (N : Nat) (x0 : Int) : Eng.run T31 (G31 N) N live31 c31 Tryd.f31.results.toList Tryd.f31.ntmps ((ad31).enc (x0, ())) (rd31).dec = fn_strconv_log10Pow2 N x0 := by kernel_rfl
noncomputable def F31 (N : Nat) (a : Int × Unit) : Option (Int) := fn_strconv_log10Pow2 N a.1
theorem ok31 (N : Nat) : FnOK Tryd.prog 31 ad31 rd31 (F31 N) :=
  fn_ok (N := N) (live := live31) (code := c31) (tok T31.rt T31.kl (wrNil_ok)) mixed (gok31 N) Tryd.func31 (by kernel_rfl) (by kernel_rfl) (by kernel_rfl) fun a p h => by rw [← h]; exact run31 N a.1

/-! ### internal/strconv.bool2[int]: function 33 -/
noncomputable def c33 : Code := (Tryd.f33.body).getD .skip
noncomputable def T33 : Tb := ⟨tyOf tys, [], [], wrNil⟩
noncomputable def G33 {R : Type} (N : Nat) : FuncId → List AV → (AV → Option R) → Option R := gNil
theorem gok33 {R : Type} (N : Nat) : GOK Tryd.prog (G33 (R := R) N) := gNil_ok
noncomputable def live33 : List (Nat × List (Nat × HK)) := []
noncomputable def ad33 : Ad (Bool × Unit) := aC (cBool) (a0)
noncomputable def rd33 : Rd (Int) := r1 (cInt .i64)
noncomputable def fn_strconv_bool2_int (N : Nat) (x0 : Bool) : Option (Int) :=
  cond x0
   (some 1)
   (some 0)
theorem run33 (N : Nat) (x0 : Bool) : Eng.run T33 (G33 N) N live33 c33 Tryd.f33.results.toList Tryd.f33.ntmps ((ad33).enc (x0, ())) (rd33).dec = fn_strconv_bool2_int N x0 := by kernel_rfl
noncomputable def F33 (N : Nat) (a : Bool × Unit) : Option (Int) := fn_strconv_bool2_int N a.1
theorem ok33 (N : Nat) : FnOK Tryd.prog 33 ad33 rd33 (F33 N) :=
  fn_ok (N := N) (live := live33) (code := c33) (tok T33.rt T33.kl (wrNil_ok)) mixed (gok33 N) Tryd.func33 (by kernel_rfl) (by kernel_rfl) (by kernel_rfl) fun a p h => by rw [← h]; exact run33 N a.1

/-! ### internal/strconv.numDigits: function 25 -/
noncomputable def c25 : Code := (Tryd.f25.body).getD .skip
noncomputable def T25 : Tb := ⟨tyOf tys, [], [], wrNil⟩
noncomputable def G25 {R : Type} (N : Nat) : FuncId → List AV → (AV → Option R) → Option R := gCons 32 (gOf ad32 rd32 (F32 N)) (gCons 31 (gOf ad31 rd31 (F31 N)) (gNil))
theorem gok25 {R : Type} (N : Nat) : GOK Tryd.prog (G25 (R := R) N) := gCons_ok (ok32 N) (gCons_ok (ok31 N) (gNil_ok))
noncomputable def live25 : List (Nat × List (Nat × HK)) := []
noncomputable def ad25 : Ad (Int × Unit) := aC (cInt .u64) (a0)
noncomputable def rd25 : Rd (Int) := r1 (cInt .i64)
noncomputable def fn_strconv_numDigits (N : Nat) (x0 : Int) : Option (Int) :=
  (fn_bits_Len64 N x0).bind fun r1 =>
   (fn_strconv_log10Pow2 N r1).bind fun r2 =>
    none
theorem run25 (N : Nat) (x0 : Int) : Eng.run T25 (G25 N) N live25 c25 Tryd.f25.results.toList Tryd.f25.ntmps ((ad25).enc (x0, ())) (rd25).dec = fn_strconv_numDigits N x0 := by kernel_rfl
noncomputable def F25 (N : Nat) (a : Int × Unit) : Option (Int) := fn_strconv_numDigits N a.1
theorem ok25 (N : Nat) : FnOK Tryd.prog 25 ad25 rd25 (F25 N) :=
  fn_ok (N := N) (live := live25) (code := c25) (tok T25.rt T25.kl (wrNil_ok)) mixed (gok25 N) Tryd.func25 (by kernel_rfl) (by kernel_rfl) (by kernel_rfl) fun a p h => by rw [← h]; exact run25 N a.1

/-! ### internal/strconv.isPowerOfTwo: function 34 -/
noncomputable def c34 : Code := (Tryd.f34.body).getD .skip
noncomputable def T34 : Tb := ⟨tyOf tys, [], [], wrNil⟩
noncomputable def G34 {R : Type} (N : Nat) : FuncId → List AV → (AV → Option R) → Option R := gNil
theorem gok34 {R : Type} (N : Nat) : GOK Tryd.prog (G34 (R := R) N) := gNil_ok
noncomputable def live34 : List (Nat × List (Nat × HK)) := []
noncomputable def ad34 : Ad (Int × Unit) := aC (cInt .i64) (a0)
noncomputable def rd34 : Rd (Bool) := r1 (cBool)
noncomputable def fn_strconv_isPowerOfTwo (N : Nat) (x0 : Int) : Option (Bool) :=
  some (eqI (andI .i64 x0 (subI .i64 x0 1)) 0)
theorem run34 (N : Nat) (x0 : Int) : Eng.run T34 (G34 N) N live34 c34 Tryd.f34.results.toList Tryd.f34.ntmps ((ad34).enc (x0, ())) (rd34).dec = fn_strconv_isPowerOfTwo N x0 := by kernel_rfl
noncomputable def F34 (N : Nat) (a : Int × Unit) : Option (Bool) := fn_strconv_isPowerOfTwo N a.1
theorem ok34 (N : Nat) : FnOK Tryd.prog 34 ad34 rd34 (F34 N) :=
  fn_ok (N := N) (live := live34) (code := c34) (tok T34.rt T34.kl (wrNil_ok)) mixed (gok34 N) Tryd.func34 (by kernel_rfl) (by kernel_rfl) (by kernel_rfl) fun a p h => by rw [← h]; exact run34 N a.1

/-! ### math/bits.TrailingZeros32: function 36 -/
noncomputable def c36 : Code := (Tryd.f36.body).getD .skip
noncomputable def T36 : Tb := ⟨tyOf tys, [], [], wrNil⟩
noncomputable def G36 {R : Type} (N : Nat) : FuncId → List AV → (AV → Option R) → Option R := gNil
theorem gok36 {R : Type} (N : Nat) : GOK Tryd.prog (G36 (R := R) N) := gNil_ok
noncomputable def live36 : List (Nat × List (Nat × HK)) := []
noncomputable def ad36 : Ad (Int × Unit) := aC (cInt .u32) (a0)
noncomputable def rd36 : Rd (Int) := r1 (cInt .i64)
noncomputable def fn_bits_TrailingZeros32 (N : Nat) (x0 : Int) : Option (Int) :=
  cond (eqI x0 0)
   (some 32)
   (none)
theorem run36 (N : Nat) (x0 : Int) : Eng.run T36 (G36 N) N live36 c36 Tryd.f36.results.toList Tryd.f36.ntmps ((ad36).enc (x0, ())) (rd36).dec = fn_bits_TrailingZeros32 N x0 := by kernel_rfl
noncomputable def F36 (N : Nat) (a : Int × Unit) : Option (Int) := fn_bits_TrailingZeros32 N a.1
theorem ok36 (N : Nat) : FnOK Tryd.prog 36 ad36 rd36 (F36 N) :=
  fn_ok (N := N) (live := live36) (code := c36) (tok T36.rt T36.kl (wrNil_ok)) mixed (gok36 N) Tryd.func36 (by kernel_rfl) (by kernel_rfl) (by kernel_rfl) fun a p h => by rw [← h]; exact run36 N a.1

/-! ### math/bits.TrailingZeros: function 35 -/
noncomputable def c35 : Code := (Tryd.f35.body).getD .skip
noncomputable def T35 : Tb := ⟨tyOf tys, [], [], wrNil⟩
noncomputable def G35 {R : Type} (N : Nat) : FuncId → List AV → (AV → Option R) → Option R := gCons 37 (gOf (aC (cInt .u64) a0) (r1 (cInt .i64)) (fun a => fn_tz N a.1)) (gNil)
theorem gok35 {R : Type} (N : Nat) : GOK Tryd.prog (G35 (R := R) N) := gCons_ok (tz_ok N) (gNil_ok)
noncomputable def live35 : List (Nat × List (Nat × HK)) := []
noncomputable def ad35 : Ad (Int × Unit) := aC (cInt .u64) (a0)
noncomputable def rd35 : Rd (Int) := r1 (cInt .i64)
noncomputable def fn_bits_TrailingZeros (N : Nat) (x0 : Int) : Option (Int) :=
  (fn_tz N x0).bind fun r1 =>
   some r1
theorem run35 (N : Nat) (x0 : Int) : Eng.run T35 (G35 N) N live35 c35 Tryd.f35.results.toList Tryd.f35.ntmps ((ad35).enc (x0, ())) (rd35).dec = fn_bits_TrailingZeros N x0 := by kernel_rfl
noncomputable def F35 (N : Nat) (a : Int × Unit) : Option (Int) := fn_bits_TrailingZeros N a.1
theorem ok35 (N : Nat) : FnOK Tryd.prog 35 ad35 rd35 (F35 N) :=
  fn_ok (N := N) (live := live35) (code := c35) (tok T35.rt T35.kl (wrNil_ok)) mixed (gok35 N) Tryd.func35 (by kernel_rfl) (by kernel_rfl) (by kernel_rfl) fun a p h => by rw [← h]; exact run35 N a.1

/-! ### internal/strconv.formatBits: function 27 -/
noncomputable def c27 : Code := (Tryd.f27.body).getD .skip
noncomputable def T27 : Tb := ⟨tyOf tys, [(54, 12), (63, 12), (81, 12), (88, 12), (93, 12)], [], wrNil⟩
noncomputable def G27 {R : Type} (N : Nat) : FuncId → List AV → (AV → Option R) → Option R := gCons 34 (gOf ad34 rd34 (F34 N)) (gCons 35 (gOf ad35 rd35 (F35 N)) (gNil))
theorem gok27 {R : Type} (N : Nat) : GOK Tryd.prog (G27 (R := R) N) := gCons_ok (ok34 N) (gCons_ok (ok35 N) (gNil_ok))
noncomputable def live27 : List (Nat × List (Nat × HK)) := [(11, [(0, .keep), (1, .keep), (3, .keep), (4, .keep), (10, .row .u8 5), (11, .keep), (12, .keep), (13, .keep), (14, .keep), (15, .keep), (16, .keep)]), (18, [(0, .keep), (1, .keep), (3, .keep), (4, .keep), (10, .row .u8 5), (11, .keep), (12, .keep), (13, .keep), (17, .keep)])]
noncomputable def ad27 : Ad (List Int × Int × Int × Bool × Bool × Unit) := aC (cLi .u8) (aC (cInt .u64) (aC (cInt .i64) (aC (cBool) (aC (cBool) (a0)))))
noncomputable def rd27 : Rd (List Int × ByteArray) := r2 (cLi .u8) (cStr)
noncomputable def st27_0 (v0 : List Int) (v1 : Int) (v2 : Bool) (v3 : Bool) (v4 : ByteArray) (v5 : Int) (v6 : Int) (v7 : Int) (v8 : Int) (v9 : List Int) (v10 : Vec 65) : St := ⟨[AV.li .u8 v0, AV.v (.int .u64 v1), AV.none, AV.v (.bool v2), AV.v (.bool v3), AV.none, AV.none, AV.none, AV.none, AV.none, AV.own 10, AV.v (.string v4), AV.ptr 12 0, AV.v (.int .i64 v5), AV.v (.int .u64 v6), AV.v (.int .u64 v7), AV.v (.int .u64 v8), AV.none, AV.none, AV.none, AV.none, AV.none, AV.none, AV.none, AV.none, AV.none, AV.none, AV.none, AV.none, AV.none, AV.none, AV.none, AV.none, AV.none, AV.none, AV.none, AV.none, AV.none, AV.none, AV.none, AV.none, AV.none, AV.none, AV.none, AV.none, AV.none, AV.none, AV.none, AV.none, AV.none, AV.none, AV.none, AV.none, AV.none, AV.none, AV.none, AV.none, AV.none, AV.none, AV.none, AV.none, AV.none, AV.none, AV.none, AV.none, AV.none, AV.none, AV.none, AV.none, AV.none, AV.none, AV.none, AV.none, AV.none, AV.none, AV.none, AV.none, AV.none, AV.none, AV.none, AV.none, AV.none, AV.none, AV.none, AV.none, AV.none, AV.none, AV.none, AV.none, AV.none, AV.none, AV.none, AV.none, AV.none, AV.none, AV.none, AV.none, AV.none, AV.none, AV.none, AV.none, AV.none], [none, none, none, none, none, none, none, none, none, none, some (OB.row .u8 5 v9), none, some (OB.arr .u8 65 v10), none, none, none, none, none, none, none, none, none, none, none, none, none, none, none, none, none, none, none, none, none, none, none, none, none, none, none, none, none, none, none, none, none, none, none, none, none, none, none, none, none, none, none, none, none, none, none, none, none, none, none, none, none, none, none, none, none, none, none, none, none, none, none, none, none, none, none, none, none, none, none, none, none, none, none, none, none, none, none, none, none, none, none, none, none, none, none, none, none]⟩
noncomputable def raw27_0 (N : Nat) (n : Nat) (v0 : List Int) (v1 : Int) (v2 : Bool) (v3 : Bool) (v4 : ByteArray) (v5 : Int) (v6 : Int) (v7 : Int) (v8 : Int) (v9 : List Int) (v10 : Vec 65) : Option (List Int × ByteArray) := loopN (lookN live27 11) (exec T27 (G27 N) N live27 (cL (cL (cL (cR (cR (cR (cL (cR (cL (cR (cR (cR (cR (cR c27))))))))))))))) n (st27_0 v0 v1 v2 v3 v4 v5 v6 v7 v8 v9 v10) (blockK 0 (seqK (exec T27 (G27 N) N live27 (cR (cR (cR (cR (cL (cR (cL (cR (cR (cR (cR (cR c27))))))))))))) (seqK (exec T27 (G27 N) N live27 (cR (cR (cR (cR (cR (cR c27))))))) (retK T27 Tryd.f27.results.toList (rd27).dec))))
noncomputable def st27_1 (v0 : List Int) (v1 : Int) (v2 : Bool) (v3 : Bool) (v4 : ByteArray) (v5 : Int) (v6 : Int) (v7 : List Int) (v8 : Vec 65) : St := ⟨[AV.li .u8 v0, AV.v (.int .u64 v1), AV.none, AV.v (.bool v2), AV.v (.bool v3), AV.none, AV.none, AV.none, AV.none, AV.none, AV.own 10, AV.v (.string v4), AV.ptr 12 0, AV.v (.int .i64 v5), AV.none, AV.none, AV.none, AV.v (.int .u64 v6), AV.none, AV.none, AV.none, AV.none, AV.none, AV.none, AV.none, AV.none, AV.none, AV.none, AV.none, AV.none, AV.none, AV.none, AV.none, AV.none, AV.none, AV.none, AV.none, AV.none, AV.none, AV.none, AV.none, AV.none, AV.none, AV.none, AV.none, AV.none, AV.none, AV.none, AV.none, AV.none, AV.none, AV.none, AV.none, AV.none, AV.none, AV.none, AV.none, AV.none, AV.none, AV.none, AV.none, AV.none, AV.none, AV.none, AV.none, AV.none, AV.none, AV.none, AV.none, AV.none, AV.none, AV.none, AV.none, AV.none, AV.none, AV.none, AV.none, AV.none, AV.none, AV.none, AV.none, AV.none, AV.none, AV.none, AV.none, AV.none, AV.none, AV.none, AV.none, AV.none, AV.none, AV.none, AV.none, AV.none, AV.none, AV.none, AV.none, AV.none, AV.none, AV.none, AV.none, AV.none], [none, none, none, none, none, none, none, none, none, none, some (OB.row .u8 5 v7), none, some (OB.arr .u8 65 v8), none, none, none, none, none, none, none, none, none, none, none, none, none, none, none, none, none, none, none, none, none, none, none, none, none, none, none, none, none, none, none, none, none, none, none, none, none, none, none, none, none, none, none, none, none, none, none, none, none, none, none, none, none, none, none, none, none, none, none, none, none, none, none, none, none, none, none, none, none, none, none, none, none, none, none, none, none, none, none, none, none, none, none, none, none, none, none, none, none]⟩
noncomputable def raw27_1 (N : Nat) (n : Nat) (v0 : List Int) (v1 : Int) (v2 : Bool) (v3 : Bool) (v4 : ByteArray) (v5 : Int) (v6 : Int) (v7 : List Int) (v8 : Vec 65) : Option (List Int × ByteArray) := loopN (lookN live27 18) (exec T27 (G27 N) N live27 (cL (cL (cL (cR (cR (cR (cL (cR (cR (cR (cR (cR c27))))))))))))) n (st27_1 v0 v1 v2 v3 v4 v5 v6 v7 v8) (blockK 2 (seqK (exec T27 (G27 N) N live27 (cR (cR (cR (cR (cL (cR (cR (cR (cR (cR c27))))))))))) (seqK (exec T27 (G27 N) N live27 (cR (cR (cR (cR (cR (cR c27))))))) (retK T27 Tryd.f27.results.toList (rd27).dec))))
noncomputable def s27_0 (N : Nat) (Ln0 : List Int → Int → Bool → Bool → ByteArray → Int → Int → Int → Int → List Int → Vec 65 → Option (List Int × ByteArray)) (v0 : List Int) (v1 : Int) (v2 : Bool) (v3 : Bool) (v4 : ByteArray) (v5 : Int) (v6 : Int) (v7 : Int) (v8 : Int) (v9 : List Int) (v10 : Vec 65) : Option (List Int × ByteArray) :=
  cond (leI v7 v1)
   (cond (leI 0 (andI .u64 v1 v8))
    (cond (ltI (andI .u64 v1 v8) (str0.size : Int))
     (cond (leI 0 (subI .i64 v5 1))
      (cond (ltI (subI .i64 v5 1) 65)
       (cond (ltI v6 0)
        (none)
        (Ln0 v0 (shrI .u64 v1 v6) v2 v3 v4 (subI .i64 v5 1) v6 v7 v8 v9 (Vec.st v10 (subI .i64 v5 1) (sAt str0 (andI .u64 v1 v8)))))
       (none))
      (none))
     (none))
    (none))
   (cond (leI 0 v1)
    (cond (ltI v1 (str0.size : Int))
     (cond (leI 0 (subI .i64 v5 1))
      (cond (ltI (subI .i64 v5 1) 65)
       (cond v2
        (cond (leI 0 (subI .i64 (subI .i64 v5 1) 1))
         (cond (ltI (subI .i64 (subI .i64 v5 1) 1) 65)
          (cond v3
           (cond ((((leI 0 (subI .i64 (subI .i64 v5 1) 1)) && (leI (subI .i64 (subI .i64 v5 1) 1) 65)) && (leI 65 65)) && (ltI (subI .i64 (subI .i64 v5 1) 1) 65))
            (none)
            (none))
           (cond ((((leI 0 (subI .i64 (subI .i64 v5 1) 1)) && (leI (subI .i64 (subI .i64 v5 1) 1) 65)) && (leI 65 65)) && (ltI (subI .i64 (subI .i64 v5 1) 1) 65))
            (cond (Nat.ble ((subI .i64 (subI .i64 v5 1) 1).toNat) 65 && Nat.ble 65 65)
             (some (v9, bstr (Vec.cut (Vec.st (Vec.st v10 (subI .i64 v5 1) (sAt str0 v1)) (subI .i64 (subI .i64 v5 1) 1) 45) ((subI .i64 (subI .i64 v5 1) 1).toNat) 65)))
             (none))
            (none)))
          (none))
         (none))
        (cond v3
         (cond ((((leI 0 (subI .i64 v5 1)) && (leI (subI .i64 v5 1) 65)) && (leI 65 65)) && (ltI (subI .i64 v5 1) 65))
          (none)
          (none))
         (cond ((((leI 0 (subI .i64 v5 1)) && (leI (subI .i64 v5 1) 65)) && (leI 65 65)) && (ltI (subI .i64 v5 1) 65))
          (cond (Nat.ble ((subI .i64 v5 1).toNat) 65 && Nat.ble 65 65)
           (some (v9, bstr (Vec.cut (Vec.st v10 (subI .i64 v5 1) (sAt str0 v1)) ((subI .i64 v5 1).toNat) 65)))
           (none))
          (none))))
       (none))
      (none))
     (none))
    (none))
theorem step27_0 (N : Nat) (n : Nat) (v0 : List Int) (v1 : Int) (v2 : Bool) (v3 : Bool) (v4 : ByteArray) (v5 : Int) (v6 : Int) (v7 : Int) (v8 : Int) (v9 : List Int) (v10 : Vec 65) : raw27_0 N  (n + 1) v0 v1 v2 v3 v4 v5 v6 v7 v8 v9 v10 = s27_0 N (raw27_0 N  n) v0 v1 v2 v3 v4 v5 v6 v7 v8 v9 v10 := by kernel_rfl
noncomputable def l27_0 (N : Nat) : Nat → List Int → Int → Bool → Bool → ByteArray → Int → Int → Int → Int → List Int → Vec 65 → Option (List Int × ByteArray)
  | 0 => fun _ _ _ _ _ _ _ _ _ _ _ => none
  | n + 1 => fun v0 v1 v2 v3 v4 v5 v6 v7 v8 v9 v10 => s27_0 N (l27_0 N  n) v0 v1 v2 v3 v4 v5 v6 v7 v8 v9 v10
theorem eq27_0 (N : Nat) : ∀ n, raw27_0 N  n = l27_0 N  n := by
  intro n
  induction n with
  | zero => exact funext fun v0 => funext fun v1 => funext fun v2 => funext fun v3 => funext fun v4 => funext fun v5 => funext fun v6 => funext fun v7 => funext fun v8 => funext fun v9 => funext fun v10 => rfl
  | succ n ih => exact funext fun v0 => funext fun v1 => funext fun v2 => funext fun v3 => funext fun v4 => funext fun v5 => funext fun v6 => funext fun v7 => funext fun v8 => funext fun v9 => funext fun v10 => by rw [step27_0, ih]; rfl
noncomputable def s27_1 (N : Nat) (Ln1 : List Int → Int → Bool → Bool → ByteArray → Int → Int → List Int → Vec 65 → Option (List Int × ByteArray)) (v0 : List Int) (v1 : Int) (v2 : Bool) (v3 : Bool) (v4 : ByteArray) (v5 : Int) (v6 : Int) (v7 : List Int) (v8 : Vec 65) : Option (List Int × ByteArray) :=
  cond (leI v6 v1)
   (cond (eqI v6 0)
    (none)
    (cond (leI 0 (subI .u64 v1 (mulI .u64 (quoI .u64 v1 v6) v6)))
     (cond (ltI (subI .u64 v1 (mulI .u64 (quoI .u64 v1 v6) v6)) (str0.size : Int))
      (cond (leI 0 (subI .i64 v5 1))
       (cond (ltI (subI .i64 v5 1) 65)
        (Ln1 v0 (quoI .u64 v1 v6) v2 v3 v4 (subI .i64 v5 1) v6 v7 (Vec.st v8 (subI .i64 v5 1) (sAt str0 (subI .u64 v1 (mulI .u64 (quoI .u64 v1 v6) v6)))))
        (none))
       (none))
      (none))
     (none)))
   (cond (leI 0 v1)
    (cond (ltI v1 (str0.size : Int))
     (cond (leI 0 (subI .i64 v5 1))
      (cond (ltI (subI .i64 v5 1) 65)
       (cond v2
        (cond (leI 0 (subI .i64 (subI .i64 v5 1) 1))
         (cond (ltI (subI .i64 (subI .i64 v5 1) 1) 65)
          (cond v3
           (cond ((((leI 0 (subI .i64 (subI .i64 v5 1) 1)) && (leI (subI .i64 (subI .i64 v5 1) 1) 65)) && (leI 65 65)) && (ltI (subI .i64 (subI .i64 v5 1) 1) 65))
            (none)
            (none))
           (cond ((((leI 0 (subI .i64 (subI .i64 v5 1) 1)) && (leI (subI .i64 (subI .i64 v5 1) 1) 65)) && (leI 65 65)) && (ltI (subI .i64 (subI .i64 v5 1) 1) 65))
            (cond (Nat.ble ((subI .i64 (subI .i64 v5 1) 1).toNat) 65 && Nat.ble 65 65)
             (some (v7, bstr (Vec.cut (Vec.st (Vec.st v8 (subI .i64 v5 1) (sAt str0 v1)) (subI .i64 (subI .i64 v5 1) 1) 45) ((subI .i64 (subI .i64 v5 1) 1).toNat) 65)))
             (none))
            (none)))
          (none))
         (none))
        (cond v3
         (cond ((((leI 0 (subI .i64 v5 1)) && (leI (subI .i64 v5 1) 65)) && (leI 65 65)) && (ltI (subI .i64 v5 1) 65))
          (none)
          (none))
         (cond ((((leI 0 (subI .i64 v5 1)) && (leI (subI .i64 v5 1) 65)) && (leI 65 65)) && (ltI (subI .i64 v5 1) 65))
          (cond (Nat.ble ((subI .i64 v5 1).toNat) 65 && Nat.ble 65 65)
           (some (v7, bstr (Vec.cut (Vec.st v8 (subI .i64 v5 1) (sAt str0 v1)) ((subI .i64 v5 1).toNat) 65)))
           (none))
          (none))))
       (none))
      (none))
     (none))
    (none))
theorem step27_1 (N : Nat) (n : Nat) (v0 : List Int) (v1 : Int) (v2 : Bool) (v3 : Bool) (v4 : ByteArray) (v5 : Int) (v6 : Int) (v7 : List Int) (v8 : Vec 65) : raw27_1 N  (n + 1) v0 v1 v2 v3 v4 v5 v6 v7 v8 = s27_1 N (raw27_1 N  n) v0 v1 v2 v3 v4 v5 v6 v7 v8 := by kernel_rfl
noncomputable def l27_1 (N : Nat) : Nat → List Int → Int → Bool → Bool → ByteArray → Int → Int → List Int → Vec 65 → Option (List Int × ByteArray)
  | 0 => fun _ _ _ _ _ _ _ _ _ => none
  | n + 1 => fun v0 v1 v2 v3 v4 v5 v6 v7 v8 => s27_1 N (l27_1 N  n) v0 v1 v2 v3 v4 v5 v6 v7 v8
theorem eq27_1 (N : Nat) : ∀ n, raw27_1 N  n = l27_1 N  n := by
  intro n
  induction n with
  | zero => exact funext fun v0 => funext fun v1 => funext fun v2 => funext fun v3 => funext fun v4 => funext fun v5 => funext fun v6 => funext fun v7 => funext fun v8 => rfl
  | succ n ih => exact funext fun v0 => funext fun v1 => funext fun v2 => funext fun v3 => funext fun v4 => funext fun v5 => funext fun v6 => funext fun v7 => funext fun v8 => by rw [step27_1, ih]; rfl
noncomputable def t27 (N : Nat) (Le0 : List Int → Int → Bool → Bool → ByteArray → Int → Int → Int → Int → List Int → Vec 65 → Option (List Int × ByteArray)) (Le1 : List Int → Int → Bool → Bool → ByteArray → Int → Int → List Int → Vec 65 → Option (List Int × ByteArray)) (x0 : List Int) (x1 : Int) (x2 : Int) (x3 : Bool) (x4 : Bool) : Option (List Int × ByteArray) :=
  cond (ltI x2 2)
   (none)
   (cond (eqI x2 10)
    (none)
    (cond (ltI 36 x2)
     (none)
     (cond x3
      ((fn_strconv_isPowerOfTwo N x2).bind fun r1 =>
       cond r1
        ((fn_bits_TrailingZeros N (cvI .u64 x2)).bind fun r2 =>
         Le0 x0 (subI .u64 0 x1) x3 x4 (⟨#[]⟩ : ByteArray) 65 (cvI .u64 r2) (cvI .u64 x2) (subI .u64 (cvI .u64 x2) 1) [] (Vec.zero 65))
        (Le1 x0 (subI .u64 0 x1) x3 x4 (⟨#[]⟩ : ByteArray) 65 (cvI .u64 x2) [] (Vec.zero 65)))
      ((fn_strconv_isPowerOfTwo N x2).bind fun r3 =>
       cond r3
        ((fn_bits_TrailingZeros N (cvI .u64 x2)).bind fun r4 =>
         Le0 x0 x1 x3 x4 (⟨#[]⟩ : ByteArray) 65 (cvI .u64 r4) (cvI .u64 x2) (subI .u64 (cvI .u64 x2) 1) [] (Vec.zero 65))
        (Le1 x0 x1 x3 x4 (⟨#[]⟩ : ByteArray) 65 (cvI .u64 x2) [] (Vec.zero 65))))))
noncomputable def fn_strconv_formatBits (N : Nat) (x0 : List Int) (x1 : Int) (x2 : Int) (x3 : Bool) (x4 : Bool) : Option (List Int × ByteArray) := t27 N (l27_0 N N) (l27_1 N N) x0 x1 x2 x3 x4
theorem run27 (N : Nat) (x0 : List Int) (x1 : Int) (x2 : Int) (x3 : Bool) (x4 : Bool) : Eng.run T27 (G27 N) N live27 c27 Tryd.f27.results.toList Tryd.f27.ntmps ((ad27).enc (x0, x1, x2, x3, x4, ())) (rd27).dec = fn_strconv_formatBits N x0 x1 x2 x3 x4 := by
  refine Eq.trans (show _ = t27 N (raw27_0 N N) (raw27_1 N N) x0 x1 x2 x3 x4 from by kernel_rfl) ?_
  unfold fn_strconv_formatBits
  rw [eq27_0 N N, eq27_1 N N]
noncomputable def F27 (N : Nat) (a : List Int × Int × Int × Bool × Bool × Unit) : Option (List Int × ByteArray) := fn_strconv_formatBits N a.1 a.2.1 a.2.2.1 a.2.2.2.1 a.2.2.2.2.1
theorem ok27 (N : Nat) : FnOK Tryd.prog 27 ad27 rd27 (F27 N) :=
  fn_ok (N := N) (live := live27) (code := c27) (tok T27.rt T27.kl (wrNil_ok)) mixed (gok27 N) Tryd.func27 (by kernel_rfl) (by kernel_rfl) (by kernel_rfl) fun a p h => by rw [← h]; exact run27 N a.1 a.2.1 a.2.2.1 a.2.2.2.1 a.2.2.2.2.1

/-! ### internal/strconv.FormatUint: function 18 -/
noncomputable def c18 : Code := (Tryd.f18.body).getD .skip
noncomputable def T18 : Tb := ⟨tyOf tys, [], [], wrNil⟩
noncomputable def G18 {R : Type} (N : Nat) : FuncId → List AV → (AV → Option R) → Option R := gCons 24 (gOf ad24 rd24 (F24 N)) (gCons 25 (gOf ad25 rd25 (F25 N)) (gCons 27 (gOf ad27 rd27 (F27 N)) (gNil)))
theorem gok18 {R : Type} (N : Nat) : GOK Tryd.prog (G18 (R := R) N) := gCons_ok (ok24 N) (gCons_ok (ok25 N) (gCons_ok (ok27 N) (gNil_ok)))
noncomputable def live18 : List (Nat × List (Nat × HK)) := []
noncomputable def ad18 : Ad (Int × Int × Unit) := aC (cInt .u64) (aC (cInt .i64) (a0))
noncomputable def rd18 : Rd (ByteArray) := r1 (cStr)
noncomputable def fn_strconv_FormatUint (N : Nat) (x0 : Int) (x1 : Int) : Option (ByteArray) :=
  cond (eqI x1 10)
   (cond (ltI x0 100)
    ((fn_strconv_small N (cvI .i64 x0)).bind fun r1 =>
     some r1)
    ((fn_strconv_numDigits N x0).bind fun r2 =>
     cond ((((leI 0 0) && (leI 0 r2)) && (leI r2 24)) && (ltI 0 24))
      (cond (anyNone [cond (Nat.ble 0 r2.toNat && Nat.ble r2.toNat 24) (AV.li .u8 (Vec.cut (Vec.zero 24) 0 r2.toNat)) AV.none, AV.v (.int .u64 x0)])
       (none)
       (none))
      (none)))
   ((fn_strconv_formatBits N [] x0 x1 false false).bind fun r3 =>
    some r3.2)
theorem run18 (N : Nat) (x0 : Int) (x1 : Int) : Eng.run T18 (G18 N) N live18 c18 Tryd.f18.results.toList Tryd.f18.ntmps ((ad18).enc (x0, x1, ())) (rd18).dec = fn_strconv_FormatUint N x0 x1 := by kernel_rfl
noncomputable def F18 (N : Nat) (a : Int × Int × Unit) : Option (ByteArray) := fn_strconv_FormatUint N a.1 a.2.1
theorem ok18 (N : Nat) : FnOK Tryd.prog 18 ad18 rd18 (F18 N) :=
  fn_ok (N := N) (live := live18) (code := c18) (tok T18.rt T18.kl (wrNil_ok)) mixed (gok18 N) Tryd.func18 (by kernel_rfl) (by kernel_rfl) (by kernel_rfl) fun a p h => by rw [← h]; exact run18 N a.1 a.2.1

/-! ### strconv.FormatUint: function 13 -/
noncomputable def c13 : Code := (Tryd.f13.body).getD .skip
noncomputable def T13 : Tb := ⟨tyOf tys, [], [], wrNil⟩
noncomputable def G13 {R : Type} (N : Nat) : FuncId → List AV → (AV → Option R) → Option R := gCons 18 (gOf ad18 rd18 (F18 N)) (gNil)
theorem gok13 {R : Type} (N : Nat) : GOK Tryd.prog (G13 (R := R) N) := gCons_ok (ok18 N) (gNil_ok)
noncomputable def live13 : List (Nat × List (Nat × HK)) := []
noncomputable def ad13 : Ad (Int × Int × Unit) := aC (cInt .u64) (aC (cInt .i64) (a0))
noncomputable def rd13 : Rd (ByteArray) := r1 (cStr)
noncomputable def fn_strconv_FormatUint_13 (N : Nat) (x0 : Int) (x1 : Int) : Option (ByteArray) :=
  (fn_strconv_FormatUint N x0 x1).bind fun r1 =>
   some r1
theorem run13 (N : Nat) (x0 : Int) (x1 : Int) : Eng.run T13 (G13 N) N live13 c13 Tryd.f13.results.toList Tryd.f13.ntmps ((ad13).enc (x0, x1, ())) (rd13).dec = fn_strconv_FormatUint_13 N x0 x1 := by kernel_rfl
noncomputable def F13 (N : Nat) (a : Int × Int × Unit) : Option (ByteArray) := fn_strconv_FormatUint_13 N a.1 a.2.1
theorem ok13 (N : Nat) : FnOK Tryd.prog 13 ad13 rd13 (F13 N) :=
  fn_ok (N := N) (live := live13) (code := c13) (tok T13.rt T13.kl (wrNil_ok)) mixed (gok13 N) Tryd.func13 (by kernel_rfl) (by kernel_rfl) (by kernel_rfl) fun a p h => by rw [← h]; exact run13 N a.1 a.2.1

/-! ### tiller/pat.Hex: function 7 -/
noncomputable def c7 : Code := (Tryd.f7.body).getD .skip
noncomputable def T7 : Tb := ⟨tyOf tys, [], [], wrNil⟩
noncomputable def G7 {R : Type} (N : Nat) : FuncId → List AV → (AV → Option R) → Option R := gCons 13 (gOf ad13 rd13 (F13 N)) (gNil)
theorem gok7 {R : Type} (N : Nat) : GOK Tryd.prog (G7 (R := R) N) := gCons_ok (ok13 N) (gNil_ok)
noncomputable def live7 : List (Nat × List (Nat × HK)) := [(2, [(3, .keep)])]
noncomputable def ad7 : Ad (Int × Unit) := aC (cInt .u64) (a0)
noncomputable def rd7 : Rd (ByteArray) := r1 (cStr)
noncomputable def st7_0 (v0 : ByteArray) : St := ⟨[AV.none, AV.none, AV.none, AV.v (.string v0), AV.none, AV.none, AV.none, AV.none, AV.none, AV.none, AV.none, AV.none], [none, none, none, none, none, none, none, none, none, none, none, none]⟩
noncomputable def raw7_0 (N : Nat) (n : Nat) (v0 : ByteArray) : Option (ByteArray) := loopN (lookN live7 2) (exec T7 (G7 N) N live7 (cL (cL (cL (cR (cR c7)))))) n (st7_0 v0) (blockK 0 (seqK (exec T7 (G7 N) N live7 (cR (cR (cR c7)))) (retK T7 Tryd.f7.results.toList (rd7).dec)))
noncomputable def s7_0 (N : Nat) (Ln0 : ByteArray → Option (ByteArray)) (v0 : ByteArray) : Option (ByteArray) :=
  cond (ltI (v0.size : Int) 16)
   (cond (leI (((⟨#[48]⟩ : ByteArray).size + v0.size : Nat) : Int) 9223372036854775807)
    (Ln0 ((⟨#[48]⟩ : ByteArray) ++ v0))
    (none))
   (some v0)
theorem step7_0 (N : Nat) (n : Nat) (v0 : ByteArray) : raw7_0 N  (n + 1) v0 = s7_0 N (raw7_0 N  n) v0 := by kernel_rfl
noncomputable def l7_0 (N : Nat) : Nat → ByteArray → Option (ByteArray)
  | 0 => fun _ => none
  | n + 1 => fun v0 => s7_0 N (l7_0 N  n) v0
theorem eq7_0 (N : Nat) : ∀ n, raw7_0 N  n = l7_0 N  n := by
  intro n
  induction n with
  | zero => exact funext fun v0 => rfl
  | succ n ih => exact funext fun v0 => by rw [step7_0, ih]; rfl
noncomputable def t7 (N : Nat) (Le0 : ByteArray → Option (ByteArray)) (x0 : Int) : Option (ByteArray) :=
  (fn_strconv_FormatUint_13 N x0 16).bind fun r1 =>
   Le0 r1
noncomputable def fn_pat_Hex (N : Nat) (x0 : Int) : Option (ByteArray) := t7 N (l7_0 N N) x0
theorem run7 (N : Nat) (x0 : Int) : Eng.run T7 (G7 N) N live7 c7 Tryd.f7.results.toList Tryd.f7.ntmps ((ad7).enc (x0, ())) (rd7).dec = fn_pat_Hex N x0 := by
  refine Eq.trans (show _ = t7 N (raw7_0 N N) x0 from by kernel_rfl) ?_
  unfold fn_pat_Hex
  rw [eq7_0 N N]
noncomputable def F7 (N : Nat) (a : Int × Unit) : Option (ByteArray) := fn_pat_Hex N a.1
theorem ok7 (N : Nat) : FnOK Tryd.prog 7 ad7 rd7 (F7 N) :=
  fn_ok (N := N) (live := live7) (code := c7) (tok T7.rt T7.kl (wrNil_ok)) mixed (gok7 N) Tryd.func7 (by kernel_rfl) (by kernel_rfl) (by kernel_rfl) fun a p h => by rw [← h]; exact run7 N a.1

/-! ### tiller/tillerlaw03.sure: function 10 -/
noncomputable def c10 : Code := (Tryd.f10.body).getD .skip
noncomputable def T10 : Tb := ⟨tyOf tys, [], [], wrNil⟩
noncomputable def G10 {R : Type} (N : Nat) : FuncId → List AV → (AV → Option R) → Option R := gCons 15 (gOf ad15 rd15 (F15 N)) (gCons 16 (gOf ad16 rd16 (F16 N)) (gCons 7 (gOf ad7 rd7 (F7 N)) (gNil)))
theorem gok10 {R : Type} (N : Nat) : GOK Tryd.prog (G10 (R := R) N) := gCons_ok (ok15 N) (gCons_ok (ok16 N) (gCons_ok (ok7 N) (gNil_ok)))
noncomputable def live10 : List (Nat × List (Nat × HK)) := []
noncomputable def ad10 : Ad (Unit) := a0
noncomputable def rd10 : Rd (Bool) := r1 (cBool)
noncomputable def fn_tillerlaw03_sure (N : Nat)  : Option (Bool) :=
  (fn_pat_Take N 4607182418800017408).bind fun r1 =>
   cond ((eqB r1.1 false) && ((eqI r1.2.1 2) && ((eqI r1.2.2.1 (-52)) && ((eqI r1.2.2.2 4503599627370496) && true))))
    ((fn_pat_IsNaN N 9221120237041090560).bind fun r2 =>
     cond r2
      ((fn_pat_Hex N 10).bind fun r3 =>
       some (eqS r3 (⟨#[48, 48, 48, 48, 48, 48, 48, 48, 48, 48, 48, 48, 48, 48, 48, 97]⟩ : ByteArray)))
      (some false))
    (some false)
theorem run10 (N : Nat)  : Eng.run T10 (G10 N) N live10 c10 Tryd.f10.results.toList Tryd.f10.ntmps ((ad10).enc (())) (rd10).dec = fn_tillerlaw03_sure N  := by kernel_rfl
noncomputable def F10 (N : Nat) (a : Unit) : Option (Bool) := fn_tillerlaw03_sure N 
theorem ok10 (N : Nat) : FnOK Tryd.prog 10 ad10 rd10 (F10 N) :=
  fn_ok (N := N) (live := live10) (code := c10) (tok T10.rt T10.kl (wrNil_ok)) mixed (gok10 N) Tryd.func10 (by kernel_rfl) (by kernel_rfl) (by kernel_rfl) fun a p h => by rw [← h]; exact run10 N 
end Go.Proofs.YtnpcejiijhgkjaaDoor.Fns

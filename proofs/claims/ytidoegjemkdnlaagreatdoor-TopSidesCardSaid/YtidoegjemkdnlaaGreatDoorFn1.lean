/- Go functions as plain Lean functions, and the engine's run of each. No statement is proved here. Laid by eng.py. -/
import Derived.Test.YtidoegjemkdnlaaGreatDoorFn0
namespace Go.Proofs.YtidoegjemkdnlaaGreatDoor.Fns
open Go Go.RowKit Go.Proofs Go.Proofs.YtidoegjemkdnlaaGreatDoor.Eng Go.Proofs.YtidoegjemkdnlaaGreatDoor.Num Go.Proofs.YtidoegjemkdnlaaGreatDoor.Slc
set_option linter.unusedVariables false
set_option maxRecDepth 100000
/-! ### tiller/pat.Abs: function 16 -/
noncomputable def c16 : Code := (Tryz.f16.body).getD .skip
noncomputable def T16 : Tb := ⟨tyOf tys, [], [], wrNil⟩
noncomputable def G16 {R : Type} (N : Nat) : FuncId → List AV → (AV → Option R) → Option R := gNil
theorem gok16 {R : Type} (N : Nat) : GOK Tryz.prog (G16 (R := R) N) := gNil_ok
noncomputable def live16 : List (Nat × List (Nat × HK)) := []
noncomputable def ad16 : Ad (Int × Unit) := aC (cInt .u64) (a0)
noncomputable def rd16 : Rd (Int) := r1 (cInt .u64)
noncomputable def fn_pat_Abs (N : Nat) (x0 : Int) : Option (Int) :=
  some (bicI .u64 x0 9223372036854775808)
theorem run16 (N : Nat) (x0 : Int) : Eng.run T16 (G16 N) N live16 c16 Tryz.f16.results.toList Tryz.f16.ntmps ((ad16).enc (x0, ())) (rd16).dec = fn_pat_Abs N x0 := by kernel_rfl
noncomputable def F16 (N : Nat) (a : Int × Unit) : Option (Int) := fn_pat_Abs N a.1
theorem ok16 (N : Nat) : FnOK Tryz.prog 16 ad16 rd16 (F16 N) :=
  fn_ok (N := N) (live := live16) (code := c16) (tok T16.rt T16.kl (wrNil_ok)) mixed (gok16 N) Tryz.func16 (by kernel_rfl) (by kernel_rfl) (by kernel_rfl) fun a p h => by rw [← h]; exact run16 N a.1

/-! ### tiller/pat.IsNaN: function 14 -/
noncomputable def c14 : Code := (Tryz.f14.body).getD .skip
noncomputable def T14 : Tb := ⟨tyOf tys, [], [], wrNil⟩
noncomputable def G14 {R : Type} (N : Nat) : FuncId → List AV → (AV → Option R) → Option R := gCons 16 (gOf ad16 rd16 (F16 N)) (gNil)
theorem gok14 {R : Type} (N : Nat) : GOK Tryz.prog (G14 (R := R) N) := gCons_ok (ok16 N) (gNil_ok)
noncomputable def live14 : List (Nat × List (Nat × HK)) := []
noncomputable def ad14 : Ad (Int × Unit) := aC (cInt .u64) (a0)
noncomputable def rd14 : Rd (Bool) := r1 (cBool)
noncomputable def fn_pat_IsNaN (N : Nat) (x0 : Int) : Option (Bool) :=
  (fn_pat_Abs N x0).bind fun r1 =>
   some (ltI 9218868437227405312 r1)
theorem run14 (N : Nat) (x0 : Int) : Eng.run T14 (G14 N) N live14 c14 Tryz.f14.results.toList Tryz.f14.ntmps ((ad14).enc (x0, ())) (rd14).dec = fn_pat_IsNaN N x0 := by kernel_rfl
noncomputable def F14 (N : Nat) (a : Int × Unit) : Option (Bool) := fn_pat_IsNaN N a.1
theorem ok14 (N : Nat) : FnOK Tryz.prog 14 ad14 rd14 (F14 N) :=
  fn_ok (N := N) (live := live14) (code := c14) (tok T14.rt T14.kl (wrNil_ok)) mixed (gok14 N) Tryz.func14 (by kernel_rfl) (by kernel_rfl) (by kernel_rfl) fun a p h => by rw [← h]; exact run14 N a.1

/-! ### tiller/pat.Take: function 28 -/
noncomputable def c28 : Code := (Tryz.f28.body).getD .skip
noncomputable def T28 : Tb := ⟨tyOf tys, [(15, 3), (20, 3), (24, 3), (29, 3), (34, 3), (38, 3), (45, 3), (48, 3), (49, 3), (50, 3), (52, 3), (55, 3), (56, 3)], [], wrNil⟩
noncomputable def G28 {R : Type} (N : Nat) : FuncId → List AV → (AV → Option R) → Option R := gNil
theorem gok28 {R : Type} (N : Nat) : GOK Tryz.prog (G28 (R := R) N) := gNil_ok
noncomputable def live28 : List (Nat × List (Nat × HK)) := []
noncomputable def ad28 : Ad (Int × Unit) := aC (cInt .u64) (a0)
noncomputable def rd28 : Rd ((Bool × Int × Int × Int)) := r1 (cSt (fC (lBool) (fC (lInt .i64) (fC (lInt .i64) (fO (lInt .u64))))))
noncomputable def fn_pat_Take (N : Nat) (x0 : Int) : Option ((Bool × Int × Int × Int)) :=
  cond (eqI (andI .i64 (cvI .i64 (shrI .u64 x0 52)) 2047) 2047)
   (cond (eqI (andI .u64 x0 4503599627370495) 0)
    (some (!(eqI (andI .u64 x0 9223372036854775808) 0), 3, 0, andI .u64 x0 4503599627370495))
    (cond (eqI (andI .i64 (cvI .i64 (shrI .u64 x0 52)) 2047) 2047)
     (cond (!(eqI (andI .u64 (andI .u64 x0 4503599627370495) 2251799813685248) 0))
      (some (!(eqI (andI .u64 x0 9223372036854775808) 0), 4, 0, andI .u64 x0 4503599627370495))
      (cond (eqI (andI .i64 (cvI .i64 (shrI .u64 x0 52)) 2047) 2047)
       (some (!(eqI (andI .u64 x0 9223372036854775808) 0), 5, 0, andI .u64 x0 4503599627370495))
       (cond (ltI 0 (andI .i64 (cvI .i64 (shrI .u64 x0 52)) 2047))
        (some (!(eqI (andI .u64 x0 9223372036854775808) 0), 2, subI .i64 (addI .i64 (andI .i64 (cvI .i64 (shrI .u64 x0 52)) 2047) (-1074)) 1, orI .u64 (andI .u64 x0 4503599627370495) 4503599627370496))
        (cond (ltI 0 (andI .u64 x0 4503599627370495))
         (some (!(eqI (andI .u64 x0 9223372036854775808) 0), 1, (-1074), andI .u64 x0 4503599627370495))
         (some (!(eqI (andI .u64 x0 9223372036854775808) 0), 0, (-1074), andI .u64 x0 4503599627370495))))))
     (cond (eqI (andI .i64 (cvI .i64 (shrI .u64 x0 52)) 2047) 2047)
      (some (!(eqI (andI .u64 x0 9223372036854775808) 0), 5, 0, andI .u64 x0 4503599627370495))
      (cond (ltI 0 (andI .i64 (cvI .i64 (shrI .u64 x0 52)) 2047))
       (some (!(eqI (andI .u64 x0 9223372036854775808) 0), 2, subI .i64 (addI .i64 (andI .i64 (cvI .i64 (shrI .u64 x0 52)) 2047) (-1074)) 1, orI .u64 (andI .u64 x0 4503599627370495) 4503599627370496))
       (cond (ltI 0 (andI .u64 x0 4503599627370495))
        (some (!(eqI (andI .u64 x0 9223372036854775808) 0), 1, (-1074), andI .u64 x0 4503599627370495))
        (some (!(eqI (andI .u64 x0 9223372036854775808) 0), 0, (-1074), andI .u64 x0 4503599627370495)))))))
   (cond (eqI (andI .i64 (cvI .i64 (shrI .u64 x0 52)) 2047) 2047)
    (cond (!(eqI (andI .u64 (andI .u64 x0 4503599627370495) 2251799813685248) 0))
     (some (!(eqI (andI .u64 x0 9223372036854775808) 0), 4, 0, andI .u64 x0 4503599627370495))
     (cond (eqI (andI .i64 (cvI .i64 (shrI .u64 x0 52)) 2047) 2047)
      (some (!(eqI (andI .u64 x0 9223372036854775808) 0), 5, 0, andI .u64 x0 4503599627370495))
      (cond (ltI 0 (andI .i64 (cvI .i64 (shrI .u64 x0 52)) 2047))
       (some (!(eqI (andI .u64 x0 9223372036854775808) 0), 2, subI .i64 (addI .i64 (andI .i64 (cvI .i64 (shrI .u64 x0 52)) 2047) (-1074)) 1, orI .u64 (andI .u64 x0 4503599627370495) 4503599627370496))
       (cond (ltI 0 (andI .u64 x0 4503599627370495))
        (some (!(eqI (andI .u64 x0 9223372036854775808) 0), 1, (-1074), andI .u64 x0 4503599627370495))
        (some (!(eqI (andI .u64 x0 9223372036854775808) 0), 0, (-1074), andI .u64 x0 4503599627370495))))))
    (cond (eqI (andI .i64 (cvI .i64 (shrI .u64 x0 52)) 2047) 2047)
     (some (!(eqI (andI .u64 x0 9223372036854775808) 0), 5, 0, andI .u64 x0 4503599627370495))
     (cond (ltI 0 (andI .i64 (cvI .i64 (shrI .u64 x0 52)) 2047))
      (some (!(eqI (andI .u64 x0 9223372036854775808) 0), 2, subI .i64 (addI .i64 (andI .i64 (cvI .i64 (shrI .u64 x0 52)) 2047) (-1074)) 1, orI .u64 (andI .u64 x0 4503599627370495) 4503599627370496))
      (cond (ltI 0 (andI .u64 x0 4503599627370495))
       (some (!(eqI (andI .u64 x0 9223372036854775808) 0), 1, (-1074), andI .u64 x0 4503599627370495))
       (some (!(eqI (andI .u64 x0 9223372036854775808) 0), 0, (-1074), andI .u64 x0 4503599627370495))))))
theorem run28 (N : Nat) (x0 : Int) : Eng.run T28 (G28 N) N live28 c28 Tryz.f28.results.toList Tryz.f28.ntmps ((ad28).enc (x0, ())) (rd28).dec = fn_pat_Take N x0 := by kernel_rfl
noncomputable def F28 (N : Nat) (a : Int × Unit) : Option ((Bool × Int × Int × Int)) := fn_pat_Take N a.1
theorem ok28 (N : Nat) : FnOK Tryz.prog 28 ad28 rd28 (F28 N) :=
  fn_ok (N := N) (live := live28) (code := c28) (tok T28.rt T28.kl (wrNil_ok)) mixed (gok28 N) Tryz.func28 (by kernel_rfl) (by kernel_rfl) (by kernel_rfl) fun a p h => by rw [← h]; exact run28 N a.1

/-! ### tiller/pat.Class: function 19 -/
noncomputable def c19 : Code := (Tryz.f19.body).getD .skip
noncomputable def T19 : Tb := ⟨tyOf tys, [], [], wrNil⟩
noncomputable def G19 {R : Type} (N : Nat) : FuncId → List AV → (AV → Option R) → Option R := gCons 28 (gOf ad28 rd28 (F28 N)) (gNil)
theorem gok19 {R : Type} (N : Nat) : GOK Tryz.prog (G19 (R := R) N) := gCons_ok (ok28 N) (gNil_ok)
noncomputable def live19 : List (Nat × List (Nat × HK)) := []
noncomputable def ad19 : Ad (Int × Unit) := aC (cInt .u64) (a0)
noncomputable def rd19 : Rd (Int) := r1 (cInt .i64)
noncomputable def fn_pat_Class (N : Nat) (x0 : Int) : Option (Int) :=
  (fn_pat_Take N x0).bind fun r1 =>
   some r1.2.1
theorem run19 (N : Nat) (x0 : Int) : Eng.run T19 (G19 N) N live19 c19 Tryz.f19.results.toList Tryz.f19.ntmps ((ad19).enc (x0, ())) (rd19).dec = fn_pat_Class N x0 := by kernel_rfl
noncomputable def F19 (N : Nat) (a : Int × Unit) : Option (Int) := fn_pat_Class N a.1
theorem ok19 (N : Nat) : FnOK Tryz.prog 19 ad19 rd19 (F19 N) :=
  fn_ok (N := N) (live := live19) (code := c19) (tok T19.rt T19.kl (wrNil_ok)) mixed (gok19 N) Tryz.func19 (by kernel_rfl) (by kernel_rfl) (by kernel_rfl) fun a p h => by rw [← h]; exact run19 N a.1

/-! ### tiller/sums.none: function 18 -/
noncomputable def c18 : Code := (Tryz.f18.body).getD .skip
noncomputable def T18 : Tb := ⟨tyOf tys, [], [], wrNil⟩
noncomputable def G18 {R : Type} (N : Nat) : FuncId → List AV → (AV → Option R) → Option R := gCons 19 (gOf ad19 rd19 (F19 N)) (gNil)
theorem gok18 {R : Type} (N : Nat) : GOK Tryz.prog (G18 (R := R) N) := gCons_ok (ok19 N) (gNil_ok)
noncomputable def live18 : List (Nat × List (Nat × HK)) := [(2, [(6, .keep), (7, .keep), (8, .keep)])]
noncomputable def ad18 : Ad (List Int × Unit) := aC (cLi .u64) (a0)
noncomputable def rd18 : Rd (Int × Int) := r2 (cInt .u64) (cInt .u8)
noncomputable def st18_0 (v0 : List Int) (v1 : Int) (v2 : Int) : St := ⟨[AV.none, AV.none, AV.none, AV.none, AV.none, AV.none, AV.li .u64 v0, AV.v (.int .i64 v1), AV.v (.int .i64 v2), AV.none, AV.none, AV.none, AV.none, AV.none, AV.none, AV.none], [none, none, none, none, none, none, none, none, none, none, none, none, none, none, none, none]⟩
noncomputable def raw18_0 (N : Nat) (n : Nat) (v0 : List Int) (v1 : Int) (v2 : Int) : Option (Int × Int) := loopN (lookN live18 2) (exec T18 (G18 N) N live18 (cL (cL (cR (cL (cR c18)))))) n (st18_0 v0 v1 v2) (blockK 0 (seqK (exec T18 (G18 N) N live18 (cR (cR c18))) (retK T18 Tryz.f18.results.toList (rd18).dec)))
noncomputable def s18_0 (N : Nat) (Ln0 : List Int → Int → Int → Option (Int × Int)) (v0 : List Int) (v1 : Int) (v2 : Int) : Option (Int × Int) :=
  cond (ltI v2 v1)
   (cond (leI 0 v2)
    (cond (ltI v2 (v0.length : Int))
     ((fn_pat_Class N (lrd v0 v2)).bind fun r1 =>
      cond (eqI r1 5)
       (some (9221120237041090560, 1))
       (Ln0 v0 v1 (addI .i64 v2 1)))
     (none))
    (none))
   (some (9221120237041090560, 0))
theorem step18_0 (N : Nat) (n : Nat) (v0 : List Int) (v1 : Int) (v2 : Int) : raw18_0 N  (n + 1) v0 v1 v2 = s18_0 N (raw18_0 N  n) v0 v1 v2 := by kernel_rfl
noncomputable def l18_0 (N : Nat) : Nat → List Int → Int → Int → Option (Int × Int)
  | 0 => fun _ _ _ => none
  | n + 1 => fun v0 v1 v2 => s18_0 N (l18_0 N  n) v0 v1 v2
theorem eq18_0 (N : Nat) : ∀ n, raw18_0 N  n = l18_0 N  n := by
  intro n
  induction n with
  | zero => exact funext fun v0 => funext fun v1 => funext fun v2 => rfl
  | succ n ih => exact funext fun v0 => funext fun v1 => funext fun v2 => by rw [step18_0, ih]; rfl
noncomputable def t18 (N : Nat) (Le0 : List Int → Int → Int → Option (Int × Int)) (x0 : List Int) : Option (Int × Int) :=
  Le0 x0 (x0.length : Int) 0
noncomputable def fn_sums_none (N : Nat) (x0 : List Int) : Option (Int × Int) := t18 N (l18_0 N N) x0
theorem run18 (N : Nat) (x0 : List Int) : Eng.run T18 (G18 N) N live18 c18 Tryz.f18.results.toList Tryz.f18.ntmps ((ad18).enc (x0, ())) (rd18).dec = fn_sums_none N x0 := by
  refine Eq.trans (show _ = t18 N (raw18_0 N N) x0 from by kernel_rfl) ?_
  unfold fn_sums_none
  rw [eq18_0 N N]
noncomputable def F18 (N : Nat) (a : List Int × Unit) : Option (Int × Int) := fn_sums_none N a.1
theorem ok18 (N : Nat) : FnOK Tryz.prog 18 ad18 rd18 (F18 N) :=
  fn_ok (N := N) (live := live18) (code := c18) (tok T18.rt T18.kl (wrNil_ok)) mixed (gok18 N) Tryz.func18 (by kernel_rfl) (by kernel_rfl) (by kernel_rfl) fun a p h => by rw [← h]; exact run18 N a.1

/-! ### tiller/pat.Finite: function 25 -/
noncomputable def c25 : Code := (Tryz.f25.body).getD .skip
noncomputable def T25 : Tb := ⟨tyOf tys, [], [], wrNil⟩
noncomputable def G25 {R : Type} (N : Nat) : FuncId → List AV → (AV → Option R) → Option R := gCons 16 (gOf ad16 rd16 (F16 N)) (gNil)
theorem gok25 {R : Type} (N : Nat) : GOK Tryz.prog (G25 (R := R) N) := gCons_ok (ok16 N) (gNil_ok)
noncomputable def live25 : List (Nat × List (Nat × HK)) := []
noncomputable def ad25 : Ad (Int × Unit) := aC (cInt .u64) (a0)
noncomputable def rd25 : Rd (Bool) := r1 (cBool)
noncomputable def fb_25 (N : Nat) (x0 : Int) : Option (Bool) :=
  (fn_pat_Abs N x0).bind fun r1 =>
   some (ltI r1 9218868437227405312)
theorem run25 (N : Nat) (x0 : Int) : Eng.run T25 (G25 N) N live25 c25 Tryz.f25.results.toList Tryz.f25.ntmps ((ad25).enc (x0, ())) (rd25).dec = fb_25 N x0 := by kernel_rfl
noncomputable def fn_pat_Finite (N : Nat) (x0 : Int) : Option (Bool) := guardN N (fb_25 N x0)
noncomputable def F25 (N : Nat) (a : Int × Unit) : Option (Bool) := fn_pat_Finite N a.1
theorem ok25 (N : Nat) : FnOK Tryz.prog 25 ad25 rd25 (F25 N) :=
  fn_ok (N := N) (live := live25) (code := c25) (tok T25.rt T25.kl (wrNil_ok)) mixed (gok25 N) Tryz.func25 (by kernel_rfl) (by kernel_rfl) (by kernel_rfl) fun a p h => by rw [← guard_some h]; exact run25 N a.1

/-! ### tiller/wide.Of: function 32 -/
noncomputable def c32 : Code := (Tryz.f32.body).getD .skip
noncomputable def T32 : Tb := ⟨tyOf tys, [], [], wrNil⟩
noncomputable def G32 {R : Type} (N : Nat) : FuncId → List AV → (AV → Option R) → Option R := gNil
theorem gok32 {R : Type} (N : Nat) : GOK Tryz.prog (G32 (R := R) N) := gNil_ok
noncomputable def live32 : List (Nat × List (Nat × HK)) := []
noncomputable def ad32 : Ad (Int × Unit) := aC (cInt .u64) (a0)
noncomputable def rd32 : Rd (Vec 4) := r1 (cVec .u64 4)
noncomputable def fn_wide_Of (N : Nat) (x0 : Int) : Option (Vec 4) :=
  some (Vec.st (Vec.zero 4) 0 x0)
theorem run32 (N : Nat) (x0 : Int) : Eng.run T32 (G32 N) N live32 c32 Tryz.f32.results.toList Tryz.f32.ntmps ((ad32).enc (x0, ())) (rd32).dec = fn_wide_Of N x0 := by kernel_rfl
noncomputable def F32 (N : Nat) (a : Int × Unit) : Option (Vec 4) := fn_wide_Of N a.1
theorem ok32 (N : Nat) : FnOK Tryz.prog 32 ad32 rd32 (F32 N) :=
  fn_ok (N := N) (live := live32) (code := c32) (tok T32.rt T32.kl (wrNil_ok)) mixed (gok32 N) Tryz.func32 (by kernel_rfl) (by kernel_rfl) (by kernel_rfl) fun a p h => by rw [← h]; exact run32 N a.1

/-! ### tiller/rnd.Of: function 20 -/
noncomputable def c20 : Code := (Tryz.f20.body).getD .skip
noncomputable def T20 : Tb := ⟨tyOf tys, [(12, 4), (14, 4), (16, 4)], [], wrNil⟩
noncomputable def G20 {R : Type} (N : Nat) : FuncId → List AV → (AV → Option R) → Option R := gCons 28 (gOf ad28 rd28 (F28 N)) (gCons 25 (gOf ad25 rd25 (F25 N)) (gCons 32 (gOf ad32 rd32 (F32 N)) (gNil)))
theorem gok20 {R : Type} (N : Nat) : GOK Tryz.prog (G20 (R := R) N) := gCons_ok (ok28 N) (gCons_ok (ok25 N) (gCons_ok (ok32 N) (gNil_ok)))
noncomputable def live20 : List (Nat × List (Nat × HK)) := []
noncomputable def ad20 : Ad (Int × Unit) := aC (cInt .u64) (a0)
noncomputable def rd20 : Rd ((Bool × Int × Vec 4 × Bool) × Option Int) := r2 (cSta (sC (pBool) (sC (pInt .i64) (sC (pVec .u64 4) (sO (pBool)))))) (cErr 83)
noncomputable def fn_rnd_Of (N : Nat) (x0 : Int) : Option ((Bool × Int × Vec 4 × Bool) × Option Int) :=
  (fn_pat_Take N x0).bind fun r1 =>
   (fn_pat_Finite N x0).bind fun r2 =>
    cond (!(r2))
     (some ((false, 0, Vec.zero 4, false), some 1))
     ((fn_wide_Of N r1.2.2.2).bind fun r3 =>
      some ((r1.1, r1.2.2.1, r3, false), none))
theorem run20 (N : Nat) (x0 : Int) : Eng.run T20 (G20 N) N live20 c20 Tryz.f20.results.toList Tryz.f20.ntmps ((ad20).enc (x0, ())) (rd20).dec = fn_rnd_Of N x0 := by kernel_rfl
noncomputable def F20 (N : Nat) (a : Int × Unit) : Option ((Bool × Int × Vec 4 × Bool) × Option Int) := fn_rnd_Of N a.1
theorem ok20 (N : Nat) : FnOK Tryz.prog 20 ad20 rd20 (F20 N) :=
  fn_ok (N := N) (live := live20) (code := c20) (tok T20.rt T20.kl (wrNil_ok)) mixed (gok20 N) Tryz.func20 (by kernel_rfl) (by kernel_rfl) (by kernel_rfl) fun a p h => by rw [← h]; exact run20 N a.1

/-! ### tiller/sums.nought: function 54 -/
noncomputable def c54 : Code := (Tryz.f54.body).getD .skip
noncomputable def T54 : Tb := ⟨tyOf tys, [], [], wrNil⟩
noncomputable def G54 {R : Type} (N : Nat) : FuncId → List AV → (AV → Option R) → Option R := gNil
theorem gok54 {R : Type} (N : Nat) : GOK Tryz.prog (G54 (R := R) N) := gNil_ok
noncomputable def live54 : List (Nat × List (Nat × HK)) := []
noncomputable def ad54 : Ad (Bool × Bool × Int × Unit) := aC (cBool) (aC (cBool) (aC (cInt .i64) (a0)))
noncomputable def rd54 : Rd ((Bool × Int × Vec 4 × Bool)) := r1 (cSta (sC (pBool) (sC (pInt .i64) (sC (pVec .u64 4) (sO (pBool))))))
noncomputable def fn_sums_nought (N : Nat) (x0 : Bool) (x1 : Bool) (x2 : Int) : Option ((Bool × Int × Vec 4 × Bool)) :=
  cond (eqB x0 x1)
   (some (x0, 0, Vec.zero 4, false))
   (some (eqI x2 4, 0, Vec.zero 4, false))
theorem run54 (N : Nat) (x0 : Bool) (x1 : Bool) (x2 : Int) : Eng.run T54 (G54 N) N live54 c54 Tryz.f54.results.toList Tryz.f54.ntmps ((ad54).enc (x0, x1, x2, ())) (rd54).dec = fn_sums_nought N x0 x1 x2 := by kernel_rfl
noncomputable def F54 (N : Nat) (a : Bool × Bool × Int × Unit) : Option ((Bool × Int × Vec 4 × Bool)) := fn_sums_nought N a.1 a.2.1 a.2.2.1
theorem ok54 (N : Nat) : FnOK Tryz.prog 54 ad54 rd54 (F54 N) :=
  fn_ok (N := N) (live := live54) (code := c54) (tok T54.rt T54.kl (wrNil_ok)) mixed (gok54 N) Tryz.func54 (by kernel_rfl) (by kernel_rfl) (by kernel_rfl) fun a p h => by rw [← h]; exact run54 N a.1 a.2.1 a.2.2.1

/-! ### math/bits.Len64: function 83 -/
noncomputable def c83 : Code := (Tryz.f83.body).getD .skip
noncomputable def T83 : Tb := ⟨tyOf tys, [], [], wrNil⟩
noncomputable def G83 {R : Type} (N : Nat) : FuncId → List AV → (AV → Option R) → Option R := gNil
theorem gok83 {R : Type} (N : Nat) : GOK Tryz.prog (G83 (R := R) N) := gNil_ok
noncomputable def live83 : List (Nat × List (Nat × HK)) := []
noncomputable def ad83 : Ad (Int × Unit) := aC (cInt .u64) (a0)
noncomputable def rd83 : Rd (Int) := r1 (cInt .i64)
noncomputable def fn_bits_Len64 (N : Nat) (x0 : Int) : Option (Int) :=
  cond (leI 4294967296 x0)
   (cond (leI 65536 (shrI .u64 x0 32))
    (cond (leI 256 (shrI .u64 (shrI .u64 x0 32) 16))
     (cond (leI 0 (cvI .u8 (shrI .u64 (shrI .u64 (shrI .u64 x0 32) 16) 8)))
      (cond (ltI (cvI .u8 (shrI .u64 (shrI .u64 (shrI .u64 x0 32) 16) 8)) (str0.size : Int))
       (some (addI .i64 (addI .i64 (addI .i64 32 16) 8) (cvI .i64 (sAt str0 (cvI .u8 (shrI .u64 (shrI .u64 (shrI .u64 x0 32) 16) 8))))))
       (none))
      (none))
     (cond (leI 0 (cvI .u8 (shrI .u64 (shrI .u64 x0 32) 16)))
      (cond (ltI (cvI .u8 (shrI .u64 (shrI .u64 x0 32) 16)) (str0.size : Int))
       (some (addI .i64 (addI .i64 32 16) (cvI .i64 (sAt str0 (cvI .u8 (shrI .u64 (shrI .u64 x0 32) 16))))))
       (none))
      (none)))
    (cond (leI 256 (shrI .u64 x0 32))
     (cond (leI 0 (cvI .u8 (shrI .u64 (shrI .u64 x0 32) 8)))
      (cond (ltI (cvI .u8 (shrI .u64 (shrI .u64 x0 32) 8)) (str0.size : Int))
       (some (addI .i64 (addI .i64 32 8) (cvI .i64 (sAt str0 (cvI .u8 (shrI .u64 (shrI .u64 x0 32) 8))))))
       (none))
      (none))
     (cond (leI 0 (cvI .u8 (shrI .u64 x0 32)))
      (cond (ltI (cvI .u8 (shrI .u64 x0 32)) (str0.size : Int))
       (some (addI .i64 32 (cvI .i64 (sAt str0 (cvI .u8 (shrI .u64 x0 32))))))
       (none))
      (none))))
   (cond (leI 65536 x0)
    (cond (leI 256 (shrI .u64 x0 16))
     (cond (leI 0 (cvI .u8 (shrI .u64 (shrI .u64 x0 16) 8)))
      (cond (ltI (cvI .u8 (shrI .u64 (shrI .u64 x0 16) 8)) (str0.size : Int))
       (some (addI .i64 (addI .i64 (addI .i64 0 16) 8) (cvI .i64 (sAt str0 (cvI .u8 (shrI .u64 (shrI .u64 x0 16) 8))))))
       (none))
      (none))
     (cond (leI 0 (cvI .u8 (shrI .u64 x0 16)))
      (cond (ltI (cvI .u8 (shrI .u64 x0 16)) (str0.size : Int))
       (some (addI .i64 (addI .i64 0 16) (cvI .i64 (sAt str0 (cvI .u8 (shrI .u64 x0 16))))))
       (none))
      (none)))
    (cond (leI 256 x0)
     (cond (leI 0 (cvI .u8 (shrI .u64 x0 8)))
      (cond (ltI (cvI .u8 (shrI .u64 x0 8)) (str0.size : Int))
       (some (addI .i64 (addI .i64 0 8) (cvI .i64 (sAt str0 (cvI .u8 (shrI .u64 x0 8))))))
       (none))
      (none))
     (cond (leI 0 (cvI .u8 x0))
      (cond (ltI (cvI .u8 x0) (str0.size : Int))
       (some (addI .i64 0 (cvI .i64 (sAt str0 (cvI .u8 x0)))))
       (none))
      (none))))
theorem run83 (N : Nat) (x0 : Int) : Eng.run T83 (G83 N) N live83 c83 Tryz.f83.results.toList Tryz.f83.ntmps ((ad83).enc (x0, ())) (rd83).dec = fn_bits_Len64 N x0 := by kernel_rfl
noncomputable def F83 (N : Nat) (a : Int × Unit) : Option (Int) := fn_bits_Len64 N a.1
theorem ok83 (N : Nat) : FnOK Tryz.prog 83 ad83 rd83 (F83 N) :=
  fn_ok (N := N) (live := live83) (code := c83) (tok T83.rt T83.kl (wrNil_ok)) mixed (gok83 N) Tryz.func83 (by kernel_rfl) (by kernel_rfl) (by kernel_rfl) fun a p h => by rw [← h]; exact run83 N a.1

/-! ### tiller/wide.Len: function 49 -/
noncomputable def c49 : Code := (Tryz.f49.body).getD .skip
noncomputable def T49 : Tb := ⟨tyOf tys, [(9, 1), (15, 1)], [], wrNil⟩
noncomputable def G49 {R : Type} (N : Nat) : FuncId → List AV → (AV → Option R) → Option R := gCons 83 (gOf ad83 rd83 (F83 N)) (gNil)
theorem gok49 {R : Type} (N : Nat) : GOK Tryz.prog (G49 (R := R) N) := gCons_ok (ok83 N) (gNil_ok)
noncomputable def live49 : List (Nat × List (Nat × HK)) := [(2, [(1, .keep), (3, .keep)])]
noncomputable def ad49 : Ad (Vec 4 × Unit) := aC (cVec .u64 4) (a0)
noncomputable def rd49 : Rd (Int) := r1 (cInt .i64)
noncomputable def st49_0 (v0 : Int) (v1 : Vec 4) : St := ⟨[AV.none, AV.ptr 1 0, AV.none, AV.v (.int .i64 v0), AV.none, AV.none, AV.none, AV.none, AV.none, AV.none, AV.none, AV.none, AV.none, AV.none, AV.none, AV.none, AV.none, AV.none, AV.none], [none, some (OB.arr .u64 4 v1), none, none, none, none, none, none, none, none, none, none, none, none, none, none, none, none, none]⟩
noncomputable def raw49_0 (N : Nat) (n : Nat) (v0 : Int) (v1 : Vec 4) : Option (Int) := loopN (lookN live49 2) (exec T49 (G49 N) N live49 (cL (cL (cR (cL (cR c49)))))) n (st49_0 v0 v1) (blockK 0 (seqK (exec T49 (G49 N) N live49 (cR (cR c49))) (retK T49 Tryz.f49.results.toList (rd49).dec)))
noncomputable def s49_0 (N : Nat) (Ln0 : Int → Vec 4 → Option (Int)) (v0 : Int) (v1 : Vec 4) : Option (Int) :=
  cond (leI 0 v0)
   (cond (leI 0 v0)
    (cond (ltI v0 4)
     (cond (!(eqI (Vec.rd v1 v0) 0))
      (cond (leI 0 v0)
       (cond (ltI v0 4)
        ((fn_bits_Len64 N (Vec.rd v1 v0)).bind fun r1 =>
         some (addI .i64 (mulI .i64 64 v0) r1))
        (none))
       (none))
      (Ln0 (subI .i64 v0 1) v1))
     (none))
    (none))
   (some 0)
theorem step49_0 (N : Nat) (n : Nat) (v0 : Int) (v1 : Vec 4) : raw49_0 N  (n + 1) v0 v1 = s49_0 N (raw49_0 N  n) v0 v1 := by kernel_rfl
noncomputable def l49_0 (N : Nat) : Nat → Int → Vec 4 → Option (Int)
  | 0 => fun _ _ => none
  | n + 1 => fun v0 v1 => s49_0 N (l49_0 N  n) v0 v1
theorem eq49_0 (N : Nat) : ∀ n, raw49_0 N  n = l49_0 N  n := by
  intro n
  induction n with
  | zero => exact funext fun v0 => funext fun v1 => rfl
  | succ n ih => exact funext fun v0 => funext fun v1 => by rw [step49_0, ih]; rfl
noncomputable def t49 (N : Nat) (Le0 : Int → Vec 4 → Option (Int)) (x0 : Vec 4) : Option (Int) :=
  Le0 3 x0
noncomputable def fn_wide_Len (N : Nat) (x0 : Vec 4) : Option (Int) := t49 N (l49_0 N N) x0
theorem run49 (N : Nat) (x0 : Vec 4) : Eng.run T49 (G49 N) N live49 c49 Tryz.f49.results.toList Tryz.f49.ntmps ((ad49).enc (x0, ())) (rd49).dec = fn_wide_Len N x0 := by
  refine Eq.trans (show _ = t49 N (raw49_0 N N) x0 from by kernel_rfl) ?_
  unfold fn_wide_Len
  rw [eq49_0 N N]
noncomputable def F49 (N : Nat) (a : Vec 4 × Unit) : Option (Int) := fn_wide_Len N a.1
theorem ok49 (N : Nat) : FnOK Tryz.prog 49 ad49 rd49 (F49 N) :=
  fn_ok (N := N) (live := live49) (code := c49) (tok T49.rt T49.kl (wrNil_ok)) mixed (gok49 N) Tryz.func49 (by kernel_rfl) (by kernel_rfl) (by kernel_rfl) fun a p h => by rw [← h]; exact run49 N a.1

/-! ### tiller/wide.Shl: function 31 -/
noncomputable def c31 : Code := (Tryz.f31.body).getD .skip
noncomputable def T31 : Tb := ⟨tyOf tys, [(25, 2), (30, 5), (35, 5), (41, 2), (48, 5)], [], wrNil⟩
noncomputable def G31 {R : Type} (N : Nat) : FuncId → List AV → (AV → Option R) → Option R := gNil
theorem gok31 {R : Type} (N : Nat) : GOK Tryz.prog (G31 (R := R) N) := gNil_ok
noncomputable def live31 : List (Nat × List (Nat × HK)) := [(8, [(1, .keep), (2, .keep), (4, .keep), (5, .keep), (6, .keep), (7, .keep)])]
noncomputable def ad31 : Ad (Vec 4 × Int × Unit) := aC (cVec .u64 4) (aC (cInt .i64) (a0))
noncomputable def rd31 : Rd (Vec 4) := r1 (cVec .u64 4)
noncomputable def st31_0 (v0 : Int) (v1 : Int) (v2 : Int) (v3 : Vec 4) (v4 : Vec 4) (v5 : Vec 4) : St := ⟨[AV.none, AV.v (.int .i64 v0), AV.ptr 2 0, AV.none, AV.ptr 4 0, AV.ptr 5 0, AV.v (.int .i64 v1), AV.v (.int .i64 v2), AV.none, AV.none, AV.none, AV.none, AV.none, AV.none, AV.none, AV.none, AV.none, AV.none, AV.none, AV.none, AV.none, AV.none, AV.none, AV.none, AV.none, AV.none, AV.none, AV.none, AV.none, AV.none, AV.none, AV.none, AV.none, AV.none, AV.none, AV.none, AV.none, AV.none, AV.none, AV.none, AV.none, AV.none, AV.none, AV.none, AV.none, AV.none, AV.none, AV.none, AV.none, AV.none], [none, none, some (OB.arr .u64 4 v3), none, some (OB.arr .u64 4 v4), some (OB.arr .u64 4 v5), none, none, none, none, none, none, none, none, none, none, none, none, none, none, none, none, none, none, none, none, none, none, none, none, none, none, none, none, none, none, none, none, none, none, none, none, none, none, none, none, none, none, none, none]⟩
noncomputable def raw31_0 (N : Nat) (n : Nat) (v0 : Int) (v1 : Int) (v2 : Int) (v3 : Vec 4) (v4 : Vec 4) (v5 : Vec 4) : Option (Vec 4) := loopN (lookN live31 8) (exec T31 (G31 N) N live31 (cL (cL (cR (cL (cR (cR (cR (cR (cR c31)))))))))) n (st31_0 v0 v1 v2 v3 v4 v5) (blockK 0 (seqK (exec T31 (G31 N) N live31 (cR (cR (cR (cR (cR (cR c31))))))) (retK T31 Tryz.f31.results.toList (rd31).dec)))
noncomputable def s31_0 (N : Nat) (Ln0 : Int → Int → Int → Vec 4 → Vec 4 → Vec 4 → Option (Vec 4)) (v0 : Int) (v1 : Int) (v2 : Int) (v3 : Vec 4) (v4 : Vec 4) (v5 : Vec 4) : Option (Vec 4) :=
  cond (leI v1 v2)
   (cond (leI 0 (subI .i64 v2 v1))
    (cond (ltI (subI .i64 v2 v1) 4)
     (cond (ltI (remI .i64 v0 64) 0)
      (none)
      (cond (leI 0 v2)
       (cond (ltI v2 4)
        (cond (ltI v1 v2)
         (cond (leI 0 v2)
          (cond (ltI v2 4)
           (cond (leI 0 (subI .i64 (subI .i64 v2 v1) 1))
            (cond (ltI (subI .i64 (subI .i64 v2 v1) 1) 4)
             (cond (ltI (subI .i64 64 (remI .i64 v0 64)) 0)
              (none)
              (cond (leI 0 v2)
               (cond (ltI v2 4)
                (Ln0 v0 v1 (subI .i64 v2 1) v3 v4 (Vec.st (Vec.st v5 v2 (shlI .u64 (Vec.rd v3 (subI .i64 v2 v1)) (remI .i64 v0 64))) v2 (orI .u64 (Vec.rd (Vec.st v5 v2 (shlI .u64 (Vec.rd v3 (subI .i64 v2 v1)) (remI .i64 v0 64))) v2) (shrI .u64 (Vec.rd v3 (subI .i64 (subI .i64 v2 v1) 1)) (subI .i64 64 (remI .i64 v0 64))))))
                (none))
               (none)))
             (none))
            (none))
           (none))
          (none))
         (Ln0 v0 v1 (subI .i64 v2 1) v3 v4 (Vec.st v5 v2 (shlI .u64 (Vec.rd v3 (subI .i64 v2 v1)) (remI .i64 v0 64)))))
        (none))
       (none)))
     (none))
    (none))
   (some v5)
theorem step31_0 (N : Nat) (n : Nat) (v0 : Int) (v1 : Int) (v2 : Int) (v3 : Vec 4) (v4 : Vec 4) (v5 : Vec 4) : raw31_0 N  (n + 1) v0 v1 v2 v3 v4 v5 = s31_0 N (raw31_0 N  n) v0 v1 v2 v3 v4 v5 := by kernel_rfl
noncomputable def l31_0 (N : Nat) : Nat → Int → Int → Int → Vec 4 → Vec 4 → Vec 4 → Option (Vec 4)
  | 0 => fun _ _ _ _ _ _ => none
  | n + 1 => fun v0 v1 v2 v3 v4 v5 => s31_0 N (l31_0 N  n) v0 v1 v2 v3 v4 v5
theorem eq31_0 (N : Nat) : ∀ n, raw31_0 N  n = l31_0 N  n := by
  intro n
  induction n with
  | zero => exact funext fun v0 => funext fun v1 => funext fun v2 => funext fun v3 => funext fun v4 => funext fun v5 => rfl
  | succ n ih => exact funext fun v0 => funext fun v1 => funext fun v2 => funext fun v3 => funext fun v4 => funext fun v5 => by rw [step31_0, ih]; rfl
noncomputable def t31 (N : Nat) (Le0 : Int → Int → Int → Vec 4 → Vec 4 → Vec 4 → Option (Vec 4)) (x0 : Vec 4) (x1 : Int) : Option (Vec 4) :=
  cond (ltI x1 1)
   (some x0)
   (cond (leI 256 x1)
    (some (Vec.zero 4))
    (Le0 x1 (quoI .i64 x1 64) 3 x0 (Vec.zero 4) (Vec.zero 4)))
noncomputable def fn_wide_Shl (N : Nat) (x0 : Vec 4) (x1 : Int) : Option (Vec 4) := t31 N (l31_0 N N) x0 x1
theorem run31 (N : Nat) (x0 : Vec 4) (x1 : Int) : Eng.run T31 (G31 N) N live31 c31 Tryz.f31.results.toList Tryz.f31.ntmps ((ad31).enc (x0, x1, ())) (rd31).dec = fn_wide_Shl N x0 x1 := by
  refine Eq.trans (show _ = t31 N (raw31_0 N N) x0 x1 from by kernel_rfl) ?_
  unfold fn_wide_Shl
  rw [eq31_0 N N]
noncomputable def F31 (N : Nat) (a : Vec 4 × Int × Unit) : Option (Vec 4) := fn_wide_Shl N a.1 a.2.1
theorem ok31 (N : Nat) : FnOK Tryz.prog 31 ad31 rd31 (F31 N) :=
  fn_ok (N := N) (live := live31) (code := c31) (tok T31.rt T31.kl (wrNil_ok)) mixed (gok31 N) Tryz.func31 (by kernel_rfl) (by kernel_rfl) (by kernel_rfl) fun a p h => by rw [← h]; exact run31 N a.1 a.2.1

/-! ### tiller/wide.Add: function 59 -/
noncomputable def c59 : Code := (Tryz.f59.body).getD .skip
noncomputable def T59 : Tb := ⟨tyOf tys, [(14, 2), (17, 3), (23, 2)], [], wrNil⟩
noncomputable def G59 {R : Type} (N : Nat) : FuncId → List AV → (AV → Option R) → Option R := gCons 88 (gOf (aI3 .u64) (r2 (cInt .u64) (cInt .u64)) (fun a => add64 a.1 a.2.1 a.2.2.1)) (gNil)
theorem gok59 {R : Type} (N : Nat) : GOK Tryz.prog (G59 (R := R) N) := gCons_ok (add64_ok Tryz.func88 (by kernel_rfl) (by kernel_rfl) (by kernel_rfl) (by kernel_rfl)) (gNil_ok)
noncomputable def live59 : List (Nat × List (Nat × HK)) := [(3, [(2, .keep), (3, .keep), (4, .keep), (6, .keep), (8, .keep)])]
noncomputable def ad59 : Ad (Vec 4 × Vec 4 × Unit) := aC (cVec .u64 4) (aC (cVec .u64 4) (a0))
noncomputable def rd59 : Rd (Vec 4 × Bool) := r2 (cVec .u64 4) (cBool)
noncomputable def st59_0 (v0 : Int) (v1 : Int) (v2 : Vec 4) (v3 : Vec 4) (v4 : Vec 4) : St := ⟨[AV.none, AV.none, AV.ptr 2 0, AV.ptr 3 0, AV.ptr 4 0, AV.none, AV.v (.int .u64 v0), AV.none, AV.v (.int .i64 v1), AV.none, AV.none, AV.none, AV.none, AV.none, AV.none, AV.none, AV.none, AV.none, AV.none, AV.none, AV.none, AV.none, AV.none, AV.none, AV.none, AV.none, AV.none, AV.none], [none, none, some (OB.arr .u64 4 v2), some (OB.arr .u64 4 v3), some (OB.arr .u64 4 v4), none, none, none, none, none, none, none, none, none, none, none, none, none, none, none, none, none, none, none, none, none, none, none]⟩
noncomputable def raw59_0 (N : Nat) (n : Nat) (v0 : Int) (v1 : Int) (v2 : Vec 4) (v3 : Vec 4) (v4 : Vec 4) : Option (Vec 4 × Bool) := loopN (lookN live59 3) (exec T59 (G59 N) N live59 (cL (cL (cR (cL (cR (cR c59))))))) n (st59_0 v0 v1 v2 v3 v4) (blockK 0 (seqK (exec T59 (G59 N) N live59 (cR (cR (cR c59)))) (retK T59 Tryz.f59.results.toList (rd59).dec)))
noncomputable def s59_0 (N : Nat) (Ln0 : Int → Int → Vec 4 → Vec 4 → Vec 4 → Option (Vec 4 × Bool)) (v0 : Int) (v1 : Int) (v2 : Vec 4) (v3 : Vec 4) (v4 : Vec 4) : Option (Vec 4 × Bool) :=
  cond (ltI v1 4)
   (cond (leI 0 v1)
    (cond (ltI v1 4)
     (cond (leI 0 v1)
      (cond (ltI v1 4)
       ((add64 (Vec.rd v2 v1) (Vec.rd v3 v1) v0).bind fun r1 =>
        cond (leI 0 v1)
         (cond (ltI v1 4)
          (Ln0 r1.2 (addI .i64 v1 1) (Vec.st v2 v1 r1.1) v3 v4)
          (none))
         (none))
       (none))
      (none))
     (none))
    (none))
   (some (v2, !(eqI v0 0)))
theorem step59_0 (N : Nat) (n : Nat) (v0 : Int) (v1 : Int) (v2 : Vec 4) (v3 : Vec 4) (v4 : Vec 4) : raw59_0 N  (n + 1) v0 v1 v2 v3 v4 = s59_0 N (raw59_0 N  n) v0 v1 v2 v3 v4 := by kernel_rfl
noncomputable def l59_0 (N : Nat) : Nat → Int → Int → Vec 4 → Vec 4 → Vec 4 → Option (Vec 4 × Bool)
  | 0 => fun _ _ _ _ _ => none
  | n + 1 => fun v0 v1 v2 v3 v4 => s59_0 N (l59_0 N  n) v0 v1 v2 v3 v4
theorem eq59_0 (N : Nat) : ∀ n, raw59_0 N  n = l59_0 N  n := by
  intro n
  induction n with
  | zero => exact funext fun v0 => funext fun v1 => funext fun v2 => funext fun v3 => funext fun v4 => rfl
  | succ n ih => exact funext fun v0 => funext fun v1 => funext fun v2 => funext fun v3 => funext fun v4 => by rw [step59_0, ih]; rfl
noncomputable def t59 (N : Nat) (Le0 : Int → Int → Vec 4 → Vec 4 → Vec 4 → Option (Vec 4 × Bool)) (x0 : Vec 4) (x1 : Vec 4) : Option (Vec 4 × Bool) :=
  Le0 0 0 x0 x1 (Vec.zero 4)
noncomputable def fn_wide_Add (N : Nat) (x0 : Vec 4) (x1 : Vec 4) : Option (Vec 4 × Bool) := t59 N (l59_0 N N) x0 x1
theorem run59 (N : Nat) (x0 : Vec 4) (x1 : Vec 4) : Eng.run T59 (G59 N) N live59 c59 Tryz.f59.results.toList Tryz.f59.ntmps ((ad59).enc (x0, x1, ())) (rd59).dec = fn_wide_Add N x0 x1 := by
  refine Eq.trans (show _ = t59 N (raw59_0 N N) x0 x1 from by kernel_rfl) ?_
  unfold fn_wide_Add
  rw [eq59_0 N N]
noncomputable def F59 (N : Nat) (a : Vec 4 × Vec 4 × Unit) : Option (Vec 4 × Bool) := fn_wide_Add N a.1 a.2.1
theorem ok59 (N : Nat) : FnOK Tryz.prog 59 ad59 rd59 (F59 N) :=
  fn_ok (N := N) (live := live59) (code := c59) (tok T59.rt T59.kl (wrNil_ok)) mixed (gok59 N) Tryz.func59 (by kernel_rfl) (by kernel_rfl) (by kernel_rfl) fun a p h => by rw [← h]; exact run59 N a.1 a.2.1

/-! ### tiller/wide.Cmp: function 86 -/
noncomputable def c86 : Code := (Tryz.f86.body).getD .skip
noncomputable def T86 : Tb := ⟨tyOf tys, [(12, 2), (15, 3), (20, 2), (23, 3)], [], wrNil⟩
noncomputable def G86 {R : Type} (N : Nat) : FuncId → List AV → (AV → Option R) → Option R := gNil
theorem gok86 {R : Type} (N : Nat) : GOK Tryz.prog (G86 (R := R) N) := gNil_ok
noncomputable def live86 : List (Nat × List (Nat × HK)) := [(2, [(2, .keep), (3, .keep), (5, .keep)])]
noncomputable def ad86 : Ad (Vec 4 × Vec 4 × Unit) := aC (cVec .u64 4) (aC (cVec .u64 4) (a0))
noncomputable def rd86 : Rd (Int) := r1 (cInt .i64)
noncomputable def st86_0 (v0 : Int) (v1 : Vec 4) (v2 : Vec 4) : St := ⟨[AV.none, AV.none, AV.ptr 2 0, AV.ptr 3 0, AV.none, AV.v (.int .i64 v0), AV.none, AV.none, AV.none, AV.none, AV.none, AV.none, AV.none, AV.none, AV.none, AV.none, AV.none, AV.none, AV.none, AV.none, AV.none, AV.none, AV.none, AV.none, AV.none, AV.none], [none, none, some (OB.arr .u64 4 v1), some (OB.arr .u64 4 v2), none, none, none, none, none, none, none, none, none, none, none, none, none, none, none, none, none, none, none, none, none, none]⟩
noncomputable def raw86_0 (N : Nat) (n : Nat) (v0 : Int) (v1 : Vec 4) (v2 : Vec 4) : Option (Int) := loopN (lookN live86 2) (exec T86 (G86 N) N live86 (cL (cL (cR (cL (cR c86)))))) n (st86_0 v0 v1 v2) (blockK 0 (seqK (exec T86 (G86 N) N live86 (cR (cR c86))) (retK T86 Tryz.f86.results.toList (rd86).dec)))
noncomputable def s86_0 (N : Nat) (Ln0 : Int → Vec 4 → Vec 4 → Option (Int)) (v0 : Int) (v1 : Vec 4) (v2 : Vec 4) : Option (Int) :=
  cond (leI 0 v0)
   (cond (leI 0 v0)
    (cond (ltI v0 4)
     (cond (leI 0 v0)
      (cond (ltI v0 4)
       (cond (ltI (Vec.rd v1 v0) (Vec.rd v2 v0))
        (some (-1))
        (cond (leI 0 v0)
         (cond (ltI v0 4)
          (cond (leI 0 v0)
           (cond (ltI v0 4)
            (cond (ltI (Vec.rd v2 v0) (Vec.rd v1 v0))
             (some 1)
             (Ln0 (subI .i64 v0 1) v1 v2))
            (none))
           (none))
          (none))
         (none)))
       (none))
      (none))
     (none))
    (none))
   (some 0)
theorem step86_0 (N : Nat) (n : Nat) (v0 : Int) (v1 : Vec 4) (v2 : Vec 4) : raw86_0 N  (n + 1) v0 v1 v2 = s86_0 N (raw86_0 N  n) v0 v1 v2 := by kernel_rfl
noncomputable def l86_0 (N : Nat) : Nat → Int → Vec 4 → Vec 4 → Option (Int)
  | 0 => fun _ _ _ => none
  | n + 1 => fun v0 v1 v2 => s86_0 N (l86_0 N  n) v0 v1 v2
theorem eq86_0 (N : Nat) : ∀ n, raw86_0 N  n = l86_0 N  n := by
  intro n
  induction n with
  | zero => exact funext fun v0 => funext fun v1 => funext fun v2 => rfl
  | succ n ih => exact funext fun v0 => funext fun v1 => funext fun v2 => by rw [step86_0, ih]; rfl
noncomputable def t86 (N : Nat) (Le0 : Int → Vec 4 → Vec 4 → Option (Int)) (x0 : Vec 4) (x1 : Vec 4) : Option (Int) :=
  Le0 3 x0 x1
noncomputable def fn_wide_Cmp (N : Nat) (x0 : Vec 4) (x1 : Vec 4) : Option (Int) := t86 N (l86_0 N N) x0 x1
theorem run86 (N : Nat) (x0 : Vec 4) (x1 : Vec 4) : Eng.run T86 (G86 N) N live86 c86 Tryz.f86.results.toList Tryz.f86.ntmps ((ad86).enc (x0, x1, ())) (rd86).dec = fn_wide_Cmp N x0 x1 := by
  refine Eq.trans (show _ = t86 N (raw86_0 N N) x0 x1 from by kernel_rfl) ?_
  unfold fn_wide_Cmp
  rw [eq86_0 N N]
noncomputable def F86 (N : Nat) (a : Vec 4 × Vec 4 × Unit) : Option (Int) := fn_wide_Cmp N a.1 a.2.1
theorem ok86 (N : Nat) : FnOK Tryz.prog 86 ad86 rd86 (F86 N) :=
  fn_ok (N := N) (live := live86) (code := c86) (tok T86.rt T86.kl (wrNil_ok)) mixed (gok86 N) Tryz.func86 (by kernel_rfl) (by kernel_rfl) (by kernel_rfl) fun a p h => by rw [← h]; exact run86 N a.1 a.2.1

/-! ### tiller/wide.Sub: function 58 -/
noncomputable def c58 : Code := (Tryz.f58.body).getD .skip
noncomputable def T58 : Tb := ⟨tyOf tys, [(14, 2), (17, 3), (23, 2)], [], wrNil⟩
noncomputable def G58 {R : Type} (N : Nat) : FuncId → List AV → (AV → Option R) → Option R := gCons 89 (gOf (aI3 .u64) (r2 (cInt .u64) (cInt .u64)) (fun a => sub64 a.1 a.2.1 a.2.2.1)) (gNil)
theorem gok58 {R : Type} (N : Nat) : GOK Tryz.prog (G58 (R := R) N) := gCons_ok (sub64_ok Tryz.func89 (by kernel_rfl) (by kernel_rfl) (by kernel_rfl) (by kernel_rfl)) (gNil_ok)
noncomputable def live58 : List (Nat × List (Nat × HK)) := [(3, [(2, .keep), (3, .keep), (4, .keep), (6, .keep), (8, .keep)])]
noncomputable def ad58 : Ad (Vec 4 × Vec 4 × Unit) := aC (cVec .u64 4) (aC (cVec .u64 4) (a0))
noncomputable def rd58 : Rd (Vec 4 × Bool) := r2 (cVec .u64 4) (cBool)
noncomputable def st58_0 (v0 : Int) (v1 : Int) (v2 : Vec 4) (v3 : Vec 4) (v4 : Vec 4) : St := ⟨[AV.none, AV.none, AV.ptr 2 0, AV.ptr 3 0, AV.ptr 4 0, AV.none, AV.v (.int .u64 v0), AV.none, AV.v (.int .i64 v1), AV.none, AV.none, AV.none, AV.none, AV.none, AV.none, AV.none, AV.none, AV.none, AV.none, AV.none, AV.none, AV.none, AV.none, AV.none, AV.none, AV.none, AV.none, AV.none], [none, none, some (OB.arr .u64 4 v2), some (OB.arr .u64 4 v3), some (OB.arr .u64 4 v4), none, none, none, none, none, none, none, none, none, none, none, none, none, none, none, none, none, none, none, none, none, none, none]⟩
noncomputable def raw58_0 (N : Nat) (n : Nat) (v0 : Int) (v1 : Int) (v2 : Vec 4) (v3 : Vec 4) (v4 : Vec 4) : Option (Vec 4 × Bool) := loopN (lookN live58 3) (exec T58 (G58 N) N live58 (cL (cL (cR (cL (cR (cR c58))))))) n (st58_0 v0 v1 v2 v3 v4) (blockK 0 (seqK (exec T58 (G58 N) N live58 (cR (cR (cR c58)))) (retK T58 Tryz.f58.results.toList (rd58).dec)))
noncomputable def s58_0 (N : Nat) (Ln0 : Int → Int → Vec 4 → Vec 4 → Vec 4 → Option (Vec 4 × Bool)) (v0 : Int) (v1 : Int) (v2 : Vec 4) (v3 : Vec 4) (v4 : Vec 4) : Option (Vec 4 × Bool) :=
  cond (ltI v1 4)
   (cond (leI 0 v1)
    (cond (ltI v1 4)
     (cond (leI 0 v1)
      (cond (ltI v1 4)
       ((sub64 (Vec.rd v2 v1) (Vec.rd v3 v1) v0).bind fun r1 =>
        cond (leI 0 v1)
         (cond (ltI v1 4)
          (Ln0 r1.2 (addI .i64 v1 1) (Vec.st v2 v1 r1.1) v3 v4)
          (none))
         (none))
       (none))
      (none))
     (none))
    (none))
   (some (v2, !(eqI v0 0)))
theorem step58_0 (N : Nat) (n : Nat) (v0 : Int) (v1 : Int) (v2 : Vec 4) (v3 : Vec 4) (v4 : Vec 4) : raw58_0 N  (n + 1) v0 v1 v2 v3 v4 = s58_0 N (raw58_0 N  n) v0 v1 v2 v3 v4 := by kernel_rfl
noncomputable def l58_0 (N : Nat) : Nat → Int → Int → Vec 4 → Vec 4 → Vec 4 → Option (Vec 4 × Bool)
  | 0 => fun _ _ _ _ _ => none
  | n + 1 => fun v0 v1 v2 v3 v4 => s58_0 N (l58_0 N  n) v0 v1 v2 v3 v4
theorem eq58_0 (N : Nat) : ∀ n, raw58_0 N  n = l58_0 N  n := by
  intro n
  induction n with
  | zero => exact funext fun v0 => funext fun v1 => funext fun v2 => funext fun v3 => funext fun v4 => rfl
  | succ n ih => exact funext fun v0 => funext fun v1 => funext fun v2 => funext fun v3 => funext fun v4 => by rw [step58_0, ih]; rfl
noncomputable def t58 (N : Nat) (Le0 : Int → Int → Vec 4 → Vec 4 → Vec 4 → Option (Vec 4 × Bool)) (x0 : Vec 4) (x1 : Vec 4) : Option (Vec 4 × Bool) :=
  Le0 0 0 x0 x1 (Vec.zero 4)
noncomputable def fn_wide_Sub (N : Nat) (x0 : Vec 4) (x1 : Vec 4) : Option (Vec 4 × Bool) := t58 N (l58_0 N N) x0 x1
theorem run58 (N : Nat) (x0 : Vec 4) (x1 : Vec 4) : Eng.run T58 (G58 N) N live58 c58 Tryz.f58.results.toList Tryz.f58.ntmps ((ad58).enc (x0, x1, ())) (rd58).dec = fn_wide_Sub N x0 x1 := by
  refine Eq.trans (show _ = t58 N (raw58_0 N N) x0 x1 from by kernel_rfl) ?_
  unfold fn_wide_Sub
  rw [eq58_0 N N]
noncomputable def F58 (N : Nat) (a : Vec 4 × Vec 4 × Unit) : Option (Vec 4 × Bool) := fn_wide_Sub N a.1 a.2.1
theorem ok58 (N : Nat) : FnOK Tryz.prog 58 ad58 rd58 (F58 N) :=
  fn_ok (N := N) (live := live58) (code := c58) (tok T58.rt T58.kl (wrNil_ok)) mixed (gok58 N) Tryz.func58 (by kernel_rfl) (by kernel_rfl) (by kernel_rfl) fun a p h => by rw [← h]; exact run58 N a.1 a.2.1

/-! ### tiller/sums.aligned: function 55 -/
noncomputable def c55 : Code := (Tryz.f55.body).getD .skip
noncomputable def T55 : Tb := ⟨tyOf tys, [(7, 3), (9, 3), (11, 4), (15, 3), (16, 3), (18, 4), (22, 3), (24, 4), (29, 4), (31, 3), (33, 4), (42, 4), (44, 3), (46, 3), (48, 4), (53, 3), (56, 4), (58, 3), (63, 4)], [], wrNil⟩
noncomputable def G55 {R : Type} (N : Nat) : FuncId → List AV → (AV → Option R) → Option R := gCons 31 (gOf ad31 rd31 (F31 N)) (gCons 59 (gOf ad59 rd59 (F59 N)) (gCons 86 (gOf ad86 rd86 (F86 N)) (gCons 54 (gOf ad54 rd54 (F54 N)) (gCons 58 (gOf ad58 rd58 (F58 N)) (gNil)))))
theorem gok55 {R : Type} (N : Nat) : GOK Tryz.prog (G55 (R := R) N) := gCons_ok (ok31 N) (gCons_ok (ok59 N) (gCons_ok (ok86 N) (gCons_ok (ok54 N) (gCons_ok (ok58 N) (gNil_ok)))))
noncomputable def live55 : List (Nat × List (Nat × HK)) := []
noncomputable def ad55 : Ad ((Bool × Int × Vec 4 × Bool) × (Bool × Int × Vec 4 × Bool) × Int × Unit) := aC (cSta (sC (pBool) (sC (pInt .i64) (sC (pVec .u64 4) (sO (pBool)))))) (aC (cSta (sC (pBool) (sC (pInt .i64) (sC (pVec .u64 4) (sO (pBool)))))) (aC (cInt .i64) (a0)))
noncomputable def rd55 : Rd ((Bool × Int × Vec 4 × Bool)) := r1 (cSta (sC (pBool) (sC (pInt .i64) (sC (pVec .u64 4) (sO (pBool))))))
noncomputable def fn_sums_aligned (N : Nat) (x0 : (Bool × Int × Vec 4 × Bool)) (x1 : (Bool × Int × Vec 4 × Bool)) (x2 : Int) : Option ((Bool × Int × Vec 4 × Bool)) :=
  (fn_wide_Shl N x0.2.2.1 (subI .i64 x0.2.1 x1.2.1)).bind fun r1 =>
   cond (eqB x0.1 x1.1)
    ((fn_wide_Add N r1 x1.2.2.1).bind fun r2 =>
     some (x1.1, x1.2.1, r2.1, x1.2.2.2))
    ((fn_wide_Cmp N r1 x1.2.2.1).bind fun r3 =>
     cond (eqI r3 0)
      ((fn_sums_nought N false true x2).bind fun r4 =>
       some (r4.1, r4.2.1, r4.2.2.1, r4.2.2.2))
      (cond (eqI r3 1)
       ((fn_wide_Sub N r1 x1.2.2.1).bind fun r5 =>
        some (x0.1, x1.2.1, r5.1, x0.2.2.2))
       ((fn_wide_Sub N x1.2.2.1 r1).bind fun r6 =>
        some (x1.1, x1.2.1, r6.1, x1.2.2.2))))
theorem run55 (N : Nat) (x0 : (Bool × Int × Vec 4 × Bool)) (x1 : (Bool × Int × Vec 4 × Bool)) (x2 : Int) : Eng.run T55 (G55 N) N live55 c55 Tryz.f55.results.toList Tryz.f55.ntmps ((ad55).enc (x0, x1, x2, ())) (rd55).dec = fn_sums_aligned N x0 x1 x2 := by kernel_rfl
noncomputable def F55 (N : Nat) (a : (Bool × Int × Vec 4 × Bool) × (Bool × Int × Vec 4 × Bool) × Int × Unit) : Option ((Bool × Int × Vec 4 × Bool)) := fn_sums_aligned N a.1 a.2.1 a.2.2.1
theorem ok55 (N : Nat) : FnOK Tryz.prog 55 ad55 rd55 (F55 N) :=
  fn_ok (N := N) (live := live55) (code := c55) (tok T55.rt T55.kl (wrNil_ok)) mixed (gok55 N) Tryz.func55 (by kernel_rfl) (by kernel_rfl) (by kernel_rfl) fun a p h => by rw [← h]; exact run55 N a.1 a.2.1 a.2.2.1

/-! ### tiller/wide.Shr: function 52 -/
noncomputable def c52 : Code := (Tryz.f52.body).getD .skip
noncomputable def T52 : Tb := ⟨tyOf tys, [(29, 2), (34, 6), (41, 6), (47, 2), (54, 6)], [], wrNil⟩
noncomputable def G52 {R : Type} (N : Nat) : FuncId → List AV → (AV → Option R) → Option R := gCons 31 (gOf ad31 rd31 (F31 N)) (gNil)
theorem gok52 {R : Type} (N : Nat) : GOK Tryz.prog (G52 (R := R) N) := gCons_ok (ok31 N) (gNil_ok)
noncomputable def live52 : List (Nat × List (Nat × HK)) := [(8, [(1, .keep), (2, .keep), (4, .keep), (6, .keep), (7, .keep), (21, .keep), (22, .keep)])]
noncomputable def ad52 : Ad (Vec 4 × Int × Unit) := aC (cVec .u64 4) (aC (cInt .i64) (a0))
noncomputable def rd52 : Rd (Vec 4 × Bool) := r2 (cVec .u64 4) (cBool)
noncomputable def st52_0 (v0 : Int) (v1 : Int) (v2 : Int) (v3 : Int) (v4 : Vec 4) (v5 : Vec 4) (v6 : Vec 4) : St := ⟨[AV.none, AV.v (.int .i64 v0), AV.ptr 2 0, AV.none, AV.ptr 4 0, AV.none, AV.ptr 6 0, AV.v (.int .i64 v1), AV.none, AV.none, AV.none, AV.none, AV.none, AV.none, AV.none, AV.none, AV.none, AV.none, AV.none, AV.none, AV.none, AV.v (.int .i64 v2), AV.v (.int .i64 v3), AV.none, AV.none, AV.none, AV.none, AV.none, AV.none, AV.none, AV.none, AV.none, AV.none, AV.none, AV.none, AV.none, AV.none, AV.none, AV.none, AV.none, AV.none, AV.none, AV.none, AV.none, AV.none, AV.none, AV.none, AV.none, AV.none, AV.none, AV.none, AV.none, AV.none, AV.none, AV.none, AV.none, AV.none, AV.none, AV.none, AV.none, AV.none, AV.none], [none, none, some (OB.arr .u64 4 v4), none, some (OB.arr .u64 4 v5), none, some (OB.arr .u64 4 v6), none, none, none, none, none, none, none, none, none, none, none, none, none, none, none, none, none, none, none, none, none, none, none, none, none, none, none, none, none, none, none, none, none, none, none, none, none, none, none, none, none, none, none, none, none, none, none, none, none, none, none, none, none, none, none]⟩
noncomputable def raw52_0 (N : Nat) (n : Nat) (v0 : Int) (v1 : Int) (v2 : Int) (v3 : Int) (v4 : Vec 4) (v5 : Vec 4) (v6 : Vec 4) : Option (Vec 4 × Bool) := loopN (lookN live52 8) (exec T52 (G52 N) N live52 (cL (cL (cR (cL (cR (cR (cR (cR (cR c52)))))))))) n (st52_0 v0 v1 v2 v3 v4 v5 v6) (blockK 0 (seqK (exec T52 (G52 N) N live52 (cR (cR (cR (cR (cR (cR c52))))))) (retK T52 Tryz.f52.results.toList (rd52).dec)))
noncomputable def s52_0 (N : Nat) (Ln0 : Int → Int → Int → Int → Vec 4 → Vec 4 → Vec 4 → Option (Vec 4 × Bool)) (v0 : Int) (v1 : Int) (v2 : Int) (v3 : Int) (v4 : Vec 4) (v5 : Vec 4) (v6 : Vec 4) : Option (Vec 4 × Bool) :=
  cond (ltI v3 v2)
   (cond (leI 0 (addI .i64 v3 v1))
    (cond (ltI (addI .i64 v3 v1) 4)
     (cond (ltI (remI .i64 v0 64) 0)
      (none)
      (cond (leI 0 v3)
       (cond (ltI v3 4)
        (cond (ltI (addI .i64 (addI .i64 v3 v1) 1) 4)
         (cond (leI 0 v3)
          (cond (ltI v3 4)
           (cond (leI 0 (addI .i64 (addI .i64 v3 v1) 1))
            (cond (ltI (addI .i64 (addI .i64 v3 v1) 1) 4)
             (cond (ltI (subI .i64 64 (remI .i64 v0 64)) 0)
              (none)
              (cond (leI 0 v3)
               (cond (ltI v3 4)
                (Ln0 v0 v1 v2 (addI .i64 v3 1) v4 v5 (Vec.st (Vec.st v6 v3 (shrI .u64 (Vec.rd v4 (addI .i64 v3 v1)) (remI .i64 v0 64))) v3 (orI .u64 (Vec.rd (Vec.st v6 v3 (shrI .u64 (Vec.rd v4 (addI .i64 v3 v1)) (remI .i64 v0 64))) v3) (shlI .u64 (Vec.rd v4 (addI .i64 (addI .i64 v3 v1) 1)) (subI .i64 64 (remI .i64 v0 64))))))
                (none))
               (none)))
             (none))
            (none))
           (none))
          (none))
         (Ln0 v0 v1 v2 (addI .i64 v3 1) v4 v5 (Vec.st v6 v3 (shrI .u64 (Vec.rd v4 (addI .i64 v3 v1)) (remI .i64 v0 64)))))
        (none))
       (none)))
     (none))
    (none))
   ((fn_wide_Shl N v6 v0).bind fun r1 =>
    some (v6, !(eqL r1.1 v4.1)))
theorem step52_0 (N : Nat) (n : Nat) (v0 : Int) (v1 : Int) (v2 : Int) (v3 : Int) (v4 : Vec 4) (v5 : Vec 4) (v6 : Vec 4) : raw52_0 N  (n + 1) v0 v1 v2 v3 v4 v5 v6 = s52_0 N (raw52_0 N  n) v0 v1 v2 v3 v4 v5 v6 := by kernel_rfl
noncomputable def l52_0 (N : Nat) : Nat → Int → Int → Int → Int → Vec 4 → Vec 4 → Vec 4 → Option (Vec 4 × Bool)
  | 0 => fun _ _ _ _ _ _ _ => none
  | n + 1 => fun v0 v1 v2 v3 v4 v5 v6 => s52_0 N (l52_0 N  n) v0 v1 v2 v3 v4 v5 v6
theorem eq52_0 (N : Nat) : ∀ n, raw52_0 N  n = l52_0 N  n := by
  intro n
  induction n with
  | zero => exact funext fun v0 => funext fun v1 => funext fun v2 => funext fun v3 => funext fun v4 => funext fun v5 => funext fun v6 => rfl
  | succ n ih => exact funext fun v0 => funext fun v1 => funext fun v2 => funext fun v3 => funext fun v4 => funext fun v5 => funext fun v6 => by rw [step52_0, ih]; rfl
noncomputable def t52 (N : Nat) (Le0 : Int → Int → Int → Int → Vec 4 → Vec 4 → Vec 4 → Option (Vec 4 × Bool)) (x0 : Vec 4) (x1 : Int) : Option (Vec 4 × Bool) :=
  cond (ltI x1 1)
   (some (x0, false))
   (cond (leI 256 x1)
    (some (Vec.zero 4, !(eqL x0.1 (Vec.zero 4).1)))
    (Le0 x1 (quoI .i64 x1 64) (subI .i64 4 (quoI .i64 x1 64)) 0 x0 (Vec.zero 4) (Vec.zero 4)))
noncomputable def fn_wide_Shr (N : Nat) (x0 : Vec 4) (x1 : Int) : Option (Vec 4 × Bool) := t52 N (l52_0 N N) x0 x1
theorem run52 (N : Nat) (x0 : Vec 4) (x1 : Int) : Eng.run T52 (G52 N) N live52 c52 Tryz.f52.results.toList Tryz.f52.ntmps ((ad52).enc (x0, x1, ())) (rd52).dec = fn_wide_Shr N x0 x1 := by
  refine Eq.trans (show _ = t52 N (raw52_0 N N) x0 x1 from by kernel_rfl) ?_
  unfold fn_wide_Shr
  rw [eq52_0 N N]
noncomputable def F52 (N : Nat) (a : Vec 4 × Int × Unit) : Option (Vec 4 × Bool) := fn_wide_Shr N a.1 a.2.1
theorem ok52 (N : Nat) : FnOK Tryz.prog 52 ad52 rd52 (F52 N) :=
  fn_ok (N := N) (live := live52) (code := c52) (tok T52.rt T52.kl (wrNil_ok)) mixed (gok52 N) Tryz.func52 (by kernel_rfl) (by kernel_rfl) (by kernel_rfl) fun a p h => by rw [← h]; exact run52 N a.1 a.2.1

/-! ### tiller/sums.beside: function 56 -/
noncomputable def c56 : Code := (Tryz.f56.body).getD .skip
noncomputable def T56 : Tb := ⟨tyOf tys, [(8, 2), (13, 3), (15, 2), (19, 3), (25, 2), (29, 2), (34, 2), (35, 2), (36, 2), (37, 2), (39, 3), (43, 2), (49, 2), (52, 2), (58, 2), (61, 2), (67, 2)], [], wrNil⟩
noncomputable def G56 {R : Type} (N : Nat) : FuncId → List AV → (AV → Option R) → Option R := gCons 49 (gOf ad49 rd49 (F49 N)) (gCons 52 (gOf ad52 rd52 (F52 N)) (gCons 31 (gOf ad31 rd31 (F31 N)) (gCons 59 (gOf ad59 rd59 (F59 N)) (gCons 58 (gOf ad58 rd58 (F58 N)) (gCons 32 (gOf ad32 rd32 (F32 N)) (gNil))))))
theorem gok56 {R : Type} (N : Nat) : GOK Tryz.prog (G56 (R := R) N) := gCons_ok (ok49 N) (gCons_ok (ok52 N) (gCons_ok (ok31 N) (gCons_ok (ok59 N) (gCons_ok (ok58 N) (gCons_ok (ok32 N) (gNil_ok))))))
noncomputable def live56 : List (Nat × List (Nat × HK)) := []
noncomputable def ad56 : Ad ((Bool × Int × Vec 4 × Bool) × (Bool × Int × Vec 4 × Bool) × Unit) := aC (cSta (sC (pBool) (sC (pInt .i64) (sC (pVec .u64 4) (sO (pBool)))))) (aC (cSta (sC (pBool) (sC (pInt .i64) (sC (pVec .u64 4) (sO (pBool)))))) (a0))
noncomputable def rd56 : Rd ((Bool × Int × Vec 4 × Bool)) := r1 (cSta (sC (pBool) (sC (pInt .i64) (sC (pVec .u64 4) (sO (pBool))))))
noncomputable def fn_sums_beside (N : Nat) (x0 : (Bool × Int × Vec 4 × Bool)) (x1 : (Bool × Int × Vec 4 × Bool)) : Option ((Bool × Int × Vec 4 × Bool)) :=
  (fn_wide_Len N x0.2.2.1).bind fun r1 =>
   (fn_wide_Shr N x1.2.2.1 (subI .i64 (subI .i64 x0.2.1 (subI .i64 250 r1)) x1.2.1)).bind fun r2 =>
    (fn_wide_Shl N x0.2.2.1 (subI .i64 250 r1)).bind fun r3 =>
     cond (eqB x0.1 x1.1)
      ((fn_wide_Add N r3 r2.1).bind fun r4 =>
       some (x0.1, subI .i64 x0.2.1 (subI .i64 250 r1), r4.1, r2.2))
      ((fn_wide_Sub N r3 r2.1).bind fun r5 =>
       cond r2.2
        ((fn_wide_Of N 1).bind fun r6 =>
         (fn_wide_Sub N r5.1 r6).bind fun r7 =>
          some (x0.1, subI .i64 x0.2.1 (subI .i64 250 r1), r7.1, r2.2))
        (some (x0.1, subI .i64 x0.2.1 (subI .i64 250 r1), r5.1, r2.2)))
theorem run56 (N : Nat) (x0 : (Bool × Int × Vec 4 × Bool)) (x1 : (Bool × Int × Vec 4 × Bool)) : Eng.run T56 (G56 N) N live56 c56 Tryz.f56.results.toList Tryz.f56.ntmps ((ad56).enc (x0, x1, ())) (rd56).dec = fn_sums_beside N x0 x1 := by kernel_rfl
noncomputable def F56 (N : Nat) (a : (Bool × Int × Vec 4 × Bool) × (Bool × Int × Vec 4 × Bool) × Unit) : Option ((Bool × Int × Vec 4 × Bool)) := fn_sums_beside N a.1 a.2.1
theorem ok56 (N : Nat) : FnOK Tryz.prog 56 ad56 rd56 (F56 N) :=
  fn_ok (N := N) (live := live56) (code := c56) (tok T56.rt T56.kl (wrNil_ok)) mixed (gok56 N) Tryz.func56 (by kernel_rfl) (by kernel_rfl) (by kernel_rfl) fun a p h => by rw [← h]; exact run56 N a.1 a.2.1

/-! ### tiller/sums.join: function 22 -/
noncomputable def c22 : Code := (Tryz.f22.body).getD .skip
noncomputable def T22 : Tb := ⟨tyOf tys, [(9, 3), (14, 4), (19, 3), (21, 4), (26, 3), (32, 4), (37, 3), (39, 4), (44, 3), (47, 3), (50, 4)], [], wrNil⟩
noncomputable def G22 {R : Type} (N : Nat) : FuncId → List AV → (AV → Option R) → Option R := gCons 54 (gOf ad54 rd54 (F54 N)) (gCons 49 (gOf ad49 rd49 (F49 N)) (gCons 55 (gOf ad55 rd55 (F55 N)) (gCons 56 (gOf ad56 rd56 (F56 N)) (gNil))))
theorem gok22 {R : Type} (N : Nat) : GOK Tryz.prog (G22 (R := R) N) := gCons_ok (ok54 N) (gCons_ok (ok49 N) (gCons_ok (ok55 N) (gCons_ok (ok56 N) (gNil_ok))))
noncomputable def live22 : List (Nat × List (Nat × HK)) := []
noncomputable def ad22 : Ad ((Bool × Int × Vec 4 × Bool) × (Bool × Int × Vec 4 × Bool) × Int × Unit) := aC (cSta (sC (pBool) (sC (pInt .i64) (sC (pVec .u64 4) (sO (pBool)))))) (aC (cSta (sC (pBool) (sC (pInt .i64) (sC (pVec .u64 4) (sO (pBool)))))) (aC (cInt .i64) (a0)))
noncomputable def rd22 : Rd ((Bool × Int × Vec 4 × Bool)) := r1 (cSta (sC (pBool) (sC (pInt .i64) (sC (pVec .u64 4) (sO (pBool))))))
noncomputable def fn_sums_join (N : Nat) (x0 : (Bool × Int × Vec 4 × Bool)) (x1 : (Bool × Int × Vec 4 × Bool)) (x2 : Int) : Option ((Bool × Int × Vec 4 × Bool)) :=
  cond (eqL x0.2.2.1.1 (Vec.zero 4).1)
   (cond (eqL x1.2.2.1.1 (Vec.zero 4).1)
    ((fn_sums_nought N x0.1 x1.1 x2).bind fun r1 =>
     some (r1.1, r1.2.1, r1.2.2.1, r1.2.2.2))
    (cond (eqL x0.2.2.1.1 (Vec.zero 4).1)
     (some (x1.1, x1.2.1, x1.2.2.1, x1.2.2.2))
     (cond (eqL x1.2.2.1.1 (Vec.zero 4).1)
      (some (x0.1, x0.2.1, x0.2.2.1, x0.2.2.2))
      (cond (ltI x0.2.1 x1.2.1)
       ((fn_wide_Len N x1.2.2.1).bind fun r2 =>
        cond (ltI (subI .i64 (addI .i64 r2 x1.2.1) x0.2.1) 250)
         ((fn_sums_aligned N (x1.1, x1.2.1, x1.2.2.1, x1.2.2.2) (x0.1, x0.2.1, x0.2.2.1, x0.2.2.2) x2).bind fun r3 =>
          some (r3.1, r3.2.1, r3.2.2.1, r3.2.2.2))
         ((fn_sums_beside N (x1.1, x1.2.1, x1.2.2.1, x1.2.2.2) (x0.1, x0.2.1, x0.2.2.1, x0.2.2.2)).bind fun r4 =>
          some (r4.1, r4.2.1, r4.2.2.1, r4.2.2.2)))
       ((fn_wide_Len N x0.2.2.1).bind fun r5 =>
        cond (ltI (subI .i64 (addI .i64 r5 x0.2.1) x1.2.1) 250)
         ((fn_sums_aligned N (x0.1, x0.2.1, x0.2.2.1, x0.2.2.2) (x1.1, x1.2.1, x1.2.2.1, x1.2.2.2) x2).bind fun r6 =>
          some (r6.1, r6.2.1, r6.2.2.1, r6.2.2.2))
         ((fn_sums_beside N (x0.1, x0.2.1, x0.2.2.1, x0.2.2.2) (x1.1, x1.2.1, x1.2.2.1, x1.2.2.2)).bind fun r7 =>
          some (r7.1, r7.2.1, r7.2.2.1, r7.2.2.2)))))))
   (cond (eqL x0.2.2.1.1 (Vec.zero 4).1)
    (some (x1.1, x1.2.1, x1.2.2.1, x1.2.2.2))
    (cond (eqL x1.2.2.1.1 (Vec.zero 4).1)
     (some (x0.1, x0.2.1, x0.2.2.1, x0.2.2.2))
     (cond (ltI x0.2.1 x1.2.1)
      ((fn_wide_Len N x1.2.2.1).bind fun r8 =>
       cond (ltI (subI .i64 (addI .i64 r8 x1.2.1) x0.2.1) 250)
        ((fn_sums_aligned N (x1.1, x1.2.1, x1.2.2.1, x1.2.2.2) (x0.1, x0.2.1, x0.2.2.1, x0.2.2.2) x2).bind fun r9 =>
         some (r9.1, r9.2.1, r9.2.2.1, r9.2.2.2))
        ((fn_sums_beside N (x1.1, x1.2.1, x1.2.2.1, x1.2.2.2) (x0.1, x0.2.1, x0.2.2.1, x0.2.2.2)).bind fun r10 =>
         some (r10.1, r10.2.1, r10.2.2.1, r10.2.2.2)))
      ((fn_wide_Len N x0.2.2.1).bind fun r11 =>
       cond (ltI (subI .i64 (addI .i64 r11 x0.2.1) x1.2.1) 250)
        ((fn_sums_aligned N (x0.1, x0.2.1, x0.2.2.1, x0.2.2.2) (x1.1, x1.2.1, x1.2.2.1, x1.2.2.2) x2).bind fun r12 =>
         some (r12.1, r12.2.1, r12.2.2.1, r12.2.2.2))
        ((fn_sums_beside N (x0.1, x0.2.1, x0.2.2.1, x0.2.2.2) (x1.1, x1.2.1, x1.2.2.1, x1.2.2.2)).bind fun r13 =>
         some (r13.1, r13.2.1, r13.2.2.1, r13.2.2.2))))))
theorem run22 (N : Nat) (x0 : (Bool × Int × Vec 4 × Bool)) (x1 : (Bool × Int × Vec 4 × Bool)) (x2 : Int) : Eng.run T22 (G22 N) N live22 c22 Tryz.f22.results.toList Tryz.f22.ntmps ((ad22).enc (x0, x1, x2, ())) (rd22).dec = fn_sums_join N x0 x1 x2 := by kernel_rfl
noncomputable def F22 (N : Nat) (a : (Bool × Int × Vec 4 × Bool) × (Bool × Int × Vec 4 × Bool) × Int × Unit) : Option ((Bool × Int × Vec 4 × Bool)) := fn_sums_join N a.1 a.2.1 a.2.2.1
theorem ok22 (N : Nat) : FnOK Tryz.prog 22 ad22 rd22 (F22 N) :=
  fn_ok (N := N) (live := live22) (code := c22) (tok T22.rt T22.kl (wrNil_ok)) mixed (gok22 N) Tryz.func22 (by kernel_rfl) (by kernel_rfl) (by kernel_rfl) fun a p h => by rw [← h]; exact run22 N a.1 a.2.1 a.2.2.1

/-! ### (tiller/rnd.Num).near: function 45 -/
noncomputable def c45 : Code := (Tryz.f45.body).getD .skip
noncomputable def T45 : Tb := ⟨tyOf tys, [(3, 1), (7, 1)], [], wrNil⟩
noncomputable def G45 {R : Type} (N : Nat) : FuncId → List AV → (AV → Option R) → Option R := gNil
theorem gok45 {R : Type} (N : Nat) : GOK Tryz.prog (G45 (R := R) N) := gNil_ok
noncomputable def live45 : List (Nat × List (Nat × HK)) := []
noncomputable def ad45 : Ad ((Bool × Int × Vec 4 × Bool) × Unit) := aC (cSta (sC (pBool) (sC (pInt .i64) (sC (pVec .u64 4) (sO (pBool)))))) (a0)
noncomputable def rd45 : Rd ((Bool × Int × Vec 4 × Bool)) := r1 (cSta (sC (pBool) (sC (pInt .i64) (sC (pVec .u64 4) (sO (pBool))))))
noncomputable def fn_rnd_Num_near (N : Nat) (x0 : (Bool × Int × Vec 4 × Bool)) : Option ((Bool × Int × Vec 4 × Bool)) :=
  some (x0.1, minI (maxI x0.2.1 (-131072)) 131072, x0.2.2.1, x0.2.2.2)
theorem run45 (N : Nat) (x0 : (Bool × Int × Vec 4 × Bool)) : Eng.run T45 (G45 N) N live45 c45 Tryz.f45.results.toList Tryz.f45.ntmps ((ad45).enc (x0, ())) (rd45).dec = fn_rnd_Num_near N x0 := by kernel_rfl
noncomputable def F45 (N : Nat) (a : (Bool × Int × Vec 4 × Bool) × Unit) : Option ((Bool × Int × Vec 4 × Bool)) := fn_rnd_Num_near N a.1
theorem ok45 (N : Nat) : FnOK Tryz.prog 45 ad45 rd45 (F45 N) :=
  fn_ok (N := N) (live := live45) (code := c45) (tok T45.rt T45.kl (wrNil_ok)) mixed (gok45 N) Tryz.func45 (by kernel_rfl) (by kernel_rfl) (by kernel_rfl) fun a p h => by rw [← h]; exact run45 N a.1

/-! ### (tiller/rnd.Num).exact: function 46 -/
noncomputable def c46 : Code := (Tryz.f46.body).getD .skip
noncomputable def T46 : Tb := ⟨tyOf tys, [(5, 1), (9, 1), (16, 1), (23, 1), (25, 1)], [], wrNil⟩
noncomputable def G46 {R : Type} (N : Nat) : FuncId → List AV → (AV → Option R) → Option R := gCons 49 (gOf ad49 rd49 (F49 N)) (gCons 31 (gOf ad31 rd31 (F31 N)) (gCons 32 (gOf ad32 rd32 (F32 N)) (gCons 59 (gOf ad59 rd59 (F59 N)) (gNil))))
theorem gok46 {R : Type} (N : Nat) : GOK Tryz.prog (G46 (R := R) N) := gCons_ok (ok49 N) (gCons_ok (ok31 N) (gCons_ok (ok32 N) (gCons_ok (ok59 N) (gNil_ok))))
noncomputable def live46 : List (Nat × List (Nat × HK)) := []
noncomputable def ad46 : Ad ((Bool × Int × Vec 4 × Bool) × Unit) := aC (cSta (sC (pBool) (sC (pInt .i64) (sC (pVec .u64 4) (sO (pBool)))))) (a0)
noncomputable def rd46 : Rd ((Bool × Int × Vec 4 × Bool)) := r1 (cSta (sC (pBool) (sC (pInt .i64) (sC (pVec .u64 4) (sO (pBool))))))
noncomputable def fn_rnd_Num_exact (N : Nat) (x0 : (Bool × Int × Vec 4 × Bool)) : Option ((Bool × Int × Vec 4 × Bool)) :=
  cond (!(x0.2.2.2))
   (some (x0.1, x0.2.1, x0.2.2.1, x0.2.2.2))
   ((fn_wide_Len N x0.2.2.1).bind fun r1 =>
    cond (ltI 254 r1)
     (some (x0.1, x0.2.1, x0.2.2.1, x0.2.2.2))
     ((fn_wide_Shl N x0.2.2.1 1).bind fun r2 =>
      (fn_wide_Of N 1).bind fun r3 =>
       (fn_wide_Add N r2 r3).bind fun r4 =>
        some (x0.1, subI .i64 x0.2.1 1, r4.1, false)))
theorem run46 (N : Nat) (x0 : (Bool × Int × Vec 4 × Bool)) : Eng.run T46 (G46 N) N live46 c46 Tryz.f46.results.toList Tryz.f46.ntmps ((ad46).enc (x0, ())) (rd46).dec = fn_rnd_Num_exact N x0 := by kernel_rfl
noncomputable def F46 (N : Nat) (a : (Bool × Int × Vec 4 × Bool) × Unit) : Option ((Bool × Int × Vec 4 × Bool)) := fn_rnd_Num_exact N a.1
theorem ok46 (N : Nat) : FnOK Tryz.prog 46 ad46 rd46 (F46 N) :=
  fn_ok (N := N) (live := live46) (code := c46) (tok T46.rt T46.kl (wrNil_ok)) mixed (gok46 N) Tryz.func46 (by kernel_rfl) (by kernel_rfl) (by kernel_rfl) fun a p h => by rw [← h]; exact run46 N a.1

/-! ### tiller/rnd.sign: function 48 -/
noncomputable def c48 : Code := (Tryz.f48.body).getD .skip
noncomputable def T48 : Tb := ⟨tyOf tys, [], [], wrNil⟩
noncomputable def G48 {R : Type} (N : Nat) : FuncId → List AV → (AV → Option R) → Option R := gNil
theorem gok48 {R : Type} (N : Nat) : GOK Tryz.prog (G48 (R := R) N) := gNil_ok
noncomputable def live48 : List (Nat × List (Nat × HK)) := []
noncomputable def ad48 : Ad (Bool × Unit) := aC (cBool) (a0)
noncomputable def rd48 : Rd (Int) := r1 (cInt .u64)
noncomputable def fn_rnd_sign (N : Nat) (x0 : Bool) : Option (Int) :=
  cond x0
   (some 9223372036854775808)
   (some 0)
theorem run48 (N : Nat) (x0 : Bool) : Eng.run T48 (G48 N) N live48 c48 Tryz.f48.results.toList Tryz.f48.ntmps ((ad48).enc (x0, ())) (rd48).dec = fn_rnd_sign N x0 := by kernel_rfl
noncomputable def F48 (N : Nat) (a : Bool × Unit) : Option (Int) := fn_rnd_sign N a.1
theorem ok48 (N : Nat) : FnOK Tryz.prog 48 ad48 rd48 (F48 N) :=
  fn_ok (N := N) (live := live48) (code := c48) (tok T48.rt T48.kl (wrNil_ok)) mixed (gok48 N) Tryz.func48 (by kernel_rfl) (by kernel_rfl) (by kernel_rfl) fun a p h => by rw [← h]; exact run48 N a.1

/-! ### tiller/pat.Copy: function 47 -/
noncomputable def c47 : Code := (Tryz.f47.body).getD .skip
noncomputable def T47 : Tb := ⟨tyOf tys, [], [], wrNil⟩
noncomputable def G47 {R : Type} (N : Nat) : FuncId → List AV → (AV → Option R) → Option R := gCons 16 (gOf ad16 rd16 (F16 N)) (gNil)
theorem gok47 {R : Type} (N : Nat) : GOK Tryz.prog (G47 (R := R) N) := gCons_ok (ok16 N) (gNil_ok)
noncomputable def live47 : List (Nat × List (Nat × HK)) := []
noncomputable def ad47 : Ad (Int × Int × Unit) := aC (cInt .u64) (aC (cInt .u64) (a0))
noncomputable def rd47 : Rd (Int) := r1 (cInt .u64)
noncomputable def fn_pat_Copy (N : Nat) (x0 : Int) (x1 : Int) : Option (Int) :=
  (fn_pat_Abs N x0).bind fun r1 =>
   some (orI .u64 r1 (andI .u64 x1 9223372036854775808))
theorem run47 (N : Nat) (x0 : Int) (x1 : Int) : Eng.run T47 (G47 N) N live47 c47 Tryz.f47.results.toList Tryz.f47.ntmps ((ad47).enc (x0, x1, ())) (rd47).dec = fn_pat_Copy N x0 x1 := by kernel_rfl
noncomputable def F47 (N : Nat) (a : Int × Int × Unit) : Option (Int) := fn_pat_Copy N a.1 a.2.1
theorem ok47 (N : Nat) : FnOK Tryz.prog 47 ad47 rd47 (F47 N) :=
  fn_ok (N := N) (live := live47) (code := c47) (tok T47.rt T47.kl (wrNil_ok)) mixed (gok47 N) Tryz.func47 (by kernel_rfl) (by kernel_rfl) (by kernel_rfl) fun a p h => by rw [← h]; exact run47 N a.1 a.2.1

/-! ### tiller/wide.Bit: function 108 -/
noncomputable def c108 : Code := (Tryz.f108.body).getD .skip
noncomputable def T108 : Tb := ⟨tyOf tys, [(13, 2)], [], wrNil⟩
noncomputable def G108 {R : Type} (N : Nat) : FuncId → List AV → (AV → Option R) → Option R := gNil
theorem gok108 {R : Type} (N : Nat) : GOK Tryz.prog (G108 (R := R) N) := gNil_ok
noncomputable def live108 : List (Nat × List (Nat × HK)) := []
noncomputable def ad108 : Ad (Vec 4 × Int × Unit) := aC (cVec .u64 4) (aC (cInt .i64) (a0))
noncomputable def rd108 : Rd (Int) := r1 (cInt .u64)
noncomputable def fn_wide_Bit (N : Nat) (x0 : Vec 4) (x1 : Int) : Option (Int) :=
  cond (ltI x1 0)
   (some 0)
   (cond (leI 256 x1)
    (some 0)
    (cond (leI 0 (quoI .i64 x1 64))
     (cond (ltI (quoI .i64 x1 64) 4)
      (cond (ltI (remI .i64 x1 64) 0)
       (none)
       (some (andI .u64 (shrI .u64 (Vec.rd x0 (quoI .i64 x1 64)) (remI .i64 x1 64)) 1)))
      (none))
     (none)))
theorem run108 (N : Nat) (x0 : Vec 4) (x1 : Int) : Eng.run T108 (G108 N) N live108 c108 Tryz.f108.results.toList Tryz.f108.ntmps ((ad108).enc (x0, x1, ())) (rd108).dec = fn_wide_Bit N x0 x1 := by kernel_rfl
noncomputable def F108 (N : Nat) (a : Vec 4 × Int × Unit) : Option (Int) := fn_wide_Bit N a.1 a.2.1
theorem ok108 (N : Nat) : FnOK Tryz.prog 108 ad108 rd108 (F108 N) :=
  fn_ok (N := N) (live := live108) (code := c108) (tok T108.rt T108.kl (wrNil_ok)) mixed (gok108 N) Tryz.func108 (by kernel_rfl) (by kernel_rfl) (by kernel_rfl) fun a p h => by rw [← h]; exact run108 N a.1 a.2.1

/-! ### (tiller/rnd.Num).cut: function 84 -/
noncomputable def c84 : Code := (Tryz.f84.body).getD .skip
noncomputable def T84 : Tb := ⟨tyOf tys, [(15, 2), (20, 2), (28, 2), (32, 2), (38, 2), (44, 2), (49, 2), (59, 2)], [], wrNil⟩
noncomputable def G84 {R : Type} (N : Nat) : FuncId → List AV → (AV → Option R) → Option R := gCons 31 (gOf ad31 rd31 (F31 N)) (gCons 52 (gOf ad52 rd52 (F52 N)) (gCons 108 (gOf ad108 rd108 (F108 N)) (gCons 58 (gOf ad58 rd58 (F58 N)) (gCons 32 (gOf ad32 rd32 (F32 N)) (gNil)))))
theorem gok84 {R : Type} (N : Nat) : GOK Tryz.prog (G84 (R := R) N) := gCons_ok (ok31 N) (gCons_ok (ok52 N) (gCons_ok (ok108 N) (gCons_ok (ok58 N) (gCons_ok (ok32 N) (gNil_ok)))))
noncomputable def live84 : List (Nat × List (Nat × HK)) := []
noncomputable def ad84 : Ad ((Bool × Int × Vec 4 × Bool) × Int × Unit) := aC (cSta (sC (pBool) (sC (pInt .i64) (sC (pVec .u64 4) (sO (pBool)))))) (aC (cInt .i64) (a0))
noncomputable def rd84 : Rd (Vec 4 × Bool × Bool) := r3 (cVec .u64 4) (cBool) (cBool)
noncomputable def fn_rnd_Num_cut (N : Nat) (x0 : (Bool × Int × Vec 4 × Bool)) (x1 : Int) : Option (Vec 4 × Bool × Bool) :=
  cond (leI (subI .i64 x1 x0.2.1) 0)
   ((fn_wide_Shl N x0.2.2.1 (subI .i64 0 (subI .i64 x1 x0.2.1))).bind fun r1 =>
    cond (eqI (subI .i64 x1 x0.2.1) 0)
     (some (r1, x0.2.2.2, false))
     (some (r1, false, false)))
   ((fn_wide_Shr N x0.2.2.1 (subI .i64 x1 x0.2.1)).bind fun r2 =>
    (fn_wide_Bit N x0.2.2.1 (subI .i64 (subI .i64 x1 x0.2.1) 1)).bind fun r3 =>
     cond (ltI 1 (subI .i64 x1 x0.2.1))
      ((fn_wide_Shl N r2.1 (subI .i64 x1 x0.2.1)).bind fun r4 =>
       (fn_wide_Sub N x0.2.2.1 r4).bind fun r5 =>
        cond (ltI 256 (subI .i64 x1 x0.2.1))
         (cond (eqI r3 1)
          ((fn_wide_Of N 1).bind fun r6 =>
           (fn_wide_Shl N r6 (subI .i64 (subI .i64 x1 x0.2.1) 1)).bind fun r7 =>
            (fn_wide_Sub N x0.2.2.1 r7).bind fun r8 =>
             cond x0.2.2.2
              (some (r2.1, eqI r3 1, true))
              (some (r2.1, eqI r3 1, !(eqL r8.1.1 (Vec.zero 4).1))))
          (cond x0.2.2.2
           (some (r2.1, eqI r3 1, true))
           (some (r2.1, eqI r3 1, !(eqL x0.2.2.1.1 (Vec.zero 4).1)))))
         (cond (eqI r3 1)
          ((fn_wide_Of N 1).bind fun r9 =>
           (fn_wide_Shl N r9 (subI .i64 (subI .i64 x1 x0.2.1) 1)).bind fun r10 =>
            (fn_wide_Sub N r5.1 r10).bind fun r11 =>
             cond x0.2.2.2
              (some (r2.1, eqI r3 1, true))
              (some (r2.1, eqI r3 1, !(eqL r11.1.1 (Vec.zero 4).1))))
          (cond x0.2.2.2
           (some (r2.1, eqI r3 1, true))
           (some (r2.1, eqI r3 1, !(eqL r5.1.1 (Vec.zero 4).1))))))
      (some (r2.1, eqI r3 1, x0.2.2.2)))
theorem run84 (N : Nat) (x0 : (Bool × Int × Vec 4 × Bool)) (x1 : Int) : Eng.run T84 (G84 N) N live84 c84 Tryz.f84.results.toList Tryz.f84.ntmps ((ad84).enc (x0, x1, ())) (rd84).dec = fn_rnd_Num_cut N x0 x1 := by kernel_rfl
noncomputable def F84 (N : Nat) (a : (Bool × Int × Vec 4 × Bool) × Int × Unit) : Option (Vec 4 × Bool × Bool) := fn_rnd_Num_cut N a.1 a.2.1
theorem ok84 (N : Nat) : FnOK Tryz.prog 84 ad84 rd84 (F84 N) :=
  fn_ok (N := N) (live := live84) (code := c84) (tok T84.rt T84.kl (wrNil_ok)) mixed (gok84 N) Tryz.func84 (by kernel_rfl) (by kernel_rfl) (by kernel_rfl) fun a p h => by rw [← h]; exact run84 N a.1 a.2.1

/-! ### tiller/rnd.up: function 85 -/
noncomputable def c85 : Code := (Tryz.f85.body).getD .skip
noncomputable def T85 : Tb := ⟨tyOf tys, [], [], wrNil⟩
noncomputable def G85 {R : Type} (N : Nat) : FuncId → List AV → (AV → Option R) → Option R := gNil
theorem gok85 {R : Type} (N : Nat) : GOK Tryz.prog (G85 (R := R) N) := gNil_ok
noncomputable def live85 : List (Nat × List (Nat × HK)) := []
noncomputable def ad85 : Ad (Int × Bool × Bool × Bool × Bool × Unit) := aC (cInt .i64) (aC (cBool) (aC (cBool) (aC (cBool) (aC (cBool) (a0)))))
noncomputable def rd85 : Rd (Bool) := r1 (cBool)
noncomputable def fn_rnd_up (N : Nat) (x0 : Int) (x1 : Bool) (x2 : Bool) (x3 : Bool) (x4 : Bool) : Option (Bool) :=
  cond (eqI x0 2)
   (some false)
   (cond (eqI x0 3)
    (cond (!(x1))
     (cond x3
      (some true)
      (some x4))
     (some false))
    (cond (eqI x0 4)
     (cond x1
      (cond x3
       (some true)
       (some x4))
      (some false))
     (cond (eqI x0 1)
      (some x3)
      (cond x3
       (cond x4
        (some true)
        (some x2))
       (some false)))))
theorem run85 (N : Nat) (x0 : Int) (x1 : Bool) (x2 : Bool) (x3 : Bool) (x4 : Bool) : Eng.run T85 (G85 N) N live85 c85 Tryz.f85.results.toList Tryz.f85.ntmps ((ad85).enc (x0, x1, x2, x3, x4, ())) (rd85).dec = fn_rnd_up N x0 x1 x2 x3 x4 := by kernel_rfl
noncomputable def F85 (N : Nat) (a : Int × Bool × Bool × Bool × Bool × Unit) : Option (Bool) := fn_rnd_up N a.1 a.2.1 a.2.2.1 a.2.2.2.1 a.2.2.2.2.1
theorem ok85 (N : Nat) : FnOK Tryz.prog 85 ad85 rd85 (F85 N) :=
  fn_ok (N := N) (live := live85) (code := c85) (tok T85.rt T85.kl (wrNil_ok)) mixed (gok85 N) Tryz.func85 (by kernel_rfl) (by kernel_rfl) (by kernel_rfl) fun a p h => by rw [← h]; exact run85 N a.1 a.2.1 a.2.2.1 a.2.2.2.1 a.2.2.2.2.1

/-! ### (tiller/rnd.Num).to: function 50 -/
noncomputable def c50 : Code := (Tryz.f50.body).getD .skip
noncomputable def T50 : Tb := ⟨tyOf tys, [(19, 3), (21, 8)], [], wrNil⟩
noncomputable def G50 {R : Type} (N : Nat) : FuncId → List AV → (AV → Option R) → Option R := gCons 84 (gOf ad84 rd84 (F84 N)) (gCons 85 (gOf ad85 rd85 (F85 N)) (gCons 32 (gOf ad32 rd32 (F32 N)) (gCons 59 (gOf ad59 rd59 (F59 N)) (gNil))))
theorem gok50 {R : Type} (N : Nat) : GOK Tryz.prog (G50 (R := R) N) := gCons_ok (ok84 N) (gCons_ok (ok85 N) (gCons_ok (ok32 N) (gCons_ok (ok59 N) (gNil_ok))))
noncomputable def live50 : List (Nat × List (Nat × HK)) := []
noncomputable def ad50 : Ad ((Bool × Int × Vec 4 × Bool) × Int × Int × Unit) := aC (cSta (sC (pBool) (sC (pInt .i64) (sC (pVec .u64 4) (sO (pBool)))))) (aC (cInt .i64) (aC (cInt .i64) (a0)))
noncomputable def rd50 : Rd (Vec 4 × Bool) := r2 (cVec .u64 4) (cBool)
noncomputable def fn_rnd_Num_to (N : Nat) (x0 : (Bool × Int × Vec 4 × Bool)) (x1 : Int) (x2 : Int) : Option (Vec 4 × Bool) :=
  (fn_rnd_Num_cut N (x0.1, x0.2.1, x0.2.2.1, x0.2.2.2) x1).bind fun r1 =>
   (fn_rnd_up N x2 x0.1 (eqI (andI .u64 (Vec.rd r1.1 0) 1) 1) r1.2.1 r1.2.2).bind fun r2 =>
    cond r2
     ((fn_wide_Of N 1).bind fun r3 =>
      (fn_wide_Add N r1.1 r3).bind fun r4 =>
       cond r1.2.1
        (some (r4.1, true))
        (some (r4.1, r1.2.2)))
     (cond r1.2.1
      (some (r1.1, true))
      (some (r1.1, r1.2.2)))
theorem run50 (N : Nat) (x0 : (Bool × Int × Vec 4 × Bool)) (x1 : Int) (x2 : Int) : Eng.run T50 (G50 N) N live50 c50 Tryz.f50.results.toList Tryz.f50.ntmps ((ad50).enc (x0, x1, x2, ())) (rd50).dec = fn_rnd_Num_to N x0 x1 x2 := by kernel_rfl
noncomputable def F50 (N : Nat) (a : (Bool × Int × Vec 4 × Bool) × Int × Int × Unit) : Option (Vec 4 × Bool) := fn_rnd_Num_to N a.1 a.2.1 a.2.2.1
theorem ok50 (N : Nat) : FnOK Tryz.prog 50 ad50 rd50 (F50 N) :=
  fn_ok (N := N) (live := live50) (code := c50) (tok T50.rt T50.kl (wrNil_ok)) mixed (gok50 N) Tryz.func50 (by kernel_rfl) (by kernel_rfl) (by kernel_rfl) fun a p h => by rw [← h]; exact run50 N a.1 a.2.1 a.2.2.1

/-! ### (tiller/rnd.Num).tiny: function 51 -/
noncomputable def c51 : Code := (Tryz.f51.body).getD .skip
noncomputable def T51 : Tb := ⟨tyOf tys, [], [], wrNil⟩
noncomputable def G51 {R : Type} (N : Nat) : FuncId → List AV → (AV → Option R) → Option R := gCons 50 (gOf ad50 rd50 (F50 N)) (gCons 49 (gOf ad49 rd49 (F49 N)) (gNil))
theorem gok51 {R : Type} (N : Nat) : GOK Tryz.prog (G51 (R := R) N) := gCons_ok (ok50 N) (gCons_ok (ok49 N) (gNil_ok))
noncomputable def live51 : List (Nat × List (Nat × HK)) := []
noncomputable def ad51 : Ad ((Bool × Int × Vec 4 × Bool) × Int × Int × Unit) := aC (cSta (sC (pBool) (sC (pInt .i64) (sC (pVec .u64 4) (sO (pBool)))))) (aC (cInt .i64) (aC (cInt .i64) (a0)))
noncomputable def rd51 : Rd (Bool) := r1 (cBool)
noncomputable def fn_rnd_Num_tiny (N : Nat) (x0 : (Bool × Int × Vec 4 × Bool)) (x1 : Int) (x2 : Int) : Option (Bool) :=
  cond (leI (-1074) (subI .i64 x1 53))
   (some false)
   (cond (ltI x1 (-1022))
    (some true)
    ((fn_rnd_Num_to N (x0.1, x0.2.1, x0.2.2.1, x0.2.2.2) (subI .i64 x1 53) x2).bind fun r1 =>
     (fn_wide_Len N r1.1).bind fun r2 =>
      some (leI r2 53)))
theorem run51 (N : Nat) (x0 : (Bool × Int × Vec 4 × Bool)) (x1 : Int) (x2 : Int) : Eng.run T51 (G51 N) N live51 c51 Tryz.f51.results.toList Tryz.f51.ntmps ((ad51).enc (x0, x1, x2, ())) (rd51).dec = fn_rnd_Num_tiny N x0 x1 x2 := by kernel_rfl
noncomputable def F51 (N : Nat) (a : (Bool × Int × Vec 4 × Bool) × Int × Int × Unit) : Option (Bool) := fn_rnd_Num_tiny N a.1 a.2.1 a.2.2.1
theorem ok51 (N : Nat) : FnOK Tryz.prog 51 ad51 rd51 (F51 N) :=
  fn_ok (N := N) (live := live51) (code := c51) (tok T51.rt T51.kl (wrNil_ok)) mixed (gok51 N) Tryz.func51 (by kernel_rfl) (by kernel_rfl) (by kernel_rfl) fun a p h => by rw [← h]; exact run51 N a.1 a.2.1 a.2.2.1

/-! ### tiller/pat.Neg: function 41 -/
noncomputable def c41 : Code := (Tryz.f41.body).getD .skip
noncomputable def T41 : Tb := ⟨tyOf tys, [], [], wrNil⟩
noncomputable def G41 {R : Type} (N : Nat) : FuncId → List AV → (AV → Option R) → Option R := gNil
theorem gok41 {R : Type} (N : Nat) : GOK Tryz.prog (G41 (R := R) N) := gNil_ok
noncomputable def live41 : List (Nat × List (Nat × HK)) := []
noncomputable def ad41 : Ad (Int × Unit) := aC (cInt .u64) (a0)
noncomputable def rd41 : Rd (Int) := r1 (cInt .u64)
noncomputable def fn_pat_Neg (N : Nat) (x0 : Int) : Option (Int) :=
  some (xorI .u64 x0 9223372036854775808)
theorem run41 (N : Nat) (x0 : Int) : Eng.run T41 (G41 N) N live41 c41 Tryz.f41.results.toList Tryz.f41.ntmps ((ad41).enc (x0, ())) (rd41).dec = fn_pat_Neg N x0 := by kernel_rfl
noncomputable def F41 (N : Nat) (a : Int × Unit) : Option (Int) := fn_pat_Neg N a.1
theorem ok41 (N : Nat) : FnOK Tryz.prog 41 ad41 rd41 (F41 N) :=
  fn_ok (N := N) (live := live41) (code := c41) (tok T41.rt T41.kl (wrNil_ok)) mixed (gok41 N) Tryz.func41 (by kernel_rfl) (by kernel_rfl) (by kernel_rfl) fun a p h => by rw [← h]; exact run41 N a.1

/-! ### tiller/rnd.over: function 53 -/
noncomputable def c53 : Code := (Tryz.f53.body).getD .skip
noncomputable def T53 : Tb := ⟨tyOf tys, [], [], wrNil⟩
noncomputable def G53 {R : Type} (N : Nat) : FuncId → List AV → (AV → Option R) → Option R := gCons 41 (gOf ad41 rd41 (F41 N)) (gNil)
theorem gok53 {R : Type} (N : Nat) : GOK Tryz.prog (G53 (R := R) N) := gCons_ok (ok41 N) (gNil_ok)
noncomputable def live53 : List (Nat × List (Nat × HK)) := []
noncomputable def ad53 : Ad (Bool × Int × Unit) := aC (cBool) (aC (cInt .i64) (a0))
noncomputable def rd53 : Rd (Int) := r1 (cInt .u64)
noncomputable def fn_rnd_over (N : Nat) (x0 : Bool) (x1 : Int) : Option (Int) :=
  cond (eqI x1 2)
   (cond x0
    ((fn_pat_Neg N (subI .u64 9218868437227405312 1)).bind fun r1 =>
     some r1)
    (some (subI .u64 9218868437227405312 1)))
   (cond (eqI x1 3)
    (cond x0
     (cond x0
      ((fn_pat_Neg N (subI .u64 9218868437227405312 1)).bind fun r2 =>
       some r2)
      (some (subI .u64 9218868437227405312 1)))
     (cond (eqI x1 4)
      (cond (!(x0))
       (cond x0
        ((fn_pat_Neg N (subI .u64 9218868437227405312 1)).bind fun r3 =>
         some r3)
        (some (subI .u64 9218868437227405312 1)))
       (cond x0
        ((fn_pat_Neg N 9218868437227405312).bind fun r4 =>
         some r4)
        (some 9218868437227405312)))
      (cond x0
       ((fn_pat_Neg N 9218868437227405312).bind fun r5 =>
        some r5)
       (some 9218868437227405312))))
    (cond (eqI x1 4)
     (cond (!(x0))
      (cond x0
       ((fn_pat_Neg N (subI .u64 9218868437227405312 1)).bind fun r6 =>
        some r6)
       (some (subI .u64 9218868437227405312 1)))
      (cond x0
       ((fn_pat_Neg N 9218868437227405312).bind fun r7 =>
        some r7)
       (some 9218868437227405312)))
     (cond x0
      ((fn_pat_Neg N 9218868437227405312).bind fun r8 =>
       some r8)
      (some 9218868437227405312))))
theorem run53 (N : Nat) (x0 : Bool) (x1 : Int) : Eng.run T53 (G53 N) N live53 c53 Tryz.f53.results.toList Tryz.f53.ntmps ((ad53).enc (x0, x1, ())) (rd53).dec = fn_rnd_over N x0 x1 := by kernel_rfl
noncomputable def F53 (N : Nat) (a : Bool × Int × Unit) : Option (Int) := fn_rnd_over N a.1 a.2.1
theorem ok53 (N : Nat) : FnOK Tryz.prog 53 ad53 rd53 (F53 N) :=
  fn_ok (N := N) (live := live53) (code := c53) (tok T53.rt T53.kl (wrNil_ok)) mixed (gok53 N) Tryz.func53 (by kernel_rfl) (by kernel_rfl) (by kernel_rfl) fun a p h => by rw [← h]; exact run53 N a.1 a.2.1

/-! ### tiller/rnd.Round: function 21 -/
noncomputable def c21 : Code := (Tryz.f21.body).getD .skip
noncomputable def T21 : Tb := ⟨tyOf tys, [(15, 2), (19, 2), (23, 2), (25, 2), (58, 2), (62, 8), (73, 2)], [], wrNil⟩
noncomputable def G21 {R : Type} (N : Nat) : FuncId → List AV → (AV → Option R) → Option R := gCons 45 (gOf ad45 rd45 (F45 N)) (gCons 46 (gOf ad46 rd46 (F46 N)) (gCons 48 (gOf ad48 rd48 (F48 N)) (gCons 47 (gOf ad47 rd47 (F47 N)) (gCons 49 (gOf ad49 rd49 (F49 N)) (gCons 50 (gOf ad50 rd50 (F50 N)) (gCons 51 (gOf ad51 rd51 (F51 N)) (gCons 52 (gOf ad52 rd52 (F52 N)) (gCons 53 (gOf ad53 rd53 (F53 N)) (gNil)))))))))
theorem gok21 {R : Type} (N : Nat) : GOK Tryz.prog (G21 (R := R) N) := gCons_ok (ok45 N) (gCons_ok (ok46 N) (gCons_ok (ok48 N) (gCons_ok (ok47 N) (gCons_ok (ok49 N) (gCons_ok (ok50 N) (gCons_ok (ok51 N) (gCons_ok (ok52 N) (gCons_ok (ok53 N) (gNil_ok)))))))))
noncomputable def live21 : List (Nat × List (Nat × HK)) := []
noncomputable def ad21 : Ad ((Bool × Int × Vec 4 × Bool) × Int × Unit) := aC (cSta (sC (pBool) (sC (pInt .i64) (sC (pVec .u64 4) (sO (pBool)))))) (aC (cInt .i64) (a0))
noncomputable def rd21 : Rd (Int × Int) := r2 (cInt .u64) (cInt .u8)
noncomputable def fn_rnd_Round (N : Nat) (x0 : (Bool × Int × Vec 4 × Bool)) (x1 : Int) : Option (Int × Int) :=
  (fn_rnd_Num_near N (x0.1, x0.2.1, x0.2.2.1, x0.2.2.2)).bind fun r1 =>
   (fn_rnd_Num_exact N (r1.1, r1.2.1, r1.2.2.1, r1.2.2.2)).bind fun r2 =>
    cond (eqL r2.2.2.1.1 (Vec.zero 4).1)
     ((fn_rnd_sign N r2.1).bind fun r3 =>
      (fn_pat_Copy N 0 r3).bind fun r4 =>
       some (r4, 0))
     ((fn_wide_Len N r2.2.2.1).bind fun r5 =>
      (fn_rnd_Num_to N (r2.1, r2.2.1, r2.2.2.1, r2.2.2.2) (maxI (subI .i64 (addI .i64 r2.2.1 r5) 53) (-1074)) x1).bind fun r6 =>
       cond r6.2
        ((fn_rnd_Num_tiny N (r2.1, r2.2.1, r2.2.2.1, r2.2.2.2) (addI .i64 r2.2.1 r5) x1).bind fun r7 =>
         cond r7
          ((fn_wide_Len N r6.1).bind fun r8 =>
           cond (ltI 53 r8)
            ((fn_wide_Shr N r6.1 1).bind fun r9 =>
             cond (ltI 971 (addI .i64 (maxI (subI .i64 (addI .i64 r2.2.1 r5) 53) (-1074)) 1))
              ((fn_rnd_over N r2.1 x1).bind fun r10 =>
               some (r10, 20))
              (cond (leI 4503599627370496 (Vec.rd r9.1 0))
               ((fn_rnd_sign N r2.1).bind fun r11 =>
                (fn_pat_Copy N (addI .u64 (Vec.rd r9.1 0) (shlI .u64 (cvI .u64 (subI .i64 (addI .i64 (maxI (subI .i64 (addI .i64 r2.2.1 r5) 53) (-1074)) 1) (-1074))) 52)) r11).bind fun r12 =>
                 some (r12, orI .u8 16 8))
               ((fn_rnd_sign N r2.1).bind fun r13 =>
                (fn_pat_Copy N (Vec.rd r9.1 0) r13).bind fun r14 =>
                 some (r14, orI .u8 16 8))))
            (cond (ltI 971 (maxI (subI .i64 (addI .i64 r2.2.1 r5) 53) (-1074)))
             ((fn_rnd_over N r2.1 x1).bind fun r15 =>
              some (r15, 20))
             (cond (leI 4503599627370496 (Vec.rd r6.1 0))
              ((fn_rnd_sign N r2.1).bind fun r16 =>
               (fn_pat_Copy N (addI .u64 (Vec.rd r6.1 0) (shlI .u64 (cvI .u64 (subI .i64 (maxI (subI .i64 (addI .i64 r2.2.1 r5) 53) (-1074)) (-1074))) 52)) r16).bind fun r17 =>
                some (r17, orI .u8 16 8))
              ((fn_rnd_sign N r2.1).bind fun r18 =>
               (fn_pat_Copy N (Vec.rd r6.1 0) r18).bind fun r19 =>
                some (r19, orI .u8 16 8)))))
          ((fn_wide_Len N r6.1).bind fun r20 =>
           cond (ltI 53 r20)
            ((fn_wide_Shr N r6.1 1).bind fun r21 =>
             cond (ltI 971 (addI .i64 (maxI (subI .i64 (addI .i64 r2.2.1 r5) 53) (-1074)) 1))
              ((fn_rnd_over N r2.1 x1).bind fun r22 =>
               some (r22, 20))
              (cond (leI 4503599627370496 (Vec.rd r21.1 0))
               ((fn_rnd_sign N r2.1).bind fun r23 =>
                (fn_pat_Copy N (addI .u64 (Vec.rd r21.1 0) (shlI .u64 (cvI .u64 (subI .i64 (addI .i64 (maxI (subI .i64 (addI .i64 r2.2.1 r5) 53) (-1074)) 1) (-1074))) 52)) r23).bind fun r24 =>
                 some (r24, 16))
               ((fn_rnd_sign N r2.1).bind fun r25 =>
                (fn_pat_Copy N (Vec.rd r21.1 0) r25).bind fun r26 =>
                 some (r26, 16))))
            (cond (ltI 971 (maxI (subI .i64 (addI .i64 r2.2.1 r5) 53) (-1074)))
             ((fn_rnd_over N r2.1 x1).bind fun r27 =>
              some (r27, 20))
             (cond (leI 4503599627370496 (Vec.rd r6.1 0))
              ((fn_rnd_sign N r2.1).bind fun r28 =>
               (fn_pat_Copy N (addI .u64 (Vec.rd r6.1 0) (shlI .u64 (cvI .u64 (subI .i64 (maxI (subI .i64 (addI .i64 r2.2.1 r5) 53) (-1074)) (-1074))) 52)) r28).bind fun r29 =>
                some (r29, 16))
              ((fn_rnd_sign N r2.1).bind fun r30 =>
               (fn_pat_Copy N (Vec.rd r6.1 0) r30).bind fun r31 =>
                some (r31, 16))))))
        ((fn_wide_Len N r6.1).bind fun r32 =>
         cond (ltI 53 r32)
          ((fn_wide_Shr N r6.1 1).bind fun r33 =>
           cond (ltI 971 (addI .i64 (maxI (subI .i64 (addI .i64 r2.2.1 r5) 53) (-1074)) 1))
            ((fn_rnd_over N r2.1 x1).bind fun r34 =>
             some (r34, 20))
            (cond (leI 4503599627370496 (Vec.rd r33.1 0))
             ((fn_rnd_sign N r2.1).bind fun r35 =>
              (fn_pat_Copy N (addI .u64 (Vec.rd r33.1 0) (shlI .u64 (cvI .u64 (subI .i64 (addI .i64 (maxI (subI .i64 (addI .i64 r2.2.1 r5) 53) (-1074)) 1) (-1074))) 52)) r35).bind fun r36 =>
               some (r36, 0))
             ((fn_rnd_sign N r2.1).bind fun r37 =>
              (fn_pat_Copy N (Vec.rd r33.1 0) r37).bind fun r38 =>
               some (r38, 0))))
          (cond (ltI 971 (maxI (subI .i64 (addI .i64 r2.2.1 r5) 53) (-1074)))
           ((fn_rnd_over N r2.1 x1).bind fun r39 =>
            some (r39, 20))
           (cond (leI 4503599627370496 (Vec.rd r6.1 0))
            ((fn_rnd_sign N r2.1).bind fun r40 =>
             (fn_pat_Copy N (addI .u64 (Vec.rd r6.1 0) (shlI .u64 (cvI .u64 (subI .i64 (maxI (subI .i64 (addI .i64 r2.2.1 r5) 53) (-1074)) (-1074))) 52)) r40).bind fun r41 =>
              some (r41, 0))
            ((fn_rnd_sign N r2.1).bind fun r42 =>
             (fn_pat_Copy N (Vec.rd r6.1 0) r42).bind fun r43 =>
              some (r43, 0))))))
theorem run21 (N : Nat) (x0 : (Bool × Int × Vec 4 × Bool)) (x1 : Int) : Eng.run T21 (G21 N) N live21 c21 Tryz.f21.results.toList Tryz.f21.ntmps ((ad21).enc (x0, x1, ())) (rd21).dec = fn_rnd_Round N x0 x1 := by kernel_rfl
noncomputable def F21 (N : Nat) (a : (Bool × Int × Vec 4 × Bool) × Int × Unit) : Option (Int × Int) := fn_rnd_Round N a.1 a.2.1
theorem ok21 (N : Nat) : FnOK Tryz.prog 21 ad21 rd21 (F21 N) :=
  fn_ok (N := N) (live := live21) (code := c21) (tok T21.rt T21.kl (wrNil_ok)) mixed (gok21 N) Tryz.func21 (by kernel_rfl) (by kernel_rfl) (by kernel_rfl) fun a p h => by rw [← h]; exact run21 N a.1 a.2.1

/-! ### tiller/sums.Add: function 7 -/
noncomputable def c7 : Code := (Tryz.f7.body).getD .skip
noncomputable def T7 : Tb := ⟨tyOf tys, [], [], wrNil⟩
noncomputable def G7 {R : Type} (N : Nat) : FuncId → List AV → (AV → Option R) → Option R := gCons 14 (gOf ad14 rd14 (F14 N)) (gCons 18 (gOf ad18 rd18 (F18 N)) (gCons 19 (gOf ad19 rd19 (F19 N)) (gCons 20 (gOf ad20 rd20 (F20 N)) (gCons 22 (gOf ad22 rd22 (F22 N)) (gCons 21 (gOf ad21 rd21 (F21 N)) (gNil))))))
theorem gok7 {R : Type} (N : Nat) : GOK Tryz.prog (G7 (R := R) N) := gCons_ok (ok14 N) (gCons_ok (ok18 N) (gCons_ok (ok19 N) (gCons_ok (ok20 N) (gCons_ok (ok22 N) (gCons_ok (ok21 N) (gNil_ok))))))
noncomputable def live7 : List (Nat × List (Nat × HK)) := []
noncomputable def ad7 : Ad (Int × Int × Int × Unit) := aC (cInt .u64) (aC (cInt .u64) (aC (cInt .i64) (a0)))
noncomputable def rd7 : Rd (Int × Int) := r2 (cInt .u64) (cInt .u8)
noncomputable def fn_sums_Add (N : Nat) (x0 : Int) (x1 : Int) (x2 : Int) : Option (Int × Int) :=
  (fn_pat_IsNaN N x0).bind fun r1 =>
   cond r1
    ((fn_sums_none N [x0, x1]).bind fun r2 =>
     some (r2.1, r2.2))
    ((fn_pat_IsNaN N x1).bind fun r3 =>
     cond r3
      ((fn_sums_none N [x0, x1]).bind fun r4 =>
       some (r4.1, r4.2))
      ((fn_pat_Class N x0).bind fun r5 =>
       cond (eqI r5 3)
        ((fn_pat_Class N x1).bind fun r6 =>
         cond (eqI r6 3)
          (cond (!(eqI x0 x1))
           (some (9221120237041090560, 1))
           ((fn_pat_Class N x0).bind fun r7 =>
            cond (eqI r7 3)
             (some (x0, 0))
             ((fn_pat_Class N x1).bind fun r8 =>
              cond (eqI r8 3)
               (some (x1, 0))
               ((fn_rnd_Of N x0).bind fun r9 =>
                (fn_rnd_Of N x1).bind fun r10 =>
                 cond (!(isNoneI r9.2))
                  ((fn_sums_none N [x0, x1]).bind fun r11 =>
                   some (r11.1, r11.2))
                  (cond (!(isNoneI r10.2))
                   ((fn_sums_none N [x0, x1]).bind fun r12 =>
                    some (r12.1, r12.2))
                   ((fn_sums_join N (r9.1.1, r9.1.2.1, r9.1.2.2.1, r9.1.2.2.2) (r10.1.1, r10.1.2.1, r10.1.2.2.1, r10.1.2.2.2) x2).bind fun r13 =>
                    (fn_rnd_Round N (r13.1, r13.2.1, r13.2.2.1, r13.2.2.2) x2).bind fun r14 =>
                     some (r14.1, r14.2)))))))
          ((fn_pat_Class N x0).bind fun r15 =>
           cond (eqI r15 3)
            (some (x0, 0))
            ((fn_pat_Class N x1).bind fun r16 =>
             cond (eqI r16 3)
              (some (x1, 0))
              ((fn_rnd_Of N x0).bind fun r17 =>
               (fn_rnd_Of N x1).bind fun r18 =>
                cond (!(isNoneI r17.2))
                 ((fn_sums_none N [x0, x1]).bind fun r19 =>
                  some (r19.1, r19.2))
                 (cond (!(isNoneI r18.2))
                  ((fn_sums_none N [x0, x1]).bind fun r20 =>
                   some (r20.1, r20.2))
                  ((fn_sums_join N (r17.1.1, r17.1.2.1, r17.1.2.2.1, r17.1.2.2.2) (r18.1.1, r18.1.2.1, r18.1.2.2.1, r18.1.2.2.2) x2).bind fun r21 =>
                   (fn_rnd_Round N (r21.1, r21.2.1, r21.2.2.1, r21.2.2.2) x2).bind fun r22 =>
                    some (r22.1, r22.2)))))))
        ((fn_pat_Class N x0).bind fun r23 =>
         cond (eqI r23 3)
          (some (x0, 0))
          ((fn_pat_Class N x1).bind fun r24 =>
           cond (eqI r24 3)
            (some (x1, 0))
            ((fn_rnd_Of N x0).bind fun r25 =>
             (fn_rnd_Of N x1).bind fun r26 =>
              cond (!(isNoneI r25.2))
               ((fn_sums_none N [x0, x1]).bind fun r27 =>
                some (r27.1, r27.2))
               (cond (!(isNoneI r26.2))
                ((fn_sums_none N [x0, x1]).bind fun r28 =>
                 some (r28.1, r28.2))
                ((fn_sums_join N (r25.1.1, r25.1.2.1, r25.1.2.2.1, r25.1.2.2.2) (r26.1.1, r26.1.2.1, r26.1.2.2.1, r26.1.2.2.2) x2).bind fun r29 =>
                 (fn_rnd_Round N (r29.1, r29.2.1, r29.2.2.1, r29.2.2.2) x2).bind fun r30 =>
                  some (r30.1, r30.2))))))))
theorem run7 (N : Nat) (x0 : Int) (x1 : Int) (x2 : Int) : Eng.run T7 (G7 N) N live7 c7 Tryz.f7.results.toList Tryz.f7.ntmps ((ad7).enc (x0, x1, x2, ())) (rd7).dec = fn_sums_Add N x0 x1 x2 := by kernel_rfl
noncomputable def F7 (N : Nat) (a : Int × Int × Int × Unit) : Option (Int × Int) := fn_sums_Add N a.1 a.2.1 a.2.2.1
theorem ok7 (N : Nat) : FnOK Tryz.prog 7 ad7 rd7 (F7 N) :=
  fn_ok (N := N) (live := live7) (code := c7) (tok T7.rt T7.kl (wrNil_ok)) mixed (gok7 N) Tryz.func7 (by kernel_rfl) (by kernel_rfl) (by kernel_rfl) fun a p h => by rw [← h]; exact run7 N a.1 a.2.1 a.2.2.1

/-! ### tiller/prod.loud: function 23 -/
noncomputable def c23 : Code := (Tryz.f23.body).getD .skip
noncomputable def T23 : Tb := ⟨tyOf tys, [], [], wrNil⟩
noncomputable def G23 {R : Type} (N : Nat) : FuncId → List AV → (AV → Option R) → Option R := gCons 19 (gOf ad19 rd19 (F19 N)) (gNil)
theorem gok23 {R : Type} (N : Nat) : GOK Tryz.prog (G23 (R := R) N) := gCons_ok (ok19 N) (gNil_ok)
noncomputable def live23 : List (Nat × List (Nat × HK)) := [(2, [(5, .keep), (6, .keep), (7, .keep)])]
noncomputable def ad23 : Ad (List Int × Unit) := aC (cLi .u64) (a0)
noncomputable def rd23 : Rd (Int) := r1 (cInt .u8)
noncomputable def st23_0 (v0 : List Int) (v1 : Int) (v2 : Int) : St := ⟨[AV.none, AV.none, AV.none, AV.none, AV.none, AV.li .u64 v0, AV.v (.int .i64 v1), AV.v (.int .i64 v2), AV.none, AV.none, AV.none, AV.none, AV.none, AV.none, AV.none], [none, none, none, none, none, none, none, none, none, none, none, none, none, none, none]⟩
noncomputable def raw23_0 (N : Nat) (n : Nat) (v0 : List Int) (v1 : Int) (v2 : Int) : Option (Int) := loopN (lookN live23 2) (exec T23 (G23 N) N live23 (cL (cL (cR (cL (cR c23)))))) n (st23_0 v0 v1 v2) (blockK 0 (seqK (exec T23 (G23 N) N live23 (cR (cR c23))) (retK T23 Tryz.f23.results.toList (rd23).dec)))
noncomputable def s23_0 (N : Nat) (Ln0 : List Int → Int → Int → Option (Int)) (v0 : List Int) (v1 : Int) (v2 : Int) : Option (Int) :=
  cond (ltI v2 v1)
   (cond (leI 0 v2)
    (cond (ltI v2 (v0.length : Int))
     ((fn_pat_Class N (lrd v0 v2)).bind fun r1 =>
      cond (eqI r1 5)
       (some 1)
       (Ln0 v0 v1 (addI .i64 v2 1)))
     (none))
    (none))
   (some 0)
theorem step23_0 (N : Nat) (n : Nat) (v0 : List Int) (v1 : Int) (v2 : Int) : raw23_0 N  (n + 1) v0 v1 v2 = s23_0 N (raw23_0 N  n) v0 v1 v2 := by kernel_rfl
noncomputable def l23_0 (N : Nat) : Nat → List Int → Int → Int → Option (Int)
  | 0 => fun _ _ _ => none
  | n + 1 => fun v0 v1 v2 => s23_0 N (l23_0 N  n) v0 v1 v2
theorem eq23_0 (N : Nat) : ∀ n, raw23_0 N  n = l23_0 N  n := by
  intro n
  induction n with
  | zero => exact funext fun v0 => funext fun v1 => funext fun v2 => rfl
  | succ n ih => exact funext fun v0 => funext fun v1 => funext fun v2 => by rw [step23_0, ih]; rfl
noncomputable def t23 (N : Nat) (Le0 : List Int → Int → Int → Option (Int)) (x0 : List Int) : Option (Int) :=
  Le0 x0 (x0.length : Int) 0
noncomputable def fn_prod_loud (N : Nat) (x0 : List Int) : Option (Int) := t23 N (l23_0 N N) x0
theorem run23 (N : Nat) (x0 : List Int) : Eng.run T23 (G23 N) N live23 c23 Tryz.f23.results.toList Tryz.f23.ntmps ((ad23).enc (x0, ())) (rd23).dec = fn_prod_loud N x0 := by
  refine Eq.trans (show _ = t23 N (raw23_0 N N) x0 from by kernel_rfl) ?_
  unfold fn_prod_loud
  rw [eq23_0 N N]
noncomputable def F23 (N : Nat) (a : List Int × Unit) : Option (Int) := fn_prod_loud N a.1
theorem ok23 (N : Nat) : FnOK Tryz.prog 23 ad23 rd23 (F23 N) :=
  fn_ok (N := N) (live := live23) (code := c23) (tok T23.rt T23.kl (wrNil_ok)) mixed (gok23 N) Tryz.func23 (by kernel_rfl) (by kernel_rfl) (by kernel_rfl) fun a p h => by rw [← h]; exact run23 N a.1

/-! ### tiller/prod.nothing: function 24 -/
noncomputable def c24 : Code := (Tryz.f24.body).getD .skip
noncomputable def T24 : Tb := ⟨tyOf tys, [], [], wrNil⟩
noncomputable def G24 {R : Type} (N : Nat) : FuncId → List AV → (AV → Option R) → Option R := gCons 16 (gOf ad16 rd16 (F16 N)) (gNil)
theorem gok24 {R : Type} (N : Nat) : GOK Tryz.prog (G24 (R := R) N) := gCons_ok (ok16 N) (gNil_ok)
noncomputable def live24 : List (Nat × List (Nat × HK)) := []
noncomputable def ad24 : Ad (Int × Int × Unit) := aC (cInt .u64) (aC (cInt .u64) (a0))
noncomputable def rd24 : Rd (Bool) := r1 (cBool)
noncomputable def fn_prod_nothing (N : Nat) (x0 : Int) (x1 : Int) : Option (Bool) :=
  (fn_pat_Abs N x0).bind fun r1 =>
   (fn_pat_Abs N x1).bind fun r2 =>
    cond (eqI r1 0)
     (cond (eqI r2 9218868437227405312)
      (some true)
      (cond (eqI r1 9218868437227405312)
       (some (eqI r2 0))
       (some false)))
     (cond (eqI r1 9218868437227405312)
      (some (eqI r2 0))
      (some false))
theorem run24 (N : Nat) (x0 : Int) (x1 : Int) : Eng.run T24 (G24 N) N live24 c24 Tryz.f24.results.toList Tryz.f24.ntmps ((ad24).enc (x0, x1, ())) (rd24).dec = fn_prod_nothing N x0 x1 := by kernel_rfl
noncomputable def F24 (N : Nat) (a : Int × Int × Unit) : Option (Bool) := fn_prod_nothing N a.1 a.2.1
theorem ok24 (N : Nat) : FnOK Tryz.prog 24 ad24 rd24 (F24 N) :=
  fn_ok (N := N) (live := live24) (code := c24) (tok T24.rt T24.kl (wrNil_ok)) mixed (gok24 N) Tryz.func24 (by kernel_rfl) (by kernel_rfl) (by kernel_rfl) fun a p h => by rw [← h]; exact run24 N a.1 a.2.1

/-! ### tiller/prod.sign: function 26 -/
noncomputable def c26 : Code := (Tryz.f26.body).getD .skip
noncomputable def T26 : Tb := ⟨tyOf tys, [], [], wrNil⟩
noncomputable def G26 {R : Type} (N : Nat) : FuncId → List AV → (AV → Option R) → Option R := gNil
theorem gok26 {R : Type} (N : Nat) : GOK Tryz.prog (G26 (R := R) N) := gNil_ok
noncomputable def live26 : List (Nat × List (Nat × HK)) := []
noncomputable def ad26 : Ad (Int × Int × Unit) := aC (cInt .u64) (aC (cInt .u64) (a0))
noncomputable def rd26 : Rd (Int) := r1 (cInt .u64)
noncomputable def fn_prod_sign (N : Nat) (x0 : Int) (x1 : Int) : Option (Int) :=
  some (andI .u64 (xorI .u64 x0 x1) 9223372036854775808)
theorem run26 (N : Nat) (x0 : Int) (x1 : Int) : Eng.run T26 (G26 N) N live26 c26 Tryz.f26.results.toList Tryz.f26.ntmps ((ad26).enc (x0, x1, ())) (rd26).dec = fn_prod_sign N x0 x1 := by kernel_rfl
noncomputable def F26 (N : Nat) (a : Int × Int × Unit) : Option (Int) := fn_prod_sign N a.1 a.2.1
theorem ok26 (N : Nat) : FnOK Tryz.prog 26 ad26 rd26 (F26 N) :=
  fn_ok (N := N) (live := live26) (code := c26) (tok T26.rt T26.kl (wrNil_ok)) mixed (gok26 N) Tryz.func26 (by kernel_rfl) (by kernel_rfl) (by kernel_rfl) fun a p h => by rw [← h]; exact run26 N a.1 a.2.1

/-! ### math/bits.Mul64: function 87 -/
noncomputable def c87 : Code := (Tryz.f87.body).getD .skip
noncomputable def T87 : Tb := ⟨tyOf tys, [], [], wrNil⟩
noncomputable def G87 {R : Type} (N : Nat) : FuncId → List AV → (AV → Option R) → Option R := gNil
theorem gok87 {R : Type} (N : Nat) : GOK Tryz.prog (G87 (R := R) N) := gNil_ok
noncomputable def live87 : List (Nat × List (Nat × HK)) := []
noncomputable def ad87 : Ad (Int × Int × Unit) := aC (cInt .u64) (aC (cInt .u64) (a0))
noncomputable def rd87 : Rd (Int × Int) := r2 (cInt .u64) (cInt .u64)
noncomputable def fn_bits_Mul64 (N : Nat) (x0 : Int) (x1 : Int) : Option (Int × Int) :=
  some (addI .u64 (addI .u64 (mulI .u64 (shrI .u64 x0 32) (shrI .u64 x1 32)) (shrI .u64 (addI .u64 (mulI .u64 (shrI .u64 x0 32) (andI .u64 x1 4294967295)) (shrI .u64 (mulI .u64 (andI .u64 x0 4294967295) (andI .u64 x1 4294967295)) 32)) 32)) (shrI .u64 (addI .u64 (andI .u64 (addI .u64 (mulI .u64 (shrI .u64 x0 32) (andI .u64 x1 4294967295)) (shrI .u64 (mulI .u64 (andI .u64 x0 4294967295) (andI .u64 x1 4294967295)) 32)) 4294967295) (mulI .u64 (andI .u64 x0 4294967295) (shrI .u64 x1 32))) 32), mulI .u64 x0 x1)
theorem run87 (N : Nat) (x0 : Int) (x1 : Int) : Eng.run T87 (G87 N) N live87 c87 Tryz.f87.results.toList Tryz.f87.ntmps ((ad87).enc (x0, x1, ())) (rd87).dec = fn_bits_Mul64 N x0 x1 := by kernel_rfl
noncomputable def F87 (N : Nat) (a : Int × Int × Unit) : Option (Int × Int) := fn_bits_Mul64 N a.1 a.2.1
theorem ok87 (N : Nat) : FnOK Tryz.prog 87 ad87 rd87 (F87 N) :=
  fn_ok (N := N) (live := live87) (code := c87) (tok T87.rt T87.kl (wrNil_ok)) mixed (gok87 N) Tryz.func87 (by kernel_rfl) (by kernel_rfl) (by kernel_rfl) fun a p h => by rw [← h]; exact run87 N a.1 a.2.1

/-! ### tiller/wide.Mul: function 57 -/
noncomputable def c57 : Code := (Tryz.f57.body).getD .skip
noncomputable def T57 : Tb := ⟨tyOf tys, [(47, 6), (53, 6), (61, 6), (64, 6), (67, 6)], [], wrNil⟩
noncomputable def G57 {R : Type} (N : Nat) : FuncId → List AV → (AV → Option R) → Option R := gCons 87 (gOf ad87 rd87 (F87 N)) (gCons 88 (gOf (aI3 .u64) (r2 (cInt .u64) (cInt .u64)) (fun a => add64 a.1 a.2.1 a.2.2.1)) (gNil))
theorem gok57 {R : Type} (N : Nat) : GOK Tryz.prog (G57 (R := R) N) := gCons_ok (ok87 N) (gCons_ok (add64_ok Tryz.func88 (by kernel_rfl) (by kernel_rfl) (by kernel_rfl) (by kernel_rfl)) (gNil_ok))
noncomputable def live57 : List (Nat × List (Nat × HK)) := [(3, [(3, .keep), (4, .keep), (5, .keep), (6, .keep), (15, .keep), (16, .keep)]), (7, [(3, .keep), (4, .keep), (5, .keep), (6, .keep), (7, .keep), (8, .keep), (9, .keep), (15, .keep), (16, .keep), (20, .keep), (21, .keep)])]
noncomputable def ad57 : Ad (Vec 4 × Vec 4 × Unit) := aC (cVec .u64 4) (aC (cVec .u64 4) (a0))
noncomputable def rd57 : Rd (Vec 4 × Vec 4) := r2 (cVec .u64 4) (cVec .u64 4)
noncomputable def st57_0 (v0 : Vec 4) (v1 : Int) (v2 : Vec 4) (v3 : Vec 4) (v4 : Vec 4) (v5 : Vec 8) : St := ⟨[AV.none, AV.none, AV.none, AV.ptr 3 0, AV.ptr 4 0, AV.ptr 5 0, AV.ptr 6 0, AV.none, AV.none, AV.none, AV.none, AV.none, AV.none, AV.none, AV.none, AV.arr .u64 4 v0, AV.v (.int .i64 v1), AV.none, AV.none, AV.none, AV.none, AV.none, AV.none, AV.none, AV.none, AV.none, AV.none, AV.none, AV.none, AV.none, AV.none, AV.none, AV.none, AV.none, AV.none, AV.none, AV.none, AV.none, AV.none, AV.none, AV.none, AV.none, AV.none, AV.none, AV.none, AV.none, AV.none, AV.none, AV.none, AV.none, AV.none, AV.none, AV.none, AV.none, AV.none, AV.none, AV.none, AV.none, AV.none, AV.none, AV.none, AV.none, AV.none, AV.none, AV.none, AV.none, AV.none, AV.none, AV.none], [none, none, none, some (OB.arr .u64 4 v2), some (OB.arr .u64 4 v3), some (OB.arr .u64 4 v4), some (OB.arr .u64 8 v5), none, none, none, none, none, none, none, none, none, none, none, none, none, none, none, none, none, none, none, none, none, none, none, none, none, none, none, none, none, none, none, none, none, none, none, none, none, none, none, none, none, none, none, none, none, none, none, none, none, none, none, none, none, none, none, none, none, none, none, none, none, none]⟩
noncomputable def raw57_0 (N : Nat) (n : Nat) (v0 : Vec 4) (v1 : Int) (v2 : Vec 4) (v3 : Vec 4) (v4 : Vec 4) (v5 : Vec 8) : Option (Vec 4 × Vec 4) := loopN (lookN live57 3) (exec T57 (G57 N) N live57 (cL (cL (cR (cL (cR (cR c57))))))) n (st57_0 v0 v1 v2 v3 v4 v5) (blockK 0 (seqK (exec T57 (G57 N) N live57 (cR (cR (cR c57)))) (retK T57 Tryz.f57.results.toList (rd57).dec)))
noncomputable def st57_1 (v0 : Int) (v1 : Int) (v2 : Int) (v3 : Vec 4) (v4 : Int) (v5 : Vec 4) (v6 : Int) (v7 : Vec 4) (v8 : Vec 4) (v9 : Vec 4) (v10 : Vec 8) : St := ⟨[AV.none, AV.none, AV.none, AV.ptr 3 0, AV.ptr 4 0, AV.ptr 5 0, AV.ptr 6 0, AV.v (.int .i64 v0), AV.v (.int .u64 v1), AV.v (.int .u64 v2), AV.none, AV.none, AV.none, AV.none, AV.none, AV.arr .u64 4 v3, AV.v (.int .i64 v4), AV.none, AV.none, AV.none, AV.arr .u64 4 v5, AV.v (.int .i64 v6), AV.none, AV.none, AV.none, AV.none, AV.none, AV.none, AV.none, AV.none, AV.none, AV.none, AV.none, AV.none, AV.none, AV.none, AV.none, AV.none, AV.none, AV.none, AV.none, AV.none, AV.none, AV.none, AV.none, AV.none, AV.none, AV.none, AV.none, AV.none, AV.none, AV.none, AV.none, AV.none, AV.none, AV.none, AV.none, AV.none, AV.none, AV.none, AV.none, AV.none, AV.none, AV.none, AV.none, AV.none, AV.none, AV.none, AV.none], [none, none, none, some (OB.arr .u64 4 v7), some (OB.arr .u64 4 v8), some (OB.arr .u64 4 v9), some (OB.arr .u64 8 v10), none, none, none, none, none, none, none, none, none, none, none, none, none, none, none, none, none, none, none, none, none, none, none, none, none, none, none, none, none, none, none, none, none, none, none, none, none, none, none, none, none, none, none, none, none, none, none, none, none, none, none, none, none, none, none, none, none, none, none, none, none, none]⟩
noncomputable def raw57_1 (N : Nat) (m0 : Nat) (n : Nat) (v0 : Int) (v1 : Int) (v2 : Int) (v3 : Vec 4) (v4 : Int) (v5 : Vec 4) (v6 : Int) (v7 : Vec 4) (v8 : Vec 4) (v9 : Vec 4) (v10 : Vec 8) : Option (Vec 4 × Vec 4) := loopN (lookN live57 7) (exec T57 (G57 N) N live57 (cL (cL (cR (cL (cR (cR (cL (cL (cR (cR (cL (cL (cR (cL (cR (cR c57))))))))))))))))) n (st57_1 v0 v1 v2 v3 v4 v5 v6 v7 v8 v9 v10) (blockK 2 (seqK (exec T57 (G57 N) N live57 (cR (cR (cR (cL (cL (cR (cR (cL (cL (cR (cL (cR (cR c57)))))))))))))) (blockK 1 (seqK (exec T57 (G57 N) N live57 (cR (cR (cR (cL (cL (cR (cL (cR (cR c57)))))))))) (roundK (fun s => loopN (lookN live57 3) (exec T57 (G57 N) N live57 (cL (cL (cR (cL (cR (cR c57))))))) m0 s (blockK 0 (seqK (exec T57 (G57 N) N live57 (cR (cR (cR c57)))) (retK T57 Tryz.f57.results.toList (rd57).dec)))) (lookN live57 3) (blockK 0 (seqK (exec T57 (G57 N) N live57 (cR (cR (cR c57)))) (retK T57 Tryz.f57.results.toList (rd57).dec))))))))
noncomputable def s57_1 (N : Nat) (Ln1 : Int → Int → Int → Vec 4 → Int → Vec 4 → Int → Vec 4 → Vec 4 → Vec 4 → Vec 8 → Option (Vec 4 × Vec 4)) (Ln0 : Vec 4 → Int → Vec 4 → Vec 4 → Vec 4 → Vec 8 → Option (Vec 4 × Vec 4)) (v0 : Int) (v1 : Int) (v2 : Int) (v3 : Vec 4) (v4 : Int) (v5 : Vec 4) (v6 : Int) (v7 : Vec 4) (v8 : Vec 4) (v9 : Vec 4) (v10 : Vec 8) : Option (Vec 4 × Vec 4) :=
  cond (ltI v6 4)
   (cond (leI 0 v6)
    (cond (ltI v6 4)
     ((fn_bits_Mul64 N v1 (Vec.rd v5 v6)).bind fun r1 =>
      (add64 r1.2 v2 0).bind fun r2 =>
       cond (leI 0 (addI .i64 v0 v6))
        (cond (ltI (addI .i64 v0 v6) 8)
         ((add64 (Vec.rd v10 (addI .i64 v0 v6)) r2.1 0).bind fun r3 =>
          cond (leI 0 (addI .i64 v0 v6))
           (cond (ltI (addI .i64 v0 v6) 8)
            (Ln1 v0 v1 (addI .u64 (addI .u64 r1.1 r2.2) r3.2) v3 v4 v5 (addI .i64 v6 1) v7 v8 v9 (Vec.st v10 (addI .i64 v0 v6) r3.1))
            (none))
           (none))
         (none))
        (none))
     (none))
    (none))
   (cond (leI 0 (addI .i64 v0 4))
    (cond (ltI (addI .i64 v0 4) 8)
     (Ln0 v3 (addI .i64 v4 1) v7 v8 v9 (Vec.st v10 (addI .i64 v0 4) v2))
     (none))
    (none))
theorem step57_1 (N : Nat) (m0 : Nat) (n : Nat) (v0 : Int) (v1 : Int) (v2 : Int) (v3 : Vec 4) (v4 : Int) (v5 : Vec 4) (v6 : Int) (v7 : Vec 4) (v8 : Vec 4) (v9 : Vec 4) (v10 : Vec 8) : raw57_1 N m0 (n + 1) v0 v1 v2 v3 v4 v5 v6 v7 v8 v9 v10 = s57_1 N (raw57_1 N m0 n) (raw57_0 N  m0) v0 v1 v2 v3 v4 v5 v6 v7 v8 v9 v10 := by kernel_rfl
noncomputable def l57_1 (N : Nat) (E0 : Vec 4 → Int → Vec 4 → Vec 4 → Vec 4 → Vec 8 → Option (Vec 4 × Vec 4)) : Nat → Int → Int → Int → Vec 4 → Int → Vec 4 → Int → Vec 4 → Vec 4 → Vec 4 → Vec 8 → Option (Vec 4 × Vec 4)
  | 0 => fun _ _ _ _ _ _ _ _ _ _ _ => none
  | n + 1 => fun v0 v1 v2 v3 v4 v5 v6 v7 v8 v9 v10 => s57_1 N (l57_1 N E0 n) E0 v0 v1 v2 v3 v4 v5 v6 v7 v8 v9 v10
theorem eq57_1 (N : Nat) (m0 : Nat) : ∀ n, raw57_1 N m0 n = l57_1 N (raw57_0 N  m0) n := by
  intro n
  induction n with
  | zero => exact funext fun v0 => funext fun v1 => funext fun v2 => funext fun v3 => funext fun v4 => funext fun v5 => funext fun v6 => funext fun v7 => funext fun v8 => funext fun v9 => funext fun v10 => rfl
  | succ n ih => exact funext fun v0 => funext fun v1 => funext fun v2 => funext fun v3 => funext fun v4 => funext fun v5 => funext fun v6 => funext fun v7 => funext fun v8 => funext fun v9 => funext fun v10 => by rw [step57_1, ih]; rfl
noncomputable def s57_0 (N : Nat) (Le1 : Int → Int → Int → Vec 4 → Int → Vec 4 → Int → Vec 4 → Vec 4 → Vec 4 → Vec 8 → Option (Vec 4 × Vec 4)) (v0 : Vec 4) (v1 : Int) (v2 : Vec 4) (v3 : Vec 4) (v4 : Vec 4) (v5 : Vec 8) : Option (Vec 4 × Vec 4) :=
  cond (ltI v1 4)
   (cond (leI 0 v1)
    (cond (ltI v1 4)
     (Le1 v1 (Vec.rd v0 v1) 0 v0 v1 v2 0 v2 v3 v4 v5)
     (none))
    (none))
   (some (v5.sub 0 4 (by decide), v5.sub 4 4 (by decide)))
theorem step57_0 (N : Nat) (n : Nat) (v0 : Vec 4) (v1 : Int) (v2 : Vec 4) (v3 : Vec 4) (v4 : Vec 4) (v5 : Vec 8) : raw57_0 N  (n + 1) v0 v1 v2 v3 v4 v5 = s57_0 N (raw57_1 N n N) v0 v1 v2 v3 v4 v5 := by kernel_rfl
noncomputable def l57_0 (N : Nat) : Nat → Vec 4 → Int → Vec 4 → Vec 4 → Vec 4 → Vec 8 → Option (Vec 4 × Vec 4)
  | 0 => fun _ _ _ _ _ _ => none
  | n + 1 => fun v0 v1 v2 v3 v4 v5 => s57_0 N (l57_1 N (l57_0 N  n) N) v0 v1 v2 v3 v4 v5
theorem eq57_0 (N : Nat) : ∀ n, raw57_0 N  n = l57_0 N  n := by
  intro n
  induction n with
  | zero => exact funext fun v0 => funext fun v1 => funext fun v2 => funext fun v3 => funext fun v4 => funext fun v5 => rfl
  | succ n ih => exact funext fun v0 => funext fun v1 => funext fun v2 => funext fun v3 => funext fun v4 => funext fun v5 => by rw [step57_0, eq57_1 N n N, ih]; rfl
noncomputable def t57 (N : Nat) (Le0 : Vec 4 → Int → Vec 4 → Vec 4 → Vec 4 → Vec 8 → Option (Vec 4 × Vec 4)) (x0 : Vec 4) (x1 : Vec 4) : Option (Vec 4 × Vec 4) :=
  Le0 x0 0 x1 (Vec.zero 4) (Vec.zero 4) (Vec.zero 8)
noncomputable def fn_wide_Mul (N : Nat) (x0 : Vec 4) (x1 : Vec 4) : Option (Vec 4 × Vec 4) := t57 N (l57_0 N N) x0 x1
theorem run57 (N : Nat) (x0 : Vec 4) (x1 : Vec 4) : Eng.run T57 (G57 N) N live57 c57 Tryz.f57.results.toList Tryz.f57.ntmps ((ad57).enc (x0, x1, ())) (rd57).dec = fn_wide_Mul N x0 x1 := by
  refine Eq.trans (show _ = t57 N (raw57_0 N N) x0 x1 from by kernel_rfl) ?_
  unfold fn_wide_Mul
  rw [eq57_0 N N]
noncomputable def F57 (N : Nat) (a : Vec 4 × Vec 4 × Unit) : Option (Vec 4 × Vec 4) := fn_wide_Mul N a.1 a.2.1
theorem ok57 (N : Nat) : FnOK Tryz.prog 57 ad57 rd57 (F57 N) :=
  fn_ok (N := N) (live := live57) (code := c57) (tok T57.rt T57.kl (wrNil_ok)) mixed (gok57 N) Tryz.func57 (by kernel_rfl) (by kernel_rfl) (by kernel_rfl) fun a p h => by rw [← h]; exact run57 N a.1 a.2.1

/-! ### tiller/prod.exact: function 27 -/
noncomputable def c27 : Code := (Tryz.f27.body).getD .skip
noncomputable def T27 : Tb := ⟨tyOf tys, [(14, 5), (17, 6), (23, 5), (25, 6), (28, 5), (30, 6)], [], wrNil⟩
noncomputable def G27 {R : Type} (N : Nat) : FuncId → List AV → (AV → Option R) → Option R := gCons 28 (gOf ad28 rd28 (F28 N)) (gCons 32 (gOf ad32 rd32 (F32 N)) (gCons 57 (gOf ad57 rd57 (F57 N)) (gNil)))
theorem gok27 {R : Type} (N : Nat) : GOK Tryz.prog (G27 (R := R) N) := gCons_ok (ok28 N) (gCons_ok (ok32 N) (gCons_ok (ok57 N) (gNil_ok)))
noncomputable def live27 : List (Nat × List (Nat × HK)) := []
noncomputable def ad27 : Ad (Int × Int × Unit) := aC (cInt .u64) (aC (cInt .u64) (a0))
noncomputable def rd27 : Rd ((Bool × Int × Vec 4 × Bool)) := r1 (cSta (sC (pBool) (sC (pInt .i64) (sC (pVec .u64 4) (sO (pBool))))))
noncomputable def fn_prod_exact (N : Nat) (x0 : Int) (x1 : Int) : Option ((Bool × Int × Vec 4 × Bool)) :=
  (fn_pat_Take N x0).bind fun r1 =>
   (fn_pat_Take N x1).bind fun r2 =>
    (fn_wide_Of N r1.2.2.2).bind fun r3 =>
     (fn_wide_Of N r2.2.2.2).bind fun r4 =>
      (fn_wide_Mul N r3 r4).bind fun r5 =>
       some (!(eqB r1.1 r2.1), addI .i64 r1.2.2.1 r2.2.2.1, r5.1, false)
theorem run27 (N : Nat) (x0 : Int) (x1 : Int) : Eng.run T27 (G27 N) N live27 c27 Tryz.f27.results.toList Tryz.f27.ntmps ((ad27).enc (x0, x1, ())) (rd27).dec = fn_prod_exact N x0 x1 := by kernel_rfl
noncomputable def F27 (N : Nat) (a : Int × Int × Unit) : Option ((Bool × Int × Vec 4 × Bool)) := fn_prod_exact N a.1 a.2.1
theorem ok27 (N : Nat) : FnOK Tryz.prog 27 ad27 rd27 (F27 N) :=
  fn_ok (N := N) (live := live27) (code := c27) (tok T27.rt T27.kl (wrNil_ok)) mixed (gok27 N) Tryz.func27 (by kernel_rfl) (by kernel_rfl) (by kernel_rfl) fun a p h => by rw [← h]; exact run27 N a.1 a.2.1

/-! ### tiller/prod.Mul: function 8 -/
noncomputable def c8 : Code := (Tryz.f8.body).getD .skip
noncomputable def T8 : Tb := ⟨tyOf tys, [], [], wrNil⟩
noncomputable def G8 {R : Type} (N : Nat) : FuncId → List AV → (AV → Option R) → Option R := gCons 14 (gOf ad14 rd14 (F14 N)) (gCons 23 (gOf ad23 rd23 (F23 N)) (gCons 24 (gOf ad24 rd24 (F24 N)) (gCons 25 (gOf ad25 rd25 (F25 N)) (gCons 26 (gOf ad26 rd26 (F26 N)) (gCons 27 (gOf ad27 rd27 (F27 N)) (gCons 21 (gOf ad21 rd21 (F21 N)) (gNil)))))))
theorem gok8 {R : Type} (N : Nat) : GOK Tryz.prog (G8 (R := R) N) := gCons_ok (ok14 N) (gCons_ok (ok23 N) (gCons_ok (ok24 N) (gCons_ok (ok25 N) (gCons_ok (ok26 N) (gCons_ok (ok27 N) (gCons_ok (ok21 N) (gNil_ok)))))))
noncomputable def live8 : List (Nat × List (Nat × HK)) := []
noncomputable def ad8 : Ad (Int × Int × Int × Unit) := aC (cInt .u64) (aC (cInt .u64) (aC (cInt .i64) (a0)))
noncomputable def rd8 : Rd (Int × Int) := r2 (cInt .u64) (cInt .u8)
noncomputable def fn_prod_Mul (N : Nat) (x0 : Int) (x1 : Int) (x2 : Int) : Option (Int × Int) :=
  (fn_pat_IsNaN N x0).bind fun r1 =>
   cond r1
    ((fn_prod_loud N [x0, x1]).bind fun r2 =>
     some (9221120237041090560, r2))
    ((fn_pat_IsNaN N x1).bind fun r3 =>
     cond r3
      ((fn_prod_loud N [x0, x1]).bind fun r4 =>
       some (9221120237041090560, r4))
      ((fn_prod_nothing N x0 x1).bind fun r5 =>
       cond r5
        (some (9221120237041090560, 1))
        ((fn_pat_Finite N x0).bind fun r6 =>
         cond (!(r6))
          ((fn_prod_sign N x0 x1).bind fun r7 =>
           some (orI .u64 9218868437227405312 r7, 0))
          ((fn_pat_Finite N x1).bind fun r8 =>
           cond (!(r8))
            ((fn_prod_sign N x0 x1).bind fun r9 =>
             some (orI .u64 9218868437227405312 r9, 0))
            ((fn_prod_exact N x0 x1).bind fun r10 =>
             (fn_rnd_Round N (r10.1, r10.2.1, r10.2.2.1, r10.2.2.2) x2).bind fun r11 =>
              some (r11.1, r11.2))))))
theorem run8 (N : Nat) (x0 : Int) (x1 : Int) (x2 : Int) : Eng.run T8 (G8 N) N live8 c8 Tryz.f8.results.toList Tryz.f8.ntmps ((ad8).enc (x0, x1, x2, ())) (rd8).dec = fn_prod_Mul N x0 x1 x2 := by kernel_rfl
noncomputable def F8 (N : Nat) (a : Int × Int × Int × Unit) : Option (Int × Int) := fn_prod_Mul N a.1 a.2.1 a.2.2.1
theorem ok8 (N : Nat) : FnOK Tryz.prog 8 ad8 rd8 (F8 N) :=
  fn_ok (N := N) (live := live8) (code := c8) (tok T8.rt T8.kl (wrNil_ok)) mixed (gok8 N) Tryz.func8 (by kernel_rfl) (by kernel_rfl) (by kernel_rfl) fun a p h => by rw [← h]; exact run8 N a.1 a.2.1 a.2.2.1

/-! ### tiller/quot.none: function 29 -/
noncomputable def c29 : Code := (Tryz.f29.body).getD .skip
noncomputable def T29 : Tb := ⟨tyOf tys, [], [], wrNil⟩
noncomputable def G29 {R : Type} (N : Nat) : FuncId → List AV → (AV → Option R) → Option R := gCons 19 (gOf ad19 rd19 (F19 N)) (gNil)
theorem gok29 {R : Type} (N : Nat) : GOK Tryz.prog (G29 (R := R) N) := gCons_ok (ok19 N) (gNil_ok)
noncomputable def live29 : List (Nat × List (Nat × HK)) := []
noncomputable def ad29 : Ad (Int × Int × Unit) := aC (cInt .u64) (aC (cInt .u64) (a0))
noncomputable def rd29 : Rd (Int × Int) := r2 (cInt .u64) (cInt .u8)
noncomputable def fn_quot_none (N : Nat) (x0 : Int) (x1 : Int) : Option (Int × Int) :=
  (fn_pat_Class N x0).bind fun r1 =>
   cond (eqI r1 5)
    (some (9221120237041090560, 1))
    ((fn_pat_Class N x1).bind fun r2 =>
     cond (eqI r2 5)
      (some (9221120237041090560, 1))
      (some (9221120237041090560, 0)))
theorem run29 (N : Nat) (x0 : Int) (x1 : Int) : Eng.run T29 (G29 N) N live29 c29 Tryz.f29.results.toList Tryz.f29.ntmps ((ad29).enc (x0, x1, ())) (rd29).dec = fn_quot_none N x0 x1 := by kernel_rfl
noncomputable def F29 (N : Nat) (a : Int × Int × Unit) : Option (Int × Int) := fn_quot_none N a.1 a.2.1
theorem ok29 (N : Nat) : FnOK Tryz.prog 29 ad29 rd29 (F29 N) :=
  fn_ok (N := N) (live := live29) (code := c29) (tok T29.rt T29.kl (wrNil_ok)) mixed (gok29 N) Tryz.func29 (by kernel_rfl) (by kernel_rfl) (by kernel_rfl) fun a p h => by rw [← h]; exact run29 N a.1 a.2.1

/-! ### tiller/wide.DivMod: function 30 -/
noncomputable def c30 : Code := (Tryz.f30.body).getD .skip
noncomputable def T30 : Tb := ⟨tyOf tys, [(39, 7), (45, 7)], [], wrNil⟩
noncomputable def G30 {R : Type} (N : Nat) : FuncId → List AV → (AV → Option R) → Option R := gCons 49 (gOf ad49 rd49 (F49 N)) (gCons 31 (gOf ad31 rd31 (F31 N)) (gCons 58 (gOf ad58 rd58 (F58 N)) (gNil)))
theorem gok30 {R : Type} (N : Nat) : GOK Tryz.prog (G30 (R := R) N) := gCons_ok (ok49 N) (gCons_ok (ok31 N) (gCons_ok (ok58 N) (gNil_ok)))
noncomputable def live30 : List (Nat × List (Nat × HK)) := [(5, [(2, .keep), (3, .keep), (4, .keep), (5, .keep), (7, .keep), (8, .keep)])]
noncomputable def ad30 : Ad (Vec 4 × Vec 4 × Unit) := aC (cVec .u64 4) (aC (cVec .u64 4) (a0))
noncomputable def rd30 : Rd (Vec 4 × Vec 4 × Option Int) := r3 (cVec .u64 4) (cVec .u64 4) (cErr 83)
noncomputable def st30_0 (v0 : Int) (v1 : Vec 4) (v2 : Vec 4) (v3 : Vec 4) (v4 : Vec 4) (v5 : Vec 4) : St := ⟨[AV.none, AV.none, AV.ptr 2 0, AV.ptr 3 0, AV.ptr 4 0, AV.ptr 5 0, AV.none, AV.ptr 7 0, AV.v (.int .i64 v0), AV.none, AV.none, AV.none, AV.none, AV.none, AV.none, AV.none, AV.none, AV.none, AV.none, AV.none, AV.none, AV.none, AV.none, AV.none, AV.none, AV.none, AV.none, AV.none, AV.none, AV.none, AV.none, AV.none, AV.none, AV.none, AV.none, AV.none, AV.none, AV.none, AV.none, AV.none, AV.none, AV.none, AV.none, AV.none, AV.none, AV.none, AV.none, AV.none], [none, none, some (OB.arr .u64 4 v1), some (OB.arr .u64 4 v2), some (OB.arr .u64 4 v3), some (OB.arr .u64 4 v4), none, some (OB.arr .u64 4 v5), none, none, none, none, none, none, none, none, none, none, none, none, none, none, none, none, none, none, none, none, none, none, none, none, none, none, none, none, none, none, none, none, none, none, none, none, none, none, none, none]⟩
noncomputable def raw30_0 (N : Nat) (n : Nat) (v0 : Int) (v1 : Vec 4) (v2 : Vec 4) (v3 : Vec 4) (v4 : Vec 4) (v5 : Vec 4) : Option (Vec 4 × Vec 4 × Option Int) := loopN (lookN live30 5) (exec T30 (G30 N) N live30 (cL (cL (cR (cL (cR (cR (cR c30)))))))) n (st30_0 v0 v1 v2 v3 v4 v5) (blockK 0 (seqK (exec T30 (G30 N) N live30 (cR (cR (cR (cR c30))))) (retK T30 Tryz.f30.results.toList (rd30).dec)))
noncomputable def s30_0 (N : Nat) (Ln0 : Int → Vec 4 → Vec 4 → Vec 4 → Vec 4 → Vec 4 → Option (Vec 4 × Vec 4 × Option Int)) (v0 : Int) (v1 : Vec 4) (v2 : Vec 4) (v3 : Vec 4) (v4 : Vec 4) (v5 : Vec 4) : Option (Vec 4 × Vec 4 × Option Int) :=
  cond (leI 0 v0)
   ((fn_wide_Shl N v2 v0).bind fun r3 =>
    (fn_wide_Sub N v1 r3).bind fun r4 =>
     cond (!(r4.2))
      (cond (leI 0 (quoI .i64 v0 64))
       (cond (ltI (quoI .i64 v0 64) 4)
        (cond (ltI (remI .i64 v0 64) 0)
         (none)
         (cond (leI 0 (quoI .i64 v0 64))
          (cond (ltI (quoI .i64 v0 64) 4)
           (Ln0 (subI .i64 v0 1) r4.1 v2 v3 v4 (Vec.st v5 (quoI .i64 v0 64) (orI .u64 (Vec.rd v5 (quoI .i64 v0 64)) (shlI .u64 1 (remI .i64 v0 64)))))
           (none))
          (none)))
        (none))
       (none))
      (Ln0 (subI .i64 v0 1) v1 v2 v3 v4 v5))
   (some (v5, v1, none))
theorem step30_0 (N : Nat) (n : Nat) (v0 : Int) (v1 : Vec 4) (v2 : Vec 4) (v3 : Vec 4) (v4 : Vec 4) (v5 : Vec 4) : raw30_0 N  (n + 1) v0 v1 v2 v3 v4 v5 = s30_0 N (raw30_0 N  n) v0 v1 v2 v3 v4 v5 := by kernel_rfl
noncomputable def l30_0 (N : Nat) : Nat → Int → Vec 4 → Vec 4 → Vec 4 → Vec 4 → Vec 4 → Option (Vec 4 × Vec 4 × Option Int)
  | 0 => fun _ _ _ _ _ _ => none
  | n + 1 => fun v0 v1 v2 v3 v4 v5 => s30_0 N (l30_0 N  n) v0 v1 v2 v3 v4 v5
theorem eq30_0 (N : Nat) : ∀ n, raw30_0 N  n = l30_0 N  n := by
  intro n
  induction n with
  | zero => exact funext fun v0 => funext fun v1 => funext fun v2 => funext fun v3 => funext fun v4 => funext fun v5 => rfl
  | succ n ih => exact funext fun v0 => funext fun v1 => funext fun v2 => funext fun v3 => funext fun v4 => funext fun v5 => by rw [step30_0, ih]; rfl
noncomputable def t30 (N : Nat) (Le0 : Int → Vec 4 → Vec 4 → Vec 4 → Vec 4 → Vec 4 → Option (Vec 4 × Vec 4 × Option Int)) (x0 : Vec 4) (x1 : Vec 4) : Option (Vec 4 × Vec 4 × Option Int) :=
  cond (eqL x1.1 (Vec.zero 4).1)
   (some (Vec.zero 4, Vec.zero 4, some 5))
   ((fn_wide_Len N x0).bind fun r1 =>
    (fn_wide_Len N x1).bind fun r2 =>
     Le0 (subI .i64 r1 r2) x0 x1 (Vec.zero 4) (Vec.zero 4) (Vec.zero 4))
noncomputable def fn_wide_DivMod (N : Nat) (x0 : Vec 4) (x1 : Vec 4) : Option (Vec 4 × Vec 4 × Option Int) := t30 N (l30_0 N N) x0 x1
theorem run30 (N : Nat) (x0 : Vec 4) (x1 : Vec 4) : Eng.run T30 (G30 N) N live30 c30 Tryz.f30.results.toList Tryz.f30.ntmps ((ad30).enc (x0, x1, ())) (rd30).dec = fn_wide_DivMod N x0 x1 := by
  refine Eq.trans (show _ = t30 N (raw30_0 N N) x0 x1 from by kernel_rfl) ?_
  unfold fn_wide_DivMod
  rw [eq30_0 N N]
noncomputable def F30 (N : Nat) (a : Vec 4 × Vec 4 × Unit) : Option (Vec 4 × Vec 4 × Option Int) := fn_wide_DivMod N a.1 a.2.1
theorem ok30 (N : Nat) : FnOK Tryz.prog 30 ad30 rd30 (F30 N) :=
  fn_ok (N := N) (live := live30) (code := c30) (tok T30.rt T30.kl (wrNil_ok)) mixed (gok30 N) Tryz.func30 (by kernel_rfl) (by kernel_rfl) (by kernel_rfl) fun a p h => by rw [← h]; exact run30 N a.1 a.2.1

/-! ### tiller/quot.Div: function 9 -/
noncomputable def c9 : Code := (Tryz.f9.body).getD .skip
noncomputable def T9 : Tb := ⟨tyOf tys, [(35, 9), (37, 10), (41, 9), (45, 9), (51, 9), (57, 10), (62, 10), (68, 9), (72, 10), (83, 9), (85, 10)], [], wrNil⟩
noncomputable def G9 {R : Type} (N : Nat) : FuncId → List AV → (AV → Option R) → Option R := gCons 28 (gOf ad28 rd28 (F28 N)) (gCons 14 (gOf ad14 rd14 (F14 N)) (gCons 29 (gOf ad29 rd29 (F29 N)) (gCons 32 (gOf ad32 rd32 (F32 N)) (gCons 31 (gOf ad31 rd31 (F31 N)) (gCons 30 (gOf ad30 rd30 (F30 N)) (gCons 21 (gOf ad21 rd21 (F21 N)) (gNil)))))))
theorem gok9 {R : Type} (N : Nat) : GOK Tryz.prog (G9 (R := R) N) := gCons_ok (ok28 N) (gCons_ok (ok14 N) (gCons_ok (ok29 N) (gCons_ok (ok32 N) (gCons_ok (ok31 N) (gCons_ok (ok30 N) (gCons_ok (ok21 N) (gNil_ok)))))))
noncomputable def live9 : List (Nat × List (Nat × HK)) := []
noncomputable def ad9 : Ad (Int × Int × Int × Unit) := aC (cInt .u64) (aC (cInt .u64) (aC (cInt .i64) (a0)))
noncomputable def rd9 : Rd (Int × Int) := r2 (cInt .u64) (cInt .u8)
noncomputable def fn_quot_Div (N : Nat) (x0 : Int) (x1 : Int) (x2 : Int) : Option (Int × Int) :=
  (fn_pat_Take N x0).bind fun r1 =>
   (fn_pat_Take N x1).bind fun r2 =>
    (fn_pat_IsNaN N x0).bind fun r3 =>
     cond r3
      ((fn_quot_none N x0 x1).bind fun r4 =>
       some (r4.1, r4.2))
      ((fn_pat_IsNaN N x1).bind fun r5 =>
       cond r5
        ((fn_quot_none N x0 x1).bind fun r6 =>
         some (r6.1, r6.2))
        (cond (eqI r1.2.1 r2.2.1)
         (cond (eqI r1.2.1 0)
          (some (9221120237041090560, 1))
          (cond (eqI r1.2.1 3)
           (some (9221120237041090560, 1))
           (cond (eqI r1.2.1 3)
            (some (orI .u64 9218868437227405312 (andI .u64 (xorI .u64 x0 x1) 9223372036854775808), 0))
            (cond (eqI r2.2.1 3)
             (some (andI .u64 (xorI .u64 x0 x1) 9223372036854775808, 0))
             (cond (eqI r2.2.1 0)
              (some (orI .u64 9218868437227405312 (andI .u64 (xorI .u64 x0 x1) 9223372036854775808), 2))
              ((fn_wide_Of N r1.2.2.2).bind fun r7 =>
               (fn_wide_Shl N r7 128).bind fun r8 =>
                (fn_wide_Of N r2.2.2.2).bind fun r9 =>
                 (fn_wide_DivMod N r8 r9).bind fun r10 =>
                  cond (!(isNoneI r10.2.2))
                   (some (9221120237041090560, 1))
                   ((fn_rnd_Round N (!(eqI (andI .u64 (xorI .u64 x0 x1) 9223372036854775808) 0), subI .i64 (subI .i64 r1.2.2.1 r2.2.2.1) 128, r10.1, !(eqL r10.2.1.1 (Vec.zero 4).1)) x2).bind fun r11 =>
                    some (r11.1, r11.2))))))))
         (cond (eqI r1.2.1 3)
          (some (orI .u64 9218868437227405312 (andI .u64 (xorI .u64 x0 x1) 9223372036854775808), 0))
          (cond (eqI r2.2.1 3)
           (some (andI .u64 (xorI .u64 x0 x1) 9223372036854775808, 0))
           (cond (eqI r2.2.1 0)
            (some (orI .u64 9218868437227405312 (andI .u64 (xorI .u64 x0 x1) 9223372036854775808), 2))
            ((fn_wide_Of N r1.2.2.2).bind fun r12 =>
             (fn_wide_Shl N r12 128).bind fun r13 =>
              (fn_wide_Of N r2.2.2.2).bind fun r14 =>
               (fn_wide_DivMod N r13 r14).bind fun r15 =>
                cond (!(isNoneI r15.2.2))
                 (some (9221120237041090560, 1))
                 ((fn_rnd_Round N (!(eqI (andI .u64 (xorI .u64 x0 x1) 9223372036854775808) 0), subI .i64 (subI .i64 r1.2.2.1 r2.2.2.1) 128, r15.1, !(eqL r15.2.1.1 (Vec.zero 4).1)) x2).bind fun r16 =>
                  some (r16.1, r16.2))))))))
theorem run9 (N : Nat) (x0 : Int) (x1 : Int) (x2 : Int) : Eng.run T9 (G9 N) N live9 c9 Tryz.f9.results.toList Tryz.f9.ntmps ((ad9).enc (x0, x1, x2, ())) (rd9).dec = fn_quot_Div N x0 x1 x2 := by kernel_rfl
noncomputable def F9 (N : Nat) (a : Int × Int × Int × Unit) : Option (Int × Int) := fn_quot_Div N a.1 a.2.1 a.2.2.1
theorem ok9 (N : Nat) : FnOK Tryz.prog 9 ad9 rd9 (F9 N) :=
  fn_ok (N := N) (live := live9) (code := c9) (tok T9.rt T9.kl (wrNil_ok)) mixed (gok9 N) Tryz.func9 (by kernel_rfl) (by kernel_rfl) (by kernel_rfl) fun a p h => by rw [← h]; exact run9 N a.1 a.2.1 a.2.2.1

/-! ### tiller/wide.Sqrt: function 33 -/
noncomputable def c33 : Code := (Tryz.f33.body).getD .skip
noncomputable def T33 : Tb := ⟨tyOf tys, [(45, 4), (51, 4)], [], wrNil⟩
noncomputable def G33 {R : Type} (N : Nat) : FuncId → List AV → (AV → Option R) → Option R := gCons 49 (gOf ad49 rd49 (F49 N)) (gCons 31 (gOf ad31 rd31 (F31 N)) (gCons 32 (gOf ad32 rd32 (F32 N)) (gCons 59 (gOf ad59 rd59 (F59 N)) (gCons 58 (gOf ad58 rd58 (F58 N)) (gNil)))))
theorem gok33 {R : Type} (N : Nat) : GOK Tryz.prog (G33 (R := R) N) := gCons_ok (ok49 N) (gCons_ok (ok31 N) (gCons_ok (ok32 N) (gCons_ok (ok59 N) (gCons_ok (ok58 N) (gNil_ok)))))
noncomputable def live33 : List (Nat × List (Nat × HK)) := [(4, [(2, .keep), (3, .keep), (4, .keep), (5, .keep), (6, .keep)])]
noncomputable def ad33 : Ad (Vec 4 × Unit) := aC (cVec .u64 4) (a0)
noncomputable def rd33 : Rd (Vec 4 × Vec 4) := r2 (cVec .u64 4) (cVec .u64 4)
noncomputable def st33_0 (v0 : Int) (v1 : Vec 4) (v2 : Vec 4) (v3 : Vec 4) (v4 : Vec 4) : St := ⟨[AV.none, AV.none, AV.ptr 2 0, AV.ptr 3 0, AV.ptr 4 0, AV.ptr 5 0, AV.v (.int .i64 v0), AV.none, AV.none, AV.none, AV.none, AV.none, AV.none, AV.none, AV.none, AV.none, AV.none, AV.none, AV.none, AV.none, AV.none, AV.none, AV.none, AV.none, AV.none, AV.none, AV.none, AV.none, AV.none, AV.none, AV.none, AV.none, AV.none, AV.none, AV.none, AV.none, AV.none, AV.none, AV.none, AV.none, AV.none, AV.none, AV.none, AV.none, AV.none, AV.none, AV.none, AV.none, AV.none, AV.none, AV.none, AV.none, AV.none, AV.none], [none, none, some (OB.arr .u64 4 v1), some (OB.arr .u64 4 v2), some (OB.arr .u64 4 v3), some (OB.arr .u64 4 v4), none, none, none, none, none, none, none, none, none, none, none, none, none, none, none, none, none, none, none, none, none, none, none, none, none, none, none, none, none, none, none, none, none, none, none, none, none, none, none, none, none, none, none, none, none, none, none, none]⟩
noncomputable def raw33_0 (N : Nat) (n : Nat) (v0 : Int) (v1 : Vec 4) (v2 : Vec 4) (v3 : Vec 4) (v4 : Vec 4) : Option (Vec 4 × Vec 4) := loopN (lookN live33 4) (exec T33 (G33 N) N live33 (cL (cL (cR (cL (cR (cR (cR c33)))))))) n (st33_0 v0 v1 v2 v3 v4) (blockK 0 (seqK (exec T33 (G33 N) N live33 (cR (cR (cR (cR c33))))) (retK T33 Tryz.f33.results.toList (rd33).dec)))
noncomputable def s33_0 (N : Nat) (Ln0 : Int → Vec 4 → Vec 4 → Vec 4 → Vec 4 → Option (Vec 4 × Vec 4)) (v0 : Int) (v1 : Vec 4) (v2 : Vec 4) (v3 : Vec 4) (v4 : Vec 4) : Option (Vec 4 × Vec 4) :=
  cond (leI 0 v0)
   ((fn_wide_Shl N v3 (addI .i64 v0 1)).bind fun r2 =>
    (fn_wide_Of N 1).bind fun r3 =>
     (fn_wide_Shl N r3 (mulI .i64 2 v0)).bind fun r4 =>
      (fn_wide_Add N r2 r4).bind fun r5 =>
       (fn_wide_Sub N v4 r5.1).bind fun r6 =>
        cond (!(r6.2))
         (cond (leI 0 (quoI .i64 v0 64))
          (cond (ltI (quoI .i64 v0 64) 4)
           (cond (ltI (remI .i64 v0 64) 0)
            (none)
            (cond (leI 0 (quoI .i64 v0 64))
             (cond (ltI (quoI .i64 v0 64) 4)
              (Ln0 (subI .i64 v0 1) v1 v2 (Vec.st v3 (quoI .i64 v0 64) (orI .u64 (Vec.rd v3 (quoI .i64 v0 64)) (shlI .u64 1 (remI .i64 v0 64)))) r6.1)
              (none))
             (none)))
           (none))
          (none))
         (Ln0 (subI .i64 v0 1) v1 v2 v3 v4))
   (some (v3, v4))
theorem step33_0 (N : Nat) (n : Nat) (v0 : Int) (v1 : Vec 4) (v2 : Vec 4) (v3 : Vec 4) (v4 : Vec 4) : raw33_0 N  (n + 1) v0 v1 v2 v3 v4 = s33_0 N (raw33_0 N  n) v0 v1 v2 v3 v4 := by kernel_rfl
noncomputable def l33_0 (N : Nat) : Nat → Int → Vec 4 → Vec 4 → Vec 4 → Vec 4 → Option (Vec 4 × Vec 4)
  | 0 => fun _ _ _ _ _ => none
  | n + 1 => fun v0 v1 v2 v3 v4 => s33_0 N (l33_0 N  n) v0 v1 v2 v3 v4
theorem eq33_0 (N : Nat) : ∀ n, raw33_0 N  n = l33_0 N  n := by
  intro n
  induction n with
  | zero => exact funext fun v0 => funext fun v1 => funext fun v2 => funext fun v3 => funext fun v4 => rfl
  | succ n ih => exact funext fun v0 => funext fun v1 => funext fun v2 => funext fun v3 => funext fun v4 => by rw [step33_0, ih]; rfl
noncomputable def t33 (N : Nat) (Le0 : Int → Vec 4 → Vec 4 → Vec 4 → Vec 4 → Option (Vec 4 × Vec 4)) (x0 : Vec 4) : Option (Vec 4 × Vec 4) :=
  (fn_wide_Len N x0).bind fun r1 =>
   Le0 (quoI .i64 (subI .i64 r1 1) 2) (Vec.zero 4) (Vec.zero 4) (Vec.zero 4) x0
noncomputable def fn_wide_Sqrt (N : Nat) (x0 : Vec 4) : Option (Vec 4 × Vec 4) := t33 N (l33_0 N N) x0
theorem run33 (N : Nat) (x0 : Vec 4) : Eng.run T33 (G33 N) N live33 c33 Tryz.f33.results.toList Tryz.f33.ntmps ((ad33).enc (x0, ())) (rd33).dec = fn_wide_Sqrt N x0 := by
  refine Eq.trans (show _ = t33 N (raw33_0 N N) x0 from by kernel_rfl) ?_
  unfold fn_wide_Sqrt
  rw [eq33_0 N N]
noncomputable def F33 (N : Nat) (a : Vec 4 × Unit) : Option (Vec 4 × Vec 4) := fn_wide_Sqrt N a.1
theorem ok33 (N : Nat) : FnOK Tryz.prog 33 ad33 rd33 (F33 N) :=
  fn_ok (N := N) (live := live33) (code := c33) (tok T33.rt T33.kl (wrNil_ok)) mixed (gok33 N) Tryz.func33 (by kernel_rfl) (by kernel_rfl) (by kernel_rfl) fun a p h => by rw [← h]; exact run33 N a.1

/-! ### tiller/quot.Sqrt: function 10 -/
noncomputable def c10 : Code := (Tryz.f10.body).getD .skip
noncomputable def T10 : Tb := ⟨tyOf tys, [(21, 6), (26, 6), (29, 6), (33, 6), (38, 6), (46, 6)], [], wrNil⟩
noncomputable def G10 {R : Type} (N : Nat) : FuncId → List AV → (AV → Option R) → Option R := gCons 28 (gOf ad28 rd28 (F28 N)) (gCons 14 (gOf ad14 rd14 (F14 N)) (gCons 29 (gOf ad29 rd29 (F29 N)) (gCons 32 (gOf ad32 rd32 (F32 N)) (gCons 31 (gOf ad31 rd31 (F31 N)) (gCons 33 (gOf ad33 rd33 (F33 N)) (gCons 21 (gOf ad21 rd21 (F21 N)) (gNil)))))))
theorem gok10 {R : Type} (N : Nat) : GOK Tryz.prog (G10 (R := R) N) := gCons_ok (ok28 N) (gCons_ok (ok14 N) (gCons_ok (ok29 N) (gCons_ok (ok32 N) (gCons_ok (ok31 N) (gCons_ok (ok33 N) (gCons_ok (ok21 N) (gNil_ok)))))))
noncomputable def live10 : List (Nat × List (Nat × HK)) := []
noncomputable def ad10 : Ad (Int × Int × Unit) := aC (cInt .u64) (aC (cInt .i64) (a0))
noncomputable def rd10 : Rd (Int × Int) := r2 (cInt .u64) (cInt .u8)
noncomputable def fn_quot_Sqrt (N : Nat) (x0 : Int) (x1 : Int) : Option (Int × Int) :=
  (fn_pat_Take N x0).bind fun r1 =>
   (fn_pat_IsNaN N x0).bind fun r2 =>
    cond r2
     ((fn_quot_none N x0 x0).bind fun r3 =>
      some (r3.1, r3.2))
     (cond (eqI r1.2.1 0)
      (some (x0, 0))
      (cond r1.1
       (some (9221120237041090560, 1))
       (cond (eqI r1.2.1 3)
        (some (x0, 0))
        ((fn_wide_Of N r1.2.2.2).bind fun r4 =>
         (fn_wide_Shl N r4 (addI .i64 126 (andI .i64 r1.2.2.1 1))).bind fun r5 =>
          (fn_wide_Sqrt N r5).bind fun r6 =>
           (fn_rnd_Round N (false, quoI .i64 (subI .i64 r1.2.2.1 (addI .i64 126 (andI .i64 r1.2.2.1 1))) 2, r6.1, !(eqL r6.2.1 (Vec.zero 4).1)) x1).bind fun r7 =>
            some (r7.1, r7.2)))))
theorem run10 (N : Nat) (x0 : Int) (x1 : Int) : Eng.run T10 (G10 N) N live10 c10 Tryz.f10.results.toList Tryz.f10.ntmps ((ad10).enc (x0, x1, ())) (rd10).dec = fn_quot_Sqrt N x0 x1 := by kernel_rfl
noncomputable def F10 (N : Nat) (a : Int × Int × Unit) : Option (Int × Int) := fn_quot_Sqrt N a.1 a.2.1
theorem ok10 (N : Nat) : FnOK Tryz.prog 10 ad10 rd10 (F10 N) :=
  fn_ok (N := N) (live := live10) (code := c10) (tok T10.rt T10.kl (wrNil_ok)) mixed (gok10 N) Tryz.func10 (by kernel_rfl) (by kernel_rfl) (by kernel_rfl) fun a p h => by rw [← h]; exact run10 N a.1 a.2.1

/-! ### tiller/sums.right: function 60 -/
noncomputable def c60 : Code := (Tryz.f60.body).getD .skip
noncomputable def T60 : Tb := ⟨tyOf tys, [(3, 1), (8, 1), (13, 1), (18, 1)], [], wrNil⟩
noncomputable def G60 {R : Type} (N : Nat) : FuncId → List AV → (AV → Option R) → Option R := gCons 49 (gOf ad49 rd49 (F49 N)) (gNil)
theorem gok60 {R : Type} (N : Nat) : GOK Tryz.prog (G60 (R := R) N) := gCons_ok (ok49 N) (gNil_ok)
noncomputable def live60 : List (Nat × List (Nat × HK)) := []
noncomputable def ad60 : Ad ((Bool × Int × Vec 4 × Bool) × Unit) := aC (cSta (sC (pBool) (sC (pInt .i64) (sC (pVec .u64 4) (sO (pBool)))))) (a0)
noncomputable def rd60 : Rd (Bool) := r1 (cBool)
noncomputable def fn_sums_right (N : Nat) (x0 : (Bool × Int × Vec 4 × Bool)) : Option (Bool) :=
  (fn_wide_Len N x0.2.2.1).bind fun r1 =>
   cond (leI r1 128)
    (cond (!(x0.2.2.2))
     (cond (leI (-100000) x0.2.1)
      (some (leI x0.2.1 100000))
      (some false))
     (some false))
    (some false)
theorem run60 (N : Nat) (x0 : (Bool × Int × Vec 4 × Bool)) : Eng.run T60 (G60 N) N live60 c60 Tryz.f60.results.toList Tryz.f60.ntmps ((ad60).enc (x0, ())) (rd60).dec = fn_sums_right N x0 := by kernel_rfl
noncomputable def F60 (N : Nat) (a : (Bool × Int × Vec 4 × Bool) × Unit) : Option (Bool) := fn_sums_right N a.1
theorem ok60 (N : Nat) : FnOK Tryz.prog 60 ad60 rd60 (F60 N) :=
  fn_ok (N := N) (live := live60) (code := c60) (tok T60.rt T60.kl (wrNil_ok)) mixed (gok60 N) Tryz.func60 (by kernel_rfl) (by kernel_rfl) (by kernel_rfl) fun a p h => by rw [← h]; exact run60 N a.1

/-! ### tiller/sums.Exact: function 34 -/
noncomputable def c34 : Code := (Tryz.f34.body).getD .skip
noncomputable def T34 : Tb := ⟨tyOf tys, [], [], wrNil⟩
noncomputable def G34 {R : Type} (N : Nat) : FuncId → List AV → (AV → Option R) → Option R := gCons 60 (gOf ad60 rd60 (F60 N)) (gCons 22 (gOf ad22 rd22 (F22 N)) (gNil))
theorem gok34 {R : Type} (N : Nat) : GOK Tryz.prog (G34 (R := R) N) := gCons_ok (ok60 N) (gCons_ok (ok22 N) (gNil_ok))
noncomputable def live34 : List (Nat × List (Nat × HK)) := []
noncomputable def ad34 : Ad ((Bool × Int × Vec 4 × Bool) × (Bool × Int × Vec 4 × Bool) × Int × Unit) := aC (cSta (sC (pBool) (sC (pInt .i64) (sC (pVec .u64 4) (sO (pBool)))))) (aC (cSta (sC (pBool) (sC (pInt .i64) (sC (pVec .u64 4) (sO (pBool)))))) (aC (cInt .i64) (a0)))
noncomputable def rd34 : Rd ((Bool × Int × Vec 4 × Bool) × Option Int) := r2 (cSta (sC (pBool) (sC (pInt .i64) (sC (pVec .u64 4) (sO (pBool)))))) (cErr 83)
noncomputable def fn_sums_Exact (N : Nat) (x0 : (Bool × Int × Vec 4 × Bool)) (x1 : (Bool × Int × Vec 4 × Bool)) (x2 : Int) : Option ((Bool × Int × Vec 4 × Bool) × Option Int) :=
  (fn_sums_right N (x0.1, x0.2.1, x0.2.2.1, x0.2.2.2)).bind fun r1 =>
   cond (!(r1))
    (some ((false, 0, Vec.zero 4, false), some 1))
    ((fn_sums_right N (x1.1, x1.2.1, x1.2.2.1, x1.2.2.2)).bind fun r2 =>
     cond (!(r2))
      (some ((false, 0, Vec.zero 4, false), some 1))
      ((fn_sums_join N (x0.1, x0.2.1, x0.2.2.1, x0.2.2.2) (x1.1, x1.2.1, x1.2.2.1, x1.2.2.2) x2).bind fun r3 =>
       some ((r3.1, r3.2.1, r3.2.2.1, r3.2.2.2), none)))
theorem run34 (N : Nat) (x0 : (Bool × Int × Vec 4 × Bool)) (x1 : (Bool × Int × Vec 4 × Bool)) (x2 : Int) : Eng.run T34 (G34 N) N live34 c34 Tryz.f34.results.toList Tryz.f34.ntmps ((ad34).enc (x0, x1, x2, ())) (rd34).dec = fn_sums_Exact N x0 x1 x2 := by kernel_rfl
noncomputable def F34 (N : Nat) (a : (Bool × Int × Vec 4 × Bool) × (Bool × Int × Vec 4 × Bool) × Int × Unit) : Option ((Bool × Int × Vec 4 × Bool) × Option Int) := fn_sums_Exact N a.1 a.2.1 a.2.2.1
theorem ok34 (N : Nat) : FnOK Tryz.prog 34 ad34 rd34 (F34 N) :=
  fn_ok (N := N) (live := live34) (code := c34) (tok T34.rt T34.kl (wrNil_ok)) mixed (gok34 N) Tryz.func34 (by kernel_rfl) (by kernel_rfl) (by kernel_rfl) fun a p h => by rw [← h]; exact run34 N a.1 a.2.1 a.2.2.1

/-! ### tiller/prod.Fma: function 11 -/
noncomputable def c11 : Code := (Tryz.f11.body).getD .skip
noncomputable def T11 : Tb := ⟨tyOf tys, [], [], wrNil⟩
noncomputable def G11 {R : Type} (N : Nat) : FuncId → List AV → (AV → Option R) → Option R := gCons 26 (gOf ad26 rd26 (F26 N)) (gCons 24 (gOf ad24 rd24 (F24 N)) (gCons 14 (gOf ad14 rd14 (F14 N)) (gCons 23 (gOf ad23 rd23 (F23 N)) (gCons 25 (gOf ad25 rd25 (F25 N)) (gCons 7 (gOf ad7 rd7 (F7 N)) (gCons 20 (gOf ad20 rd20 (F20 N)) (gCons 27 (gOf ad27 rd27 (F27 N)) (gCons 34 (gOf ad34 rd34 (F34 N)) (gCons 21 (gOf ad21 rd21 (F21 N)) (gNil))))))))))
theorem gok11 {R : Type} (N : Nat) : GOK Tryz.prog (G11 (R := R) N) := gCons_ok (ok26 N) (gCons_ok (ok24 N) (gCons_ok (ok14 N) (gCons_ok (ok23 N) (gCons_ok (ok25 N) (gCons_ok (ok7 N) (gCons_ok (ok20 N) (gCons_ok (ok27 N) (gCons_ok (ok34 N) (gCons_ok (ok21 N) (gNil_ok))))))))))
noncomputable def live11 : List (Nat × List (Nat × HK)) := []
noncomputable def ad11 : Ad (Int × Int × Int × Int × Unit) := aC (cInt .u64) (aC (cInt .u64) (aC (cInt .u64) (aC (cInt .i64) (a0))))
noncomputable def rd11 : Rd (Int × Int) := r2 (cInt .u64) (cInt .u8)
noncomputable def fn_prod_Fma (N : Nat) (x0 : Int) (x1 : Int) (x2 : Int) (x3 : Int) : Option (Int × Int) :=
  (fn_prod_sign N x0 x1).bind fun r1 =>
   (fn_prod_nothing N x0 x1).bind fun r2 =>
    cond r2
     (some (9221120237041090560, 1))
     ((fn_pat_IsNaN N x0).bind fun r3 =>
      cond r3
       ((fn_prod_loud N [x0, x1, x2]).bind fun r4 =>
        some (9221120237041090560, r4))
       ((fn_pat_IsNaN N x1).bind fun r5 =>
        cond r5
         ((fn_prod_loud N [x0, x1, x2]).bind fun r6 =>
          some (9221120237041090560, r6))
         ((fn_pat_IsNaN N x2).bind fun r7 =>
          cond r7
           ((fn_prod_loud N [x0, x1, x2]).bind fun r8 =>
            some (9221120237041090560, r8))
           ((fn_pat_Finite N x0).bind fun r9 =>
            cond (!(r9))
             ((fn_sums_Add N (orI .u64 9218868437227405312 r1) x2 x3).bind fun r10 =>
              some (r10.1, r10.2))
             ((fn_pat_Finite N x1).bind fun r11 =>
              cond (!(r11))
               ((fn_sums_Add N (orI .u64 9218868437227405312 r1) x2 x3).bind fun r12 =>
                some (r12.1, r12.2))
               ((fn_pat_Finite N x2).bind fun r13 =>
                cond (!(r13))
                 (some (x2, 0))
                 ((fn_rnd_Of N x2).bind fun r14 =>
                  cond (!(isNoneI r14.2))
                   (some (9221120237041090560, 1))
                   ((fn_prod_exact N x0 x1).bind fun r15 =>
                    (fn_sums_Exact N (r15.1, r15.2.1, r15.2.2.1, r15.2.2.2) (r14.1.1, r14.1.2.1, r14.1.2.2.1, r14.1.2.2.2) x3).bind fun r16 =>
                     cond (!(isNoneI r16.2))
                      (some (9221120237041090560, 1))
                      ((fn_rnd_Round N (r16.1.1, r16.1.2.1, r16.1.2.2.1, r16.1.2.2.2) x3).bind fun r17 =>
                       some (r17.1, r17.2))))))))))
theorem run11 (N : Nat) (x0 : Int) (x1 : Int) (x2 : Int) (x3 : Int) : Eng.run T11 (G11 N) N live11 c11 Tryz.f11.results.toList Tryz.f11.ntmps ((ad11).enc (x0, x1, x2, x3, ())) (rd11).dec = fn_prod_Fma N x0 x1 x2 x3 := by kernel_rfl
noncomputable def F11 (N : Nat) (a : Int × Int × Int × Int × Unit) : Option (Int × Int) := fn_prod_Fma N a.1 a.2.1 a.2.2.1 a.2.2.2.1
theorem ok11 (N : Nat) : FnOK Tryz.prog 11 ad11 rd11 (F11 N) :=
  fn_ok (N := N) (live := live11) (code := c11) (tok T11.rt T11.kl (wrNil_ok)) mixed (gok11 N) Tryz.func11 (by kernel_rfl) (by kernel_rfl) (by kernel_rfl) fun a p h => by rw [← h]; exact run11 N a.1 a.2.1 a.2.2.1 a.2.2.2.1

/-! ### tiller/tillertop.do: function 4 -/
noncomputable def c4 : Code := (Tryz.f4.body).getD .skip
noncomputable def T4 : Tb := ⟨tyOf tys, [], [], wrNil⟩
noncomputable def G4 {R : Type} (N : Nat) : FuncId → List AV → (AV → Option R) → Option R := gCons 7 (gOf ad7 rd7 (F7 N)) (gCons 8 (gOf ad8 rd8 (F8 N)) (gCons 9 (gOf ad9 rd9 (F9 N)) (gCons 10 (gOf ad10 rd10 (F10 N)) (gCons 11 (gOf ad11 rd11 (F11 N)) (gNil)))))
theorem gok4 {R : Type} (N : Nat) : GOK Tryz.prog (G4 (R := R) N) := gCons_ok (ok7 N) (gCons_ok (ok8 N) (gCons_ok (ok9 N) (gCons_ok (ok10 N) (gCons_ok (ok11 N) (gNil_ok)))))
noncomputable def live4 : List (Nat × List (Nat × HK)) := []
noncomputable def ad4 : Ad (Int × Int × Int × Int × Int × Unit) := aC (cInt .i64) (aC (cInt .u64) (aC (cInt .u64) (aC (cInt .u64) (aC (cInt .i64) (a0)))))
noncomputable def rd4 : Rd (Int × Int) := r2 (cInt .u64) (cInt .u8)
noncomputable def fn_tillertop_do (N : Nat) (x0 : Int) (x1 : Int) (x2 : Int) (x3 : Int) (x4 : Int) : Option (Int × Int) :=
  cond (eqI x0 0)
   ((fn_sums_Add N x1 x2 x4).bind fun r1 =>
    some (r1.1, r1.2))
   (cond (eqI x0 1)
    ((fn_prod_Mul N x1 x2 x4).bind fun r2 =>
     some (r2.1, r2.2))
    (cond (eqI x0 2)
     ((fn_quot_Div N x1 x2 x4).bind fun r3 =>
      some (r3.1, r3.2))
     (cond (eqI x0 3)
      ((fn_quot_Sqrt N x1 x4).bind fun r4 =>
       some (r4.1, r4.2))
      ((fn_prod_Fma N x1 x2 x3 x4).bind fun r5 =>
       some (r5.1, r5.2)))))
theorem run4 (N : Nat) (x0 : Int) (x1 : Int) (x2 : Int) (x3 : Int) (x4 : Int) : Eng.run T4 (G4 N) N live4 c4 Tryz.f4.results.toList Tryz.f4.ntmps ((ad4).enc (x0, x1, x2, x3, x4, ())) (rd4).dec = fn_tillertop_do N x0 x1 x2 x3 x4 := by kernel_rfl
noncomputable def F4 (N : Nat) (a : Int × Int × Int × Int × Int × Unit) : Option (Int × Int) := fn_tillertop_do N a.1 a.2.1 a.2.2.1 a.2.2.2.1 a.2.2.2.2.1
theorem ok4 (N : Nat) : FnOK Tryz.prog 4 ad4 rd4 (F4 N) :=
  fn_ok (N := N) (live := live4) (code := c4) (tok T4.rt T4.kl (wrNil_ok)) mixed (gok4 N) Tryz.func4 (by kernel_rfl) (by kernel_rfl) (by kernel_rfl) fun a p h => by rw [← h]; exact run4 N a.1 a.2.1 a.2.2.1 a.2.2.2.1 a.2.2.2.2.1

/-! ### tiller/show.special: function 35 -/
noncomputable def c35 : Code := (Tryz.f35.body).getD .skip
noncomputable def T35 : Tb := ⟨tyOf tys, [(11, 4), (15, 4), (19, 4)], [], wrNil⟩
noncomputable def G35 {R : Type} (N : Nat) : FuncId → List AV → (AV → Option R) → Option R := gCons 28 (gOf ad28 rd28 (F28 N)) (gCons 14 (gOf ad14 rd14 (F14 N)) (gNil))
theorem gok35 {R : Type} (N : Nat) : GOK Tryz.prog (G35 (R := R) N) := gCons_ok (ok28 N) (gCons_ok (ok14 N) (gNil_ok))
noncomputable def live35 : List (Nat × List (Nat × HK)) := []
noncomputable def ad35 : Ad (Int × Unit) := aC (cInt .u64) (a0)
noncomputable def rd35 : Rd (ByteArray × Bool) := r2 (cStr) (cBool)
noncomputable def fn_show_special (N : Nat) (x0 : Int) : Option (ByteArray × Bool) :=
  (fn_pat_Take N x0).bind fun r1 =>
   (fn_pat_IsNaN N x0).bind fun r2 =>
    cond r2
     (some ((⟨#[110, 97, 110]⟩ : ByteArray), true))
     (cond (eqI r1.2.1 3)
      (cond r1.1
       (some ((⟨#[45, 105, 110, 102]⟩ : ByteArray), true))
       (cond (eqI r1.2.1 3)
        (some ((⟨#[105, 110, 102]⟩ : ByteArray), true))
        (some ((⟨#[]⟩ : ByteArray), false))))
      (cond (eqI r1.2.1 3)
       (some ((⟨#[105, 110, 102]⟩ : ByteArray), true))
       (some ((⟨#[]⟩ : ByteArray), false))))
theorem run35 (N : Nat) (x0 : Int) : Eng.run T35 (G35 N) N live35 c35 Tryz.f35.results.toList Tryz.f35.ntmps ((ad35).enc (x0, ())) (rd35).dec = fn_show_special N x0 := by kernel_rfl
noncomputable def F35 (N : Nat) (a : Int × Unit) : Option (ByteArray × Bool) := fn_show_special N a.1
theorem ok35 (N : Nat) : FnOK Tryz.prog 35 ad35 rd35 (F35 N) :=
  fn_ok (N := N) (live := live35) (code := c35) (tok T35.rt T35.kl (wrNil_ok)) mixed (gok35 N) Tryz.func35 (by kernel_rfl) (by kernel_rfl) (by kernel_rfl) fun a p h => by rw [← h]; exact run35 N a.1

/-! ### tiller/nat.trim: function 93 -/
noncomputable def c93 : Code := (Tryz.f93.body).getD .skip
noncomputable def T93 : Tb := ⟨tyOf tys, [], [], wrNil⟩
noncomputable def G93 {R : Type} (N : Nat) : FuncId → List AV → (AV → Option R) → Option R := gNil
theorem gok93 {R : Type} (N : Nat) : GOK Tryz.prog (G93 (R := R) N) := gNil_ok
noncomputable def live93 : List (Nat × List (Nat × HK)) := [(1, [(0, .keep)])]
noncomputable def ad93 : Ad (List Int × Unit) := aC (cLi .u32) (a0)
noncomputable def rd93 : Rd (List Int) := r1 (cLi .u32)
noncomputable def st93_0 (v0 : List Int) : St := ⟨[AV.li .u32 v0, AV.none, AV.none, AV.none, AV.none, AV.none, AV.none, AV.none, AV.none, AV.none, AV.none, AV.none, AV.none, AV.none, AV.none, AV.none, AV.none, AV.none, AV.none, AV.none, AV.none], [none, none, none, none, none, none, none, none, none, none, none, none, none, none, none, none, none, none, none, none, none]⟩
noncomputable def raw93_0 (N : Nat) (n : Nat) (v0 : List Int) : Option (List Int) := loopN (lookN live93 1) (exec T93 (G93 N) N live93 (cL (cL (cL (cR c93))))) n (st93_0 v0) (blockK 0 (seqK (exec T93 (G93 N) N live93 (cR (cR c93))) (retK T93 Tryz.f93.results.toList (rd93).dec)))
noncomputable def s93_0 (N : Nat) (Ln0 : List Int → Option (List Int)) (v0 : List Int) : Option (List Int) :=
  cond (ltI 0 (v0.length : Int))
   (cond (leI 0 (subI .i64 (v0.length : Int) 1))
    (cond (ltI (subI .i64 (v0.length : Int) 1) (v0.length : Int))
     (cond (eqI (lrd v0 (subI .i64 (v0.length : Int) 1)) 0)
      (cond (((((leI 0 0) && (leI 0 (subI .i64 (v0.length : Int) 1))) && (leI (subI .i64 (v0.length : Int) 1) (v0.length : Int))) && (leI (v0.length : Int) (v0.length : Int))) && (true || true))
       (Ln0 ((v0.take ((subI .i64 (v0.length : Int) 1).toNat)).drop ((0 : Int).toNat)))
       (none))
      (some v0))
     (none))
    (none))
   (some v0)
theorem step93_0 (N : Nat) (n : Nat) (v0 : List Int) : raw93_0 N  (n + 1) v0 = s93_0 N (raw93_0 N  n) v0 := by kernel_rfl
noncomputable def l93_0 (N : Nat) : Nat → List Int → Option (List Int)
  | 0 => fun _ => none
  | n + 1 => fun v0 => s93_0 N (l93_0 N  n) v0
theorem eq93_0 (N : Nat) : ∀ n, raw93_0 N  n = l93_0 N  n := by
  intro n
  induction n with
  | zero => exact funext fun v0 => rfl
  | succ n ih => exact funext fun v0 => by rw [step93_0, ih]; rfl
noncomputable def t93 (N : Nat) (Le0 : List Int → Option (List Int)) (x0 : List Int) : Option (List Int) :=
  Le0 x0
noncomputable def fn_nat_trim (N : Nat) (x0 : List Int) : Option (List Int) := t93 N (l93_0 N N) x0
theorem run93 (N : Nat) (x0 : List Int) : Eng.run T93 (G93 N) N live93 c93 Tryz.f93.results.toList Tryz.f93.ntmps ((ad93).enc (x0, ())) (rd93).dec = fn_nat_trim N x0 := by
  refine Eq.trans (show _ = t93 N (raw93_0 N N) x0 from by kernel_rfl) ?_
  unfold fn_nat_trim
  rw [eq93_0 N N]
noncomputable def F93 (N : Nat) (a : List Int × Unit) : Option (List Int) := fn_nat_trim N a.1
theorem ok93 (N : Nat) : FnOK Tryz.prog 93 ad93 rd93 (F93 N) :=
  fn_ok (N := N) (live := live93) (code := c93) (tok T93.rt T93.kl (wrNil_ok)) mixed (gok93 N) Tryz.func93 (by kernel_rfl) (by kernel_rfl) (by kernel_rfl) fun a p h => by rw [← h]; exact run93 N a.1

/-! ### tiller/nat.Of: function 66 -/
noncomputable def c66 : Code := (Tryz.f66.body).getD .skip
noncomputable def T66 : Tb := ⟨tyOf tys, [], [9], wrNil⟩
noncomputable def G66 {R : Type} (N : Nat) : FuncId → List AV → (AV → Option R) → Option R := gCons 93 (gOf ad93 rd93 (F93 N)) (gNil)
theorem gok66 {R : Type} (N : Nat) : GOK Tryz.prog (G66 (R := R) N) := gCons_ok (ok93 N) (gNil_ok)
noncomputable def live66 : List (Nat × List (Nat × HK)) := []
noncomputable def ad66 : Ad (Int × Unit) := aC (cInt .u64) (a0)
noncomputable def rd66 : Rd (List Int) := r1 (cLi .u32)
noncomputable def fn_nat_Of (N : Nat) (x0 : Int) : Option (List Int) :=
  (fn_nat_trim N [cvI .u32 x0, cvI .u32 (shrI .u64 x0 32)]).bind fun r1 =>
   some r1
theorem run66 (N : Nat) (x0 : Int) : Eng.run T66 (G66 N) N live66 c66 Tryz.f66.results.toList Tryz.f66.ntmps ((ad66).enc (x0, ())) (rd66).dec = fn_nat_Of N x0 := by kernel_rfl
noncomputable def F66 (N : Nat) (a : Int × Unit) : Option (List Int) := fn_nat_Of N a.1
theorem ok66 (N : Nat) : FnOK Tryz.prog 66 ad66 rd66 (F66 N) :=
  fn_ok (N := N) (live := live66) (code := c66) (tok T66.rt T66.kl (wrNil_ok)) mixed (gok66 N) Tryz.func66 (by kernel_rfl) (by kernel_rfl) (by kernel_rfl) fun a p h => by rw [← h]; exact run66 N a.1

/-! ### tiller/nat.Check: function 94 -/
noncomputable def c94 : Code := (Tryz.f94.body).getD .skip
noncomputable def T94 : Tb := ⟨tyOf tys, [], [], wrNil⟩
noncomputable def G94 {R : Type} (N : Nat) : FuncId → List AV → (AV → Option R) → Option R := gNil
theorem gok94 {R : Type} (N : Nat) : GOK Tryz.prog (G94 (R := R) N) := gNil_ok
noncomputable def live94 : List (Nat × List (Nat × HK)) := []
noncomputable def ad94 : Ad (List Int × Unit) := aC (cLi .u32) (a0)
noncomputable def rd94 : Rd (Option Int) := r1 (cErr 83)
noncomputable def fn_nat_Check (N : Nat) (x0 : List Int) : Option (Option Int) :=
  cond (ltI 8192 (x0.length : Int))
   (some (some 1))
   (cond (ltI 0 (x0.length : Int))
    (cond (leI 0 (subI .i64 (x0.length : Int) 1))
     (cond (ltI (subI .i64 (x0.length : Int) 1) (x0.length : Int))
      (cond (eqI (lrd x0 (subI .i64 (x0.length : Int) 1)) 0)
       (some (some 1))
       (some none))
      (none))
     (none))
    (some none))
theorem run94 (N : Nat) (x0 : List Int) : Eng.run T94 (G94 N) N live94 c94 Tryz.f94.results.toList Tryz.f94.ntmps ((ad94).enc (x0, ())) (rd94).dec = fn_nat_Check N x0 := by kernel_rfl
noncomputable def F94 (N : Nat) (a : List Int × Unit) : Option (Option Int) := fn_nat_Check N a.1
theorem ok94 (N : Nat) : FnOK Tryz.prog 94 ad94 rd94 (F94 N) :=
  fn_ok (N := N) (live := live94) (code := c94) (tok T94.rt T94.kl (wrNil_ok)) mixed (gok94 N) Tryz.func94 (by kernel_rfl) (by kernel_rfl) (by kernel_rfl) fun a p h => by rw [← h]; exact run94 N a.1

/-! ### tiller/nat.up: function 112 -/
noncomputable def c112 : Code := (Tryz.f112.body).getD .skip
noncomputable def T112 : Tb := ⟨tyOf tys, [(38, 5), (43, 5), (53, 5)], [56], wrNil⟩
noncomputable def G112 {R : Type} (N : Nat) : FuncId → List AV → (AV → Option R) → Option R := gCons 93 (gOf ad93 rd93 (F93 N)) (gNil)
theorem gok112 {R : Type} (N : Nat) : GOK Tryz.prog (G112 (R := R) N) := gCons_ok (ok93 N) (gNil_ok)
noncomputable def live112 : List (Nat × List (Nat × HK)) := [(6, [(1, .keep), (5, .row .u32 142), (6, .keep), (22, .keep), (23, .keep), (24, .keep)])]
noncomputable def ad112 : Ad (List Int × Int × Unit) := aC (cLi .u32) (aC (cInt .i64) (a0))
noncomputable def rd112 : Rd (List Int) := r1 (cLi .u32)
noncomputable def st112_0 (v0 : Int) (v1 : Int) (v2 : List Int) (v3 : Int) (v4 : Int) (v5 : List Int) : St := ⟨[AV.none, AV.v (.int .i64 v0), AV.none, AV.none, AV.none, AV.own 5, AV.v (.int .i64 v1), AV.none, AV.none, AV.none, AV.none, AV.none, AV.none, AV.none, AV.none, AV.none, AV.none, AV.none, AV.none, AV.none, AV.none, AV.none, AV.li .u32 v2, AV.v (.int .i64 v3), AV.v (.int .i64 v4), AV.none, AV.none, AV.none, AV.none, AV.none, AV.none, AV.none, AV.none, AV.none, AV.none, AV.none, AV.none, AV.none, AV.none, AV.none, AV.none, AV.none, AV.none, AV.none, AV.none, AV.none, AV.none, AV.none, AV.none, AV.none, AV.none, AV.none, AV.none, AV.none, AV.none, AV.none, AV.none], [none, none, none, none, none, some (OB.row .u32 142 v5), none, none, none, none, none, none, none, none, none, none, none, none, none, none, none, none, none, none, none, none, none, none, none, none, none, none, none, none, none, none, none, none, none, none, none, none, none, none, none, none, none, none, none, none, none, none, none, none, none, none, none]⟩
noncomputable def raw112_0 (N : Nat) (n : Nat) (v0 : Int) (v1 : Int) (v2 : List Int) (v3 : Int) (v4 : Int) (v5 : List Int) : Option (List Int) := loopN (lookN live112 6) (exec T112 (G112 N) N live112 (cL (cL (cR (cL (cR (cR (cR (cR c112))))))))) n (st112_0 v0 v1 v2 v3 v4 v5) (blockK 0 (seqK (exec T112 (G112 N) N live112 (cR (cR (cR (cR (cR c112)))))) (retK T112 Tryz.f112.results.toList (rd112).dec)))
noncomputable def s112_0 (N : Nat) (Ln0 : Int → Int → List Int → Int → Int → List Int → Option (List Int)) (v0 : Int) (v1 : Int) (v2 : List Int) (v3 : Int) (v4 : Int) (v5 : List Int) : Option (List Int) :=
  cond (ltI v4 v3)
   (cond (leI 0 v4)
    (cond (ltI v4 (v2.length : Int))
     (cond (ltI v1 0)
      (none)
      (cond (leI 0 (addI .i64 v4 (quoI .i64 v0 32)))
       (cond (ltI (addI .i64 v4 (quoI .i64 v0 32)) (v5.length : Int))
        (cond (leI 0 (addI .i64 v4 (quoI .i64 v0 32)))
         (cond (ltI (addI .i64 v4 (quoI .i64 v0 32)) (v5.length : Int))
          (cond (leI 0 (addI .i64 (addI .i64 v4 (quoI .i64 v0 32)) 1))
           (cond (ltI (addI .i64 (addI .i64 v4 (quoI .i64 v0 32)) 1) ((v5.set ((addI .i64 v4 (quoI .i64 v0 32)).toNat) (orI .u32 (lrd v5 (addI .i64 v4 (quoI .i64 v0 32))) (cvI .u32 (shlI .u64 (cvI .u64 (lrd v2 v4)) v1)))).length : Int))
            (Ln0 v0 v1 v2 v3 (addI .i64 v4 1) ((v5.set ((addI .i64 v4 (quoI .i64 v0 32)).toNat) (orI .u32 (lrd v5 (addI .i64 v4 (quoI .i64 v0 32))) (cvI .u32 (shlI .u64 (cvI .u64 (lrd v2 v4)) v1)))).set ((addI .i64 (addI .i64 v4 (quoI .i64 v0 32)) 1).toNat) (cvI .u32 (shrI .u64 (shlI .u64 (cvI .u64 (lrd v2 v4)) v1) 32))))
            (none))
           (none))
          (none))
         (none))
        (none))
       (none)))
     (none))
    (none))
   ((fn_nat_trim N v5).bind fun r1 =>
    some r1)
theorem step112_0 (N : Nat) (n : Nat) (v0 : Int) (v1 : Int) (v2 : List Int) (v3 : Int) (v4 : Int) (v5 : List Int) : raw112_0 N  (n + 1) v0 v1 v2 v3 v4 v5 = s112_0 N (raw112_0 N  n) v0 v1 v2 v3 v4 v5 := by kernel_rfl
noncomputable def l112_0 (N : Nat) : Nat → Int → Int → List Int → Int → Int → List Int → Option (List Int)
  | 0 => fun _ _ _ _ _ _ => none
  | n + 1 => fun v0 v1 v2 v3 v4 v5 => s112_0 N (l112_0 N  n) v0 v1 v2 v3 v4 v5
theorem eq112_0 (N : Nat) : ∀ n, raw112_0 N  n = l112_0 N  n := by
  intro n
  induction n with
  | zero => exact funext fun v0 => funext fun v1 => funext fun v2 => funext fun v3 => funext fun v4 => funext fun v5 => rfl
  | succ n ih => exact funext fun v0 => funext fun v1 => funext fun v2 => funext fun v3 => funext fun v4 => funext fun v5 => by rw [step112_0, ih]; rfl
noncomputable def t112 (N : Nat) (Le0 : Int → Int → List Int → Int → Int → List Int → Option (List Int)) (x0 : List Int) (x1 : Int) : Option (List Int) :=
  cond (eqI (x0.length : Int) 0)
   (some [])
   (cond (leI 0 (addI .i64 (addI .i64 (x0.length : Int) (quoI .i64 x1 32)) 1))
    (cond (leI (addI .i64 (addI .i64 (x0.length : Int) (quoI .i64 x1 32)) 1) 17592186044416)
     (Le0 x1 (remI .i64 x1 32) x0 (x0.length : Int) 0 (List.replicate ((addI .i64 (addI .i64 (x0.length : Int) (quoI .i64 x1 32)) 1).toNat) (0 : Int)))
     (none))
    (none))
noncomputable def fn_nat_up (N : Nat) (x0 : List Int) (x1 : Int) : Option (List Int) := t112 N (l112_0 N N) x0 x1
theorem run112 (N : Nat) (x0 : List Int) (x1 : Int) : Eng.run T112 (G112 N) N live112 c112 Tryz.f112.results.toList Tryz.f112.ntmps ((ad112).enc (x0, x1, ())) (rd112).dec = fn_nat_up N x0 x1 := by
  refine Eq.trans (show _ = t112 N (raw112_0 N N) x0 x1 from by kernel_rfl) ?_
  unfold fn_nat_up
  rw [eq112_0 N N]
noncomputable def F112 (N : Nat) (a : List Int × Int × Unit) : Option (List Int) := fn_nat_up N a.1 a.2.1
theorem ok112 (N : Nat) : FnOK Tryz.prog 112 ad112 rd112 (F112 N) :=
  fn_ok (N := N) (live := live112) (code := c112) (tok T112.rt T112.kl (wrNil_ok)) mixed (gok112 N) Tryz.func112 (by kernel_rfl) (by kernel_rfl) (by kernel_rfl) fun a p h => by rw [← h]; exact run112 N a.1 a.2.1

/-! ### slices.Clip[tiller/nat.N,uint32]: function 128 -/
noncomputable def c128 : Code := (Tryz.f128.body).getD .skip
noncomputable def T128 : Tb := ⟨tyOf tys, [], [], wrNil⟩
noncomputable def G128 {R : Type} (N : Nat) : FuncId → List AV → (AV → Option R) → Option R := gNil
theorem gok128 {R : Type} (N : Nat) : GOK Tryz.prog (G128 (R := R) N) := gNil_ok
noncomputable def live128 : List (Nat × List (Nat × HK)) := []
noncomputable def ad128 : Ad (List Int × Unit) := aC (cLi .u32) (a0)
noncomputable def rd128 : Rd (List Int) := r1 (cLi .u32)
noncomputable def fn_nat_N_uint32 (N : Nat) (x0 : List Int) : Option (List Int) :=
  cond (((((leI 0 0) && (leI 0 (x0.length : Int))) && (leI (x0.length : Int) (x0.length : Int))) && (leI (x0.length : Int) (x0.length : Int))) && (true || false))
   (some ((x0.take ((x0.length : Int).toNat)).drop ((0 : Int).toNat)))
   (none)
theorem run128 (N : Nat) (x0 : List Int) : Eng.run T128 (G128 N) N live128 c128 Tryz.f128.results.toList Tryz.f128.ntmps ((ad128).enc (x0, ())) (rd128).dec = fn_nat_N_uint32 N x0 := by kernel_rfl
noncomputable def F128 (N : Nat) (a : List Int × Unit) : Option (List Int) := fn_nat_N_uint32 N a.1
theorem ok128 (N : Nat) : FnOK Tryz.prog 128 ad128 rd128 (F128 N) :=
  fn_ok (N := N) (live := live128) (code := c128) (tok T128.rt T128.kl (wrNil_ok)) mixed (gok128 N) Tryz.func128 (by kernel_rfl) (by kernel_rfl) (by kernel_rfl) fun a p h => by rw [← h]; exact run128 N a.1

/-! ### tiller/nat.bounded: function 111 -/
noncomputable def c111 : Code := (Tryz.f111.body).getD .skip
noncomputable def T111 : Tb := ⟨tyOf tys, [], [], wrNil⟩
noncomputable def G111 {R : Type} (N : Nat) : FuncId → List AV → (AV → Option R) → Option R := gCons 93 (gOf ad93 rd93 (F93 N)) (gCons 128 (gOf ad128 rd128 (F128 N)) (gNil))
theorem gok111 {R : Type} (N : Nat) : GOK Tryz.prog (G111 (R := R) N) := gCons_ok (ok93 N) (gCons_ok (ok128 N) (gNil_ok))
noncomputable def live111 : List (Nat × List (Nat × HK)) := []
noncomputable def ad111 : Ad (List Int × Unit) := aC (cLi .u32) (a0)
noncomputable def rd111 : Rd (List Int × Option Int) := r2 (cLi .u32) (cErr 83)
noncomputable def fn_nat_bounded (N : Nat) (x0 : List Int) : Option (List Int × Option Int) :=
  (fn_nat_trim N x0).bind fun r1 =>
   cond (ltI 8192 (r1.length : Int))
    (some ([], some 2))
    ((fn_nat_N_uint32 N r1).bind fun r2 =>
     some (r2, none))
theorem run111 (N : Nat) (x0 : List Int) : Eng.run T111 (G111 N) N live111 c111 Tryz.f111.results.toList Tryz.f111.ntmps ((ad111).enc (x0, ())) (rd111).dec = fn_nat_bounded N x0 := by kernel_rfl
noncomputable def F111 (N : Nat) (a : List Int × Unit) : Option (List Int × Option Int) := fn_nat_bounded N a.1
theorem ok111 (N : Nat) : FnOK Tryz.prog 111 ad111 rd111 (F111 N) :=
  fn_ok (N := N) (live := live111) (code := c111) (tok T111.rt T111.kl (wrNil_ok)) mixed (gok111 N) Tryz.func111 (by kernel_rfl) (by kernel_rfl) (by kernel_rfl) fun a p h => by rw [← h]; exact run111 N a.1

/-! ### tiller/nat.Shl: function 92 -/
noncomputable def c92 : Code := (Tryz.f92.body).getD .skip
noncomputable def T92 : Tb := ⟨tyOf tys, [], [], wrNil⟩
noncomputable def G92 {R : Type} (N : Nat) : FuncId → List AV → (AV → Option R) → Option R := gCons 94 (gOf ad94 rd94 (F94 N)) (gCons 112 (gOf ad112 rd112 (F112 N)) (gCons 111 (gOf ad111 rd111 (F111 N)) (gNil)))
theorem gok92 {R : Type} (N : Nat) : GOK Tryz.prog (G92 (R := R) N) := gCons_ok (ok94 N) (gCons_ok (ok112 N) (gCons_ok (ok111 N) (gNil_ok)))
noncomputable def live92 : List (Nat × List (Nat × HK)) := []
noncomputable def ad92 : Ad (List Int × Int × Unit) := aC (cLi .u32) (aC (cInt .i64) (a0))
noncomputable def rd92 : Rd (List Int × Option Int) := r2 (cLi .u32) (cErr 83)
noncomputable def fn_nat_Shl (N : Nat) (x0 : List Int) (x1 : Int) : Option (List Int × Option Int) :=
  (fn_nat_Check N x0).bind fun r1 =>
   cond (!(isNoneI r1))
    (some ([], some 1))
    (cond (ltI x1 0)
     (some ([], some 1))
     (cond (eqI (x0.length : Int) 0)
      (some ([], none))
      (cond (ltI 262144 x1)
       (some ([], some 2))
       ((fn_nat_up N x0 x1).bind fun r2 =>
        (fn_nat_bounded N r2).bind fun r3 =>
         some (r3.1, r3.2)))))
theorem run92 (N : Nat) (x0 : List Int) (x1 : Int) : Eng.run T92 (G92 N) N live92 c92 Tryz.f92.results.toList Tryz.f92.ntmps ((ad92).enc (x0, x1, ())) (rd92).dec = fn_nat_Shl N x0 x1 := by kernel_rfl
noncomputable def F92 (N : Nat) (a : List Int × Int × Unit) : Option (List Int × Option Int) := fn_nat_Shl N a.1 a.2.1
theorem ok92 (N : Nat) : FnOK Tryz.prog 92 ad92 rd92 (F92 N) :=
  fn_ok (N := N) (live := live92) (code := c92) (tok T92.rt T92.kl (wrNil_ok)) mixed (gok92 N) Tryz.func92 (by kernel_rfl) (by kernel_rfl) (by kernel_rfl) fun a p h => by rw [← h]; exact run92 N a.1 a.2.1

/-! ### tiller/show.up: function 65 -/
noncomputable def c65 : Code := (Tryz.f65.body).getD .skip
noncomputable def T65 : Tb := ⟨tyOf tys, [], [], wrNil⟩
noncomputable def G65 {R : Type} (N : Nat) : FuncId → List AV → (AV → Option R) → Option R := gCons 92 (gOf ad92 rd92 (F92 N)) (gNil)
theorem gok65 {R : Type} (N : Nat) : GOK Tryz.prog (G65 (R := R) N) := gCons_ok (ok92 N) (gNil_ok)
noncomputable def live65 : List (Nat × List (Nat × HK)) := []
noncomputable def ad65 : Ad (List Int × Int × Unit) := aC (cLi .u32) (aC (cInt .i64) (a0))
noncomputable def rd65 : Rd (List Int) := r1 (cLi .u32)
noncomputable def fn_show_up (N : Nat) (x0 : List Int) (x1 : Int) : Option (List Int) :=
  (fn_nat_Shl N x0 x1).bind fun r1 =>
   cond (!(isNoneI r1.2))
    (some [])
    (some r1.1)
theorem run65 (N : Nat) (x0 : List Int) (x1 : Int) : Eng.run T65 (G65 N) N live65 c65 Tryz.f65.results.toList Tryz.f65.ntmps ((ad65).enc (x0, x1, ())) (rd65).dec = fn_show_up N x0 x1 := by kernel_rfl
noncomputable def F65 (N : Nat) (a : List Int × Int × Unit) : Option (List Int) := fn_show_up N a.1 a.2.1
theorem ok65 (N : Nat) : FnOK Tryz.prog 65 ad65 rd65 (F65 N) :=
  fn_ok (N := N) (live := live65) (code := c65) (tok T65.rt T65.kl (wrNil_ok)) mixed (gok65 N) Tryz.func65 (by kernel_rfl) (by kernel_rfl) (by kernel_rfl) fun a p h => by rw [← h]; exact run65 N a.1 a.2.1

/-! ### tiller/show.of: function 37 -/
noncomputable def c37 : Code := (Tryz.f37.body).getD .skip
noncomputable def T37 : Tb := ⟨tyOf tys, [], [], wrNil⟩
noncomputable def G37 {R : Type} (N : Nat) : FuncId → List AV → (AV → Option R) → Option R := gCons 66 (gOf ad66 rd66 (F66 N)) (gCons 65 (gOf ad65 rd65 (F65 N)) (gNil))
theorem gok37 {R : Type} (N : Nat) : GOK Tryz.prog (G37 (R := R) N) := gCons_ok (ok66 N) (gCons_ok (ok65 N) (gNil_ok))
noncomputable def live37 : List (Nat × List (Nat × HK)) := []
noncomputable def ad37 : Ad (Int × Int × Unit) := aC (cInt .u64) (aC (cInt .i64) (a0))
noncomputable def rd37 : Rd ((List Int × List Int)) := r1 (cSt (fC (lLi .u32) (fO (lLi .u32))))
noncomputable def fn_show_of (N : Nat) (x0 : Int) (x1 : Int) : Option ((List Int × List Int)) :=
  cond (leI 0 x1)
   ((fn_nat_Of N x0).bind fun r1 =>
    (fn_show_up N r1 x1).bind fun r2 =>
     (fn_nat_Of N 1).bind fun r3 =>
      some (r2, r3))
   ((fn_nat_Of N x0).bind fun r4 =>
    (fn_nat_Of N 1).bind fun r5 =>
     (fn_show_up N r5 (subI .i64 0 x1)).bind fun r6 =>
      some (r4, r6))
theorem run37 (N : Nat) (x0 : Int) (x1 : Int) : Eng.run T37 (G37 N) N live37 c37 Tryz.f37.results.toList Tryz.f37.ntmps ((ad37).enc (x0, x1, ())) (rd37).dec = fn_show_of N x0 x1 := by kernel_rfl
noncomputable def F37 (N : Nat) (a : Int × Int × Unit) : Option ((List Int × List Int)) := fn_show_of N a.1 a.2.1
theorem ok37 (N : Nat) : FnOK Tryz.prog 37 ad37 rd37 (F37 N) :=
  fn_ok (N := N) (live := live37) (code := c37) (tok T37.rt T37.kl (wrNil_ok)) mixed (gok37 N) Tryz.func37 (by kernel_rfl) (by kernel_rfl) (by kernel_rfl) fun a p h => by rw [← h]; exact run37 N a.1 a.2.1

/-! ### math/bits.Len32: function 95 -/
noncomputable def c95 : Code := (Tryz.f95.body).getD .skip
noncomputable def T95 : Tb := ⟨tyOf tys, [], [], wrNil⟩
noncomputable def G95 {R : Type} (N : Nat) : FuncId → List AV → (AV → Option R) → Option R := gNil
theorem gok95 {R : Type} (N : Nat) : GOK Tryz.prog (G95 (R := R) N) := gNil_ok
noncomputable def live95 : List (Nat × List (Nat × HK)) := []
noncomputable def ad95 : Ad (Int × Unit) := aC (cInt .u32) (a0)
noncomputable def rd95 : Rd (Int) := r1 (cInt .i64)
noncomputable def fn_bits_Len32 (N : Nat) (x0 : Int) : Option (Int) :=
  cond (leI 65536 x0)
   (cond (leI 256 (shrI .u32 x0 16))
    (cond (leI 0 (cvI .u8 (shrI .u32 (shrI .u32 x0 16) 8)))
     (cond (ltI (cvI .u8 (shrI .u32 (shrI .u32 x0 16) 8)) (str0.size : Int))
      (some (addI .i64 (addI .i64 16 8) (cvI .i64 (sAt str0 (cvI .u8 (shrI .u32 (shrI .u32 x0 16) 8))))))
      (none))
     (none))
    (cond (leI 0 (cvI .u8 (shrI .u32 x0 16)))
     (cond (ltI (cvI .u8 (shrI .u32 x0 16)) (str0.size : Int))
      (some (addI .i64 16 (cvI .i64 (sAt str0 (cvI .u8 (shrI .u32 x0 16))))))
      (none))
     (none)))
   (cond (leI 256 x0)
    (cond (leI 0 (cvI .u8 (shrI .u32 x0 8)))
     (cond (ltI (cvI .u8 (shrI .u32 x0 8)) (str0.size : Int))
      (some (addI .i64 (addI .i64 0 8) (cvI .i64 (sAt str0 (cvI .u8 (shrI .u32 x0 8))))))
      (none))
     (none))
    (cond (leI 0 (cvI .u8 x0))
     (cond (ltI (cvI .u8 x0) (str0.size : Int))
      (some (addI .i64 0 (cvI .i64 (sAt str0 (cvI .u8 x0)))))
      (none))
     (none)))
theorem run95 (N : Nat) (x0 : Int) : Eng.run T95 (G95 N) N live95 c95 Tryz.f95.results.toList Tryz.f95.ntmps ((ad95).enc (x0, ())) (rd95).dec = fn_bits_Len32 N x0 := by kernel_rfl
noncomputable def F95 (N : Nat) (a : Int × Unit) : Option (Int) := fn_bits_Len32 N a.1
theorem ok95 (N : Nat) : FnOK Tryz.prog 95 ad95 rd95 (F95 N) :=
  fn_ok (N := N) (live := live95) (code := c95) (tok T95.rt T95.kl (wrNil_ok)) mixed (gok95 N) Tryz.func95 (by kernel_rfl) (by kernel_rfl) (by kernel_rfl) fun a p h => by rw [← h]; exact run95 N a.1

/-! ### tiller/nat.Len: function 67 -/
noncomputable def c67 : Code := (Tryz.f67.body).getD .skip
noncomputable def T67 : Tb := ⟨tyOf tys, [], [], wrNil⟩
noncomputable def G67 {R : Type} (N : Nat) : FuncId → List AV → (AV → Option R) → Option R := gCons 94 (gOf ad94 rd94 (F94 N)) (gCons 95 (gOf ad95 rd95 (F95 N)) (gNil))
theorem gok67 {R : Type} (N : Nat) : GOK Tryz.prog (G67 (R := R) N) := gCons_ok (ok94 N) (gCons_ok (ok95 N) (gNil_ok))
noncomputable def live67 : List (Nat × List (Nat × HK)) := []
noncomputable def ad67 : Ad (List Int × Unit) := aC (cLi .u32) (a0)
noncomputable def rd67 : Rd (Int) := r1 (cInt .i64)
noncomputable def fn_nat_Len (N : Nat) (x0 : List Int) : Option (Int) :=
  (fn_nat_Check N x0).bind fun r1 =>
   cond (!(isNoneI r1))
    (some 0)
    (cond (eqI (x0.length : Int) 0)
     (some 0)
     (cond (leI 0 (subI .i64 (x0.length : Int) 1))
      (cond (ltI (subI .i64 (x0.length : Int) 1) (x0.length : Int))
       ((fn_bits_Len32 N (lrd x0 (subI .i64 (x0.length : Int) 1))).bind fun r2 =>
        some (addI .i64 (mulI .i64 32 (subI .i64 (x0.length : Int) 1)) r2))
       (none))
      (none)))
theorem run67 (N : Nat) (x0 : List Int) : Eng.run T67 (G67 N) N live67 c67 Tryz.f67.results.toList Tryz.f67.ntmps ((ad67).enc (x0, ())) (rd67).dec = fn_nat_Len N x0 := by kernel_rfl
noncomputable def F67 (N : Nat) (a : List Int × Unit) : Option (Int) := fn_nat_Len N a.1
theorem ok67 (N : Nat) : FnOK Tryz.prog 67 ad67 rd67 (F67 N) :=
  fn_ok (N := N) (live := live67) (code := c67) (tok T67.rt T67.kl (wrNil_ok)) mixed (gok67 N) Tryz.func67 (by kernel_rfl) (by kernel_rfl) (by kernel_rfl) fun a p h => by rw [← h]; exact run67 N a.1

/-! ### tiller/nat.times: function 123 -/
noncomputable def c123 : Code := (Tryz.f123.body).getD .skip
noncomputable def T123 : Tb := ⟨tyOf tys, [(41, 5), (52, 5), (63, 5)], [66], wrNil⟩
noncomputable def G123 {R : Type} (N : Nat) : FuncId → List AV → (AV → Option R) → Option R := gCons 93 (gOf ad93 rd93 (F93 N)) (gNil)
theorem gok123 {R : Type} (N : Nat) : GOK Tryz.prog (G123 (R := R) N) := gCons_ok (ok93 N) (gNil_ok)
noncomputable def live123 : List (Nat × List (Nat × HK)) := [(3, [(1, .keep), (5, .row .u32 142), (17, .keep), (18, .keep), (19, .keep)]), (7, [(1, .keep), (5, .row .u32 142), (6, .keep), (7, .keep), (8, .keep), (17, .keep), (18, .keep), (19, .keep), (24, .keep), (25, .keep), (26, .keep)])]
noncomputable def ad123 : Ad (List Int × List Int × Unit) := aC (cLi .u32) (aC (cLi .u32) (a0))
noncomputable def rd123 : Rd (List Int) := r1 (cLi .u32)
noncomputable def st123_0 (v0 : List Int) (v1 : List Int) (v2 : Int) (v3 : Int) (v4 : List Int) : St := ⟨[AV.none, AV.li .u32 v0, AV.none, AV.none, AV.none, AV.own 5, AV.none, AV.none, AV.none, AV.none, AV.none, AV.none, AV.none, AV.none, AV.none, AV.none, AV.none, AV.li .u32 v1, AV.v (.int .i64 v2), AV.v (.int .i64 v3), AV.none, AV.none, AV.none, AV.none, AV.none, AV.none, AV.none, AV.none, AV.none, AV.none, AV.none, AV.none, AV.none, AV.none, AV.none, AV.none, AV.none, AV.none, AV.none, AV.none, AV.none, AV.none, AV.none, AV.none, AV.none, AV.none, AV.none, AV.none, AV.none, AV.none, AV.none, AV.none, AV.none, AV.none, AV.none, AV.none, AV.none, AV.none, AV.none, AV.none, AV.none, AV.none, AV.none, AV.none, AV.none, AV.none, AV.none], [none, none, none, none, none, some (OB.row .u32 142 v4), none, none, none, none, none, none, none, none, none, none, none, none, none, none, none, none, none, none, none, none, none, none, none, none, none, none, none, none, none, none, none, none, none, none, none, none, none, none, none, none, none, none, none, none, none, none, none, none, none, none, none, none, none, none, none, none, none, none, none, none, none]⟩
noncomputable def raw123_0 (N : Nat) (n : Nat) (v0 : List Int) (v1 : List Int) (v2 : Int) (v3 : Int) (v4 : List Int) : Option (List Int) := loopN (lookN live123 3) (exec T123 (G123 N) N live123 (cL (cL (cR (cL (cR (cR c123))))))) n (st123_0 v0 v1 v2 v3 v4) (blockK 0 (seqK (exec T123 (G123 N) N live123 (cR (cR (cR c123)))) (retK T123 Tryz.f123.results.toList (rd123).dec)))
noncomputable def st123_1 (v0 : List Int) (v1 : Int) (v2 : Int) (v3 : Int) (v4 : List Int) (v5 : Int) (v6 : Int) (v7 : List Int) (v8 : Int) (v9 : Int) (v10 : List Int) : St := ⟨[AV.none, AV.li .u32 v0, AV.none, AV.none, AV.none, AV.own 5, AV.v (.int .i64 v1), AV.v (.int .u32 v2), AV.v (.int .u64 v3), AV.none, AV.none, AV.none, AV.none, AV.none, AV.none, AV.none, AV.none, AV.li .u32 v4, AV.v (.int .i64 v5), AV.v (.int .i64 v6), AV.none, AV.none, AV.none, AV.none, AV.li .u32 v7, AV.v (.int .i64 v8), AV.v (.int .i64 v9), AV.none, AV.none, AV.none, AV.none, AV.none, AV.none, AV.none, AV.none, AV.none, AV.none, AV.none, AV.none, AV.none, AV.none, AV.none, AV.none, AV.none, AV.none, AV.none, AV.none, AV.none, AV.none, AV.none, AV.none, AV.none, AV.none, AV.none, AV.none, AV.none, AV.none, AV.none, AV.none, AV.none, AV.none, AV.none, AV.none, AV.none, AV.none, AV.none, AV.none], [none, none, none, none, none, some (OB.row .u32 142 v10), none, none, none, none, none, none, none, none, none, none, none, none, none, none, none, none, none, none, none, none, none, none, none, none, none, none, none, none, none, none, none, none, none, none, none, none, none, none, none, none, none, none, none, none, none, none, none, none, none, none, none, none, none, none, none, none, none, none, none, none, none]⟩
noncomputable def raw123_1 (N : Nat) (m0 : Nat) (n : Nat) (v0 : List Int) (v1 : Int) (v2 : Int) (v3 : Int) (v4 : List Int) (v5 : Int) (v6 : Int) (v7 : List Int) (v8 : Int) (v9 : Int) (v10 : List Int) : Option (List Int) := loopN (lookN live123 7) (exec T123 (G123 N) N live123 (cL (cL (cR (cL (cR (cR (cL (cL (cR (cR (cL (cL (cR (cL (cR (cR c123))))))))))))))))) n (st123_1 v0 v1 v2 v3 v4 v5 v6 v7 v8 v9 v10) (blockK 2 (seqK (exec T123 (G123 N) N live123 (cR (cR (cR (cL (cL (cR (cR (cL (cL (cR (cL (cR (cR c123)))))))))))))) (blockK 1 (seqK (exec T123 (G123 N) N live123 (cR (cR (cR (cL (cL (cR (cL (cR (cR c123)))))))))) (roundK (fun s => loopN (lookN live123 3) (exec T123 (G123 N) N live123 (cL (cL (cR (cL (cR (cR c123))))))) m0 s (blockK 0 (seqK (exec T123 (G123 N) N live123 (cR (cR (cR c123)))) (retK T123 Tryz.f123.results.toList (rd123).dec)))) (lookN live123 3) (blockK 0 (seqK (exec T123 (G123 N) N live123 (cR (cR (cR c123)))) (retK T123 Tryz.f123.results.toList (rd123).dec))))))))
noncomputable def s123_1 (N : Nat) (Ln1 : List Int → Int → Int → Int → List Int → Int → Int → List Int → Int → Int → List Int → Option (List Int)) (Ln0 : List Int → List Int → Int → Int → List Int → Option (List Int)) (v0 : List Int) (v1 : Int) (v2 : Int) (v3 : Int) (v4 : List Int) (v5 : Int) (v6 : Int) (v7 : List Int) (v8 : Int) (v9 : Int) (v10 : List Int) : Option (List Int) :=
  cond (ltI v9 v8)
   (cond (leI 0 v9)
    (cond (ltI v9 (v7.length : Int))
     (cond (leI 0 (addI .i64 v1 v9))
      (cond (ltI (addI .i64 v1 v9) (v10.length : Int))
       (cond (leI 0 (addI .i64 v1 v9))
        (cond (ltI (addI .i64 v1 v9) (v10.length : Int))
         (Ln1 v0 v1 v2 (shrI .u64 (addI .u64 v3 (addI .u64 (mulI .u64 (cvI .u64 v2) (cvI .u64 (lrd v7 v9))) (cvI .u64 (lrd v10 (addI .i64 v1 v9))))) 32) v4 v5 v6 v7 v8 (addI .i64 v9 1) (v10.set ((addI .i64 v1 v9).toNat) (cvI .u32 (addI .u64 v3 (addI .u64 (mulI .u64 (cvI .u64 v2) (cvI .u64 (lrd v7 v9))) (cvI .u64 (lrd v10 (addI .i64 v1 v9))))))))
         (none))
        (none))
       (none))
      (none))
     (none))
    (none))
   (cond (leI 0 (addI .i64 v1 (v0.length : Int)))
    (cond (ltI (addI .i64 v1 (v0.length : Int)) (v10.length : Int))
     (Ln0 v0 v4 v5 (addI .i64 v6 1) (v10.set ((addI .i64 v1 (v0.length : Int)).toNat) (cvI .u32 v3)))
     (none))
    (none))
theorem step123_1 (N : Nat) (m0 : Nat) (n : Nat) (v0 : List Int) (v1 : Int) (v2 : Int) (v3 : Int) (v4 : List Int) (v5 : Int) (v6 : Int) (v7 : List Int) (v8 : Int) (v9 : Int) (v10 : List Int) : raw123_1 N m0 (n + 1) v0 v1 v2 v3 v4 v5 v6 v7 v8 v9 v10 = s123_1 N (raw123_1 N m0 n) (raw123_0 N  m0) v0 v1 v2 v3 v4 v5 v6 v7 v8 v9 v10 := by kernel_rfl
noncomputable def l123_1 (N : Nat) (E0 : List Int → List Int → Int → Int → List Int → Option (List Int)) : Nat → List Int → Int → Int → Int → List Int → Int → Int → List Int → Int → Int → List Int → Option (List Int)
  | 0 => fun _ _ _ _ _ _ _ _ _ _ _ => none
  | n + 1 => fun v0 v1 v2 v3 v4 v5 v6 v7 v8 v9 v10 => s123_1 N (l123_1 N E0 n) E0 v0 v1 v2 v3 v4 v5 v6 v7 v8 v9 v10
theorem eq123_1 (N : Nat) (m0 : Nat) : ∀ n, raw123_1 N m0 n = l123_1 N (raw123_0 N  m0) n := by
  intro n
  induction n with
  | zero => exact funext fun v0 => funext fun v1 => funext fun v2 => funext fun v3 => funext fun v4 => funext fun v5 => funext fun v6 => funext fun v7 => funext fun v8 => funext fun v9 => funext fun v10 => rfl
  | succ n ih => exact funext fun v0 => funext fun v1 => funext fun v2 => funext fun v3 => funext fun v4 => funext fun v5 => funext fun v6 => funext fun v7 => funext fun v8 => funext fun v9 => funext fun v10 => by rw [step123_1, ih]; rfl
noncomputable def s123_0 (N : Nat) (Le1 : List Int → Int → Int → Int → List Int → Int → Int → List Int → Int → Int → List Int → Option (List Int)) (v0 : List Int) (v1 : List Int) (v2 : Int) (v3 : Int) (v4 : List Int) : Option (List Int) :=
  cond (ltI v3 v2)
   (cond (leI 0 v3)
    (cond (ltI v3 (v1.length : Int))
     (Le1 v0 v3 (lrd v1 v3) 0 v1 v2 v3 v0 (v0.length : Int) 0 v4)
     (none))
    (none))
   ((fn_nat_trim N v4).bind fun r1 =>
    some r1)
theorem step123_0 (N : Nat) (n : Nat) (v0 : List Int) (v1 : List Int) (v2 : Int) (v3 : Int) (v4 : List Int) : raw123_0 N  (n + 1) v0 v1 v2 v3 v4 = s123_0 N (raw123_1 N n N) v0 v1 v2 v3 v4 := by kernel_rfl
noncomputable def l123_0 (N : Nat) : Nat → List Int → List Int → Int → Int → List Int → Option (List Int)
  | 0 => fun _ _ _ _ _ => none
  | n + 1 => fun v0 v1 v2 v3 v4 => s123_0 N (l123_1 N (l123_0 N  n) N) v0 v1 v2 v3 v4
theorem eq123_0 (N : Nat) : ∀ n, raw123_0 N  n = l123_0 N  n := by
  intro n
  induction n with
  | zero => exact funext fun v0 => funext fun v1 => funext fun v2 => funext fun v3 => funext fun v4 => rfl
  | succ n ih => exact funext fun v0 => funext fun v1 => funext fun v2 => funext fun v3 => funext fun v4 => by rw [step123_0, eq123_1 N n N, ih]; rfl
noncomputable def t123 (N : Nat) (Le0 : List Int → List Int → Int → Int → List Int → Option (List Int)) (x0 : List Int) (x1 : List Int) : Option (List Int) :=
  cond (leI 0 (addI .i64 (x0.length : Int) (x1.length : Int)))
   (cond (leI (addI .i64 (x0.length : Int) (x1.length : Int)) 17592186044416)
    (Le0 x1 x0 (x0.length : Int) 0 (List.replicate ((addI .i64 (x0.length : Int) (x1.length : Int)).toNat) (0 : Int)))
    (none))
   (none)
noncomputable def fn_nat_times (N : Nat) (x0 : List Int) (x1 : List Int) : Option (List Int) := t123 N (l123_0 N N) x0 x1
theorem run123 (N : Nat) (x0 : List Int) (x1 : List Int) : Eng.run T123 (G123 N) N live123 c123 Tryz.f123.results.toList Tryz.f123.ntmps ((ad123).enc (x0, x1, ())) (rd123).dec = fn_nat_times N x0 x1 := by
  refine Eq.trans (show _ = t123 N (raw123_0 N N) x0 x1 from by kernel_rfl) ?_
  unfold fn_nat_times
  rw [eq123_0 N N]
noncomputable def F123 (N : Nat) (a : List Int × List Int × Unit) : Option (List Int) := fn_nat_times N a.1 a.2.1
theorem ok123 (N : Nat) : FnOK Tryz.prog 123 ad123 rd123 (F123 N) :=
  fn_ok (N := N) (live := live123) (code := c123) (tok T123.rt T123.kl (wrNil_ok)) mixed (gok123 N) Tryz.func123 (by kernel_rfl) (by kernel_rfl) (by kernel_rfl) fun a p h => by rw [← h]; exact run123 N a.1 a.2.1

/-! ### tiller/nat.Pow: function 105 -/
noncomputable def c105 : Code := (Tryz.f105.body).getD .skip
noncomputable def T105 : Tb := ⟨tyOf tys, [], [24], wrNil⟩
noncomputable def G105 {R : Type} (N : Nat) : FuncId → List AV → (AV → Option R) → Option R := gCons 66 (gOf ad66 rd66 (F66 N)) (gCons 123 (gOf ad123 rd123 (F123 N)) (gCons 111 (gOf ad111 rd111 (F111 N)) (gNil)))
theorem gok105 {R : Type} (N : Nat) : GOK Tryz.prog (G105 (R := R) N) := gCons_ok (ok66 N) (gCons_ok (ok123 N) (gCons_ok (ok111 N) (gNil_ok)))
noncomputable def live105 : List (Nat × List (Nat × HK)) := [(4, [(0, .keep), (1, .keep), (6, .li .u32), (7, .keep), (45, .keep), (46, .keep)])]
noncomputable def ad105 : Ad (Int × Int × Unit) := aC (cInt .u32) (aC (cInt .i64) (a0))
noncomputable def rd105 : Rd (List Int × Option Int) := r2 (cLi .u32) (cErr 83)
noncomputable def st105_0 (v0 : Int) (v1 : Int) (v2 : List Int) (v3 : List Int) : St := ⟨[AV.v (.int .u32 v0), AV.v (.int .i64 v1), AV.none, AV.none, AV.none, AV.none, AV.li .u32 v2, AV.li .u32 v3, AV.none, AV.none, AV.none, AV.none, AV.none, AV.none, AV.none, AV.none, AV.none, AV.none, AV.none, AV.none, AV.none, AV.none, AV.none, AV.none, AV.none, AV.none, AV.none, AV.none, AV.none, AV.none, AV.none, AV.none, AV.none, AV.none, AV.none, AV.none, AV.none, AV.none, AV.none, AV.none, AV.none, AV.none, AV.none, AV.none, AV.none, AV.none, AV.none, AV.none, AV.none, AV.none, AV.none, AV.none, AV.none], [none, none, none, none, none, none, none, none, none, none, none, none, none, none, none, none, none, none, none, none, none, none, none, none, none, none, none, none, none, none, none, none, none, none, none, none, none, none, none, none, none, none, none, none, none, none, none, none, none, none, none, none, none]⟩
noncomputable def raw105_0 (N : Nat) (n : Nat) (v0 : Int) (v1 : Int) (v2 : List Int) (v3 : List Int) : Option (List Int × Option Int) := loopN (lookN live105 4) (exec T105 (G105 N) N live105 (cL (cL (cL (cR (cR (cR c105))))))) n (st105_0 v0 v1 v2 v3) (blockK 0 (seqK (exec T105 (G105 N) N live105 (cR (cR (cR (cR c105))))) (retK T105 Tryz.f105.results.toList (rd105).dec)))
noncomputable def s105_0 (N : Nat) (Ln0 : Int → Int → List Int → List Int → Option (List Int × Option Int)) (v0 : Int) (v1 : Int) (v2 : List Int) (v3 : List Int) : Option (List Int × Option Int) :=
  cond (eqI (andI .i64 v1 1) 1)
   ((fn_nat_times N v2 v3).bind fun r2 =>
    cond (eqI (shrI .i64 v1 1) 0)
     (cond (ltI 0 (shrI .i64 v1 1))
      (cond (ltI 1 v0)
       (some ([], some 2))
       ((fn_nat_bounded N r2).bind fun r3 =>
        some (r3.1, r3.2)))
      ((fn_nat_bounded N r2).bind fun r4 =>
       some (r4.1, r4.2)))
     (cond (ltI 8192 (r2.length : Int))
      (cond (ltI 0 (shrI .i64 v1 1))
       (cond (ltI 1 v0)
        (some ([], some 2))
        ((fn_nat_bounded N r2).bind fun r5 =>
         some (r5.1, r5.2)))
       ((fn_nat_bounded N r2).bind fun r6 =>
        some (r6.1, r6.2)))
      (cond (ltI 8192 (v3.length : Int))
       (cond (ltI 0 (shrI .i64 v1 1))
        (cond (ltI 1 v0)
         (some ([], some 2))
         ((fn_nat_bounded N r2).bind fun r7 =>
          some (r7.1, r7.2)))
        ((fn_nat_bounded N r2).bind fun r8 =>
         some (r8.1, r8.2)))
       ((fn_nat_times N v3 v3).bind fun r9 =>
        Ln0 v0 (shrI .i64 v1 1) r2 r9))))
   (cond (eqI (shrI .i64 v1 1) 0)
    (cond (ltI 0 (shrI .i64 v1 1))
     (cond (ltI 1 v0)
      (some ([], some 2))
      ((fn_nat_bounded N v2).bind fun r10 =>
       some (r10.1, r10.2)))
     ((fn_nat_bounded N v2).bind fun r11 =>
      some (r11.1, r11.2)))
    (cond (ltI 8192 (v2.length : Int))
     (cond (ltI 0 (shrI .i64 v1 1))
      (cond (ltI 1 v0)
       (some ([], some 2))
       ((fn_nat_bounded N v2).bind fun r12 =>
        some (r12.1, r12.2)))
      ((fn_nat_bounded N v2).bind fun r13 =>
       some (r13.1, r13.2)))
     (cond (ltI 8192 (v3.length : Int))
      (cond (ltI 0 (shrI .i64 v1 1))
       (cond (ltI 1 v0)
        (some ([], some 2))
        ((fn_nat_bounded N v2).bind fun r14 =>
         some (r14.1, r14.2)))
       ((fn_nat_bounded N v2).bind fun r15 =>
        some (r15.1, r15.2)))
      ((fn_nat_times N v3 v3).bind fun r16 =>
       Ln0 v0 (shrI .i64 v1 1) v2 r16))))
theorem step105_0 (N : Nat) (n : Nat) (v0 : Int) (v1 : Int) (v2 : List Int) (v3 : List Int) : raw105_0 N  (n + 1) v0 v1 v2 v3 = s105_0 N (raw105_0 N  n) v0 v1 v2 v3 := by kernel_rfl
noncomputable def l105_0 (N : Nat) : Nat → Int → Int → List Int → List Int → Option (List Int × Option Int)
  | 0 => fun _ _ _ _ => none
  | n + 1 => fun v0 v1 v2 v3 => s105_0 N (l105_0 N  n) v0 v1 v2 v3
theorem eq105_0 (N : Nat) : ∀ n, raw105_0 N  n = l105_0 N  n := by
  intro n
  induction n with
  | zero => exact funext fun v0 => funext fun v1 => funext fun v2 => funext fun v3 => rfl
  | succ n ih => exact funext fun v0 => funext fun v1 => funext fun v2 => funext fun v3 => by rw [step105_0, ih]; rfl
noncomputable def t105 (N : Nat) (Le0 : Int → Int → List Int → List Int → Option (List Int × Option Int)) (x0 : Int) (x1 : Int) : Option (List Int × Option Int) :=
  cond (ltI x1 0)
   (some ([], some 1))
   (cond (ltI 1000000 x1)
    (some ([], some 1))
    ((fn_nat_Of N (cvI .u64 x0)).bind fun r1 =>
     Le0 x0 x1 [1] r1))
noncomputable def fn_nat_Pow (N : Nat) (x0 : Int) (x1 : Int) : Option (List Int × Option Int) := t105 N (l105_0 N N) x0 x1
theorem run105 (N : Nat) (x0 : Int) (x1 : Int) : Eng.run T105 (G105 N) N live105 c105 Tryz.f105.results.toList Tryz.f105.ntmps ((ad105).enc (x0, x1, ())) (rd105).dec = fn_nat_Pow N x0 x1 := by
  refine Eq.trans (show _ = t105 N (raw105_0 N N) x0 x1 from by kernel_rfl) ?_
  unfold fn_nat_Pow
  rw [eq105_0 N N]
noncomputable def F105 (N : Nat) (a : Int × Int × Unit) : Option (List Int × Option Int) := fn_nat_Pow N a.1 a.2.1
theorem ok105 (N : Nat) : FnOK Tryz.prog 105 ad105 rd105 (F105 N) :=
  fn_ok (N := N) (live := live105) (code := c105) (tok T105.rt T105.kl (wrNil_ok)) mixed (gok105 N) Tryz.func105 (by kernel_rfl) (by kernel_rfl) (by kernel_rfl) fun a p h => by rw [← h]; exact run105 N a.1 a.2.1

/-! ### tiller/show.power: function 97 -/
noncomputable def c97 : Code := (Tryz.f97.body).getD .skip
noncomputable def T97 : Tb := ⟨tyOf tys, [], [], wrNil⟩
noncomputable def G97 {R : Type} (N : Nat) : FuncId → List AV → (AV → Option R) → Option R := gCons 105 (gOf ad105 rd105 (F105 N)) (gNil)
theorem gok97 {R : Type} (N : Nat) : GOK Tryz.prog (G97 (R := R) N) := gCons_ok (ok105 N) (gNil_ok)
noncomputable def live97 : List (Nat × List (Nat × HK)) := []
noncomputable def ad97 : Ad (Int × Unit) := aC (cInt .i64) (a0)
noncomputable def rd97 : Rd (List Int) := r1 (cLi .u32)
noncomputable def fn_show_power (N : Nat) (x0 : Int) : Option (List Int) :=
  (fn_nat_Pow N 10 x0).bind fun r1 =>
   cond (!(isNoneI r1.2))
    (some [])
    (some r1.1)
theorem run97 (N : Nat) (x0 : Int) : Eng.run T97 (G97 N) N live97 c97 Tryz.f97.results.toList Tryz.f97.ntmps ((ad97).enc (x0, ())) (rd97).dec = fn_show_power N x0 := by kernel_rfl
noncomputable def F97 (N : Nat) (a : Int × Unit) : Option (List Int) := fn_show_power N a.1
theorem ok97 (N : Nat) : FnOK Tryz.prog 97 ad97 rd97 (F97 N) :=
  fn_ok (N := N) (live := live97) (code := c97) (tok T97.rt T97.kl (wrNil_ok)) mixed (gok97 N) Tryz.func97 (by kernel_rfl) (by kernel_rfl) (by kernel_rfl) fun a p h => by rw [← h]; exact run97 N a.1

/-! ### tiller/nat.both: function 113 -/
noncomputable def c113 : Code := (Tryz.f113.body).getD .skip
noncomputable def T113 : Tb := ⟨tyOf tys, [], [], wrNil⟩
noncomputable def G113 {R : Type} (N : Nat) : FuncId → List AV → (AV → Option R) → Option R := gCons 94 (gOf ad94 rd94 (F94 N)) (gNil)
theorem gok113 {R : Type} (N : Nat) : GOK Tryz.prog (G113 (R := R) N) := gCons_ok (ok94 N) (gNil_ok)
noncomputable def live113 : List (Nat × List (Nat × HK)) := []
noncomputable def ad113 : Ad (List Int × List Int × Unit) := aC (cLi .u32) (aC (cLi .u32) (a0))
noncomputable def rd113 : Rd (Option Int) := r1 (cErr 83)
noncomputable def fn_nat_both (N : Nat) (x0 : List Int) (x1 : List Int) : Option (Option Int) :=
  (fn_nat_Check N x0).bind fun r1 =>
   cond (!(isNoneI r1))
    (some (some 1))
    ((fn_nat_Check N x1).bind fun r2 =>
     cond (!(isNoneI r2))
      (some (some 1))
      (some none))
theorem run113 (N : Nat) (x0 : List Int) (x1 : List Int) : Eng.run T113 (G113 N) N live113 c113 Tryz.f113.results.toList Tryz.f113.ntmps ((ad113).enc (x0, x1, ())) (rd113).dec = fn_nat_both N x0 x1 := by kernel_rfl
noncomputable def F113 (N : Nat) (a : List Int × List Int × Unit) : Option (Option Int) := fn_nat_both N a.1 a.2.1
theorem ok113 (N : Nat) : FnOK Tryz.prog 113 ad113 rd113 (F113 N) :=
  fn_ok (N := N) (live := live113) (code := c113) (tok T113.rt T113.kl (wrNil_ok)) mixed (gok113 N) Tryz.func113 (by kernel_rfl) (by kernel_rfl) (by kernel_rfl) fun a p h => by rw [← h]; exact run113 N a.1 a.2.1

/-! ### tiller/nat.Mul: function 106 -/
noncomputable def c106 : Code := (Tryz.f106.body).getD .skip
noncomputable def T106 : Tb := ⟨tyOf tys, [], [], wrNil⟩
noncomputable def G106 {R : Type} (N : Nat) : FuncId → List AV → (AV → Option R) → Option R := gCons 113 (gOf ad113 rd113 (F113 N)) (gCons 123 (gOf ad123 rd123 (F123 N)) (gCons 111 (gOf ad111 rd111 (F111 N)) (gNil)))
theorem gok106 {R : Type} (N : Nat) : GOK Tryz.prog (G106 (R := R) N) := gCons_ok (ok113 N) (gCons_ok (ok123 N) (gCons_ok (ok111 N) (gNil_ok)))
noncomputable def live106 : List (Nat × List (Nat × HK)) := []
noncomputable def ad106 : Ad (List Int × List Int × Unit) := aC (cLi .u32) (aC (cLi .u32) (a0))
noncomputable def rd106 : Rd (List Int × Option Int) := r2 (cLi .u32) (cErr 83)
noncomputable def fn_nat_Mul (N : Nat) (x0 : List Int) (x1 : List Int) : Option (List Int × Option Int) :=
  (fn_nat_both N x0 x1).bind fun r1 =>
   cond (!(isNoneI r1))
    (some ([], some 1))
    (cond (ltI 8193 (addI .i64 (x0.length : Int) (x1.length : Int)))
     (some ([], some 2))
     ((fn_nat_times N x0 x1).bind fun r2 =>
      (fn_nat_bounded N r2).bind fun r3 =>
       some (r3.1, r3.2)))
theorem run106 (N : Nat) (x0 : List Int) (x1 : List Int) : Eng.run T106 (G106 N) N live106 c106 Tryz.f106.results.toList Tryz.f106.ntmps ((ad106).enc (x0, x1, ())) (rd106).dec = fn_nat_Mul N x0 x1 := by kernel_rfl
noncomputable def F106 (N : Nat) (a : List Int × List Int × Unit) : Option (List Int × Option Int) := fn_nat_Mul N a.1 a.2.1
theorem ok106 (N : Nat) : FnOK Tryz.prog 106 ad106 rd106 (F106 N) :=
  fn_ok (N := N) (live := live106) (code := c106) (tok T106.rt T106.kl (wrNil_ok)) mixed (gok106 N) Tryz.func106 (by kernel_rfl) (by kernel_rfl) (by kernel_rfl) fun a p h => by rw [← h]; exact run106 N a.1 a.2.1

/-! ### tiller/show.times: function 96 -/
noncomputable def c96 : Code := (Tryz.f96.body).getD .skip
noncomputable def T96 : Tb := ⟨tyOf tys, [], [], wrNil⟩
noncomputable def G96 {R : Type} (N : Nat) : FuncId → List AV → (AV → Option R) → Option R := gCons 106 (gOf ad106 rd106 (F106 N)) (gNil)
theorem gok96 {R : Type} (N : Nat) : GOK Tryz.prog (G96 (R := R) N) := gCons_ok (ok106 N) (gNil_ok)
noncomputable def live96 : List (Nat × List (Nat × HK)) := []
noncomputable def ad96 : Ad (List Int × List Int × Unit) := aC (cLi .u32) (aC (cLi .u32) (a0))
noncomputable def rd96 : Rd (List Int) := r1 (cLi .u32)
noncomputable def fn_show_times (N : Nat) (x0 : List Int) (x1 : List Int) : Option (List Int) :=
  (fn_nat_Mul N x0 x1).bind fun r1 =>
   cond (!(isNoneI r1.2))
    (some [])
    (some r1.1)
theorem run96 (N : Nat) (x0 : List Int) (x1 : List Int) : Eng.run T96 (G96 N) N live96 c96 Tryz.f96.results.toList Tryz.f96.ntmps ((ad96).enc (x0, x1, ())) (rd96).dec = fn_show_times N x0 x1 := by kernel_rfl
noncomputable def F96 (N : Nat) (a : List Int × List Int × Unit) : Option (List Int) := fn_show_times N a.1 a.2.1
theorem ok96 (N : Nat) : FnOK Tryz.prog 96 ad96 rd96 (F96 N) :=
  fn_ok (N := N) (live := live96) (code := c96) (tok T96.rt T96.kl (wrNil_ok)) mixed (gok96 N) Tryz.func96 (by kernel_rfl) (by kernel_rfl) (by kernel_rfl) fun a p h => by rw [← h]; exact run96 N a.1 a.2.1

/-! ### (tiller/show.number).scaled: function 68 -/
noncomputable def c68 : Code := (Tryz.f68.body).getD .skip
noncomputable def T68 : Tb := ⟨tyOf tys, [(7, 2), (12, 2), (15, 2), (17, 2)], [], wrNil⟩
noncomputable def G68 {R : Type} (N : Nat) : FuncId → List AV → (AV → Option R) → Option R := gCons 97 (gOf ad97 rd97 (F97 N)) (gCons 96 (gOf ad96 rd96 (F96 N)) (gNil))
theorem gok68 {R : Type} (N : Nat) : GOK Tryz.prog (G68 (R := R) N) := gCons_ok (ok97 N) (gCons_ok (ok96 N) (gNil_ok))
noncomputable def live68 : List (Nat × List (Nat × HK)) := []
noncomputable def ad68 : Ad ((List Int × List Int) × Int × Unit) := aC (cSt (fC (lLi .u32) (fO (lLi .u32)))) (aC (cInt .i64) (a0))
noncomputable def rd68 : Rd ((List Int × List Int)) := r1 (cSt (fC (lLi .u32) (fO (lLi .u32))))
noncomputable def fn_show_number_scaled (N : Nat) (x0 : (List Int × List Int)) (x1 : Int) : Option ((List Int × List Int)) :=
  cond (leI 0 x1)
   ((fn_show_power N x1).bind fun r1 =>
    (fn_show_times N x0.1 r1).bind fun r2 =>
     some (r2, x0.2))
   ((fn_show_power N (subI .i64 0 x1)).bind fun r3 =>
    (fn_show_times N x0.2 r3).bind fun r4 =>
     some (x0.1, r4))
theorem run68 (N : Nat) (x0 : (List Int × List Int)) (x1 : Int) : Eng.run T68 (G68 N) N live68 c68 Tryz.f68.results.toList Tryz.f68.ntmps ((ad68).enc (x0, x1, ())) (rd68).dec = fn_show_number_scaled N x0 x1 := by kernel_rfl
noncomputable def F68 (N : Nat) (a : (List Int × List Int) × Int × Unit) : Option ((List Int × List Int)) := fn_show_number_scaled N a.1 a.2.1
theorem ok68 (N : Nat) : FnOK Tryz.prog 68 ad68 rd68 (F68 N) :=
  fn_ok (N := N) (live := live68) (code := c68) (tok T68.rt T68.kl (wrNil_ok)) mixed (gok68 N) Tryz.func68 (by kernel_rfl) (by kernel_rfl) (by kernel_rfl) fun a p h => by rw [← h]; exact run68 N a.1 a.2.1

/-! ### tiller/nat.compare: function 114 -/
noncomputable def c114 : Code := (Tryz.f114.body).getD .skip
noncomputable def T114 : Tb := ⟨tyOf tys, [], [], wrNil⟩
noncomputable def G114 {R : Type} (N : Nat) : FuncId → List AV → (AV → Option R) → Option R := gNil
theorem gok114 {R : Type} (N : Nat) : GOK Tryz.prog (G114 (R := R) N) := gNil_ok
noncomputable def live114 : List (Nat × List (Nat × HK)) := [(6, [(0, .keep), (1, .keep), (5, .keep)])]
noncomputable def ad114 : Ad (List Int × List Int × Unit) := aC (cLi .u32) (aC (cLi .u32) (a0))
noncomputable def rd114 : Rd (Int) := r1 (cInt .i64)
noncomputable def st114_0 (v0 : List Int) (v1 : List Int) (v2 : Int) : St := ⟨[AV.li .u32 v0, AV.li .u32 v1, AV.none, AV.none, AV.none, AV.v (.int .i64 v2), AV.none, AV.none, AV.none, AV.none, AV.none, AV.none, AV.none, AV.none, AV.none, AV.none, AV.none, AV.none, AV.none, AV.none, AV.none, AV.none, AV.none, AV.none, AV.none, AV.none, AV.none, AV.none, AV.none, AV.none, AV.none, AV.none, AV.none, AV.none, AV.none, AV.none, AV.none, AV.none, AV.none, AV.none, AV.none, AV.none, AV.none], [none, none, none, none, none, none, none, none, none, none, none, none, none, none, none, none, none, none, none, none, none, none, none, none, none, none, none, none, none, none, none, none, none, none, none, none, none, none, none, none, none, none, none]⟩
noncomputable def raw114_0 (N : Nat) (n : Nat) (v0 : List Int) (v1 : List Int) (v2 : Int) : Option (Int) := loopN (lookN live114 6) (exec T114 (G114 N) N live114 (cL (cL (cR (cL (cR (cR c114))))))) n (st114_0 v0 v1 v2) (blockK 0 (seqK (exec T114 (G114 N) N live114 (cR (cR (cR c114)))) (retK T114 Tryz.f114.results.toList (rd114).dec)))
noncomputable def s114_0 (N : Nat) (Ln0 : List Int → List Int → Int → Option (Int)) (v0 : List Int) (v1 : List Int) (v2 : Int) : Option (Int) :=
  cond (leI 0 v2)
   (cond (leI 0 v2)
    (cond (ltI v2 (v0.length : Int))
     (cond (leI 0 v2)
      (cond (ltI v2 (v1.length : Int))
       (cond (ltI (lrd v0 v2) (lrd v1 v2))
        (some (-1))
        (cond (leI 0 v2)
         (cond (ltI v2 (v0.length : Int))
          (cond (leI 0 v2)
           (cond (ltI v2 (v1.length : Int))
            (cond (ltI (lrd v1 v2) (lrd v0 v2))
             (some 1)
             (Ln0 v0 v1 (subI .i64 v2 1)))
            (none))
           (none))
          (none))
         (none)))
       (none))
      (none))
     (none))
    (none))
   (some 0)
theorem step114_0 (N : Nat) (n : Nat) (v0 : List Int) (v1 : List Int) (v2 : Int) : raw114_0 N  (n + 1) v0 v1 v2 = s114_0 N (raw114_0 N  n) v0 v1 v2 := by kernel_rfl
noncomputable def l114_0 (N : Nat) : Nat → List Int → List Int → Int → Option (Int)
  | 0 => fun _ _ _ => none
  | n + 1 => fun v0 v1 v2 => s114_0 N (l114_0 N  n) v0 v1 v2
theorem eq114_0 (N : Nat) : ∀ n, raw114_0 N  n = l114_0 N  n := by
  intro n
  induction n with
  | zero => exact funext fun v0 => funext fun v1 => funext fun v2 => rfl
  | succ n ih => exact funext fun v0 => funext fun v1 => funext fun v2 => by rw [step114_0, ih]; rfl
noncomputable def t114 (N : Nat) (Le0 : List Int → List Int → Int → Option (Int)) (x0 : List Int) (x1 : List Int) : Option (Int) :=
  cond (!(eqI (x0.length : Int) (x1.length : Int)))
   (cond (ltI (x0.length : Int) (x1.length : Int))
    (some (-1))
    (some 1))
   (Le0 x0 x1 (subI .i64 (x0.length : Int) 1))
noncomputable def fn_nat_compare (N : Nat) (x0 : List Int) (x1 : List Int) : Option (Int) := t114 N (l114_0 N N) x0 x1
theorem run114 (N : Nat) (x0 : List Int) (x1 : List Int) : Eng.run T114 (G114 N) N live114 c114 Tryz.f114.results.toList Tryz.f114.ntmps ((ad114).enc (x0, x1, ())) (rd114).dec = fn_nat_compare N x0 x1 := by
  refine Eq.trans (show _ = t114 N (raw114_0 N N) x0 x1 from by kernel_rfl) ?_
  unfold fn_nat_compare
  rw [eq114_0 N N]
noncomputable def F114 (N : Nat) (a : List Int × List Int × Unit) : Option (Int) := fn_nat_compare N a.1 a.2.1
theorem ok114 (N : Nat) : FnOK Tryz.prog 114 ad114 rd114 (F114 N) :=
  fn_ok (N := N) (live := live114) (code := c114) (tok T114.rt T114.kl (wrNil_ok)) mixed (gok114 N) Tryz.func114 (by kernel_rfl) (by kernel_rfl) (by kernel_rfl) fun a p h => by rw [← h]; exact run114 N a.1 a.2.1

/-! ### tiller/nat.Cmp: function 98 -/
noncomputable def c98 : Code := (Tryz.f98.body).getD .skip
noncomputable def T98 : Tb := ⟨tyOf tys, [], [], wrNil⟩
noncomputable def G98 {R : Type} (N : Nat) : FuncId → List AV → (AV → Option R) → Option R := gCons 113 (gOf ad113 rd113 (F113 N)) (gCons 114 (gOf ad114 rd114 (F114 N)) (gNil))
theorem gok98 {R : Type} (N : Nat) : GOK Tryz.prog (G98 (R := R) N) := gCons_ok (ok113 N) (gCons_ok (ok114 N) (gNil_ok))
noncomputable def live98 : List (Nat × List (Nat × HK)) := []
noncomputable def ad98 : Ad (List Int × List Int × Unit) := aC (cLi .u32) (aC (cLi .u32) (a0))
noncomputable def rd98 : Rd (Int × Option Int) := r2 (cInt .i64) (cErr 83)
noncomputable def fn_nat_Cmp (N : Nat) (x0 : List Int) (x1 : List Int) : Option (Int × Option Int) :=
  (fn_nat_both N x0 x1).bind fun r1 =>
   cond (!(isNoneI r1))
    (some (0, r1))
    ((fn_nat_compare N x0 x1).bind fun r2 =>
     some (r2, none))
theorem run98 (N : Nat) (x0 : List Int) (x1 : List Int) : Eng.run T98 (G98 N) N live98 c98 Tryz.f98.results.toList Tryz.f98.ntmps ((ad98).enc (x0, x1, ())) (rd98).dec = fn_nat_Cmp N x0 x1 := by kernel_rfl
noncomputable def F98 (N : Nat) (a : List Int × List Int × Unit) : Option (Int × Option Int) := fn_nat_Cmp N a.1 a.2.1
theorem ok98 (N : Nat) : FnOK Tryz.prog 98 ad98 rd98 (F98 N) :=
  fn_ok (N := N) (live := live98) (code := c98) (tok T98.rt T98.kl (wrNil_ok)) mixed (gok98 N) Tryz.func98 (by kernel_rfl) (by kernel_rfl) (by kernel_rfl) fun a p h => by rw [← h]; exact run98 N a.1 a.2.1

/-! ### (tiller/show.number).compare: function 69 -/
noncomputable def c69 : Code := (Tryz.f69.body).getD .skip
noncomputable def T69 : Tb := ⟨tyOf tys, [(8, 2), (11, 2)], [], wrNil⟩
noncomputable def G69 {R : Type} (N : Nat) : FuncId → List AV → (AV → Option R) → Option R := gCons 96 (gOf ad96 rd96 (F96 N)) (gCons 98 (gOf ad98 rd98 (F98 N)) (gNil))
theorem gok69 {R : Type} (N : Nat) : GOK Tryz.prog (G69 (R := R) N) := gCons_ok (ok96 N) (gCons_ok (ok98 N) (gNil_ok))
noncomputable def live69 : List (Nat × List (Nat × HK)) := []
noncomputable def ad69 : Ad ((List Int × List Int) × List Int × Unit) := aC (cSt (fC (lLi .u32) (fO (lLi .u32)))) (aC (cLi .u32) (a0))
noncomputable def rd69 : Rd (Int) := r1 (cInt .i64)
noncomputable def fn_show_number_compare (N : Nat) (x0 : (List Int × List Int)) (x1 : List Int) : Option (Int) :=
  (fn_show_times N x1 x0.2).bind fun r1 =>
   (fn_nat_Cmp N x0.1 r1).bind fun r2 =>
    cond (!(isNoneI r2.2))
     (some 0)
     (some r2.1)
theorem run69 (N : Nat) (x0 : (List Int × List Int)) (x1 : List Int) : Eng.run T69 (G69 N) N live69 c69 Tryz.f69.results.toList Tryz.f69.ntmps ((ad69).enc (x0, x1, ())) (rd69).dec = fn_show_number_compare N x0 x1 := by kernel_rfl
noncomputable def F69 (N : Nat) (a : (List Int × List Int) × List Int × Unit) : Option (Int) := fn_show_number_compare N a.1 a.2.1
theorem ok69 (N : Nat) : FnOK Tryz.prog 69 ad69 rd69 (F69 N) :=
  fn_ok (N := N) (live := live69) (code := c69) (tok T69.rt T69.kl (wrNil_ok)) mixed (gok69 N) Tryz.func69 (by kernel_rfl) (by kernel_rfl) (by kernel_rfl) fun a p h => by rw [← h]; exact run69 N a.1 a.2.1

/-! ### (tiller/show.number).first: function 38 -/
noncomputable def c38 : Code := (Tryz.f38.body).getD .skip
noncomputable def T38 : Tb := ⟨tyOf tys, [(4, 1), (7, 1)], [], wrNil⟩
noncomputable def G38 {R : Type} (N : Nat) : FuncId → List AV → (AV → Option R) → Option R := gCons 67 (gOf ad67 rd67 (F67 N)) (gCons 68 (gOf ad68 rd68 (F68 N)) (gCons 66 (gOf ad66 rd66 (F66 N)) (gCons 69 (gOf ad69 rd69 (F69 N)) (gNil))))
theorem gok38 {R : Type} (N : Nat) : GOK Tryz.prog (G38 (R := R) N) := gCons_ok (ok67 N) (gCons_ok (ok68 N) (gCons_ok (ok66 N) (gCons_ok (ok69 N) (gNil_ok))))
noncomputable def live38 : List (Nat × List (Nat × HK)) := [(2, [(1, .keep), (3, .keep)]), (4, [(1, .keep), (3, .keep)])]
noncomputable def ad38 : Ad ((List Int × List Int) × Unit) := aC (cSt (fC (lLi .u32) (fO (lLi .u32)))) (a0)
noncomputable def rd38 : Rd (Int) := r1 (cInt .i64)
noncomputable def st38_0 (v0 : Int) (v1 : List Int) (v2 : List Int) : St := ⟨[AV.none, AV.ptr 1 0, AV.none, AV.v (.int .i64 v0), AV.none, AV.none, AV.none, AV.none, AV.none, AV.none, AV.none, AV.none, AV.none, AV.none, AV.none, AV.none, AV.none, AV.none, AV.none, AV.none, AV.none, AV.none, AV.none, AV.none, AV.none, AV.none, AV.none, AV.none, AV.none, AV.none, AV.none, AV.none], [none, some (OB.agg [AV.li .u32 v1, AV.li .u32 v2]), none, none, none, none, none, none, none, none, none, none, none, none, none, none, none, none, none, none, none, none, none, none, none, none, none, none, none, none, none, none]⟩
noncomputable def raw38_0 (N : Nat) (n : Nat) (v0 : Int) (v1 : List Int) (v2 : List Int) : Option (Int) := loopN (lookN live38 2) (exec T38 (G38 N) N live38 (cL (cL (cL (cR (cR c38)))))) n (st38_0 v0 v1 v2) (blockK 0 (seqK (exec T38 (G38 N) N live38 (cR (cR (cR c38)))) (retK T38 Tryz.f38.results.toList (rd38).dec)))
noncomputable def st38_1 (v0 : Int) (v1 : List Int) (v2 : List Int) : St := ⟨[AV.none, AV.ptr 1 0, AV.none, AV.v (.int .i64 v0), AV.none, AV.none, AV.none, AV.none, AV.none, AV.none, AV.none, AV.none, AV.none, AV.none, AV.none, AV.none, AV.none, AV.none, AV.none, AV.none, AV.none, AV.none, AV.none, AV.none, AV.none, AV.none, AV.none, AV.none, AV.none, AV.none, AV.none, AV.none], [none, some (OB.agg [AV.li .u32 v1, AV.li .u32 v2]), none, none, none, none, none, none, none, none, none, none, none, none, none, none, none, none, none, none, none, none, none, none, none, none, none, none, none, none, none, none]⟩
noncomputable def raw38_1 (N : Nat) (n : Nat) (v0 : Int) (v1 : List Int) (v2 : List Int) : Option (Int) := loopN (lookN live38 4) (exec T38 (G38 N) N live38 (cL (cL (cL (cR (cR (cR c38))))))) n (st38_1 v0 v1 v2) (blockK 2 (seqK (exec T38 (G38 N) N live38 (cR (cR (cR (cR c38))))) (retK T38 Tryz.f38.results.toList (rd38).dec)))
noncomputable def s38_1 (N : Nat) (Ln1 : Int → List Int → List Int → Option (Int)) (v0 : Int) (v1 : List Int) (v2 : List Int) : Option (Int) :=
  (fn_show_number_scaled N (v1, v2) (subI .i64 0 v0)).bind fun r6 =>
   (fn_nat_Of N 10).bind fun r7 =>
    (fn_show_number_compare N (r6.1, r6.2) r7).bind fun r8 =>
     cond (leI 0 r8)
      (Ln1 (addI .i64 v0 1) v1 v2)
      (some v0)
theorem step38_1 (N : Nat) (n : Nat) (v0 : Int) (v1 : List Int) (v2 : List Int) : raw38_1 N  (n + 1) v0 v1 v2 = s38_1 N (raw38_1 N  n) v0 v1 v2 := by kernel_rfl
noncomputable def l38_1 (N : Nat) : Nat → Int → List Int → List Int → Option (Int)
  | 0 => fun _ _ _ => none
  | n + 1 => fun v0 v1 v2 => s38_1 N (l38_1 N  n) v0 v1 v2
theorem eq38_1 (N : Nat) : ∀ n, raw38_1 N  n = l38_1 N  n := by
  intro n
  induction n with
  | zero => exact funext fun v0 => funext fun v1 => funext fun v2 => rfl
  | succ n ih => exact funext fun v0 => funext fun v1 => funext fun v2 => by rw [step38_1, ih]; rfl
noncomputable def s38_0 (N : Nat) (Ln0 : Int → List Int → List Int → Option (Int)) (Le1 : Int → List Int → List Int → Option (Int)) (v0 : Int) (v1 : List Int) (v2 : List Int) : Option (Int) :=
  (fn_show_number_scaled N (v1, v2) (subI .i64 0 v0)).bind fun r3 =>
   (fn_nat_Of N 1).bind fun r4 =>
    (fn_show_number_compare N (r3.1, r3.2) r4).bind fun r5 =>
     cond (ltI r5 0)
      (Ln0 (subI .i64 v0 1) v1 v2)
      (Le1 v0 v1 v2)
theorem step38_0 (N : Nat) (n : Nat) (v0 : Int) (v1 : List Int) (v2 : List Int) : raw38_0 N  (n + 1) v0 v1 v2 = s38_0 N (raw38_0 N  n) (raw38_1 N  N) v0 v1 v2 := by kernel_rfl
noncomputable def l38_0 (N : Nat) : Nat → Int → List Int → List Int → Option (Int)
  | 0 => fun _ _ _ => none
  | n + 1 => fun v0 v1 v2 => s38_0 N (l38_0 N  n) (l38_1 N  N) v0 v1 v2
theorem eq38_0 (N : Nat) : ∀ n, raw38_0 N  n = l38_0 N  n := by
  intro n
  induction n with
  | zero => exact funext fun v0 => funext fun v1 => funext fun v2 => rfl
  | succ n ih => exact funext fun v0 => funext fun v1 => funext fun v2 => by rw [step38_0, eq38_1 N  N, ih]; rfl
noncomputable def t38 (N : Nat) (Le0 : Int → List Int → List Int → Option (Int)) (x0 : (List Int × List Int)) : Option (Int) :=
  (fn_nat_Len N x0.1).bind fun r1 =>
   (fn_nat_Len N x0.2).bind fun r2 =>
    Le0 (quoI .i64 (mulI .i64 (subI .i64 r1 r2) 30103) 100000) x0.1 x0.2
noncomputable def fn_show_number_first (N : Nat) (x0 : (List Int × List Int)) : Option (Int) := t38 N (l38_0 N N) x0
theorem run38 (N : Nat) (x0 : (List Int × List Int)) : Eng.run T38 (G38 N) N live38 c38 Tryz.f38.results.toList Tryz.f38.ntmps ((ad38).enc (x0, ())) (rd38).dec = fn_show_number_first N x0 := by
  refine Eq.trans (show _ = t38 N (raw38_0 N N) x0 from by kernel_rfl) ?_
  unfold fn_show_number_first
  rw [eq38_0 N N]
noncomputable def F38 (N : Nat) (a : (List Int × List Int) × Unit) : Option (Int) := fn_show_number_first N a.1
theorem ok38 (N : Nat) : FnOK Tryz.prog 38 ad38 rd38 (F38 N) :=
  fn_ok (N := N) (live := live38) (code := c38) (tok T38.rt T38.kl (wrNil_ok)) mixed (gok38 N) Tryz.func38 (by kernel_rfl) (by kernel_rfl) (by kernel_rfl) fun a p h => by rw [← h]; exact run38 N a.1

/-! ### tiller/show.between: function 70 -/
noncomputable def c70 : Code := (Tryz.f70.body).getD .skip
noncomputable def T70 : Tb := ⟨tyOf tys, [(5, 1), (9, 1), (13, 1), (18, 1), (25, 1)], [], wrNil⟩
noncomputable def G70 {R : Type} (N : Nat) : FuncId → List AV → (AV → Option R) → Option R := gNil
theorem gok70 {R : Type} (N : Nat) : GOK Tryz.prog (G70 (R := R) N) := gNil_ok
noncomputable def live70 : List (Nat × List (Nat × HK)) := []
noncomputable def ad70 : Ad ((Bool × Int × Int × Int) × Unit) := aC (cSt (fC (lBool) (fC (lInt .i64) (fC (lInt .i64) (fO (lInt .u64)))))) (a0)
noncomputable def rd70 : Rd (Int × Int) := r2 (cInt .u64) (cInt .u64)
noncomputable def fn_show_between (N : Nat) (x0 : (Bool × Int × Int × Int)) : Option (Int × Int) :=
  cond (eqI x0.2.1 2)
   (cond (eqI x0.2.2.2 4503599627370496)
    (cond (ltI (-1074) x0.2.2.1)
     (some (addI .u64 (subI .u64 (mulI .u64 4 x0.2.2.2) 2) 1, addI .u64 (mulI .u64 4 x0.2.2.2) 2))
     (some (subI .u64 (mulI .u64 4 x0.2.2.2) 2, addI .u64 (mulI .u64 4 x0.2.2.2) 2)))
    (some (subI .u64 (mulI .u64 4 x0.2.2.2) 2, addI .u64 (mulI .u64 4 x0.2.2.2) 2)))
   (some (subI .u64 (mulI .u64 4 x0.2.2.2) 2, addI .u64 (mulI .u64 4 x0.2.2.2) 2))
theorem run70 (N : Nat) (x0 : (Bool × Int × Int × Int)) : Eng.run T70 (G70 N) N live70 c70 Tryz.f70.results.toList Tryz.f70.ntmps ((ad70).enc (x0, ())) (rd70).dec = fn_show_between N x0 := by kernel_rfl
noncomputable def F70 (N : Nat) (a : (Bool × Int × Int × Int) × Unit) : Option (Int × Int) := fn_show_between N a.1
theorem ok70 (N : Nat) : FnOK Tryz.prog 70 ad70 rd70 (F70 N) :=
  fn_ok (N := N) (live := live70) (code := c70) (tok T70.rt T70.kl (wrNil_ok)) mixed (gok70 N) Tryz.func70 (by kernel_rfl) (by kernel_rfl) (by kernel_rfl) fun a p h => by rw [← h]; exact run70 N a.1

/-! ### tiller/nat.short: function 118 -/
noncomputable def c118 : Code := (Tryz.f118.body).getD .skip
noncomputable def T118 : Tb := ⟨tyOf tys, [(34, 6)], [40], wrNil⟩
noncomputable def G118 {R : Type} (N : Nat) : FuncId → List AV → (AV → Option R) → Option R := gCons 93 (gOf ad93 rd93 (F93 N)) (gNil)
theorem gok118 {R : Type} (N : Nat) : GOK Tryz.prog (G118 (R := R) N) := gCons_ok (ok93 N) (gNil_ok)
noncomputable def live118 : List (Nat × List (Nat × HK)) := [(4, [(0, .keep), (1, .keep), (6, .row .u32 142), (7, .keep), (8, .keep)])]
noncomputable def ad118 : Ad (List Int × Int × Unit) := aC (cLi .u32) (aC (cInt .u32) (a0))
noncomputable def rd118 : Rd (List Int × Int) := r2 (cLi .u32) (cInt .u32)
noncomputable def st118_0 (v0 : List Int) (v1 : Int) (v2 : Int) (v3 : Int) (v4 : List Int) : St := ⟨[AV.li .u32 v0, AV.v (.int .u32 v1), AV.none, AV.none, AV.none, AV.none, AV.own 6, AV.v (.int .u64 v2), AV.v (.int .i64 v3), AV.none, AV.none, AV.none, AV.none, AV.none, AV.none, AV.none, AV.none, AV.none, AV.none, AV.none, AV.none, AV.none, AV.none, AV.none, AV.none, AV.none, AV.none, AV.none, AV.none, AV.none, AV.none, AV.none, AV.none, AV.none, AV.none, AV.none, AV.none, AV.none, AV.none, AV.none, AV.none, AV.none, AV.none], [none, none, none, none, none, none, some (OB.row .u32 142 v4), none, none, none, none, none, none, none, none, none, none, none, none, none, none, none, none, none, none, none, none, none, none, none, none, none, none, none, none, none, none, none, none, none, none, none, none]⟩
noncomputable def raw118_0 (N : Nat) (n : Nat) (v0 : List Int) (v1 : Int) (v2 : Int) (v3 : Int) (v4 : List Int) : Option (List Int × Int) := loopN (lookN live118 4) (exec T118 (G118 N) N live118 (cL (cL (cR (cL (cR (cR (cR c118)))))))) n (st118_0 v0 v1 v2 v3 v4) (blockK 0 (seqK (exec T118 (G118 N) N live118 (cR (cR (cR (cR c118))))) (retK T118 Tryz.f118.results.toList (rd118).dec)))
noncomputable def s118_0 (N : Nat) (Ln0 : List Int → Int → Int → Int → List Int → Option (List Int × Int)) (v0 : List Int) (v1 : Int) (v2 : Int) (v3 : Int) (v4 : List Int) : Option (List Int × Int) :=
  cond (leI 0 v3)
   (cond (leI 0 v3)
    (cond (ltI v3 (v0.length : Int))
     (cond (eqI (cvI .u64 v1) 0)
      (none)
      (cond (leI 0 v3)
       (cond (ltI v3 (v4.length : Int))
        (cond (eqI (cvI .u64 v1) 0)
         (none)
         (Ln0 v0 v1 (remI .u64 (orI .u64 (shlI .u64 v2 32) (cvI .u64 (lrd v0 v3))) (cvI .u64 v1)) (subI .i64 v3 1) (v4.set v3.toNat (cvI .u32 (quoI .u64 (orI .u64 (shlI .u64 v2 32) (cvI .u64 (lrd v0 v3))) (cvI .u64 v1))))))
        (none))
       (none)))
     (none))
    (none))
   ((fn_nat_trim N v4).bind fun r1 =>
    some (r1, cvI .u32 v2))
theorem step118_0 (N : Nat) (n : Nat) (v0 : List Int) (v1 : Int) (v2 : Int) (v3 : Int) (v4 : List Int) : raw118_0 N  (n + 1) v0 v1 v2 v3 v4 = s118_0 N (raw118_0 N  n) v0 v1 v2 v3 v4 := by kernel_rfl
noncomputable def l118_0 (N : Nat) : Nat → List Int → Int → Int → Int → List Int → Option (List Int × Int)
  | 0 => fun _ _ _ _ _ => none
  | n + 1 => fun v0 v1 v2 v3 v4 => s118_0 N (l118_0 N  n) v0 v1 v2 v3 v4
theorem eq118_0 (N : Nat) : ∀ n, raw118_0 N  n = l118_0 N  n := by
  intro n
  induction n with
  | zero => exact funext fun v0 => funext fun v1 => funext fun v2 => funext fun v3 => funext fun v4 => rfl
  | succ n ih => exact funext fun v0 => funext fun v1 => funext fun v2 => funext fun v3 => funext fun v4 => by rw [step118_0, ih]; rfl
noncomputable def t118 (N : Nat) (Le0 : List Int → Int → Int → Int → List Int → Option (List Int × Int)) (x0 : List Int) (x1 : Int) : Option (List Int × Int) :=
  cond (leI 0 (x0.length : Int))
   (cond (leI (x0.length : Int) 17592186044416)
    (Le0 x0 x1 0 (subI .i64 (x0.length : Int) 1) (List.replicate ((x0.length : Int).toNat) (0 : Int)))
    (none))
   (none)
noncomputable def fn_nat_short (N : Nat) (x0 : List Int) (x1 : Int) : Option (List Int × Int) := t118 N (l118_0 N N) x0 x1
theorem run118 (N : Nat) (x0 : List Int) (x1 : Int) : Eng.run T118 (G118 N) N live118 c118 Tryz.f118.results.toList Tryz.f118.ntmps ((ad118).enc (x0, x1, ())) (rd118).dec = fn_nat_short N x0 x1 := by
  refine Eq.trans (show _ = t118 N (raw118_0 N N) x0 x1 from by kernel_rfl) ?_
  unfold fn_nat_short
  rw [eq118_0 N N]
noncomputable def F118 (N : Nat) (a : List Int × Int × Unit) : Option (List Int × Int) := fn_nat_short N a.1 a.2.1
theorem ok118 (N : Nat) : FnOK Tryz.prog 118 ad118 rd118 (F118 N) :=
  fn_ok (N := N) (live := live118) (code := c118) (tok T118.rt T118.kl (wrNil_ok)) mixed (gok118 N) Tryz.func118 (by kernel_rfl) (by kernel_rfl) (by kernel_rfl) fun a p h => by rw [← h]; exact run118 N a.1 a.2.1
end Go.Proofs.YtidoegjemkdnlaaGreatDoor.Fns

/- Go functions as plain Lean functions, and the engine's run of each. No statement is proved here. Laid by eng.py. -/
import Derived.Test.YtcdhcihjcjpmkaaGreatDoorFn0
namespace Go.Proofs.YtcdhcihjcjpmkaaGreatDoor.Fns
open Go Go.RowKit Go.Proofs Go.Proofs.YtcdhcihjcjpmkaaGreatDoor.Eng Go.Proofs.YtcdhcihjcjpmkaaGreatDoor.Num Go.Proofs.YtcdhcihjcjpmkaaGreatDoor.Slc
set_option linter.unusedVariables false
set_option maxRecDepth 100000
/-! ### tiller/pat.Abs: function 56 -/
noncomputable def c56 : Code := (Tryz.f56.body).getD .skip
noncomputable def T56 : Tb := ⟨tyOf tys, [], [], wrNil⟩
noncomputable def G56 {R : Type} (N : Nat) : FuncId → List AV → (AV → Option R) → Option R := gNil
theorem gok56 {R : Type} (N : Nat) : GOK Tryz.prog (G56 (R := R) N) := gNil_ok
noncomputable def live56 : List (Nat × List (Nat × HK)) := []
noncomputable def ad56 : Ad (Int × Unit) := aC (cInt .u64) (a0)
noncomputable def rd56 : Rd (Int) := r1 (cInt .u64)
noncomputable def fn_pat_Abs (N : Nat) (x0 : Int) : Option (Int) :=
  some (bicI .u64 x0 9223372036854775808)
theorem run56 (N : Nat) (x0 : Int) : Eng.run T56 (G56 N) N live56 c56 Tryz.f56.results.toList Tryz.f56.ntmps ((ad56).enc (x0, ())) (rd56).dec = fn_pat_Abs N x0 := by kernel_rfl
noncomputable def F56 (N : Nat) (a : Int × Unit) : Option (Int) := fn_pat_Abs N a.1
theorem ok56 (N : Nat) : FnOK Tryz.prog 56 ad56 rd56 (F56 N) :=
  fn_ok (N := N) (live := live56) (code := c56) (tok T56.rt T56.kl (wrNil_ok)) mixed (gok56 N) Tryz.func56 (by kernel_rfl) (by kernel_rfl) (by kernel_rfl) fun a p h => by rw [← h]; exact run56 N a.1

/-! ### tiller/pat.IsNaN: function 23 -/
noncomputable def c23 : Code := (Tryz.f23.body).getD .skip
noncomputable def T23 : Tb := ⟨tyOf tys, [], [], wrNil⟩
noncomputable def G23 {R : Type} (N : Nat) : FuncId → List AV → (AV → Option R) → Option R := gCons 56 (gOf ad56 rd56 (F56 N)) (gNil)
theorem gok23 {R : Type} (N : Nat) : GOK Tryz.prog (G23 (R := R) N) := gCons_ok (ok56 N) (gNil_ok)
noncomputable def live23 : List (Nat × List (Nat × HK)) := []
noncomputable def ad23 : Ad (Int × Unit) := aC (cInt .u64) (a0)
noncomputable def rd23 : Rd (Bool) := r1 (cBool)
noncomputable def fn_pat_IsNaN (N : Nat) (x0 : Int) : Option (Bool) :=
  (fn_pat_Abs N x0).bind fun r1 =>
   some (ltI 9218868437227405312 r1)
theorem run23 (N : Nat) (x0 : Int) : Eng.run T23 (G23 N) N live23 c23 Tryz.f23.results.toList Tryz.f23.ntmps ((ad23).enc (x0, ())) (rd23).dec = fn_pat_IsNaN N x0 := by kernel_rfl
noncomputable def F23 (N : Nat) (a : Int × Unit) : Option (Bool) := fn_pat_IsNaN N a.1
theorem ok23 (N : Nat) : FnOK Tryz.prog 23 ad23 rd23 (F23 N) :=
  fn_ok (N := N) (live := live23) (code := c23) (tok T23.rt T23.kl (wrNil_ok)) mixed (gok23 N) Tryz.func23 (by kernel_rfl) (by kernel_rfl) (by kernel_rfl) fun a p h => by rw [← h]; exact run23 N a.1

/-! ### tiller/pat.Take: function 15 -/
noncomputable def c15 : Code := (Tryz.f15.body).getD .skip
noncomputable def T15 : Tb := ⟨tyOf tys, [(15, 3), (20, 3), (24, 3), (29, 3), (34, 3), (38, 3), (45, 3), (48, 3), (49, 3), (50, 3), (52, 3), (55, 3), (56, 3)], [], wrNil⟩
noncomputable def G15 {R : Type} (N : Nat) : FuncId → List AV → (AV → Option R) → Option R := gNil
theorem gok15 {R : Type} (N : Nat) : GOK Tryz.prog (G15 (R := R) N) := gNil_ok
noncomputable def live15 : List (Nat × List (Nat × HK)) := []
noncomputable def ad15 : Ad (Int × Unit) := aC (cInt .u64) (a0)
noncomputable def rd15 : Rd ((Bool × Int × Int × Int)) := r1 (cSt (fC (lBool) (fC (lInt .i64) (fC (lInt .i64) (fO (lInt .u64))))))
noncomputable def fn_pat_Take (N : Nat) (x0 : Int) : Option ((Bool × Int × Int × Int)) :=
  cond (eqI (andI .i64 (cvI .i64 (shrI .u64 x0 52)) 2047) 2047)
   (cond (eqI (andI .u64 x0 4503599627370495) 0)
    (some (!(eqI (andI .u64 x0 9223372036854775808) 0), 3, 0, andI .u64 x0 4503599627370495))
    (cond (eqI (andI .i64 (cvI .i64 (shrI .u64 x0 52)) 2047) 2047)
     (cond (!(eqI (andI .u64 (andI .u64 x0 4503599627370495) 2251799813685248) 0))
      (some (!(eqI (andI .u64 x0 9223372036854775808) 0), 4, 0, andI .u64 x0 4503599627370495))
      (cond (eqI (andI .i64 (cvI .i64 (shrI .u64 x0 52)) 2047) 2047)
       (some (!(eqI (andI .u64 x0 9223372036854775808) 0), 5, 0, andI .u64 x0 4503599627370495))
       (cond (ltI 0 (andI .i64 (cvI .i64 (shrI .u64 x0 52)) 2047))
        (some (!(eqI (andI .u64 x0 9223372036854775808) 0), 2, subI .i64 (addI .i64 (andI .i64 (cvI .i64 (shrI .u64 x0 52)) 2047) (-1074)) 1, orI .u64 (andI .u64 x0 4503599627370495) 4503599627370496))
        (cond (ltI 0 (andI .u64 x0 4503599627370495))
         (some (!(eqI (andI .u64 x0 9223372036854775808) 0), 1, (-1074), andI .u64 x0 4503599627370495))
         (some (!(eqI (andI .u64 x0 9223372036854775808) 0), 0, (-1074), andI .u64 x0 4503599627370495))))))
     (cond (eqI (andI .i64 (cvI .i64 (shrI .u64 x0 52)) 2047) 2047)
      (some (!(eqI (andI .u64 x0 9223372036854775808) 0), 5, 0, andI .u64 x0 4503599627370495))
      (cond (ltI 0 (andI .i64 (cvI .i64 (shrI .u64 x0 52)) 2047))
       (some (!(eqI (andI .u64 x0 9223372036854775808) 0), 2, subI .i64 (addI .i64 (andI .i64 (cvI .i64 (shrI .u64 x0 52)) 2047) (-1074)) 1, orI .u64 (andI .u64 x0 4503599627370495) 4503599627370496))
       (cond (ltI 0 (andI .u64 x0 4503599627370495))
        (some (!(eqI (andI .u64 x0 9223372036854775808) 0), 1, (-1074), andI .u64 x0 4503599627370495))
        (some (!(eqI (andI .u64 x0 9223372036854775808) 0), 0, (-1074), andI .u64 x0 4503599627370495)))))))
   (cond (eqI (andI .i64 (cvI .i64 (shrI .u64 x0 52)) 2047) 2047)
    (cond (!(eqI (andI .u64 (andI .u64 x0 4503599627370495) 2251799813685248) 0))
     (some (!(eqI (andI .u64 x0 9223372036854775808) 0), 4, 0, andI .u64 x0 4503599627370495))
     (cond (eqI (andI .i64 (cvI .i64 (shrI .u64 x0 52)) 2047) 2047)
      (some (!(eqI (andI .u64 x0 9223372036854775808) 0), 5, 0, andI .u64 x0 4503599627370495))
      (cond (ltI 0 (andI .i64 (cvI .i64 (shrI .u64 x0 52)) 2047))
       (some (!(eqI (andI .u64 x0 9223372036854775808) 0), 2, subI .i64 (addI .i64 (andI .i64 (cvI .i64 (shrI .u64 x0 52)) 2047) (-1074)) 1, orI .u64 (andI .u64 x0 4503599627370495) 4503599627370496))
       (cond (ltI 0 (andI .u64 x0 4503599627370495))
        (some (!(eqI (andI .u64 x0 9223372036854775808) 0), 1, (-1074), andI .u64 x0 4503599627370495))
        (some (!(eqI (andI .u64 x0 9223372036854775808) 0), 0, (-1074), andI .u64 x0 4503599627370495))))))
    (cond (eqI (andI .i64 (cvI .i64 (shrI .u64 x0 52)) 2047) 2047)
     (some (!(eqI (andI .u64 x0 9223372036854775808) 0), 5, 0, andI .u64 x0 4503599627370495))
     (cond (ltI 0 (andI .i64 (cvI .i64 (shrI .u64 x0 52)) 2047))
      (some (!(eqI (andI .u64 x0 9223372036854775808) 0), 2, subI .i64 (addI .i64 (andI .i64 (cvI .i64 (shrI .u64 x0 52)) 2047) (-1074)) 1, orI .u64 (andI .u64 x0 4503599627370495) 4503599627370496))
      (cond (ltI 0 (andI .u64 x0 4503599627370495))
       (some (!(eqI (andI .u64 x0 9223372036854775808) 0), 1, (-1074), andI .u64 x0 4503599627370495))
       (some (!(eqI (andI .u64 x0 9223372036854775808) 0), 0, (-1074), andI .u64 x0 4503599627370495))))))
theorem run15 (N : Nat) (x0 : Int) : Eng.run T15 (G15 N) N live15 c15 Tryz.f15.results.toList Tryz.f15.ntmps ((ad15).enc (x0, ())) (rd15).dec = fn_pat_Take N x0 := by kernel_rfl
noncomputable def F15 (N : Nat) (a : Int × Unit) : Option ((Bool × Int × Int × Int)) := fn_pat_Take N a.1
theorem ok15 (N : Nat) : FnOK Tryz.prog 15 ad15 rd15 (F15 N) :=
  fn_ok (N := N) (live := live15) (code := c15) (tok T15.rt T15.kl (wrNil_ok)) mixed (gok15 N) Tryz.func15 (by kernel_rfl) (by kernel_rfl) (by kernel_rfl) fun a p h => by rw [← h]; exact run15 N a.1

/-! ### tiller/pat.Class: function 25 -/
noncomputable def c25 : Code := (Tryz.f25.body).getD .skip
noncomputable def T25 : Tb := ⟨tyOf tys, [], [], wrNil⟩
noncomputable def G25 {R : Type} (N : Nat) : FuncId → List AV → (AV → Option R) → Option R := gCons 15 (gOf ad15 rd15 (F15 N)) (gNil)
theorem gok25 {R : Type} (N : Nat) : GOK Tryz.prog (G25 (R := R) N) := gCons_ok (ok15 N) (gNil_ok)
noncomputable def live25 : List (Nat × List (Nat × HK)) := []
noncomputable def ad25 : Ad (Int × Unit) := aC (cInt .u64) (a0)
noncomputable def rd25 : Rd (Int) := r1 (cInt .i64)
noncomputable def fn_pat_Class (N : Nat) (x0 : Int) : Option (Int) :=
  (fn_pat_Take N x0).bind fun r1 =>
   some r1.2.1
theorem run25 (N : Nat) (x0 : Int) : Eng.run T25 (G25 N) N live25 c25 Tryz.f25.results.toList Tryz.f25.ntmps ((ad25).enc (x0, ())) (rd25).dec = fn_pat_Class N x0 := by kernel_rfl
noncomputable def F25 (N : Nat) (a : Int × Unit) : Option (Int) := fn_pat_Class N a.1
theorem ok25 (N : Nat) : FnOK Tryz.prog 25 ad25 rd25 (F25 N) :=
  fn_ok (N := N) (live := live25) (code := c25) (tok T25.rt T25.kl (wrNil_ok)) mixed (gok25 N) Tryz.func25 (by kernel_rfl) (by kernel_rfl) (by kernel_rfl) fun a p h => by rw [← h]; exact run25 N a.1

/-! ### tiller/sums.none: function 24 -/
noncomputable def c24 : Code := (Tryz.f24.body).getD .skip
noncomputable def T24 : Tb := ⟨tyOf tys, [], [], wrNil⟩
noncomputable def G24 {R : Type} (N : Nat) : FuncId → List AV → (AV → Option R) → Option R := gCons 25 (gOf ad25 rd25 (F25 N)) (gNil)
theorem gok24 {R : Type} (N : Nat) : GOK Tryz.prog (G24 (R := R) N) := gCons_ok (ok25 N) (gNil_ok)
noncomputable def live24 : List (Nat × List (Nat × HK)) := [(2, [(6, .keep), (7, .keep), (8, .keep)])]
noncomputable def ad24 : Ad (List Int × Unit) := aC (cLi .u64) (a0)
noncomputable def rd24 : Rd (Int × Int) := r2 (cInt .u64) (cInt .u8)
noncomputable def st24_0 (v0 : List Int) (v1 : Int) (v2 : Int) : St := ⟨[AV.none, AV.none, AV.none, AV.none, AV.none, AV.none, AV.li .u64 v0, AV.v (.int .i64 v1), AV.v (.int .i64 v2), AV.none, AV.none, AV.none, AV.none, AV.none, AV.none, AV.none], [none, none, none, none, none, none, none, none, none, none, none, none, none, none, none, none]⟩
noncomputable def raw24_0 (N : Nat) (n : Nat) (v0 : List Int) (v1 : Int) (v2 : Int) : Option (Int × Int) := loopN (lookN live24 2) (exec T24 (G24 N) N live24 (cL (cL (cR (cL (cR c24)))))) n (st24_0 v0 v1 v2) (blockK 0 (seqK (exec T24 (G24 N) N live24 (cR (cR c24))) (retK T24 Tryz.f24.results.toList (rd24).dec)))
noncomputable def s24_0 (N : Nat) (Ln0 : List Int → Int → Int → Option (Int × Int)) (v0 : List Int) (v1 : Int) (v2 : Int) : Option (Int × Int) :=
  cond (ltI v2 v1)
   (cond (leI 0 v2)
    (cond (ltI v2 (v0.length : Int))
     ((fn_pat_Class N (lrd v0 v2)).bind fun r1 =>
      cond (eqI r1 5)
       (some (9221120237041090560, 1))
       (Ln0 v0 v1 (addI .i64 v2 1)))
     (none))
    (none))
   (some (9221120237041090560, 0))
theorem step24_0 (N : Nat) (n : Nat) (v0 : List Int) (v1 : Int) (v2 : Int) : raw24_0 N  (n + 1) v0 v1 v2 = s24_0 N (raw24_0 N  n) v0 v1 v2 := by kernel_rfl
noncomputable def l24_0 (N : Nat) : Nat → List Int → Int → Int → Option (Int × Int)
  | 0 => fun _ _ _ => none
  | n + 1 => fun v0 v1 v2 => s24_0 N (l24_0 N  n) v0 v1 v2
theorem eq24_0 (N : Nat) : ∀ n, raw24_0 N  n = l24_0 N  n := by
  intro n
  induction n with
  | zero => exact funext fun v0 => funext fun v1 => funext fun v2 => rfl
  | succ n ih => exact funext fun v0 => funext fun v1 => funext fun v2 => by rw [step24_0, ih]; rfl
noncomputable def t24 (N : Nat) (Le0 : List Int → Int → Int → Option (Int × Int)) (x0 : List Int) : Option (Int × Int) :=
  Le0 x0 (x0.length : Int) 0
noncomputable def fn_sums_none (N : Nat) (x0 : List Int) : Option (Int × Int) := t24 N (l24_0 N N) x0
theorem run24 (N : Nat) (x0 : List Int) : Eng.run T24 (G24 N) N live24 c24 Tryz.f24.results.toList Tryz.f24.ntmps ((ad24).enc (x0, ())) (rd24).dec = fn_sums_none N x0 := by
  refine Eq.trans (show _ = t24 N (raw24_0 N N) x0 from by kernel_rfl) ?_
  unfold fn_sums_none
  rw [eq24_0 N N]
noncomputable def F24 (N : Nat) (a : List Int × Unit) : Option (Int × Int) := fn_sums_none N a.1
theorem ok24 (N : Nat) : FnOK Tryz.prog 24 ad24 rd24 (F24 N) :=
  fn_ok (N := N) (live := live24) (code := c24) (tok T24.rt T24.kl (wrNil_ok)) mixed (gok24 N) Tryz.func24 (by kernel_rfl) (by kernel_rfl) (by kernel_rfl) fun a p h => by rw [← h]; exact run24 N a.1

/-! ### tiller/pat.Finite: function 57 -/
noncomputable def c57 : Code := (Tryz.f57.body).getD .skip
noncomputable def T57 : Tb := ⟨tyOf tys, [], [], wrNil⟩
noncomputable def G57 {R : Type} (N : Nat) : FuncId → List AV → (AV → Option R) → Option R := gCons 56 (gOf ad56 rd56 (F56 N)) (gNil)
theorem gok57 {R : Type} (N : Nat) : GOK Tryz.prog (G57 (R := R) N) := gCons_ok (ok56 N) (gNil_ok)
noncomputable def live57 : List (Nat × List (Nat × HK)) := []
noncomputable def ad57 : Ad (Int × Unit) := aC (cInt .u64) (a0)
noncomputable def rd57 : Rd (Bool) := r1 (cBool)
noncomputable def fb_57 (N : Nat) (x0 : Int) : Option (Bool) :=
  (fn_pat_Abs N x0).bind fun r1 =>
   some (ltI r1 9218868437227405312)
theorem run57 (N : Nat) (x0 : Int) : Eng.run T57 (G57 N) N live57 c57 Tryz.f57.results.toList Tryz.f57.ntmps ((ad57).enc (x0, ())) (rd57).dec = fb_57 N x0 := by kernel_rfl
noncomputable def fn_pat_Finite (N : Nat) (x0 : Int) : Option (Bool) := guardN N (fb_57 N x0)
noncomputable def F57 (N : Nat) (a : Int × Unit) : Option (Bool) := fn_pat_Finite N a.1
theorem ok57 (N : Nat) : FnOK Tryz.prog 57 ad57 rd57 (F57 N) :=
  fn_ok (N := N) (live := live57) (code := c57) (tok T57.rt T57.kl (wrNil_ok)) mixed (gok57 N) Tryz.func57 (by kernel_rfl) (by kernel_rfl) (by kernel_rfl) fun a p h => by rw [← guard_some h]; exact run57 N a.1

/-! ### tiller/wide.Of: function 58 -/
noncomputable def c58 : Code := (Tryz.f58.body).getD .skip
noncomputable def T58 : Tb := ⟨tyOf tys, [], [], wrNil⟩
noncomputable def G58 {R : Type} (N : Nat) : FuncId → List AV → (AV → Option R) → Option R := gNil
theorem gok58 {R : Type} (N : Nat) : GOK Tryz.prog (G58 (R := R) N) := gNil_ok
noncomputable def live58 : List (Nat × List (Nat × HK)) := []
noncomputable def ad58 : Ad (Int × Unit) := aC (cInt .u64) (a0)
noncomputable def rd58 : Rd (Vec 4) := r1 (cVec .u64 4)
noncomputable def fn_wide_Of (N : Nat) (x0 : Int) : Option (Vec 4) :=
  some (Vec.st (Vec.zero 4) 0 x0)
theorem run58 (N : Nat) (x0 : Int) : Eng.run T58 (G58 N) N live58 c58 Tryz.f58.results.toList Tryz.f58.ntmps ((ad58).enc (x0, ())) (rd58).dec = fn_wide_Of N x0 := by kernel_rfl
noncomputable def F58 (N : Nat) (a : Int × Unit) : Option (Vec 4) := fn_wide_Of N a.1
theorem ok58 (N : Nat) : FnOK Tryz.prog 58 ad58 rd58 (F58 N) :=
  fn_ok (N := N) (live := live58) (code := c58) (tok T58.rt T58.kl (wrNil_ok)) mixed (gok58 N) Tryz.func58 (by kernel_rfl) (by kernel_rfl) (by kernel_rfl) fun a p h => by rw [← h]; exact run58 N a.1

/-! ### tiller/rnd.Of: function 26 -/
noncomputable def c26 : Code := (Tryz.f26.body).getD .skip
noncomputable def T26 : Tb := ⟨tyOf tys, [(12, 4), (14, 4), (16, 4)], [], wrNil⟩
noncomputable def G26 {R : Type} (N : Nat) : FuncId → List AV → (AV → Option R) → Option R := gCons 15 (gOf ad15 rd15 (F15 N)) (gCons 57 (gOf ad57 rd57 (F57 N)) (gCons 58 (gOf ad58 rd58 (F58 N)) (gNil)))
theorem gok26 {R : Type} (N : Nat) : GOK Tryz.prog (G26 (R := R) N) := gCons_ok (ok15 N) (gCons_ok (ok57 N) (gCons_ok (ok58 N) (gNil_ok)))
noncomputable def live26 : List (Nat × List (Nat × HK)) := []
noncomputable def ad26 : Ad (Int × Unit) := aC (cInt .u64) (a0)
noncomputable def rd26 : Rd ((Bool × Int × Vec 4 × Bool) × Option Int) := r2 (cSta (sC (pBool) (sC (pInt .i64) (sC (pVec .u64 4) (sO (pBool)))))) (cErr 34)
noncomputable def fn_rnd_Of (N : Nat) (x0 : Int) : Option ((Bool × Int × Vec 4 × Bool) × Option Int) :=
  (fn_pat_Take N x0).bind fun r1 =>
   (fn_pat_Finite N x0).bind fun r2 =>
    cond (!(r2))
     (some ((false, 0, Vec.zero 4, false), some 1))
     ((fn_wide_Of N r1.2.2.2).bind fun r3 =>
      some ((r1.1, r1.2.2.1, r3, false), none))
theorem run26 (N : Nat) (x0 : Int) : Eng.run T26 (G26 N) N live26 c26 Tryz.f26.results.toList Tryz.f26.ntmps ((ad26).enc (x0, ())) (rd26).dec = fn_rnd_Of N x0 := by kernel_rfl
noncomputable def F26 (N : Nat) (a : Int × Unit) : Option ((Bool × Int × Vec 4 × Bool) × Option Int) := fn_rnd_Of N a.1
theorem ok26 (N : Nat) : FnOK Tryz.prog 26 ad26 rd26 (F26 N) :=
  fn_ok (N := N) (live := live26) (code := c26) (tok T26.rt T26.kl (wrNil_ok)) mixed (gok26 N) Tryz.func26 (by kernel_rfl) (by kernel_rfl) (by kernel_rfl) fun a p h => by rw [← h]; exact run26 N a.1

/-! ### tiller/sums.nought: function 68 -/
noncomputable def c68 : Code := (Tryz.f68.body).getD .skip
noncomputable def T68 : Tb := ⟨tyOf tys, [], [], wrNil⟩
noncomputable def G68 {R : Type} (N : Nat) : FuncId → List AV → (AV → Option R) → Option R := gNil
theorem gok68 {R : Type} (N : Nat) : GOK Tryz.prog (G68 (R := R) N) := gNil_ok
noncomputable def live68 : List (Nat × List (Nat × HK)) := []
noncomputable def ad68 : Ad (Bool × Bool × Int × Unit) := aC (cBool) (aC (cBool) (aC (cInt .i64) (a0)))
noncomputable def rd68 : Rd ((Bool × Int × Vec 4 × Bool)) := r1 (cSta (sC (pBool) (sC (pInt .i64) (sC (pVec .u64 4) (sO (pBool))))))
noncomputable def fn_sums_nought (N : Nat) (x0 : Bool) (x1 : Bool) (x2 : Int) : Option ((Bool × Int × Vec 4 × Bool)) :=
  cond (eqB x0 x1)
   (some (x0, 0, Vec.zero 4, false))
   (some (eqI x2 4, 0, Vec.zero 4, false))
theorem run68 (N : Nat) (x0 : Bool) (x1 : Bool) (x2 : Int) : Eng.run T68 (G68 N) N live68 c68 Tryz.f68.results.toList Tryz.f68.ntmps ((ad68).enc (x0, x1, x2, ())) (rd68).dec = fn_sums_nought N x0 x1 x2 := by kernel_rfl
noncomputable def F68 (N : Nat) (a : Bool × Bool × Int × Unit) : Option ((Bool × Int × Vec 4 × Bool)) := fn_sums_nought N a.1 a.2.1 a.2.2.1
theorem ok68 (N : Nat) : FnOK Tryz.prog 68 ad68 rd68 (F68 N) :=
  fn_ok (N := N) (live := live68) (code := c68) (tok T68.rt T68.kl (wrNil_ok)) mixed (gok68 N) Tryz.func68 (by kernel_rfl) (by kernel_rfl) (by kernel_rfl) fun a p h => by rw [← h]; exact run68 N a.1 a.2.1 a.2.2.1

/-! ### math/bits.Len64: function 95 -/
noncomputable def c95 : Code := (Tryz.f95.body).getD .skip
noncomputable def T95 : Tb := ⟨tyOf tys, [], [], wrNil⟩
noncomputable def G95 {R : Type} (N : Nat) : FuncId → List AV → (AV → Option R) → Option R := gNil
theorem gok95 {R : Type} (N : Nat) : GOK Tryz.prog (G95 (R := R) N) := gNil_ok
noncomputable def live95 : List (Nat × List (Nat × HK)) := []
noncomputable def ad95 : Ad (Int × Unit) := aC (cInt .u64) (a0)
noncomputable def rd95 : Rd (Int) := r1 (cInt .i64)
noncomputable def fn_bits_Len64 (N : Nat) (x0 : Int) : Option (Int) :=
  cond (leI 4294967296 x0)
   (cond (leI 65536 (shrI .u64 x0 32))
    (cond (leI 256 (shrI .u64 (shrI .u64 x0 32) 16))
     (cond (leI 0 (cvI .u8 (shrI .u64 (shrI .u64 (shrI .u64 x0 32) 16) 8)))
      (cond (ltI (cvI .u8 (shrI .u64 (shrI .u64 (shrI .u64 x0 32) 16) 8)) (str0.size : Int))
       (some (addI .i64 (addI .i64 (addI .i64 32 16) 8) (cvI .i64 (sAt str0 (cvI .u8 (shrI .u64 (shrI .u64 (shrI .u64 x0 32) 16) 8))))))
       (none))
      (none))
     (cond (leI 0 (cvI .u8 (shrI .u64 (shrI .u64 x0 32) 16)))
      (cond (ltI (cvI .u8 (shrI .u64 (shrI .u64 x0 32) 16)) (str0.size : Int))
       (some (addI .i64 (addI .i64 32 16) (cvI .i64 (sAt str0 (cvI .u8 (shrI .u64 (shrI .u64 x0 32) 16))))))
       (none))
      (none)))
    (cond (leI 256 (shrI .u64 x0 32))
     (cond (leI 0 (cvI .u8 (shrI .u64 (shrI .u64 x0 32) 8)))
      (cond (ltI (cvI .u8 (shrI .u64 (shrI .u64 x0 32) 8)) (str0.size : Int))
       (some (addI .i64 (addI .i64 32 8) (cvI .i64 (sAt str0 (cvI .u8 (shrI .u64 (shrI .u64 x0 32) 8))))))
       (none))
      (none))
     (cond (leI 0 (cvI .u8 (shrI .u64 x0 32)))
      (cond (ltI (cvI .u8 (shrI .u64 x0 32)) (str0.size : Int))
       (some (addI .i64 32 (cvI .i64 (sAt str0 (cvI .u8 (shrI .u64 x0 32))))))
       (none))
      (none))))
   (cond (leI 65536 x0)
    (cond (leI 256 (shrI .u64 x0 16))
     (cond (leI 0 (cvI .u8 (shrI .u64 (shrI .u64 x0 16) 8)))
      (cond (ltI (cvI .u8 (shrI .u64 (shrI .u64 x0 16) 8)) (str0.size : Int))
       (some (addI .i64 (addI .i64 (addI .i64 0 16) 8) (cvI .i64 (sAt str0 (cvI .u8 (shrI .u64 (shrI .u64 x0 16) 8))))))
       (none))
      (none))
     (cond (leI 0 (cvI .u8 (shrI .u64 x0 16)))
      (cond (ltI (cvI .u8 (shrI .u64 x0 16)) (str0.size : Int))
       (some (addI .i64 (addI .i64 0 16) (cvI .i64 (sAt str0 (cvI .u8 (shrI .u64 x0 16))))))
       (none))
      (none)))
    (cond (leI 256 x0)
     (cond (leI 0 (cvI .u8 (shrI .u64 x0 8)))
      (cond (ltI (cvI .u8 (shrI .u64 x0 8)) (str0.size : Int))
       (some (addI .i64 (addI .i64 0 8) (cvI .i64 (sAt str0 (cvI .u8 (shrI .u64 x0 8))))))
       (none))
      (none))
     (cond (leI 0 (cvI .u8 x0))
      (cond (ltI (cvI .u8 x0) (str0.size : Int))
       (some (addI .i64 0 (cvI .i64 (sAt str0 (cvI .u8 x0)))))
       (none))
      (none))))
theorem run95 (N : Nat) (x0 : Int) : Eng.run T95 (G95 N) N live95 c95 Tryz.f95.results.toList Tryz.f95.ntmps ((ad95).enc (x0, ())) (rd95).dec = fn_bits_Len64 N x0 := by kernel_rfl
noncomputable def F95 (N : Nat) (a : Int × Unit) : Option (Int) := fn_bits_Len64 N a.1
theorem ok95 (N : Nat) : FnOK Tryz.prog 95 ad95 rd95 (F95 N) :=
  fn_ok (N := N) (live := live95) (code := c95) (tok T95.rt T95.kl (wrNil_ok)) mixed (gok95 N) Tryz.func95 (by kernel_rfl) (by kernel_rfl) (by kernel_rfl) fun a p h => by rw [← h]; exact run95 N a.1

/-! ### tiller/wide.Len: function 63 -/
noncomputable def c63 : Code := (Tryz.f63.body).getD .skip
noncomputable def T63 : Tb := ⟨tyOf tys, [(9, 1), (15, 1)], [], wrNil⟩
noncomputable def G63 {R : Type} (N : Nat) : FuncId → List AV → (AV → Option R) → Option R := gCons 95 (gOf ad95 rd95 (F95 N)) (gNil)
theorem gok63 {R : Type} (N : Nat) : GOK Tryz.prog (G63 (R := R) N) := gCons_ok (ok95 N) (gNil_ok)
noncomputable def live63 : List (Nat × List (Nat × HK)) := [(2, [(1, .keep), (3, .keep)])]
noncomputable def ad63 : Ad (Vec 4 × Unit) := aC (cVec .u64 4) (a0)
noncomputable def rd63 : Rd (Int) := r1 (cInt .i64)
noncomputable def st63_0 (v0 : Int) (v1 : Vec 4) : St := ⟨[AV.none, AV.ptr 1 0, AV.none, AV.v (.int .i64 v0), AV.none, AV.none, AV.none, AV.none, AV.none, AV.none, AV.none, AV.none, AV.none, AV.none, AV.none, AV.none, AV.none, AV.none, AV.none], [none, some (OB.arr .u64 4 v1), none, none, none, none, none, none, none, none, none, none, none, none, none, none, none, none, none]⟩
noncomputable def raw63_0 (N : Nat) (n : Nat) (v0 : Int) (v1 : Vec 4) : Option (Int) := loopN (lookN live63 2) (exec T63 (G63 N) N live63 (cL (cL (cR (cL (cR c63)))))) n (st63_0 v0 v1) (blockK 0 (seqK (exec T63 (G63 N) N live63 (cR (cR c63))) (retK T63 Tryz.f63.results.toList (rd63).dec)))
noncomputable def s63_0 (N : Nat) (Ln0 : Int → Vec 4 → Option (Int)) (v0 : Int) (v1 : Vec 4) : Option (Int) :=
  cond (leI 0 v0)
   (cond (leI 0 v0)
    (cond (ltI v0 4)
     (cond (!(eqI (Vec.rd v1 v0) 0))
      (cond (leI 0 v0)
       (cond (ltI v0 4)
        ((fn_bits_Len64 N (Vec.rd v1 v0)).bind fun r1 =>
         some (addI .i64 (mulI .i64 64 v0) r1))
        (none))
       (none))
      (Ln0 (subI .i64 v0 1) v1))
     (none))
    (none))
   (some 0)
theorem step63_0 (N : Nat) (n : Nat) (v0 : Int) (v1 : Vec 4) : raw63_0 N  (n + 1) v0 v1 = s63_0 N (raw63_0 N  n) v0 v1 := by kernel_rfl
noncomputable def l63_0 (N : Nat) : Nat → Int → Vec 4 → Option (Int)
  | 0 => fun _ _ => none
  | n + 1 => fun v0 v1 => s63_0 N (l63_0 N  n) v0 v1
theorem eq63_0 (N : Nat) : ∀ n, raw63_0 N  n = l63_0 N  n := by
  intro n
  induction n with
  | zero => exact funext fun v0 => funext fun v1 => rfl
  | succ n ih => exact funext fun v0 => funext fun v1 => by rw [step63_0, ih]; rfl
noncomputable def t63 (N : Nat) (Le0 : Int → Vec 4 → Option (Int)) (x0 : Vec 4) : Option (Int) :=
  Le0 3 x0
noncomputable def fn_wide_Len (N : Nat) (x0 : Vec 4) : Option (Int) := t63 N (l63_0 N N) x0
theorem run63 (N : Nat) (x0 : Vec 4) : Eng.run T63 (G63 N) N live63 c63 Tryz.f63.results.toList Tryz.f63.ntmps ((ad63).enc (x0, ())) (rd63).dec = fn_wide_Len N x0 := by
  refine Eq.trans (show _ = t63 N (raw63_0 N N) x0 from by kernel_rfl) ?_
  unfold fn_wide_Len
  rw [eq63_0 N N]
noncomputable def F63 (N : Nat) (a : Vec 4 × Unit) : Option (Int) := fn_wide_Len N a.1
theorem ok63 (N : Nat) : FnOK Tryz.prog 63 ad63 rd63 (F63 N) :=
  fn_ok (N := N) (live := live63) (code := c63) (tok T63.rt T63.kl (wrNil_ok)) mixed (gok63 N) Tryz.func63 (by kernel_rfl) (by kernel_rfl) (by kernel_rfl) fun a p h => by rw [← h]; exact run63 N a.1

/-! ### tiller/wide.Shl: function 78 -/
noncomputable def c78 : Code := (Tryz.f78.body).getD .skip
noncomputable def T78 : Tb := ⟨tyOf tys, [(25, 2), (30, 5), (35, 5), (41, 2), (48, 5)], [], wrNil⟩
noncomputable def G78 {R : Type} (N : Nat) : FuncId → List AV → (AV → Option R) → Option R := gNil
theorem gok78 {R : Type} (N : Nat) : GOK Tryz.prog (G78 (R := R) N) := gNil_ok
noncomputable def live78 : List (Nat × List (Nat × HK)) := [(8, [(1, .keep), (2, .keep), (4, .keep), (5, .keep), (6, .keep), (7, .keep)])]
noncomputable def ad78 : Ad (Vec 4 × Int × Unit) := aC (cVec .u64 4) (aC (cInt .i64) (a0))
noncomputable def rd78 : Rd (Vec 4) := r1 (cVec .u64 4)
noncomputable def st78_0 (v0 : Int) (v1 : Int) (v2 : Int) (v3 : Vec 4) (v4 : Vec 4) (v5 : Vec 4) : St := ⟨[AV.none, AV.v (.int .i64 v0), AV.ptr 2 0, AV.none, AV.ptr 4 0, AV.ptr 5 0, AV.v (.int .i64 v1), AV.v (.int .i64 v2), AV.none, AV.none, AV.none, AV.none, AV.none, AV.none, AV.none, AV.none, AV.none, AV.none, AV.none, AV.none, AV.none, AV.none, AV.none, AV.none, AV.none, AV.none, AV.none, AV.none, AV.none, AV.none, AV.none, AV.none, AV.none, AV.none, AV.none, AV.none, AV.none, AV.none, AV.none, AV.none, AV.none, AV.none, AV.none, AV.none, AV.none, AV.none, AV.none, AV.none, AV.none, AV.none], [none, none, some (OB.arr .u64 4 v3), none, some (OB.arr .u64 4 v4), some (OB.arr .u64 4 v5), none, none, none, none, none, none, none, none, none, none, none, none, none, none, none, none, none, none, none, none, none, none, none, none, none, none, none, none, none, none, none, none, none, none, none, none, none, none, none, none, none, none, none, none]⟩
noncomputable def raw78_0 (N : Nat) (n : Nat) (v0 : Int) (v1 : Int) (v2 : Int) (v3 : Vec 4) (v4 : Vec 4) (v5 : Vec 4) : Option (Vec 4) := loopN (lookN live78 8) (exec T78 (G78 N) N live78 (cL (cL (cR (cL (cR (cR (cR (cR (cR c78)))))))))) n (st78_0 v0 v1 v2 v3 v4 v5) (blockK 0 (seqK (exec T78 (G78 N) N live78 (cR (cR (cR (cR (cR (cR c78))))))) (retK T78 Tryz.f78.results.toList (rd78).dec)))
noncomputable def s78_0 (N : Nat) (Ln0 : Int → Int → Int → Vec 4 → Vec 4 → Vec 4 → Option (Vec 4)) (v0 : Int) (v1 : Int) (v2 : Int) (v3 : Vec 4) (v4 : Vec 4) (v5 : Vec 4) : Option (Vec 4) :=
  cond (leI v1 v2)
   (cond (leI 0 (subI .i64 v2 v1))
    (cond (ltI (subI .i64 v2 v1) 4)
     (cond (ltI (remI .i64 v0 64) 0)
      (none)
      (cond (leI 0 v2)
       (cond (ltI v2 4)
        (cond (ltI v1 v2)
         (cond (leI 0 v2)
          (cond (ltI v2 4)
           (cond (leI 0 (subI .i64 (subI .i64 v2 v1) 1))
            (cond (ltI (subI .i64 (subI .i64 v2 v1) 1) 4)
             (cond (ltI (subI .i64 64 (remI .i64 v0 64)) 0)
              (none)
              (cond (leI 0 v2)
               (cond (ltI v2 4)
                (Ln0 v0 v1 (subI .i64 v2 1) v3 v4 (Vec.st (Vec.st v5 v2 (shlI .u64 (Vec.rd v3 (subI .i64 v2 v1)) (remI .i64 v0 64))) v2 (orI .u64 (Vec.rd (Vec.st v5 v2 (shlI .u64 (Vec.rd v3 (subI .i64 v2 v1)) (remI .i64 v0 64))) v2) (shrI .u64 (Vec.rd v3 (subI .i64 (subI .i64 v2 v1) 1)) (subI .i64 64 (remI .i64 v0 64))))))
                (none))
               (none)))
             (none))
            (none))
           (none))
          (none))
         (Ln0 v0 v1 (subI .i64 v2 1) v3 v4 (Vec.st v5 v2 (shlI .u64 (Vec.rd v3 (subI .i64 v2 v1)) (remI .i64 v0 64)))))
        (none))
       (none)))
     (none))
    (none))
   (some v5)
theorem step78_0 (N : Nat) (n : Nat) (v0 : Int) (v1 : Int) (v2 : Int) (v3 : Vec 4) (v4 : Vec 4) (v5 : Vec 4) : raw78_0 N  (n + 1) v0 v1 v2 v3 v4 v5 = s78_0 N (raw78_0 N  n) v0 v1 v2 v3 v4 v5 := by kernel_rfl
noncomputable def l78_0 (N : Nat) : Nat → Int → Int → Int → Vec 4 → Vec 4 → Vec 4 → Option (Vec 4)
  | 0 => fun _ _ _ _ _ _ => none
  | n + 1 => fun v0 v1 v2 v3 v4 v5 => s78_0 N (l78_0 N  n) v0 v1 v2 v3 v4 v5
theorem eq78_0 (N : Nat) : ∀ n, raw78_0 N  n = l78_0 N  n := by
  intro n
  induction n with
  | zero => exact funext fun v0 => funext fun v1 => funext fun v2 => funext fun v3 => funext fun v4 => funext fun v5 => rfl
  | succ n ih => exact funext fun v0 => funext fun v1 => funext fun v2 => funext fun v3 => funext fun v4 => funext fun v5 => by rw [step78_0, ih]; rfl
noncomputable def t78 (N : Nat) (Le0 : Int → Int → Int → Vec 4 → Vec 4 → Vec 4 → Option (Vec 4)) (x0 : Vec 4) (x1 : Int) : Option (Vec 4) :=
  cond (ltI x1 1)
   (some x0)
   (cond (leI 256 x1)
    (some (Vec.zero 4))
    (Le0 x1 (quoI .i64 x1 64) 3 x0 (Vec.zero 4) (Vec.zero 4)))
noncomputable def fn_wide_Shl (N : Nat) (x0 : Vec 4) (x1 : Int) : Option (Vec 4) := t78 N (l78_0 N N) x0 x1
theorem run78 (N : Nat) (x0 : Vec 4) (x1 : Int) : Eng.run T78 (G78 N) N live78 c78 Tryz.f78.results.toList Tryz.f78.ntmps ((ad78).enc (x0, x1, ())) (rd78).dec = fn_wide_Shl N x0 x1 := by
  refine Eq.trans (show _ = t78 N (raw78_0 N N) x0 x1 from by kernel_rfl) ?_
  unfold fn_wide_Shl
  rw [eq78_0 N N]
noncomputable def F78 (N : Nat) (a : Vec 4 × Int × Unit) : Option (Vec 4) := fn_wide_Shl N a.1 a.2.1
theorem ok78 (N : Nat) : FnOK Tryz.prog 78 ad78 rd78 (F78 N) :=
  fn_ok (N := N) (live := live78) (code := c78) (tok T78.rt T78.kl (wrNil_ok)) mixed (gok78 N) Tryz.func78 (by kernel_rfl) (by kernel_rfl) (by kernel_rfl) fun a p h => by rw [← h]; exact run78 N a.1 a.2.1

/-! ### tiller/wide.Add: function 94 -/
noncomputable def c94 : Code := (Tryz.f94.body).getD .skip
noncomputable def T94 : Tb := ⟨tyOf tys, [(14, 2), (17, 3), (23, 2)], [], wrNil⟩
noncomputable def G94 {R : Type} (N : Nat) : FuncId → List AV → (AV → Option R) → Option R := gCons 121 (gOf (aI3 .u64) (r2 (cInt .u64) (cInt .u64)) (fun a => add64 a.1 a.2.1 a.2.2.1)) (gNil)
theorem gok94 {R : Type} (N : Nat) : GOK Tryz.prog (G94 (R := R) N) := gCons_ok (add64_ok Tryz.func121 (by kernel_rfl) (by kernel_rfl) (by kernel_rfl) (by kernel_rfl)) (gNil_ok)
noncomputable def live94 : List (Nat × List (Nat × HK)) := [(3, [(2, .keep), (3, .keep), (4, .keep), (6, .keep), (8, .keep)])]
noncomputable def ad94 : Ad (Vec 4 × Vec 4 × Unit) := aC (cVec .u64 4) (aC (cVec .u64 4) (a0))
noncomputable def rd94 : Rd (Vec 4 × Bool) := r2 (cVec .u64 4) (cBool)
noncomputable def st94_0 (v0 : Int) (v1 : Int) (v2 : Vec 4) (v3 : Vec 4) (v4 : Vec 4) : St := ⟨[AV.none, AV.none, AV.ptr 2 0, AV.ptr 3 0, AV.ptr 4 0, AV.none, AV.v (.int .u64 v0), AV.none, AV.v (.int .i64 v1), AV.none, AV.none, AV.none, AV.none, AV.none, AV.none, AV.none, AV.none, AV.none, AV.none, AV.none, AV.none, AV.none, AV.none, AV.none, AV.none, AV.none, AV.none, AV.none], [none, none, some (OB.arr .u64 4 v2), some (OB.arr .u64 4 v3), some (OB.arr .u64 4 v4), none, none, none, none, none, none, none, none, none, none, none, none, none, none, none, none, none, none, none, none, none, none, none]⟩
noncomputable def raw94_0 (N : Nat) (n : Nat) (v0 : Int) (v1 : Int) (v2 : Vec 4) (v3 : Vec 4) (v4 : Vec 4) : Option (Vec 4 × Bool) := loopN (lookN live94 3) (exec T94 (G94 N) N live94 (cL (cL (cR (cL (cR (cR c94))))))) n (st94_0 v0 v1 v2 v3 v4) (blockK 0 (seqK (exec T94 (G94 N) N live94 (cR (cR (cR c94)))) (retK T94 Tryz.f94.results.toList (rd94).dec)))
noncomputable def s94_0 (N : Nat) (Ln0 : Int → Int → Vec 4 → Vec 4 → Vec 4 → Option (Vec 4 × Bool)) (v0 : Int) (v1 : Int) (v2 : Vec 4) (v3 : Vec 4) (v4 : Vec 4) : Option (Vec 4 × Bool) :=
  cond (ltI v1 4)
   (cond (leI 0 v1)
    (cond (ltI v1 4)
     (cond (leI 0 v1)
      (cond (ltI v1 4)
       ((add64 (Vec.rd v2 v1) (Vec.rd v3 v1) v0).bind fun r1 =>
        cond (leI 0 v1)
         (cond (ltI v1 4)
          (Ln0 r1.2 (addI .i64 v1 1) (Vec.st v2 v1 r1.1) v3 v4)
          (none))
         (none))
       (none))
      (none))
     (none))
    (none))
   (some (v2, !(eqI v0 0)))
theorem step94_0 (N : Nat) (n : Nat) (v0 : Int) (v1 : Int) (v2 : Vec 4) (v3 : Vec 4) (v4 : Vec 4) : raw94_0 N  (n + 1) v0 v1 v2 v3 v4 = s94_0 N (raw94_0 N  n) v0 v1 v2 v3 v4 := by kernel_rfl
noncomputable def l94_0 (N : Nat) : Nat → Int → Int → Vec 4 → Vec 4 → Vec 4 → Option (Vec 4 × Bool)
  | 0 => fun _ _ _ _ _ => none
  | n + 1 => fun v0 v1 v2 v3 v4 => s94_0 N (l94_0 N  n) v0 v1 v2 v3 v4
theorem eq94_0 (N : Nat) : ∀ n, raw94_0 N  n = l94_0 N  n := by
  intro n
  induction n with
  | zero => exact funext fun v0 => funext fun v1 => funext fun v2 => funext fun v3 => funext fun v4 => rfl
  | succ n ih => exact funext fun v0 => funext fun v1 => funext fun v2 => funext fun v3 => funext fun v4 => by rw [step94_0, ih]; rfl
noncomputable def t94 (N : Nat) (Le0 : Int → Int → Vec 4 → Vec 4 → Vec 4 → Option (Vec 4 × Bool)) (x0 : Vec 4) (x1 : Vec 4) : Option (Vec 4 × Bool) :=
  Le0 0 0 x0 x1 (Vec.zero 4)
noncomputable def fn_wide_Add (N : Nat) (x0 : Vec 4) (x1 : Vec 4) : Option (Vec 4 × Bool) := t94 N (l94_0 N N) x0 x1
theorem run94 (N : Nat) (x0 : Vec 4) (x1 : Vec 4) : Eng.run T94 (G94 N) N live94 c94 Tryz.f94.results.toList Tryz.f94.ntmps ((ad94).enc (x0, x1, ())) (rd94).dec = fn_wide_Add N x0 x1 := by
  refine Eq.trans (show _ = t94 N (raw94_0 N N) x0 x1 from by kernel_rfl) ?_
  unfold fn_wide_Add
  rw [eq94_0 N N]
noncomputable def F94 (N : Nat) (a : Vec 4 × Vec 4 × Unit) : Option (Vec 4 × Bool) := fn_wide_Add N a.1 a.2.1
theorem ok94 (N : Nat) : FnOK Tryz.prog 94 ad94 rd94 (F94 N) :=
  fn_ok (N := N) (live := live94) (code := c94) (tok T94.rt T94.kl (wrNil_ok)) mixed (gok94 N) Tryz.func94 (by kernel_rfl) (by kernel_rfl) (by kernel_rfl) fun a p h => by rw [← h]; exact run94 N a.1 a.2.1

/-! ### tiller/wide.Cmp: function 98 -/
noncomputable def c98 : Code := (Tryz.f98.body).getD .skip
noncomputable def T98 : Tb := ⟨tyOf tys, [(12, 2), (15, 3), (20, 2), (23, 3)], [], wrNil⟩
noncomputable def G98 {R : Type} (N : Nat) : FuncId → List AV → (AV → Option R) → Option R := gNil
theorem gok98 {R : Type} (N : Nat) : GOK Tryz.prog (G98 (R := R) N) := gNil_ok
noncomputable def live98 : List (Nat × List (Nat × HK)) := [(2, [(2, .keep), (3, .keep), (5, .keep)])]
noncomputable def ad98 : Ad (Vec 4 × Vec 4 × Unit) := aC (cVec .u64 4) (aC (cVec .u64 4) (a0))
noncomputable def rd98 : Rd (Int) := r1 (cInt .i64)
noncomputable def st98_0 (v0 : Int) (v1 : Vec 4) (v2 : Vec 4) : St := ⟨[AV.none, AV.none, AV.ptr 2 0, AV.ptr 3 0, AV.none, AV.v (.int .i64 v0), AV.none, AV.none, AV.none, AV.none, AV.none, AV.none, AV.none, AV.none, AV.none, AV.none, AV.none, AV.none, AV.none, AV.none, AV.none, AV.none, AV.none, AV.none, AV.none, AV.none], [none, none, some (OB.arr .u64 4 v1), some (OB.arr .u64 4 v2), none, none, none, none, none, none, none, none, none, none, none, none, none, none, none, none, none, none, none, none, none, none]⟩
noncomputable def raw98_0 (N : Nat) (n : Nat) (v0 : Int) (v1 : Vec 4) (v2 : Vec 4) : Option (Int) := loopN (lookN live98 2) (exec T98 (G98 N) N live98 (cL (cL (cR (cL (cR c98)))))) n (st98_0 v0 v1 v2) (blockK 0 (seqK (exec T98 (G98 N) N live98 (cR (cR c98))) (retK T98 Tryz.f98.results.toList (rd98).dec)))
noncomputable def s98_0 (N : Nat) (Ln0 : Int → Vec 4 → Vec 4 → Option (Int)) (v0 : Int) (v1 : Vec 4) (v2 : Vec 4) : Option (Int) :=
  cond (leI 0 v0)
   (cond (leI 0 v0)
    (cond (ltI v0 4)
     (cond (leI 0 v0)
      (cond (ltI v0 4)
       (cond (ltI (Vec.rd v1 v0) (Vec.rd v2 v0))
        (some (-1))
        (cond (leI 0 v0)
         (cond (ltI v0 4)
          (cond (leI 0 v0)
           (cond (ltI v0 4)
            (cond (ltI (Vec.rd v2 v0) (Vec.rd v1 v0))
             (some 1)
             (Ln0 (subI .i64 v0 1) v1 v2))
            (none))
           (none))
          (none))
         (none)))
       (none))
      (none))
     (none))
    (none))
   (some 0)
theorem step98_0 (N : Nat) (n : Nat) (v0 : Int) (v1 : Vec 4) (v2 : Vec 4) : raw98_0 N  (n + 1) v0 v1 v2 = s98_0 N (raw98_0 N  n) v0 v1 v2 := by kernel_rfl
noncomputable def l98_0 (N : Nat) : Nat → Int → Vec 4 → Vec 4 → Option (Int)
  | 0 => fun _ _ _ => none
  | n + 1 => fun v0 v1 v2 => s98_0 N (l98_0 N  n) v0 v1 v2
theorem eq98_0 (N : Nat) : ∀ n, raw98_0 N  n = l98_0 N  n := by
  intro n
  induction n with
  | zero => exact funext fun v0 => funext fun v1 => funext fun v2 => rfl
  | succ n ih => exact funext fun v0 => funext fun v1 => funext fun v2 => by rw [step98_0, ih]; rfl
noncomputable def t98 (N : Nat) (Le0 : Int → Vec 4 → Vec 4 → Option (Int)) (x0 : Vec 4) (x1 : Vec 4) : Option (Int) :=
  Le0 3 x0 x1
noncomputable def fn_wide_Cmp (N : Nat) (x0 : Vec 4) (x1 : Vec 4) : Option (Int) := t98 N (l98_0 N N) x0 x1
theorem run98 (N : Nat) (x0 : Vec 4) (x1 : Vec 4) : Eng.run T98 (G98 N) N live98 c98 Tryz.f98.results.toList Tryz.f98.ntmps ((ad98).enc (x0, x1, ())) (rd98).dec = fn_wide_Cmp N x0 x1 := by
  refine Eq.trans (show _ = t98 N (raw98_0 N N) x0 x1 from by kernel_rfl) ?_
  unfold fn_wide_Cmp
  rw [eq98_0 N N]
noncomputable def F98 (N : Nat) (a : Vec 4 × Vec 4 × Unit) : Option (Int) := fn_wide_Cmp N a.1 a.2.1
theorem ok98 (N : Nat) : FnOK Tryz.prog 98 ad98 rd98 (F98 N) :=
  fn_ok (N := N) (live := live98) (code := c98) (tok T98.rt T98.kl (wrNil_ok)) mixed (gok98 N) Tryz.func98 (by kernel_rfl) (by kernel_rfl) (by kernel_rfl) fun a p h => by rw [← h]; exact run98 N a.1 a.2.1

/-! ### tiller/wide.Sub: function 99 -/
noncomputable def c99 : Code := (Tryz.f99.body).getD .skip
noncomputable def T99 : Tb := ⟨tyOf tys, [(14, 2), (17, 3), (23, 2)], [], wrNil⟩
noncomputable def G99 {R : Type} (N : Nat) : FuncId → List AV → (AV → Option R) → Option R := gCons 123 (gOf (aI3 .u64) (r2 (cInt .u64) (cInt .u64)) (fun a => sub64 a.1 a.2.1 a.2.2.1)) (gNil)
theorem gok99 {R : Type} (N : Nat) : GOK Tryz.prog (G99 (R := R) N) := gCons_ok (sub64_ok Tryz.func123 (by kernel_rfl) (by kernel_rfl) (by kernel_rfl) (by kernel_rfl)) (gNil_ok)
noncomputable def live99 : List (Nat × List (Nat × HK)) := [(3, [(2, .keep), (3, .keep), (4, .keep), (6, .keep), (8, .keep)])]
noncomputable def ad99 : Ad (Vec 4 × Vec 4 × Unit) := aC (cVec .u64 4) (aC (cVec .u64 4) (a0))
noncomputable def rd99 : Rd (Vec 4 × Bool) := r2 (cVec .u64 4) (cBool)
noncomputable def st99_0 (v0 : Int) (v1 : Int) (v2 : Vec 4) (v3 : Vec 4) (v4 : Vec 4) : St := ⟨[AV.none, AV.none, AV.ptr 2 0, AV.ptr 3 0, AV.ptr 4 0, AV.none, AV.v (.int .u64 v0), AV.none, AV.v (.int .i64 v1), AV.none, AV.none, AV.none, AV.none, AV.none, AV.none, AV.none, AV.none, AV.none, AV.none, AV.none, AV.none, AV.none, AV.none, AV.none, AV.none, AV.none, AV.none, AV.none], [none, none, some (OB.arr .u64 4 v2), some (OB.arr .u64 4 v3), some (OB.arr .u64 4 v4), none, none, none, none, none, none, none, none, none, none, none, none, none, none, none, none, none, none, none, none, none, none, none]⟩
noncomputable def raw99_0 (N : Nat) (n : Nat) (v0 : Int) (v1 : Int) (v2 : Vec 4) (v3 : Vec 4) (v4 : Vec 4) : Option (Vec 4 × Bool) := loopN (lookN live99 3) (exec T99 (G99 N) N live99 (cL (cL (cR (cL (cR (cR c99))))))) n (st99_0 v0 v1 v2 v3 v4) (blockK 0 (seqK (exec T99 (G99 N) N live99 (cR (cR (cR c99)))) (retK T99 Tryz.f99.results.toList (rd99).dec)))
noncomputable def s99_0 (N : Nat) (Ln0 : Int → Int → Vec 4 → Vec 4 → Vec 4 → Option (Vec 4 × Bool)) (v0 : Int) (v1 : Int) (v2 : Vec 4) (v3 : Vec 4) (v4 : Vec 4) : Option (Vec 4 × Bool) :=
  cond (ltI v1 4)
   (cond (leI 0 v1)
    (cond (ltI v1 4)
     (cond (leI 0 v1)
      (cond (ltI v1 4)
       ((sub64 (Vec.rd v2 v1) (Vec.rd v3 v1) v0).bind fun r1 =>
        cond (leI 0 v1)
         (cond (ltI v1 4)
          (Ln0 r1.2 (addI .i64 v1 1) (Vec.st v2 v1 r1.1) v3 v4)
          (none))
         (none))
       (none))
      (none))
     (none))
    (none))
   (some (v2, !(eqI v0 0)))
theorem step99_0 (N : Nat) (n : Nat) (v0 : Int) (v1 : Int) (v2 : Vec 4) (v3 : Vec 4) (v4 : Vec 4) : raw99_0 N  (n + 1) v0 v1 v2 v3 v4 = s99_0 N (raw99_0 N  n) v0 v1 v2 v3 v4 := by kernel_rfl
noncomputable def l99_0 (N : Nat) : Nat → Int → Int → Vec 4 → Vec 4 → Vec 4 → Option (Vec 4 × Bool)
  | 0 => fun _ _ _ _ _ => none
  | n + 1 => fun v0 v1 v2 v3 v4 => s99_0 N (l99_0 N  n) v0 v1 v2 v3 v4
theorem eq99_0 (N : Nat) : ∀ n, raw99_0 N  n = l99_0 N  n := by
  intro n
  induction n with
  | zero => exact funext fun v0 => funext fun v1 => funext fun v2 => funext fun v3 => funext fun v4 => rfl
  | succ n ih => exact funext fun v0 => funext fun v1 => funext fun v2 => funext fun v3 => funext fun v4 => by rw [step99_0, ih]; rfl
noncomputable def t99 (N : Nat) (Le0 : Int → Int → Vec 4 → Vec 4 → Vec 4 → Option (Vec 4 × Bool)) (x0 : Vec 4) (x1 : Vec 4) : Option (Vec 4 × Bool) :=
  Le0 0 0 x0 x1 (Vec.zero 4)
noncomputable def fn_wide_Sub (N : Nat) (x0 : Vec 4) (x1 : Vec 4) : Option (Vec 4 × Bool) := t99 N (l99_0 N N) x0 x1
theorem run99 (N : Nat) (x0 : Vec 4) (x1 : Vec 4) : Eng.run T99 (G99 N) N live99 c99 Tryz.f99.results.toList Tryz.f99.ntmps ((ad99).enc (x0, x1, ())) (rd99).dec = fn_wide_Sub N x0 x1 := by
  refine Eq.trans (show _ = t99 N (raw99_0 N N) x0 x1 from by kernel_rfl) ?_
  unfold fn_wide_Sub
  rw [eq99_0 N N]
noncomputable def F99 (N : Nat) (a : Vec 4 × Vec 4 × Unit) : Option (Vec 4 × Bool) := fn_wide_Sub N a.1 a.2.1
theorem ok99 (N : Nat) : FnOK Tryz.prog 99 ad99 rd99 (F99 N) :=
  fn_ok (N := N) (live := live99) (code := c99) (tok T99.rt T99.kl (wrNil_ok)) mixed (gok99 N) Tryz.func99 (by kernel_rfl) (by kernel_rfl) (by kernel_rfl) fun a p h => by rw [← h]; exact run99 N a.1 a.2.1

/-! ### tiller/sums.aligned: function 69 -/
noncomputable def c69 : Code := (Tryz.f69.body).getD .skip
noncomputable def T69 : Tb := ⟨tyOf tys, [(7, 3), (9, 3), (11, 4), (15, 3), (16, 3), (18, 4), (22, 3), (24, 4), (29, 4), (31, 3), (33, 4), (42, 4), (44, 3), (46, 3), (48, 4), (53, 3), (56, 4), (58, 3), (63, 4)], [], wrNil⟩
noncomputable def G69 {R : Type} (N : Nat) : FuncId → List AV → (AV → Option R) → Option R := gCons 78 (gOf ad78 rd78 (F78 N)) (gCons 94 (gOf ad94 rd94 (F94 N)) (gCons 98 (gOf ad98 rd98 (F98 N)) (gCons 68 (gOf ad68 rd68 (F68 N)) (gCons 99 (gOf ad99 rd99 (F99 N)) (gNil)))))
theorem gok69 {R : Type} (N : Nat) : GOK Tryz.prog (G69 (R := R) N) := gCons_ok (ok78 N) (gCons_ok (ok94 N) (gCons_ok (ok98 N) (gCons_ok (ok68 N) (gCons_ok (ok99 N) (gNil_ok)))))
noncomputable def live69 : List (Nat × List (Nat × HK)) := []
noncomputable def ad69 : Ad ((Bool × Int × Vec 4 × Bool) × (Bool × Int × Vec 4 × Bool) × Int × Unit) := aC (cSta (sC (pBool) (sC (pInt .i64) (sC (pVec .u64 4) (sO (pBool)))))) (aC (cSta (sC (pBool) (sC (pInt .i64) (sC (pVec .u64 4) (sO (pBool)))))) (aC (cInt .i64) (a0)))
noncomputable def rd69 : Rd ((Bool × Int × Vec 4 × Bool)) := r1 (cSta (sC (pBool) (sC (pInt .i64) (sC (pVec .u64 4) (sO (pBool))))))
noncomputable def fn_sums_aligned (N : Nat) (x0 : (Bool × Int × Vec 4 × Bool)) (x1 : (Bool × Int × Vec 4 × Bool)) (x2 : Int) : Option ((Bool × Int × Vec 4 × Bool)) :=
  (fn_wide_Shl N x0.2.2.1 (subI .i64 x0.2.1 x1.2.1)).bind fun r1 =>
   cond (eqB x0.1 x1.1)
    ((fn_wide_Add N r1 x1.2.2.1).bind fun r2 =>
     some (x1.1, x1.2.1, r2.1, x1.2.2.2))
    ((fn_wide_Cmp N r1 x1.2.2.1).bind fun r3 =>
     cond (eqI r3 0)
      ((fn_sums_nought N false true x2).bind fun r4 =>
       some (r4.1, r4.2.1, r4.2.2.1, r4.2.2.2))
      (cond (eqI r3 1)
       ((fn_wide_Sub N r1 x1.2.2.1).bind fun r5 =>
        some (x0.1, x1.2.1, r5.1, x0.2.2.2))
       ((fn_wide_Sub N x1.2.2.1 r1).bind fun r6 =>
        some (x1.1, x1.2.1, r6.1, x1.2.2.2))))
theorem run69 (N : Nat) (x0 : (Bool × Int × Vec 4 × Bool)) (x1 : (Bool × Int × Vec 4 × Bool)) (x2 : Int) : Eng.run T69 (G69 N) N live69 c69 Tryz.f69.results.toList Tryz.f69.ntmps ((ad69).enc (x0, x1, x2, ())) (rd69).dec = fn_sums_aligned N x0 x1 x2 := by kernel_rfl
noncomputable def F69 (N : Nat) (a : (Bool × Int × Vec 4 × Bool) × (Bool × Int × Vec 4 × Bool) × Int × Unit) : Option ((Bool × Int × Vec 4 × Bool)) := fn_sums_aligned N a.1 a.2.1 a.2.2.1
theorem ok69 (N : Nat) : FnOK Tryz.prog 69 ad69 rd69 (F69 N) :=
  fn_ok (N := N) (live := live69) (code := c69) (tok T69.rt T69.kl (wrNil_ok)) mixed (gok69 N) Tryz.func69 (by kernel_rfl) (by kernel_rfl) (by kernel_rfl) fun a p h => by rw [← h]; exact run69 N a.1 a.2.1 a.2.2.1

/-! ### tiller/wide.Shr: function 66 -/
noncomputable def c66 : Code := (Tryz.f66.body).getD .skip
noncomputable def T66 : Tb := ⟨tyOf tys, [(29, 2), (34, 6), (41, 6), (47, 2), (54, 6)], [], wrNil⟩
noncomputable def G66 {R : Type} (N : Nat) : FuncId → List AV → (AV → Option R) → Option R := gCons 78 (gOf ad78 rd78 (F78 N)) (gNil)
theorem gok66 {R : Type} (N : Nat) : GOK Tryz.prog (G66 (R := R) N) := gCons_ok (ok78 N) (gNil_ok)
noncomputable def live66 : List (Nat × List (Nat × HK)) := [(8, [(1, .keep), (2, .keep), (4, .keep), (6, .keep), (7, .keep), (21, .keep), (22, .keep)])]
noncomputable def ad66 : Ad (Vec 4 × Int × Unit) := aC (cVec .u64 4) (aC (cInt .i64) (a0))
noncomputable def rd66 : Rd (Vec 4 × Bool) := r2 (cVec .u64 4) (cBool)
noncomputable def st66_0 (v0 : Int) (v1 : Int) (v2 : Int) (v3 : Int) (v4 : Vec 4) (v5 : Vec 4) (v6 : Vec 4) : St := ⟨[AV.none, AV.v (.int .i64 v0), AV.ptr 2 0, AV.none, AV.ptr 4 0, AV.none, AV.ptr 6 0, AV.v (.int .i64 v1), AV.none, AV.none, AV.none, AV.none, AV.none, AV.none, AV.none, AV.none, AV.none, AV.none, AV.none, AV.none, AV.none, AV.v (.int .i64 v2), AV.v (.int .i64 v3), AV.none, AV.none, AV.none, AV.none, AV.none, AV.none, AV.none, AV.none, AV.none, AV.none, AV.none, AV.none, AV.none, AV.none, AV.none, AV.none, AV.none, AV.none, AV.none, AV.none, AV.none, AV.none, AV.none, AV.none, AV.none, AV.none, AV.none, AV.none, AV.none, AV.none, AV.none, AV.none, AV.none, AV.none, AV.none, AV.none, AV.none, AV.none, AV.none], [none, none, some (OB.arr .u64 4 v4), none, some (OB.arr .u64 4 v5), none, some (OB.arr .u64 4 v6), none, none, none, none, none, none, none, none, none, none, none, none, none, none, none, none, none, none, none, none, none, none, none, none, none, none, none, none, none, none, none, none, none, none, none, none, none, none, none, none, none, none, none, none, none, none, none, none, none, none, none, none, none, none, none]⟩
noncomputable def raw66_0 (N : Nat) (n : Nat) (v0 : Int) (v1 : Int) (v2 : Int) (v3 : Int) (v4 : Vec 4) (v5 : Vec 4) (v6 : Vec 4) : Option (Vec 4 × Bool) := loopN (lookN live66 8) (exec T66 (G66 N) N live66 (cL (cL (cR (cL (cR (cR (cR (cR (cR c66)))))))))) n (st66_0 v0 v1 v2 v3 v4 v5 v6) (blockK 0 (seqK (exec T66 (G66 N) N live66 (cR (cR (cR (cR (cR (cR c66))))))) (retK T66 Tryz.f66.results.toList (rd66).dec)))
noncomputable def s66_0 (N : Nat) (Ln0 : Int → Int → Int → Int → Vec 4 → Vec 4 → Vec 4 → Option (Vec 4 × Bool)) (v0 : Int) (v1 : Int) (v2 : Int) (v3 : Int) (v4 : Vec 4) (v5 : Vec 4) (v6 : Vec 4) : Option (Vec 4 × Bool) :=
  cond (ltI v3 v2)
   (cond (leI 0 (addI .i64 v3 v1))
    (cond (ltI (addI .i64 v3 v1) 4)
     (cond (ltI (remI .i64 v0 64) 0)
      (none)
      (cond (leI 0 v3)
       (cond (ltI v3 4)
        (cond (ltI (addI .i64 (addI .i64 v3 v1) 1) 4)
         (cond (leI 0 v3)
          (cond (ltI v3 4)
           (cond (leI 0 (addI .i64 (addI .i64 v3 v1) 1))
            (cond (ltI (addI .i64 (addI .i64 v3 v1) 1) 4)
             (cond (ltI (subI .i64 64 (remI .i64 v0 64)) 0)
              (none)
              (cond (leI 0 v3)
               (cond (ltI v3 4)
                (Ln0 v0 v1 v2 (addI .i64 v3 1) v4 v5 (Vec.st (Vec.st v6 v3 (shrI .u64 (Vec.rd v4 (addI .i64 v3 v1)) (remI .i64 v0 64))) v3 (orI .u64 (Vec.rd (Vec.st v6 v3 (shrI .u64 (Vec.rd v4 (addI .i64 v3 v1)) (remI .i64 v0 64))) v3) (shlI .u64 (Vec.rd v4 (addI .i64 (addI .i64 v3 v1) 1)) (subI .i64 64 (remI .i64 v0 64))))))
                (none))
               (none)))
             (none))
            (none))
           (none))
          (none))
         (Ln0 v0 v1 v2 (addI .i64 v3 1) v4 v5 (Vec.st v6 v3 (shrI .u64 (Vec.rd v4 (addI .i64 v3 v1)) (remI .i64 v0 64)))))
        (none))
       (none)))
     (none))
    (none))
   ((fn_wide_Shl N v6 v0).bind fun r1 =>
    some (v6, !(eqL r1.1 v4.1)))
theorem step66_0 (N : Nat) (n : Nat) (v0 : Int) (v1 : Int) (v2 : Int) (v3 : Int) (v4 : Vec 4) (v5 : Vec 4) (v6 : Vec 4) : raw66_0 N  (n + 1) v0 v1 v2 v3 v4 v5 v6 = s66_0 N (raw66_0 N  n) v0 v1 v2 v3 v4 v5 v6 := by kernel_rfl
noncomputable def l66_0 (N : Nat) : Nat → Int → Int → Int → Int → Vec 4 → Vec 4 → Vec 4 → Option (Vec 4 × Bool)
  | 0 => fun _ _ _ _ _ _ _ => none
  | n + 1 => fun v0 v1 v2 v3 v4 v5 v6 => s66_0 N (l66_0 N  n) v0 v1 v2 v3 v4 v5 v6
theorem eq66_0 (N : Nat) : ∀ n, raw66_0 N  n = l66_0 N  n := by
  intro n
  induction n with
  | zero => exact funext fun v0 => funext fun v1 => funext fun v2 => funext fun v3 => funext fun v4 => funext fun v5 => funext fun v6 => rfl
  | succ n ih => exact funext fun v0 => funext fun v1 => funext fun v2 => funext fun v3 => funext fun v4 => funext fun v5 => funext fun v6 => by rw [step66_0, ih]; rfl
noncomputable def t66 (N : Nat) (Le0 : Int → Int → Int → Int → Vec 4 → Vec 4 → Vec 4 → Option (Vec 4 × Bool)) (x0 : Vec 4) (x1 : Int) : Option (Vec 4 × Bool) :=
  cond (ltI x1 1)
   (some (x0, false))
   (cond (leI 256 x1)
    (some (Vec.zero 4, !(eqL x0.1 (Vec.zero 4).1)))
    (Le0 x1 (quoI .i64 x1 64) (subI .i64 4 (quoI .i64 x1 64)) 0 x0 (Vec.zero 4) (Vec.zero 4)))
noncomputable def fn_wide_Shr (N : Nat) (x0 : Vec 4) (x1 : Int) : Option (Vec 4 × Bool) := t66 N (l66_0 N N) x0 x1
theorem run66 (N : Nat) (x0 : Vec 4) (x1 : Int) : Eng.run T66 (G66 N) N live66 c66 Tryz.f66.results.toList Tryz.f66.ntmps ((ad66).enc (x0, x1, ())) (rd66).dec = fn_wide_Shr N x0 x1 := by
  refine Eq.trans (show _ = t66 N (raw66_0 N N) x0 x1 from by kernel_rfl) ?_
  unfold fn_wide_Shr
  rw [eq66_0 N N]
noncomputable def F66 (N : Nat) (a : Vec 4 × Int × Unit) : Option (Vec 4 × Bool) := fn_wide_Shr N a.1 a.2.1
theorem ok66 (N : Nat) : FnOK Tryz.prog 66 ad66 rd66 (F66 N) :=
  fn_ok (N := N) (live := live66) (code := c66) (tok T66.rt T66.kl (wrNil_ok)) mixed (gok66 N) Tryz.func66 (by kernel_rfl) (by kernel_rfl) (by kernel_rfl) fun a p h => by rw [← h]; exact run66 N a.1 a.2.1

/-! ### tiller/sums.beside: function 70 -/
noncomputable def c70 : Code := (Tryz.f70.body).getD .skip
noncomputable def T70 : Tb := ⟨tyOf tys, [(8, 2), (13, 3), (15, 2), (19, 3), (25, 2), (29, 2), (34, 2), (35, 2), (36, 2), (37, 2), (39, 3), (43, 2), (49, 2), (52, 2), (58, 2), (61, 2), (67, 2)], [], wrNil⟩
noncomputable def G70 {R : Type} (N : Nat) : FuncId → List AV → (AV → Option R) → Option R := gCons 63 (gOf ad63 rd63 (F63 N)) (gCons 66 (gOf ad66 rd66 (F66 N)) (gCons 78 (gOf ad78 rd78 (F78 N)) (gCons 94 (gOf ad94 rd94 (F94 N)) (gCons 99 (gOf ad99 rd99 (F99 N)) (gCons 58 (gOf ad58 rd58 (F58 N)) (gNil))))))
theorem gok70 {R : Type} (N : Nat) : GOK Tryz.prog (G70 (R := R) N) := gCons_ok (ok63 N) (gCons_ok (ok66 N) (gCons_ok (ok78 N) (gCons_ok (ok94 N) (gCons_ok (ok99 N) (gCons_ok (ok58 N) (gNil_ok))))))
noncomputable def live70 : List (Nat × List (Nat × HK)) := []
noncomputable def ad70 : Ad ((Bool × Int × Vec 4 × Bool) × (Bool × Int × Vec 4 × Bool) × Unit) := aC (cSta (sC (pBool) (sC (pInt .i64) (sC (pVec .u64 4) (sO (pBool)))))) (aC (cSta (sC (pBool) (sC (pInt .i64) (sC (pVec .u64 4) (sO (pBool)))))) (a0))
noncomputable def rd70 : Rd ((Bool × Int × Vec 4 × Bool)) := r1 (cSta (sC (pBool) (sC (pInt .i64) (sC (pVec .u64 4) (sO (pBool))))))
noncomputable def fn_sums_beside (N : Nat) (x0 : (Bool × Int × Vec 4 × Bool)) (x1 : (Bool × Int × Vec 4 × Bool)) : Option ((Bool × Int × Vec 4 × Bool)) :=
  (fn_wide_Len N x0.2.2.1).bind fun r1 =>
   (fn_wide_Shr N x1.2.2.1 (subI .i64 (subI .i64 x0.2.1 (subI .i64 250 r1)) x1.2.1)).bind fun r2 =>
    (fn_wide_Shl N x0.2.2.1 (subI .i64 250 r1)).bind fun r3 =>
     cond (eqB x0.1 x1.1)
      ((fn_wide_Add N r3 r2.1).bind fun r4 =>
       some (x0.1, subI .i64 x0.2.1 (subI .i64 250 r1), r4.1, r2.2))
      ((fn_wide_Sub N r3 r2.1).bind fun r5 =>
       cond r2.2
        ((fn_wide_Of N 1).bind fun r6 =>
         (fn_wide_Sub N r5.1 r6).bind fun r7 =>
          some (x0.1, subI .i64 x0.2.1 (subI .i64 250 r1), r7.1, r2.2))
        (some (x0.1, subI .i64 x0.2.1 (subI .i64 250 r1), r5.1, r2.2)))
theorem run70 (N : Nat) (x0 : (Bool × Int × Vec 4 × Bool)) (x1 : (Bool × Int × Vec 4 × Bool)) : Eng.run T70 (G70 N) N live70 c70 Tryz.f70.results.toList Tryz.f70.ntmps ((ad70).enc (x0, x1, ())) (rd70).dec = fn_sums_beside N x0 x1 := by kernel_rfl
noncomputable def F70 (N : Nat) (a : (Bool × Int × Vec 4 × Bool) × (Bool × Int × Vec 4 × Bool) × Unit) : Option ((Bool × Int × Vec 4 × Bool)) := fn_sums_beside N a.1 a.2.1
theorem ok70 (N : Nat) : FnOK Tryz.prog 70 ad70 rd70 (F70 N) :=
  fn_ok (N := N) (live := live70) (code := c70) (tok T70.rt T70.kl (wrNil_ok)) mixed (gok70 N) Tryz.func70 (by kernel_rfl) (by kernel_rfl) (by kernel_rfl) fun a p h => by rw [← h]; exact run70 N a.1 a.2.1

/-! ### tiller/sums.join: function 28 -/
noncomputable def c28 : Code := (Tryz.f28.body).getD .skip
noncomputable def T28 : Tb := ⟨tyOf tys, [(9, 3), (14, 4), (19, 3), (21, 4), (26, 3), (32, 4), (37, 3), (39, 4), (44, 3), (47, 3), (50, 4)], [], wrNil⟩
noncomputable def G28 {R : Type} (N : Nat) : FuncId → List AV → (AV → Option R) → Option R := gCons 68 (gOf ad68 rd68 (F68 N)) (gCons 63 (gOf ad63 rd63 (F63 N)) (gCons 69 (gOf ad69 rd69 (F69 N)) (gCons 70 (gOf ad70 rd70 (F70 N)) (gNil))))
theorem gok28 {R : Type} (N : Nat) : GOK Tryz.prog (G28 (R := R) N) := gCons_ok (ok68 N) (gCons_ok (ok63 N) (gCons_ok (ok69 N) (gCons_ok (ok70 N) (gNil_ok))))
noncomputable def live28 : List (Nat × List (Nat × HK)) := []
noncomputable def ad28 : Ad ((Bool × Int × Vec 4 × Bool) × (Bool × Int × Vec 4 × Bool) × Int × Unit) := aC (cSta (sC (pBool) (sC (pInt .i64) (sC (pVec .u64 4) (sO (pBool)))))) (aC (cSta (sC (pBool) (sC (pInt .i64) (sC (pVec .u64 4) (sO (pBool)))))) (aC (cInt .i64) (a0)))
noncomputable def rd28 : Rd ((Bool × Int × Vec 4 × Bool)) := r1 (cSta (sC (pBool) (sC (pInt .i64) (sC (pVec .u64 4) (sO (pBool))))))
noncomputable def fn_sums_join (N : Nat) (x0 : (Bool × Int × Vec 4 × Bool)) (x1 : (Bool × Int × Vec 4 × Bool)) (x2 : Int) : Option ((Bool × Int × Vec 4 × Bool)) :=
  cond (eqL x0.2.2.1.1 (Vec.zero 4).1)
   (cond (eqL x1.2.2.1.1 (Vec.zero 4).1)
    ((fn_sums_nought N x0.1 x1.1 x2).bind fun r1 =>
     some (r1.1, r1.2.1, r1.2.2.1, r1.2.2.2))
    (cond (eqL x0.2.2.1.1 (Vec.zero 4).1)
     (some (x1.1, x1.2.1, x1.2.2.1, x1.2.2.2))
     (cond (eqL x1.2.2.1.1 (Vec.zero 4).1)
      (some (x0.1, x0.2.1, x0.2.2.1, x0.2.2.2))
      (cond (ltI x0.2.1 x1.2.1)
       ((fn_wide_Len N x1.2.2.1).bind fun r2 =>
        cond (ltI (subI .i64 (addI .i64 r2 x1.2.1) x0.2.1) 250)
         ((fn_sums_aligned N (x1.1, x1.2.1, x1.2.2.1, x1.2.2.2) (x0.1, x0.2.1, x0.2.2.1, x0.2.2.2) x2).bind fun r3 =>
          some (r3.1, r3.2.1, r3.2.2.1, r3.2.2.2))
         ((fn_sums_beside N (x1.1, x1.2.1, x1.2.2.1, x1.2.2.2) (x0.1, x0.2.1, x0.2.2.1, x0.2.2.2)).bind fun r4 =>
          some (r4.1, r4.2.1, r4.2.2.1, r4.2.2.2)))
       ((fn_wide_Len N x0.2.2.1).bind fun r5 =>
        cond (ltI (subI .i64 (addI .i64 r5 x0.2.1) x1.2.1) 250)
         ((fn_sums_aligned N (x0.1, x0.2.1, x0.2.2.1, x0.2.2.2) (x1.1, x1.2.1, x1.2.2.1, x1.2.2.2) x2).bind fun r6 =>
          some (r6.1, r6.2.1, r6.2.2.1, r6.2.2.2))
         ((fn_sums_beside N (x0.1, x0.2.1, x0.2.2.1, x0.2.2.2) (x1.1, x1.2.1, x1.2.2.1, x1.2.2.2)).bind fun r7 =>
          some (r7.1, r7.2.1, r7.2.2.1, r7.2.2.2)))))))
   (cond (eqL x0.2.2.1.1 (Vec.zero 4).1)
    (some (x1.1, x1.2.1, x1.2.2.1, x1.2.2.2))
    (cond (eqL x1.2.2.1.1 (Vec.zero 4).1)
     (some (x0.1, x0.2.1, x0.2.2.1, x0.2.2.2))
     (cond (ltI x0.2.1 x1.2.1)
      ((fn_wide_Len N x1.2.2.1).bind fun r8 =>
       cond (ltI (subI .i64 (addI .i64 r8 x1.2.1) x0.2.1) 250)
        ((fn_sums_aligned N (x1.1, x1.2.1, x1.2.2.1, x1.2.2.2) (x0.1, x0.2.1, x0.2.2.1, x0.2.2.2) x2).bind fun r9 =>
         some (r9.1, r9.2.1, r9.2.2.1, r9.2.2.2))
        ((fn_sums_beside N (x1.1, x1.2.1, x1.2.2.1, x1.2.2.2) (x0.1, x0.2.1, x0.2.2.1, x0.2.2.2)).bind fun r10 =>
         some (r10.1, r10.2.1, r10.2.2.1, r10.2.2.2)))
      ((fn_wide_Len N x0.2.2.1).bind fun r11 =>
       cond (ltI (subI .i64 (addI .i64 r11 x0.2.1) x1.2.1) 250)
        ((fn_sums_aligned N (x0.1, x0.2.1, x0.2.2.1, x0.2.2.2) (x1.1, x1.2.1, x1.2.2.1, x1.2.2.2) x2).bind fun r12 =>
         some (r12.1, r12.2.1, r12.2.2.1, r12.2.2.2))
        ((fn_sums_beside N (x0.1, x0.2.1, x0.2.2.1, x0.2.2.2) (x1.1, x1.2.1, x1.2.2.1, x1.2.2.2)).bind fun r13 =>
         some (r13.1, r13.2.1, r13.2.2.1, r13.2.2.2))))))
theorem run28 (N : Nat) (x0 : (Bool × Int × Vec 4 × Bool)) (x1 : (Bool × Int × Vec 4 × Bool)) (x2 : Int) : Eng.run T28 (G28 N) N live28 c28 Tryz.f28.results.toList Tryz.f28.ntmps ((ad28).enc (x0, x1, x2, ())) (rd28).dec = fn_sums_join N x0 x1 x2 := by kernel_rfl
noncomputable def F28 (N : Nat) (a : (Bool × Int × Vec 4 × Bool) × (Bool × Int × Vec 4 × Bool) × Int × Unit) : Option ((Bool × Int × Vec 4 × Bool)) := fn_sums_join N a.1 a.2.1 a.2.2.1
theorem ok28 (N : Nat) : FnOK Tryz.prog 28 ad28 rd28 (F28 N) :=
  fn_ok (N := N) (live := live28) (code := c28) (tok T28.rt T28.kl (wrNil_ok)) mixed (gok28 N) Tryz.func28 (by kernel_rfl) (by kernel_rfl) (by kernel_rfl) fun a p h => by rw [← h]; exact run28 N a.1 a.2.1 a.2.2.1

/-! ### (tiller/rnd.Num).near: function 59 -/
noncomputable def c59 : Code := (Tryz.f59.body).getD .skip
noncomputable def T59 : Tb := ⟨tyOf tys, [(3, 1), (7, 1)], [], wrNil⟩
noncomputable def G59 {R : Type} (N : Nat) : FuncId → List AV → (AV → Option R) → Option R := gNil
theorem gok59 {R : Type} (N : Nat) : GOK Tryz.prog (G59 (R := R) N) := gNil_ok
noncomputable def live59 : List (Nat × List (Nat × HK)) := []
noncomputable def ad59 : Ad ((Bool × Int × Vec 4 × Bool) × Unit) := aC (cSta (sC (pBool) (sC (pInt .i64) (sC (pVec .u64 4) (sO (pBool)))))) (a0)
noncomputable def rd59 : Rd ((Bool × Int × Vec 4 × Bool)) := r1 (cSta (sC (pBool) (sC (pInt .i64) (sC (pVec .u64 4) (sO (pBool))))))
noncomputable def fn_rnd_Num_near (N : Nat) (x0 : (Bool × Int × Vec 4 × Bool)) : Option ((Bool × Int × Vec 4 × Bool)) :=
  some (x0.1, minI (maxI x0.2.1 (-131072)) 131072, x0.2.2.1, x0.2.2.2)
theorem run59 (N : Nat) (x0 : (Bool × Int × Vec 4 × Bool)) : Eng.run T59 (G59 N) N live59 c59 Tryz.f59.results.toList Tryz.f59.ntmps ((ad59).enc (x0, ())) (rd59).dec = fn_rnd_Num_near N x0 := by kernel_rfl
noncomputable def F59 (N : Nat) (a : (Bool × Int × Vec 4 × Bool) × Unit) : Option ((Bool × Int × Vec 4 × Bool)) := fn_rnd_Num_near N a.1
theorem ok59 (N : Nat) : FnOK Tryz.prog 59 ad59 rd59 (F59 N) :=
  fn_ok (N := N) (live := live59) (code := c59) (tok T59.rt T59.kl (wrNil_ok)) mixed (gok59 N) Tryz.func59 (by kernel_rfl) (by kernel_rfl) (by kernel_rfl) fun a p h => by rw [← h]; exact run59 N a.1

/-! ### (tiller/rnd.Num).exact: function 60 -/
noncomputable def c60 : Code := (Tryz.f60.body).getD .skip
noncomputable def T60 : Tb := ⟨tyOf tys, [(5, 1), (9, 1), (16, 1), (23, 1), (25, 1)], [], wrNil⟩
noncomputable def G60 {R : Type} (N : Nat) : FuncId → List AV → (AV → Option R) → Option R := gCons 63 (gOf ad63 rd63 (F63 N)) (gCons 78 (gOf ad78 rd78 (F78 N)) (gCons 58 (gOf ad58 rd58 (F58 N)) (gCons 94 (gOf ad94 rd94 (F94 N)) (gNil))))
theorem gok60 {R : Type} (N : Nat) : GOK Tryz.prog (G60 (R := R) N) := gCons_ok (ok63 N) (gCons_ok (ok78 N) (gCons_ok (ok58 N) (gCons_ok (ok94 N) (gNil_ok))))
noncomputable def live60 : List (Nat × List (Nat × HK)) := []
noncomputable def ad60 : Ad ((Bool × Int × Vec 4 × Bool) × Unit) := aC (cSta (sC (pBool) (sC (pInt .i64) (sC (pVec .u64 4) (sO (pBool)))))) (a0)
noncomputable def rd60 : Rd ((Bool × Int × Vec 4 × Bool)) := r1 (cSta (sC (pBool) (sC (pInt .i64) (sC (pVec .u64 4) (sO (pBool))))))
noncomputable def fn_rnd_Num_exact (N : Nat) (x0 : (Bool × Int × Vec 4 × Bool)) : Option ((Bool × Int × Vec 4 × Bool)) :=
  cond (!(x0.2.2.2))
   (some (x0.1, x0.2.1, x0.2.2.1, x0.2.2.2))
   ((fn_wide_Len N x0.2.2.1).bind fun r1 =>
    cond (ltI 254 r1)
     (some (x0.1, x0.2.1, x0.2.2.1, x0.2.2.2))
     ((fn_wide_Shl N x0.2.2.1 1).bind fun r2 =>
      (fn_wide_Of N 1).bind fun r3 =>
       (fn_wide_Add N r2 r3).bind fun r4 =>
        some (x0.1, subI .i64 x0.2.1 1, r4.1, false)))
theorem run60 (N : Nat) (x0 : (Bool × Int × Vec 4 × Bool)) : Eng.run T60 (G60 N) N live60 c60 Tryz.f60.results.toList Tryz.f60.ntmps ((ad60).enc (x0, ())) (rd60).dec = fn_rnd_Num_exact N x0 := by kernel_rfl
noncomputable def F60 (N : Nat) (a : (Bool × Int × Vec 4 × Bool) × Unit) : Option ((Bool × Int × Vec 4 × Bool)) := fn_rnd_Num_exact N a.1
theorem ok60 (N : Nat) : FnOK Tryz.prog 60 ad60 rd60 (F60 N) :=
  fn_ok (N := N) (live := live60) (code := c60) (tok T60.rt T60.kl (wrNil_ok)) mixed (gok60 N) Tryz.func60 (by kernel_rfl) (by kernel_rfl) (by kernel_rfl) fun a p h => by rw [← h]; exact run60 N a.1

/-! ### tiller/rnd.sign: function 62 -/
noncomputable def c62 : Code := (Tryz.f62.body).getD .skip
noncomputable def T62 : Tb := ⟨tyOf tys, [], [], wrNil⟩
noncomputable def G62 {R : Type} (N : Nat) : FuncId → List AV → (AV → Option R) → Option R := gNil
theorem gok62 {R : Type} (N : Nat) : GOK Tryz.prog (G62 (R := R) N) := gNil_ok
noncomputable def live62 : List (Nat × List (Nat × HK)) := []
noncomputable def ad62 : Ad (Bool × Unit) := aC (cBool) (a0)
noncomputable def rd62 : Rd (Int) := r1 (cInt .u64)
noncomputable def fn_rnd_sign (N : Nat) (x0 : Bool) : Option (Int) :=
  cond x0
   (some 9223372036854775808)
   (some 0)
theorem run62 (N : Nat) (x0 : Bool) : Eng.run T62 (G62 N) N live62 c62 Tryz.f62.results.toList Tryz.f62.ntmps ((ad62).enc (x0, ())) (rd62).dec = fn_rnd_sign N x0 := by kernel_rfl
noncomputable def F62 (N : Nat) (a : Bool × Unit) : Option (Int) := fn_rnd_sign N a.1
theorem ok62 (N : Nat) : FnOK Tryz.prog 62 ad62 rd62 (F62 N) :=
  fn_ok (N := N) (live := live62) (code := c62) (tok T62.rt T62.kl (wrNil_ok)) mixed (gok62 N) Tryz.func62 (by kernel_rfl) (by kernel_rfl) (by kernel_rfl) fun a p h => by rw [← h]; exact run62 N a.1

/-! ### tiller/pat.Copy: function 61 -/
noncomputable def c61 : Code := (Tryz.f61.body).getD .skip
noncomputable def T61 : Tb := ⟨tyOf tys, [], [], wrNil⟩
noncomputable def G61 {R : Type} (N : Nat) : FuncId → List AV → (AV → Option R) → Option R := gCons 56 (gOf ad56 rd56 (F56 N)) (gNil)
theorem gok61 {R : Type} (N : Nat) : GOK Tryz.prog (G61 (R := R) N) := gCons_ok (ok56 N) (gNil_ok)
noncomputable def live61 : List (Nat × List (Nat × HK)) := []
noncomputable def ad61 : Ad (Int × Int × Unit) := aC (cInt .u64) (aC (cInt .u64) (a0))
noncomputable def rd61 : Rd (Int) := r1 (cInt .u64)
noncomputable def fn_pat_Copy (N : Nat) (x0 : Int) (x1 : Int) : Option (Int) :=
  (fn_pat_Abs N x0).bind fun r1 =>
   some (orI .u64 r1 (andI .u64 x1 9223372036854775808))
theorem run61 (N : Nat) (x0 : Int) (x1 : Int) : Eng.run T61 (G61 N) N live61 c61 Tryz.f61.results.toList Tryz.f61.ntmps ((ad61).enc (x0, x1, ())) (rd61).dec = fn_pat_Copy N x0 x1 := by kernel_rfl
noncomputable def F61 (N : Nat) (a : Int × Int × Unit) : Option (Int) := fn_pat_Copy N a.1 a.2.1
theorem ok61 (N : Nat) : FnOK Tryz.prog 61 ad61 rd61 (F61 N) :=
  fn_ok (N := N) (live := live61) (code := c61) (tok T61.rt T61.kl (wrNil_ok)) mixed (gok61 N) Tryz.func61 (by kernel_rfl) (by kernel_rfl) (by kernel_rfl) fun a p h => by rw [← h]; exact run61 N a.1 a.2.1

/-! ### tiller/wide.Bit: function 122 -/
noncomputable def c122 : Code := (Tryz.f122.body).getD .skip
noncomputable def T122 : Tb := ⟨tyOf tys, [(13, 2)], [], wrNil⟩
noncomputable def G122 {R : Type} (N : Nat) : FuncId → List AV → (AV → Option R) → Option R := gNil
theorem gok122 {R : Type} (N : Nat) : GOK Tryz.prog (G122 (R := R) N) := gNil_ok
noncomputable def live122 : List (Nat × List (Nat × HK)) := []
noncomputable def ad122 : Ad (Vec 4 × Int × Unit) := aC (cVec .u64 4) (aC (cInt .i64) (a0))
noncomputable def rd122 : Rd (Int) := r1 (cInt .u64)
noncomputable def fn_wide_Bit (N : Nat) (x0 : Vec 4) (x1 : Int) : Option (Int) :=
  cond (ltI x1 0)
   (some 0)
   (cond (leI 256 x1)
    (some 0)
    (cond (leI 0 (quoI .i64 x1 64))
     (cond (ltI (quoI .i64 x1 64) 4)
      (cond (ltI (remI .i64 x1 64) 0)
       (none)
       (some (andI .u64 (shrI .u64 (Vec.rd x0 (quoI .i64 x1 64)) (remI .i64 x1 64)) 1)))
      (none))
     (none)))
theorem run122 (N : Nat) (x0 : Vec 4) (x1 : Int) : Eng.run T122 (G122 N) N live122 c122 Tryz.f122.results.toList Tryz.f122.ntmps ((ad122).enc (x0, x1, ())) (rd122).dec = fn_wide_Bit N x0 x1 := by kernel_rfl
noncomputable def F122 (N : Nat) (a : Vec 4 × Int × Unit) : Option (Int) := fn_wide_Bit N a.1 a.2.1
theorem ok122 (N : Nat) : FnOK Tryz.prog 122 ad122 rd122 (F122 N) :=
  fn_ok (N := N) (live := live122) (code := c122) (tok T122.rt T122.kl (wrNil_ok)) mixed (gok122 N) Tryz.func122 (by kernel_rfl) (by kernel_rfl) (by kernel_rfl) fun a p h => by rw [← h]; exact run122 N a.1 a.2.1

/-! ### (tiller/rnd.Num).cut: function 96 -/
noncomputable def c96 : Code := (Tryz.f96.body).getD .skip
noncomputable def T96 : Tb := ⟨tyOf tys, [(15, 2), (20, 2), (28, 2), (32, 2), (38, 2), (44, 2), (49, 2), (59, 2)], [], wrNil⟩
noncomputable def G96 {R : Type} (N : Nat) : FuncId → List AV → (AV → Option R) → Option R := gCons 78 (gOf ad78 rd78 (F78 N)) (gCons 66 (gOf ad66 rd66 (F66 N)) (gCons 122 (gOf ad122 rd122 (F122 N)) (gCons 99 (gOf ad99 rd99 (F99 N)) (gCons 58 (gOf ad58 rd58 (F58 N)) (gNil)))))
theorem gok96 {R : Type} (N : Nat) : GOK Tryz.prog (G96 (R := R) N) := gCons_ok (ok78 N) (gCons_ok (ok66 N) (gCons_ok (ok122 N) (gCons_ok (ok99 N) (gCons_ok (ok58 N) (gNil_ok)))))
noncomputable def live96 : List (Nat × List (Nat × HK)) := []
noncomputable def ad96 : Ad ((Bool × Int × Vec 4 × Bool) × Int × Unit) := aC (cSta (sC (pBool) (sC (pInt .i64) (sC (pVec .u64 4) (sO (pBool)))))) (aC (cInt .i64) (a0))
noncomputable def rd96 : Rd (Vec 4 × Bool × Bool) := r3 (cVec .u64 4) (cBool) (cBool)
noncomputable def fn_rnd_Num_cut (N : Nat) (x0 : (Bool × Int × Vec 4 × Bool)) (x1 : Int) : Option (Vec 4 × Bool × Bool) :=
  cond (leI (subI .i64 x1 x0.2.1) 0)
   ((fn_wide_Shl N x0.2.2.1 (subI .i64 0 (subI .i64 x1 x0.2.1))).bind fun r1 =>
    cond (eqI (subI .i64 x1 x0.2.1) 0)
     (some (r1, x0.2.2.2, false))
     (some (r1, false, false)))
   ((fn_wide_Shr N x0.2.2.1 (subI .i64 x1 x0.2.1)).bind fun r2 =>
    (fn_wide_Bit N x0.2.2.1 (subI .i64 (subI .i64 x1 x0.2.1) 1)).bind fun r3 =>
     cond (ltI 1 (subI .i64 x1 x0.2.1))
      ((fn_wide_Shl N r2.1 (subI .i64 x1 x0.2.1)).bind fun r4 =>
       (fn_wide_Sub N x0.2.2.1 r4).bind fun r5 =>
        cond (ltI 256 (subI .i64 x1 x0.2.1))
         (cond (eqI r3 1)
          ((fn_wide_Of N 1).bind fun r6 =>
           (fn_wide_Shl N r6 (subI .i64 (subI .i64 x1 x0.2.1) 1)).bind fun r7 =>
            (fn_wide_Sub N x0.2.2.1 r7).bind fun r8 =>
             cond x0.2.2.2
              (some (r2.1, eqI r3 1, true))
              (some (r2.1, eqI r3 1, !(eqL r8.1.1 (Vec.zero 4).1))))
          (cond x0.2.2.2
           (some (r2.1, eqI r3 1, true))
           (some (r2.1, eqI r3 1, !(eqL x0.2.2.1.1 (Vec.zero 4).1)))))
         (cond (eqI r3 1)
          ((fn_wide_Of N 1).bind fun r9 =>
           (fn_wide_Shl N r9 (subI .i64 (subI .i64 x1 x0.2.1) 1)).bind fun r10 =>
            (fn_wide_Sub N r5.1 r10).bind fun r11 =>
             cond x0.2.2.2
              (some (r2.1, eqI r3 1, true))
              (some (r2.1, eqI r3 1, !(eqL r11.1.1 (Vec.zero 4).1))))
          (cond x0.2.2.2
           (some (r2.1, eqI r3 1, true))
           (some (r2.1, eqI r3 1, !(eqL r5.1.1 (Vec.zero 4).1))))))
      (some (r2.1, eqI r3 1, x0.2.2.2)))
theorem run96 (N : Nat) (x0 : (Bool × Int × Vec 4 × Bool)) (x1 : Int) : Eng.run T96 (G96 N) N live96 c96 Tryz.f96.results.toList Tryz.f96.ntmps ((ad96).enc (x0, x1, ())) (rd96).dec = fn_rnd_Num_cut N x0 x1 := by kernel_rfl
noncomputable def F96 (N : Nat) (a : (Bool × Int × Vec 4 × Bool) × Int × Unit) : Option (Vec 4 × Bool × Bool) := fn_rnd_Num_cut N a.1 a.2.1
theorem ok96 (N : Nat) : FnOK Tryz.prog 96 ad96 rd96 (F96 N) :=
  fn_ok (N := N) (live := live96) (code := c96) (tok T96.rt T96.kl (wrNil_ok)) mixed (gok96 N) Tryz.func96 (by kernel_rfl) (by kernel_rfl) (by kernel_rfl) fun a p h => by rw [← h]; exact run96 N a.1 a.2.1

/-! ### tiller/rnd.up: function 97 -/
noncomputable def c97 : Code := (Tryz.f97.body).getD .skip
noncomputable def T97 : Tb := ⟨tyOf tys, [], [], wrNil⟩
noncomputable def G97 {R : Type} (N : Nat) : FuncId → List AV → (AV → Option R) → Option R := gNil
theorem gok97 {R : Type} (N : Nat) : GOK Tryz.prog (G97 (R := R) N) := gNil_ok
noncomputable def live97 : List (Nat × List (Nat × HK)) := []
noncomputable def ad97 : Ad (Int × Bool × Bool × Bool × Bool × Unit) := aC (cInt .i64) (aC (cBool) (aC (cBool) (aC (cBool) (aC (cBool) (a0)))))
noncomputable def rd97 : Rd (Bool) := r1 (cBool)
noncomputable def fn_rnd_up (N : Nat) (x0 : Int) (x1 : Bool) (x2 : Bool) (x3 : Bool) (x4 : Bool) : Option (Bool) :=
  cond (eqI x0 2)
   (some false)
   (cond (eqI x0 3)
    (cond (!(x1))
     (cond x3
      (some true)
      (some x4))
     (some false))
    (cond (eqI x0 4)
     (cond x1
      (cond x3
       (some true)
       (some x4))
      (some false))
     (cond (eqI x0 1)
      (some x3)
      (cond x3
       (cond x4
        (some true)
        (some x2))
       (some false)))))
theorem run97 (N : Nat) (x0 : Int) (x1 : Bool) (x2 : Bool) (x3 : Bool) (x4 : Bool) : Eng.run T97 (G97 N) N live97 c97 Tryz.f97.results.toList Tryz.f97.ntmps ((ad97).enc (x0, x1, x2, x3, x4, ())) (rd97).dec = fn_rnd_up N x0 x1 x2 x3 x4 := by kernel_rfl
noncomputable def F97 (N : Nat) (a : Int × Bool × Bool × Bool × Bool × Unit) : Option (Bool) := fn_rnd_up N a.1 a.2.1 a.2.2.1 a.2.2.2.1 a.2.2.2.2.1
theorem ok97 (N : Nat) : FnOK Tryz.prog 97 ad97 rd97 (F97 N) :=
  fn_ok (N := N) (live := live97) (code := c97) (tok T97.rt T97.kl (wrNil_ok)) mixed (gok97 N) Tryz.func97 (by kernel_rfl) (by kernel_rfl) (by kernel_rfl) fun a p h => by rw [← h]; exact run97 N a.1 a.2.1 a.2.2.1 a.2.2.2.1 a.2.2.2.2.1

/-! ### (tiller/rnd.Num).to: function 64 -/
noncomputable def c64 : Code := (Tryz.f64.body).getD .skip
noncomputable def T64 : Tb := ⟨tyOf tys, [(19, 3), (21, 8)], [], wrNil⟩
noncomputable def G64 {R : Type} (N : Nat) : FuncId → List AV → (AV → Option R) → Option R := gCons 96 (gOf ad96 rd96 (F96 N)) (gCons 97 (gOf ad97 rd97 (F97 N)) (gCons 58 (gOf ad58 rd58 (F58 N)) (gCons 94 (gOf ad94 rd94 (F94 N)) (gNil))))
theorem gok64 {R : Type} (N : Nat) : GOK Tryz.prog (G64 (R := R) N) := gCons_ok (ok96 N) (gCons_ok (ok97 N) (gCons_ok (ok58 N) (gCons_ok (ok94 N) (gNil_ok))))
noncomputable def live64 : List (Nat × List (Nat × HK)) := []
noncomputable def ad64 : Ad ((Bool × Int × Vec 4 × Bool) × Int × Int × Unit) := aC (cSta (sC (pBool) (sC (pInt .i64) (sC (pVec .u64 4) (sO (pBool)))))) (aC (cInt .i64) (aC (cInt .i64) (a0)))
noncomputable def rd64 : Rd (Vec 4 × Bool) := r2 (cVec .u64 4) (cBool)
noncomputable def fn_rnd_Num_to (N : Nat) (x0 : (Bool × Int × Vec 4 × Bool)) (x1 : Int) (x2 : Int) : Option (Vec 4 × Bool) :=
  (fn_rnd_Num_cut N (x0.1, x0.2.1, x0.2.2.1, x0.2.2.2) x1).bind fun r1 =>
   (fn_rnd_up N x2 x0.1 (eqI (andI .u64 (Vec.rd r1.1 0) 1) 1) r1.2.1 r1.2.2).bind fun r2 =>
    cond r2
     ((fn_wide_Of N 1).bind fun r3 =>
      (fn_wide_Add N r1.1 r3).bind fun r4 =>
       cond r1.2.1
        (some (r4.1, true))
        (some (r4.1, r1.2.2)))
     (cond r1.2.1
      (some (r1.1, true))
      (some (r1.1, r1.2.2)))
theorem run64 (N : Nat) (x0 : (Bool × Int × Vec 4 × Bool)) (x1 : Int) (x2 : Int) : Eng.run T64 (G64 N) N live64 c64 Tryz.f64.results.toList Tryz.f64.ntmps ((ad64).enc (x0, x1, x2, ())) (rd64).dec = fn_rnd_Num_to N x0 x1 x2 := by kernel_rfl
noncomputable def F64 (N : Nat) (a : (Bool × Int × Vec 4 × Bool) × Int × Int × Unit) : Option (Vec 4 × Bool) := fn_rnd_Num_to N a.1 a.2.1 a.2.2.1
theorem ok64 (N : Nat) : FnOK Tryz.prog 64 ad64 rd64 (F64 N) :=
  fn_ok (N := N) (live := live64) (code := c64) (tok T64.rt T64.kl (wrNil_ok)) mixed (gok64 N) Tryz.func64 (by kernel_rfl) (by kernel_rfl) (by kernel_rfl) fun a p h => by rw [← h]; exact run64 N a.1 a.2.1 a.2.2.1

/-! ### (tiller/rnd.Num).tiny: function 65 -/
noncomputable def c65 : Code := (Tryz.f65.body).getD .skip
noncomputable def T65 : Tb := ⟨tyOf tys, [], [], wrNil⟩
noncomputable def G65 {R : Type} (N : Nat) : FuncId → List AV → (AV → Option R) → Option R := gCons 64 (gOf ad64 rd64 (F64 N)) (gCons 63 (gOf ad63 rd63 (F63 N)) (gNil))
theorem gok65 {R : Type} (N : Nat) : GOK Tryz.prog (G65 (R := R) N) := gCons_ok (ok64 N) (gCons_ok (ok63 N) (gNil_ok))
noncomputable def live65 : List (Nat × List (Nat × HK)) := []
noncomputable def ad65 : Ad ((Bool × Int × Vec 4 × Bool) × Int × Int × Unit) := aC (cSta (sC (pBool) (sC (pInt .i64) (sC (pVec .u64 4) (sO (pBool)))))) (aC (cInt .i64) (aC (cInt .i64) (a0)))
noncomputable def rd65 : Rd (Bool) := r1 (cBool)
noncomputable def fn_rnd_Num_tiny (N : Nat) (x0 : (Bool × Int × Vec 4 × Bool)) (x1 : Int) (x2 : Int) : Option (Bool) :=
  cond (leI (-1074) (subI .i64 x1 53))
   (some false)
   (cond (ltI x1 (-1022))
    (some true)
    ((fn_rnd_Num_to N (x0.1, x0.2.1, x0.2.2.1, x0.2.2.2) (subI .i64 x1 53) x2).bind fun r1 =>
     (fn_wide_Len N r1.1).bind fun r2 =>
      some (leI r2 53)))
theorem run65 (N : Nat) (x0 : (Bool × Int × Vec 4 × Bool)) (x1 : Int) (x2 : Int) : Eng.run T65 (G65 N) N live65 c65 Tryz.f65.results.toList Tryz.f65.ntmps ((ad65).enc (x0, x1, x2, ())) (rd65).dec = fn_rnd_Num_tiny N x0 x1 x2 := by kernel_rfl
noncomputable def F65 (N : Nat) (a : (Bool × Int × Vec 4 × Bool) × Int × Int × Unit) : Option (Bool) := fn_rnd_Num_tiny N a.1 a.2.1 a.2.2.1
theorem ok65 (N : Nat) : FnOK Tryz.prog 65 ad65 rd65 (F65 N) :=
  fn_ok (N := N) (live := live65) (code := c65) (tok T65.rt T65.kl (wrNil_ok)) mixed (gok65 N) Tryz.func65 (by kernel_rfl) (by kernel_rfl) (by kernel_rfl) fun a p h => by rw [← h]; exact run65 N a.1 a.2.1 a.2.2.1

/-! ### tiller/pat.Neg: function 10 -/
noncomputable def c10 : Code := (Tryz.f10.body).getD .skip
noncomputable def T10 : Tb := ⟨tyOf tys, [], [], wrNil⟩
noncomputable def G10 {R : Type} (N : Nat) : FuncId → List AV → (AV → Option R) → Option R := gNil
theorem gok10 {R : Type} (N : Nat) : GOK Tryz.prog (G10 (R := R) N) := gNil_ok
noncomputable def live10 : List (Nat × List (Nat × HK)) := []
noncomputable def ad10 : Ad (Int × Unit) := aC (cInt .u64) (a0)
noncomputable def rd10 : Rd (Int) := r1 (cInt .u64)
noncomputable def fn_pat_Neg (N : Nat) (x0 : Int) : Option (Int) :=
  some (xorI .u64 x0 9223372036854775808)
theorem run10 (N : Nat) (x0 : Int) : Eng.run T10 (G10 N) N live10 c10 Tryz.f10.results.toList Tryz.f10.ntmps ((ad10).enc (x0, ())) (rd10).dec = fn_pat_Neg N x0 := by kernel_rfl
noncomputable def F10 (N : Nat) (a : Int × Unit) : Option (Int) := fn_pat_Neg N a.1
theorem ok10 (N : Nat) : FnOK Tryz.prog 10 ad10 rd10 (F10 N) :=
  fn_ok (N := N) (live := live10) (code := c10) (tok T10.rt T10.kl (wrNil_ok)) mixed (gok10 N) Tryz.func10 (by kernel_rfl) (by kernel_rfl) (by kernel_rfl) fun a p h => by rw [← h]; exact run10 N a.1

/-! ### tiller/rnd.over: function 67 -/
noncomputable def c67 : Code := (Tryz.f67.body).getD .skip
noncomputable def T67 : Tb := ⟨tyOf tys, [], [], wrNil⟩
noncomputable def G67 {R : Type} (N : Nat) : FuncId → List AV → (AV → Option R) → Option R := gCons 10 (gOf ad10 rd10 (F10 N)) (gNil)
theorem gok67 {R : Type} (N : Nat) : GOK Tryz.prog (G67 (R := R) N) := gCons_ok (ok10 N) (gNil_ok)
noncomputable def live67 : List (Nat × List (Nat × HK)) := []
noncomputable def ad67 : Ad (Bool × Int × Unit) := aC (cBool) (aC (cInt .i64) (a0))
noncomputable def rd67 : Rd (Int) := r1 (cInt .u64)
noncomputable def fn_rnd_over (N : Nat) (x0 : Bool) (x1 : Int) : Option (Int) :=
  cond (eqI x1 2)
   (cond x0
    ((fn_pat_Neg N (subI .u64 9218868437227405312 1)).bind fun r1 =>
     some r1)
    (some (subI .u64 9218868437227405312 1)))
   (cond (eqI x1 3)
    (cond x0
     (cond x0
      ((fn_pat_Neg N (subI .u64 9218868437227405312 1)).bind fun r2 =>
       some r2)
      (some (subI .u64 9218868437227405312 1)))
     (cond (eqI x1 4)
      (cond (!(x0))
       (cond x0
        ((fn_pat_Neg N (subI .u64 9218868437227405312 1)).bind fun r3 =>
         some r3)
        (some (subI .u64 9218868437227405312 1)))
       (cond x0
        ((fn_pat_Neg N 9218868437227405312).bind fun r4 =>
         some r4)
        (some 9218868437227405312)))
      (cond x0
       ((fn_pat_Neg N 9218868437227405312).bind fun r5 =>
        some r5)
       (some 9218868437227405312))))
    (cond (eqI x1 4)
     (cond (!(x0))
      (cond x0
       ((fn_pat_Neg N (subI .u64 9218868437227405312 1)).bind fun r6 =>
        some r6)
       (some (subI .u64 9218868437227405312 1)))
      (cond x0
       ((fn_pat_Neg N 9218868437227405312).bind fun r7 =>
        some r7)
       (some 9218868437227405312)))
     (cond x0
      ((fn_pat_Neg N 9218868437227405312).bind fun r8 =>
       some r8)
      (some 9218868437227405312))))
theorem run67 (N : Nat) (x0 : Bool) (x1 : Int) : Eng.run T67 (G67 N) N live67 c67 Tryz.f67.results.toList Tryz.f67.ntmps ((ad67).enc (x0, x1, ())) (rd67).dec = fn_rnd_over N x0 x1 := by kernel_rfl
noncomputable def F67 (N : Nat) (a : Bool × Int × Unit) : Option (Int) := fn_rnd_over N a.1 a.2.1
theorem ok67 (N : Nat) : FnOK Tryz.prog 67 ad67 rd67 (F67 N) :=
  fn_ok (N := N) (live := live67) (code := c67) (tok T67.rt T67.kl (wrNil_ok)) mixed (gok67 N) Tryz.func67 (by kernel_rfl) (by kernel_rfl) (by kernel_rfl) fun a p h => by rw [← h]; exact run67 N a.1 a.2.1

/-! ### tiller/rnd.Round: function 27 -/
noncomputable def c27 : Code := (Tryz.f27.body).getD .skip
noncomputable def T27 : Tb := ⟨tyOf tys, [(15, 2), (19, 2), (23, 2), (25, 2), (58, 2), (62, 8), (73, 2)], [], wrNil⟩
noncomputable def G27 {R : Type} (N : Nat) : FuncId → List AV → (AV → Option R) → Option R := gCons 59 (gOf ad59 rd59 (F59 N)) (gCons 60 (gOf ad60 rd60 (F60 N)) (gCons 62 (gOf ad62 rd62 (F62 N)) (gCons 61 (gOf ad61 rd61 (F61 N)) (gCons 63 (gOf ad63 rd63 (F63 N)) (gCons 64 (gOf ad64 rd64 (F64 N)) (gCons 65 (gOf ad65 rd65 (F65 N)) (gCons 66 (gOf ad66 rd66 (F66 N)) (gCons 67 (gOf ad67 rd67 (F67 N)) (gNil)))))))))
theorem gok27 {R : Type} (N : Nat) : GOK Tryz.prog (G27 (R := R) N) := gCons_ok (ok59 N) (gCons_ok (ok60 N) (gCons_ok (ok62 N) (gCons_ok (ok61 N) (gCons_ok (ok63 N) (gCons_ok (ok64 N) (gCons_ok (ok65 N) (gCons_ok (ok66 N) (gCons_ok (ok67 N) (gNil_ok)))))))))
noncomputable def live27 : List (Nat × List (Nat × HK)) := []
noncomputable def ad27 : Ad ((Bool × Int × Vec 4 × Bool) × Int × Unit) := aC (cSta (sC (pBool) (sC (pInt .i64) (sC (pVec .u64 4) (sO (pBool)))))) (aC (cInt .i64) (a0))
noncomputable def rd27 : Rd (Int × Int) := r2 (cInt .u64) (cInt .u8)
noncomputable def fn_rnd_Round (N : Nat) (x0 : (Bool × Int × Vec 4 × Bool)) (x1 : Int) : Option (Int × Int) :=
  (fn_rnd_Num_near N (x0.1, x0.2.1, x0.2.2.1, x0.2.2.2)).bind fun r1 =>
   (fn_rnd_Num_exact N (r1.1, r1.2.1, r1.2.2.1, r1.2.2.2)).bind fun r2 =>
    cond (eqL r2.2.2.1.1 (Vec.zero 4).1)
     ((fn_rnd_sign N r2.1).bind fun r3 =>
      (fn_pat_Copy N 0 r3).bind fun r4 =>
       some (r4, 0))
     ((fn_wide_Len N r2.2.2.1).bind fun r5 =>
      (fn_rnd_Num_to N (r2.1, r2.2.1, r2.2.2.1, r2.2.2.2) (maxI (subI .i64 (addI .i64 r2.2.1 r5) 53) (-1074)) x1).bind fun r6 =>
       cond r6.2
        ((fn_rnd_Num_tiny N (r2.1, r2.2.1, r2.2.2.1, r2.2.2.2) (addI .i64 r2.2.1 r5) x1).bind fun r7 =>
         cond r7
          ((fn_wide_Len N r6.1).bind fun r8 =>
           cond (ltI 53 r8)
            ((fn_wide_Shr N r6.1 1).bind fun r9 =>
             cond (ltI 971 (addI .i64 (maxI (subI .i64 (addI .i64 r2.2.1 r5) 53) (-1074)) 1))
              ((fn_rnd_over N r2.1 x1).bind fun r10 =>
               some (r10, 20))
              (cond (leI 4503599627370496 (Vec.rd r9.1 0))
               ((fn_rnd_sign N r2.1).bind fun r11 =>
                (fn_pat_Copy N (addI .u64 (Vec.rd r9.1 0) (shlI .u64 (cvI .u64 (subI .i64 (addI .i64 (maxI (subI .i64 (addI .i64 r2.2.1 r5) 53) (-1074)) 1) (-1074))) 52)) r11).bind fun r12 =>
                 some (r12, orI .u8 16 8))
               ((fn_rnd_sign N r2.1).bind fun r13 =>
                (fn_pat_Copy N (Vec.rd r9.1 0) r13).bind fun r14 =>
                 some (r14, orI .u8 16 8))))
            (cond (ltI 971 (maxI (subI .i64 (addI .i64 r2.2.1 r5) 53) (-1074)))
             ((fn_rnd_over N r2.1 x1).bind fun r15 =>
              some (r15, 20))
             (cond (leI 4503599627370496 (Vec.rd r6.1 0))
              ((fn_rnd_sign N r2.1).bind fun r16 =>
               (fn_pat_Copy N (addI .u64 (Vec.rd r6.1 0) (shlI .u64 (cvI .u64 (subI .i64 (maxI (subI .i64 (addI .i64 r2.2.1 r5) 53) (-1074)) (-1074))) 52)) r16).bind fun r17 =>
                some (r17, orI .u8 16 8))
              ((fn_rnd_sign N r2.1).bind fun r18 =>
               (fn_pat_Copy N (Vec.rd r6.1 0) r18).bind fun r19 =>
                some (r19, orI .u8 16 8)))))
          ((fn_wide_Len N r6.1).bind fun r20 =>
           cond (ltI 53 r20)
            ((fn_wide_Shr N r6.1 1).bind fun r21 =>
             cond (ltI 971 (addI .i64 (maxI (subI .i64 (addI .i64 r2.2.1 r5) 53) (-1074)) 1))
              ((fn_rnd_over N r2.1 x1).bind fun r22 =>
               some (r22, 20))
              (cond (leI 4503599627370496 (Vec.rd r21.1 0))
               ((fn_rnd_sign N r2.1).bind fun r23 =>
                (fn_pat_Copy N (addI .u64 (Vec.rd r21.1 0) (shlI .u64 (cvI .u64 (subI .i64 (addI .i64 (maxI (subI .i64 (addI .i64 r2.2.1 r5) 53) (-1074)) 1) (-1074))) 52)) r23).bind fun r24 =>
                 some (r24, 16))
               ((fn_rnd_sign N r2.1).bind fun r25 =>
                (fn_pat_Copy N (Vec.rd r21.1 0) r25).bind fun r26 =>
                 some (r26, 16))))
            (cond (ltI 971 (maxI (subI .i64 (addI .i64 r2.2.1 r5) 53) (-1074)))
             ((fn_rnd_over N r2.1 x1).bind fun r27 =>
              some (r27, 20))
             (cond (leI 4503599627370496 (Vec.rd r6.1 0))
              ((fn_rnd_sign N r2.1).bind fun r28 =>
               (fn_pat_Copy N (addI .u64 (Vec.rd r6.1 0) (shlI .u64 (cvI .u64 (subI .i64 (maxI (subI .i64 (addI .i64 r2.2.1 r5) 53) (-1074)) (-1074))) 52)) r28).bind fun r29 =>
                some (r29, 16))
              ((fn_rnd_sign N r2.1).bind fun r30 =>
               (fn_pat_Copy N (Vec.rd r6.1 0) r30).bind fun r31 =>
                some (r31, 16))))))
        ((fn_wide_Len N r6.1).bind fun r32 =>
         cond (ltI 53 r32)
          ((fn_wide_Shr N r6.1 1).bind fun r33 =>
           cond (ltI 971 (addI .i64 (maxI (subI .i64 (addI .i64 r2.2.1 r5) 53) (-1074)) 1))
            ((fn_rnd_over N r2.1 x1).bind fun r34 =>
             some (r34, 20))
            (cond (leI 4503599627370496 (Vec.rd r33.1 0))
             ((fn_rnd_sign N r2.1).bind fun r35 =>
              (fn_pat_Copy N (addI .u64 (Vec.rd r33.1 0) (shlI .u64 (cvI .u64 (subI .i64 (addI .i64 (maxI (subI .i64 (addI .i64 r2.2.1 r5) 53) (-1074)) 1) (-1074))) 52)) r35).bind fun r36 =>
               some (r36, 0))
             ((fn_rnd_sign N r2.1).bind fun r37 =>
              (fn_pat_Copy N (Vec.rd r33.1 0) r37).bind fun r38 =>
               some (r38, 0))))
          (cond (ltI 971 (maxI (subI .i64 (addI .i64 r2.2.1 r5) 53) (-1074)))
           ((fn_rnd_over N r2.1 x1).bind fun r39 =>
            some (r39, 20))
           (cond (leI 4503599627370496 (Vec.rd r6.1 0))
            ((fn_rnd_sign N r2.1).bind fun r40 =>
             (fn_pat_Copy N (addI .u64 (Vec.rd r6.1 0) (shlI .u64 (cvI .u64 (subI .i64 (maxI (subI .i64 (addI .i64 r2.2.1 r5) 53) (-1074)) (-1074))) 52)) r40).bind fun r41 =>
              some (r41, 0))
            ((fn_rnd_sign N r2.1).bind fun r42 =>
             (fn_pat_Copy N (Vec.rd r6.1 0) r42).bind fun r43 =>
              some (r43, 0))))))
theorem run27 (N : Nat) (x0 : (Bool × Int × Vec 4 × Bool)) (x1 : Int) : Eng.run T27 (G27 N) N live27 c27 Tryz.f27.results.toList Tryz.f27.ntmps ((ad27).enc (x0, x1, ())) (rd27).dec = fn_rnd_Round N x0 x1 := by kernel_rfl
noncomputable def F27 (N : Nat) (a : (Bool × Int × Vec 4 × Bool) × Int × Unit) : Option (Int × Int) := fn_rnd_Round N a.1 a.2.1
theorem ok27 (N : Nat) : FnOK Tryz.prog 27 ad27 rd27 (F27 N) :=
  fn_ok (N := N) (live := live27) (code := c27) (tok T27.rt T27.kl (wrNil_ok)) mixed (gok27 N) Tryz.func27 (by kernel_rfl) (by kernel_rfl) (by kernel_rfl) fun a p h => by rw [← h]; exact run27 N a.1 a.2.1

/-! ### tiller/sums.Add: function 8 -/
noncomputable def c8 : Code := (Tryz.f8.body).getD .skip
noncomputable def T8 : Tb := ⟨tyOf tys, [], [], wrNil⟩
noncomputable def G8 {R : Type} (N : Nat) : FuncId → List AV → (AV → Option R) → Option R := gCons 23 (gOf ad23 rd23 (F23 N)) (gCons 24 (gOf ad24 rd24 (F24 N)) (gCons 25 (gOf ad25 rd25 (F25 N)) (gCons 26 (gOf ad26 rd26 (F26 N)) (gCons 28 (gOf ad28 rd28 (F28 N)) (gCons 27 (gOf ad27 rd27 (F27 N)) (gNil))))))
theorem gok8 {R : Type} (N : Nat) : GOK Tryz.prog (G8 (R := R) N) := gCons_ok (ok23 N) (gCons_ok (ok24 N) (gCons_ok (ok25 N) (gCons_ok (ok26 N) (gCons_ok (ok28 N) (gCons_ok (ok27 N) (gNil_ok))))))
noncomputable def live8 : List (Nat × List (Nat × HK)) := []
noncomputable def ad8 : Ad (Int × Int × Int × Unit) := aC (cInt .u64) (aC (cInt .u64) (aC (cInt .i64) (a0)))
noncomputable def rd8 : Rd (Int × Int) := r2 (cInt .u64) (cInt .u8)
noncomputable def fn_sums_Add (N : Nat) (x0 : Int) (x1 : Int) (x2 : Int) : Option (Int × Int) :=
  (fn_pat_IsNaN N x0).bind fun r1 =>
   cond r1
    ((fn_sums_none N [x0, x1]).bind fun r2 =>
     some (r2.1, r2.2))
    ((fn_pat_IsNaN N x1).bind fun r3 =>
     cond r3
      ((fn_sums_none N [x0, x1]).bind fun r4 =>
       some (r4.1, r4.2))
      ((fn_pat_Class N x0).bind fun r5 =>
       cond (eqI r5 3)
        ((fn_pat_Class N x1).bind fun r6 =>
         cond (eqI r6 3)
          (cond (!(eqI x0 x1))
           (some (9221120237041090560, 1))
           ((fn_pat_Class N x0).bind fun r7 =>
            cond (eqI r7 3)
             (some (x0, 0))
             ((fn_pat_Class N x1).bind fun r8 =>
              cond (eqI r8 3)
               (some (x1, 0))
               ((fn_rnd_Of N x0).bind fun r9 =>
                (fn_rnd_Of N x1).bind fun r10 =>
                 cond (!(isNoneI r9.2))
                  ((fn_sums_none N [x0, x1]).bind fun r11 =>
                   some (r11.1, r11.2))
                  (cond (!(isNoneI r10.2))
                   ((fn_sums_none N [x0, x1]).bind fun r12 =>
                    some (r12.1, r12.2))
                   ((fn_sums_join N (r9.1.1, r9.1.2.1, r9.1.2.2.1, r9.1.2.2.2) (r10.1.1, r10.1.2.1, r10.1.2.2.1, r10.1.2.2.2) x2).bind fun r13 =>
                    (fn_rnd_Round N (r13.1, r13.2.1, r13.2.2.1, r13.2.2.2) x2).bind fun r14 =>
                     some (r14.1, r14.2)))))))
          ((fn_pat_Class N x0).bind fun r15 =>
           cond (eqI r15 3)
            (some (x0, 0))
            ((fn_pat_Class N x1).bind fun r16 =>
             cond (eqI r16 3)
              (some (x1, 0))
              ((fn_rnd_Of N x0).bind fun r17 =>
               (fn_rnd_Of N x1).bind fun r18 =>
                cond (!(isNoneI r17.2))
                 ((fn_sums_none N [x0, x1]).bind fun r19 =>
                  some (r19.1, r19.2))
                 (cond (!(isNoneI r18.2))
                  ((fn_sums_none N [x0, x1]).bind fun r20 =>
                   some (r20.1, r20.2))
                  ((fn_sums_join N (r17.1.1, r17.1.2.1, r17.1.2.2.1, r17.1.2.2.2) (r18.1.1, r18.1.2.1, r18.1.2.2.1, r18.1.2.2.2) x2).bind fun r21 =>
                   (fn_rnd_Round N (r21.1, r21.2.1, r21.2.2.1, r21.2.2.2) x2).bind fun r22 =>
                    some (r22.1, r22.2)))))))
        ((fn_pat_Class N x0).bind fun r23 =>
         cond (eqI r23 3)
          (some (x0, 0))
          ((fn_pat_Class N x1).bind fun r24 =>
           cond (eqI r24 3)
            (some (x1, 0))
            ((fn_rnd_Of N x0).bind fun r25 =>
             (fn_rnd_Of N x1).bind fun r26 =>
              cond (!(isNoneI r25.2))
               ((fn_sums_none N [x0, x1]).bind fun r27 =>
                some (r27.1, r27.2))
               (cond (!(isNoneI r26.2))
                ((fn_sums_none N [x0, x1]).bind fun r28 =>
                 some (r28.1, r28.2))
                ((fn_sums_join N (r25.1.1, r25.1.2.1, r25.1.2.2.1, r25.1.2.2.2) (r26.1.1, r26.1.2.1, r26.1.2.2.1, r26.1.2.2.2) x2).bind fun r29 =>
                 (fn_rnd_Round N (r29.1, r29.2.1, r29.2.2.1, r29.2.2.2) x2).bind fun r30 =>
                  some (r30.1, r30.2))))))))
theorem run8 (N : Nat) (x0 : Int) (x1 : Int) (x2 : Int) : Eng.run T8 (G8 N) N live8 c8 Tryz.f8.results.toList Tryz.f8.ntmps ((ad8).enc (x0, x1, x2, ())) (rd8).dec = fn_sums_Add N x0 x1 x2 := by kernel_rfl
noncomputable def F8 (N : Nat) (a : Int × Int × Int × Unit) : Option (Int × Int) := fn_sums_Add N a.1 a.2.1 a.2.2.1
theorem ok8 (N : Nat) : FnOK Tryz.prog 8 ad8 rd8 (F8 N) :=
  fn_ok (N := N) (live := live8) (code := c8) (tok T8.rt T8.kl (wrNil_ok)) mixed (gok8 N) Tryz.func8 (by kernel_rfl) (by kernel_rfl) (by kernel_rfl) fun a p h => by rw [← h]; exact run8 N a.1 a.2.1 a.2.2.1

/-! ### tiller/show.special: function 14 -/
noncomputable def c14 : Code := (Tryz.f14.body).getD .skip
noncomputable def T14 : Tb := ⟨tyOf tys, [(11, 4), (15, 4), (19, 4)], [], wrNil⟩
noncomputable def G14 {R : Type} (N : Nat) : FuncId → List AV → (AV → Option R) → Option R := gCons 15 (gOf ad15 rd15 (F15 N)) (gCons 23 (gOf ad23 rd23 (F23 N)) (gNil))
theorem gok14 {R : Type} (N : Nat) : GOK Tryz.prog (G14 (R := R) N) := gCons_ok (ok15 N) (gCons_ok (ok23 N) (gNil_ok))
noncomputable def live14 : List (Nat × List (Nat × HK)) := []
noncomputable def ad14 : Ad (Int × Unit) := aC (cInt .u64) (a0)
noncomputable def rd14 : Rd (ByteArray × Bool) := r2 (cStr) (cBool)
noncomputable def fn_show_special (N : Nat) (x0 : Int) : Option (ByteArray × Bool) :=
  (fn_pat_Take N x0).bind fun r1 =>
   (fn_pat_IsNaN N x0).bind fun r2 =>
    cond r2
     (some ((⟨#[110, 97, 110]⟩ : ByteArray), true))
     (cond (eqI r1.2.1 3)
      (cond r1.1
       (some ((⟨#[45, 105, 110, 102]⟩ : ByteArray), true))
       (cond (eqI r1.2.1 3)
        (some ((⟨#[105, 110, 102]⟩ : ByteArray), true))
        (some ((⟨#[]⟩ : ByteArray), false))))
      (cond (eqI r1.2.1 3)
       (some ((⟨#[105, 110, 102]⟩ : ByteArray), true))
       (some ((⟨#[]⟩ : ByteArray), false))))
theorem run14 (N : Nat) (x0 : Int) : Eng.run T14 (G14 N) N live14 c14 Tryz.f14.results.toList Tryz.f14.ntmps ((ad14).enc (x0, ())) (rd14).dec = fn_show_special N x0 := by kernel_rfl
noncomputable def F14 (N : Nat) (a : Int × Unit) : Option (ByteArray × Bool) := fn_show_special N a.1
theorem ok14 (N : Nat) : FnOK Tryz.prog 14 ad14 rd14 (F14 N) :=
  fn_ok (N := N) (live := live14) (code := c14) (tok T14.rt T14.kl (wrNil_ok)) mixed (gok14 N) Tryz.func14 (by kernel_rfl) (by kernel_rfl) (by kernel_rfl) fun a p h => by rw [← h]; exact run14 N a.1

/-! ### tiller/nat.trim: function 80 -/
noncomputable def c80 : Code := (Tryz.f80.body).getD .skip
noncomputable def T80 : Tb := ⟨tyOf tys, [], [], wrNil⟩
noncomputable def G80 {R : Type} (N : Nat) : FuncId → List AV → (AV → Option R) → Option R := gNil
theorem gok80 {R : Type} (N : Nat) : GOK Tryz.prog (G80 (R := R) N) := gNil_ok
noncomputable def live80 : List (Nat × List (Nat × HK)) := [(1, [(0, .keep)])]
noncomputable def ad80 : Ad (List Int × Unit) := aC (cLi .u32) (a0)
noncomputable def rd80 : Rd (List Int) := r1 (cLi .u32)
noncomputable def st80_0 (v0 : List Int) : St := ⟨[AV.li .u32 v0, AV.none, AV.none, AV.none, AV.none, AV.none, AV.none, AV.none, AV.none, AV.none, AV.none, AV.none, AV.none, AV.none, AV.none, AV.none, AV.none, AV.none, AV.none, AV.none, AV.none], [none, none, none, none, none, none, none, none, none, none, none, none, none, none, none, none, none, none, none, none, none]⟩
noncomputable def raw80_0 (N : Nat) (n : Nat) (v0 : List Int) : Option (List Int) := loopN (lookN live80 1) (exec T80 (G80 N) N live80 (cL (cL (cL (cR c80))))) n (st80_0 v0) (blockK 0 (seqK (exec T80 (G80 N) N live80 (cR (cR c80))) (retK T80 Tryz.f80.results.toList (rd80).dec)))
noncomputable def s80_0 (N : Nat) (Ln0 : List Int → Option (List Int)) (v0 : List Int) : Option (List Int) :=
  cond (ltI 0 (v0.length : Int))
   (cond (leI 0 (subI .i64 (v0.length : Int) 1))
    (cond (ltI (subI .i64 (v0.length : Int) 1) (v0.length : Int))
     (cond (eqI (lrd v0 (subI .i64 (v0.length : Int) 1)) 0)
      (cond (((((leI 0 0) && (leI 0 (subI .i64 (v0.length : Int) 1))) && (leI (subI .i64 (v0.length : Int) 1) (v0.length : Int))) && (leI (v0.length : Int) (v0.length : Int))) && (true || true))
       (Ln0 ((v0.take ((subI .i64 (v0.length : Int) 1).toNat)).drop ((0 : Int).toNat)))
       (none))
      (some v0))
     (none))
    (none))
   (some v0)
theorem step80_0 (N : Nat) (n : Nat) (v0 : List Int) : raw80_0 N  (n + 1) v0 = s80_0 N (raw80_0 N  n) v0 := by kernel_rfl
noncomputable def l80_0 (N : Nat) : Nat → List Int → Option (List Int)
  | 0 => fun _ => none
  | n + 1 => fun v0 => s80_0 N (l80_0 N  n) v0
theorem eq80_0 (N : Nat) : ∀ n, raw80_0 N  n = l80_0 N  n := by
  intro n
  induction n with
  | zero => exact funext fun v0 => rfl
  | succ n ih => exact funext fun v0 => by rw [step80_0, ih]; rfl
noncomputable def t80 (N : Nat) (Le0 : List Int → Option (List Int)) (x0 : List Int) : Option (List Int) :=
  Le0 x0
noncomputable def fn_nat_trim (N : Nat) (x0 : List Int) : Option (List Int) := t80 N (l80_0 N N) x0
theorem run80 (N : Nat) (x0 : List Int) : Eng.run T80 (G80 N) N live80 c80 Tryz.f80.results.toList Tryz.f80.ntmps ((ad80).enc (x0, ())) (rd80).dec = fn_nat_trim N x0 := by
  refine Eq.trans (show _ = t80 N (raw80_0 N N) x0 from by kernel_rfl) ?_
  unfold fn_nat_trim
  rw [eq80_0 N N]
noncomputable def F80 (N : Nat) (a : List Int × Unit) : Option (List Int) := fn_nat_trim N a.1
theorem ok80 (N : Nat) : FnOK Tryz.prog 80 ad80 rd80 (F80 N) :=
  fn_ok (N := N) (live := live80) (code := c80) (tok T80.rt T80.kl (wrNil_ok)) mixed (gok80 N) Tryz.func80 (by kernel_rfl) (by kernel_rfl) (by kernel_rfl) fun a p h => by rw [← h]; exact run80 N a.1

/-! ### tiller/nat.Of: function 40 -/
noncomputable def c40 : Code := (Tryz.f40.body).getD .skip
noncomputable def T40 : Tb := ⟨tyOf tys, [], [9], wrNil⟩
noncomputable def G40 {R : Type} (N : Nat) : FuncId → List AV → (AV → Option R) → Option R := gCons 80 (gOf ad80 rd80 (F80 N)) (gNil)
theorem gok40 {R : Type} (N : Nat) : GOK Tryz.prog (G40 (R := R) N) := gCons_ok (ok80 N) (gNil_ok)
noncomputable def live40 : List (Nat × List (Nat × HK)) := []
noncomputable def ad40 : Ad (Int × Unit) := aC (cInt .u64) (a0)
noncomputable def rd40 : Rd (List Int) := r1 (cLi .u32)
noncomputable def fn_nat_Of (N : Nat) (x0 : Int) : Option (List Int) :=
  (fn_nat_trim N [cvI .u32 x0, cvI .u32 (shrI .u64 x0 32)]).bind fun r1 =>
   some r1
theorem run40 (N : Nat) (x0 : Int) : Eng.run T40 (G40 N) N live40 c40 Tryz.f40.results.toList Tryz.f40.ntmps ((ad40).enc (x0, ())) (rd40).dec = fn_nat_Of N x0 := by kernel_rfl
noncomputable def F40 (N : Nat) (a : Int × Unit) : Option (List Int) := fn_nat_Of N a.1
theorem ok40 (N : Nat) : FnOK Tryz.prog 40 ad40 rd40 (F40 N) :=
  fn_ok (N := N) (live := live40) (code := c40) (tok T40.rt T40.kl (wrNil_ok)) mixed (gok40 N) Tryz.func40 (by kernel_rfl) (by kernel_rfl) (by kernel_rfl) fun a p h => by rw [← h]; exact run40 N a.1

/-! ### tiller/nat.Check: function 81 -/
noncomputable def c81 : Code := (Tryz.f81.body).getD .skip
noncomputable def T81 : Tb := ⟨tyOf tys, [], [], wrNil⟩
noncomputable def G81 {R : Type} (N : Nat) : FuncId → List AV → (AV → Option R) → Option R := gNil
theorem gok81 {R : Type} (N : Nat) : GOK Tryz.prog (G81 (R := R) N) := gNil_ok
noncomputable def live81 : List (Nat × List (Nat × HK)) := []
noncomputable def ad81 : Ad (List Int × Unit) := aC (cLi .u32) (a0)
noncomputable def rd81 : Rd (Option Int) := r1 (cErr 34)
noncomputable def fn_nat_Check (N : Nat) (x0 : List Int) : Option (Option Int) :=
  cond (ltI 8192 (x0.length : Int))
   (some (some 1))
   (cond (ltI 0 (x0.length : Int))
    (cond (leI 0 (subI .i64 (x0.length : Int) 1))
     (cond (ltI (subI .i64 (x0.length : Int) 1) (x0.length : Int))
      (cond (eqI (lrd x0 (subI .i64 (x0.length : Int) 1)) 0)
       (some (some 1))
       (some none))
      (none))
     (none))
    (some none))
theorem run81 (N : Nat) (x0 : List Int) : Eng.run T81 (G81 N) N live81 c81 Tryz.f81.results.toList Tryz.f81.ntmps ((ad81).enc (x0, ())) (rd81).dec = fn_nat_Check N x0 := by kernel_rfl
noncomputable def F81 (N : Nat) (a : List Int × Unit) : Option (Option Int) := fn_nat_Check N a.1
theorem ok81 (N : Nat) : FnOK Tryz.prog 81 ad81 rd81 (F81 N) :=
  fn_ok (N := N) (live := live81) (code := c81) (tok T81.rt T81.kl (wrNil_ok)) mixed (gok81 N) Tryz.func81 (by kernel_rfl) (by kernel_rfl) (by kernel_rfl) fun a p h => by rw [← h]; exact run81 N a.1

/-! ### tiller/nat.up: function 103 -/
noncomputable def c103 : Code := (Tryz.f103.body).getD .skip
noncomputable def T103 : Tb := ⟨tyOf tys, [(38, 5), (43, 5), (53, 5)], [56], wrNil⟩
noncomputable def G103 {R : Type} (N : Nat) : FuncId → List AV → (AV → Option R) → Option R := gCons 80 (gOf ad80 rd80 (F80 N)) (gNil)
theorem gok103 {R : Type} (N : Nat) : GOK Tryz.prog (G103 (R := R) N) := gCons_ok (ok80 N) (gNil_ok)
noncomputable def live103 : List (Nat × List (Nat × HK)) := [(6, [(1, .keep), (5, .row .u32 125), (6, .keep), (22, .keep), (23, .keep), (24, .keep)])]
noncomputable def ad103 : Ad (List Int × Int × Unit) := aC (cLi .u32) (aC (cInt .i64) (a0))
noncomputable def rd103 : Rd (List Int) := r1 (cLi .u32)
noncomputable def st103_0 (v0 : Int) (v1 : Int) (v2 : List Int) (v3 : Int) (v4 : Int) (v5 : List Int) : St := ⟨[AV.none, AV.v (.int .i64 v0), AV.none, AV.none, AV.none, AV.own 5, AV.v (.int .i64 v1), AV.none, AV.none, AV.none, AV.none, AV.none, AV.none, AV.none, AV.none, AV.none, AV.none, AV.none, AV.none, AV.none, AV.none, AV.none, AV.li .u32 v2, AV.v (.int .i64 v3), AV.v (.int .i64 v4), AV.none, AV.none, AV.none, AV.none, AV.none, AV.none, AV.none, AV.none, AV.none, AV.none, AV.none, AV.none, AV.none, AV.none, AV.none, AV.none, AV.none, AV.none, AV.none, AV.none, AV.none, AV.none, AV.none, AV.none, AV.none, AV.none, AV.none, AV.none, AV.none, AV.none, AV.none, AV.none], [none, none, none, none, none, some (OB.row .u32 125 v5), none, none, none, none, none, none, none, none, none, none, none, none, none, none, none, none, none, none, none, none, none, none, none, none, none, none, none, none, none, none, none, none, none, none, none, none, none, none, none, none, none, none, none, none, none, none, none, none, none, none, none]⟩
noncomputable def raw103_0 (N : Nat) (n : Nat) (v0 : Int) (v1 : Int) (v2 : List Int) (v3 : Int) (v4 : Int) (v5 : List Int) : Option (List Int) := loopN (lookN live103 6) (exec T103 (G103 N) N live103 (cL (cL (cR (cL (cR (cR (cR (cR c103))))))))) n (st103_0 v0 v1 v2 v3 v4 v5) (blockK 0 (seqK (exec T103 (G103 N) N live103 (cR (cR (cR (cR (cR c103)))))) (retK T103 Tryz.f103.results.toList (rd103).dec)))
noncomputable def s103_0 (N : Nat) (Ln0 : Int → Int → List Int → Int → Int → List Int → Option (List Int)) (v0 : Int) (v1 : Int) (v2 : List Int) (v3 : Int) (v4 : Int) (v5 : List Int) : Option (List Int) :=
  cond (ltI v4 v3)
   (cond (leI 0 v4)
    (cond (ltI v4 (v2.length : Int))
     (cond (ltI v1 0)
      (none)
      (cond (leI 0 (addI .i64 v4 (quoI .i64 v0 32)))
       (cond (ltI (addI .i64 v4 (quoI .i64 v0 32)) (v5.length : Int))
        (cond (leI 0 (addI .i64 v4 (quoI .i64 v0 32)))
         (cond (ltI (addI .i64 v4 (quoI .i64 v0 32)) (v5.length : Int))
          (cond (leI 0 (addI .i64 (addI .i64 v4 (quoI .i64 v0 32)) 1))
           (cond (ltI (addI .i64 (addI .i64 v4 (quoI .i64 v0 32)) 1) ((v5.set ((addI .i64 v4 (quoI .i64 v0 32)).toNat) (orI .u32 (lrd v5 (addI .i64 v4 (quoI .i64 v0 32))) (cvI .u32 (shlI .u64 (cvI .u64 (lrd v2 v4)) v1)))).length : Int))
            (Ln0 v0 v1 v2 v3 (addI .i64 v4 1) ((v5.set ((addI .i64 v4 (quoI .i64 v0 32)).toNat) (orI .u32 (lrd v5 (addI .i64 v4 (quoI .i64 v0 32))) (cvI .u32 (shlI .u64 (cvI .u64 (lrd v2 v4)) v1)))).set ((addI .i64 (addI .i64 v4 (quoI .i64 v0 32)) 1).toNat) (cvI .u32 (shrI .u64 (shlI .u64 (cvI .u64 (lrd v2 v4)) v1) 32))))
            (none))
           (none))
          (none))
         (none))
        (none))
       (none)))
     (none))
    (none))
   ((fn_nat_trim N v5).bind fun r1 =>
    some r1)
theorem step103_0 (N : Nat) (n : Nat) (v0 : Int) (v1 : Int) (v2 : List Int) (v3 : Int) (v4 : Int) (v5 : List Int) : raw103_0 N  (n + 1) v0 v1 v2 v3 v4 v5 = s103_0 N (raw103_0 N  n) v0 v1 v2 v3 v4 v5 := by kernel_rfl
noncomputable def l103_0 (N : Nat) : Nat → Int → Int → List Int → Int → Int → List Int → Option (List Int)
  | 0 => fun _ _ _ _ _ _ => none
  | n + 1 => fun v0 v1 v2 v3 v4 v5 => s103_0 N (l103_0 N  n) v0 v1 v2 v3 v4 v5
theorem eq103_0 (N : Nat) : ∀ n, raw103_0 N  n = l103_0 N  n := by
  intro n
  induction n with
  | zero => exact funext fun v0 => funext fun v1 => funext fun v2 => funext fun v3 => funext fun v4 => funext fun v5 => rfl
  | succ n ih => exact funext fun v0 => funext fun v1 => funext fun v2 => funext fun v3 => funext fun v4 => funext fun v5 => by rw [step103_0, ih]; rfl
noncomputable def t103 (N : Nat) (Le0 : Int → Int → List Int → Int → Int → List Int → Option (List Int)) (x0 : List Int) (x1 : Int) : Option (List Int) :=
  cond (eqI (x0.length : Int) 0)
   (some [])
   (cond (leI 0 (addI .i64 (addI .i64 (x0.length : Int) (quoI .i64 x1 32)) 1))
    (cond (leI (addI .i64 (addI .i64 (x0.length : Int) (quoI .i64 x1 32)) 1) 17592186044416)
     (Le0 x1 (remI .i64 x1 32) x0 (x0.length : Int) 0 (List.replicate ((addI .i64 (addI .i64 (x0.length : Int) (quoI .i64 x1 32)) 1).toNat) (0 : Int)))
     (none))
    (none))
noncomputable def fn_nat_up (N : Nat) (x0 : List Int) (x1 : Int) : Option (List Int) := t103 N (l103_0 N N) x0 x1
theorem run103 (N : Nat) (x0 : List Int) (x1 : Int) : Eng.run T103 (G103 N) N live103 c103 Tryz.f103.results.toList Tryz.f103.ntmps ((ad103).enc (x0, x1, ())) (rd103).dec = fn_nat_up N x0 x1 := by
  refine Eq.trans (show _ = t103 N (raw103_0 N N) x0 x1 from by kernel_rfl) ?_
  unfold fn_nat_up
  rw [eq103_0 N N]
noncomputable def F103 (N : Nat) (a : List Int × Int × Unit) : Option (List Int) := fn_nat_up N a.1 a.2.1
theorem ok103 (N : Nat) : FnOK Tryz.prog 103 ad103 rd103 (F103 N) :=
  fn_ok (N := N) (live := live103) (code := c103) (tok T103.rt T103.kl (wrNil_ok)) mixed (gok103 N) Tryz.func103 (by kernel_rfl) (by kernel_rfl) (by kernel_rfl) fun a p h => by rw [← h]; exact run103 N a.1 a.2.1

/-! ### slices.Clip[tiller/nat.N,uint32]: function 124 -/
noncomputable def c124 : Code := (Tryz.f124.body).getD .skip
noncomputable def T124 : Tb := ⟨tyOf tys, [], [], wrNil⟩
noncomputable def G124 {R : Type} (N : Nat) : FuncId → List AV → (AV → Option R) → Option R := gNil
theorem gok124 {R : Type} (N : Nat) : GOK Tryz.prog (G124 (R := R) N) := gNil_ok
noncomputable def live124 : List (Nat × List (Nat × HK)) := []
noncomputable def ad124 : Ad (List Int × Unit) := aC (cLi .u32) (a0)
noncomputable def rd124 : Rd (List Int) := r1 (cLi .u32)
noncomputable def fn_nat_N_uint32 (N : Nat) (x0 : List Int) : Option (List Int) :=
  cond (((((leI 0 0) && (leI 0 (x0.length : Int))) && (leI (x0.length : Int) (x0.length : Int))) && (leI (x0.length : Int) (x0.length : Int))) && (true || false))
   (some ((x0.take ((x0.length : Int).toNat)).drop ((0 : Int).toNat)))
   (none)
theorem run124 (N : Nat) (x0 : List Int) : Eng.run T124 (G124 N) N live124 c124 Tryz.f124.results.toList Tryz.f124.ntmps ((ad124).enc (x0, ())) (rd124).dec = fn_nat_N_uint32 N x0 := by kernel_rfl
noncomputable def F124 (N : Nat) (a : List Int × Unit) : Option (List Int) := fn_nat_N_uint32 N a.1
theorem ok124 (N : Nat) : FnOK Tryz.prog 124 ad124 rd124 (F124 N) :=
  fn_ok (N := N) (live := live124) (code := c124) (tok T124.rt T124.kl (wrNil_ok)) mixed (gok124 N) Tryz.func124 (by kernel_rfl) (by kernel_rfl) (by kernel_rfl) fun a p h => by rw [← h]; exact run124 N a.1

/-! ### tiller/nat.bounded: function 101 -/
noncomputable def c101 : Code := (Tryz.f101.body).getD .skip
noncomputable def T101 : Tb := ⟨tyOf tys, [], [], wrNil⟩
noncomputable def G101 {R : Type} (N : Nat) : FuncId → List AV → (AV → Option R) → Option R := gCons 80 (gOf ad80 rd80 (F80 N)) (gCons 124 (gOf ad124 rd124 (F124 N)) (gNil))
theorem gok101 {R : Type} (N : Nat) : GOK Tryz.prog (G101 (R := R) N) := gCons_ok (ok80 N) (gCons_ok (ok124 N) (gNil_ok))
noncomputable def live101 : List (Nat × List (Nat × HK)) := []
noncomputable def ad101 : Ad (List Int × Unit) := aC (cLi .u32) (a0)
noncomputable def rd101 : Rd (List Int × Option Int) := r2 (cLi .u32) (cErr 34)
noncomputable def fn_nat_bounded (N : Nat) (x0 : List Int) : Option (List Int × Option Int) :=
  (fn_nat_trim N x0).bind fun r1 =>
   cond (ltI 8192 (r1.length : Int))
    (some ([], some 2))
    ((fn_nat_N_uint32 N r1).bind fun r2 =>
     some (r2, none))
theorem run101 (N : Nat) (x0 : List Int) : Eng.run T101 (G101 N) N live101 c101 Tryz.f101.results.toList Tryz.f101.ntmps ((ad101).enc (x0, ())) (rd101).dec = fn_nat_bounded N x0 := by kernel_rfl
noncomputable def F101 (N : Nat) (a : List Int × Unit) : Option (List Int × Option Int) := fn_nat_bounded N a.1
theorem ok101 (N : Nat) : FnOK Tryz.prog 101 ad101 rd101 (F101 N) :=
  fn_ok (N := N) (live := live101) (code := c101) (tok T101.rt T101.kl (wrNil_ok)) mixed (gok101 N) Tryz.func101 (by kernel_rfl) (by kernel_rfl) (by kernel_rfl) fun a p h => by rw [← h]; exact run101 N a.1

/-! ### tiller/nat.Shl: function 76 -/
noncomputable def c76 : Code := (Tryz.f76.body).getD .skip
noncomputable def T76 : Tb := ⟨tyOf tys, [], [], wrNil⟩
noncomputable def G76 {R : Type} (N : Nat) : FuncId → List AV → (AV → Option R) → Option R := gCons 81 (gOf ad81 rd81 (F81 N)) (gCons 103 (gOf ad103 rd103 (F103 N)) (gCons 101 (gOf ad101 rd101 (F101 N)) (gNil)))
theorem gok76 {R : Type} (N : Nat) : GOK Tryz.prog (G76 (R := R) N) := gCons_ok (ok81 N) (gCons_ok (ok103 N) (gCons_ok (ok101 N) (gNil_ok)))
noncomputable def live76 : List (Nat × List (Nat × HK)) := []
noncomputable def ad76 : Ad (List Int × Int × Unit) := aC (cLi .u32) (aC (cInt .i64) (a0))
noncomputable def rd76 : Rd (List Int × Option Int) := r2 (cLi .u32) (cErr 34)
noncomputable def fn_nat_Shl (N : Nat) (x0 : List Int) (x1 : Int) : Option (List Int × Option Int) :=
  (fn_nat_Check N x0).bind fun r1 =>
   cond (!(isNoneI r1))
    (some ([], some 1))
    (cond (ltI x1 0)
     (some ([], some 1))
     (cond (eqI (x0.length : Int) 0)
      (some ([], none))
      (cond (ltI 262144 x1)
       (some ([], some 2))
       ((fn_nat_up N x0 x1).bind fun r2 =>
        (fn_nat_bounded N r2).bind fun r3 =>
         some (r3.1, r3.2)))))
theorem run76 (N : Nat) (x0 : List Int) (x1 : Int) : Eng.run T76 (G76 N) N live76 c76 Tryz.f76.results.toList Tryz.f76.ntmps ((ad76).enc (x0, x1, ())) (rd76).dec = fn_nat_Shl N x0 x1 := by kernel_rfl
noncomputable def F76 (N : Nat) (a : List Int × Int × Unit) : Option (List Int × Option Int) := fn_nat_Shl N a.1 a.2.1
theorem ok76 (N : Nat) : FnOK Tryz.prog 76 ad76 rd76 (F76 N) :=
  fn_ok (N := N) (live := live76) (code := c76) (tok T76.rt T76.kl (wrNil_ok)) mixed (gok76 N) Tryz.func76 (by kernel_rfl) (by kernel_rfl) (by kernel_rfl) fun a p h => by rw [← h]; exact run76 N a.1 a.2.1

/-! ### tiller/show.up: function 39 -/
noncomputable def c39 : Code := (Tryz.f39.body).getD .skip
noncomputable def T39 : Tb := ⟨tyOf tys, [], [], wrNil⟩
noncomputable def G39 {R : Type} (N : Nat) : FuncId → List AV → (AV → Option R) → Option R := gCons 76 (gOf ad76 rd76 (F76 N)) (gNil)
theorem gok39 {R : Type} (N : Nat) : GOK Tryz.prog (G39 (R := R) N) := gCons_ok (ok76 N) (gNil_ok)
noncomputable def live39 : List (Nat × List (Nat × HK)) := []
noncomputable def ad39 : Ad (List Int × Int × Unit) := aC (cLi .u32) (aC (cInt .i64) (a0))
noncomputable def rd39 : Rd (List Int) := r1 (cLi .u32)
noncomputable def fn_show_up (N : Nat) (x0 : List Int) (x1 : Int) : Option (List Int) :=
  (fn_nat_Shl N x0 x1).bind fun r1 =>
   cond (!(isNoneI r1.2))
    (some [])
    (some r1.1)
theorem run39 (N : Nat) (x0 : List Int) (x1 : Int) : Eng.run T39 (G39 N) N live39 c39 Tryz.f39.results.toList Tryz.f39.ntmps ((ad39).enc (x0, x1, ())) (rd39).dec = fn_show_up N x0 x1 := by kernel_rfl
noncomputable def F39 (N : Nat) (a : List Int × Int × Unit) : Option (List Int) := fn_show_up N a.1 a.2.1
theorem ok39 (N : Nat) : FnOK Tryz.prog 39 ad39 rd39 (F39 N) :=
  fn_ok (N := N) (live := live39) (code := c39) (tok T39.rt T39.kl (wrNil_ok)) mixed (gok39 N) Tryz.func39 (by kernel_rfl) (by kernel_rfl) (by kernel_rfl) fun a p h => by rw [← h]; exact run39 N a.1 a.2.1

/-! ### tiller/show.of: function 17 -/
noncomputable def c17 : Code := (Tryz.f17.body).getD .skip
noncomputable def T17 : Tb := ⟨tyOf tys, [], [], wrNil⟩
noncomputable def G17 {R : Type} (N : Nat) : FuncId → List AV → (AV → Option R) → Option R := gCons 40 (gOf ad40 rd40 (F40 N)) (gCons 39 (gOf ad39 rd39 (F39 N)) (gNil))
theorem gok17 {R : Type} (N : Nat) : GOK Tryz.prog (G17 (R := R) N) := gCons_ok (ok40 N) (gCons_ok (ok39 N) (gNil_ok))
noncomputable def live17 : List (Nat × List (Nat × HK)) := []
noncomputable def ad17 : Ad (Int × Int × Unit) := aC (cInt .u64) (aC (cInt .i64) (a0))
noncomputable def rd17 : Rd ((List Int × List Int)) := r1 (cSt (fC (lLi .u32) (fO (lLi .u32))))
noncomputable def fn_show_of (N : Nat) (x0 : Int) (x1 : Int) : Option ((List Int × List Int)) :=
  cond (leI 0 x1)
   ((fn_nat_Of N x0).bind fun r1 =>
    (fn_show_up N r1 x1).bind fun r2 =>
     (fn_nat_Of N 1).bind fun r3 =>
      some (r2, r3))
   ((fn_nat_Of N x0).bind fun r4 =>
    (fn_nat_Of N 1).bind fun r5 =>
     (fn_show_up N r5 (subI .i64 0 x1)).bind fun r6 =>
      some (r4, r6))
theorem run17 (N : Nat) (x0 : Int) (x1 : Int) : Eng.run T17 (G17 N) N live17 c17 Tryz.f17.results.toList Tryz.f17.ntmps ((ad17).enc (x0, x1, ())) (rd17).dec = fn_show_of N x0 x1 := by kernel_rfl
noncomputable def F17 (N : Nat) (a : Int × Int × Unit) : Option ((List Int × List Int)) := fn_show_of N a.1 a.2.1
theorem ok17 (N : Nat) : FnOK Tryz.prog 17 ad17 rd17 (F17 N) :=
  fn_ok (N := N) (live := live17) (code := c17) (tok T17.rt T17.kl (wrNil_ok)) mixed (gok17 N) Tryz.func17 (by kernel_rfl) (by kernel_rfl) (by kernel_rfl) fun a p h => by rw [← h]; exact run17 N a.1 a.2.1

/-! ### math/bits.Len32: function 82 -/
noncomputable def c82 : Code := (Tryz.f82.body).getD .skip
noncomputable def T82 : Tb := ⟨tyOf tys, [], [], wrNil⟩
noncomputable def G82 {R : Type} (N : Nat) : FuncId → List AV → (AV → Option R) → Option R := gNil
theorem gok82 {R : Type} (N : Nat) : GOK Tryz.prog (G82 (R := R) N) := gNil_ok
noncomputable def live82 : List (Nat × List (Nat × HK)) := []
noncomputable def ad82 : Ad (Int × Unit) := aC (cInt .u32) (a0)
noncomputable def rd82 : Rd (Int) := r1 (cInt .i64)
noncomputable def fn_bits_Len32 (N : Nat) (x0 : Int) : Option (Int) :=
  cond (leI 65536 x0)
   (cond (leI 256 (shrI .u32 x0 16))
    (cond (leI 0 (cvI .u8 (shrI .u32 (shrI .u32 x0 16) 8)))
     (cond (ltI (cvI .u8 (shrI .u32 (shrI .u32 x0 16) 8)) (str0.size : Int))
      (some (addI .i64 (addI .i64 16 8) (cvI .i64 (sAt str0 (cvI .u8 (shrI .u32 (shrI .u32 x0 16) 8))))))
      (none))
     (none))
    (cond (leI 0 (cvI .u8 (shrI .u32 x0 16)))
     (cond (ltI (cvI .u8 (shrI .u32 x0 16)) (str0.size : Int))
      (some (addI .i64 16 (cvI .i64 (sAt str0 (cvI .u8 (shrI .u32 x0 16))))))
      (none))
     (none)))
   (cond (leI 256 x0)
    (cond (leI 0 (cvI .u8 (shrI .u32 x0 8)))
     (cond (ltI (cvI .u8 (shrI .u32 x0 8)) (str0.size : Int))
      (some (addI .i64 (addI .i64 0 8) (cvI .i64 (sAt str0 (cvI .u8 (shrI .u32 x0 8))))))
      (none))
     (none))
    (cond (leI 0 (cvI .u8 x0))
     (cond (ltI (cvI .u8 x0) (str0.size : Int))
      (some (addI .i64 0 (cvI .i64 (sAt str0 (cvI .u8 x0)))))
      (none))
     (none)))
theorem run82 (N : Nat) (x0 : Int) : Eng.run T82 (G82 N) N live82 c82 Tryz.f82.results.toList Tryz.f82.ntmps ((ad82).enc (x0, ())) (rd82).dec = fn_bits_Len32 N x0 := by kernel_rfl
noncomputable def F82 (N : Nat) (a : Int × Unit) : Option (Int) := fn_bits_Len32 N a.1
theorem ok82 (N : Nat) : FnOK Tryz.prog 82 ad82 rd82 (F82 N) :=
  fn_ok (N := N) (live := live82) (code := c82) (tok T82.rt T82.kl (wrNil_ok)) mixed (gok82 N) Tryz.func82 (by kernel_rfl) (by kernel_rfl) (by kernel_rfl) fun a p h => by rw [← h]; exact run82 N a.1

/-! ### tiller/nat.Len: function 41 -/
noncomputable def c41 : Code := (Tryz.f41.body).getD .skip
noncomputable def T41 : Tb := ⟨tyOf tys, [], [], wrNil⟩
noncomputable def G41 {R : Type} (N : Nat) : FuncId → List AV → (AV → Option R) → Option R := gCons 81 (gOf ad81 rd81 (F81 N)) (gCons 82 (gOf ad82 rd82 (F82 N)) (gNil))
theorem gok41 {R : Type} (N : Nat) : GOK Tryz.prog (G41 (R := R) N) := gCons_ok (ok81 N) (gCons_ok (ok82 N) (gNil_ok))
noncomputable def live41 : List (Nat × List (Nat × HK)) := []
noncomputable def ad41 : Ad (List Int × Unit) := aC (cLi .u32) (a0)
noncomputable def rd41 : Rd (Int) := r1 (cInt .i64)
noncomputable def fn_nat_Len (N : Nat) (x0 : List Int) : Option (Int) :=
  (fn_nat_Check N x0).bind fun r1 =>
   cond (!(isNoneI r1))
    (some 0)
    (cond (eqI (x0.length : Int) 0)
     (some 0)
     (cond (leI 0 (subI .i64 (x0.length : Int) 1))
      (cond (ltI (subI .i64 (x0.length : Int) 1) (x0.length : Int))
       ((fn_bits_Len32 N (lrd x0 (subI .i64 (x0.length : Int) 1))).bind fun r2 =>
        some (addI .i64 (mulI .i64 32 (subI .i64 (x0.length : Int) 1)) r2))
       (none))
      (none)))
theorem run41 (N : Nat) (x0 : List Int) : Eng.run T41 (G41 N) N live41 c41 Tryz.f41.results.toList Tryz.f41.ntmps ((ad41).enc (x0, ())) (rd41).dec = fn_nat_Len N x0 := by kernel_rfl
noncomputable def F41 (N : Nat) (a : List Int × Unit) : Option (Int) := fn_nat_Len N a.1
theorem ok41 (N : Nat) : FnOK Tryz.prog 41 ad41 rd41 (F41 N) :=
  fn_ok (N := N) (live := live41) (code := c41) (tok T41.rt T41.kl (wrNil_ok)) mixed (gok41 N) Tryz.func41 (by kernel_rfl) (by kernel_rfl) (by kernel_rfl) fun a p h => by rw [← h]; exact run41 N a.1

/-! ### tiller/nat.times: function 100 -/
noncomputable def c100 : Code := (Tryz.f100.body).getD .skip
noncomputable def T100 : Tb := ⟨tyOf tys, [(41, 5), (52, 5), (63, 5)], [66], wrNil⟩
noncomputable def G100 {R : Type} (N : Nat) : FuncId → List AV → (AV → Option R) → Option R := gCons 80 (gOf ad80 rd80 (F80 N)) (gNil)
theorem gok100 {R : Type} (N : Nat) : GOK Tryz.prog (G100 (R := R) N) := gCons_ok (ok80 N) (gNil_ok)
noncomputable def live100 : List (Nat × List (Nat × HK)) := [(3, [(1, .keep), (5, .row .u32 125), (17, .keep), (18, .keep), (19, .keep)]), (7, [(1, .keep), (5, .row .u32 125), (6, .keep), (7, .keep), (8, .keep), (17, .keep), (18, .keep), (19, .keep), (24, .keep), (25, .keep), (26, .keep)])]
noncomputable def ad100 : Ad (List Int × List Int × Unit) := aC (cLi .u32) (aC (cLi .u32) (a0))
noncomputable def rd100 : Rd (List Int) := r1 (cLi .u32)
noncomputable def st100_0 (v0 : List Int) (v1 : List Int) (v2 : Int) (v3 : Int) (v4 : List Int) : St := ⟨[AV.none, AV.li .u32 v0, AV.none, AV.none, AV.none, AV.own 5, AV.none, AV.none, AV.none, AV.none, AV.none, AV.none, AV.none, AV.none, AV.none, AV.none, AV.none, AV.li .u32 v1, AV.v (.int .i64 v2), AV.v (.int .i64 v3), AV.none, AV.none, AV.none, AV.none, AV.none, AV.none, AV.none, AV.none, AV.none, AV.none, AV.none, AV.none, AV.none, AV.none, AV.none, AV.none, AV.none, AV.none, AV.none, AV.none, AV.none, AV.none, AV.none, AV.none, AV.none, AV.none, AV.none, AV.none, AV.none, AV.none, AV.none, AV.none, AV.none, AV.none, AV.none, AV.none, AV.none, AV.none, AV.none, AV.none, AV.none, AV.none, AV.none, AV.none, AV.none, AV.none, AV.none], [none, none, none, none, none, some (OB.row .u32 125 v4), none, none, none, none, none, none, none, none, none, none, none, none, none, none, none, none, none, none, none, none, none, none, none, none, none, none, none, none, none, none, none, none, none, none, none, none, none, none, none, none, none, none, none, none, none, none, none, none, none, none, none, none, none, none, none, none, none, none, none, none, none]⟩
noncomputable def raw100_0 (N : Nat) (n : Nat) (v0 : List Int) (v1 : List Int) (v2 : Int) (v3 : Int) (v4 : List Int) : Option (List Int) := loopN (lookN live100 3) (exec T100 (G100 N) N live100 (cL (cL (cR (cL (cR (cR c100))))))) n (st100_0 v0 v1 v2 v3 v4) (blockK 0 (seqK (exec T100 (G100 N) N live100 (cR (cR (cR c100)))) (retK T100 Tryz.f100.results.toList (rd100).dec)))
noncomputable def st100_1 (v0 : List Int) (v1 : Int) (v2 : Int) (v3 : Int) (v4 : List Int) (v5 : Int) (v6 : Int) (v7 : List Int) (v8 : Int) (v9 : Int) (v10 : List Int) : St := ⟨[AV.none, AV.li .u32 v0, AV.none, AV.none, AV.none, AV.own 5, AV.v (.int .i64 v1), AV.v (.int .u32 v2), AV.v (.int .u64 v3), AV.none, AV.none, AV.none, AV.none, AV.none, AV.none, AV.none, AV.none, AV.li .u32 v4, AV.v (.int .i64 v5), AV.v (.int .i64 v6), AV.none, AV.none, AV.none, AV.none, AV.li .u32 v7, AV.v (.int .i64 v8), AV.v (.int .i64 v9), AV.none, AV.none, AV.none, AV.none, AV.none, AV.none, AV.none, AV.none, AV.none, AV.none, AV.none, AV.none, AV.none, AV.none, AV.none, AV.none, AV.none, AV.none, AV.none, AV.none, AV.none, AV.none, AV.none, AV.none, AV.none, AV.none, AV.none, AV.none, AV.none, AV.none, AV.none, AV.none, AV.none, AV.none, AV.none, AV.none, AV.none, AV.none, AV.none, AV.none], [none, none, none, none, none, some (OB.row .u32 125 v10), none, none, none, none, none, none, none, none, none, none, none, none, none, none, none, none, none, none, none, none, none, none, none, none, none, none, none, none, none, none, none, none, none, none, none, none, none, none, none, none, none, none, none, none, none, none, none, none, none, none, none, none, none, none, none, none, none, none, none, none, none]⟩
noncomputable def raw100_1 (N : Nat) (m0 : Nat) (n : Nat) (v0 : List Int) (v1 : Int) (v2 : Int) (v3 : Int) (v4 : List Int) (v5 : Int) (v6 : Int) (v7 : List Int) (v8 : Int) (v9 : Int) (v10 : List Int) : Option (List Int) := loopN (lookN live100 7) (exec T100 (G100 N) N live100 (cL (cL (cR (cL (cR (cR (cL (cL (cR (cR (cL (cL (cR (cL (cR (cR c100))))))))))))))))) n (st100_1 v0 v1 v2 v3 v4 v5 v6 v7 v8 v9 v10) (blockK 2 (seqK (exec T100 (G100 N) N live100 (cR (cR (cR (cL (cL (cR (cR (cL (cL (cR (cL (cR (cR c100)))))))))))))) (blockK 1 (seqK (exec T100 (G100 N) N live100 (cR (cR (cR (cL (cL (cR (cL (cR (cR c100)))))))))) (roundK (fun s => loopN (lookN live100 3) (exec T100 (G100 N) N live100 (cL (cL (cR (cL (cR (cR c100))))))) m0 s (blockK 0 (seqK (exec T100 (G100 N) N live100 (cR (cR (cR c100)))) (retK T100 Tryz.f100.results.toList (rd100).dec)))) (lookN live100 3) (blockK 0 (seqK (exec T100 (G100 N) N live100 (cR (cR (cR c100)))) (retK T100 Tryz.f100.results.toList (rd100).dec))))))))
noncomputable def s100_1 (N : Nat) (Ln1 : List Int → Int → Int → Int → List Int → Int → Int → List Int → Int → Int → List Int → Option (List Int)) (Ln0 : List Int → List Int → Int → Int → List Int → Option (List Int)) (v0 : List Int) (v1 : Int) (v2 : Int) (v3 : Int) (v4 : List Int) (v5 : Int) (v6 : Int) (v7 : List Int) (v8 : Int) (v9 : Int) (v10 : List Int) : Option (List Int) :=
  cond (ltI v9 v8)
   (cond (leI 0 v9)
    (cond (ltI v9 (v7.length : Int))
     (cond (leI 0 (addI .i64 v1 v9))
      (cond (ltI (addI .i64 v1 v9) (v10.length : Int))
       (cond (leI 0 (addI .i64 v1 v9))
        (cond (ltI (addI .i64 v1 v9) (v10.length : Int))
         (Ln1 v0 v1 v2 (shrI .u64 (addI .u64 v3 (addI .u64 (mulI .u64 (cvI .u64 v2) (cvI .u64 (lrd v7 v9))) (cvI .u64 (lrd v10 (addI .i64 v1 v9))))) 32) v4 v5 v6 v7 v8 (addI .i64 v9 1) (v10.set ((addI .i64 v1 v9).toNat) (cvI .u32 (addI .u64 v3 (addI .u64 (mulI .u64 (cvI .u64 v2) (cvI .u64 (lrd v7 v9))) (cvI .u64 (lrd v10 (addI .i64 v1 v9))))))))
         (none))
        (none))
       (none))
      (none))
     (none))
    (none))
   (cond (leI 0 (addI .i64 v1 (v0.length : Int)))
    (cond (ltI (addI .i64 v1 (v0.length : Int)) (v10.length : Int))
     (Ln0 v0 v4 v5 (addI .i64 v6 1) (v10.set ((addI .i64 v1 (v0.length : Int)).toNat) (cvI .u32 v3)))
     (none))
    (none))
theorem step100_1 (N : Nat) (m0 : Nat) (n : Nat) (v0 : List Int) (v1 : Int) (v2 : Int) (v3 : Int) (v4 : List Int) (v5 : Int) (v6 : Int) (v7 : List Int) (v8 : Int) (v9 : Int) (v10 : List Int) : raw100_1 N m0 (n + 1) v0 v1 v2 v3 v4 v5 v6 v7 v8 v9 v10 = s100_1 N (raw100_1 N m0 n) (raw100_0 N  m0) v0 v1 v2 v3 v4 v5 v6 v7 v8 v9 v10 := by kernel_rfl
noncomputable def l100_1 (N : Nat) (E0 : List Int → List Int → Int → Int → List Int → Option (List Int)) : Nat → List Int → Int → Int → Int → List Int → Int → Int → List Int → Int → Int → List Int → Option (List Int)
  | 0 => fun _ _ _ _ _ _ _ _ _ _ _ => none
  | n + 1 => fun v0 v1 v2 v3 v4 v5 v6 v7 v8 v9 v10 => s100_1 N (l100_1 N E0 n) E0 v0 v1 v2 v3 v4 v5 v6 v7 v8 v9 v10
theorem eq100_1 (N : Nat) (m0 : Nat) : ∀ n, raw100_1 N m0 n = l100_1 N (raw100_0 N  m0) n := by
  intro n
  induction n with
  | zero => exact funext fun v0 => funext fun v1 => funext fun v2 => funext fun v3 => funext fun v4 => funext fun v5 => funext fun v6 => funext fun v7 => funext fun v8 => funext fun v9 => funext fun v10 => rfl
  | succ n ih => exact funext fun v0 => funext fun v1 => funext fun v2 => funext fun v3 => funext fun v4 => funext fun v5 => funext fun v6 => funext fun v7 => funext fun v8 => funext fun v9 => funext fun v10 => by rw [step100_1, ih]; rfl
noncomputable def s100_0 (N : Nat) (Le1 : List Int → Int → Int → Int → List Int → Int → Int → List Int → Int → Int → List Int → Option (List Int)) (v0 : List Int) (v1 : List Int) (v2 : Int) (v3 : Int) (v4 : List Int) : Option (List Int) :=
  cond (ltI v3 v2)
   (cond (leI 0 v3)
    (cond (ltI v3 (v1.length : Int))
     (Le1 v0 v3 (lrd v1 v3) 0 v1 v2 v3 v0 (v0.length : Int) 0 v4)
     (none))
    (none))
   ((fn_nat_trim N v4).bind fun r1 =>
    some r1)
theorem step100_0 (N : Nat) (n : Nat) (v0 : List Int) (v1 : List Int) (v2 : Int) (v3 : Int) (v4 : List Int) : raw100_0 N  (n + 1) v0 v1 v2 v3 v4 = s100_0 N (raw100_1 N n N) v0 v1 v2 v3 v4 := by kernel_rfl
noncomputable def l100_0 (N : Nat) : Nat → List Int → List Int → Int → Int → List Int → Option (List Int)
  | 0 => fun _ _ _ _ _ => none
  | n + 1 => fun v0 v1 v2 v3 v4 => s100_0 N (l100_1 N (l100_0 N  n) N) v0 v1 v2 v3 v4
theorem eq100_0 (N : Nat) : ∀ n, raw100_0 N  n = l100_0 N  n := by
  intro n
  induction n with
  | zero => exact funext fun v0 => funext fun v1 => funext fun v2 => funext fun v3 => funext fun v4 => rfl
  | succ n ih => exact funext fun v0 => funext fun v1 => funext fun v2 => funext fun v3 => funext fun v4 => by rw [step100_0, eq100_1 N n N, ih]; rfl
noncomputable def t100 (N : Nat) (Le0 : List Int → List Int → Int → Int → List Int → Option (List Int)) (x0 : List Int) (x1 : List Int) : Option (List Int) :=
  cond (leI 0 (addI .i64 (x0.length : Int) (x1.length : Int)))
   (cond (leI (addI .i64 (x0.length : Int) (x1.length : Int)) 17592186044416)
    (Le0 x1 x0 (x0.length : Int) 0 (List.replicate ((addI .i64 (x0.length : Int) (x1.length : Int)).toNat) (0 : Int)))
    (none))
   (none)
noncomputable def fn_nat_times (N : Nat) (x0 : List Int) (x1 : List Int) : Option (List Int) := t100 N (l100_0 N N) x0 x1
theorem run100 (N : Nat) (x0 : List Int) (x1 : List Int) : Eng.run T100 (G100 N) N live100 c100 Tryz.f100.results.toList Tryz.f100.ntmps ((ad100).enc (x0, x1, ())) (rd100).dec = fn_nat_times N x0 x1 := by
  refine Eq.trans (show _ = t100 N (raw100_0 N N) x0 x1 from by kernel_rfl) ?_
  unfold fn_nat_times
  rw [eq100_0 N N]
noncomputable def F100 (N : Nat) (a : List Int × List Int × Unit) : Option (List Int) := fn_nat_times N a.1 a.2.1
theorem ok100 (N : Nat) : FnOK Tryz.prog 100 ad100 rd100 (F100 N) :=
  fn_ok (N := N) (live := live100) (code := c100) (tok T100.rt T100.kl (wrNil_ok)) mixed (gok100 N) Tryz.func100 (by kernel_rfl) (by kernel_rfl) (by kernel_rfl) fun a p h => by rw [← h]; exact run100 N a.1 a.2.1

/-! ### tiller/nat.Pow: function 73 -/
noncomputable def c73 : Code := (Tryz.f73.body).getD .skip
noncomputable def T73 : Tb := ⟨tyOf tys, [], [24], wrNil⟩
noncomputable def G73 {R : Type} (N : Nat) : FuncId → List AV → (AV → Option R) → Option R := gCons 40 (gOf ad40 rd40 (F40 N)) (gCons 100 (gOf ad100 rd100 (F100 N)) (gCons 101 (gOf ad101 rd101 (F101 N)) (gNil)))
theorem gok73 {R : Type} (N : Nat) : GOK Tryz.prog (G73 (R := R) N) := gCons_ok (ok40 N) (gCons_ok (ok100 N) (gCons_ok (ok101 N) (gNil_ok)))
noncomputable def live73 : List (Nat × List (Nat × HK)) := [(4, [(0, .keep), (1, .keep), (6, .li .u32), (7, .keep), (45, .keep), (46, .keep)])]
noncomputable def ad73 : Ad (Int × Int × Unit) := aC (cInt .u32) (aC (cInt .i64) (a0))
noncomputable def rd73 : Rd (List Int × Option Int) := r2 (cLi .u32) (cErr 34)
noncomputable def st73_0 (v0 : Int) (v1 : Int) (v2 : List Int) (v3 : List Int) : St := ⟨[AV.v (.int .u32 v0), AV.v (.int .i64 v1), AV.none, AV.none, AV.none, AV.none, AV.li .u32 v2, AV.li .u32 v3, AV.none, AV.none, AV.none, AV.none, AV.none, AV.none, AV.none, AV.none, AV.none, AV.none, AV.none, AV.none, AV.none, AV.none, AV.none, AV.none, AV.none, AV.none, AV.none, AV.none, AV.none, AV.none, AV.none, AV.none, AV.none, AV.none, AV.none, AV.none, AV.none, AV.none, AV.none, AV.none, AV.none, AV.none, AV.none, AV.none, AV.none, AV.none, AV.none, AV.none, AV.none, AV.none, AV.none, AV.none, AV.none], [none, none, none, none, none, none, none, none, none, none, none, none, none, none, none, none, none, none, none, none, none, none, none, none, none, none, none, none, none, none, none, none, none, none, none, none, none, none, none, none, none, none, none, none, none, none, none, none, none, none, none, none, none]⟩
noncomputable def raw73_0 (N : Nat) (n : Nat) (v0 : Int) (v1 : Int) (v2 : List Int) (v3 : List Int) : Option (List Int × Option Int) := loopN (lookN live73 4) (exec T73 (G73 N) N live73 (cL (cL (cL (cR (cR (cR c73))))))) n (st73_0 v0 v1 v2 v3) (blockK 0 (seqK (exec T73 (G73 N) N live73 (cR (cR (cR (cR c73))))) (retK T73 Tryz.f73.results.toList (rd73).dec)))
noncomputable def s73_0 (N : Nat) (Ln0 : Int → Int → List Int → List Int → Option (List Int × Option Int)) (v0 : Int) (v1 : Int) (v2 : List Int) (v3 : List Int) : Option (List Int × Option Int) :=
  cond (eqI (andI .i64 v1 1) 1)
   ((fn_nat_times N v2 v3).bind fun r2 =>
    cond (eqI (shrI .i64 v1 1) 0)
     (cond (ltI 0 (shrI .i64 v1 1))
      (cond (ltI 1 v0)
       (some ([], some 2))
       ((fn_nat_bounded N r2).bind fun r3 =>
        some (r3.1, r3.2)))
      ((fn_nat_bounded N r2).bind fun r4 =>
       some (r4.1, r4.2)))
     (cond (ltI 8192 (r2.length : Int))
      (cond (ltI 0 (shrI .i64 v1 1))
       (cond (ltI 1 v0)
        (some ([], some 2))
        ((fn_nat_bounded N r2).bind fun r5 =>
         some (r5.1, r5.2)))
       ((fn_nat_bounded N r2).bind fun r6 =>
        some (r6.1, r6.2)))
      (cond (ltI 8192 (v3.length : Int))
       (cond (ltI 0 (shrI .i64 v1 1))
        (cond (ltI 1 v0)
         (some ([], some 2))
         ((fn_nat_bounded N r2).bind fun r7 =>
          some (r7.1, r7.2)))
        ((fn_nat_bounded N r2).bind fun r8 =>
         some (r8.1, r8.2)))
       ((fn_nat_times N v3 v3).bind fun r9 =>
        Ln0 v0 (shrI .i64 v1 1) r2 r9))))
   (cond (eqI (shrI .i64 v1 1) 0)
    (cond (ltI 0 (shrI .i64 v1 1))
     (cond (ltI 1 v0)
      (some ([], some 2))
      ((fn_nat_bounded N v2).bind fun r10 =>
       some (r10.1, r10.2)))
     ((fn_nat_bounded N v2).bind fun r11 =>
      some (r11.1, r11.2)))
    (cond (ltI 8192 (v2.length : Int))
     (cond (ltI 0 (shrI .i64 v1 1))
      (cond (ltI 1 v0)
       (some ([], some 2))
       ((fn_nat_bounded N v2).bind fun r12 =>
        some (r12.1, r12.2)))
      ((fn_nat_bounded N v2).bind fun r13 =>
       some (r13.1, r13.2)))
     (cond (ltI 8192 (v3.length : Int))
      (cond (ltI 0 (shrI .i64 v1 1))
       (cond (ltI 1 v0)
        (some ([], some 2))
        ((fn_nat_bounded N v2).bind fun r14 =>
         some (r14.1, r14.2)))
       ((fn_nat_bounded N v2).bind fun r15 =>
        some (r15.1, r15.2)))
      ((fn_nat_times N v3 v3).bind fun r16 =>
       Ln0 v0 (shrI .i64 v1 1) v2 r16))))
theorem step73_0 (N : Nat) (n : Nat) (v0 : Int) (v1 : Int) (v2 : List Int) (v3 : List Int) : raw73_0 N  (n + 1) v0 v1 v2 v3 = s73_0 N (raw73_0 N  n) v0 v1 v2 v3 := by kernel_rfl
noncomputable def l73_0 (N : Nat) : Nat → Int → Int → List Int → List Int → Option (List Int × Option Int)
  | 0 => fun _ _ _ _ => none
  | n + 1 => fun v0 v1 v2 v3 => s73_0 N (l73_0 N  n) v0 v1 v2 v3
theorem eq73_0 (N : Nat) : ∀ n, raw73_0 N  n = l73_0 N  n := by
  intro n
  induction n with
  | zero => exact funext fun v0 => funext fun v1 => funext fun v2 => funext fun v3 => rfl
  | succ n ih => exact funext fun v0 => funext fun v1 => funext fun v2 => funext fun v3 => by rw [step73_0, ih]; rfl
noncomputable def t73 (N : Nat) (Le0 : Int → Int → List Int → List Int → Option (List Int × Option Int)) (x0 : Int) (x1 : Int) : Option (List Int × Option Int) :=
  cond (ltI x1 0)
   (some ([], some 1))
   (cond (ltI 1000000 x1)
    (some ([], some 1))
    ((fn_nat_Of N (cvI .u64 x0)).bind fun r1 =>
     Le0 x0 x1 [1] r1))
noncomputable def fn_nat_Pow (N : Nat) (x0 : Int) (x1 : Int) : Option (List Int × Option Int) := t73 N (l73_0 N N) x0 x1
theorem run73 (N : Nat) (x0 : Int) (x1 : Int) : Eng.run T73 (G73 N) N live73 c73 Tryz.f73.results.toList Tryz.f73.ntmps ((ad73).enc (x0, x1, ())) (rd73).dec = fn_nat_Pow N x0 x1 := by
  refine Eq.trans (show _ = t73 N (raw73_0 N N) x0 x1 from by kernel_rfl) ?_
  unfold fn_nat_Pow
  rw [eq73_0 N N]
noncomputable def F73 (N : Nat) (a : Int × Int × Unit) : Option (List Int × Option Int) := fn_nat_Pow N a.1 a.2.1
theorem ok73 (N : Nat) : FnOK Tryz.prog 73 ad73 rd73 (F73 N) :=
  fn_ok (N := N) (live := live73) (code := c73) (tok T73.rt T73.kl (wrNil_ok)) mixed (gok73 N) Tryz.func73 (by kernel_rfl) (by kernel_rfl) (by kernel_rfl) fun a p h => by rw [← h]; exact run73 N a.1 a.2.1

/-! ### tiller/show.power: function 84 -/
noncomputable def c84 : Code := (Tryz.f84.body).getD .skip
noncomputable def T84 : Tb := ⟨tyOf tys, [], [], wrNil⟩
noncomputable def G84 {R : Type} (N : Nat) : FuncId → List AV → (AV → Option R) → Option R := gCons 73 (gOf ad73 rd73 (F73 N)) (gNil)
theorem gok84 {R : Type} (N : Nat) : GOK Tryz.prog (G84 (R := R) N) := gCons_ok (ok73 N) (gNil_ok)
noncomputable def live84 : List (Nat × List (Nat × HK)) := []
noncomputable def ad84 : Ad (Int × Unit) := aC (cInt .i64) (a0)
noncomputable def rd84 : Rd (List Int) := r1 (cLi .u32)
noncomputable def fn_show_power (N : Nat) (x0 : Int) : Option (List Int) :=
  (fn_nat_Pow N 10 x0).bind fun r1 =>
   cond (!(isNoneI r1.2))
    (some [])
    (some r1.1)
theorem run84 (N : Nat) (x0 : Int) : Eng.run T84 (G84 N) N live84 c84 Tryz.f84.results.toList Tryz.f84.ntmps ((ad84).enc (x0, ())) (rd84).dec = fn_show_power N x0 := by kernel_rfl
noncomputable def F84 (N : Nat) (a : Int × Unit) : Option (List Int) := fn_show_power N a.1
theorem ok84 (N : Nat) : FnOK Tryz.prog 84 ad84 rd84 (F84 N) :=
  fn_ok (N := N) (live := live84) (code := c84) (tok T84.rt T84.kl (wrNil_ok)) mixed (gok84 N) Tryz.func84 (by kernel_rfl) (by kernel_rfl) (by kernel_rfl) fun a p h => by rw [← h]; exact run84 N a.1

/-! ### tiller/nat.both: function 102 -/
noncomputable def c102 : Code := (Tryz.f102.body).getD .skip
noncomputable def T102 : Tb := ⟨tyOf tys, [], [], wrNil⟩
noncomputable def G102 {R : Type} (N : Nat) : FuncId → List AV → (AV → Option R) → Option R := gCons 81 (gOf ad81 rd81 (F81 N)) (gNil)
theorem gok102 {R : Type} (N : Nat) : GOK Tryz.prog (G102 (R := R) N) := gCons_ok (ok81 N) (gNil_ok)
noncomputable def live102 : List (Nat × List (Nat × HK)) := []
noncomputable def ad102 : Ad (List Int × List Int × Unit) := aC (cLi .u32) (aC (cLi .u32) (a0))
noncomputable def rd102 : Rd (Option Int) := r1 (cErr 34)
noncomputable def fn_nat_both (N : Nat) (x0 : List Int) (x1 : List Int) : Option (Option Int) :=
  (fn_nat_Check N x0).bind fun r1 =>
   cond (!(isNoneI r1))
    (some (some 1))
    ((fn_nat_Check N x1).bind fun r2 =>
     cond (!(isNoneI r2))
      (some (some 1))
      (some none))
theorem run102 (N : Nat) (x0 : List Int) (x1 : List Int) : Eng.run T102 (G102 N) N live102 c102 Tryz.f102.results.toList Tryz.f102.ntmps ((ad102).enc (x0, x1, ())) (rd102).dec = fn_nat_both N x0 x1 := by kernel_rfl
noncomputable def F102 (N : Nat) (a : List Int × List Int × Unit) : Option (Option Int) := fn_nat_both N a.1 a.2.1
theorem ok102 (N : Nat) : FnOK Tryz.prog 102 ad102 rd102 (F102 N) :=
  fn_ok (N := N) (live := live102) (code := c102) (tok T102.rt T102.kl (wrNil_ok)) mixed (gok102 N) Tryz.func102 (by kernel_rfl) (by kernel_rfl) (by kernel_rfl) fun a p h => by rw [← h]; exact run102 N a.1 a.2.1

/-! ### tiller/nat.Mul: function 74 -/
noncomputable def c74 : Code := (Tryz.f74.body).getD .skip
noncomputable def T74 : Tb := ⟨tyOf tys, [], [], wrNil⟩
noncomputable def G74 {R : Type} (N : Nat) : FuncId → List AV → (AV → Option R) → Option R := gCons 102 (gOf ad102 rd102 (F102 N)) (gCons 100 (gOf ad100 rd100 (F100 N)) (gCons 101 (gOf ad101 rd101 (F101 N)) (gNil)))
theorem gok74 {R : Type} (N : Nat) : GOK Tryz.prog (G74 (R := R) N) := gCons_ok (ok102 N) (gCons_ok (ok100 N) (gCons_ok (ok101 N) (gNil_ok)))
noncomputable def live74 : List (Nat × List (Nat × HK)) := []
noncomputable def ad74 : Ad (List Int × List Int × Unit) := aC (cLi .u32) (aC (cLi .u32) (a0))
noncomputable def rd74 : Rd (List Int × Option Int) := r2 (cLi .u32) (cErr 34)
noncomputable def fn_nat_Mul (N : Nat) (x0 : List Int) (x1 : List Int) : Option (List Int × Option Int) :=
  (fn_nat_both N x0 x1).bind fun r1 =>
   cond (!(isNoneI r1))
    (some ([], some 1))
    (cond (ltI 8193 (addI .i64 (x0.length : Int) (x1.length : Int)))
     (some ([], some 2))
     ((fn_nat_times N x0 x1).bind fun r2 =>
      (fn_nat_bounded N r2).bind fun r3 =>
       some (r3.1, r3.2)))
theorem run74 (N : Nat) (x0 : List Int) (x1 : List Int) : Eng.run T74 (G74 N) N live74 c74 Tryz.f74.results.toList Tryz.f74.ntmps ((ad74).enc (x0, x1, ())) (rd74).dec = fn_nat_Mul N x0 x1 := by kernel_rfl
noncomputable def F74 (N : Nat) (a : List Int × List Int × Unit) : Option (List Int × Option Int) := fn_nat_Mul N a.1 a.2.1
theorem ok74 (N : Nat) : FnOK Tryz.prog 74 ad74 rd74 (F74 N) :=
  fn_ok (N := N) (live := live74) (code := c74) (tok T74.rt T74.kl (wrNil_ok)) mixed (gok74 N) Tryz.func74 (by kernel_rfl) (by kernel_rfl) (by kernel_rfl) fun a p h => by rw [← h]; exact run74 N a.1 a.2.1

/-! ### tiller/show.times: function 83 -/
noncomputable def c83 : Code := (Tryz.f83.body).getD .skip
noncomputable def T83 : Tb := ⟨tyOf tys, [], [], wrNil⟩
noncomputable def G83 {R : Type} (N : Nat) : FuncId → List AV → (AV → Option R) → Option R := gCons 74 (gOf ad74 rd74 (F74 N)) (gNil)
theorem gok83 {R : Type} (N : Nat) : GOK Tryz.prog (G83 (R := R) N) := gCons_ok (ok74 N) (gNil_ok)
noncomputable def live83 : List (Nat × List (Nat × HK)) := []
noncomputable def ad83 : Ad (List Int × List Int × Unit) := aC (cLi .u32) (aC (cLi .u32) (a0))
noncomputable def rd83 : Rd (List Int) := r1 (cLi .u32)
noncomputable def fn_show_times (N : Nat) (x0 : List Int) (x1 : List Int) : Option (List Int) :=
  (fn_nat_Mul N x0 x1).bind fun r1 =>
   cond (!(isNoneI r1.2))
    (some [])
    (some r1.1)
theorem run83 (N : Nat) (x0 : List Int) (x1 : List Int) : Eng.run T83 (G83 N) N live83 c83 Tryz.f83.results.toList Tryz.f83.ntmps ((ad83).enc (x0, x1, ())) (rd83).dec = fn_show_times N x0 x1 := by kernel_rfl
noncomputable def F83 (N : Nat) (a : List Int × List Int × Unit) : Option (List Int) := fn_show_times N a.1 a.2.1
theorem ok83 (N : Nat) : FnOK Tryz.prog 83 ad83 rd83 (F83 N) :=
  fn_ok (N := N) (live := live83) (code := c83) (tok T83.rt T83.kl (wrNil_ok)) mixed (gok83 N) Tryz.func83 (by kernel_rfl) (by kernel_rfl) (by kernel_rfl) fun a p h => by rw [← h]; exact run83 N a.1 a.2.1

/-! ### (tiller/show.number).scaled: function 42 -/
noncomputable def c42 : Code := (Tryz.f42.body).getD .skip
noncomputable def T42 : Tb := ⟨tyOf tys, [(7, 2), (12, 2), (15, 2), (17, 2)], [], wrNil⟩
noncomputable def G42 {R : Type} (N : Nat) : FuncId → List AV → (AV → Option R) → Option R := gCons 84 (gOf ad84 rd84 (F84 N)) (gCons 83 (gOf ad83 rd83 (F83 N)) (gNil))
theorem gok42 {R : Type} (N : Nat) : GOK Tryz.prog (G42 (R := R) N) := gCons_ok (ok84 N) (gCons_ok (ok83 N) (gNil_ok))
noncomputable def live42 : List (Nat × List (Nat × HK)) := []
noncomputable def ad42 : Ad ((List Int × List Int) × Int × Unit) := aC (cSt (fC (lLi .u32) (fO (lLi .u32)))) (aC (cInt .i64) (a0))
noncomputable def rd42 : Rd ((List Int × List Int)) := r1 (cSt (fC (lLi .u32) (fO (lLi .u32))))
noncomputable def fn_show_number_scaled (N : Nat) (x0 : (List Int × List Int)) (x1 : Int) : Option ((List Int × List Int)) :=
  cond (leI 0 x1)
   ((fn_show_power N x1).bind fun r1 =>
    (fn_show_times N x0.1 r1).bind fun r2 =>
     some (r2, x0.2))
   ((fn_show_power N (subI .i64 0 x1)).bind fun r3 =>
    (fn_show_times N x0.2 r3).bind fun r4 =>
     some (x0.1, r4))
theorem run42 (N : Nat) (x0 : (List Int × List Int)) (x1 : Int) : Eng.run T42 (G42 N) N live42 c42 Tryz.f42.results.toList Tryz.f42.ntmps ((ad42).enc (x0, x1, ())) (rd42).dec = fn_show_number_scaled N x0 x1 := by kernel_rfl
noncomputable def F42 (N : Nat) (a : (List Int × List Int) × Int × Unit) : Option ((List Int × List Int)) := fn_show_number_scaled N a.1 a.2.1
theorem ok42 (N : Nat) : FnOK Tryz.prog 42 ad42 rd42 (F42 N) :=
  fn_ok (N := N) (live := live42) (code := c42) (tok T42.rt T42.kl (wrNil_ok)) mixed (gok42 N) Tryz.func42 (by kernel_rfl) (by kernel_rfl) (by kernel_rfl) fun a p h => by rw [← h]; exact run42 N a.1 a.2.1

/-! ### tiller/nat.compare: function 106 -/
noncomputable def c106 : Code := (Tryz.f106.body).getD .skip
noncomputable def T106 : Tb := ⟨tyOf tys, [], [], wrNil⟩
noncomputable def G106 {R : Type} (N : Nat) : FuncId → List AV → (AV → Option R) → Option R := gNil
theorem gok106 {R : Type} (N : Nat) : GOK Tryz.prog (G106 (R := R) N) := gNil_ok
noncomputable def live106 : List (Nat × List (Nat × HK)) := [(6, [(0, .keep), (1, .keep), (5, .keep)])]
noncomputable def ad106 : Ad (List Int × List Int × Unit) := aC (cLi .u32) (aC (cLi .u32) (a0))
noncomputable def rd106 : Rd (Int) := r1 (cInt .i64)
noncomputable def st106_0 (v0 : List Int) (v1 : List Int) (v2 : Int) : St := ⟨[AV.li .u32 v0, AV.li .u32 v1, AV.none, AV.none, AV.none, AV.v (.int .i64 v2), AV.none, AV.none, AV.none, AV.none, AV.none, AV.none, AV.none, AV.none, AV.none, AV.none, AV.none, AV.none, AV.none, AV.none, AV.none, AV.none, AV.none, AV.none, AV.none, AV.none, AV.none, AV.none, AV.none, AV.none, AV.none, AV.none, AV.none, AV.none, AV.none, AV.none, AV.none, AV.none, AV.none, AV.none, AV.none, AV.none, AV.none], [none, none, none, none, none, none, none, none, none, none, none, none, none, none, none, none, none, none, none, none, none, none, none, none, none, none, none, none, none, none, none, none, none, none, none, none, none, none, none, none, none, none, none]⟩
noncomputable def raw106_0 (N : Nat) (n : Nat) (v0 : List Int) (v1 : List Int) (v2 : Int) : Option (Int) := loopN (lookN live106 6) (exec T106 (G106 N) N live106 (cL (cL (cR (cL (cR (cR c106))))))) n (st106_0 v0 v1 v2) (blockK 0 (seqK (exec T106 (G106 N) N live106 (cR (cR (cR c106)))) (retK T106 Tryz.f106.results.toList (rd106).dec)))
noncomputable def s106_0 (N : Nat) (Ln0 : List Int → List Int → Int → Option (Int)) (v0 : List Int) (v1 : List Int) (v2 : Int) : Option (Int) :=
  cond (leI 0 v2)
   (cond (leI 0 v2)
    (cond (ltI v2 (v0.length : Int))
     (cond (leI 0 v2)
      (cond (ltI v2 (v1.length : Int))
       (cond (ltI (lrd v0 v2) (lrd v1 v2))
        (some (-1))
        (cond (leI 0 v2)
         (cond (ltI v2 (v0.length : Int))
          (cond (leI 0 v2)
           (cond (ltI v2 (v1.length : Int))
            (cond (ltI (lrd v1 v2) (lrd v0 v2))
             (some 1)
             (Ln0 v0 v1 (subI .i64 v2 1)))
            (none))
           (none))
          (none))
         (none)))
       (none))
      (none))
     (none))
    (none))
   (some 0)
theorem step106_0 (N : Nat) (n : Nat) (v0 : List Int) (v1 : List Int) (v2 : Int) : raw106_0 N  (n + 1) v0 v1 v2 = s106_0 N (raw106_0 N  n) v0 v1 v2 := by kernel_rfl
noncomputable def l106_0 (N : Nat) : Nat → List Int → List Int → Int → Option (Int)
  | 0 => fun _ _ _ => none
  | n + 1 => fun v0 v1 v2 => s106_0 N (l106_0 N  n) v0 v1 v2
theorem eq106_0 (N : Nat) : ∀ n, raw106_0 N  n = l106_0 N  n := by
  intro n
  induction n with
  | zero => exact funext fun v0 => funext fun v1 => funext fun v2 => rfl
  | succ n ih => exact funext fun v0 => funext fun v1 => funext fun v2 => by rw [step106_0, ih]; rfl
noncomputable def t106 (N : Nat) (Le0 : List Int → List Int → Int → Option (Int)) (x0 : List Int) (x1 : List Int) : Option (Int) :=
  cond (!(eqI (x0.length : Int) (x1.length : Int)))
   (cond (ltI (x0.length : Int) (x1.length : Int))
    (some (-1))
    (some 1))
   (Le0 x0 x1 (subI .i64 (x0.length : Int) 1))
noncomputable def fn_nat_compare (N : Nat) (x0 : List Int) (x1 : List Int) : Option (Int) := t106 N (l106_0 N N) x0 x1
theorem run106 (N : Nat) (x0 : List Int) (x1 : List Int) : Eng.run T106 (G106 N) N live106 c106 Tryz.f106.results.toList Tryz.f106.ntmps ((ad106).enc (x0, x1, ())) (rd106).dec = fn_nat_compare N x0 x1 := by
  refine Eq.trans (show _ = t106 N (raw106_0 N N) x0 x1 from by kernel_rfl) ?_
  unfold fn_nat_compare
  rw [eq106_0 N N]
noncomputable def F106 (N : Nat) (a : List Int × List Int × Unit) : Option (Int) := fn_nat_compare N a.1 a.2.1
theorem ok106 (N : Nat) : FnOK Tryz.prog 106 ad106 rd106 (F106 N) :=
  fn_ok (N := N) (live := live106) (code := c106) (tok T106.rt T106.kl (wrNil_ok)) mixed (gok106 N) Tryz.func106 (by kernel_rfl) (by kernel_rfl) (by kernel_rfl) fun a p h => by rw [← h]; exact run106 N a.1 a.2.1

/-! ### tiller/nat.Cmp: function 85 -/
noncomputable def c85 : Code := (Tryz.f85.body).getD .skip
noncomputable def T85 : Tb := ⟨tyOf tys, [], [], wrNil⟩
noncomputable def G85 {R : Type} (N : Nat) : FuncId → List AV → (AV → Option R) → Option R := gCons 102 (gOf ad102 rd102 (F102 N)) (gCons 106 (gOf ad106 rd106 (F106 N)) (gNil))
theorem gok85 {R : Type} (N : Nat) : GOK Tryz.prog (G85 (R := R) N) := gCons_ok (ok102 N) (gCons_ok (ok106 N) (gNil_ok))
noncomputable def live85 : List (Nat × List (Nat × HK)) := []
noncomputable def ad85 : Ad (List Int × List Int × Unit) := aC (cLi .u32) (aC (cLi .u32) (a0))
noncomputable def rd85 : Rd (Int × Option Int) := r2 (cInt .i64) (cErr 34)
noncomputable def fn_nat_Cmp (N : Nat) (x0 : List Int) (x1 : List Int) : Option (Int × Option Int) :=
  (fn_nat_both N x0 x1).bind fun r1 =>
   cond (!(isNoneI r1))
    (some (0, r1))
    ((fn_nat_compare N x0 x1).bind fun r2 =>
     some (r2, none))
theorem run85 (N : Nat) (x0 : List Int) (x1 : List Int) : Eng.run T85 (G85 N) N live85 c85 Tryz.f85.results.toList Tryz.f85.ntmps ((ad85).enc (x0, x1, ())) (rd85).dec = fn_nat_Cmp N x0 x1 := by kernel_rfl
noncomputable def F85 (N : Nat) (a : List Int × List Int × Unit) : Option (Int × Option Int) := fn_nat_Cmp N a.1 a.2.1
theorem ok85 (N : Nat) : FnOK Tryz.prog 85 ad85 rd85 (F85 N) :=
  fn_ok (N := N) (live := live85) (code := c85) (tok T85.rt T85.kl (wrNil_ok)) mixed (gok85 N) Tryz.func85 (by kernel_rfl) (by kernel_rfl) (by kernel_rfl) fun a p h => by rw [← h]; exact run85 N a.1 a.2.1

/-! ### (tiller/show.number).compare: function 43 -/
noncomputable def c43 : Code := (Tryz.f43.body).getD .skip
noncomputable def T43 : Tb := ⟨tyOf tys, [(8, 2), (11, 2)], [], wrNil⟩
noncomputable def G43 {R : Type} (N : Nat) : FuncId → List AV → (AV → Option R) → Option R := gCons 83 (gOf ad83 rd83 (F83 N)) (gCons 85 (gOf ad85 rd85 (F85 N)) (gNil))
theorem gok43 {R : Type} (N : Nat) : GOK Tryz.prog (G43 (R := R) N) := gCons_ok (ok83 N) (gCons_ok (ok85 N) (gNil_ok))
noncomputable def live43 : List (Nat × List (Nat × HK)) := []
noncomputable def ad43 : Ad ((List Int × List Int) × List Int × Unit) := aC (cSt (fC (lLi .u32) (fO (lLi .u32)))) (aC (cLi .u32) (a0))
noncomputable def rd43 : Rd (Int) := r1 (cInt .i64)
noncomputable def fn_show_number_compare (N : Nat) (x0 : (List Int × List Int)) (x1 : List Int) : Option (Int) :=
  (fn_show_times N x1 x0.2).bind fun r1 =>
   (fn_nat_Cmp N x0.1 r1).bind fun r2 =>
    cond (!(isNoneI r2.2))
     (some 0)
     (some r2.1)
theorem run43 (N : Nat) (x0 : (List Int × List Int)) (x1 : List Int) : Eng.run T43 (G43 N) N live43 c43 Tryz.f43.results.toList Tryz.f43.ntmps ((ad43).enc (x0, x1, ())) (rd43).dec = fn_show_number_compare N x0 x1 := by kernel_rfl
noncomputable def F43 (N : Nat) (a : (List Int × List Int) × List Int × Unit) : Option (Int) := fn_show_number_compare N a.1 a.2.1
theorem ok43 (N : Nat) : FnOK Tryz.prog 43 ad43 rd43 (F43 N) :=
  fn_ok (N := N) (live := live43) (code := c43) (tok T43.rt T43.kl (wrNil_ok)) mixed (gok43 N) Tryz.func43 (by kernel_rfl) (by kernel_rfl) (by kernel_rfl) fun a p h => by rw [← h]; exact run43 N a.1 a.2.1

/-! ### (tiller/show.number).first: function 18 -/
noncomputable def c18 : Code := (Tryz.f18.body).getD .skip
noncomputable def T18 : Tb := ⟨tyOf tys, [(4, 1), (7, 1)], [], wrNil⟩
noncomputable def G18 {R : Type} (N : Nat) : FuncId → List AV → (AV → Option R) → Option R := gCons 41 (gOf ad41 rd41 (F41 N)) (gCons 42 (gOf ad42 rd42 (F42 N)) (gCons 40 (gOf ad40 rd40 (F40 N)) (gCons 43 (gOf ad43 rd43 (F43 N)) (gNil))))
theorem gok18 {R : Type} (N : Nat) : GOK Tryz.prog (G18 (R := R) N) := gCons_ok (ok41 N) (gCons_ok (ok42 N) (gCons_ok (ok40 N) (gCons_ok (ok43 N) (gNil_ok))))
noncomputable def live18 : List (Nat × List (Nat × HK)) := [(2, [(1, .keep), (3, .keep)]), (4, [(1, .keep), (3, .keep)])]
noncomputable def ad18 : Ad ((List Int × List Int) × Unit) := aC (cSt (fC (lLi .u32) (fO (lLi .u32)))) (a0)
noncomputable def rd18 : Rd (Int) := r1 (cInt .i64)
noncomputable def st18_0 (v0 : Int) (v1 : List Int) (v2 : List Int) : St := ⟨[AV.none, AV.ptr 1 0, AV.none, AV.v (.int .i64 v0), AV.none, AV.none, AV.none, AV.none, AV.none, AV.none, AV.none, AV.none, AV.none, AV.none, AV.none, AV.none, AV.none, AV.none, AV.none, AV.none, AV.none, AV.none, AV.none, AV.none, AV.none, AV.none, AV.none, AV.none, AV.none, AV.none, AV.none, AV.none], [none, some (OB.agg [AV.li .u32 v1, AV.li .u32 v2]), none, none, none, none, none, none, none, none, none, none, none, none, none, none, none, none, none, none, none, none, none, none, none, none, none, none, none, none, none, none]⟩
noncomputable def raw18_0 (N : Nat) (n : Nat) (v0 : Int) (v1 : List Int) (v2 : List Int) : Option (Int) := loopN (lookN live18 2) (exec T18 (G18 N) N live18 (cL (cL (cL (cR (cR c18)))))) n (st18_0 v0 v1 v2) (blockK 0 (seqK (exec T18 (G18 N) N live18 (cR (cR (cR c18)))) (retK T18 Tryz.f18.results.toList (rd18).dec)))
noncomputable def st18_1 (v0 : Int) (v1 : List Int) (v2 : List Int) : St := ⟨[AV.none, AV.ptr 1 0, AV.none, AV.v (.int .i64 v0), AV.none, AV.none, AV.none, AV.none, AV.none, AV.none, AV.none, AV.none, AV.none, AV.none, AV.none, AV.none, AV.none, AV.none, AV.none, AV.none, AV.none, AV.none, AV.none, AV.none, AV.none, AV.none, AV.none, AV.none, AV.none, AV.none, AV.none, AV.none], [none, some (OB.agg [AV.li .u32 v1, AV.li .u32 v2]), none, none, none, none, none, none, none, none, none, none, none, none, none, none, none, none, none, none, none, none, none, none, none, none, none, none, none, none, none, none]⟩
noncomputable def raw18_1 (N : Nat) (n : Nat) (v0 : Int) (v1 : List Int) (v2 : List Int) : Option (Int) := loopN (lookN live18 4) (exec T18 (G18 N) N live18 (cL (cL (cL (cR (cR (cR c18))))))) n (st18_1 v0 v1 v2) (blockK 2 (seqK (exec T18 (G18 N) N live18 (cR (cR (cR (cR c18))))) (retK T18 Tryz.f18.results.toList (rd18).dec)))
noncomputable def s18_1 (N : Nat) (Ln1 : Int → List Int → List Int → Option (Int)) (v0 : Int) (v1 : List Int) (v2 : List Int) : Option (Int) :=
  (fn_show_number_scaled N (v1, v2) (subI .i64 0 v0)).bind fun r6 =>
   (fn_nat_Of N 10).bind fun r7 =>
    (fn_show_number_compare N (r6.1, r6.2) r7).bind fun r8 =>
     cond (leI 0 r8)
      (Ln1 (addI .i64 v0 1) v1 v2)
      (some v0)
theorem step18_1 (N : Nat) (n : Nat) (v0 : Int) (v1 : List Int) (v2 : List Int) : raw18_1 N  (n + 1) v0 v1 v2 = s18_1 N (raw18_1 N  n) v0 v1 v2 := by kernel_rfl
noncomputable def l18_1 (N : Nat) : Nat → Int → List Int → List Int → Option (Int)
  | 0 => fun _ _ _ => none
  | n + 1 => fun v0 v1 v2 => s18_1 N (l18_1 N  n) v0 v1 v2
theorem eq18_1 (N : Nat) : ∀ n, raw18_1 N  n = l18_1 N  n := by
  intro n
  induction n with
  | zero => exact funext fun v0 => funext fun v1 => funext fun v2 => rfl
  | succ n ih => exact funext fun v0 => funext fun v1 => funext fun v2 => by rw [step18_1, ih]; rfl
noncomputable def s18_0 (N : Nat) (Ln0 : Int → List Int → List Int → Option (Int)) (Le1 : Int → List Int → List Int → Option (Int)) (v0 : Int) (v1 : List Int) (v2 : List Int) : Option (Int) :=
  (fn_show_number_scaled N (v1, v2) (subI .i64 0 v0)).bind fun r3 =>
   (fn_nat_Of N 1).bind fun r4 =>
    (fn_show_number_compare N (r3.1, r3.2) r4).bind fun r5 =>
     cond (ltI r5 0)
      (Ln0 (subI .i64 v0 1) v1 v2)
      (Le1 v0 v1 v2)
theorem step18_0 (N : Nat) (n : Nat) (v0 : Int) (v1 : List Int) (v2 : List Int) : raw18_0 N  (n + 1) v0 v1 v2 = s18_0 N (raw18_0 N  n) (raw18_1 N  N) v0 v1 v2 := by kernel_rfl
noncomputable def l18_0 (N : Nat) : Nat → Int → List Int → List Int → Option (Int)
  | 0 => fun _ _ _ => none
  | n + 1 => fun v0 v1 v2 => s18_0 N (l18_0 N  n) (l18_1 N  N) v0 v1 v2
theorem eq18_0 (N : Nat) : ∀ n, raw18_0 N  n = l18_0 N  n := by
  intro n
  induction n with
  | zero => exact funext fun v0 => funext fun v1 => funext fun v2 => rfl
  | succ n ih => exact funext fun v0 => funext fun v1 => funext fun v2 => by rw [step18_0, eq18_1 N  N, ih]; rfl
noncomputable def t18 (N : Nat) (Le0 : Int → List Int → List Int → Option (Int)) (x0 : (List Int × List Int)) : Option (Int) :=
  (fn_nat_Len N x0.1).bind fun r1 =>
   (fn_nat_Len N x0.2).bind fun r2 =>
    Le0 (quoI .i64 (mulI .i64 (subI .i64 r1 r2) 30103) 100000) x0.1 x0.2
noncomputable def fn_show_number_first (N : Nat) (x0 : (List Int × List Int)) : Option (Int) := t18 N (l18_0 N N) x0
theorem run18 (N : Nat) (x0 : (List Int × List Int)) : Eng.run T18 (G18 N) N live18 c18 Tryz.f18.results.toList Tryz.f18.ntmps ((ad18).enc (x0, ())) (rd18).dec = fn_show_number_first N x0 := by
  refine Eq.trans (show _ = t18 N (raw18_0 N N) x0 from by kernel_rfl) ?_
  unfold fn_show_number_first
  rw [eq18_0 N N]
noncomputable def F18 (N : Nat) (a : (List Int × List Int) × Unit) : Option (Int) := fn_show_number_first N a.1
theorem ok18 (N : Nat) : FnOK Tryz.prog 18 ad18 rd18 (F18 N) :=
  fn_ok (N := N) (live := live18) (code := c18) (tok T18.rt T18.kl (wrNil_ok)) mixed (gok18 N) Tryz.func18 (by kernel_rfl) (by kernel_rfl) (by kernel_rfl) fun a p h => by rw [← h]; exact run18 N a.1

/-! ### tiller/show.between: function 44 -/
noncomputable def c44 : Code := (Tryz.f44.body).getD .skip
noncomputable def T44 : Tb := ⟨tyOf tys, [(5, 1), (9, 1), (13, 1), (18, 1), (25, 1)], [], wrNil⟩
noncomputable def G44 {R : Type} (N : Nat) : FuncId → List AV → (AV → Option R) → Option R := gNil
theorem gok44 {R : Type} (N : Nat) : GOK Tryz.prog (G44 (R := R) N) := gNil_ok
noncomputable def live44 : List (Nat × List (Nat × HK)) := []
noncomputable def ad44 : Ad ((Bool × Int × Int × Int) × Unit) := aC (cSt (fC (lBool) (fC (lInt .i64) (fC (lInt .i64) (fO (lInt .u64)))))) (a0)
noncomputable def rd44 : Rd (Int × Int) := r2 (cInt .u64) (cInt .u64)
noncomputable def fn_show_between (N : Nat) (x0 : (Bool × Int × Int × Int)) : Option (Int × Int) :=
  cond (eqI x0.2.1 2)
   (cond (eqI x0.2.2.2 4503599627370496)
    (cond (ltI (-1074) x0.2.2.1)
     (some (addI .u64 (subI .u64 (mulI .u64 4 x0.2.2.2) 2) 1, addI .u64 (mulI .u64 4 x0.2.2.2) 2))
     (some (subI .u64 (mulI .u64 4 x0.2.2.2) 2, addI .u64 (mulI .u64 4 x0.2.2.2) 2)))
    (some (subI .u64 (mulI .u64 4 x0.2.2.2) 2, addI .u64 (mulI .u64 4 x0.2.2.2) 2)))
   (some (subI .u64 (mulI .u64 4 x0.2.2.2) 2, addI .u64 (mulI .u64 4 x0.2.2.2) 2))
theorem run44 (N : Nat) (x0 : (Bool × Int × Int × Int)) : Eng.run T44 (G44 N) N live44 c44 Tryz.f44.results.toList Tryz.f44.ntmps ((ad44).enc (x0, ())) (rd44).dec = fn_show_between N x0 := by kernel_rfl
noncomputable def F44 (N : Nat) (a : (Bool × Int × Int × Int) × Unit) : Option (Int × Int) := fn_show_between N a.1
theorem ok44 (N : Nat) : FnOK Tryz.prog 44 ad44 rd44 (F44 N) :=
  fn_ok (N := N) (live := live44) (code := c44) (tok T44.rt T44.kl (wrNil_ok)) mixed (gok44 N) Tryz.func44 (by kernel_rfl) (by kernel_rfl) (by kernel_rfl) fun a p h => by rw [← h]; exact run44 N a.1

/-! ### tiller/nat.short: function 109 -/
noncomputable def c109 : Code := (Tryz.f109.body).getD .skip
noncomputable def T109 : Tb := ⟨tyOf tys, [(34, 6)], [40], wrNil⟩
noncomputable def G109 {R : Type} (N : Nat) : FuncId → List AV → (AV → Option R) → Option R := gCons 80 (gOf ad80 rd80 (F80 N)) (gNil)
theorem gok109 {R : Type} (N : Nat) : GOK Tryz.prog (G109 (R := R) N) := gCons_ok (ok80 N) (gNil_ok)
noncomputable def live109 : List (Nat × List (Nat × HK)) := [(4, [(0, .keep), (1, .keep), (6, .row .u32 125), (7, .keep), (8, .keep)])]
noncomputable def ad109 : Ad (List Int × Int × Unit) := aC (cLi .u32) (aC (cInt .u32) (a0))
noncomputable def rd109 : Rd (List Int × Int) := r2 (cLi .u32) (cInt .u32)
noncomputable def st109_0 (v0 : List Int) (v1 : Int) (v2 : Int) (v3 : Int) (v4 : List Int) : St := ⟨[AV.li .u32 v0, AV.v (.int .u32 v1), AV.none, AV.none, AV.none, AV.none, AV.own 6, AV.v (.int .u64 v2), AV.v (.int .i64 v3), AV.none, AV.none, AV.none, AV.none, AV.none, AV.none, AV.none, AV.none, AV.none, AV.none, AV.none, AV.none, AV.none, AV.none, AV.none, AV.none, AV.none, AV.none, AV.none, AV.none, AV.none, AV.none, AV.none, AV.none, AV.none, AV.none, AV.none, AV.none, AV.none, AV.none, AV.none, AV.none, AV.none, AV.none], [none, none, none, none, none, none, some (OB.row .u32 125 v4), none, none, none, none, none, none, none, none, none, none, none, none, none, none, none, none, none, none, none, none, none, none, none, none, none, none, none, none, none, none, none, none, none, none, none, none]⟩
noncomputable def raw109_0 (N : Nat) (n : Nat) (v0 : List Int) (v1 : Int) (v2 : Int) (v3 : Int) (v4 : List Int) : Option (List Int × Int) := loopN (lookN live109 4) (exec T109 (G109 N) N live109 (cL (cL (cR (cL (cR (cR (cR c109)))))))) n (st109_0 v0 v1 v2 v3 v4) (blockK 0 (seqK (exec T109 (G109 N) N live109 (cR (cR (cR (cR c109))))) (retK T109 Tryz.f109.results.toList (rd109).dec)))
noncomputable def s109_0 (N : Nat) (Ln0 : List Int → Int → Int → Int → List Int → Option (List Int × Int)) (v0 : List Int) (v1 : Int) (v2 : Int) (v3 : Int) (v4 : List Int) : Option (List Int × Int) :=
  cond (leI 0 v3)
   (cond (leI 0 v3)
    (cond (ltI v3 (v0.length : Int))
     (cond (eqI (cvI .u64 v1) 0)
      (none)
      (cond (leI 0 v3)
       (cond (ltI v3 (v4.length : Int))
        (cond (eqI (cvI .u64 v1) 0)
         (none)
         (Ln0 v0 v1 (remI .u64 (orI .u64 (shlI .u64 v2 32) (cvI .u64 (lrd v0 v3))) (cvI .u64 v1)) (subI .i64 v3 1) (v4.set v3.toNat (cvI .u32 (quoI .u64 (orI .u64 (shlI .u64 v2 32) (cvI .u64 (lrd v0 v3))) (cvI .u64 v1))))))
        (none))
       (none)))
     (none))
    (none))
   ((fn_nat_trim N v4).bind fun r1 =>
    some (r1, cvI .u32 v2))
theorem step109_0 (N : Nat) (n : Nat) (v0 : List Int) (v1 : Int) (v2 : Int) (v3 : Int) (v4 : List Int) : raw109_0 N  (n + 1) v0 v1 v2 v3 v4 = s109_0 N (raw109_0 N  n) v0 v1 v2 v3 v4 := by kernel_rfl
noncomputable def l109_0 (N : Nat) : Nat → List Int → Int → Int → Int → List Int → Option (List Int × Int)
  | 0 => fun _ _ _ _ _ => none
  | n + 1 => fun v0 v1 v2 v3 v4 => s109_0 N (l109_0 N  n) v0 v1 v2 v3 v4
theorem eq109_0 (N : Nat) : ∀ n, raw109_0 N  n = l109_0 N  n := by
  intro n
  induction n with
  | zero => exact funext fun v0 => funext fun v1 => funext fun v2 => funext fun v3 => funext fun v4 => rfl
  | succ n ih => exact funext fun v0 => funext fun v1 => funext fun v2 => funext fun v3 => funext fun v4 => by rw [step109_0, ih]; rfl
noncomputable def t109 (N : Nat) (Le0 : List Int → Int → Int → Int → List Int → Option (List Int × Int)) (x0 : List Int) (x1 : Int) : Option (List Int × Int) :=
  cond (leI 0 (x0.length : Int))
   (cond (leI (x0.length : Int) 17592186044416)
    (Le0 x0 x1 0 (subI .i64 (x0.length : Int) 1) (List.replicate ((x0.length : Int).toNat) (0 : Int)))
    (none))
   (none)
noncomputable def fn_nat_short (N : Nat) (x0 : List Int) (x1 : Int) : Option (List Int × Int) := t109 N (l109_0 N N) x0 x1
theorem run109 (N : Nat) (x0 : List Int) (x1 : Int) : Eng.run T109 (G109 N) N live109 c109 Tryz.f109.results.toList Tryz.f109.ntmps ((ad109).enc (x0, x1, ())) (rd109).dec = fn_nat_short N x0 x1 := by
  refine Eq.trans (show _ = t109 N (raw109_0 N N) x0 x1 from by kernel_rfl) ?_
  unfold fn_nat_short
  rw [eq109_0 N N]
noncomputable def F109 (N : Nat) (a : List Int × Int × Unit) : Option (List Int × Int) := fn_nat_short N a.1 a.2.1
theorem ok109 (N : Nat) : FnOK Tryz.prog 109 ad109 rd109 (F109 N) :=
  fn_ok (N := N) (live := live109) (code := c109) (tok T109.rt T109.kl (wrNil_ok)) mixed (gok109 N) Tryz.func109 (by kernel_rfl) (by kernel_rfl) (by kernel_rfl) fun a p h => by rw [← h]; exact run109 N a.1 a.2.1

/-! ### math/bits.LeadingZeros32: function 125 -/
noncomputable def c125 : Code := (Tryz.f125.body).getD .skip
noncomputable def T125 : Tb := ⟨tyOf tys, [], [], wrNil⟩
noncomputable def G125 {R : Type} (N : Nat) : FuncId → List AV → (AV → Option R) → Option R := gCons 82 (gOf ad82 rd82 (F82 N)) (gNil)
theorem gok125 {R : Type} (N : Nat) : GOK Tryz.prog (G125 (R := R) N) := gCons_ok (ok82 N) (gNil_ok)
noncomputable def live125 : List (Nat × List (Nat × HK)) := []
noncomputable def ad125 : Ad (Int × Unit) := aC (cInt .u32) (a0)
noncomputable def rd125 : Rd (Int) := r1 (cInt .i64)
noncomputable def fn_bits_LeadingZeros32 (N : Nat) (x0 : Int) : Option (Int) :=
  (fn_bits_Len32 N x0).bind fun r1 =>
   some (subI .i64 32 r1)
theorem run125 (N : Nat) (x0 : Int) : Eng.run T125 (G125 N) N live125 c125 Tryz.f125.results.toList Tryz.f125.ntmps ((ad125).enc (x0, ())) (rd125).dec = fn_bits_LeadingZeros32 N x0 := by kernel_rfl
noncomputable def F125 (N : Nat) (a : Int × Unit) : Option (Int) := fn_bits_LeadingZeros32 N a.1
theorem ok125 (N : Nat) : FnOK Tryz.prog 125 ad125 rd125 (F125 N) :=
  fn_ok (N := N) (live := live125) (code := c125) (tok T125.rt T125.kl (wrNil_ok)) mixed (gok125 N) Tryz.func125 (by kernel_rfl) (by kernel_rfl) (by kernel_rfl) fun a p h => by rw [← h]; exact run125 N a.1

/-! ### tiller/nat.guess: function 126 -/
noncomputable def c126 : Code := (Tryz.f126.body).getD .skip
noncomputable def T126 : Tb := ⟨tyOf tys, [(8, 2), (12, 2), (17, 3), (22, 3), (30, 3), (36, 2), (45, 3)], [], wrNil⟩
noncomputable def G126 {R : Type} (N : Nat) : FuncId → List AV → (AV → Option R) → Option R := gNil
theorem gok126 {R : Type} (N : Nat) : GOK Tryz.prog (G126 (R := R) N) := gNil_ok
noncomputable def live126 : List (Nat × List (Nat × HK)) := [(3, [(2, .keep), (3, .keep), (6, .keep), (7, .keep)])]
noncomputable def ad126 : Ad (Vec 3 × Vec 2 × Unit) := aC (cVec .u32 3) (aC (cVec .u32 2) (a0))
noncomputable def rd126 : Rd (Int) := r1 (cInt .u64)
noncomputable def st126_0 (v0 : Int) (v1 : Int) (v2 : Vec 3) (v3 : Vec 2) : St := ⟨[AV.none, AV.none, AV.ptr 2 0, AV.ptr 3 0, AV.none, AV.none, AV.v (.int .u64 v0), AV.v (.int .u64 v1), AV.none, AV.none, AV.none, AV.none, AV.none, AV.none, AV.none, AV.none, AV.none, AV.none, AV.none, AV.none, AV.none, AV.none, AV.none, AV.none, AV.none, AV.none, AV.none, AV.none, AV.none, AV.none, AV.none, AV.none, AV.none, AV.none, AV.none, AV.none, AV.none, AV.none, AV.none, AV.none, AV.none, AV.none, AV.none, AV.none, AV.none, AV.none, AV.none, AV.none, AV.none, AV.none, AV.none, AV.none], [none, none, some (OB.arr .u32 3 v2), some (OB.arr .u32 2 v3), none, none, none, none, none, none, none, none, none, none, none, none, none, none, none, none, none, none, none, none, none, none, none, none, none, none, none, none, none, none, none, none, none, none, none, none, none, none, none, none, none, none, none, none, none, none, none, none]⟩
noncomputable def raw126_0 (N : Nat) (n : Nat) (v0 : Int) (v1 : Int) (v2 : Vec 3) (v3 : Vec 2) : Option (Int) := loopN (lookN live126 3) (exec T126 (G126 N) N live126 (cL (cL (cL (cR (cR (cR c126))))))) n (st126_0 v0 v1 v2 v3) (blockK 0 (seqK (exec T126 (G126 N) N live126 (cR (cR (cR (cR c126))))) (retK T126 Tryz.f126.results.toList (rd126).dec)))
noncomputable def s126_0 (N : Nat) (Ln0 : Int → Int → Vec 3 → Vec 2 → Option (Int)) (v0 : Int) (v1 : Int) (v2 : Vec 3) (v3 : Vec 2) : Option (Int) :=
  cond (leI 4294967296 v0)
   (cond (leI 4294967296 (addI .u64 v1 (cvI .u64 (Vec.rd v3 0))))
    (some (subI .u64 v0 1))
    (Ln0 (subI .u64 v0 1) (addI .u64 v1 (cvI .u64 (Vec.rd v3 0))) v2 v3))
   (cond (ltI (orI .u64 (shlI .u64 v1 32) (cvI .u64 (Vec.rd v2 2))) (mulI .u64 v0 (cvI .u64 (Vec.rd v3 1))))
    (cond (leI 4294967296 (addI .u64 v1 (cvI .u64 (Vec.rd v3 0))))
     (some (subI .u64 v0 1))
     (Ln0 (subI .u64 v0 1) (addI .u64 v1 (cvI .u64 (Vec.rd v3 0))) v2 v3))
    (some v0))
theorem step126_0 (N : Nat) (n : Nat) (v0 : Int) (v1 : Int) (v2 : Vec 3) (v3 : Vec 2) : raw126_0 N  (n + 1) v0 v1 v2 v3 = s126_0 N (raw126_0 N  n) v0 v1 v2 v3 := by kernel_rfl
noncomputable def l126_0 (N : Nat) : Nat → Int → Int → Vec 3 → Vec 2 → Option (Int)
  | 0 => fun _ _ _ _ => none
  | n + 1 => fun v0 v1 v2 v3 => s126_0 N (l126_0 N  n) v0 v1 v2 v3
theorem eq126_0 (N : Nat) : ∀ n, raw126_0 N  n = l126_0 N  n := by
  intro n
  induction n with
  | zero => exact funext fun v0 => funext fun v1 => funext fun v2 => funext fun v3 => rfl
  | succ n ih => exact funext fun v0 => funext fun v1 => funext fun v2 => funext fun v3 => by rw [step126_0, ih]; rfl
noncomputable def t126 (N : Nat) (Le0 : Int → Int → Vec 3 → Vec 2 → Option (Int)) (x0 : Vec 3) (x1 : Vec 2) : Option (Int) :=
  cond (eqI (cvI .u64 (Vec.rd x1 0)) 0)
   (none)
   (cond (eqI (cvI .u64 (Vec.rd x1 0)) 0)
    (none)
    (Le0 (quoI .u64 (orI .u64 (shlI .u64 (cvI .u64 (Vec.rd x0 0)) 32) (cvI .u64 (Vec.rd x0 1))) (cvI .u64 (Vec.rd x1 0))) (remI .u64 (orI .u64 (shlI .u64 (cvI .u64 (Vec.rd x0 0)) 32) (cvI .u64 (Vec.rd x0 1))) (cvI .u64 (Vec.rd x1 0))) x0 x1))
noncomputable def fn_nat_guess (N : Nat) (x0 : Vec 3) (x1 : Vec 2) : Option (Int) := t126 N (l126_0 N N) x0 x1
theorem run126 (N : Nat) (x0 : Vec 3) (x1 : Vec 2) : Eng.run T126 (G126 N) N live126 c126 Tryz.f126.results.toList Tryz.f126.ntmps ((ad126).enc (x0, x1, ())) (rd126).dec = fn_nat_guess N x0 x1 := by
  refine Eq.trans (show _ = t126 N (raw126_0 N N) x0 x1 from by kernel_rfl) ?_
  unfold fn_nat_guess
  rw [eq126_0 N N]
noncomputable def F126 (N : Nat) (a : Vec 3 × Vec 2 × Unit) : Option (Int) := fn_nat_guess N a.1 a.2.1
theorem ok126 (N : Nat) : FnOK Tryz.prog 126 ad126 rd126 (F126 N) :=
  fn_ok (N := N) (live := live126) (code := c126) (tok T126.rt T126.kl (wrNil_ok)) mixed (gok126 N) Tryz.func126 (by kernel_rfl) (by kernel_rfl) (by kernel_rfl) fun a p h => by rw [← h]; exact run126 N a.1 a.2.1

/-! ### (tiller/nat.N).at: function 107 -/
noncomputable def c107 : Code := (Tryz.f107.body).getD .skip
noncomputable def T107 : Tb := ⟨tyOf tys, [], [], wrNil⟩
noncomputable def G107 {R : Type} (N : Nat) : FuncId → List AV → (AV → Option R) → Option R := gNil
theorem gok107 {R : Type} (N : Nat) : GOK Tryz.prog (G107 (R := R) N) := gNil_ok
noncomputable def live107 : List (Nat × List (Nat × HK)) := []
noncomputable def ad107 : Ad (List Int × Int × Unit) := aC (cLi .u32) (aC (cInt .i64) (a0))
noncomputable def rd107 : Rd (Int) := r1 (cInt .u64)
noncomputable def fn_nat_N_at (N : Nat) (x0 : List Int) (x1 : Int) : Option (Int) :=
  cond (ltI x1 (x0.length : Int))
   (cond (leI 0 x1)
    (cond (ltI x1 (x0.length : Int))
     (some (cvI .u64 (lrd x0 x1)))
     (none))
    (none))
   (some 0)
theorem run107 (N : Nat) (x0 : List Int) (x1 : Int) : Eng.run T107 (G107 N) N live107 c107 Tryz.f107.results.toList Tryz.f107.ntmps ((ad107).enc (x0, x1, ())) (rd107).dec = fn_nat_N_at N x0 x1 := by kernel_rfl
noncomputable def F107 (N : Nat) (a : List Int × Int × Unit) : Option (Int) := fn_nat_N_at N a.1 a.2.1
theorem ok107 (N : Nat) : FnOK Tryz.prog 107 ad107 rd107 (F107 N) :=
  fn_ok (N := N) (live := live107) (code := c107) (tok T107.rt T107.kl (wrNil_ok)) mixed (gok107 N) Tryz.func107 (by kernel_rfl) (by kernel_rfl) (by kernel_rfl) fun a p h => by rw [← h]; exact run107 N a.1 a.2.1

/-! ### tiller/nat.take: function 127 -/
noncomputable def c127 : Code := (Tryz.f127.body).getD .skip
noncomputable def T127 : Tb := ⟨tyOf tys, [(31, 0), (45, 0), (64, 0), (78, 0)], [], wrNil⟩
noncomputable def G127 {R : Type} (N : Nat) : FuncId → List AV → (AV → Option R) → Option R := gCons 107 (gOf ad107 rd107 (F107 N)) (gNil)
theorem gok127 {R : Type} (N : Nat) : GOK Tryz.prog (G127 (R := R) N) := gCons_ok (ok107 N) (gNil_ok)
noncomputable def live127 : List (Nat × List (Nat × HK)) := [(3, [(0, .row .u32 125), (1, .keep), (2, .keep), (3, .keep), (9, .keep), (10, .keep), (16, .keep), (17, .keep)]), (14, [(0, .row .u32 125), (1, .keep), (2, .keep), (9, .keep), (55, .keep), (56, .keep)])]
noncomputable def ad127 : Ad (List Int × Int × Int × Unit) := aC (cLi .u32) (aC (cInt .i64) (aC (cInt .u64) (a0)))
noncomputable def rd127 : Rd (Bool) := r1 (cBool)
noncomputable def st127_0 (v0 : List Int) (v1 : Int) (v2 : Int) (v3 : Int) (v4 : Int) (v5 : Int) (v6 : Int) (v7 : List Int) : St := ⟨[AV.own 0, AV.li .u32 v0, AV.v (.int .i64 v1), AV.v (.int .u64 v2), AV.none, AV.none, AV.none, AV.none, AV.none, AV.v (.int .u64 v3), AV.v (.int .u64 v4), AV.none, AV.none, AV.none, AV.none, AV.none, AV.v (.int .i64 v5), AV.v (.int .i64 v6), AV.none, AV.none, AV.none, AV.none, AV.none, AV.none, AV.none, AV.none, AV.none, AV.none, AV.none, AV.none, AV.none, AV.none, AV.none, AV.none, AV.none, AV.none, AV.none, AV.none, AV.none, AV.none, AV.none, AV.none, AV.none, AV.none, AV.none, AV.none, AV.none, AV.none, AV.none, AV.none, AV.none, AV.none, AV.none, AV.none, AV.none, AV.none, AV.none, AV.none, AV.none, AV.none, AV.none, AV.none, AV.none, AV.none, AV.none, AV.none, AV.none, AV.none, AV.none, AV.none, AV.none, AV.none, AV.none, AV.none, AV.none, AV.none, AV.none, AV.none, AV.none, AV.none, AV.none, AV.none], [some (OB.row .u32 125 v7), none, none, none, none, none, none, none, none, none, none, none, none, none, none, none, none, none, none, none, none, none, none, none, none, none, none, none, none, none, none, none, none, none, none, none, none, none, none, none, none, none, none, none, none, none, none, none, none, none, none, none, none, none, none, none, none, none, none, none, none, none, none, none, none, none, none, none, none, none, none, none, none, none, none, none, none, none, none, none, none, none]⟩
noncomputable def raw127_0 (N xl : Nat) (n : Nat) (v0 : List Int) (v1 : Int) (v2 : Int) (v3 : Int) (v4 : Int) (v5 : Int) (v6 : Int) (v7 : List Int) : Option (List Int × (Bool)) := loopN (lookN live127 3) (exec T127 (G127 N) N live127 (cL (cL (cR (cL (cR (cR c127))))))) n (st127_0 v0 v1 v2 v3 v4 v5 v6 v7) (blockK 0 (seqK (exec T127 (G127 N) N live127 (cR (cR (cR c127)))) (retKW T127 Tryz.f127.results.toList .u32 125 xl (kW rd127))))
noncomputable def st127_1 (v0 : List Int) (v1 : Int) (v2 : Int) (v3 : Int) (v4 : Int) (v5 : List Int) : St := ⟨[AV.own 0, AV.li .u32 v0, AV.v (.int .i64 v1), AV.none, AV.none, AV.none, AV.none, AV.none, AV.none, AV.v (.int .u64 v2), AV.none, AV.none, AV.none, AV.none, AV.none, AV.none, AV.none, AV.none, AV.none, AV.none, AV.none, AV.none, AV.none, AV.none, AV.none, AV.none, AV.none, AV.none, AV.none, AV.none, AV.none, AV.none, AV.none, AV.none, AV.none, AV.none, AV.none, AV.none, AV.none, AV.none, AV.none, AV.none, AV.none, AV.none, AV.none, AV.none, AV.none, AV.none, AV.none, AV.none, AV.none, AV.none, AV.none, AV.none, AV.none, AV.v (.int .i64 v3), AV.v (.int .i64 v4), AV.none, AV.none, AV.none, AV.none, AV.none, AV.none, AV.none, AV.none, AV.none, AV.none, AV.none, AV.none, AV.none, AV.none, AV.none, AV.none, AV.none, AV.none, AV.none, AV.none, AV.none, AV.none, AV.none, AV.none, AV.none], [some (OB.row .u32 125 v5), none, none, none, none, none, none, none, none, none, none, none, none, none, none, none, none, none, none, none, none, none, none, none, none, none, none, none, none, none, none, none, none, none, none, none, none, none, none, none, none, none, none, none, none, none, none, none, none, none, none, none, none, none, none, none, none, none, none, none, none, none, none, none, none, none, none, none, none, none, none, none, none, none, none, none, none, none, none, none, none, none]⟩
noncomputable def raw127_1 (N xl : Nat) (n : Nat) (v0 : List Int) (v1 : Int) (v2 : Int) (v3 : Int) (v4 : Int) (v5 : List Int) : Option (List Int × (Bool)) := loopN (lookN live127 14) (exec T127 (G127 N) N live127 (cL (cL (cR (cL (cR (cR (cR (cR (cR c127)))))))))) n (st127_1 v0 v1 v2 v3 v4 v5) (blockK 2 (seqK (exec T127 (G127 N) N live127 (cR (cR (cR (cR (cR (cR c127))))))) (retKW T127 Tryz.f127.results.toList .u32 125 xl (kW rd127))))
noncomputable def s127_1 (N xl : Nat) (Ln1 : List Int → Int → Int → Int → Int → List Int → Option (List Int × (Bool))) (v0 : List Int) (v1 : Int) (v2 : Int) (v3 : Int) (v4 : Int) (v5 : List Int) : Option (List Int × (Bool)) :=
  cond (ltI v4 v3)
   (cond (leI 0 (addI .i64 v1 v4))
    (cond (ltI (addI .i64 v1 v4) (v5.length : Int))
     ((fn_nat_N_at N v0 v4).bind fun r2 =>
      cond (leI 0 (addI .i64 v1 v4))
       (cond (ltI (addI .i64 v1 v4) (v5.length : Int))
        (Ln1 v0 v1 (shrI .u64 (addI .u64 v2 (addI .u64 (cvI .u64 (lrd v5 (addI .i64 v1 v4))) r2)) 32) v3 (addI .i64 v4 1) (v5.set ((addI .i64 v1 v4).toNat) (cvI .u32 (addI .u64 v2 (addI .u64 (cvI .u64 (lrd v5 (addI .i64 v1 v4))) r2)))))
        (none))
       (none))
     (none))
    (none))
   (cond (Nat.beq v5.length xl)
    (some (v5, true))
    (none))
theorem step127_1 (N xl : Nat) (n : Nat) (v0 : List Int) (v1 : Int) (v2 : Int) (v3 : Int) (v4 : Int) (v5 : List Int) : raw127_1 N xl  (n + 1) v0 v1 v2 v3 v4 v5 = s127_1 N xl (raw127_1 N xl  n) v0 v1 v2 v3 v4 v5 := by kernel_rfl
noncomputable def l127_1 (N xl : Nat) : Nat → List Int → Int → Int → Int → Int → List Int → Option (List Int × (Bool))
  | 0 => fun _ _ _ _ _ _ => none
  | n + 1 => fun v0 v1 v2 v3 v4 v5 => s127_1 N xl (l127_1 N xl  n) v0 v1 v2 v3 v4 v5
theorem eq127_1 (N xl : Nat) : ∀ n, raw127_1 N xl  n = l127_1 N xl  n := by
  intro n
  induction n with
  | zero => exact funext fun v0 => funext fun v1 => funext fun v2 => funext fun v3 => funext fun v4 => funext fun v5 => rfl
  | succ n ih => exact funext fun v0 => funext fun v1 => funext fun v2 => funext fun v3 => funext fun v4 => funext fun v5 => by rw [step127_1, ih]; rfl
noncomputable def s127_0 (N xl : Nat) (Ln0 : List Int → Int → Int → Int → Int → Int → Int → List Int → Option (List Int × (Bool))) (Le1 : List Int → Int → Int → Int → Int → List Int → Option (List Int × (Bool))) (v0 : List Int) (v1 : Int) (v2 : Int) (v3 : Int) (v4 : Int) (v5 : Int) (v6 : Int) (v7 : List Int) : Option (List Int × (Bool)) :=
  cond (ltI v6 v5)
   ((fn_nat_N_at N v0 v6).bind fun r1 =>
    cond (leI 0 (addI .i64 v1 v6))
     (cond (ltI (addI .i64 v1 v6) (v7.length : Int))
      (cond (leI 0 (addI .i64 v1 v6))
       (cond (ltI (addI .i64 v1 v6) (v7.length : Int))
        (Ln0 v0 v1 v2 (shrI .u64 (subI .u64 (subI .u64 (cvI .u64 (lrd v7 (addI .i64 v1 v6))) (andI .u64 (addI .u64 v4 (mulI .u64 v2 r1)) 4294967295)) v3) 63) (shrI .u64 (addI .u64 v4 (mulI .u64 v2 r1)) 32) v5 (addI .i64 v6 1) (v7.set ((addI .i64 v1 v6).toNat) (cvI .u32 (subI .u64 (subI .u64 (cvI .u64 (lrd v7 (addI .i64 v1 v6))) (andI .u64 (addI .u64 v4 (mulI .u64 v2 r1)) 4294967295)) v3))))
        (none))
       (none))
      (none))
     (none))
   (cond (eqI v3 0)
    (cond (Nat.beq v7.length xl)
     (some (v7, false))
     (none))
    (Le1 v0 v1 0 (addI .i64 (v0.length : Int) 1) 0 v7))
theorem step127_0 (N xl : Nat) (n : Nat) (v0 : List Int) (v1 : Int) (v2 : Int) (v3 : Int) (v4 : Int) (v5 : Int) (v6 : Int) (v7 : List Int) : raw127_0 N xl  (n + 1) v0 v1 v2 v3 v4 v5 v6 v7 = s127_0 N xl (raw127_0 N xl  n) (raw127_1 N xl  N) v0 v1 v2 v3 v4 v5 v6 v7 := by kernel_rfl
noncomputable def l127_0 (N xl : Nat) : Nat → List Int → Int → Int → Int → Int → Int → Int → List Int → Option (List Int × (Bool))
  | 0 => fun _ _ _ _ _ _ _ _ => none
  | n + 1 => fun v0 v1 v2 v3 v4 v5 v6 v7 => s127_0 N xl (l127_0 N xl  n) (l127_1 N xl  N) v0 v1 v2 v3 v4 v5 v6 v7
theorem eq127_0 (N xl : Nat) : ∀ n, raw127_0 N xl  n = l127_0 N xl  n := by
  intro n
  induction n with
  | zero => exact funext fun v0 => funext fun v1 => funext fun v2 => funext fun v3 => funext fun v4 => funext fun v5 => funext fun v6 => funext fun v7 => rfl
  | succ n ih => exact funext fun v0 => funext fun v1 => funext fun v2 => funext fun v3 => funext fun v4 => funext fun v5 => funext fun v6 => funext fun v7 => by rw [step127_0, eq127_1 N xl  N, ih]; rfl
noncomputable def t127 (N xl : Nat) (Le0 : List Int → Int → Int → Int → Int → Int → Int → List Int → Option (List Int × (Bool))) (x0 : List Int) (x1 : List Int) (x2 : Int) (x3 : Int) : Option (List Int × (Bool)) :=
  Le0 x1 x2 x3 0 0 (addI .i64 (x1.length : Int) 1) 0 x0
noncomputable def fn_nat_take (N : Nat) (x0 : List Int) (x1 : List Int) (x2 : Int) (x3 : Int) : Option (List Int × (Bool)) := t127 N x0.length (l127_0 N x0.length N) x0 x1 x2 x3
theorem run127 (N : Nat) (x0 : List Int) (x1 : List Int) (x2 : Int) (x3 : Int) : Eng.runW T127 (G127 N) N live127 c127 Tryz.f127.results.toList Tryz.f127.ntmps .u32 125 x0 ((ad127).enc (x1, x2, x3, ())) (kW rd127) = fn_nat_take N x0 x1 x2 x3 := by
  refine Eq.trans (show _ = t127 N x0.length (raw127_0 N x0.length N) x0 x1 x2 x3 from by kernel_rfl) ?_
  unfold fn_nat_take
  rw [eq127_0 N x0.length N]
noncomputable def F127 (N : Nat) (x0 : List Int) (a : List Int × Int × Int × Unit) : Option (List Int × (Bool)) := fn_nat_take N x0 a.1 a.2.1 a.2.2.1
theorem okw127 (N : Nat) : FnwOK Tryz.prog 127 .u32 125 ad127 rd127 (F127 N) :=
  fnw_ok (N := N) (live := live127) (code := c127) (tok T127.rt T127.kl (wrNil_ok)) mixed (gok127 N) Tryz.func127 (by kernel_rfl) (by kernel_rfl) (by kernel_rfl) (by kernel_rfl) (by kernel_rfl) fun x0 a p h => by rw [← h]; exact run127 N x0 a.1 a.2.1 a.2.2.1

/-! ### tiller/nat.down: function 128 -/
noncomputable def c128 : Code := (Tryz.f128.body).getD .skip
noncomputable def T128 : Tb := ⟨tyOf tys, [(29, 5)], [32], wrNil⟩
noncomputable def G128 {R : Type} (N : Nat) : FuncId → List AV → (AV → Option R) → Option R := gCons 107 (gOf ad107 rd107 (F107 N)) (gCons 80 (gOf ad80 rd80 (F80 N)) (gNil))
theorem gok128 {R : Type} (N : Nat) : GOK Tryz.prog (G128 (R := R) N) := gCons_ok (ok107 N) (gCons_ok (ok80 N) (gNil_ok))
noncomputable def live128 : List (Nat × List (Nat × HK)) := [(3, [(0, .keep), (1, .keep), (5, .row .u32 125), (11, .keep), (12, .keep)])]
noncomputable def ad128 : Ad (List Int × Int × Unit) := aC (cLi .u32) (aC (cInt .i64) (a0))
noncomputable def rd128 : Rd (List Int) := r1 (cLi .u32)
noncomputable def st128_0 (v0 : List Int) (v1 : Int) (v2 : Int) (v3 : Int) (v4 : List Int) : St := ⟨[AV.li .u32 v0, AV.v (.int .i64 v1), AV.none, AV.none, AV.none, AV.own 5, AV.none, AV.none, AV.none, AV.none, AV.none, AV.v (.int .i64 v2), AV.v (.int .i64 v3), AV.none, AV.none, AV.none, AV.none, AV.none, AV.none, AV.none, AV.none, AV.none, AV.none, AV.none, AV.none, AV.none, AV.none, AV.none, AV.none, AV.none, AV.none, AV.none, AV.none], [none, none, none, none, none, some (OB.row .u32 125 v4), none, none, none, none, none, none, none, none, none, none, none, none, none, none, none, none, none, none, none, none, none, none, none, none, none, none, none]⟩
noncomputable def raw128_0 (N : Nat) (n : Nat) (v0 : List Int) (v1 : Int) (v2 : Int) (v3 : Int) (v4 : List Int) : Option (List Int) := loopN (lookN live128 3) (exec T128 (G128 N) N live128 (cL (cL (cR (cL (cR (cR c128))))))) n (st128_0 v0 v1 v2 v3 v4) (blockK 0 (seqK (exec T128 (G128 N) N live128 (cR (cR (cR c128)))) (retK T128 Tryz.f128.results.toList (rd128).dec)))
noncomputable def s128_0 (N : Nat) (Ln0 : List Int → Int → Int → Int → List Int → Option (List Int)) (v0 : List Int) (v1 : Int) (v2 : Int) (v3 : Int) (v4 : List Int) : Option (List Int) :=
  cond (ltI v3 v2)
   ((fn_nat_N_at N v0 v3).bind fun r1 =>
    (fn_nat_N_at N v0 (addI .i64 v3 1)).bind fun r2 =>
     cond (ltI v1 0)
      (none)
      (cond (leI 0 v3)
       (cond (ltI v3 (v4.length : Int))
        (Ln0 v0 v1 v2 (addI .i64 v3 1) (v4.set v3.toNat (cvI .u32 (shrI .u64 (orI .u64 r1 (shlI .u64 r2 32)) v1))))
        (none))
       (none)))
   ((fn_nat_trim N v4).bind fun r3 =>
    some r3)
theorem step128_0 (N : Nat) (n : Nat) (v0 : List Int) (v1 : Int) (v2 : Int) (v3 : Int) (v4 : List Int) : raw128_0 N  (n + 1) v0 v1 v2 v3 v4 = s128_0 N (raw128_0 N  n) v0 v1 v2 v3 v4 := by kernel_rfl
noncomputable def l128_0 (N : Nat) : Nat → List Int → Int → Int → Int → List Int → Option (List Int)
  | 0 => fun _ _ _ _ _ => none
  | n + 1 => fun v0 v1 v2 v3 v4 => s128_0 N (l128_0 N  n) v0 v1 v2 v3 v4
theorem eq128_0 (N : Nat) : ∀ n, raw128_0 N  n = l128_0 N  n := by
  intro n
  induction n with
  | zero => exact funext fun v0 => funext fun v1 => funext fun v2 => funext fun v3 => funext fun v4 => rfl
  | succ n ih => exact funext fun v0 => funext fun v1 => funext fun v2 => funext fun v3 => funext fun v4 => by rw [step128_0, ih]; rfl
noncomputable def t128 (N : Nat) (Le0 : List Int → Int → Int → Int → List Int → Option (List Int)) (x0 : List Int) (x1 : Int) : Option (List Int) :=
  cond (leI 0 (x0.length : Int))
   (cond (leI (x0.length : Int) 17592186044416)
    (Le0 x0 x1 ((List.replicate ((x0.length : Int).toNat) (0 : Int)).length : Int) 0 (List.replicate ((x0.length : Int).toNat) (0 : Int)))
    (none))
   (none)
noncomputable def fn_nat_down (N : Nat) (x0 : List Int) (x1 : Int) : Option (List Int) := t128 N (l128_0 N N) x0 x1
theorem run128 (N : Nat) (x0 : List Int) (x1 : Int) : Eng.run T128 (G128 N) N live128 c128 Tryz.f128.results.toList Tryz.f128.ntmps ((ad128).enc (x0, x1, ())) (rd128).dec = fn_nat_down N x0 x1 := by
  refine Eq.trans (show _ = t128 N (raw128_0 N N) x0 x1 from by kernel_rfl) ?_
  unfold fn_nat_down
  rw [eq128_0 N N]
noncomputable def F128 (N : Nat) (a : List Int × Int × Unit) : Option (List Int) := fn_nat_down N a.1 a.2.1
theorem ok128 (N : Nat) : FnOK Tryz.prog 128 ad128 rd128 (F128 N) :=
  fn_ok (N := N) (live := live128) (code := c128) (tok T128.rt T128.kl (wrNil_ok)) mixed (gok128 N) Tryz.func128 (by kernel_rfl) (by kernel_rfl) (by kernel_rfl) fun a p h => by rw [← h]; exact run128 N a.1 a.2.1

/-! ### tiller/nat.parts: function 104 -/
noncomputable def c104 : Code := (Tryz.f104.body).getD .skip
noncomputable def T104 (N : Nat) : Tb := ⟨tyOf tys, [(75, 10), (82, 10), (89, 10), (115, 12)], [117, 119], wrCons 127 (wOf .u32 125 ad127 rd127 (F127 N)) (wrNil)⟩
noncomputable def G104 {R : Type} (N : Nat) : FuncId → List AV → (AV → Option R) → Option R := gCons 106 (gOf ad106 rd106 (F106 N)) (gCons 108 (gOf (aC (cLi .u32) a0) (r1 (cLi .u32)) (fun a => fn_slices_Clone N a.1)) (gCons 109 (gOf ad109 rd109 (F109 N)) (gCons 40 (gOf ad40 rd40 (F40 N)) (gCons 125 (gOf ad125 rd125 (F125 N)) (gCons 103 (gOf ad103 rd103 (F103 N)) (gCons 126 (gOf ad126 rd126 (F126 N)) (gCons 80 (gOf ad80 rd80 (F80 N)) (gCons 128 (gOf ad128 rd128 (F128 N)) (gNil)))))))))
theorem gok104 {R : Type} (N : Nat) : GOK Tryz.prog (G104 (R := R) N) := gCons_ok (ok106 N) (gCons_ok (clone_ok N) (gCons_ok (ok109 N) (gCons_ok (ok40 N) (gCons_ok (ok125 N) (gCons_ok (ok103 N) (gCons_ok (ok126 N) (gCons_ok (ok80 N) (gCons_ok (ok128 N) (gNil_ok)))))))))
noncomputable def live104 : List (Nat × List (Nat × HK)) := [(13, [(8, .keep), (9, .keep), (10, .row .u32 125), (11, .keep), (12, .row .u32 125), (13, .keep)])]
noncomputable def ad104 : Ad (List Int × List Int × Unit) := aC (cLi .u32) (aC (cLi .u32) (a0))
noncomputable def rd104 : Rd (List Int × List Int) := r2 (cLi .u32) (cLi .u32)
noncomputable def st104_0 (v0 : Int) (v1 : List Int) (v2 : Int) (v3 : Int) (v4 : List Int) (v5 : List Int) : St := ⟨[AV.none, AV.none, AV.none, AV.none, AV.none, AV.none, AV.none, AV.none, AV.v (.int .i64 v0), AV.li .u32 v1, AV.own 10, AV.v (.int .i64 v2), AV.own 12, AV.v (.int .i64 v3), AV.none, AV.none, AV.none, AV.none, AV.none, AV.none, AV.none, AV.none, AV.none, AV.none, AV.none, AV.none, AV.none, AV.none, AV.none, AV.none, AV.none, AV.none, AV.none, AV.none, AV.none, AV.none, AV.none, AV.none, AV.none, AV.none, AV.none, AV.none, AV.none, AV.none, AV.none, AV.none, AV.none, AV.none, AV.none, AV.none, AV.none, AV.none, AV.none, AV.none, AV.none, AV.none, AV.none, AV.none, AV.none, AV.none, AV.none, AV.none, AV.none, AV.none, AV.none, AV.none, AV.none, AV.none, AV.none, AV.none, AV.none, AV.none, AV.none, AV.none, AV.none, AV.none, AV.none, AV.none, AV.none, AV.none, AV.none, AV.none, AV.none, AV.none, AV.none, AV.none, AV.none, AV.none, AV.none, AV.none, AV.none, AV.none, AV.none, AV.none, AV.none, AV.none, AV.none, AV.none, AV.none, AV.none, AV.none, AV.none, AV.none, AV.none, AV.none, AV.none, AV.none, AV.none, AV.none, AV.none, AV.none, AV.none, AV.none, AV.none, AV.none, AV.none, AV.none, AV.none, AV.none, AV.none, AV.none, AV.none], [none, none, none, none, none, none, none, none, none, none, some (OB.row .u32 125 v4), none, some (OB.row .u32 125 v5), none, none, none, none, none, none, none, none, none, none, none, none, none, none, none, none, none, none, none, none, none, none, none, none, none, none, none, none, none, none, none, none, none, none, none, none, none, none, none, none, none, none, none, none, none, none, none, none, none, none, none, none, none, none, none, none, none, none, none, none, none, none, none, none, none, none, none, none, none, none, none, none, none, none, none, none, none, none, none, none, none, none, none, none, none, none, none, none, none, none, none, none, none, none, none, none, none, none, none, none, none, none, none, none, none, none, none, none, none]⟩
noncomputable def raw104_0 (N : Nat) (n : Nat) (v0 : Int) (v1 : List Int) (v2 : Int) (v3 : Int) (v4 : List Int) (v5 : List Int) : Option (List Int × List Int) := loopN (lookN live104 13) (exec (T104 N) (G104 N) N live104 (cL (cL (cR (cL (cR (cR (cR (cR (cR (cR (cR (cR (cR c104)))))))))))))) n (st104_0 v0 v1 v2 v3 v4 v5) (blockK 0 (seqK (exec (T104 N) (G104 N) N live104 (cR (cR (cR (cR (cR (cR (cR (cR (cR (cR c104))))))))))) (retK (T104 N) Tryz.f104.results.toList (rd104).dec)))
noncomputable def s104_0 (N : Nat) (Ln0 : Int → List Int → Int → Int → List Int → List Int → Option (List Int × List Int)) (v0 : Int) (v1 : List Int) (v2 : Int) (v3 : Int) (v4 : List Int) (v5 : List Int) : Option (List Int × List Int) :=
  cond (leI 0 v3)
   (cond (leI 0 (addI .i64 v3 v2))
    (cond (ltI (addI .i64 v3 v2) (v4.length : Int))
     (cond (leI 0 (subI .i64 (addI .i64 v3 v2) 1))
      (cond (ltI (subI .i64 (addI .i64 v3 v2) 1) (v4.length : Int))
       (cond (leI 0 (subI .i64 (addI .i64 v3 v2) 2))
        (cond (ltI (subI .i64 (addI .i64 v3 v2) 2) (v4.length : Int))
         (cond (leI 0 (subI .i64 v2 1))
          (cond (ltI (subI .i64 v2 1) (v1.length : Int))
           (cond (leI 0 (subI .i64 v2 2))
            (cond (ltI (subI .i64 v2 2) (v1.length : Int))
             ((fn_nat_guess N (Vec.st (Vec.st (Vec.st (Vec.zero 3) 0 (lrd v4 (addI .i64 v3 v2))) 1 (lrd v4 (subI .i64 (addI .i64 v3 v2) 1))) 2 (lrd v4 (subI .i64 (addI .i64 v3 v2) 2))) (Vec.st (Vec.st (Vec.zero 2) 0 (lrd v1 (subI .i64 v2 1))) 1 (lrd v1 (subI .i64 v2 2)))).bind fun r8 =>
              (fn_nat_take N v4 v1 v3 r8).bind fun r9 =>
               cond r9.2
                (cond (leI 0 v3)
                 (cond (ltI v3 (v5.length : Int))
                  (Ln0 v0 v1 v2 (subI .i64 v3 1) r9.1 (v5.set v3.toNat (cvI .u32 (subI .u64 r8 1))))
                  (none))
                 (none))
                (cond (leI 0 v3)
                 (cond (ltI v3 (v5.length : Int))
                  (Ln0 v0 v1 v2 (subI .i64 v3 1) r9.1 (v5.set v3.toNat (cvI .u32 r8)))
                  (none))
                 (none)))
             (none))
            (none))
           (none))
          (none))
         (none))
        (none))
       (none))
      (none))
     (none))
    (none))
   ((fn_nat_trim N v5).bind fun r10 =>
    (fn_nat_trim N v4).bind fun r11 =>
     (fn_nat_down N r11 v0).bind fun r12 =>
      some (r10, r12))
theorem step104_0 (N : Nat) (n : Nat) (v0 : Int) (v1 : List Int) (v2 : Int) (v3 : Int) (v4 : List Int) (v5 : List Int) : raw104_0 N  (n + 1) v0 v1 v2 v3 v4 v5 = s104_0 N (raw104_0 N  n) v0 v1 v2 v3 v4 v5 := by kernel_rfl
noncomputable def l104_0 (N : Nat) : Nat → Int → List Int → Int → Int → List Int → List Int → Option (List Int × List Int)
  | 0 => fun _ _ _ _ _ _ => none
  | n + 1 => fun v0 v1 v2 v3 v4 v5 => s104_0 N (l104_0 N  n) v0 v1 v2 v3 v4 v5
theorem eq104_0 (N : Nat) : ∀ n, raw104_0 N  n = l104_0 N  n := by
  intro n
  induction n with
  | zero => exact funext fun v0 => funext fun v1 => funext fun v2 => funext fun v3 => funext fun v4 => funext fun v5 => rfl
  | succ n ih => exact funext fun v0 => funext fun v1 => funext fun v2 => funext fun v3 => funext fun v4 => funext fun v5 => by rw [step104_0, ih]; rfl
noncomputable def t104 (N : Nat) (Le0 : Int → List Int → Int → Int → List Int → List Int → Option (List Int × List Int)) (x0 : List Int) (x1 : List Int) : Option (List Int × List Int) :=
  (fn_nat_compare N x0 x1).bind fun r1 =>
   cond (ltI r1 0)
    ((fn_slices_Clone N x0).bind fun r2 =>
     some ([], r2))
    (cond (eqI (x1.length : Int) 1)
     (cond (ltI 0 (x1.length : Int))
      ((fn_nat_short N x0 (lrd x1 0)).bind fun r3 =>
       (fn_nat_Of N (cvI .u64 r3.2)).bind fun r4 =>
        some (r3.1, r4))
      (none))
     (cond (leI 0 (subI .i64 (x1.length : Int) 1))
      (cond (ltI (subI .i64 (x1.length : Int) 1) (x1.length : Int))
       ((fn_bits_LeadingZeros32 N (lrd x1 (subI .i64 (x1.length : Int) 1))).bind fun r5 =>
        (fn_nat_up N x1 r5).bind fun r6 =>
         cond (leI 0 (addI .i64 (x0.length : Int) 1))
          (cond (leI (addI .i64 (x0.length : Int) 1) 17592186044416)
           ((fn_nat_up N x0 r5).bind fun r7 =>
            cond (leI 0 (addI .i64 (subI .i64 (x0.length : Int) (r6.length : Int)) 1))
             (cond (leI (addI .i64 (subI .i64 (x0.length : Int) (r6.length : Int)) 1) 17592186044416)
              (Le0 r5 r6 (r6.length : Int) (subI .i64 (x0.length : Int) (r6.length : Int)) (cpL (List.replicate ((addI .i64 (x0.length : Int) 1).toNat) (0 : Int)) r7) (List.replicate ((addI .i64 (subI .i64 (x0.length : Int) (r6.length : Int)) 1).toNat) (0 : Int)))
              (none))
             (none))
           (none))
          (none))
       (none))
      (none)))
noncomputable def fn_nat_parts (N : Nat) (x0 : List Int) (x1 : List Int) : Option (List Int × List Int) := t104 N (l104_0 N N) x0 x1
theorem run104 (N : Nat) (x0 : List Int) (x1 : List Int) : Eng.run (T104 N) (G104 N) N live104 c104 Tryz.f104.results.toList Tryz.f104.ntmps ((ad104).enc (x0, x1, ())) (rd104).dec = fn_nat_parts N x0 x1 := by
  refine Eq.trans (show _ = t104 N (raw104_0 N N) x0 x1 from by kernel_rfl) ?_
  unfold fn_nat_parts
  rw [eq104_0 N N]
noncomputable def F104 (N : Nat) (a : List Int × List Int × Unit) : Option (List Int × List Int) := fn_nat_parts N a.1 a.2.1
theorem ok104 (N : Nat) : FnOK Tryz.prog 104 ad104 rd104 (F104 N) :=
  fn_ok (N := N) (live := live104) (code := c104) (tok (T104 N).rt (T104 N).kl (wrCons_ok (wOf_ok (okw127 N)) (wrNil_ok))) mixed (gok104 N) Tryz.func104 (by kernel_rfl) (by kernel_rfl) (by kernel_rfl) fun a p h => by rw [← h]; exact run104 N a.1 a.2.1

/-! ### tiller/nat.DivMod: function 77 -/
noncomputable def c77 : Code := (Tryz.f77.body).getD .skip
noncomputable def T77 : Tb := ⟨tyOf tys, [], [], wrNil⟩
noncomputable def G77 {R : Type} (N : Nat) : FuncId → List AV → (AV → Option R) → Option R := gCons 102 (gOf ad102 rd102 (F102 N)) (gCons 104 (gOf ad104 rd104 (F104 N)) (gNil))
theorem gok77 {R : Type} (N : Nat) : GOK Tryz.prog (G77 (R := R) N) := gCons_ok (ok102 N) (gCons_ok (ok104 N) (gNil_ok))
noncomputable def live77 : List (Nat × List (Nat × HK)) := []
noncomputable def ad77 : Ad (List Int × List Int × Unit) := aC (cLi .u32) (aC (cLi .u32) (a0))
noncomputable def rd77 : Rd (List Int × List Int × Option Int) := r3 (cLi .u32) (cLi .u32) (cErr 34)
noncomputable def fn_nat_DivMod (N : Nat) (x0 : List Int) (x1 : List Int) : Option (List Int × List Int × Option Int) :=
  (fn_nat_both N x0 x1).bind fun r1 =>
   cond (!(isNoneI r1))
    (some ([], [], some 1))
    (cond (eqI (x1.length : Int) 0)
     (some ([], [], some 5))
     ((fn_nat_parts N x0 x1).bind fun r2 =>
      some (r2.1, r2.2, none)))
theorem run77 (N : Nat) (x0 : List Int) (x1 : List Int) : Eng.run T77 (G77 N) N live77 c77 Tryz.f77.results.toList Tryz.f77.ntmps ((ad77).enc (x0, x1, ())) (rd77).dec = fn_nat_DivMod N x0 x1 := by kernel_rfl
noncomputable def F77 (N : Nat) (a : List Int × List Int × Unit) : Option (List Int × List Int × Option Int) := fn_nat_DivMod N a.1 a.2.1
theorem ok77 (N : Nat) : FnOK Tryz.prog 77 ad77 rd77 (F77 N) :=
  fn_ok (N := N) (live := live77) (code := c77) (tok T77.rt T77.kl (wrNil_ok)) mixed (gok77 N) Tryz.func77 (by kernel_rfl) (by kernel_rfl) (by kernel_rfl) fun a p h => by rw [← h]; exact run77 N a.1 a.2.1

/-! ### (tiller/show.number).cut: function 45 -/
noncomputable def c45 : Code := (Tryz.f45.body).getD .skip
noncomputable def T45 : Tb := ⟨tyOf tys, [(11, 1), (13, 1), (24, 1)], [], wrNil⟩
noncomputable def G45 {R : Type} (N : Nat) : FuncId → List AV → (AV → Option R) → Option R := gCons 77 (gOf ad77 rd77 (F77 N)) (gCons 39 (gOf ad39 rd39 (F39 N)) (gCons 85 (gOf ad85 rd85 (F85 N)) (gNil)))
theorem gok45 {R : Type} (N : Nat) : GOK Tryz.prog (G45 (R := R) N) := gCons_ok (ok77 N) (gCons_ok (ok39 N) (gCons_ok (ok85 N) (gNil_ok)))
noncomputable def live45 : List (Nat × List (Nat × HK)) := []
noncomputable def ad45 : Ad ((List Int × List Int) × Unit) := aC (cSt (fC (lLi .u32) (fO (lLi .u32)))) (a0)
noncomputable def rd45 : Rd (List Int × Int × Bool) := r3 (cLi .u32) (cInt .i64) (cBool)
noncomputable def fn_show_number_cut (N : Nat) (x0 : (List Int × List Int)) : Option (List Int × Int × Bool) :=
  (fn_nat_DivMod N x0.1 x0.2).bind fun r1 =>
   cond (!(isNoneI r1.2.2))
    (some ([], 0, false))
    ((fn_show_up N r1.2.1 1).bind fun r2 =>
     (fn_nat_Cmp N r2 x0.2).bind fun r3 =>
      some (r1.1, r3.1, ltI 0 (r1.2.1.length : Int)))
theorem run45 (N : Nat) (x0 : (List Int × List Int)) : Eng.run T45 (G45 N) N live45 c45 Tryz.f45.results.toList Tryz.f45.ntmps ((ad45).enc (x0, ())) (rd45).dec = fn_show_number_cut N x0 := by kernel_rfl
noncomputable def F45 (N : Nat) (a : (List Int × List Int) × Unit) : Option (List Int × Int × Bool) := fn_show_number_cut N a.1
theorem ok45 (N : Nat) : FnOK Tryz.prog 45 ad45 rd45 (F45 N) :=
  fn_ok (N := N) (live := live45) (code := c45) (tok T45.rt T45.kl (wrNil_ok)) mixed (gok45 N) Tryz.func45 (by kernel_rfl) (by kernel_rfl) (by kernel_rfl) fun a p h => by rw [← h]; exact run45 N a.1

/-! ### tiller/nat.Add: function 86 -/
noncomputable def c86 : Code := (Tryz.f86.body).getD .skip
noncomputable def T86 : Tb := ⟨tyOf tys, [(41, 7)], [46], wrNil⟩
noncomputable def G86 {R : Type} (N : Nat) : FuncId → List AV → (AV → Option R) → Option R := gCons 102 (gOf ad102 rd102 (F102 N)) (gCons 107 (gOf ad107 rd107 (F107 N)) (gCons 101 (gOf ad101 rd101 (F101 N)) (gNil)))
theorem gok86 {R : Type} (N : Nat) : GOK Tryz.prog (G86 (R := R) N) := gCons_ok (ok102 N) (gCons_ok (ok107 N) (gCons_ok (ok101 N) (gNil_ok)))
noncomputable def live86 : List (Nat × List (Nat × HK)) := [(7, [(0, .keep), (1, .keep), (7, .row .u32 125), (8, .keep), (24, .keep), (25, .keep)])]
noncomputable def ad86 : Ad (List Int × List Int × Unit) := aC (cLi .u32) (aC (cLi .u32) (a0))
noncomputable def rd86 : Rd (List Int × Option Int) := r2 (cLi .u32) (cErr 34)
noncomputable def st86_0 (v0 : List Int) (v1 : List Int) (v2 : Int) (v3 : Int) (v4 : Int) (v5 : List Int) : St := ⟨[AV.li .u32 v0, AV.li .u32 v1, AV.none, AV.none, AV.none, AV.none, AV.none, AV.own 7, AV.v (.int .u64 v2), AV.none, AV.none, AV.none, AV.none, AV.none, AV.none, AV.none, AV.none, AV.none, AV.none, AV.none, AV.none, AV.none, AV.none, AV.none, AV.v (.int .i64 v3), AV.v (.int .i64 v4), AV.none, AV.none, AV.none, AV.none, AV.none, AV.none, AV.none, AV.none, AV.none, AV.none, AV.none, AV.none, AV.none, AV.none, AV.none, AV.none, AV.none, AV.none, AV.none, AV.none, AV.none, AV.none, AV.none], [none, none, none, none, none, none, none, some (OB.row .u32 125 v5), none, none, none, none, none, none, none, none, none, none, none, none, none, none, none, none, none, none, none, none, none, none, none, none, none, none, none, none, none, none, none, none, none, none, none, none, none, none, none, none, none]⟩
noncomputable def raw86_0 (N : Nat) (n : Nat) (v0 : List Int) (v1 : List Int) (v2 : Int) (v3 : Int) (v4 : Int) (v5 : List Int) : Option (List Int × Option Int) := loopN (lookN live86 7) (exec T86 (G86 N) N live86 (cL (cL (cR (cL (cR (cR (cR (cR c86))))))))) n (st86_0 v0 v1 v2 v3 v4 v5) (blockK 0 (seqK (exec T86 (G86 N) N live86 (cR (cR (cR (cR (cR c86)))))) (retK T86 Tryz.f86.results.toList (rd86).dec)))
noncomputable def s86_0 (N : Nat) (Ln0 : List Int → List Int → Int → Int → Int → List Int → Option (List Int × Option Int)) (v0 : List Int) (v1 : List Int) (v2 : Int) (v3 : Int) (v4 : Int) (v5 : List Int) : Option (List Int × Option Int) :=
  cond (ltI v4 v3)
   ((fn_nat_N_at N v0 v4).bind fun r2 =>
    (fn_nat_N_at N v1 v4).bind fun r3 =>
     cond (leI 0 v4)
      (cond (ltI v4 (v5.length : Int))
       (Ln0 v0 v1 (shrI .u64 (addI .u64 v2 (addI .u64 r2 r3)) 32) v3 (addI .i64 v4 1) (v5.set v4.toNat (cvI .u32 (addI .u64 v2 (addI .u64 r2 r3)))))
       (none))
      (none))
   ((fn_nat_bounded N v5).bind fun r4 =>
    some (r4.1, r4.2))
theorem step86_0 (N : Nat) (n : Nat) (v0 : List Int) (v1 : List Int) (v2 : Int) (v3 : Int) (v4 : Int) (v5 : List Int) : raw86_0 N  (n + 1) v0 v1 v2 v3 v4 v5 = s86_0 N (raw86_0 N  n) v0 v1 v2 v3 v4 v5 := by kernel_rfl
noncomputable def l86_0 (N : Nat) : Nat → List Int → List Int → Int → Int → Int → List Int → Option (List Int × Option Int)
  | 0 => fun _ _ _ _ _ _ => none
  | n + 1 => fun v0 v1 v2 v3 v4 v5 => s86_0 N (l86_0 N  n) v0 v1 v2 v3 v4 v5
theorem eq86_0 (N : Nat) : ∀ n, raw86_0 N  n = l86_0 N  n := by
  intro n
  induction n with
  | zero => exact funext fun v0 => funext fun v1 => funext fun v2 => funext fun v3 => funext fun v4 => funext fun v5 => rfl
  | succ n ih => exact funext fun v0 => funext fun v1 => funext fun v2 => funext fun v3 => funext fun v4 => funext fun v5 => by rw [step86_0, ih]; rfl
noncomputable def t86 (N : Nat) (Le0 : List Int → List Int → Int → Int → Int → List Int → Option (List Int × Option Int)) (x0 : List Int) (x1 : List Int) : Option (List Int × Option Int) :=
  (fn_nat_both N x0 x1).bind fun r1 =>
   cond (!(isNoneI r1))
    (some ([], r1))
    (cond (leI 0 (addI .i64 (maxI (x0.length : Int) (x1.length : Int)) 1))
     (cond (leI (addI .i64 (maxI (x0.length : Int) (x1.length : Int)) 1) 17592186044416)
      (Le0 x0 x1 0 ((List.replicate ((addI .i64 (maxI (x0.length : Int) (x1.length : Int)) 1).toNat) (0 : Int)).length : Int) 0 (List.replicate ((addI .i64 (maxI (x0.length : Int) (x1.length : Int)) 1).toNat) (0 : Int)))
      (none))
     (none))
noncomputable def fn_nat_Add (N : Nat) (x0 : List Int) (x1 : List Int) : Option (List Int × Option Int) := t86 N (l86_0 N N) x0 x1
theorem run86 (N : Nat) (x0 : List Int) (x1 : List Int) : Eng.run T86 (G86 N) N live86 c86 Tryz.f86.results.toList Tryz.f86.ntmps ((ad86).enc (x0, x1, ())) (rd86).dec = fn_nat_Add N x0 x1 := by
  refine Eq.trans (show _ = t86 N (raw86_0 N N) x0 x1 from by kernel_rfl) ?_
  unfold fn_nat_Add
  rw [eq86_0 N N]
noncomputable def F86 (N : Nat) (a : List Int × List Int × Unit) : Option (List Int × Option Int) := fn_nat_Add N a.1 a.2.1
theorem ok86 (N : Nat) : FnOK Tryz.prog 86 ad86 rd86 (F86 N) :=
  fn_ok (N := N) (live := live86) (code := c86) (tok T86.rt T86.kl (wrNil_ok)) mixed (gok86 N) Tryz.func86 (by kernel_rfl) (by kernel_rfl) (by kernel_rfl) fun a p h => by rw [← h]; exact run86 N a.1 a.2.1

/-! ### tiller/show.next: function 46 -/
noncomputable def c46 : Code := (Tryz.f46.body).getD .skip
noncomputable def T46 : Tb := ⟨tyOf tys, [], [], wrNil⟩
noncomputable def G46 {R : Type} (N : Nat) : FuncId → List AV → (AV → Option R) → Option R := gCons 40 (gOf ad40 rd40 (F40 N)) (gCons 86 (gOf ad86 rd86 (F86 N)) (gNil))
theorem gok46 {R : Type} (N : Nat) : GOK Tryz.prog (G46 (R := R) N) := gCons_ok (ok40 N) (gCons_ok (ok86 N) (gNil_ok))
noncomputable def live46 : List (Nat × List (Nat × HK)) := []
noncomputable def ad46 : Ad (List Int × Unit) := aC (cLi .u32) (a0)
noncomputable def rd46 : Rd (List Int) := r1 (cLi .u32)
noncomputable def fn_show_next (N : Nat) (x0 : List Int) : Option (List Int) :=
  (fn_nat_Of N 1).bind fun r1 =>
   (fn_nat_Add N x0 r1).bind fun r2 =>
    cond (!(isNoneI r2.2))
     (some [])
     (some r2.1)
theorem run46 (N : Nat) (x0 : List Int) : Eng.run T46 (G46 N) N live46 c46 Tryz.f46.results.toList Tryz.f46.ntmps ((ad46).enc (x0, ())) (rd46).dec = fn_show_next N x0 := by kernel_rfl
noncomputable def F46 (N : Nat) (a : List Int × Unit) : Option (List Int) := fn_show_next N a.1
theorem ok46 (N : Nat) : FnOK Tryz.prog 46 ad46 rd46 (F46 N) :=
  fn_ok (N := N) (live := live46) (code := c46) (tok T46.rt T46.kl (wrNil_ok)) mixed (gok46 N) Tryz.func46 (by kernel_rfl) (by kernel_rfl) (by kernel_rfl) fun a p h => by rw [← h]; exact run46 N a.1

/-! ### tiller/show.read: function 47 -/
noncomputable def c47 : Code := (Tryz.f47.body).getD .skip
noncomputable def T47 : Tb := ⟨tyOf tys, [], [], wrNil⟩
noncomputable def G47 {R : Type} (N : Nat) : FuncId → List AV → (AV → Option R) → Option R := gCons 43 (gOf ad43 rd43 (F43 N)) (gNil)
theorem gok47 {R : Type} (N : Nat) : GOK Tryz.prog (G47 (R := R) N) := gCons_ok (ok43 N) (gNil_ok)
noncomputable def live47 : List (Nat × List (Nat × HK)) := []
noncomputable def ad47 : Ad (List Int × (List Int × List Int) × (List Int × List Int) × Bool × Unit) := aC (cLi .u32) (aC (cSt (fC (lLi .u32) (fO (lLi .u32)))) (aC (cSt (fC (lLi .u32) (fO (lLi .u32)))) (aC (cBool) (a0))))
noncomputable def rd47 : Rd (Bool) := r1 (cBool)
noncomputable def fn_show_read (N : Nat) (x0 : List Int) (x1 : (List Int × List Int)) (x2 : (List Int × List Int)) (x3 : Bool) : Option (Bool) :=
  (fn_show_number_compare N (x1.1, x1.2) x0).bind fun r1 =>
   (fn_show_number_compare N (x2.1, x2.2) x0).bind fun r2 =>
    cond (ltI r1 0)
     (cond (ltI 0 r2)
      (some true)
      (cond x3
       (cond (eqI r1 0)
        (some true)
        (some (eqI r2 0)))
       (some false)))
     (cond x3
      (cond (eqI r1 0)
       (some true)
       (some (eqI r2 0)))
      (some false))
theorem run47 (N : Nat) (x0 : List Int) (x1 : (List Int × List Int)) (x2 : (List Int × List Int)) (x3 : Bool) : Eng.run T47 (G47 N) N live47 c47 Tryz.f47.results.toList Tryz.f47.ntmps ((ad47).enc (x0, x1, x2, x3, ())) (rd47).dec = fn_show_read N x0 x1 x2 x3 := by kernel_rfl
noncomputable def F47 (N : Nat) (a : List Int × (List Int × List Int) × (List Int × List Int) × Bool × Unit) : Option (Bool) := fn_show_read N a.1 a.2.1 a.2.2.1 a.2.2.2.1
theorem ok47 (N : Nat) : FnOK Tryz.prog 47 ad47 rd47 (F47 N) :=
  fn_ok (N := N) (live := live47) (code := c47) (tok T47.rt T47.kl (wrNil_ok)) mixed (gok47 N) Tryz.func47 (by kernel_rfl) (by kernel_rfl) (by kernel_rfl) fun a p h => by rw [← h]; exact run47 N a.1 a.2.1 a.2.2.1 a.2.2.2.1

/-! ### tiller/show.odd: function 48 -/
noncomputable def c48 : Code := (Tryz.f48.body).getD .skip
noncomputable def T48 : Tb := ⟨tyOf tys, [], [], wrNil⟩
noncomputable def G48 {R : Type} (N : Nat) : FuncId → List AV → (AV → Option R) → Option R := gNil
theorem gok48 {R : Type} (N : Nat) : GOK Tryz.prog (G48 (R := R) N) := gNil_ok
noncomputable def live48 : List (Nat × List (Nat × HK)) := []
noncomputable def ad48 : Ad (List Int × Unit) := aC (cLi .u32) (a0)
noncomputable def rd48 : Rd (Bool) := r1 (cBool)
noncomputable def fn_show_odd (N : Nat) (x0 : List Int) : Option (Bool) :=
  cond (ltI 0 (x0.length : Int))
   (cond (ltI 0 (x0.length : Int))
    (some (eqI (andI .u32 (lrd x0 0) 1) 1))
    (none))
   (some false)
theorem run48 (N : Nat) (x0 : List Int) : Eng.run T48 (G48 N) N live48 c48 Tryz.f48.results.toList Tryz.f48.ntmps ((ad48).enc (x0, ())) (rd48).dec = fn_show_odd N x0 := by kernel_rfl
noncomputable def F48 (N : Nat) (a : List Int × Unit) : Option (Bool) := fn_show_odd N a.1
theorem ok48 (N : Nat) : FnOK Tryz.prog 48 ad48 rd48 (F48 N) :=
  fn_ok (N := N) (live := live48) (code := c48) (tok T48.rt T48.kl (wrNil_ok)) mixed (gok48 N) Tryz.func48 (by kernel_rfl) (by kernel_rfl) (by kernel_rfl) fun a p h => by rw [← h]; exact run48 N a.1
end Go.Proofs.YtcdhcihjcjpmkaaGreatDoor.Fns

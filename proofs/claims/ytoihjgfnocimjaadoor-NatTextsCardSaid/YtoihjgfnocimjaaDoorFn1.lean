/- Go functions as plain Lean functions, and the engine's run of each. No statement is proved here. Laid by eng.py. -/
import Derived.Test.YtoihjgfnocimjaaDoorFn0
namespace Go.Proofs.YtoihjgfnocimjaaDoor.Fns
open Go Go.RowKit Go.Proofs Go.Proofs.YtoihjgfnocimjaaDoor.Eng Go.Proofs.YtoihjgfnocimjaaDoor.Num Go.Proofs.YtoihjgfnocimjaaDoor.Slc
set_option linter.unusedVariables false
set_option maxRecDepth 100000
/-! ### tiller/nat.trim: function 55 -/
noncomputable def c55 : Code := (Tryd.f55.body).getD .skip
noncomputable def T55 : Tb := ⟨tyOf tys, [], [], wrNil⟩
noncomputable def G55 {R : Type} (N : Nat) : FuncId → List AV → (AV → Option R) → Option R := gNil
theorem gok55 {R : Type} (N : Nat) : GOK Tryd.prog (G55 (R := R) N) := gNil_ok
noncomputable def live55 : List (Nat × List (Nat × HK)) := [(1, [(0, .keep)])]
noncomputable def ad55 : Ad (List Int × Unit) := aC (cLi .u32) (a0)
noncomputable def rd55 : Rd (List Int) := r1 (cLi .u32)
noncomputable def st55_0 (v0 : List Int) : St := ⟨[AV.li .u32 v0, AV.none, AV.none, AV.none, AV.none, AV.none, AV.none, AV.none, AV.none, AV.none, AV.none, AV.none, AV.none, AV.none, AV.none, AV.none, AV.none, AV.none, AV.none, AV.none, AV.none], [none, none, none, none, none, none, none, none, none, none, none, none, none, none, none, none, none, none, none, none, none]⟩
noncomputable def raw55_0 (N : Nat) (n : Nat) (v0 : List Int) : Option (List Int) := loopN (lookN live55 1) (exec T55 (G55 N) N live55 (cL (cL (cL (cR c55))))) n (st55_0 v0) (blockK 0 (seqK (exec T55 (G55 N) N live55 (cR (cR c55))) (retK T55 Tryd.f55.results.toList (rd55).dec)))
noncomputable def s55_0 (N : Nat) (Ln0 : List Int → Option (List Int)) (v0 : List Int) : Option (List Int) :=
  cond (ltI 0 (v0.length : Int))
   (cond (leI 0 (subI .i64 (v0.length : Int) 1))
    (cond (ltI (subI .i64 (v0.length : Int) 1) (v0.length : Int))
     (cond (eqI (lrd v0 (subI .i64 (v0.length : Int) 1)) 0)
      (cond (((((leI 0 0) && (leI 0 (subI .i64 (v0.length : Int) 1))) && (leI (subI .i64 (v0.length : Int) 1) (v0.length : Int))) && (leI (v0.length : Int) (v0.length : Int))) && (true || true))
       (Ln0 ((v0.take ((subI .i64 (v0.length : Int) 1).toNat)).drop ((0 : Int).toNat)))
       (none))
      (some v0))
     (none))
    (none))
   (some v0)
theorem step55_0 (N : Nat) (n : Nat) (v0 : List Int) : raw55_0 N  (n + 1) v0 = s55_0 N (raw55_0 N  n) v0 := by kernel_rfl
noncomputable def l55_0 (N : Nat) : Nat → List Int → Option (List Int)
  | 0 => fun _ => none
  | n + 1 => fun v0 => s55_0 N (l55_0 N  n) v0
theorem eq55_0 (N : Nat) : ∀ n, raw55_0 N  n = l55_0 N  n := by
  intro n
  induction n with
  | zero => exact funext fun v0 => rfl
  | succ n ih => exact funext fun v0 => by rw [step55_0, ih]; rfl
noncomputable def t55 (N : Nat) (Le0 : List Int → Option (List Int)) (x0 : List Int) : Option (List Int) :=
  Le0 x0
noncomputable def fn_nat_trim (N : Nat) (x0 : List Int) : Option (List Int) := t55 N (l55_0 N N) x0
theorem run55 (N : Nat) (x0 : List Int) : Eng.run T55 (G55 N) N live55 c55 Tryd.f55.results.toList Tryd.f55.ntmps ((ad55).enc (x0, ())) (rd55).dec = fn_nat_trim N x0 := by
  refine Eq.trans (show _ = t55 N (raw55_0 N N) x0 from by kernel_rfl) ?_
  unfold fn_nat_trim
  rw [eq55_0 N N]
noncomputable def F55 (N : Nat) (a : List Int × Unit) : Option (List Int) := fn_nat_trim N a.1
theorem ok55 (N : Nat) : FnOK Tryd.prog 55 ad55 rd55 (F55 N) :=
  fn_ok (N := N) (live := live55) (code := c55) (tok T55.rt T55.kl (wrNil_ok)) mixed (gok55 N) Tryd.func55 (by kernel_rfl) (by kernel_rfl) (by kernel_rfl) fun a p h => by rw [← h]; exact run55 N a.1

/-! ### tiller/nat.Of: function 40 -/
noncomputable def c40 : Code := (Tryd.f40.body).getD .skip
noncomputable def T40 : Tb := ⟨tyOf tys, [], [9], wrNil⟩
noncomputable def G40 {R : Type} (N : Nat) : FuncId → List AV → (AV → Option R) → Option R := gCons 55 (gOf ad55 rd55 (F55 N)) (gNil)
theorem gok40 {R : Type} (N : Nat) : GOK Tryd.prog (G40 (R := R) N) := gCons_ok (ok55 N) (gNil_ok)
noncomputable def live40 : List (Nat × List (Nat × HK)) := []
noncomputable def ad40 : Ad (Int × Unit) := aC (cInt .u64) (a0)
noncomputable def rd40 : Rd (List Int) := r1 (cLi .u32)
noncomputable def fn_nat_Of (N : Nat) (x0 : Int) : Option (List Int) :=
  (fn_nat_trim N [cvI .u32 x0, cvI .u32 (shrI .u64 x0 32)]).bind fun r1 =>
   some r1
theorem run40 (N : Nat) (x0 : Int) : Eng.run T40 (G40 N) N live40 c40 Tryd.f40.results.toList Tryd.f40.ntmps ((ad40).enc (x0, ())) (rd40).dec = fn_nat_Of N x0 := by kernel_rfl
noncomputable def F40 (N : Nat) (a : Int × Unit) : Option (List Int) := fn_nat_Of N a.1
theorem ok40 (N : Nat) : FnOK Tryd.prog 40 ad40 rd40 (F40 N) :=
  fn_ok (N := N) (live := live40) (code := c40) (tok T40.rt T40.kl (wrNil_ok)) mixed (gok40 N) Tryd.func40 (by kernel_rfl) (by kernel_rfl) (by kernel_rfl) fun a p h => by rw [← h]; exact run40 N a.1

/-! ### tiller/nat.times: function 37 -/
noncomputable def c37 : Code := (Tryd.f37.body).getD .skip
noncomputable def T37 : Tb := ⟨tyOf tys, [(41, 5), (52, 5), (63, 5)], [66], wrNil⟩
noncomputable def G37 {R : Type} (N : Nat) : FuncId → List AV → (AV → Option R) → Option R := gCons 55 (gOf ad55 rd55 (F55 N)) (gNil)
theorem gok37 {R : Type} (N : Nat) : GOK Tryd.prog (G37 (R := R) N) := gCons_ok (ok55 N) (gNil_ok)
noncomputable def live37 : List (Nat × List (Nat × HK)) := [(3, [(1, .keep), (5, .row .u32 36), (17, .keep), (18, .keep), (19, .keep)]), (7, [(1, .keep), (5, .row .u32 36), (6, .keep), (7, .keep), (8, .keep), (17, .keep), (18, .keep), (19, .keep), (24, .keep), (25, .keep), (26, .keep)])]
noncomputable def ad37 : Ad (List Int × List Int × Unit) := aC (cLi .u32) (aC (cLi .u32) (a0))
noncomputable def rd37 : Rd (List Int) := r1 (cLi .u32)
noncomputable def st37_0 (v0 : List Int) (v1 : List Int) (v2 : Int) (v3 : Int) (v4 : List Int) : St := ⟨[AV.none, AV.li .u32 v0, AV.none, AV.none, AV.none, AV.own 5, AV.none, AV.none, AV.none, AV.none, AV.none, AV.none, AV.none, AV.none, AV.none, AV.none, AV.none, AV.li .u32 v1, AV.v (.int .i64 v2), AV.v (.int .i64 v3), AV.none, AV.none, AV.none, AV.none, AV.none, AV.none, AV.none, AV.none, AV.none, AV.none, AV.none, AV.none, AV.none, AV.none, AV.none, AV.none, AV.none, AV.none, AV.none, AV.none, AV.none, AV.none, AV.none, AV.none, AV.none, AV.none, AV.none, AV.none, AV.none, AV.none, AV.none, AV.none, AV.none, AV.none, AV.none, AV.none, AV.none, AV.none, AV.none, AV.none, AV.none, AV.none, AV.none, AV.none, AV.none, AV.none, AV.none], [none, none, none, none, none, some (OB.row .u32 36 v4), none, none, none, none, none, none, none, none, none, none, none, none, none, none, none, none, none, none, none, none, none, none, none, none, none, none, none, none, none, none, none, none, none, none, none, none, none, none, none, none, none, none, none, none, none, none, none, none, none, none, none, none, none, none, none, none, none, none, none, none, none]⟩
noncomputable def raw37_0 (N : Nat) (n : Nat) (v0 : List Int) (v1 : List Int) (v2 : Int) (v3 : Int) (v4 : List Int) : Option (List Int) := loopN (lookN live37 3) (exec T37 (G37 N) N live37 (cL (cL (cR (cL (cR (cR c37))))))) n (st37_0 v0 v1 v2 v3 v4) (blockK 0 (seqK (exec T37 (G37 N) N live37 (cR (cR (cR c37)))) (retK T37 Tryd.f37.results.toList (rd37).dec)))
noncomputable def st37_1 (v0 : List Int) (v1 : Int) (v2 : Int) (v3 : Int) (v4 : List Int) (v5 : Int) (v6 : Int) (v7 : List Int) (v8 : Int) (v9 : Int) (v10 : List Int) : St := ⟨[AV.none, AV.li .u32 v0, AV.none, AV.none, AV.none, AV.own 5, AV.v (.int .i64 v1), AV.v (.int .u32 v2), AV.v (.int .u64 v3), AV.none, AV.none, AV.none, AV.none, AV.none, AV.none, AV.none, AV.none, AV.li .u32 v4, AV.v (.int .i64 v5), AV.v (.int .i64 v6), AV.none, AV.none, AV.none, AV.none, AV.li .u32 v7, AV.v (.int .i64 v8), AV.v (.int .i64 v9), AV.none, AV.none, AV.none, AV.none, AV.none, AV.none, AV.none, AV.none, AV.none, AV.none, AV.none, AV.none, AV.none, AV.none, AV.none, AV.none, AV.none, AV.none, AV.none, AV.none, AV.none, AV.none, AV.none, AV.none, AV.none, AV.none, AV.none, AV.none, AV.none, AV.none, AV.none, AV.none, AV.none, AV.none, AV.none, AV.none, AV.none, AV.none, AV.none, AV.none], [none, none, none, none, none, some (OB.row .u32 36 v10), none, none, none, none, none, none, none, none, none, none, none, none, none, none, none, none, none, none, none, none, none, none, none, none, none, none, none, none, none, none, none, none, none, none, none, none, none, none, none, none, none, none, none, none, none, none, none, none, none, none, none, none, none, none, none, none, none, none, none, none, none]⟩
noncomputable def raw37_1 (N : Nat) (m0 : Nat) (n : Nat) (v0 : List Int) (v1 : Int) (v2 : Int) (v3 : Int) (v4 : List Int) (v5 : Int) (v6 : Int) (v7 : List Int) (v8 : Int) (v9 : Int) (v10 : List Int) : Option (List Int) := loopN (lookN live37 7) (exec T37 (G37 N) N live37 (cL (cL (cR (cL (cR (cR (cL (cL (cR (cR (cL (cL (cR (cL (cR (cR c37))))))))))))))))) n (st37_1 v0 v1 v2 v3 v4 v5 v6 v7 v8 v9 v10) (blockK 2 (seqK (exec T37 (G37 N) N live37 (cR (cR (cR (cL (cL (cR (cR (cL (cL (cR (cL (cR (cR c37)))))))))))))) (blockK 1 (seqK (exec T37 (G37 N) N live37 (cR (cR (cR (cL (cL (cR (cL (cR (cR c37)))))))))) (roundK (fun s => loopN (lookN live37 3) (exec T37 (G37 N) N live37 (cL (cL (cR (cL (cR (cR c37))))))) m0 s (blockK 0 (seqK (exec T37 (G37 N) N live37 (cR (cR (cR c37)))) (retK T37 Tryd.f37.results.toList (rd37).dec)))) (lookN live37 3) (blockK 0 (seqK (exec T37 (G37 N) N live37 (cR (cR (cR c37)))) (retK T37 Tryd.f37.results.toList (rd37).dec))))))))
noncomputable def s37_1 (N : Nat) (Ln1 : List Int → Int → Int → Int → List Int → Int → Int → List Int → Int → Int → List Int → Option (List Int)) (Ln0 : List Int → List Int → Int → Int → List Int → Option (List Int)) (v0 : List Int) (v1 : Int) (v2 : Int) (v3 : Int) (v4 : List Int) (v5 : Int) (v6 : Int) (v7 : List Int) (v8 : Int) (v9 : Int) (v10 : List Int) : Option (List Int) :=
  cond (ltI v9 v8)
   (cond (leI 0 v9)
    (cond (ltI v9 (v7.length : Int))
     (cond (leI 0 (addI .i64 v1 v9))
      (cond (ltI (addI .i64 v1 v9) (v10.length : Int))
       (cond (leI 0 (addI .i64 v1 v9))
        (cond (ltI (addI .i64 v1 v9) (v10.length : Int))
         (Ln1 v0 v1 v2 (shrI .u64 (addI .u64 v3 (addI .u64 (mulI .u64 (cvI .u64 v2) (cvI .u64 (lrd v7 v9))) (cvI .u64 (lrd v10 (addI .i64 v1 v9))))) 32) v4 v5 v6 v7 v8 (addI .i64 v9 1) (v10.set ((addI .i64 v1 v9).toNat) (cvI .u32 (addI .u64 v3 (addI .u64 (mulI .u64 (cvI .u64 v2) (cvI .u64 (lrd v7 v9))) (cvI .u64 (lrd v10 (addI .i64 v1 v9))))))))
         (none))
        (none))
       (none))
      (none))
     (none))
    (none))
   (cond (leI 0 (addI .i64 v1 (v0.length : Int)))
    (cond (ltI (addI .i64 v1 (v0.length : Int)) (v10.length : Int))
     (Ln0 v0 v4 v5 (addI .i64 v6 1) (v10.set ((addI .i64 v1 (v0.length : Int)).toNat) (cvI .u32 v3)))
     (none))
    (none))
theorem step37_1 (N : Nat) (m0 : Nat) (n : Nat) (v0 : List Int) (v1 : Int) (v2 : Int) (v3 : Int) (v4 : List Int) (v5 : Int) (v6 : Int) (v7 : List Int) (v8 : Int) (v9 : Int) (v10 : List Int) : raw37_1 N m0 (n + 1) v0 v1 v2 v3 v4 v5 v6 v7 v8 v9 v10 = s37_1 N (raw37_1 N m0 n) (raw37_0 N  m0) v0 v1 v2 v3 v4 v5 v6 v7 v8 v9 v10 := by kernel_rfl
noncomputable def l37_1 (N : Nat) (E0 : List Int → List Int → Int → Int → List Int → Option (List Int)) : Nat → List Int → Int → Int → Int → List Int → Int → Int → List Int → Int → Int → List Int → Option (List Int)
  | 0 => fun _ _ _ _ _ _ _ _ _ _ _ => none
  | n + 1 => fun v0 v1 v2 v3 v4 v5 v6 v7 v8 v9 v10 => s37_1 N (l37_1 N E0 n) E0 v0 v1 v2 v3 v4 v5 v6 v7 v8 v9 v10
theorem eq37_1 (N : Nat) (m0 : Nat) : ∀ n, raw37_1 N m0 n = l37_1 N (raw37_0 N  m0) n := by
  intro n
  induction n with
  | zero => exact funext fun v0 => funext fun v1 => funext fun v2 => funext fun v3 => funext fun v4 => funext fun v5 => funext fun v6 => funext fun v7 => funext fun v8 => funext fun v9 => funext fun v10 => rfl
  | succ n ih => exact funext fun v0 => funext fun v1 => funext fun v2 => funext fun v3 => funext fun v4 => funext fun v5 => funext fun v6 => funext fun v7 => funext fun v8 => funext fun v9 => funext fun v10 => by rw [step37_1, ih]; rfl
noncomputable def s37_0 (N : Nat) (Le1 : List Int → Int → Int → Int → List Int → Int → Int → List Int → Int → Int → List Int → Option (List Int)) (v0 : List Int) (v1 : List Int) (v2 : Int) (v3 : Int) (v4 : List Int) : Option (List Int) :=
  cond (ltI v3 v2)
   (cond (leI 0 v3)
    (cond (ltI v3 (v1.length : Int))
     (Le1 v0 v3 (lrd v1 v3) 0 v1 v2 v3 v0 (v0.length : Int) 0 v4)
     (none))
    (none))
   ((fn_nat_trim N v4).bind fun r1 =>
    some r1)
theorem step37_0 (N : Nat) (n : Nat) (v0 : List Int) (v1 : List Int) (v2 : Int) (v3 : Int) (v4 : List Int) : raw37_0 N  (n + 1) v0 v1 v2 v3 v4 = s37_0 N (raw37_1 N n N) v0 v1 v2 v3 v4 := by kernel_rfl
noncomputable def l37_0 (N : Nat) : Nat → List Int → List Int → Int → Int → List Int → Option (List Int)
  | 0 => fun _ _ _ _ _ => none
  | n + 1 => fun v0 v1 v2 v3 v4 => s37_0 N (l37_1 N (l37_0 N  n) N) v0 v1 v2 v3 v4
theorem eq37_0 (N : Nat) : ∀ n, raw37_0 N  n = l37_0 N  n := by
  intro n
  induction n with
  | zero => exact funext fun v0 => funext fun v1 => funext fun v2 => funext fun v3 => funext fun v4 => rfl
  | succ n ih => exact funext fun v0 => funext fun v1 => funext fun v2 => funext fun v3 => funext fun v4 => by rw [step37_0, eq37_1 N n N, ih]; rfl
noncomputable def t37 (N : Nat) (Le0 : List Int → List Int → Int → Int → List Int → Option (List Int)) (x0 : List Int) (x1 : List Int) : Option (List Int) :=
  cond (leI 0 (addI .i64 (x0.length : Int) (x1.length : Int)))
   (cond (leI (addI .i64 (x0.length : Int) (x1.length : Int)) 17592186044416)
    (Le0 x1 x0 (x0.length : Int) 0 (List.replicate ((addI .i64 (x0.length : Int) (x1.length : Int)).toNat) (0 : Int)))
    (none))
   (none)
noncomputable def fn_nat_times (N : Nat) (x0 : List Int) (x1 : List Int) : Option (List Int) := t37 N (l37_0 N N) x0 x1
theorem run37 (N : Nat) (x0 : List Int) (x1 : List Int) : Eng.run T37 (G37 N) N live37 c37 Tryd.f37.results.toList Tryd.f37.ntmps ((ad37).enc (x0, x1, ())) (rd37).dec = fn_nat_times N x0 x1 := by
  refine Eq.trans (show _ = t37 N (raw37_0 N N) x0 x1 from by kernel_rfl) ?_
  unfold fn_nat_times
  rw [eq37_0 N N]
noncomputable def F37 (N : Nat) (a : List Int × List Int × Unit) : Option (List Int) := fn_nat_times N a.1 a.2.1
theorem ok37 (N : Nat) : FnOK Tryd.prog 37 ad37 rd37 (F37 N) :=
  fn_ok (N := N) (live := live37) (code := c37) (tok T37.rt T37.kl (wrNil_ok)) mixed (gok37 N) Tryd.func37 (by kernel_rfl) (by kernel_rfl) (by kernel_rfl) fun a p h => by rw [← h]; exact run37 N a.1 a.2.1

/-! ### slices.Clip[tiller/nat.N,uint32]: function 49 -/
noncomputable def c49 : Code := (Tryd.f49.body).getD .skip
noncomputable def T49 : Tb := ⟨tyOf tys, [], [], wrNil⟩
noncomputable def G49 {R : Type} (N : Nat) : FuncId → List AV → (AV → Option R) → Option R := gNil
theorem gok49 {R : Type} (N : Nat) : GOK Tryd.prog (G49 (R := R) N) := gNil_ok
noncomputable def live49 : List (Nat × List (Nat × HK)) := []
noncomputable def ad49 : Ad (List Int × Unit) := aC (cLi .u32) (a0)
noncomputable def rd49 : Rd (List Int) := r1 (cLi .u32)
noncomputable def fn_nat_N_uint32 (N : Nat) (x0 : List Int) : Option (List Int) :=
  cond (((((leI 0 0) && (leI 0 (x0.length : Int))) && (leI (x0.length : Int) (x0.length : Int))) && (leI (x0.length : Int) (x0.length : Int))) && (true || false))
   (some ((x0.take ((x0.length : Int).toNat)).drop ((0 : Int).toNat)))
   (none)
theorem run49 (N : Nat) (x0 : List Int) : Eng.run T49 (G49 N) N live49 c49 Tryd.f49.results.toList Tryd.f49.ntmps ((ad49).enc (x0, ())) (rd49).dec = fn_nat_N_uint32 N x0 := by kernel_rfl
noncomputable def F49 (N : Nat) (a : List Int × Unit) : Option (List Int) := fn_nat_N_uint32 N a.1
theorem ok49 (N : Nat) : FnOK Tryd.prog 49 ad49 rd49 (F49 N) :=
  fn_ok (N := N) (live := live49) (code := c49) (tok T49.rt T49.kl (wrNil_ok)) mixed (gok49 N) Tryd.func49 (by kernel_rfl) (by kernel_rfl) (by kernel_rfl) fun a p h => by rw [← h]; exact run49 N a.1

/-! ### tiller/nat.bounded: function 36 -/
noncomputable def c36 : Code := (Tryd.f36.body).getD .skip
noncomputable def T36 : Tb := ⟨tyOf tys, [], [], wrNil⟩
noncomputable def G36 {R : Type} (N : Nat) : FuncId → List AV → (AV → Option R) → Option R := gCons 55 (gOf ad55 rd55 (F55 N)) (gCons 49 (gOf ad49 rd49 (F49 N)) (gNil))
theorem gok36 {R : Type} (N : Nat) : GOK Tryd.prog (G36 (R := R) N) := gCons_ok (ok55 N) (gCons_ok (ok49 N) (gNil_ok))
noncomputable def live36 : List (Nat × List (Nat × HK)) := []
noncomputable def ad36 : Ad (List Int × Unit) := aC (cLi .u32) (a0)
noncomputable def rd36 : Rd (List Int × Option Int) := r2 (cLi .u32) (cErr 60)
noncomputable def fn_nat_bounded (N : Nat) (x0 : List Int) : Option (List Int × Option Int) :=
  (fn_nat_trim N x0).bind fun r1 =>
   cond (ltI 8192 (r1.length : Int))
    (some ([], some 2))
    ((fn_nat_N_uint32 N r1).bind fun r2 =>
     some (r2, none))
theorem run36 (N : Nat) (x0 : List Int) : Eng.run T36 (G36 N) N live36 c36 Tryd.f36.results.toList Tryd.f36.ntmps ((ad36).enc (x0, ())) (rd36).dec = fn_nat_bounded N x0 := by kernel_rfl
noncomputable def F36 (N : Nat) (a : List Int × Unit) : Option (List Int × Option Int) := fn_nat_bounded N a.1
theorem ok36 (N : Nat) : FnOK Tryd.prog 36 ad36 rd36 (F36 N) :=
  fn_ok (N := N) (live := live36) (code := c36) (tok T36.rt T36.kl (wrNil_ok)) mixed (gok36 N) Tryd.func36 (by kernel_rfl) (by kernel_rfl) (by kernel_rfl) fun a p h => by rw [← h]; exact run36 N a.1

/-! ### tiller/nat.Pow: function 17 -/
noncomputable def c17 : Code := (Tryd.f17.body).getD .skip
noncomputable def T17 : Tb := ⟨tyOf tys, [], [24], wrNil⟩
noncomputable def G17 {R : Type} (N : Nat) : FuncId → List AV → (AV → Option R) → Option R := gCons 40 (gOf ad40 rd40 (F40 N)) (gCons 37 (gOf ad37 rd37 (F37 N)) (gCons 36 (gOf ad36 rd36 (F36 N)) (gNil)))
theorem gok17 {R : Type} (N : Nat) : GOK Tryd.prog (G17 (R := R) N) := gCons_ok (ok40 N) (gCons_ok (ok37 N) (gCons_ok (ok36 N) (gNil_ok)))
noncomputable def live17 : List (Nat × List (Nat × HK)) := [(4, [(0, .keep), (1, .keep), (6, .li .u32), (7, .keep), (45, .keep), (46, .keep)])]
noncomputable def ad17 : Ad (Int × Int × Unit) := aC (cInt .u32) (aC (cInt .i64) (a0))
noncomputable def rd17 : Rd (List Int × Option Int) := r2 (cLi .u32) (cErr 60)
noncomputable def st17_0 (v0 : Int) (v1 : Int) (v2 : List Int) (v3 : List Int) : St := ⟨[AV.v (.int .u32 v0), AV.v (.int .i64 v1), AV.none, AV.none, AV.none, AV.none, AV.li .u32 v2, AV.li .u32 v3, AV.none, AV.none, AV.none, AV.none, AV.none, AV.none, AV.none, AV.none, AV.none, AV.none, AV.none, AV.none, AV.none, AV.none, AV.none, AV.none, AV.none, AV.none, AV.none, AV.none, AV.none, AV.none, AV.none, AV.none, AV.none, AV.none, AV.none, AV.none, AV.none, AV.none, AV.none, AV.none, AV.none, AV.none, AV.none, AV.none, AV.none, AV.none, AV.none, AV.none, AV.none, AV.none, AV.none, AV.none, AV.none], [none, none, none, none, none, none, none, none, none, none, none, none, none, none, none, none, none, none, none, none, none, none, none, none, none, none, none, none, none, none, none, none, none, none, none, none, none, none, none, none, none, none, none, none, none, none, none, none, none, none, none, none, none]⟩
noncomputable def raw17_0 (N : Nat) (n : Nat) (v0 : Int) (v1 : Int) (v2 : List Int) (v3 : List Int) : Option (List Int × Option Int) := loopN (lookN live17 4) (exec T17 (G17 N) N live17 (cL (cL (cL (cR (cR (cR c17))))))) n (st17_0 v0 v1 v2 v3) (blockK 0 (seqK (exec T17 (G17 N) N live17 (cR (cR (cR (cR c17))))) (retK T17 Tryd.f17.results.toList (rd17).dec)))
noncomputable def s17_0 (N : Nat) (Ln0 : Int → Int → List Int → List Int → Option (List Int × Option Int)) (v0 : Int) (v1 : Int) (v2 : List Int) (v3 : List Int) : Option (List Int × Option Int) :=
  cond (eqI (andI .i64 v1 1) 1)
   ((fn_nat_times N v2 v3).bind fun r2 =>
    cond (eqI (shrI .i64 v1 1) 0)
     (cond (ltI 0 (shrI .i64 v1 1))
      (cond (ltI 1 v0)
       (some ([], some 2))
       ((fn_nat_bounded N r2).bind fun r3 =>
        some (r3.1, r3.2)))
      ((fn_nat_bounded N r2).bind fun r4 =>
       some (r4.1, r4.2)))
     (cond (ltI 8192 (r2.length : Int))
      (cond (ltI 0 (shrI .i64 v1 1))
       (cond (ltI 1 v0)
        (some ([], some 2))
        ((fn_nat_bounded N r2).bind fun r5 =>
         some (r5.1, r5.2)))
       ((fn_nat_bounded N r2).bind fun r6 =>
        some (r6.1, r6.2)))
      (cond (ltI 8192 (v3.length : Int))
       (cond (ltI 0 (shrI .i64 v1 1))
        (cond (ltI 1 v0)
         (some ([], some 2))
         ((fn_nat_bounded N r2).bind fun r7 =>
          some (r7.1, r7.2)))
        ((fn_nat_bounded N r2).bind fun r8 =>
         some (r8.1, r8.2)))
       ((fn_nat_times N v3 v3).bind fun r9 =>
        Ln0 v0 (shrI .i64 v1 1) r2 r9))))
   (cond (eqI (shrI .i64 v1 1) 0)
    (cond (ltI 0 (shrI .i64 v1 1))
     (cond (ltI 1 v0)
      (some ([], some 2))
      ((fn_nat_bounded N v2).bind fun r10 =>
       some (r10.1, r10.2)))
     ((fn_nat_bounded N v2).bind fun r11 =>
      some (r11.1, r11.2)))
    (cond (ltI 8192 (v2.length : Int))
     (cond (ltI 0 (shrI .i64 v1 1))
      (cond (ltI 1 v0)
       (some ([], some 2))
       ((fn_nat_bounded N v2).bind fun r12 =>
        some (r12.1, r12.2)))
      ((fn_nat_bounded N v2).bind fun r13 =>
       some (r13.1, r13.2)))
     (cond (ltI 8192 (v3.length : Int))
      (cond (ltI 0 (shrI .i64 v1 1))
       (cond (ltI 1 v0)
        (some ([], some 2))
        ((fn_nat_bounded N v2).bind fun r14 =>
         some (r14.1, r14.2)))
       ((fn_nat_bounded N v2).bind fun r15 =>
        some (r15.1, r15.2)))
      ((fn_nat_times N v3 v3).bind fun r16 =>
       Ln0 v0 (shrI .i64 v1 1) v2 r16))))
theorem step17_0 (N : Nat) (n : Nat) (v0 : Int) (v1 : Int) (v2 : List Int) (v3 : List Int) : raw17_0 N  (n + 1) v0 v1 v2 v3 = s17_0 N (raw17_0 N  n) v0 v1 v2 v3 := by kernel_rfl
noncomputable def l17_0 (N : Nat) : Nat → Int → Int → List Int → List Int → Option (List Int × Option Int)
  | 0 => fun _ _ _ _ => none
  | n + 1 => fun v0 v1 v2 v3 => s17_0 N (l17_0 N  n) v0 v1 v2 v3
theorem eq17_0 (N : Nat) : ∀ n, raw17_0 N  n = l17_0 N  n := by
  intro n
  induction n with
  | zero => exact funext fun v0 => funext fun v1 => funext fun v2 => funext fun v3 => rfl
  | succ n ih => exact funext fun v0 => funext fun v1 => funext fun v2 => funext fun v3 => by rw [step17_0, ih]; rfl
noncomputable def t17 (N : Nat) (Le0 : Int → Int → List Int → List Int → Option (List Int × Option Int)) (x0 : Int) (x1 : Int) : Option (List Int × Option Int) :=
  cond (ltI x1 0)
   (some ([], some 1))
   (cond (ltI 1000000 x1)
    (some ([], some 1))
    ((fn_nat_Of N (cvI .u64 x0)).bind fun r1 =>
     Le0 x0 x1 [1] r1))
noncomputable def fn_nat_Pow (N : Nat) (x0 : Int) (x1 : Int) : Option (List Int × Option Int) := t17 N (l17_0 N N) x0 x1
theorem run17 (N : Nat) (x0 : Int) (x1 : Int) : Eng.run T17 (G17 N) N live17 c17 Tryd.f17.results.toList Tryd.f17.ntmps ((ad17).enc (x0, x1, ())) (rd17).dec = fn_nat_Pow N x0 x1 := by
  refine Eq.trans (show _ = t17 N (raw17_0 N N) x0 x1 from by kernel_rfl) ?_
  unfold fn_nat_Pow
  rw [eq17_0 N N]
noncomputable def F17 (N : Nat) (a : Int × Int × Unit) : Option (List Int × Option Int) := fn_nat_Pow N a.1 a.2.1
theorem ok17 (N : Nat) : FnOK Tryd.prog 17 ad17 rd17 (F17 N) :=
  fn_ok (N := N) (live := live17) (code := c17) (tok T17.rt T17.kl (wrNil_ok)) mixed (gok17 N) Tryd.func17 (by kernel_rfl) (by kernel_rfl) (by kernel_rfl) fun a p h => by rw [← h]; exact run17 N a.1 a.2.1

/-! ### tiller/nat.Check: function 30 -/
noncomputable def c30 : Code := (Tryd.f30.body).getD .skip
noncomputable def T30 : Tb := ⟨tyOf tys, [], [], wrNil⟩
noncomputable def G30 {R : Type} (N : Nat) : FuncId → List AV → (AV → Option R) → Option R := gNil
theorem gok30 {R : Type} (N : Nat) : GOK Tryd.prog (G30 (R := R) N) := gNil_ok
noncomputable def live30 : List (Nat × List (Nat × HK)) := []
noncomputable def ad30 : Ad (List Int × Unit) := aC (cLi .u32) (a0)
noncomputable def rd30 : Rd (Option Int) := r1 (cErr 60)
noncomputable def fn_nat_Check (N : Nat) (x0 : List Int) : Option (Option Int) :=
  cond (ltI 8192 (x0.length : Int))
   (some (some 1))
   (cond (ltI 0 (x0.length : Int))
    (cond (leI 0 (subI .i64 (x0.length : Int) 1))
     (cond (ltI (subI .i64 (x0.length : Int) 1) (x0.length : Int))
      (cond (eqI (lrd x0 (subI .i64 (x0.length : Int) 1)) 0)
       (some (some 1))
       (some none))
      (none))
     (none))
    (some none))
theorem run30 (N : Nat) (x0 : List Int) : Eng.run T30 (G30 N) N live30 c30 Tryd.f30.results.toList Tryd.f30.ntmps ((ad30).enc (x0, ())) (rd30).dec = fn_nat_Check N x0 := by kernel_rfl
noncomputable def F30 (N : Nat) (a : List Int × Unit) : Option (Option Int) := fn_nat_Check N a.1
theorem ok30 (N : Nat) : FnOK Tryd.prog 30 ad30 rd30 (F30 N) :=
  fn_ok (N := N) (live := live30) (code := c30) (tok T30.rt T30.kl (wrNil_ok)) mixed (gok30 N) Tryd.func30 (by kernel_rfl) (by kernel_rfl) (by kernel_rfl) fun a p h => by rw [← h]; exact run30 N a.1

/-! ### tiller/nat.short: function 45 -/
noncomputable def c45 : Code := (Tryd.f45.body).getD .skip
noncomputable def T45 : Tb := ⟨tyOf tys, [(34, 6)], [40], wrNil⟩
noncomputable def G45 {R : Type} (N : Nat) : FuncId → List AV → (AV → Option R) → Option R := gCons 55 (gOf ad55 rd55 (F55 N)) (gNil)
theorem gok45 {R : Type} (N : Nat) : GOK Tryd.prog (G45 (R := R) N) := gCons_ok (ok55 N) (gNil_ok)
noncomputable def live45 : List (Nat × List (Nat × HK)) := [(4, [(0, .keep), (1, .keep), (6, .row .u32 36), (7, .keep), (8, .keep)])]
noncomputable def ad45 : Ad (List Int × Int × Unit) := aC (cLi .u32) (aC (cInt .u32) (a0))
noncomputable def rd45 : Rd (List Int × Int) := r2 (cLi .u32) (cInt .u32)
noncomputable def st45_0 (v0 : List Int) (v1 : Int) (v2 : Int) (v3 : Int) (v4 : List Int) : St := ⟨[AV.li .u32 v0, AV.v (.int .u32 v1), AV.none, AV.none, AV.none, AV.none, AV.own 6, AV.v (.int .u64 v2), AV.v (.int .i64 v3), AV.none, AV.none, AV.none, AV.none, AV.none, AV.none, AV.none, AV.none, AV.none, AV.none, AV.none, AV.none, AV.none, AV.none, AV.none, AV.none, AV.none, AV.none, AV.none, AV.none, AV.none, AV.none, AV.none, AV.none, AV.none, AV.none, AV.none, AV.none, AV.none, AV.none, AV.none, AV.none, AV.none, AV.none], [none, none, none, none, none, none, some (OB.row .u32 36 v4), none, none, none, none, none, none, none, none, none, none, none, none, none, none, none, none, none, none, none, none, none, none, none, none, none, none, none, none, none, none, none, none, none, none, none, none]⟩
noncomputable def raw45_0 (N : Nat) (n : Nat) (v0 : List Int) (v1 : Int) (v2 : Int) (v3 : Int) (v4 : List Int) : Option (List Int × Int) := loopN (lookN live45 4) (exec T45 (G45 N) N live45 (cL (cL (cR (cL (cR (cR (cR c45)))))))) n (st45_0 v0 v1 v2 v3 v4) (blockK 0 (seqK (exec T45 (G45 N) N live45 (cR (cR (cR (cR c45))))) (retK T45 Tryd.f45.results.toList (rd45).dec)))
noncomputable def s45_0 (N : Nat) (Ln0 : List Int → Int → Int → Int → List Int → Option (List Int × Int)) (v0 : List Int) (v1 : Int) (v2 : Int) (v3 : Int) (v4 : List Int) : Option (List Int × Int) :=
  cond (leI 0 v3)
   (cond (leI 0 v3)
    (cond (ltI v3 (v0.length : Int))
     (cond (eqI (cvI .u64 v1) 0)
      (none)
      (cond (leI 0 v3)
       (cond (ltI v3 (v4.length : Int))
        (cond (eqI (cvI .u64 v1) 0)
         (none)
         (Ln0 v0 v1 (remI .u64 (orI .u64 (shlI .u64 v2 32) (cvI .u64 (lrd v0 v3))) (cvI .u64 v1)) (subI .i64 v3 1) (v4.set v3.toNat (cvI .u32 (quoI .u64 (orI .u64 (shlI .u64 v2 32) (cvI .u64 (lrd v0 v3))) (cvI .u64 v1))))))
        (none))
       (none)))
     (none))
    (none))
   ((fn_nat_trim N v4).bind fun r1 =>
    some (r1, cvI .u32 v2))
theorem step45_0 (N : Nat) (n : Nat) (v0 : List Int) (v1 : Int) (v2 : Int) (v3 : Int) (v4 : List Int) : raw45_0 N  (n + 1) v0 v1 v2 v3 v4 = s45_0 N (raw45_0 N  n) v0 v1 v2 v3 v4 := by kernel_rfl
noncomputable def l45_0 (N : Nat) : Nat → List Int → Int → Int → Int → List Int → Option (List Int × Int)
  | 0 => fun _ _ _ _ _ => none
  | n + 1 => fun v0 v1 v2 v3 v4 => s45_0 N (l45_0 N  n) v0 v1 v2 v3 v4
theorem eq45_0 (N : Nat) : ∀ n, raw45_0 N  n = l45_0 N  n := by
  intro n
  induction n with
  | zero => exact funext fun v0 => funext fun v1 => funext fun v2 => funext fun v3 => funext fun v4 => rfl
  | succ n ih => exact funext fun v0 => funext fun v1 => funext fun v2 => funext fun v3 => funext fun v4 => by rw [step45_0, ih]; rfl
noncomputable def t45 (N : Nat) (Le0 : List Int → Int → Int → Int → List Int → Option (List Int × Int)) (x0 : List Int) (x1 : Int) : Option (List Int × Int) :=
  cond (leI 0 (x0.length : Int))
   (cond (leI (x0.length : Int) 17592186044416)
    (Le0 x0 x1 0 (subI .i64 (x0.length : Int) 1) (List.replicate ((x0.length : Int).toNat) (0 : Int)))
    (none))
   (none)
noncomputable def fn_nat_short (N : Nat) (x0 : List Int) (x1 : Int) : Option (List Int × Int) := t45 N (l45_0 N N) x0 x1
theorem run45 (N : Nat) (x0 : List Int) (x1 : Int) : Eng.run T45 (G45 N) N live45 c45 Tryd.f45.results.toList Tryd.f45.ntmps ((ad45).enc (x0, x1, ())) (rd45).dec = fn_nat_short N x0 x1 := by
  refine Eq.trans (show _ = t45 N (raw45_0 N N) x0 x1 from by kernel_rfl) ?_
  unfold fn_nat_short
  rw [eq45_0 N N]
noncomputable def F45 (N : Nat) (a : List Int × Int × Unit) : Option (List Int × Int) := fn_nat_short N a.1 a.2.1
theorem ok45 (N : Nat) : FnOK Tryd.prog 45 ad45 rd45 (F45 N) :=
  fn_ok (N := N) (live := live45) (code := c45) (tok T45.rt T45.kl (wrNil_ok)) mixed (gok45 N) Tryd.func45 (by kernel_rfl) (by kernel_rfl) (by kernel_rfl) fun a p h => by rw [← h]; exact run45 N a.1 a.2.1

/-! ### tiller/nat.Decimal: function 23 -/
noncomputable def c23 : Code := (Tryd.f23.body).getD .skip
noncomputable def T23 : Tb := ⟨tyOf tys, [(44, 4)], [52], wrCons 46 revW (wrNil)⟩
noncomputable def G23 {R : Type} (N : Nat) : FuncId → List AV → (AV → Option R) → Option R := gCons 30 (gOf ad30 rd30 (F30 N)) (gCons 44 (gOf (aC (cLi .u32) a0) (r1 (cLi .u32)) (fun a => fn_slices_Clone N a.1)) (gCons 45 (gOf ad45 rd45 (F45 N)) (gNil)))
theorem gok23 {R : Type} (N : Nat) : GOK Tryd.prog (G23 (R := R) N) := gCons_ok (ok30 N) (gCons_ok (clone_ok N) (gCons_ok (ok45 N) (gNil_ok)))
noncomputable def live23 : List (Nat × List (Nat × HK)) := [(5, [(4, .row .u8 5), (5, .keep), (40, .keep), (41, .keep), (42, .keep), (43, .keep), (44, .keep), (45, .keep), (46, .keep)]), (8, [(4, .row .u8 5), (6, .keep), (7, .keep), (23, .keep), (40, .keep), (41, .keep), (42, .keep), (43, .keep), (44, .keep), (45, .keep), (46, .keep)]), (13, [(4, .row .u8 5), (40, .keep), (41, .keep), (44, .keep)])]
noncomputable def ad23 : Ad (List Int × Unit) := aC (cLi .u32) (a0)
noncomputable def rd23 : Rd (ByteArray × Option Int) := r2 (cStr) (cErr 60)
noncomputable def st23_0 (v0 : List Int) (v1 : List Int) : St := ⟨[AV.none, AV.none, AV.none, AV.none, AV.own 4, AV.li .u32 v0, AV.none, AV.none, AV.none, AV.none, AV.none, AV.none, AV.none, AV.none, AV.none, AV.none, AV.none, AV.none, AV.none, AV.none, AV.none, AV.none, AV.none, AV.none, AV.none, AV.none, AV.none, AV.none, AV.none, AV.none, AV.none, AV.none, AV.none, AV.none, AV.none, AV.none, AV.none, AV.none, AV.none, AV.none, AV.none, AV.none, AV.none, AV.none, AV.none, AV.none, AV.none, AV.none, AV.none, AV.none, AV.none, AV.none, AV.none, AV.none, AV.none, AV.none, AV.none, AV.none, AV.none, AV.none], [none, none, none, none, some (OB.row .u8 5 v1), none, none, none, none, none, none, none, none, none, none, none, none, none, none, none, none, none, none, none, none, none, none, none, none, none, none, none, none, none, none, none, none, none, none, none, none, none, none, none, none, none, none, none, none, none, none, none, none, none, none, none, none, none, none, none]⟩
noncomputable def raw23_0 (N : Nat) (n : Nat) (v0 : List Int) (v1 : List Int) : Option (ByteArray × Option Int) := loopN (lookN live23 5) (exec T23 (G23 N) N live23 (cL (cL (cR (cL (cR (cR (cR c23)))))))) n (st23_0 v0 v1) (blockK 0 (seqK (exec T23 (G23 N) N live23 (cR (cR (cR (cR c23))))) (retK T23 Tryd.f23.results.toList (rd23).dec)))
noncomputable def st23_1 (v0 : List Int) (v1 : Int) (v2 : Int) (v3 : List Int) : St := ⟨[AV.none, AV.none, AV.none, AV.none, AV.own 4, AV.none, AV.li .u32 v0, AV.v (.int .u32 v1), AV.none, AV.none, AV.none, AV.none, AV.none, AV.none, AV.none, AV.none, AV.none, AV.none, AV.none, AV.none, AV.none, AV.none, AV.none, AV.v (.int .i64 v2), AV.none, AV.none, AV.none, AV.none, AV.none, AV.none, AV.none, AV.none, AV.none, AV.none, AV.none, AV.none, AV.none, AV.none, AV.none, AV.none, AV.none, AV.none, AV.none, AV.none, AV.none, AV.none, AV.none, AV.none, AV.none, AV.none, AV.none, AV.none, AV.none, AV.none, AV.none, AV.none, AV.none, AV.none, AV.none, AV.none], [none, none, none, none, some (OB.row .u8 5 v3), none, none, none, none, none, none, none, none, none, none, none, none, none, none, none, none, none, none, none, none, none, none, none, none, none, none, none, none, none, none, none, none, none, none, none, none, none, none, none, none, none, none, none, none, none, none, none, none, none, none, none, none, none, none, none]⟩
noncomputable def raw23_1 (N : Nat) (m0 : Nat) (n : Nat) (v0 : List Int) (v1 : Int) (v2 : Int) (v3 : List Int) : Option (ByteArray × Option Int) := loopN (lookN live23 8) (exec T23 (G23 N) N live23 (cL (cL (cR (cL (cR (cL (cR (cL (cL (cR (cL (cR (cR (cR c23))))))))))))))) n (st23_1 v0 v1 v2 v3) (blockK 2 (seqK (exec T23 (G23 N) N live23 (cR (cR (cL (cR (cL (cL (cR (cL (cR (cR (cR c23)))))))))))) (blockK 1 (roundK (fun s => loopN (lookN live23 5) (exec T23 (G23 N) N live23 (cL (cL (cR (cL (cR (cR (cR c23)))))))) m0 s (blockK 0 (seqK (exec T23 (G23 N) N live23 (cR (cR (cR (cR c23))))) (retK T23 Tryd.f23.results.toList (rd23).dec)))) (lookN live23 5) (blockK 0 (seqK (exec T23 (G23 N) N live23 (cR (cR (cR (cR c23))))) (retK T23 Tryd.f23.results.toList (rd23).dec)))))))
noncomputable def st23_2 (v0 : List Int) : St := ⟨[AV.none, AV.none, AV.none, AV.none, AV.own 4, AV.none, AV.none, AV.none, AV.none, AV.none, AV.none, AV.none, AV.none, AV.none, AV.none, AV.none, AV.none, AV.none, AV.none, AV.none, AV.none, AV.none, AV.none, AV.none, AV.none, AV.none, AV.none, AV.none, AV.none, AV.none, AV.none, AV.none, AV.none, AV.none, AV.none, AV.none, AV.none, AV.none, AV.none, AV.none, AV.none, AV.none, AV.none, AV.none, AV.none, AV.none, AV.none, AV.none, AV.none, AV.none, AV.none, AV.none, AV.none, AV.none, AV.none, AV.none, AV.none, AV.none, AV.none, AV.none], [none, none, none, none, some (OB.row .u8 5 v0), none, none, none, none, none, none, none, none, none, none, none, none, none, none, none, none, none, none, none, none, none, none, none, none, none, none, none, none, none, none, none, none, none, none, none, none, none, none, none, none, none, none, none, none, none, none, none, none, none, none, none, none, none, none, none]⟩
noncomputable def raw23_2 (N : Nat) (n : Nat) (v0 : List Int) : Option (ByteArray × Option Int) := loopN (lookN live23 13) (exec T23 (G23 N) N live23 (cL (cL (cL (cR (cR (cR (cR c23)))))))) n (st23_2 v0) (blockK 4 (seqK (exec T23 (G23 N) N live23 (cR (cR (cR (cR (cR c23)))))) (retK T23 Tryd.f23.results.toList (rd23).dec)))
noncomputable def s23_1 (N : Nat) (Ln1 : List Int → Int → Int → List Int → Option (ByteArray × Option Int)) (Ln0 : List Int → List Int → Option (ByteArray × Option Int)) (v0 : List Int) (v1 : Int) (v2 : Int) (v3 : List Int) : Option (ByteArray × Option Int) :=
  cond (ltI v2 9)
   (cond (fitL (v3.length + [cvI .u8 (addI .u32 48 (remI .u32 v1 10))].length))
    (Ln1 v0 (quoI .u32 v1 10) (addI .i64 v2 1) (v3 ++ [cvI .u8 (addI .u32 48 (remI .u32 v1 10))]))
    (none))
   (Ln0 v0 v3)
theorem step23_1 (N : Nat) (m0 : Nat) (n : Nat) (v0 : List Int) (v1 : Int) (v2 : Int) (v3 : List Int) : raw23_1 N m0 (n + 1) v0 v1 v2 v3 = s23_1 N (raw23_1 N m0 n) (raw23_0 N  m0) v0 v1 v2 v3 := by kernel_rfl
noncomputable def l23_1 (N : Nat) (E0 : List Int → List Int → Option (ByteArray × Option Int)) : Nat → List Int → Int → Int → List Int → Option (ByteArray × Option Int)
  | 0 => fun _ _ _ _ => none
  | n + 1 => fun v0 v1 v2 v3 => s23_1 N (l23_1 N E0 n) E0 v0 v1 v2 v3
theorem eq23_1 (N : Nat) (m0 : Nat) : ∀ n, raw23_1 N m0 n = l23_1 N (raw23_0 N  m0) n := by
  intro n
  induction n with
  | zero => exact funext fun v0 => funext fun v1 => funext fun v2 => funext fun v3 => rfl
  | succ n ih => exact funext fun v0 => funext fun v1 => funext fun v2 => funext fun v3 => by rw [step23_1, ih]; rfl
noncomputable def s23_2 (N : Nat) (Ln2 : List Int → Option (ByteArray × Option Int)) (v0 : List Int) : Option (ByteArray × Option Int) :=
  cond (ltI 1 (v0.length : Int))
   (cond (leI 0 (subI .i64 (v0.length : Int) 1))
    (cond (ltI (subI .i64 (v0.length : Int) 1) (v0.length : Int))
     (cond (eqI (lrd v0 (subI .i64 (v0.length : Int) 1)) 48)
      (cond ((leI 0 (subI .i64 (v0.length : Int) 1)) && (leI (subI .i64 (v0.length : Int) 1) (v0.length : Int)))
       (Ln2 (v0.take ((subI .i64 (v0.length : Int) 1).toNat)))
       (none))
      (cond (eqI (v0.length : Int) 0)
       (some ((⟨#[48]⟩ : ByteArray), none))
       (some (bstr (List.reverse v0), none))))
     (none))
    (none))
   (cond (eqI (v0.length : Int) 0)
    (some ((⟨#[48]⟩ : ByteArray), none))
    (some (bstr (List.reverse v0), none)))
theorem step23_2 (N : Nat) (n : Nat) (v0 : List Int) : raw23_2 N  (n + 1) v0 = s23_2 N (raw23_2 N  n) v0 := by kernel_rfl
noncomputable def l23_2 (N : Nat) : Nat → List Int → Option (ByteArray × Option Int)
  | 0 => fun _ => none
  | n + 1 => fun v0 => s23_2 N (l23_2 N  n) v0
theorem eq23_2 (N : Nat) : ∀ n, raw23_2 N  n = l23_2 N  n := by
  intro n
  induction n with
  | zero => exact funext fun v0 => rfl
  | succ n ih => exact funext fun v0 => by rw [step23_2, ih]; rfl
noncomputable def s23_0 (N : Nat) (Le1 : List Int → Int → Int → List Int → Option (ByteArray × Option Int)) (Le2 : List Int → Option (ByteArray × Option Int)) (v0 : List Int) (v1 : List Int) : Option (ByteArray × Option Int) :=
  cond (ltI 0 (v0.length : Int))
   ((fn_nat_short N v0 1000000000).bind fun r3 =>
    Le1 r3.1 r3.2 0 v1)
   (Le2 v1)
theorem step23_0 (N : Nat) (n : Nat) (v0 : List Int) (v1 : List Int) : raw23_0 N  (n + 1) v0 v1 = s23_0 N (raw23_1 N n N) (raw23_2 N  N) v0 v1 := by kernel_rfl
noncomputable def l23_0 (N : Nat) : Nat → List Int → List Int → Option (ByteArray × Option Int)
  | 0 => fun _ _ => none
  | n + 1 => fun v0 v1 => s23_0 N (l23_1 N (l23_0 N  n) N) (l23_2 N  N) v0 v1
theorem eq23_0 (N : Nat) : ∀ n, raw23_0 N  n = l23_0 N  n := by
  intro n
  induction n with
  | zero => exact funext fun v0 => funext fun v1 => rfl
  | succ n ih => exact funext fun v0 => funext fun v1 => by rw [step23_0, eq23_1 N n N, eq23_2 N  N, ih]; rfl
noncomputable def t23 (N : Nat) (Le0 : List Int → List Int → Option (ByteArray × Option Int)) (x0 : List Int) : Option (ByteArray × Option Int) :=
  (fn_nat_Check N x0).bind fun r1 =>
   cond (!(isNoneI r1))
    (some ((⟨#[]⟩ : ByteArray), some 1))
    ((fn_slices_Clone N x0).bind fun r2 =>
     Le0 r2 [])
noncomputable def fn_nat_Decimal (N : Nat) (x0 : List Int) : Option (ByteArray × Option Int) := t23 N (l23_0 N N) x0
theorem run23 (N : Nat) (x0 : List Int) : Eng.run T23 (G23 N) N live23 c23 Tryd.f23.results.toList Tryd.f23.ntmps ((ad23).enc (x0, ())) (rd23).dec = fn_nat_Decimal N x0 := by
  refine Eq.trans (show _ = t23 N (raw23_0 N N) x0 from by kernel_rfl) ?_
  unfold fn_nat_Decimal
  rw [eq23_0 N N]
noncomputable def F23 (N : Nat) (a : List Int × Unit) : Option (ByteArray × Option Int) := fn_nat_Decimal N a.1
theorem ok23 (N : Nat) : FnOK Tryd.prog 23 ad23 rd23 (F23 N) :=
  fn_ok (N := N) (live := live23) (code := c23) (tok T23.rt T23.kl (wrCons_ok (rev_ok) (wrNil_ok))) mixed (gok23 N) Tryd.func23 (by kernel_rfl) (by kernel_rfl) (by kernel_rfl) fun a p h => by rw [← h]; exact run23 N a.1

/-! ### math/bits.Len32: function 42 -/
noncomputable def c42 : Code := (Tryd.f42.body).getD .skip
noncomputable def T42 : Tb := ⟨tyOf tys, [], [], wrNil⟩
noncomputable def G42 {R : Type} (N : Nat) : FuncId → List AV → (AV → Option R) → Option R := gNil
theorem gok42 {R : Type} (N : Nat) : GOK Tryd.prog (G42 (R := R) N) := gNil_ok
noncomputable def live42 : List (Nat × List (Nat × HK)) := []
noncomputable def ad42 : Ad (Int × Unit) := aC (cInt .u32) (a0)
noncomputable def rd42 : Rd (Int) := r1 (cInt .i64)
noncomputable def fn_bits_Len32 (N : Nat) (x0 : Int) : Option (Int) :=
  cond (leI 65536 x0)
   (cond (leI 256 (shrI .u32 x0 16))
    (cond (leI 0 (cvI .u8 (shrI .u32 (shrI .u32 x0 16) 8)))
     (cond (ltI (cvI .u8 (shrI .u32 (shrI .u32 x0 16) 8)) (str0.size : Int))
      (some (addI .i64 (addI .i64 16 8) (cvI .i64 (sAt str0 (cvI .u8 (shrI .u32 (shrI .u32 x0 16) 8))))))
      (none))
     (none))
    (cond (leI 0 (cvI .u8 (shrI .u32 x0 16)))
     (cond (ltI (cvI .u8 (shrI .u32 x0 16)) (str0.size : Int))
      (some (addI .i64 16 (cvI .i64 (sAt str0 (cvI .u8 (shrI .u32 x0 16))))))
      (none))
     (none)))
   (cond (leI 256 x0)
    (cond (leI 0 (cvI .u8 (shrI .u32 x0 8)))
     (cond (ltI (cvI .u8 (shrI .u32 x0 8)) (str0.size : Int))
      (some (addI .i64 (addI .i64 0 8) (cvI .i64 (sAt str0 (cvI .u8 (shrI .u32 x0 8))))))
      (none))
     (none))
    (cond (leI 0 (cvI .u8 x0))
     (cond (ltI (cvI .u8 x0) (str0.size : Int))
      (some (addI .i64 0 (cvI .i64 (sAt str0 (cvI .u8 x0)))))
      (none))
     (none)))
theorem run42 (N : Nat) (x0 : Int) : Eng.run T42 (G42 N) N live42 c42 Tryd.f42.results.toList Tryd.f42.ntmps ((ad42).enc (x0, ())) (rd42).dec = fn_bits_Len32 N x0 := by kernel_rfl
noncomputable def F42 (N : Nat) (a : Int × Unit) : Option (Int) := fn_bits_Len32 N a.1
theorem ok42 (N : Nat) : FnOK Tryd.prog 42 ad42 rd42 (F42 N) :=
  fn_ok (N := N) (live := live42) (code := c42) (tok T42.rt T42.kl (wrNil_ok)) mixed (gok42 N) Tryd.func42 (by kernel_rfl) (by kernel_rfl) (by kernel_rfl) fun a p h => by rw [← h]; exact run42 N a.1

/-! ### tiller/nat.Len: function 19 -/
noncomputable def c19 : Code := (Tryd.f19.body).getD .skip
noncomputable def T19 : Tb := ⟨tyOf tys, [], [], wrNil⟩
noncomputable def G19 {R : Type} (N : Nat) : FuncId → List AV → (AV → Option R) → Option R := gCons 30 (gOf ad30 rd30 (F30 N)) (gCons 42 (gOf ad42 rd42 (F42 N)) (gNil))
theorem gok19 {R : Type} (N : Nat) : GOK Tryd.prog (G19 (R := R) N) := gCons_ok (ok30 N) (gCons_ok (ok42 N) (gNil_ok))
noncomputable def live19 : List (Nat × List (Nat × HK)) := []
noncomputable def ad19 : Ad (List Int × Unit) := aC (cLi .u32) (a0)
noncomputable def rd19 : Rd (Int) := r1 (cInt .i64)
noncomputable def fn_nat_Len (N : Nat) (x0 : List Int) : Option (Int) :=
  (fn_nat_Check N x0).bind fun r1 =>
   cond (!(isNoneI r1))
    (some 0)
    (cond (eqI (x0.length : Int) 0)
     (some 0)
     (cond (leI 0 (subI .i64 (x0.length : Int) 1))
      (cond (ltI (subI .i64 (x0.length : Int) 1) (x0.length : Int))
       ((fn_bits_Len32 N (lrd x0 (subI .i64 (x0.length : Int) 1))).bind fun r2 =>
        some (addI .i64 (mulI .i64 32 (subI .i64 (x0.length : Int) 1)) r2))
       (none))
      (none)))
theorem run19 (N : Nat) (x0 : List Int) : Eng.run T19 (G19 N) N live19 c19 Tryd.f19.results.toList Tryd.f19.ntmps ((ad19).enc (x0, ())) (rd19).dec = fn_nat_Len N x0 := by kernel_rfl
noncomputable def F19 (N : Nat) (a : List Int × Unit) : Option (Int) := fn_nat_Len N a.1
theorem ok19 (N : Nat) : FnOK Tryd.prog 19 ad19 rd19 (F19 N) :=
  fn_ok (N := N) (live := live19) (code := c19) (tok T19.rt T19.kl (wrNil_ok)) mixed (gok19 N) Tryd.func19 (by kernel_rfl) (by kernel_rfl) (by kernel_rfl) fun a p h => by rw [← h]; exact run19 N a.1

/-! ### tiller/tillerlaw02.sure: function 9 -/
noncomputable def c9 : Code := (Tryd.f9.body).getD .skip
noncomputable def T9 : Tb := ⟨tyOf tys, [], [], wrNil⟩
noncomputable def G9 {R : Type} (N : Nat) : FuncId → List AV → (AV → Option R) → Option R := gCons 17 (gOf ad17 rd17 (F17 N)) (gCons 23 (gOf ad23 rd23 (F23 N)) (gCons 19 (gOf ad19 rd19 (F19 N)) (gNil)))
theorem gok9 {R : Type} (N : Nat) : GOK Tryd.prog (G9 (R := R) N) := gCons_ok (ok17 N) (gCons_ok (ok23 N) (gCons_ok (ok19 N) (gNil_ok)))
noncomputable def live9 : List (Nat × List (Nat × HK)) := []
noncomputable def ad9 : Ad (Unit) := a0
noncomputable def rd9 : Rd (Bool) := r1 (cBool)
noncomputable def fn_tillerlaw02_sure (N : Nat)  : Option (Bool) :=
  (fn_nat_Pow N 10 20).bind fun r1 =>
   (fn_nat_Decimal N r1.1).bind fun r2 =>
    cond (isNoneI r1.2)
     (cond (isNoneI r2.2)
      ((fn_nat_Len N r1.1).bind fun r3 =>
       cond (eqI r3 67)
        (some (eqS r2.1 str1))
        (some false))
      (some false))
     (some false)
theorem run9 (N : Nat)  : Eng.run T9 (G9 N) N live9 c9 Tryd.f9.results.toList Tryd.f9.ntmps ((ad9).enc (())) (rd9).dec = fn_tillerlaw02_sure N  := by kernel_rfl
noncomputable def F9 (N : Nat) (a : Unit) : Option (Bool) := fn_tillerlaw02_sure N 
theorem ok9 (N : Nat) : FnOK Tryd.prog 9 ad9 rd9 (F9 N) :=
  fn_ok (N := N) (live := live9) (code := c9) (tok T9.rt T9.kl (wrNil_ok)) mixed (gok9 N) Tryd.func9 (by kernel_rfl) (by kernel_rfl) (by kernel_rfl) fun a p h => by rw [← h]; exact run9 N 

/-! ### tiller/nat.both: function 35 -/
noncomputable def c35 : Code := (Tryd.f35.body).getD .skip
noncomputable def T35 : Tb := ⟨tyOf tys, [], [], wrNil⟩
noncomputable def G35 {R : Type} (N : Nat) : FuncId → List AV → (AV → Option R) → Option R := gCons 30 (gOf ad30 rd30 (F30 N)) (gNil)
theorem gok35 {R : Type} (N : Nat) : GOK Tryd.prog (G35 (R := R) N) := gCons_ok (ok30 N) (gNil_ok)
noncomputable def live35 : List (Nat × List (Nat × HK)) := []
noncomputable def ad35 : Ad (List Int × List Int × Unit) := aC (cLi .u32) (aC (cLi .u32) (a0))
noncomputable def rd35 : Rd (Option Int) := r1 (cErr 60)
noncomputable def fn_nat_both (N : Nat) (x0 : List Int) (x1 : List Int) : Option (Option Int) :=
  (fn_nat_Check N x0).bind fun r1 =>
   cond (!(isNoneI r1))
    (some (some 1))
    ((fn_nat_Check N x1).bind fun r2 =>
     cond (!(isNoneI r2))
      (some (some 1))
      (some none))
theorem run35 (N : Nat) (x0 : List Int) (x1 : List Int) : Eng.run T35 (G35 N) N live35 c35 Tryd.f35.results.toList Tryd.f35.ntmps ((ad35).enc (x0, x1, ())) (rd35).dec = fn_nat_both N x0 x1 := by kernel_rfl
noncomputable def F35 (N : Nat) (a : List Int × List Int × Unit) : Option (Option Int) := fn_nat_both N a.1 a.2.1
theorem ok35 (N : Nat) : FnOK Tryd.prog 35 ad35 rd35 (F35 N) :=
  fn_ok (N := N) (live := live35) (code := c35) (tok T35.rt T35.kl (wrNil_ok)) mixed (gok35 N) Tryd.func35 (by kernel_rfl) (by kernel_rfl) (by kernel_rfl) fun a p h => by rw [← h]; exact run35 N a.1 a.2.1

/-! ### tiller/nat.Mul: function 10 -/
noncomputable def c10 : Code := (Tryd.f10.body).getD .skip
noncomputable def T10 : Tb := ⟨tyOf tys, [], [], wrNil⟩
noncomputable def G10 {R : Type} (N : Nat) : FuncId → List AV → (AV → Option R) → Option R := gCons 35 (gOf ad35 rd35 (F35 N)) (gCons 37 (gOf ad37 rd37 (F37 N)) (gCons 36 (gOf ad36 rd36 (F36 N)) (gNil)))
theorem gok10 {R : Type} (N : Nat) : GOK Tryd.prog (G10 (R := R) N) := gCons_ok (ok35 N) (gCons_ok (ok37 N) (gCons_ok (ok36 N) (gNil_ok)))
noncomputable def live10 : List (Nat × List (Nat × HK)) := []
noncomputable def ad10 : Ad (List Int × List Int × Unit) := aC (cLi .u32) (aC (cLi .u32) (a0))
noncomputable def rd10 : Rd (List Int × Option Int) := r2 (cLi .u32) (cErr 60)
noncomputable def fn_nat_Mul (N : Nat) (x0 : List Int) (x1 : List Int) : Option (List Int × Option Int) :=
  (fn_nat_both N x0 x1).bind fun r1 =>
   cond (!(isNoneI r1))
    (some ([], some 1))
    (cond (ltI 8193 (addI .i64 (x0.length : Int) (x1.length : Int)))
     (some ([], some 2))
     ((fn_nat_times N x0 x1).bind fun r2 =>
      (fn_nat_bounded N r2).bind fun r3 =>
       some (r3.1, r3.2)))
theorem run10 (N : Nat) (x0 : List Int) (x1 : List Int) : Eng.run T10 (G10 N) N live10 c10 Tryd.f10.results.toList Tryd.f10.ntmps ((ad10).enc (x0, x1, ())) (rd10).dec = fn_nat_Mul N x0 x1 := by kernel_rfl
noncomputable def F10 (N : Nat) (a : List Int × List Int × Unit) : Option (List Int × Option Int) := fn_nat_Mul N a.1 a.2.1
theorem ok10 (N : Nat) : FnOK Tryd.prog 10 ad10 rd10 (F10 N) :=
  fn_ok (N := N) (live := live10) (code := c10) (tok T10.rt T10.kl (wrNil_ok)) mixed (gok10 N) Tryd.func10 (by kernel_rfl) (by kernel_rfl) (by kernel_rfl) fun a p h => by rw [← h]; exact run10 N a.1 a.2.1

/-! ### tiller/tillerlaw02.is: function 11 -/
noncomputable def c11 : Code := (Tryd.f11.body).getD .skip
noncomputable def T11 : Tb := ⟨tyOf tys, [], [], wrNil⟩
noncomputable def G11 {R : Type} (N : Nat) : FuncId → List AV → (AV → Option R) → Option R := gNil
theorem gok11 {R : Type} (N : Nat) : GOK Tryd.prog (G11 (R := R) N) := gNil_ok
noncomputable def live11 : List (Nat × List (Nat × HK)) := []
noncomputable def ad11 : Ad (List Int × Unit) := aC (cLi .u32) (a0)
noncomputable def rd11 : Rd (Bool) := r1 (cBool)
noncomputable def fn_tillerlaw02_is (N : Nat) (x0 : List Int) : Option (Bool) :=
  cond (eqI (x0.length : Int) 0)
   (some true)
   (cond (leI (x0.length : Int) 8192)
    (cond (leI 0 (subI .i64 (x0.length : Int) 1))
     (cond (ltI (subI .i64 (x0.length : Int) 1) (x0.length : Int))
      (some (!(eqI (lrd x0 (subI .i64 (x0.length : Int) 1)) 0)))
      (none))
     (none))
    (some false))
theorem run11 (N : Nat) (x0 : List Int) : Eng.run T11 (G11 N) N live11 c11 Tryd.f11.results.toList Tryd.f11.ntmps ((ad11).enc (x0, ())) (rd11).dec = fn_tillerlaw02_is N x0 := by kernel_rfl
noncomputable def F11 (N : Nat) (a : List Int × Unit) : Option (Bool) := fn_tillerlaw02_is N a.1
theorem ok11 (N : Nat) : FnOK Tryd.prog 11 ad11 rd11 (F11 N) :=
  fn_ok (N := N) (live := live11) (code := c11) (tok T11.rt T11.kl (wrNil_ok)) mixed (gok11 N) Tryd.func11 (by kernel_rfl) (by kernel_rfl) (by kernel_rfl) fun a p h => by rw [← h]; exact run11 N a.1

/-! ### tiller/tillerref02.trim: function 39 -/
noncomputable def c39 : Code := (Tryd.f39.body).getD .skip
noncomputable def T39 : Tb := ⟨tyOf tys, [], [], wrNil⟩
noncomputable def G39 {R : Type} (N : Nat) : FuncId → List AV → (AV → Option R) → Option R := gNil
theorem gok39 {R : Type} (N : Nat) : GOK Tryd.prog (G39 (R := R) N) := gNil_ok
noncomputable def live39 : List (Nat × List (Nat × HK)) := [(2, [(0, .keep), (3, .keep)])]
noncomputable def ad39 : Ad (List Int × Unit) := aC (cLi .u32) (a0)
noncomputable def rd39 : Rd (List Int) := r1 (cLi .u32)
noncomputable def st39_0 (v0 : List Int) (v1 : Int) : St := ⟨[AV.li .u32 v0, AV.none, AV.none, AV.v (.int .i64 v1), AV.none, AV.none, AV.none, AV.none, AV.none, AV.none, AV.none, AV.none, AV.none, AV.none, AV.none, AV.none, AV.none, AV.none, AV.none, AV.none, AV.none, AV.none], [none, none, none, none, none, none, none, none, none, none, none, none, none, none, none, none, none, none, none, none, none, none]⟩
noncomputable def raw39_0 (N : Nat) (n : Nat) (v0 : List Int) (v1 : Int) : Option (List Int) := loopN (lookN live39 2) (exec T39 (G39 N) N live39 (cL (cL (cL (cR (cR c39)))))) n (st39_0 v0 v1) (blockK 0 (seqK (exec T39 (G39 N) N live39 (cR (cR (cR c39)))) (retK T39 Tryd.f39.results.toList (rd39).dec)))
noncomputable def s39_0 (N : Nat) (Ln0 : List Int → Int → Option (List Int)) (v0 : List Int) (v1 : Int) : Option (List Int) :=
  cond (ltI 0 v1)
   (cond (leI 0 (subI .i64 v1 1))
    (cond (ltI (subI .i64 v1 1) (v0.length : Int))
     (cond (eqI (lrd v0 (subI .i64 v1 1)) 0)
      (Ln0 v0 (subI .i64 v1 1))
      (cond (((((leI 0 0) && (leI 0 v1)) && (leI v1 v1)) && (leI v1 (v0.length : Int))) && (true || false))
       (some ((v0.take v1.toNat).drop ((0 : Int).toNat)))
       (none)))
     (none))
    (none))
   (cond (((((leI 0 0) && (leI 0 v1)) && (leI v1 v1)) && (leI v1 (v0.length : Int))) && (true || false))
    (some ((v0.take v1.toNat).drop ((0 : Int).toNat)))
    (none))
theorem step39_0 (N : Nat) (n : Nat) (v0 : List Int) (v1 : Int) : raw39_0 N  (n + 1) v0 v1 = s39_0 N (raw39_0 N  n) v0 v1 := by kernel_rfl
noncomputable def l39_0 (N : Nat) : Nat → List Int → Int → Option (List Int)
  | 0 => fun _ _ => none
  | n + 1 => fun v0 v1 => s39_0 N (l39_0 N  n) v0 v1
theorem eq39_0 (N : Nat) : ∀ n, raw39_0 N  n = l39_0 N  n := by
  intro n
  induction n with
  | zero => exact funext fun v0 => funext fun v1 => rfl
  | succ n ih => exact funext fun v0 => funext fun v1 => by rw [step39_0, ih]; rfl
noncomputable def t39 (N : Nat) (Le0 : List Int → Int → Option (List Int)) (x0 : List Int) : Option (List Int) :=
  Le0 x0 (x0.length : Int)
noncomputable def fn_tillerref02_trim (N : Nat) (x0 : List Int) : Option (List Int) := t39 N (l39_0 N N) x0
theorem run39 (N : Nat) (x0 : List Int) : Eng.run T39 (G39 N) N live39 c39 Tryd.f39.results.toList Tryd.f39.ntmps ((ad39).enc (x0, ())) (rd39).dec = fn_tillerref02_trim N x0 := by
  refine Eq.trans (show _ = t39 N (raw39_0 N N) x0 from by kernel_rfl) ?_
  unfold fn_tillerref02_trim
  rw [eq39_0 N N]
noncomputable def F39 (N : Nat) (a : List Int × Unit) : Option (List Int) := fn_tillerref02_trim N a.1
theorem ok39 (N : Nat) : FnOK Tryd.prog 39 ad39 rd39 (F39 N) :=
  fn_ok (N := N) (live := live39) (code := c39) (tok T39.rt T39.kl (wrNil_ok)) mixed (gok39 N) Tryd.func39 (by kernel_rfl) (by kernel_rfl) (by kernel_rfl) fun a p h => by rw [← h]; exact run39 N a.1

/-! ### tiller/tillerref02.From: function 16 -/
noncomputable def c16 : Code := (Tryd.f16.body).getD .skip
noncomputable def T16 : Tb := ⟨tyOf tys, [], [25], wrNil⟩
noncomputable def G16 {R : Type} (N : Nat) : FuncId → List AV → (AV → Option R) → Option R := gCons 39 (gOf ad39 rd39 (F39 N)) (gNil)
theorem gok16 {R : Type} (N : Nat) : GOK Tryd.prog (G16 (R := R) N) := gCons_ok (ok39 N) (gNil_ok)
noncomputable def live16 : List (Nat × List (Nat × HK)) := [(3, [(0, .keep), (3, .row .u32 36), (4, .keep)])]
noncomputable def ad16 : Ad (List Int × Unit) := aC (cLi .u32) (a0)
noncomputable def rd16 : Rd (List Int) := r1 (cLi .u32)
noncomputable def st16_0 (v0 : List Int) (v1 : Int) (v2 : List Int) : St := ⟨[AV.li .u32 v0, AV.none, AV.none, AV.own 3, AV.v (.int .i64 v1), AV.none, AV.none, AV.none, AV.none, AV.none, AV.none, AV.none, AV.none, AV.none, AV.none, AV.none, AV.none, AV.none, AV.none, AV.none, AV.none, AV.none, AV.none, AV.none, AV.none, AV.none], [none, none, none, some (OB.row .u32 36 v2), none, none, none, none, none, none, none, none, none, none, none, none, none, none, none, none, none, none, none, none, none, none]⟩
noncomputable def raw16_0 (N : Nat) (n : Nat) (v0 : List Int) (v1 : Int) (v2 : List Int) : Option (List Int) := loopN (lookN live16 3) (exec T16 (G16 N) N live16 (cL (cL (cR (cL (cR (cR c16))))))) n (st16_0 v0 v1 v2) (blockK 0 (seqK (exec T16 (G16 N) N live16 (cR (cR (cR c16)))) (retK T16 Tryd.f16.results.toList (rd16).dec)))
noncomputable def s16_0 (N : Nat) (Ln0 : List Int → Int → List Int → Option (List Int)) (v0 : List Int) (v1 : Int) (v2 : List Int) : Option (List Int) :=
  cond (ltI v1 (v0.length : Int))
   (cond (leI 0 v1)
    (cond (ltI v1 (v0.length : Int))
     (cond (leI 0 v1)
      (cond (ltI v1 (v0.length : Int))
       (cond (fitL (v2.length + [remI .u32 (lrd v0 v1) 65536, quoI .u32 (lrd v0 v1) 65536].length))
        (Ln0 v0 (addI .i64 v1 1) (v2 ++ [remI .u32 (lrd v0 v1) 65536, quoI .u32 (lrd v0 v1) 65536]))
        (none))
       (none))
      (none))
     (none))
    (none))
   ((fn_tillerref02_trim N v2).bind fun r1 =>
    some r1)
theorem step16_0 (N : Nat) (n : Nat) (v0 : List Int) (v1 : Int) (v2 : List Int) : raw16_0 N  (n + 1) v0 v1 v2 = s16_0 N (raw16_0 N  n) v0 v1 v2 := by kernel_rfl
noncomputable def l16_0 (N : Nat) : Nat → List Int → Int → List Int → Option (List Int)
  | 0 => fun _ _ _ => none
  | n + 1 => fun v0 v1 v2 => s16_0 N (l16_0 N  n) v0 v1 v2
theorem eq16_0 (N : Nat) : ∀ n, raw16_0 N  n = l16_0 N  n := by
  intro n
  induction n with
  | zero => exact funext fun v0 => funext fun v1 => funext fun v2 => rfl
  | succ n ih => exact funext fun v0 => funext fun v1 => funext fun v2 => by rw [step16_0, ih]; rfl
noncomputable def t16 (N : Nat) (Le0 : List Int → Int → List Int → Option (List Int)) (x0 : List Int) : Option (List Int) :=
  Le0 x0 0 []
noncomputable def fn_tillerref02_From (N : Nat) (x0 : List Int) : Option (List Int) := t16 N (l16_0 N N) x0
theorem run16 (N : Nat) (x0 : List Int) : Eng.run T16 (G16 N) N live16 c16 Tryd.f16.results.toList Tryd.f16.ntmps ((ad16).enc (x0, ())) (rd16).dec = fn_tillerref02_From N x0 := by
  refine Eq.trans (show _ = t16 N (raw16_0 N N) x0 from by kernel_rfl) ?_
  unfold fn_tillerref02_From
  rw [eq16_0 N N]
noncomputable def F16 (N : Nat) (a : List Int × Unit) : Option (List Int) := fn_tillerref02_From N a.1
theorem ok16 (N : Nat) : FnOK Tryd.prog 16 ad16 rd16 (F16 N) :=
  fn_ok (N := N) (live := live16) (code := c16) (tok T16.rt T16.kl (wrNil_ok)) mixed (gok16 N) Tryd.func16 (by kernel_rfl) (by kernel_rfl) (by kernel_rfl) fun a p h => by rw [← h]; exact run16 N a.1

/-! ### tiller/tillerref02.Mul: function 15 -/
noncomputable def c15 : Code := (Tryd.f15.body).getD .skip
noncomputable def T15 : Tb := ⟨tyOf tys, [(32, 5), (55, 5), (65, 5)], [67], wrNil⟩
noncomputable def G15 {R : Type} (N : Nat) : FuncId → List AV → (AV → Option R) → Option R := gCons 39 (gOf ad39 rd39 (F39 N)) (gNil)
theorem gok15 {R : Type} (N : Nat) : GOK Tryd.prog (G15 (R := R) N) := gCons_ok (ok39 N) (gNil_ok)
noncomputable def live15 : List (Nat × List (Nat × HK)) := [(3, [(0, .keep), (1, .keep), (5, .row .u32 36), (6, .keep)]), (7, [(0, .keep), (1, .keep), (5, .row .u32 36), (6, .keep), (7, .keep), (8, .keep)])]
noncomputable def ad15 : Ad (List Int × List Int × Unit) := aC (cLi .u32) (aC (cLi .u32) (a0))
noncomputable def rd15 : Rd (List Int) := r1 (cLi .u32)
noncomputable def st15_0 (v0 : List Int) (v1 : List Int) (v2 : Int) (v3 : List Int) : St := ⟨[AV.li .u32 v0, AV.li .u32 v1, AV.none, AV.none, AV.none, AV.own 5, AV.v (.int .i64 v2), AV.none, AV.none, AV.none, AV.none, AV.none, AV.none, AV.none, AV.none, AV.none, AV.none, AV.none, AV.none, AV.none, AV.none, AV.none, AV.none, AV.none, AV.none, AV.none, AV.none, AV.none, AV.none, AV.none, AV.none, AV.none, AV.none, AV.none, AV.none, AV.none, AV.none, AV.none, AV.none, AV.none, AV.none, AV.none, AV.none, AV.none, AV.none, AV.none, AV.none, AV.none, AV.none, AV.none, AV.none, AV.none, AV.none, AV.none, AV.none, AV.none, AV.none, AV.none, AV.none, AV.none, AV.none, AV.none, AV.none, AV.none, AV.none, AV.none, AV.none, AV.none], [none, none, none, none, none, some (OB.row .u32 36 v3), none, none, none, none, none, none, none, none, none, none, none, none, none, none, none, none, none, none, none, none, none, none, none, none, none, none, none, none, none, none, none, none, none, none, none, none, none, none, none, none, none, none, none, none, none, none, none, none, none, none, none, none, none, none, none, none, none, none, none, none, none, none]⟩
noncomputable def raw15_0 (N : Nat) (n : Nat) (v0 : List Int) (v1 : List Int) (v2 : Int) (v3 : List Int) : Option (List Int) := loopN (lookN live15 3) (exec T15 (G15 N) N live15 (cL (cL (cR (cL (cR (cR c15))))))) n (st15_0 v0 v1 v2 v3) (blockK 0 (seqK (exec T15 (G15 N) N live15 (cR (cR (cR c15)))) (retK T15 Tryd.f15.results.toList (rd15).dec)))
noncomputable def st15_1 (v0 : List Int) (v1 : List Int) (v2 : Int) (v3 : Int) (v4 : Int) (v5 : List Int) : St := ⟨[AV.li .u32 v0, AV.li .u32 v1, AV.none, AV.none, AV.none, AV.own 5, AV.v (.int .i64 v2), AV.v (.int .u64 v3), AV.v (.int .i64 v4), AV.none, AV.none, AV.none, AV.none, AV.none, AV.none, AV.none, AV.none, AV.none, AV.none, AV.none, AV.none, AV.none, AV.none, AV.none, AV.none, AV.none, AV.none, AV.none, AV.none, AV.none, AV.none, AV.none, AV.none, AV.none, AV.none, AV.none, AV.none, AV.none, AV.none, AV.none, AV.none, AV.none, AV.none, AV.none, AV.none, AV.none, AV.none, AV.none, AV.none, AV.none, AV.none, AV.none, AV.none, AV.none, AV.none, AV.none, AV.none, AV.none, AV.none, AV.none, AV.none, AV.none, AV.none, AV.none, AV.none, AV.none, AV.none, AV.none], [none, none, none, none, none, some (OB.row .u32 36 v5), none, none, none, none, none, none, none, none, none, none, none, none, none, none, none, none, none, none, none, none, none, none, none, none, none, none, none, none, none, none, none, none, none, none, none, none, none, none, none, none, none, none, none, none, none, none, none, none, none, none, none, none, none, none, none, none, none, none, none, none, none, none]⟩
noncomputable def raw15_1 (N : Nat) (m0 : Nat) (n : Nat) (v0 : List Int) (v1 : List Int) (v2 : Int) (v3 : Int) (v4 : Int) (v5 : List Int) : Option (List Int) := loopN (lookN live15 7) (exec T15 (G15 N) N live15 (cL (cL (cR (cL (cR (cL (cL (cR (cL (cL (cR (cL (cR (cR c15))))))))))))))) n (st15_1 v0 v1 v2 v3 v4 v5) (blockK 2 (seqK (exec T15 (G15 N) N live15 (cR (cR (cL (cL (cR (cL (cL (cR (cL (cR (cR c15)))))))))))) (blockK 1 (seqK (exec T15 (G15 N) N live15 (cR (cR (cL (cL (cR (cL (cR (cR c15))))))))) (roundK (fun s => loopN (lookN live15 3) (exec T15 (G15 N) N live15 (cL (cL (cR (cL (cR (cR c15))))))) m0 s (blockK 0 (seqK (exec T15 (G15 N) N live15 (cR (cR (cR c15)))) (retK T15 Tryd.f15.results.toList (rd15).dec)))) (lookN live15 3) (blockK 0 (seqK (exec T15 (G15 N) N live15 (cR (cR (cR c15)))) (retK T15 Tryd.f15.results.toList (rd15).dec))))))))
noncomputable def s15_1 (N : Nat) (Ln1 : List Int → List Int → Int → Int → Int → List Int → Option (List Int)) (Ln0 : List Int → List Int → Int → List Int → Option (List Int)) (v0 : List Int) (v1 : List Int) (v2 : Int) (v3 : Int) (v4 : Int) (v5 : List Int) : Option (List Int) :=
  cond (ltI v4 (v1.length : Int))
   (cond (leI 0 (addI .i64 v2 v4))
    (cond (ltI (addI .i64 v2 v4) (v5.length : Int))
     (cond (leI 0 v2)
      (cond (ltI v2 (v0.length : Int))
       (cond (leI 0 v4)
        (cond (ltI v4 (v1.length : Int))
         (cond (leI 0 (addI .i64 v2 v4))
          (cond (ltI (addI .i64 v2 v4) (v5.length : Int))
           (Ln1 v0 v1 v2 (quoI .u64 (addI .u64 (addI .u64 v3 (cvI .u64 (lrd v5 (addI .i64 v2 v4)))) (mulI .u64 (cvI .u64 (lrd v0 v2)) (cvI .u64 (lrd v1 v4)))) 65536) (addI .i64 v4 1) (v5.set ((addI .i64 v2 v4).toNat) (cvI .u32 (remI .u64 (addI .u64 (addI .u64 v3 (cvI .u64 (lrd v5 (addI .i64 v2 v4)))) (mulI .u64 (cvI .u64 (lrd v0 v2)) (cvI .u64 (lrd v1 v4)))) 65536))))
           (none))
          (none))
         (none))
        (none))
       (none))
      (none))
     (none))
    (none))
   (cond (leI 0 (addI .i64 v2 (v1.length : Int)))
    (cond (ltI (addI .i64 v2 (v1.length : Int)) (v5.length : Int))
     (Ln0 v0 v1 (addI .i64 v2 1) (v5.set ((addI .i64 v2 (v1.length : Int)).toNat) (cvI .u32 v3)))
     (none))
    (none))
theorem step15_1 (N : Nat) (m0 : Nat) (n : Nat) (v0 : List Int) (v1 : List Int) (v2 : Int) (v3 : Int) (v4 : Int) (v5 : List Int) : raw15_1 N m0 (n + 1) v0 v1 v2 v3 v4 v5 = s15_1 N (raw15_1 N m0 n) (raw15_0 N  m0) v0 v1 v2 v3 v4 v5 := by kernel_rfl
noncomputable def l15_1 (N : Nat) (E0 : List Int → List Int → Int → List Int → Option (List Int)) : Nat → List Int → List Int → Int → Int → Int → List Int → Option (List Int)
  | 0 => fun _ _ _ _ _ _ => none
  | n + 1 => fun v0 v1 v2 v3 v4 v5 => s15_1 N (l15_1 N E0 n) E0 v0 v1 v2 v3 v4 v5
theorem eq15_1 (N : Nat) (m0 : Nat) : ∀ n, raw15_1 N m0 n = l15_1 N (raw15_0 N  m0) n := by
  intro n
  induction n with
  | zero => exact funext fun v0 => funext fun v1 => funext fun v2 => funext fun v3 => funext fun v4 => funext fun v5 => rfl
  | succ n ih => exact funext fun v0 => funext fun v1 => funext fun v2 => funext fun v3 => funext fun v4 => funext fun v5 => by rw [step15_1, ih]; rfl
noncomputable def s15_0 (N : Nat) (Le1 : List Int → List Int → Int → Int → Int → List Int → Option (List Int)) (v0 : List Int) (v1 : List Int) (v2 : Int) (v3 : List Int) : Option (List Int) :=
  cond (ltI v2 (v0.length : Int))
   (Le1 v0 v1 v2 0 0 v3)
   ((fn_tillerref02_trim N v3).bind fun r1 =>
    some r1)
theorem step15_0 (N : Nat) (n : Nat) (v0 : List Int) (v1 : List Int) (v2 : Int) (v3 : List Int) : raw15_0 N  (n + 1) v0 v1 v2 v3 = s15_0 N (raw15_1 N n N) v0 v1 v2 v3 := by kernel_rfl
noncomputable def l15_0 (N : Nat) : Nat → List Int → List Int → Int → List Int → Option (List Int)
  | 0 => fun _ _ _ _ => none
  | n + 1 => fun v0 v1 v2 v3 => s15_0 N (l15_1 N (l15_0 N  n) N) v0 v1 v2 v3
theorem eq15_0 (N : Nat) : ∀ n, raw15_0 N  n = l15_0 N  n := by
  intro n
  induction n with
  | zero => exact funext fun v0 => funext fun v1 => funext fun v2 => funext fun v3 => rfl
  | succ n ih => exact funext fun v0 => funext fun v1 => funext fun v2 => funext fun v3 => by rw [step15_0, eq15_1 N n N, ih]; rfl
noncomputable def t15 (N : Nat) (Le0 : List Int → List Int → Int → List Int → Option (List Int)) (x0 : List Int) (x1 : List Int) : Option (List Int) :=
  cond (leI 0 (addI .i64 (x0.length : Int) (x1.length : Int)))
   (cond (leI (addI .i64 (x0.length : Int) (x1.length : Int)) 17592186044416)
    (Le0 x0 x1 0 (List.replicate ((addI .i64 (x0.length : Int) (x1.length : Int)).toNat) (0 : Int)))
    (none))
   (none)
noncomputable def fn_tillerref02_Mul (N : Nat) (x0 : List Int) (x1 : List Int) : Option (List Int) := t15 N (l15_0 N N) x0 x1
theorem run15 (N : Nat) (x0 : List Int) (x1 : List Int) : Eng.run T15 (G15 N) N live15 c15 Tryd.f15.results.toList Tryd.f15.ntmps ((ad15).enc (x0, x1, ())) (rd15).dec = fn_tillerref02_Mul N x0 x1 := by
  refine Eq.trans (show _ = t15 N (raw15_0 N N) x0 x1 from by kernel_rfl) ?_
  unfold fn_tillerref02_Mul
  rw [eq15_0 N N]
noncomputable def F15 (N : Nat) (a : List Int × List Int × Unit) : Option (List Int) := fn_tillerref02_Mul N a.1 a.2.1
theorem ok15 (N : Nat) : FnOK Tryd.prog 15 ad15 rd15 (F15 N) :=
  fn_ok (N := N) (live := live15) (code := c15) (tok T15.rt T15.kl (wrNil_ok)) mixed (gok15 N) Tryd.func15 (by kernel_rfl) (by kernel_rfl) (by kernel_rfl) fun a p h => by rw [← h]; exact run15 N a.1 a.2.1

/-! ### tiller/tillerref02.Words: function 14 -/
noncomputable def c14 : Code := (Tryd.f14.body).getD .skip
noncomputable def T14 : Tb := ⟨tyOf tys, [], [], wrNil⟩
noncomputable def G14 {R : Type} (N : Nat) : FuncId → List AV → (AV → Option R) → Option R := gNil
theorem gok14 {R : Type} (N : Nat) : GOK Tryd.prog (G14 (R := R) N) := gNil_ok
noncomputable def live14 : List (Nat × List (Nat × HK)) := [(3, [(0, .keep), (3, .row .u32 36), (4, .keep)])]
noncomputable def ad14 : Ad (List Int × Unit) := aC (cLi .u32) (a0)
noncomputable def rd14 : Rd (List Int) := r1 (cLi .u32)
noncomputable def st14_0 (v0 : List Int) (v1 : Int) (v2 : List Int) : St := ⟨[AV.li .u32 v0, AV.none, AV.none, AV.own 3, AV.v (.int .i64 v1), AV.none, AV.none, AV.none, AV.none, AV.none, AV.none, AV.none, AV.none, AV.none, AV.none, AV.none, AV.none, AV.none, AV.none, AV.none, AV.none, AV.none, AV.none, AV.none, AV.none, AV.none, AV.none, AV.none, AV.none, AV.none, AV.none, AV.none, AV.none, AV.none], [none, none, none, some (OB.row .u32 36 v2), none, none, none, none, none, none, none, none, none, none, none, none, none, none, none, none, none, none, none, none, none, none, none, none, none, none, none, none, none, none]⟩
noncomputable def raw14_0 (N : Nat) (n : Nat) (v0 : List Int) (v1 : Int) (v2 : List Int) : Option (List Int) := loopN (lookN live14 3) (exec T14 (G14 N) N live14 (cL (cL (cR (cL (cR (cR c14))))))) n (st14_0 v0 v1 v2) (blockK 0 (seqK (exec T14 (G14 N) N live14 (cR (cR (cR c14)))) (retK T14 Tryd.f14.results.toList (rd14).dec)))
noncomputable def s14_0 (N : Nat) (Ln0 : List Int → Int → List Int → Option (List Int)) (v0 : List Int) (v1 : Int) (v2 : List Int) : Option (List Int) :=
  cond (ltI v1 (v0.length : Int))
   (cond (leI 0 v1)
    (cond (ltI v1 (v0.length : Int))
     (cond (ltI (addI .i64 v1 1) (v0.length : Int))
      (cond (leI 0 (addI .i64 v1 1))
       (cond (ltI (addI .i64 v1 1) (v0.length : Int))
        (cond (fitL (v2.length + [addI .u32 (lrd v0 v1) (mulI .u32 65536 (lrd v0 (addI .i64 v1 1)))].length))
         (Ln0 v0 (addI .i64 v1 2) (v2 ++ [addI .u32 (lrd v0 v1) (mulI .u32 65536 (lrd v0 (addI .i64 v1 1)))]))
         (none))
        (none))
       (none))
      (cond (fitL (v2.length + [lrd v0 v1].length))
       (Ln0 v0 (addI .i64 v1 2) (v2 ++ [lrd v0 v1]))
       (none)))
     (none))
    (none))
   (some v2)
theorem step14_0 (N : Nat) (n : Nat) (v0 : List Int) (v1 : Int) (v2 : List Int) : raw14_0 N  (n + 1) v0 v1 v2 = s14_0 N (raw14_0 N  n) v0 v1 v2 := by kernel_rfl
noncomputable def l14_0 (N : Nat) : Nat → List Int → Int → List Int → Option (List Int)
  | 0 => fun _ _ _ => none
  | n + 1 => fun v0 v1 v2 => s14_0 N (l14_0 N  n) v0 v1 v2
theorem eq14_0 (N : Nat) : ∀ n, raw14_0 N  n = l14_0 N  n := by
  intro n
  induction n with
  | zero => exact funext fun v0 => funext fun v1 => funext fun v2 => rfl
  | succ n ih => exact funext fun v0 => funext fun v1 => funext fun v2 => by rw [step14_0, ih]; rfl
noncomputable def t14 (N : Nat) (Le0 : List Int → Int → List Int → Option (List Int)) (x0 : List Int) : Option (List Int) :=
  Le0 x0 0 []
noncomputable def fn_tillerref02_Words (N : Nat) (x0 : List Int) : Option (List Int) := t14 N (l14_0 N N) x0
theorem run14 (N : Nat) (x0 : List Int) : Eng.run T14 (G14 N) N live14 c14 Tryd.f14.results.toList Tryd.f14.ntmps ((ad14).enc (x0, ())) (rd14).dec = fn_tillerref02_Words N x0 := by
  refine Eq.trans (show _ = t14 N (raw14_0 N N) x0 from by kernel_rfl) ?_
  unfold fn_tillerref02_Words
  rw [eq14_0 N N]
noncomputable def F14 (N : Nat) (a : List Int × Unit) : Option (List Int) := fn_tillerref02_Words N a.1
theorem ok14 (N : Nat) : FnOK Tryd.prog 14 ad14 rd14 (F14 N) :=
  fn_ok (N := N) (live := live14) (code := c14) (tok T14.rt T14.kl (wrNil_ok)) mixed (gok14 N) Tryd.func14 (by kernel_rfl) (by kernel_rfl) (by kernel_rfl) fun a p h => by rw [← h]; exact run14 N a.1

/-! ### tiller/tillerlaw02.words: function 13 -/
noncomputable def c13 : Code := (Tryd.f13.body).getD .skip
noncomputable def T13 : Tb := ⟨tyOf tys, [], [], wrNil⟩
noncomputable def G13 {R : Type} (N : Nat) : FuncId → List AV → (AV → Option R) → Option R := gNil
theorem gok13 {R : Type} (N : Nat) : GOK Tryd.prog (G13 (R := R) N) := gNil_ok
noncomputable def live13 : List (Nat × List (Nat × HK)) := [(4, [(0, .keep), (1, .keep), (5, .keep)])]
noncomputable def ad13 : Ad (List Int × List Int × Unit) := aC (cLi .u32) (aC (cLi .u32) (a0))
noncomputable def rd13 : Rd (Bool) := r1 (cBool)
noncomputable def st13_0 (v0 : List Int) (v1 : List Int) (v2 : Int) : St := ⟨[AV.li .u32 v0, AV.li .u32 v1, AV.none, AV.none, AV.none, AV.v (.int .i64 v2), AV.none, AV.none, AV.none, AV.none, AV.none, AV.none, AV.none, AV.none, AV.none, AV.none, AV.none, AV.none, AV.none, AV.none, AV.none, AV.none, AV.none, AV.none, AV.none, AV.none], [none, none, none, none, none, none, none, none, none, none, none, none, none, none, none, none, none, none, none, none, none, none, none, none, none, none]⟩
noncomputable def raw13_0 (N : Nat) (n : Nat) (v0 : List Int) (v1 : List Int) (v2 : Int) : Option (Bool) := loopN (lookN live13 4) (exec T13 (G13 N) N live13 (cL (cL (cR (cL (cR (cR c13))))))) n (st13_0 v0 v1 v2) (blockK 0 (seqK (exec T13 (G13 N) N live13 (cR (cR (cR c13)))) (retK T13 Tryd.f13.results.toList (rd13).dec)))
noncomputable def s13_0 (N : Nat) (Ln0 : List Int → List Int → Int → Option (Bool)) (v0 : List Int) (v1 : List Int) (v2 : Int) : Option (Bool) :=
  cond (ltI v2 (v0.length : Int))
   (cond (leI 0 v2)
    (cond (ltI v2 (v0.length : Int))
     (cond (leI 0 v2)
      (cond (ltI v2 (v1.length : Int))
       (cond (!(eqI (lrd v0 v2) (lrd v1 v2)))
        (some false)
        (Ln0 v0 v1 (addI .i64 v2 1)))
       (none))
      (none))
     (none))
    (none))
   (some true)
theorem step13_0 (N : Nat) (n : Nat) (v0 : List Int) (v1 : List Int) (v2 : Int) : raw13_0 N  (n + 1) v0 v1 v2 = s13_0 N (raw13_0 N  n) v0 v1 v2 := by kernel_rfl
noncomputable def l13_0 (N : Nat) : Nat → List Int → List Int → Int → Option (Bool)
  | 0 => fun _ _ _ => none
  | n + 1 => fun v0 v1 v2 => s13_0 N (l13_0 N  n) v0 v1 v2
theorem eq13_0 (N : Nat) : ∀ n, raw13_0 N  n = l13_0 N  n := by
  intro n
  induction n with
  | zero => exact funext fun v0 => funext fun v1 => funext fun v2 => rfl
  | succ n ih => exact funext fun v0 => funext fun v1 => funext fun v2 => by rw [step13_0, ih]; rfl
noncomputable def t13 (N : Nat) (Le0 : List Int → List Int → Int → Option (Bool)) (x0 : List Int) (x1 : List Int) : Option (Bool) :=
  cond (!(eqI (x0.length : Int) (x1.length : Int)))
   (some false)
   (Le0 x0 x1 0)
noncomputable def fn_tillerlaw02_words (N : Nat) (x0 : List Int) (x1 : List Int) : Option (Bool) := t13 N (l13_0 N N) x0 x1
theorem run13 (N : Nat) (x0 : List Int) (x1 : List Int) : Eng.run T13 (G13 N) N live13 c13 Tryd.f13.results.toList Tryd.f13.ntmps ((ad13).enc (x0, x1, ())) (rd13).dec = fn_tillerlaw02_words N x0 x1 := by
  refine Eq.trans (show _ = t13 N (raw13_0 N N) x0 x1 from by kernel_rfl) ?_
  unfold fn_tillerlaw02_words
  rw [eq13_0 N N]
noncomputable def F13 (N : Nat) (a : List Int × List Int × Unit) : Option (Bool) := fn_tillerlaw02_words N a.1 a.2.1
theorem ok13 (N : Nat) : FnOK Tryd.prog 13 ad13 rd13 (F13 N) :=
  fn_ok (N := N) (live := live13) (code := c13) (tok T13.rt T13.kl (wrNil_ok)) mixed (gok13 N) Tryd.func13 (by kernel_rfl) (by kernel_rfl) (by kernel_rfl) fun a p h => by rw [← h]; exact run13 N a.1 a.2.1

/-! ### tiller/nat.up: function 41 -/
noncomputable def c41 : Code := (Tryd.f41.body).getD .skip
noncomputable def T41 : Tb := ⟨tyOf tys, [(38, 5), (43, 5), (53, 5)], [56], wrNil⟩
noncomputable def G41 {R : Type} (N : Nat) : FuncId → List AV → (AV → Option R) → Option R := gCons 55 (gOf ad55 rd55 (F55 N)) (gNil)
theorem gok41 {R : Type} (N : Nat) : GOK Tryd.prog (G41 (R := R) N) := gCons_ok (ok55 N) (gNil_ok)
noncomputable def live41 : List (Nat × List (Nat × HK)) := [(6, [(1, .keep), (5, .row .u32 36), (6, .keep), (22, .keep), (23, .keep), (24, .keep)])]
noncomputable def ad41 : Ad (List Int × Int × Unit) := aC (cLi .u32) (aC (cInt .i64) (a0))
noncomputable def rd41 : Rd (List Int) := r1 (cLi .u32)
noncomputable def st41_0 (v0 : Int) (v1 : Int) (v2 : List Int) (v3 : Int) (v4 : Int) (v5 : List Int) : St := ⟨[AV.none, AV.v (.int .i64 v0), AV.none, AV.none, AV.none, AV.own 5, AV.v (.int .i64 v1), AV.none, AV.none, AV.none, AV.none, AV.none, AV.none, AV.none, AV.none, AV.none, AV.none, AV.none, AV.none, AV.none, AV.none, AV.none, AV.li .u32 v2, AV.v (.int .i64 v3), AV.v (.int .i64 v4), AV.none, AV.none, AV.none, AV.none, AV.none, AV.none, AV.none, AV.none, AV.none, AV.none, AV.none, AV.none, AV.none, AV.none, AV.none, AV.none, AV.none, AV.none, AV.none, AV.none, AV.none, AV.none, AV.none, AV.none, AV.none, AV.none, AV.none, AV.none, AV.none, AV.none, AV.none, AV.none], [none, none, none, none, none, some (OB.row .u32 36 v5), none, none, none, none, none, none, none, none, none, none, none, none, none, none, none, none, none, none, none, none, none, none, none, none, none, none, none, none, none, none, none, none, none, none, none, none, none, none, none, none, none, none, none, none, none, none, none, none, none, none, none]⟩
noncomputable def raw41_0 (N : Nat) (n : Nat) (v0 : Int) (v1 : Int) (v2 : List Int) (v3 : Int) (v4 : Int) (v5 : List Int) : Option (List Int) := loopN (lookN live41 6) (exec T41 (G41 N) N live41 (cL (cL (cR (cL (cR (cR (cR (cR c41))))))))) n (st41_0 v0 v1 v2 v3 v4 v5) (blockK 0 (seqK (exec T41 (G41 N) N live41 (cR (cR (cR (cR (cR c41)))))) (retK T41 Tryd.f41.results.toList (rd41).dec)))
noncomputable def s41_0 (N : Nat) (Ln0 : Int → Int → List Int → Int → Int → List Int → Option (List Int)) (v0 : Int) (v1 : Int) (v2 : List Int) (v3 : Int) (v4 : Int) (v5 : List Int) : Option (List Int) :=
  cond (ltI v4 v3)
   (cond (leI 0 v4)
    (cond (ltI v4 (v2.length : Int))
     (cond (ltI v1 0)
      (none)
      (cond (leI 0 (addI .i64 v4 (quoI .i64 v0 32)))
       (cond (ltI (addI .i64 v4 (quoI .i64 v0 32)) (v5.length : Int))
        (cond (leI 0 (addI .i64 v4 (quoI .i64 v0 32)))
         (cond (ltI (addI .i64 v4 (quoI .i64 v0 32)) (v5.length : Int))
          (cond (leI 0 (addI .i64 (addI .i64 v4 (quoI .i64 v0 32)) 1))
           (cond (ltI (addI .i64 (addI .i64 v4 (quoI .i64 v0 32)) 1) ((v5.set ((addI .i64 v4 (quoI .i64 v0 32)).toNat) (orI .u32 (lrd v5 (addI .i64 v4 (quoI .i64 v0 32))) (cvI .u32 (shlI .u64 (cvI .u64 (lrd v2 v4)) v1)))).length : Int))
            (Ln0 v0 v1 v2 v3 (addI .i64 v4 1) ((v5.set ((addI .i64 v4 (quoI .i64 v0 32)).toNat) (orI .u32 (lrd v5 (addI .i64 v4 (quoI .i64 v0 32))) (cvI .u32 (shlI .u64 (cvI .u64 (lrd v2 v4)) v1)))).set ((addI .i64 (addI .i64 v4 (quoI .i64 v0 32)) 1).toNat) (cvI .u32 (shrI .u64 (shlI .u64 (cvI .u64 (lrd v2 v4)) v1) 32))))
            (none))
           (none))
          (none))
         (none))
        (none))
       (none)))
     (none))
    (none))
   ((fn_nat_trim N v5).bind fun r1 =>
    some r1)
theorem step41_0 (N : Nat) (n : Nat) (v0 : Int) (v1 : Int) (v2 : List Int) (v3 : Int) (v4 : Int) (v5 : List Int) : raw41_0 N  (n + 1) v0 v1 v2 v3 v4 v5 = s41_0 N (raw41_0 N  n) v0 v1 v2 v3 v4 v5 := by kernel_rfl
noncomputable def l41_0 (N : Nat) : Nat → Int → Int → List Int → Int → Int → List Int → Option (List Int)
  | 0 => fun _ _ _ _ _ _ => none
  | n + 1 => fun v0 v1 v2 v3 v4 v5 => s41_0 N (l41_0 N  n) v0 v1 v2 v3 v4 v5
theorem eq41_0 (N : Nat) : ∀ n, raw41_0 N  n = l41_0 N  n := by
  intro n
  induction n with
  | zero => exact funext fun v0 => funext fun v1 => funext fun v2 => funext fun v3 => funext fun v4 => funext fun v5 => rfl
  | succ n ih => exact funext fun v0 => funext fun v1 => funext fun v2 => funext fun v3 => funext fun v4 => funext fun v5 => by rw [step41_0, ih]; rfl
noncomputable def t41 (N : Nat) (Le0 : Int → Int → List Int → Int → Int → List Int → Option (List Int)) (x0 : List Int) (x1 : Int) : Option (List Int) :=
  cond (eqI (x0.length : Int) 0)
   (some [])
   (cond (leI 0 (addI .i64 (addI .i64 (x0.length : Int) (quoI .i64 x1 32)) 1))
    (cond (leI (addI .i64 (addI .i64 (x0.length : Int) (quoI .i64 x1 32)) 1) 17592186044416)
     (Le0 x1 (remI .i64 x1 32) x0 (x0.length : Int) 0 (List.replicate ((addI .i64 (addI .i64 (x0.length : Int) (quoI .i64 x1 32)) 1).toNat) (0 : Int)))
     (none))
    (none))
noncomputable def fn_nat_up (N : Nat) (x0 : List Int) (x1 : Int) : Option (List Int) := t41 N (l41_0 N N) x0 x1
theorem run41 (N : Nat) (x0 : List Int) (x1 : Int) : Eng.run T41 (G41 N) N live41 c41 Tryd.f41.results.toList Tryd.f41.ntmps ((ad41).enc (x0, x1, ())) (rd41).dec = fn_nat_up N x0 x1 := by
  refine Eq.trans (show _ = t41 N (raw41_0 N N) x0 x1 from by kernel_rfl) ?_
  unfold fn_nat_up
  rw [eq41_0 N N]
noncomputable def F41 (N : Nat) (a : List Int × Int × Unit) : Option (List Int) := fn_nat_up N a.1 a.2.1
theorem ok41 (N : Nat) : FnOK Tryd.prog 41 ad41 rd41 (F41 N) :=
  fn_ok (N := N) (live := live41) (code := c41) (tok T41.rt T41.kl (wrNil_ok)) mixed (gok41 N) Tryd.func41 (by kernel_rfl) (by kernel_rfl) (by kernel_rfl) fun a p h => by rw [← h]; exact run41 N a.1 a.2.1

/-! ### tiller/nat.Shl: function 18 -/
noncomputable def c18 : Code := (Tryd.f18.body).getD .skip
noncomputable def T18 : Tb := ⟨tyOf tys, [], [], wrNil⟩
noncomputable def G18 {R : Type} (N : Nat) : FuncId → List AV → (AV → Option R) → Option R := gCons 30 (gOf ad30 rd30 (F30 N)) (gCons 41 (gOf ad41 rd41 (F41 N)) (gCons 36 (gOf ad36 rd36 (F36 N)) (gNil)))
theorem gok18 {R : Type} (N : Nat) : GOK Tryd.prog (G18 (R := R) N) := gCons_ok (ok30 N) (gCons_ok (ok41 N) (gCons_ok (ok36 N) (gNil_ok)))
noncomputable def live18 : List (Nat × List (Nat × HK)) := []
noncomputable def ad18 : Ad (List Int × Int × Unit) := aC (cLi .u32) (aC (cInt .i64) (a0))
noncomputable def rd18 : Rd (List Int × Option Int) := r2 (cLi .u32) (cErr 60)
noncomputable def fn_nat_Shl (N : Nat) (x0 : List Int) (x1 : Int) : Option (List Int × Option Int) :=
  (fn_nat_Check N x0).bind fun r1 =>
   cond (!(isNoneI r1))
    (some ([], some 1))
    (cond (ltI x1 0)
     (some ([], some 1))
     (cond (eqI (x0.length : Int) 0)
      (some ([], none))
      (cond (ltI 262144 x1)
       (some ([], some 2))
       ((fn_nat_up N x0 x1).bind fun r2 =>
        (fn_nat_bounded N r2).bind fun r3 =>
         some (r3.1, r3.2)))))
theorem run18 (N : Nat) (x0 : List Int) (x1 : Int) : Eng.run T18 (G18 N) N live18 c18 Tryd.f18.results.toList Tryd.f18.ntmps ((ad18).enc (x0, x1, ())) (rd18).dec = fn_nat_Shl N x0 x1 := by kernel_rfl
noncomputable def F18 (N : Nat) (a : List Int × Int × Unit) : Option (List Int × Option Int) := fn_nat_Shl N a.1 a.2.1
theorem ok18 (N : Nat) : FnOK Tryd.prog 18 ad18 rd18 (F18 N) :=
  fn_ok (N := N) (live := live18) (code := c18) (tok T18.rt T18.kl (wrNil_ok)) mixed (gok18 N) Tryd.func18 (by kernel_rfl) (by kernel_rfl) (by kernel_rfl) fun a p h => by rw [← h]; exact run18 N a.1 a.2.1

/-! ### tiller/tillerref02.Len: function 20 -/
noncomputable def c20 : Code := (Tryd.f20.body).getD .skip
noncomputable def T20 : Tb := ⟨tyOf tys, [], [], wrNil⟩
noncomputable def G20 {R : Type} (N : Nat) : FuncId → List AV → (AV → Option R) → Option R := gNil
theorem gok20 {R : Type} (N : Nat) : GOK Tryd.prog (G20 (R := R) N) := gNil_ok
noncomputable def live20 : List (Nat × List (Nat × HK)) := [(5, [(3, .keep), (4, .keep)])]
noncomputable def ad20 : Ad (List Int × Unit) := aC (cLi .u32) (a0)
noncomputable def rd20 : Rd (Int) := r1 (cInt .i64)
noncomputable def st20_0 (v0 : Int) (v1 : Int) : St := ⟨[AV.none, AV.none, AV.none, AV.v (.int .i64 v0), AV.v (.int .u32 v1), AV.none, AV.none, AV.none, AV.none, AV.none, AV.none, AV.none, AV.none, AV.none, AV.none, AV.none, AV.none, AV.none, AV.none, AV.none, AV.none, AV.none, AV.none, AV.none, AV.none], [none, none, none, none, none, none, none, none, none, none, none, none, none, none, none, none, none, none, none, none, none, none, none, none, none]⟩
noncomputable def raw20_0 (N : Nat) (n : Nat) (v0 : Int) (v1 : Int) : Option (Int) := loopN (lookN live20 5) (exec T20 (G20 N) N live20 (cL (cL (cR (cL (cR (cR (cR c20)))))))) n (st20_0 v0 v1) (blockK 0 (seqK (exec T20 (G20 N) N live20 (cR (cR (cR (cR c20))))) (retK T20 Tryd.f20.results.toList (rd20).dec)))
noncomputable def s20_0 (N : Nat) (Ln0 : Int → Int → Option (Int)) (v0 : Int) (v1 : Int) : Option (Int) :=
  cond (ltI 0 v1)
   (Ln0 (addI .i64 v0 1) (quoI .u32 v1 2))
   (some v0)
theorem step20_0 (N : Nat) (n : Nat) (v0 : Int) (v1 : Int) : raw20_0 N  (n + 1) v0 v1 = s20_0 N (raw20_0 N  n) v0 v1 := by kernel_rfl
noncomputable def l20_0 (N : Nat) : Nat → Int → Int → Option (Int)
  | 0 => fun _ _ => none
  | n + 1 => fun v0 v1 => s20_0 N (l20_0 N  n) v0 v1
theorem eq20_0 (N : Nat) : ∀ n, raw20_0 N  n = l20_0 N  n := by
  intro n
  induction n with
  | zero => exact funext fun v0 => funext fun v1 => rfl
  | succ n ih => exact funext fun v0 => funext fun v1 => by rw [step20_0, ih]; rfl
noncomputable def t20 (N : Nat) (Le0 : Int → Int → Option (Int)) (x0 : List Int) : Option (Int) :=
  cond (eqI (x0.length : Int) 0)
   (some 0)
   (cond (leI 0 (subI .i64 (x0.length : Int) 1))
    (cond (ltI (subI .i64 (x0.length : Int) 1) (x0.length : Int))
     (Le0 (mulI .i64 16 (subI .i64 (x0.length : Int) 1)) (lrd x0 (subI .i64 (x0.length : Int) 1)))
     (none))
    (none))
noncomputable def fn_tillerref02_Len (N : Nat) (x0 : List Int) : Option (Int) := t20 N (l20_0 N N) x0
theorem run20 (N : Nat) (x0 : List Int) : Eng.run T20 (G20 N) N live20 c20 Tryd.f20.results.toList Tryd.f20.ntmps ((ad20).enc (x0, ())) (rd20).dec = fn_tillerref02_Len N x0 := by
  refine Eq.trans (show _ = t20 N (raw20_0 N N) x0 from by kernel_rfl) ?_
  unfold fn_tillerref02_Len
  rw [eq20_0 N N]
noncomputable def F20 (N : Nat) (a : List Int × Unit) : Option (Int) := fn_tillerref02_Len N a.1
theorem ok20 (N : Nat) : FnOK Tryd.prog 20 ad20 rd20 (F20 N) :=
  fn_ok (N := N) (live := live20) (code := c20) (tok T20.rt T20.kl (wrNil_ok)) mixed (gok20 N) Tryd.func20 (by kernel_rfl) (by kernel_rfl) (by kernel_rfl) fun a p h => by rw [← h]; exact run20 N a.1

/-! ### tiller/tillerref02.at: function 53 -/
noncomputable def c53 : Code := (Tryd.f53.body).getD .skip
noncomputable def T53 : Tb := ⟨tyOf tys, [], [], wrNil⟩
noncomputable def G53 {R : Type} (N : Nat) : FuncId → List AV → (AV → Option R) → Option R := gNil
theorem gok53 {R : Type} (N : Nat) : GOK Tryd.prog (G53 (R := R) N) := gNil_ok
noncomputable def live53 : List (Nat × List (Nat × HK)) := []
noncomputable def ad53 : Ad (List Int × Int × Unit) := aC (cLi .u32) (aC (cInt .i64) (a0))
noncomputable def rd53 : Rd (Int) := r1 (cInt .u32)
noncomputable def fn_tillerref02_at (N : Nat) (x0 : List Int) (x1 : Int) : Option (Int) :=
  cond (leI 0 x1)
   (cond (ltI x1 (x0.length : Int))
    (cond (leI 0 x1)
     (cond (ltI x1 (x0.length : Int))
      (some (lrd x0 x1))
      (none))
     (none))
    (some 0))
   (some 0)
theorem run53 (N : Nat) (x0 : List Int) (x1 : Int) : Eng.run T53 (G53 N) N live53 c53 Tryd.f53.results.toList Tryd.f53.ntmps ((ad53).enc (x0, x1, ())) (rd53).dec = fn_tillerref02_at N x0 x1 := by kernel_rfl
noncomputable def F53 (N : Nat) (a : List Int × Int × Unit) : Option (Int) := fn_tillerref02_at N a.1 a.2.1
theorem ok53 (N : Nat) : FnOK Tryd.prog 53 ad53 rd53 (F53 N) :=
  fn_ok (N := N) (live := live53) (code := c53) (tok T53.rt T53.kl (wrNil_ok)) mixed (gok53 N) Tryd.func53 (by kernel_rfl) (by kernel_rfl) (by kernel_rfl) fun a p h => by rw [← h]; exact run53 N a.1 a.2.1

/-! ### tiller/tillerref02.Small: function 43 -/
noncomputable def c43 : Code := (Tryd.f43.body).getD .skip
noncomputable def T43 : Tb := ⟨tyOf tys, [], [40], wrNil⟩
noncomputable def G43 {R : Type} (N : Nat) : FuncId → List AV → (AV → Option R) → Option R := gCons 53 (gOf ad53 rd53 (F53 N)) (gCons 39 (gOf ad39 rd39 (F39 N)) (gNil))
theorem gok43 {R : Type} (N : Nat) : GOK Tryd.prog (G43 (R := R) N) := gCons_ok (ok53 N) (gCons_ok (ok39 N) (gNil_ok))
noncomputable def live43 : List (Nat × List (Nat × HK)) := [(4, [(0, .keep), (1, .keep), (7, .row .u32 36), (8, .keep), (9, .keep)])]
noncomputable def ad43 : Ad (List Int × Int × Int × Unit) := aC (cLi .u32) (aC (cInt .u32) (aC (cInt .u32) (a0)))
noncomputable def rd43 : Rd (List Int) := r1 (cLi .u32)
noncomputable def st43_0 (v0 : List Int) (v1 : Int) (v2 : Int) (v3 : Int) (v4 : List Int) : St := ⟨[AV.li .u32 v0, AV.v (.int .u32 v1), AV.none, AV.none, AV.none, AV.none, AV.none, AV.own 7, AV.v (.int .u64 v2), AV.v (.int .i64 v3), AV.none, AV.none, AV.none, AV.none, AV.none, AV.none, AV.none, AV.none, AV.none, AV.none, AV.none, AV.none, AV.none, AV.none, AV.none, AV.none, AV.none, AV.none, AV.none, AV.none, AV.none, AV.none, AV.none, AV.none, AV.none, AV.none, AV.none, AV.none, AV.none, AV.none, AV.none], [none, none, none, none, none, none, none, some (OB.row .u32 36 v4), none, none, none, none, none, none, none, none, none, none, none, none, none, none, none, none, none, none, none, none, none, none, none, none, none, none, none, none, none, none, none, none, none]⟩
noncomputable def raw43_0 (N : Nat) (n : Nat) (v0 : List Int) (v1 : Int) (v2 : Int) (v3 : Int) (v4 : List Int) : Option (List Int) := loopN (lookN live43 4) (exec T43 (G43 N) N live43 (cL (cL (cR (cL (cR (cR (cR c43)))))))) n (st43_0 v0 v1 v2 v3 v4) (blockK 0 (seqK (exec T43 (G43 N) N live43 (cR (cR (cR (cR c43))))) (retK T43 Tryd.f43.results.toList (rd43).dec)))
noncomputable def s43_0 (N : Nat) (Ln0 : List Int → Int → Int → Int → List Int → Option (List Int)) (v0 : List Int) (v1 : Int) (v2 : Int) (v3 : Int) (v4 : List Int) : Option (List Int) :=
  cond (ltI v3 (v0.length : Int))
   ((fn_tillerref02_at N v0 v3).bind fun r1 =>
    cond (fitL (v4.length + [cvI .u32 (remI .u64 (addI .u64 v2 (mulI .u64 (cvI .u64 r1) (cvI .u64 v1))) 65536)].length))
     (Ln0 v0 v1 (quoI .u64 (addI .u64 v2 (mulI .u64 (cvI .u64 r1) (cvI .u64 v1))) 65536) (addI .i64 v3 1) (v4 ++ [cvI .u32 (remI .u64 (addI .u64 v2 (mulI .u64 (cvI .u64 r1) (cvI .u64 v1))) 65536)]))
     (none))
   (cond (ltI 0 v2)
    ((fn_tillerref02_at N v0 v3).bind fun r2 =>
     cond (fitL (v4.length + [cvI .u32 (remI .u64 (addI .u64 v2 (mulI .u64 (cvI .u64 r2) (cvI .u64 v1))) 65536)].length))
      (Ln0 v0 v1 (quoI .u64 (addI .u64 v2 (mulI .u64 (cvI .u64 r2) (cvI .u64 v1))) 65536) (addI .i64 v3 1) (v4 ++ [cvI .u32 (remI .u64 (addI .u64 v2 (mulI .u64 (cvI .u64 r2) (cvI .u64 v1))) 65536)]))
      (none))
    ((fn_tillerref02_trim N v4).bind fun r3 =>
     some r3))
theorem step43_0 (N : Nat) (n : Nat) (v0 : List Int) (v1 : Int) (v2 : Int) (v3 : Int) (v4 : List Int) : raw43_0 N  (n + 1) v0 v1 v2 v3 v4 = s43_0 N (raw43_0 N  n) v0 v1 v2 v3 v4 := by kernel_rfl
noncomputable def l43_0 (N : Nat) : Nat → List Int → Int → Int → Int → List Int → Option (List Int)
  | 0 => fun _ _ _ _ _ => none
  | n + 1 => fun v0 v1 v2 v3 v4 => s43_0 N (l43_0 N  n) v0 v1 v2 v3 v4
theorem eq43_0 (N : Nat) : ∀ n, raw43_0 N  n = l43_0 N  n := by
  intro n
  induction n with
  | zero => exact funext fun v0 => funext fun v1 => funext fun v2 => funext fun v3 => funext fun v4 => rfl
  | succ n ih => exact funext fun v0 => funext fun v1 => funext fun v2 => funext fun v3 => funext fun v4 => by rw [step43_0, ih]; rfl
noncomputable def t43 (N : Nat) (Le0 : List Int → Int → Int → Int → List Int → Option (List Int)) (x0 : List Int) (x1 : Int) (x2 : Int) : Option (List Int) :=
  Le0 x0 x1 (cvI .u64 x2) 0 []
noncomputable def fn_tillerref02_Small (N : Nat) (x0 : List Int) (x1 : Int) (x2 : Int) : Option (List Int) := t43 N (l43_0 N N) x0 x1 x2
theorem run43 (N : Nat) (x0 : List Int) (x1 : Int) (x2 : Int) : Eng.run T43 (G43 N) N live43 c43 Tryd.f43.results.toList Tryd.f43.ntmps ((ad43).enc (x0, x1, x2, ())) (rd43).dec = fn_tillerref02_Small N x0 x1 x2 := by
  refine Eq.trans (show _ = t43 N (raw43_0 N N) x0 x1 x2 from by kernel_rfl) ?_
  unfold fn_tillerref02_Small
  rw [eq43_0 N N]
noncomputable def F43 (N : Nat) (a : List Int × Int × Int × Unit) : Option (List Int) := fn_tillerref02_Small N a.1 a.2.1 a.2.2.1
theorem ok43 (N : Nat) : FnOK Tryd.prog 43 ad43 rd43 (F43 N) :=
  fn_ok (N := N) (live := live43) (code := c43) (tok T43.rt T43.kl (wrNil_ok)) mixed (gok43 N) Tryd.func43 (by kernel_rfl) (by kernel_rfl) (by kernel_rfl) fun a p h => by rw [← h]; exact run43 N a.1 a.2.1 a.2.2.1

/-! ### tiller/tillerref02.Pow: function 21 -/
noncomputable def c21 : Code := (Tryd.f21.body).getD .skip
noncomputable def T21 : Tb := ⟨tyOf tys, [], [15], wrNil⟩
noncomputable def G21 {R : Type} (N : Nat) : FuncId → List AV → (AV → Option R) → Option R := gCons 43 (gOf ad43 rd43 (F43 N)) (gNil)
theorem gok21 {R : Type} (N : Nat) : GOK Tryd.prog (G21 (R := R) N) := gCons_ok (ok43 N) (gNil_ok)
noncomputable def live21 : List (Nat × List (Nat × HK)) := [(3, [(0, .keep), (1, .keep), (5, .li .u32), (6, .keep)])]
noncomputable def ad21 : Ad (Int × Int × Unit) := aC (cInt .u32) (aC (cInt .i64) (a0))
noncomputable def rd21 : Rd (List Int) := r1 (cLi .u32)
noncomputable def st21_0 (v0 : Int) (v1 : Int) (v2 : List Int) (v3 : Int) : St := ⟨[AV.v (.int .u32 v0), AV.v (.int .i64 v1), AV.none, AV.none, AV.none, AV.li .u32 v2, AV.v (.int .i64 v3), AV.none, AV.none, AV.none, AV.none, AV.none, AV.none, AV.none, AV.none, AV.none, AV.none], [none, none, none, none, none, none, none, none, none, none, none, none, none, none, none, none, none]⟩
noncomputable def raw21_0 (N : Nat) (n : Nat) (v0 : Int) (v1 : Int) (v2 : List Int) (v3 : Int) : Option (List Int) := loopN (lookN live21 3) (exec T21 (G21 N) N live21 (cL (cL (cR (cL (cR (cR c21))))))) n (st21_0 v0 v1 v2 v3) (blockK 0 (seqK (exec T21 (G21 N) N live21 (cR (cR (cR c21)))) (retK T21 Tryd.f21.results.toList (rd21).dec)))
noncomputable def s21_0 (N : Nat) (Ln0 : Int → Int → List Int → Int → Option (List Int)) (v0 : Int) (v1 : Int) (v2 : List Int) (v3 : Int) : Option (List Int) :=
  cond (ltI v3 v1)
   ((fn_tillerref02_Small N v2 v0 0).bind fun r1 =>
    Ln0 v0 v1 r1 (addI .i64 v3 1))
   (some v2)
theorem step21_0 (N : Nat) (n : Nat) (v0 : Int) (v1 : Int) (v2 : List Int) (v3 : Int) : raw21_0 N  (n + 1) v0 v1 v2 v3 = s21_0 N (raw21_0 N  n) v0 v1 v2 v3 := by kernel_rfl
noncomputable def l21_0 (N : Nat) : Nat → Int → Int → List Int → Int → Option (List Int)
  | 0 => fun _ _ _ _ => none
  | n + 1 => fun v0 v1 v2 v3 => s21_0 N (l21_0 N  n) v0 v1 v2 v3
theorem eq21_0 (N : Nat) : ∀ n, raw21_0 N  n = l21_0 N  n := by
  intro n
  induction n with
  | zero => exact funext fun v0 => funext fun v1 => funext fun v2 => funext fun v3 => rfl
  | succ n ih => exact funext fun v0 => funext fun v1 => funext fun v2 => funext fun v3 => by rw [step21_0, ih]; rfl
noncomputable def t21 (N : Nat) (Le0 : Int → Int → List Int → Int → Option (List Int)) (x0 : Int) (x1 : Int) : Option (List Int) :=
  Le0 x0 x1 [1] 0
noncomputable def fn_tillerref02_Pow (N : Nat) (x0 : Int) (x1 : Int) : Option (List Int) := t21 N (l21_0 N N) x0 x1
theorem run21 (N : Nat) (x0 : Int) (x1 : Int) : Eng.run T21 (G21 N) N live21 c21 Tryd.f21.results.toList Tryd.f21.ntmps ((ad21).enc (x0, x1, ())) (rd21).dec = fn_tillerref02_Pow N x0 x1 := by
  refine Eq.trans (show _ = t21 N (raw21_0 N N) x0 x1 from by kernel_rfl) ?_
  unfold fn_tillerref02_Pow
  rw [eq21_0 N N]
noncomputable def F21 (N : Nat) (a : Int × Int × Unit) : Option (List Int) := fn_tillerref02_Pow N a.1 a.2.1
theorem ok21 (N : Nat) : FnOK Tryd.prog 21 ad21 rd21 (F21 N) :=
  fn_ok (N := N) (live := live21) (code := c21) (tok T21.rt T21.kl (wrNil_ok)) mixed (gok21 N) Tryd.func21 (by kernel_rfl) (by kernel_rfl) (by kernel_rfl) fun a p h => by rw [← h]; exact run21 N a.1 a.2.1

/-! ### tiller/tillerref02.Shl: function 22 -/
noncomputable def c22 : Code := (Tryd.f22.body).getD .skip
noncomputable def T22 : Tb := ⟨tyOf tys, [], [49], wrNil⟩
noncomputable def G22 {R : Type} (N : Nat) : FuncId → List AV → (AV → Option R) → Option R := gCons 39 (gOf ad39 rd39 (F39 N)) (gNil)
theorem gok22 {R : Type} (N : Nat) : GOK Tryd.prog (G22 (R := R) N) := gCons_ok (ok39 N) (gNil_ok)
noncomputable def live22 : List (Nat × List (Nat × HK)) := [(6, [(0, .keep), (1, .keep), (5, .row .u32 36), (6, .keep), (7, .keep)]), (11, [(0, .keep), (5, .row .u32 36), (6, .keep), (8, .keep), (9, .keep)])]
noncomputable def ad22 : Ad (List Int × Int × Unit) := aC (cLi .u32) (aC (cInt .i64) (a0))
noncomputable def rd22 : Rd (List Int) := r1 (cLi .u32)
noncomputable def st22_0 (v0 : List Int) (v1 : Int) (v2 : Int) (v3 : Int) (v4 : List Int) : St := ⟨[AV.li .u32 v0, AV.v (.int .i64 v1), AV.none, AV.none, AV.none, AV.own 5, AV.v (.int .u32 v2), AV.v (.int .i64 v3), AV.none, AV.none, AV.none, AV.none, AV.none, AV.none, AV.none, AV.none, AV.none, AV.none, AV.none, AV.none, AV.none, AV.none, AV.none, AV.none, AV.none, AV.none, AV.none, AV.none, AV.none, AV.none, AV.none, AV.none, AV.none, AV.none, AV.none, AV.none, AV.none, AV.none, AV.none, AV.none, AV.none, AV.none, AV.none, AV.none, AV.none, AV.none, AV.none, AV.none, AV.none, AV.none], [none, none, none, none, none, some (OB.row .u32 36 v4), none, none, none, none, none, none, none, none, none, none, none, none, none, none, none, none, none, none, none, none, none, none, none, none, none, none, none, none, none, none, none, none, none, none, none, none, none, none, none, none, none, none, none, none]⟩
noncomputable def raw22_0 (N : Nat) (n : Nat) (v0 : List Int) (v1 : Int) (v2 : Int) (v3 : Int) (v4 : List Int) : Option (List Int) := loopN (lookN live22 6) (exec T22 (G22 N) N live22 (cL (cL (cR (cL (cR (cR (cR (cR c22))))))))) n (st22_0 v0 v1 v2 v3 v4) (blockK 0 (seqK (exec T22 (G22 N) N live22 (cR (cR (cR (cR (cR c22)))))) (retK T22 Tryd.f22.results.toList (rd22).dec)))
noncomputable def st22_1 (v0 : List Int) (v1 : Int) (v2 : Int) (v3 : Int) (v4 : List Int) : St := ⟨[AV.li .u32 v0, AV.none, AV.none, AV.none, AV.none, AV.own 5, AV.v (.int .u32 v1), AV.none, AV.v (.int .u32 v2), AV.v (.int .i64 v3), AV.none, AV.none, AV.none, AV.none, AV.none, AV.none, AV.none, AV.none, AV.none, AV.none, AV.none, AV.none, AV.none, AV.none, AV.none, AV.none, AV.none, AV.none, AV.none, AV.none, AV.none, AV.none, AV.none, AV.none, AV.none, AV.none, AV.none, AV.none, AV.none, AV.none, AV.none, AV.none, AV.none, AV.none, AV.none, AV.none, AV.none, AV.none, AV.none, AV.none], [none, none, none, none, none, some (OB.row .u32 36 v4), none, none, none, none, none, none, none, none, none, none, none, none, none, none, none, none, none, none, none, none, none, none, none, none, none, none, none, none, none, none, none, none, none, none, none, none, none, none, none, none, none, none, none, none]⟩
noncomputable def raw22_1 (N : Nat) (n : Nat) (v0 : List Int) (v1 : Int) (v2 : Int) (v3 : Int) (v4 : List Int) : Option (List Int) := loopN (lookN live22 11) (exec T22 (G22 N) N live22 (cL (cL (cR (cL (cR (cR (cR (cR (cR (cR c22))))))))))) n (st22_1 v0 v1 v2 v3 v4) (blockK 2 (seqK (exec T22 (G22 N) N live22 (cR (cR (cR (cR (cR (cR (cR c22)))))))) (retK T22 Tryd.f22.results.toList (rd22).dec)))
noncomputable def s22_1 (N : Nat) (Ln1 : List Int → Int → Int → Int → List Int → Option (List Int)) (v0 : List Int) (v1 : Int) (v2 : Int) (v3 : Int) (v4 : List Int) : Option (List Int) :=
  cond (ltI v3 (v0.length : Int))
   (cond (leI 0 v3)
    (cond (ltI v3 (v0.length : Int))
     (cond (fitL (v4.length + [remI .u32 (addI .u32 v2 (mulI .u32 (lrd v0 v3) v1)) 65536].length))
      (Ln1 v0 v1 (quoI .u32 (addI .u32 v2 (mulI .u32 (lrd v0 v3) v1)) 65536) (addI .i64 v3 1) (v4 ++ [remI .u32 (addI .u32 v2 (mulI .u32 (lrd v0 v3) v1)) 65536]))
      (none))
     (none))
    (none))
   (cond (fitL (v4.length + [v2].length))
    ((fn_tillerref02_trim N (v4 ++ [v2])).bind fun r1 =>
     some r1)
    (none))
theorem step22_1 (N : Nat) (n : Nat) (v0 : List Int) (v1 : Int) (v2 : Int) (v3 : Int) (v4 : List Int) : raw22_1 N  (n + 1) v0 v1 v2 v3 v4 = s22_1 N (raw22_1 N  n) v0 v1 v2 v3 v4 := by kernel_rfl
noncomputable def l22_1 (N : Nat) : Nat → List Int → Int → Int → Int → List Int → Option (List Int)
  | 0 => fun _ _ _ _ _ => none
  | n + 1 => fun v0 v1 v2 v3 v4 => s22_1 N (l22_1 N  n) v0 v1 v2 v3 v4
theorem eq22_1 (N : Nat) : ∀ n, raw22_1 N  n = l22_1 N  n := by
  intro n
  induction n with
  | zero => exact funext fun v0 => funext fun v1 => funext fun v2 => funext fun v3 => funext fun v4 => rfl
  | succ n ih => exact funext fun v0 => funext fun v1 => funext fun v2 => funext fun v3 => funext fun v4 => by rw [step22_1, ih]; rfl
noncomputable def s22_0 (N : Nat) (Ln0 : List Int → Int → Int → Int → List Int → Option (List Int)) (Le1 : List Int → Int → Int → Int → List Int → Option (List Int)) (v0 : List Int) (v1 : Int) (v2 : Int) (v3 : Int) (v4 : List Int) : Option (List Int) :=
  cond (ltI v3 (remI .i64 v1 16))
   (Ln0 v0 v1 (mulI .u32 2 v2) (addI .i64 v3 1) v4)
   (Le1 v0 v2 0 0 v4)
theorem step22_0 (N : Nat) (n : Nat) (v0 : List Int) (v1 : Int) (v2 : Int) (v3 : Int) (v4 : List Int) : raw22_0 N  (n + 1) v0 v1 v2 v3 v4 = s22_0 N (raw22_0 N  n) (raw22_1 N  N) v0 v1 v2 v3 v4 := by kernel_rfl
noncomputable def l22_0 (N : Nat) : Nat → List Int → Int → Int → Int → List Int → Option (List Int)
  | 0 => fun _ _ _ _ _ => none
  | n + 1 => fun v0 v1 v2 v3 v4 => s22_0 N (l22_0 N  n) (l22_1 N  N) v0 v1 v2 v3 v4
theorem eq22_0 (N : Nat) : ∀ n, raw22_0 N  n = l22_0 N  n := by
  intro n
  induction n with
  | zero => exact funext fun v0 => funext fun v1 => funext fun v2 => funext fun v3 => funext fun v4 => rfl
  | succ n ih => exact funext fun v0 => funext fun v1 => funext fun v2 => funext fun v3 => funext fun v4 => by rw [step22_0, eq22_1 N  N, ih]; rfl
noncomputable def t22 (N : Nat) (Le0 : List Int → Int → Int → Int → List Int → Option (List Int)) (x0 : List Int) (x1 : Int) : Option (List Int) :=
  cond (eqI (x0.length : Int) 0)
   (some [])
   (cond (leI 0 (quoI .i64 x1 16))
    (cond (leI (quoI .i64 x1 16) 17592186044416)
     (Le0 x0 x1 1 0 (List.replicate ((quoI .i64 x1 16).toNat) (0 : Int)))
     (none))
    (none))
noncomputable def fn_tillerref02_Shl (N : Nat) (x0 : List Int) (x1 : Int) : Option (List Int) := t22 N (l22_0 N N) x0 x1
theorem run22 (N : Nat) (x0 : List Int) (x1 : Int) : Eng.run T22 (G22 N) N live22 c22 Tryd.f22.results.toList Tryd.f22.ntmps ((ad22).enc (x0, x1, ())) (rd22).dec = fn_tillerref02_Shl N x0 x1 := by
  refine Eq.trans (show _ = t22 N (raw22_0 N N) x0 x1 from by kernel_rfl) ?_
  unfold fn_tillerref02_Shl
  rw [eq22_0 N N]
noncomputable def F22 (N : Nat) (a : List Int × Int × Unit) : Option (List Int) := fn_tillerref02_Shl N a.1 a.2.1
theorem ok22 (N : Nat) : FnOK Tryd.prog 22 ad22 rd22 (F22 N) :=
  fn_ok (N := N) (live := live22) (code := c22) (tok T22.rt T22.kl (wrNil_ok)) mixed (gok22 N) Tryd.func22 (by kernel_rfl) (by kernel_rfl) (by kernel_rfl) fun a p h => by rw [← h]; exact run22 N a.1 a.2.1

/-! ### tiller/nat.Parse$1: function 47 -/
noncomputable def c47 : Code := (Tryd.f47.body).getD .skip
noncomputable def T47 : Tb := ⟨tyOf tys, [], [], wrNil⟩
noncomputable def G47 {R : Type} (N : Nat) : FuncId → List AV → (AV → Option R) → Option R := gNil
theorem gok47 {R : Type} (N : Nat) : GOK Tryd.prog (G47 (R := R) N) := gNil_ok
noncomputable def live47 : List (Nat × List (Nat × HK)) := []
noncomputable def ad47 : Ad (Int × Unit) := aC (cInt .u8) (a0)
noncomputable def rd47 : Rd (Bool) := r1 (cBool)
noncomputable def fn_nat_Parse_1 (N : Nat) (x0 : Int) : Option (Bool) :=
  cond (ltI x0 48)
   (some true)
   (some (ltI 57 x0))
theorem run47 (N : Nat) (x0 : Int) : Eng.run T47 (G47 N) N live47 c47 Tryd.f47.results.toList Tryd.f47.ntmps ((ad47).enc (x0, ())) (rd47).dec = fn_nat_Parse_1 N x0 := by kernel_rfl
noncomputable def F47 (N : Nat) (a : Int × Unit) : Option (Bool) := fn_nat_Parse_1 N a.1
theorem ok47 (N : Nat) : FnOK Tryd.prog 47 ad47 rd47 (F47 N) :=
  fn_ok (N := N) (live := live47) (code := c47) (tok T47.rt T47.kl (wrNil_ok)) mixed (gok47 N) Tryd.func47 (by kernel_rfl) (by kernel_rfl) (by kernel_rfl) fun a p h => by rw [← h]; exact run47 N a.1

/-! ### tiller/nat.Parse: function 24 -/
noncomputable def c24 : Code := (Tryd.f24.body).getD .skip
noncomputable def T24 : Tb := ⟨tyOf tys, [(41, 5), (50, 5)], [63], wrNil⟩
noncomputable def G24 {R : Type} (N : Nat) : FuncId → List AV → (AV → Option R) → Option R := gCons 48 (gOf (aC (cLi .u8) (aC (cFun 47) a0)) (r1 cBool) (fun a => fn_contains N a.1)) (gCons 49 (gOf ad49 rd49 (F49 N)) (gNil))
theorem gok24 {R : Type} (N : Nat) : GOK Tryd.prog (G24 (R := R) N) := gCons_ok (contains_ok N) (gCons_ok (ok49 N) (gNil_ok))
noncomputable def live24 : List (Nat × List (Nat × HK)) := [(8, [(0, .keep), (5, .row .u32 36), (24, .keep), (25, .keep)]), (12, [(0, .keep), (5, .row .u32 36), (7, .keep), (24, .keep), (25, .keep), (34, .keep), (35, .keep)])]
noncomputable def ad24 : Ad (ByteArray × Unit) := aC (cStr) (a0)
noncomputable def rd24 : Rd (List Int × Option Int) := r2 (cLi .u32) (cErr 60)
noncomputable def st24_0 (v0 : ByteArray) (v1 : Int) (v2 : Int) (v3 : List Int) : St := ⟨[AV.v (.string v0), AV.none, AV.none, AV.none, AV.none, AV.own 5, AV.none, AV.none, AV.none, AV.none, AV.none, AV.none, AV.none, AV.none, AV.none, AV.none, AV.none, AV.none, AV.none, AV.none, AV.none, AV.none, AV.none, AV.none, AV.v (.int .i64 v1), AV.v (.int .i64 v2), AV.none, AV.none, AV.none, AV.none, AV.none, AV.none, AV.none, AV.none, AV.none, AV.none, AV.none, AV.none, AV.none, AV.none, AV.none, AV.none, AV.none, AV.none, AV.none, AV.none, AV.none, AV.none, AV.none, AV.none, AV.none, AV.none, AV.none, AV.none, AV.none, AV.none, AV.none, AV.none, AV.none, AV.none, AV.none, AV.none, AV.none, AV.none], [none, none, none, none, none, some (OB.row .u32 36 v3), none, none, none, none, none, none, none, none, none, none, none, none, none, none, none, none, none, none, none, none, none, none, none, none, none, none, none, none, none, none, none, none, none, none, none, none, none, none, none, none, none, none, none, none, none, none, none, none, none, none, none, none, none, none, none, none, none, none]⟩
noncomputable def raw24_0 (N : Nat) (n : Nat) (v0 : ByteArray) (v1 : Int) (v2 : Int) (v3 : List Int) : Option (List Int × Option Int) := loopN (lookN live24 8) (exec T24 (G24 N) N live24 (cL (cL (cR (cL (cR (cR (cR (cR (cR c24)))))))))) n (st24_0 v0 v1 v2 v3) (blockK 0 (seqK (exec T24 (G24 N) N live24 (cR (cR (cR (cR (cR (cR c24))))))) (retK T24 Tryd.f24.results.toList (rd24).dec)))
noncomputable def st24_1 (v0 : ByteArray) (v1 : Int) (v2 : Int) (v3 : Int) (v4 : Int) (v5 : Int) (v6 : List Int) : St := ⟨[AV.v (.string v0), AV.none, AV.none, AV.none, AV.none, AV.own 5, AV.none, AV.v (.int .u64 v1), AV.none, AV.none, AV.none, AV.none, AV.none, AV.none, AV.none, AV.none, AV.none, AV.none, AV.none, AV.none, AV.none, AV.none, AV.none, AV.none, AV.v (.int .i64 v2), AV.v (.int .i64 v3), AV.none, AV.none, AV.none, AV.none, AV.none, AV.none, AV.none, AV.none, AV.v (.int .i64 v4), AV.v (.int .i64 v5), AV.none, AV.none, AV.none, AV.none, AV.none, AV.none, AV.none, AV.none, AV.none, AV.none, AV.none, AV.none, AV.none, AV.none, AV.none, AV.none, AV.none, AV.none, AV.none, AV.none, AV.none, AV.none, AV.none, AV.none, AV.none, AV.none, AV.none, AV.none], [none, none, none, none, none, some (OB.row .u32 36 v6), none, none, none, none, none, none, none, none, none, none, none, none, none, none, none, none, none, none, none, none, none, none, none, none, none, none, none, none, none, none, none, none, none, none, none, none, none, none, none, none, none, none, none, none, none, none, none, none, none, none, none, none, none, none, none, none, none, none]⟩
noncomputable def raw24_1 (N : Nat) (m0 : Nat) (n : Nat) (v0 : ByteArray) (v1 : Int) (v2 : Int) (v3 : Int) (v4 : Int) (v5 : Int) (v6 : List Int) : Option (List Int × Option Int) := loopN (lookN live24 12) (exec T24 (G24 N) N live24 (cL (cL (cR (cL (cR (cR (cL (cL (cR (cR (cL (cL (cR (cL (cR (cR (cR (cR (cR c24)))))))))))))))))))) n (st24_1 v0 v1 v2 v3 v4 v5 v6) (blockK 2 (seqK (exec T24 (G24 N) N live24 (cR (cR (cR (cL (cL (cR (cR (cL (cL (cR (cL (cR (cR (cR (cR (cR c24))))))))))))))))) (blockK 1 (seqK (exec T24 (G24 N) N live24 (cR (cR (cR (cL (cL (cR (cL (cR (cR (cR (cR (cR c24))))))))))))) (roundK (fun s => loopN (lookN live24 8) (exec T24 (G24 N) N live24 (cL (cL (cR (cL (cR (cR (cR (cR (cR c24)))))))))) m0 s (blockK 0 (seqK (exec T24 (G24 N) N live24 (cR (cR (cR (cR (cR (cR c24))))))) (retK T24 Tryd.f24.results.toList (rd24).dec)))) (lookN live24 8) (blockK 0 (seqK (exec T24 (G24 N) N live24 (cR (cR (cR (cR (cR (cR c24))))))) (retK T24 Tryd.f24.results.toList (rd24).dec))))))))
noncomputable def s24_1 (N : Nat) (Ln1 : ByteArray → Int → Int → Int → Int → Int → List Int → Option (List Int × Option Int)) (Ln0 : ByteArray → Int → Int → List Int → Option (List Int × Option Int)) (v0 : ByteArray) (v1 : Int) (v2 : Int) (v3 : Int) (v4 : Int) (v5 : Int) (v6 : List Int) : Option (List Int × Option Int) :=
  cond (ltI v5 v4)
   (cond (leI 0 v5)
    (cond (ltI v5 (v6.length : Int))
     (cond (leI 0 v5)
      (cond (ltI v5 (v6.length : Int))
       (Ln1 v0 (shrI .u64 (addI .u64 v1 (mulI .u64 10 (cvI .u64 (lrd v6 v5)))) 32) v2 v3 v4 (addI .i64 v5 1) (v6.set v5.toNat (cvI .u32 (addI .u64 v1 (mulI .u64 10 (cvI .u64 (lrd v6 v5)))))))
       (none))
      (none))
     (none))
    (none))
   (cond (ltI 0 v1)
    (cond (fitL (v6.length + [cvI .u32 v1].length))
     (Ln0 v0 v2 (addI .i64 v3 1) (v6 ++ [cvI .u32 v1]))
     (none))
    (Ln0 v0 v2 (addI .i64 v3 1) v6))
theorem step24_1 (N : Nat) (m0 : Nat) (n : Nat) (v0 : ByteArray) (v1 : Int) (v2 : Int) (v3 : Int) (v4 : Int) (v5 : Int) (v6 : List Int) : raw24_1 N m0 (n + 1) v0 v1 v2 v3 v4 v5 v6 = s24_1 N (raw24_1 N m0 n) (raw24_0 N  m0) v0 v1 v2 v3 v4 v5 v6 := by kernel_rfl
noncomputable def l24_1 (N : Nat) (E0 : ByteArray → Int → Int → List Int → Option (List Int × Option Int)) : Nat → ByteArray → Int → Int → Int → Int → Int → List Int → Option (List Int × Option Int)
  | 0 => fun _ _ _ _ _ _ _ => none
  | n + 1 => fun v0 v1 v2 v3 v4 v5 v6 => s24_1 N (l24_1 N E0 n) E0 v0 v1 v2 v3 v4 v5 v6
theorem eq24_1 (N : Nat) (m0 : Nat) : ∀ n, raw24_1 N m0 n = l24_1 N (raw24_0 N  m0) n := by
  intro n
  induction n with
  | zero => exact funext fun v0 => funext fun v1 => funext fun v2 => funext fun v3 => funext fun v4 => funext fun v5 => funext fun v6 => rfl
  | succ n ih => exact funext fun v0 => funext fun v1 => funext fun v2 => funext fun v3 => funext fun v4 => funext fun v5 => funext fun v6 => by rw [step24_1, ih]; rfl
noncomputable def s24_0 (N : Nat) (Le1 : ByteArray → Int → Int → Int → Int → Int → List Int → Option (List Int × Option Int)) (v0 : ByteArray) (v1 : Int) (v2 : Int) (v3 : List Int) : Option (List Int × Option Int) :=
  cond (ltI v2 v1)
   (cond (leI 0 v2)
    (cond (ltI v2 (v0.size : Int))
     (Le1 v0 (cvI .u64 (subI .u8 (sAt v0 v2) 48)) v1 v2 (v3.length : Int) 0 v3)
     (none))
    (none))
   ((fn_nat_N_uint32 N v3).bind fun r2 =>
    some (r2, none))
theorem step24_0 (N : Nat) (n : Nat) (v0 : ByteArray) (v1 : Int) (v2 : Int) (v3 : List Int) : raw24_0 N  (n + 1) v0 v1 v2 v3 = s24_0 N (raw24_1 N n N) v0 v1 v2 v3 := by kernel_rfl
noncomputable def l24_0 (N : Nat) : Nat → ByteArray → Int → Int → List Int → Option (List Int × Option Int)
  | 0 => fun _ _ _ _ => none
  | n + 1 => fun v0 v1 v2 v3 => s24_0 N (l24_1 N (l24_0 N  n) N) v0 v1 v2 v3
theorem eq24_0 (N : Nat) : ∀ n, raw24_0 N  n = l24_0 N  n := by
  intro n
  induction n with
  | zero => exact funext fun v0 => funext fun v1 => funext fun v2 => funext fun v3 => rfl
  | succ n ih => exact funext fun v0 => funext fun v1 => funext fun v2 => funext fun v3 => by rw [step24_0, eq24_1 N n N, ih]; rfl
noncomputable def t24 (N : Nat) (Le0 : ByteArray → Int → Int → List Int → Option (List Int × Option Int)) (x0 : ByteArray) : Option (List Int × Option Int) :=
  cond (eqI (x0.size : Int) 0)
   (some ([], some 3))
   ((fn_contains N (bytesS x0)).bind fun r1 =>
    cond r1
     (some ([], some 3))
     (cond (ltI 20000 (x0.size : Int))
      (some ([], some 2))
      (Le0 x0 (x0.size : Int) 0 [])))
noncomputable def fn_nat_Parse (N : Nat) (x0 : ByteArray) : Option (List Int × Option Int) := t24 N (l24_0 N N) x0
theorem run24 (N : Nat) (x0 : ByteArray) : Eng.run T24 (G24 N) N live24 c24 Tryd.f24.results.toList Tryd.f24.ntmps ((ad24).enc (x0, ())) (rd24).dec = fn_nat_Parse N x0 := by
  refine Eq.trans (show _ = t24 N (raw24_0 N N) x0 from by kernel_rfl) ?_
  unfold fn_nat_Parse
  rw [eq24_0 N N]
noncomputable def F24 (N : Nat) (a : ByteArray × Unit) : Option (List Int × Option Int) := fn_nat_Parse N a.1
theorem ok24 (N : Nat) : FnOK Tryd.prog 24 ad24 rd24 (F24 N) :=
  fn_ok (N := N) (live := live24) (code := c24) (tok T24.rt T24.kl (wrNil_ok)) mixed (gok24 N) Tryd.func24 (by kernel_rfl) (by kernel_rfl) (by kernel_rfl) fun a p h => by rw [← h]; exact run24 N a.1

/-! ### tiller/tillerref02.Parse: function 25 -/
noncomputable def c25 : Code := (Tryd.f25.body).getD .skip
noncomputable def T25 : Tb := ⟨tyOf tys, [], [28], wrNil⟩
noncomputable def G25 {R : Type} (N : Nat) : FuncId → List AV → (AV → Option R) → Option R := gCons 43 (gOf ad43 rd43 (F43 N)) (gNil)
theorem gok25 {R : Type} (N : Nat) : GOK Tryd.prog (G25 (R := R) N) := gCons_ok (ok43 N) (gNil_ok)
noncomputable def live25 : List (Nat × List (Nat × HK)) := [(3, [(0, .keep), (4, .li .u32), (5, .keep)])]
noncomputable def ad25 : Ad (ByteArray × Unit) := aC (cStr) (a0)
noncomputable def rd25 : Rd (List Int × Bool) := r2 (cLi .u32) (cBool)
noncomputable def st25_0 (v0 : ByteArray) (v1 : List Int) (v2 : Int) : St := ⟨[AV.v (.string v0), AV.none, AV.none, AV.none, AV.li .u32 v1, AV.v (.int .i64 v2), AV.none, AV.none, AV.none, AV.none, AV.none, AV.none, AV.none, AV.none, AV.none, AV.none, AV.none, AV.none, AV.none, AV.none, AV.none, AV.none, AV.none, AV.none, AV.none, AV.none, AV.none, AV.none, AV.none, AV.none, AV.none, AV.none, AV.none], [none, none, none, none, none, none, none, none, none, none, none, none, none, none, none, none, none, none, none, none, none, none, none, none, none, none, none, none, none, none, none, none, none]⟩
noncomputable def raw25_0 (N : Nat) (n : Nat) (v0 : ByteArray) (v1 : List Int) (v2 : Int) : Option (List Int × Bool) := loopN (lookN live25 3) (exec T25 (G25 N) N live25 (cL (cL (cR (cL (cR (cR c25))))))) n (st25_0 v0 v1 v2) (blockK 0 (seqK (exec T25 (G25 N) N live25 (cR (cR (cR c25)))) (retK T25 Tryd.f25.results.toList (rd25).dec)))
noncomputable def s25_0 (N : Nat) (Ln0 : ByteArray → List Int → Int → Option (List Int × Bool)) (v0 : ByteArray) (v1 : List Int) (v2 : Int) : Option (List Int × Bool) :=
  cond (ltI v2 (v0.size : Int))
   (cond (leI 0 v2)
    (cond (ltI v2 (v0.size : Int))
     (cond (ltI (sAt v0 v2) 48)
      (some ([], false))
      (cond (leI 0 v2)
       (cond (ltI v2 (v0.size : Int))
        (cond (ltI 57 (sAt v0 v2))
         (some ([], false))
         (cond (leI 0 v2)
          (cond (ltI v2 (v0.size : Int))
           ((fn_tillerref02_Small N v1 10 (cvI .u32 (subI .u8 (sAt v0 v2) 48))).bind fun r1 =>
            Ln0 v0 r1 (addI .i64 v2 1))
           (none))
          (none)))
        (none))
       (none)))
     (none))
    (none))
   (some (v1, ltI 0 (v0.size : Int)))
theorem step25_0 (N : Nat) (n : Nat) (v0 : ByteArray) (v1 : List Int) (v2 : Int) : raw25_0 N  (n + 1) v0 v1 v2 = s25_0 N (raw25_0 N  n) v0 v1 v2 := by kernel_rfl
noncomputable def l25_0 (N : Nat) : Nat → ByteArray → List Int → Int → Option (List Int × Bool)
  | 0 => fun _ _ _ => none
  | n + 1 => fun v0 v1 v2 => s25_0 N (l25_0 N  n) v0 v1 v2
theorem eq25_0 (N : Nat) : ∀ n, raw25_0 N  n = l25_0 N  n := by
  intro n
  induction n with
  | zero => exact funext fun v0 => funext fun v1 => funext fun v2 => rfl
  | succ n ih => exact funext fun v0 => funext fun v1 => funext fun v2 => by rw [step25_0, ih]; rfl
noncomputable def t25 (N : Nat) (Le0 : ByteArray → List Int → Int → Option (List Int × Bool)) (x0 : ByteArray) : Option (List Int × Bool) :=
  Le0 x0 [] 0
noncomputable def fn_tillerref02_Parse (N : Nat) (x0 : ByteArray) : Option (List Int × Bool) := t25 N (l25_0 N N) x0
theorem run25 (N : Nat) (x0 : ByteArray) : Eng.run T25 (G25 N) N live25 c25 Tryd.f25.results.toList Tryd.f25.ntmps ((ad25).enc (x0, ())) (rd25).dec = fn_tillerref02_Parse N x0 := by
  refine Eq.trans (show _ = t25 N (raw25_0 N N) x0 from by kernel_rfl) ?_
  unfold fn_tillerref02_Parse
  rw [eq25_0 N N]
noncomputable def F25 (N : Nat) (a : ByteArray × Unit) : Option (List Int × Bool) := fn_tillerref02_Parse N a.1
theorem ok25 (N : Nat) : FnOK Tryd.prog 25 ad25 rd25 (F25 N) :=
  fn_ok (N := N) (live := live25) (code := c25) (tok T25.rt T25.kl (wrNil_ok)) mixed (gok25 N) Tryd.func25 (by kernel_rfl) (by kernel_rfl) (by kernel_rfl) fun a p h => by rw [← h]; exact run25 N a.1

/-! ### tiller/tillerref02.Decimal: function 26 -/
noncomputable def c26 : Code := (Tryd.f26.body).getD .skip
noncomputable def T26 : Tb := ⟨tyOf tys, [(27, 4), (34, 4)], [44], wrNil⟩
noncomputable def G26 {R : Type} (N : Nat) : FuncId → List AV → (AV → Option R) → Option R := gCons 39 (gOf ad39 rd39 (F39 N)) (gNil)
theorem gok26 {R : Type} (N : Nat) : GOK Tryd.prog (G26 (R := R) N) := gCons_ok (ok39 N) (gNil_ok)
noncomputable def live26 : List (Nat × List (Nat × HK)) := [(4, [(0, .keep), (3, .keep)]), (9, [(3, .keep), (4, .row .u32 36), (5, .keep), (6, .keep)])]
noncomputable def ad26 : Ad (List Int × Unit) := aC (cLi .u32) (a0)
noncomputable def rd26 : Rd (ByteArray) := r1 (cStr)
noncomputable def st26_0 (v0 : List Int) (v1 : ByteArray) : St := ⟨[AV.li .u32 v0, AV.none, AV.none, AV.v (.string v1), AV.none, AV.none, AV.none, AV.none, AV.none, AV.none, AV.none, AV.none, AV.none, AV.none, AV.none, AV.none, AV.none, AV.none, AV.none, AV.none, AV.none, AV.none, AV.none, AV.none, AV.none, AV.none, AV.none, AV.none, AV.none, AV.none, AV.none, AV.none, AV.none, AV.none, AV.none, AV.none, AV.none, AV.none, AV.none, AV.none, AV.none, AV.none, AV.none, AV.none, AV.none, AV.none], [none, none, none, none, none, none, none, none, none, none, none, none, none, none, none, none, none, none, none, none, none, none, none, none, none, none, none, none, none, none, none, none, none, none, none, none, none, none, none, none, none, none, none, none, none, none]⟩
noncomputable def raw26_0 (N : Nat) (n : Nat) (v0 : List Int) (v1 : ByteArray) : Option (ByteArray) := loopN (lookN live26 4) (exec T26 (G26 N) N live26 (cL (cL (cL (cR (cR (cR c26))))))) n (st26_0 v0 v1) (blockK 0 (seqK (exec T26 (G26 N) N live26 (cR (cR (cR (cR c26))))) (retK T26 Tryd.f26.results.toList (rd26).dec)))
noncomputable def st26_1 (v0 : ByteArray) (v1 : Int) (v2 : Int) (v3 : List Int) : St := ⟨[AV.none, AV.none, AV.none, AV.v (.string v0), AV.own 4, AV.v (.int .u32 v1), AV.v (.int .i64 v2), AV.none, AV.none, AV.none, AV.none, AV.none, AV.none, AV.none, AV.none, AV.none, AV.none, AV.none, AV.none, AV.none, AV.none, AV.none, AV.none, AV.none, AV.none, AV.none, AV.none, AV.none, AV.none, AV.none, AV.none, AV.none, AV.none, AV.none, AV.none, AV.none, AV.none, AV.none, AV.none, AV.none, AV.none, AV.none, AV.none, AV.none, AV.none, AV.none], [none, none, none, none, some (OB.row .u32 36 v3), none, none, none, none, none, none, none, none, none, none, none, none, none, none, none, none, none, none, none, none, none, none, none, none, none, none, none, none, none, none, none, none, none, none, none, none, none, none, none, none, none]⟩
noncomputable def raw26_1 (N : Nat) (m0 : Nat) (n : Nat) (v0 : ByteArray) (v1 : Int) (v2 : Int) (v3 : List Int) : Option (ByteArray) := loopN (lookN live26 9) (exec T26 (G26 N) N live26 (cL (cL (cR (cL (cR (cR (cR (cL (cR (cL (cL (cL (cR (cR (cR c26)))))))))))))))) n (st26_1 v0 v1 v2 v3) (blockK 2 (seqK (exec T26 (G26 N) N live26 (cR (cR (cR (cR (cL (cR (cL (cL (cL (cR (cR (cR c26))))))))))))) (blockK 1 (roundK (fun s => loopN (lookN live26 4) (exec T26 (G26 N) N live26 (cL (cL (cL (cR (cR (cR c26))))))) m0 s (blockK 0 (seqK (exec T26 (G26 N) N live26 (cR (cR (cR (cR c26))))) (retK T26 Tryd.f26.results.toList (rd26).dec)))) (lookN live26 4) (blockK 0 (seqK (exec T26 (G26 N) N live26 (cR (cR (cR (cR c26))))) (retK T26 Tryd.f26.results.toList (rd26).dec)))))))
noncomputable def s26_1 (N : Nat) (Ln1 : ByteArray → Int → Int → List Int → Option (ByteArray)) (Ln0 : List Int → ByteArray → Option (ByteArray)) (v0 : ByteArray) (v1 : Int) (v2 : Int) (v3 : List Int) : Option (ByteArray) :=
  cond (leI 0 v2)
   (cond (leI 0 v2)
    (cond (ltI v2 (v3.length : Int))
     (cond (leI 0 v2)
      (cond (ltI v2 (v3.length : Int))
       (Ln1 v0 (remI .u32 (addI .u32 (mulI .u32 65536 v1) (lrd v3 v2)) 10) (subI .i64 v2 1) (v3.set v2.toNat (quoI .u32 (addI .u32 (mulI .u32 65536 v1) (lrd v3 v2)) 10)))
       (none))
      (none))
     (none))
    (none))
   (cond (((leI 0 v1) && (leI v1 (addI .u32 v1 1))) && (leI (addI .u32 v1 1) ((⟨#[48, 49, 50, 51, 52, 53, 54, 55, 56, 57]⟩ : ByteArray).size : Int)))
    (cond (leI ((((⟨#[48, 49, 50, 51, 52, 53, 54, 55, 56, 57]⟩ : ByteArray).extract v1.toNat ((addI .u32 v1 1).toNat)).size + v0.size : Nat) : Int) 9223372036854775807)
     ((fn_tillerref02_trim N v3).bind fun r1 =>
      Ln0 r1 (((⟨#[48, 49, 50, 51, 52, 53, 54, 55, 56, 57]⟩ : ByteArray).extract v1.toNat ((addI .u32 v1 1).toNat)) ++ v0))
     (none))
    (none))
theorem step26_1 (N : Nat) (m0 : Nat) (n : Nat) (v0 : ByteArray) (v1 : Int) (v2 : Int) (v3 : List Int) : raw26_1 N m0 (n + 1) v0 v1 v2 v3 = s26_1 N (raw26_1 N m0 n) (raw26_0 N  m0) v0 v1 v2 v3 := by kernel_rfl
noncomputable def l26_1 (N : Nat) (E0 : List Int → ByteArray → Option (ByteArray)) : Nat → ByteArray → Int → Int → List Int → Option (ByteArray)
  | 0 => fun _ _ _ _ => none
  | n + 1 => fun v0 v1 v2 v3 => s26_1 N (l26_1 N E0 n) E0 v0 v1 v2 v3
theorem eq26_1 (N : Nat) (m0 : Nat) : ∀ n, raw26_1 N m0 n = l26_1 N (raw26_0 N  m0) n := by
  intro n
  induction n with
  | zero => exact funext fun v0 => funext fun v1 => funext fun v2 => funext fun v3 => rfl
  | succ n ih => exact funext fun v0 => funext fun v1 => funext fun v2 => funext fun v3 => by rw [step26_1, ih]; rfl
noncomputable def s26_0 (N : Nat) (Le1 : ByteArray → Int → Int → List Int → Option (ByteArray)) (v0 : List Int) (v1 : ByteArray) : Option (ByteArray) :=
  cond (ltI 0 (v0.length : Int))
   (cond (fitL v0.length)
    (Le1 v1 0 (subI .i64 (v0.length : Int) 1) v0)
    (none))
   (some v1)
theorem step26_0 (N : Nat) (n : Nat) (v0 : List Int) (v1 : ByteArray) : raw26_0 N  (n + 1) v0 v1 = s26_0 N (raw26_1 N n N) v0 v1 := by kernel_rfl
noncomputable def l26_0 (N : Nat) : Nat → List Int → ByteArray → Option (ByteArray)
  | 0 => fun _ _ => none
  | n + 1 => fun v0 v1 => s26_0 N (l26_1 N (l26_0 N  n) N) v0 v1
theorem eq26_0 (N : Nat) : ∀ n, raw26_0 N  n = l26_0 N  n := by
  intro n
  induction n with
  | zero => exact funext fun v0 => funext fun v1 => rfl
  | succ n ih => exact funext fun v0 => funext fun v1 => by rw [step26_0, eq26_1 N n N, ih]; rfl
noncomputable def t26 (N : Nat) (Le0 : List Int → ByteArray → Option (ByteArray)) (x0 : List Int) : Option (ByteArray) :=
  cond (eqI (x0.length : Int) 0)
   (some (⟨#[48]⟩ : ByteArray))
   (Le0 x0 (⟨#[]⟩ : ByteArray))
noncomputable def fn_tillerref02_Decimal (N : Nat) (x0 : List Int) : Option (ByteArray) := t26 N (l26_0 N N) x0
theorem run26 (N : Nat) (x0 : List Int) : Eng.run T26 (G26 N) N live26 c26 Tryd.f26.results.toList Tryd.f26.ntmps ((ad26).enc (x0, ())) (rd26).dec = fn_tillerref02_Decimal N x0 := by
  refine Eq.trans (show _ = t26 N (raw26_0 N N) x0 from by kernel_rfl) ?_
  unfold fn_tillerref02_Decimal
  rw [eq26_0 N N]
noncomputable def F26 (N : Nat) (a : List Int × Unit) : Option (ByteArray) := fn_tillerref02_Decimal N a.1
theorem ok26 (N : Nat) : FnOK Tryd.prog 26 ad26 rd26 (F26 N) :=
  fn_ok (N := N) (live := live26) (code := c26) (tok T26.rt T26.kl (wrNil_ok)) mixed (gok26 N) Tryd.func26 (by kernel_rfl) (by kernel_rfl) (by kernel_rfl) fun a p h => by rw [← h]; exact run26 N a.1

/-! ### (tiller/nat.N).at: function 50 -/
noncomputable def c50 : Code := (Tryd.f50.body).getD .skip
noncomputable def T50 : Tb := ⟨tyOf tys, [], [], wrNil⟩
noncomputable def G50 {R : Type} (N : Nat) : FuncId → List AV → (AV → Option R) → Option R := gNil
theorem gok50 {R : Type} (N : Nat) : GOK Tryd.prog (G50 (R := R) N) := gNil_ok
noncomputable def live50 : List (Nat × List (Nat × HK)) := []
noncomputable def ad50 : Ad (List Int × Int × Unit) := aC (cLi .u32) (aC (cInt .i64) (a0))
noncomputable def rd50 : Rd (Int) := r1 (cInt .u64)
noncomputable def fn_nat_N_at (N : Nat) (x0 : List Int) (x1 : Int) : Option (Int) :=
  cond (ltI x1 (x0.length : Int))
   (cond (leI 0 x1)
    (cond (ltI x1 (x0.length : Int))
     (some (cvI .u64 (lrd x0 x1)))
     (none))
    (none))
   (some 0)
theorem run50 (N : Nat) (x0 : List Int) (x1 : Int) : Eng.run T50 (G50 N) N live50 c50 Tryd.f50.results.toList Tryd.f50.ntmps ((ad50).enc (x0, x1, ())) (rd50).dec = fn_nat_N_at N x0 x1 := by kernel_rfl
noncomputable def F50 (N : Nat) (a : List Int × Int × Unit) : Option (Int) := fn_nat_N_at N a.1 a.2.1
theorem ok50 (N : Nat) : FnOK Tryd.prog 50 ad50 rd50 (F50 N) :=
  fn_ok (N := N) (live := live50) (code := c50) (tok T50.rt T50.kl (wrNil_ok)) mixed (gok50 N) Tryd.func50 (by kernel_rfl) (by kernel_rfl) (by kernel_rfl) fun a p h => by rw [← h]; exact run50 N a.1 a.2.1

/-! ### tiller/nat.Add: function 27 -/
noncomputable def c27 : Code := (Tryd.f27.body).getD .skip
noncomputable def T27 : Tb := ⟨tyOf tys, [(41, 7)], [46], wrNil⟩
noncomputable def G27 {R : Type} (N : Nat) : FuncId → List AV → (AV → Option R) → Option R := gCons 35 (gOf ad35 rd35 (F35 N)) (gCons 50 (gOf ad50 rd50 (F50 N)) (gCons 36 (gOf ad36 rd36 (F36 N)) (gNil)))
theorem gok27 {R : Type} (N : Nat) : GOK Tryd.prog (G27 (R := R) N) := gCons_ok (ok35 N) (gCons_ok (ok50 N) (gCons_ok (ok36 N) (gNil_ok)))
noncomputable def live27 : List (Nat × List (Nat × HK)) := [(7, [(0, .keep), (1, .keep), (7, .row .u32 36), (8, .keep), (24, .keep), (25, .keep)])]
noncomputable def ad27 : Ad (List Int × List Int × Unit) := aC (cLi .u32) (aC (cLi .u32) (a0))
noncomputable def rd27 : Rd (List Int × Option Int) := r2 (cLi .u32) (cErr 60)
noncomputable def st27_0 (v0 : List Int) (v1 : List Int) (v2 : Int) (v3 : Int) (v4 : Int) (v5 : List Int) : St := ⟨[AV.li .u32 v0, AV.li .u32 v1, AV.none, AV.none, AV.none, AV.none, AV.none, AV.own 7, AV.v (.int .u64 v2), AV.none, AV.none, AV.none, AV.none, AV.none, AV.none, AV.none, AV.none, AV.none, AV.none, AV.none, AV.none, AV.none, AV.none, AV.none, AV.v (.int .i64 v3), AV.v (.int .i64 v4), AV.none, AV.none, AV.none, AV.none, AV.none, AV.none, AV.none, AV.none, AV.none, AV.none, AV.none, AV.none, AV.none, AV.none, AV.none, AV.none, AV.none, AV.none, AV.none, AV.none, AV.none, AV.none, AV.none], [none, none, none, none, none, none, none, some (OB.row .u32 36 v5), none, none, none, none, none, none, none, none, none, none, none, none, none, none, none, none, none, none, none, none, none, none, none, none, none, none, none, none, none, none, none, none, none, none, none, none, none, none, none, none, none]⟩
noncomputable def raw27_0 (N : Nat) (n : Nat) (v0 : List Int) (v1 : List Int) (v2 : Int) (v3 : Int) (v4 : Int) (v5 : List Int) : Option (List Int × Option Int) := loopN (lookN live27 7) (exec T27 (G27 N) N live27 (cL (cL (cR (cL (cR (cR (cR (cR c27))))))))) n (st27_0 v0 v1 v2 v3 v4 v5) (blockK 0 (seqK (exec T27 (G27 N) N live27 (cR (cR (cR (cR (cR c27)))))) (retK T27 Tryd.f27.results.toList (rd27).dec)))
noncomputable def s27_0 (N : Nat) (Ln0 : List Int → List Int → Int → Int → Int → List Int → Option (List Int × Option Int)) (v0 : List Int) (v1 : List Int) (v2 : Int) (v3 : Int) (v4 : Int) (v5 : List Int) : Option (List Int × Option Int) :=
  cond (ltI v4 v3)
   ((fn_nat_N_at N v0 v4).bind fun r2 =>
    (fn_nat_N_at N v1 v4).bind fun r3 =>
     cond (leI 0 v4)
      (cond (ltI v4 (v5.length : Int))
       (Ln0 v0 v1 (shrI .u64 (addI .u64 v2 (addI .u64 r2 r3)) 32) v3 (addI .i64 v4 1) (v5.set v4.toNat (cvI .u32 (addI .u64 v2 (addI .u64 r2 r3)))))
       (none))
      (none))
   ((fn_nat_bounded N v5).bind fun r4 =>
    some (r4.1, r4.2))
theorem step27_0 (N : Nat) (n : Nat) (v0 : List Int) (v1 : List Int) (v2 : Int) (v3 : Int) (v4 : Int) (v5 : List Int) : raw27_0 N  (n + 1) v0 v1 v2 v3 v4 v5 = s27_0 N (raw27_0 N  n) v0 v1 v2 v3 v4 v5 := by kernel_rfl
noncomputable def l27_0 (N : Nat) : Nat → List Int → List Int → Int → Int → Int → List Int → Option (List Int × Option Int)
  | 0 => fun _ _ _ _ _ _ => none
  | n + 1 => fun v0 v1 v2 v3 v4 v5 => s27_0 N (l27_0 N  n) v0 v1 v2 v3 v4 v5
theorem eq27_0 (N : Nat) : ∀ n, raw27_0 N  n = l27_0 N  n := by
  intro n
  induction n with
  | zero => exact funext fun v0 => funext fun v1 => funext fun v2 => funext fun v3 => funext fun v4 => funext fun v5 => rfl
  | succ n ih => exact funext fun v0 => funext fun v1 => funext fun v2 => funext fun v3 => funext fun v4 => funext fun v5 => by rw [step27_0, ih]; rfl
noncomputable def t27 (N : Nat) (Le0 : List Int → List Int → Int → Int → Int → List Int → Option (List Int × Option Int)) (x0 : List Int) (x1 : List Int) : Option (List Int × Option Int) :=
  (fn_nat_both N x0 x1).bind fun r1 =>
   cond (!(isNoneI r1))
    (some ([], r1))
    (cond (leI 0 (addI .i64 (maxI (x0.length : Int) (x1.length : Int)) 1))
     (cond (leI (addI .i64 (maxI (x0.length : Int) (x1.length : Int)) 1) 17592186044416)
      (Le0 x0 x1 0 ((List.replicate ((addI .i64 (maxI (x0.length : Int) (x1.length : Int)) 1).toNat) (0 : Int)).length : Int) 0 (List.replicate ((addI .i64 (maxI (x0.length : Int) (x1.length : Int)) 1).toNat) (0 : Int)))
      (none))
     (none))
noncomputable def fn_nat_Add (N : Nat) (x0 : List Int) (x1 : List Int) : Option (List Int × Option Int) := t27 N (l27_0 N N) x0 x1
theorem run27 (N : Nat) (x0 : List Int) (x1 : List Int) : Eng.run T27 (G27 N) N live27 c27 Tryd.f27.results.toList Tryd.f27.ntmps ((ad27).enc (x0, x1, ())) (rd27).dec = fn_nat_Add N x0 x1 := by
  refine Eq.trans (show _ = t27 N (raw27_0 N N) x0 x1 from by kernel_rfl) ?_
  unfold fn_nat_Add
  rw [eq27_0 N N]
noncomputable def F27 (N : Nat) (a : List Int × List Int × Unit) : Option (List Int × Option Int) := fn_nat_Add N a.1 a.2.1
theorem ok27 (N : Nat) : FnOK Tryd.prog 27 ad27 rd27 (F27 N) :=
  fn_ok (N := N) (live := live27) (code := c27) (tok T27.rt T27.kl (wrNil_ok)) mixed (gok27 N) Tryd.func27 (by kernel_rfl) (by kernel_rfl) (by kernel_rfl) fun a p h => by rw [← h]; exact run27 N a.1 a.2.1

/-! ### tiller/nat.compare: function 51 -/
noncomputable def c51 : Code := (Tryd.f51.body).getD .skip
noncomputable def T51 : Tb := ⟨tyOf tys, [], [], wrNil⟩
noncomputable def G51 {R : Type} (N : Nat) : FuncId → List AV → (AV → Option R) → Option R := gNil
theorem gok51 {R : Type} (N : Nat) : GOK Tryd.prog (G51 (R := R) N) := gNil_ok
noncomputable def live51 : List (Nat × List (Nat × HK)) := [(6, [(0, .keep), (1, .keep), (5, .keep)])]
noncomputable def ad51 : Ad (List Int × List Int × Unit) := aC (cLi .u32) (aC (cLi .u32) (a0))
noncomputable def rd51 : Rd (Int) := r1 (cInt .i64)
noncomputable def st51_0 (v0 : List Int) (v1 : List Int) (v2 : Int) : St := ⟨[AV.li .u32 v0, AV.li .u32 v1, AV.none, AV.none, AV.none, AV.v (.int .i64 v2), AV.none, AV.none, AV.none, AV.none, AV.none, AV.none, AV.none, AV.none, AV.none, AV.none, AV.none, AV.none, AV.none, AV.none, AV.none, AV.none, AV.none, AV.none, AV.none, AV.none, AV.none, AV.none, AV.none, AV.none, AV.none, AV.none, AV.none, AV.none, AV.none, AV.none, AV.none, AV.none, AV.none, AV.none, AV.none, AV.none, AV.none], [none, none, none, none, none, none, none, none, none, none, none, none, none, none, none, none, none, none, none, none, none, none, none, none, none, none, none, none, none, none, none, none, none, none, none, none, none, none, none, none, none, none, none]⟩
noncomputable def raw51_0 (N : Nat) (n : Nat) (v0 : List Int) (v1 : List Int) (v2 : Int) : Option (Int) := loopN (lookN live51 6) (exec T51 (G51 N) N live51 (cL (cL (cR (cL (cR (cR c51))))))) n (st51_0 v0 v1 v2) (blockK 0 (seqK (exec T51 (G51 N) N live51 (cR (cR (cR c51)))) (retK T51 Tryd.f51.results.toList (rd51).dec)))
noncomputable def s51_0 (N : Nat) (Ln0 : List Int → List Int → Int → Option (Int)) (v0 : List Int) (v1 : List Int) (v2 : Int) : Option (Int) :=
  cond (leI 0 v2)
   (cond (leI 0 v2)
    (cond (ltI v2 (v0.length : Int))
     (cond (leI 0 v2)
      (cond (ltI v2 (v1.length : Int))
       (cond (ltI (lrd v0 v2) (lrd v1 v2))
        (some (-1))
        (cond (leI 0 v2)
         (cond (ltI v2 (v0.length : Int))
          (cond (leI 0 v2)
           (cond (ltI v2 (v1.length : Int))
            (cond (ltI (lrd v1 v2) (lrd v0 v2))
             (some 1)
             (Ln0 v0 v1 (subI .i64 v2 1)))
            (none))
           (none))
          (none))
         (none)))
       (none))
      (none))
     (none))
    (none))
   (some 0)
theorem step51_0 (N : Nat) (n : Nat) (v0 : List Int) (v1 : List Int) (v2 : Int) : raw51_0 N  (n + 1) v0 v1 v2 = s51_0 N (raw51_0 N  n) v0 v1 v2 := by kernel_rfl
noncomputable def l51_0 (N : Nat) : Nat → List Int → List Int → Int → Option (Int)
  | 0 => fun _ _ _ => none
  | n + 1 => fun v0 v1 v2 => s51_0 N (l51_0 N  n) v0 v1 v2
theorem eq51_0 (N : Nat) : ∀ n, raw51_0 N  n = l51_0 N  n := by
  intro n
  induction n with
  | zero => exact funext fun v0 => funext fun v1 => funext fun v2 => rfl
  | succ n ih => exact funext fun v0 => funext fun v1 => funext fun v2 => by rw [step51_0, ih]; rfl
noncomputable def t51 (N : Nat) (Le0 : List Int → List Int → Int → Option (Int)) (x0 : List Int) (x1 : List Int) : Option (Int) :=
  cond (!(eqI (x0.length : Int) (x1.length : Int)))
   (cond (ltI (x0.length : Int) (x1.length : Int))
    (some (-1))
    (some 1))
   (Le0 x0 x1 (subI .i64 (x0.length : Int) 1))
noncomputable def fn_nat_compare (N : Nat) (x0 : List Int) (x1 : List Int) : Option (Int) := t51 N (l51_0 N N) x0 x1
theorem run51 (N : Nat) (x0 : List Int) (x1 : List Int) : Eng.run T51 (G51 N) N live51 c51 Tryd.f51.results.toList Tryd.f51.ntmps ((ad51).enc (x0, x1, ())) (rd51).dec = fn_nat_compare N x0 x1 := by
  refine Eq.trans (show _ = t51 N (raw51_0 N N) x0 x1 from by kernel_rfl) ?_
  unfold fn_nat_compare
  rw [eq51_0 N N]
noncomputable def F51 (N : Nat) (a : List Int × List Int × Unit) : Option (Int) := fn_nat_compare N a.1 a.2.1
theorem ok51 (N : Nat) : FnOK Tryd.prog 51 ad51 rd51 (F51 N) :=
  fn_ok (N := N) (live := live51) (code := c51) (tok T51.rt T51.kl (wrNil_ok)) mixed (gok51 N) Tryd.func51 (by kernel_rfl) (by kernel_rfl) (by kernel_rfl) fun a p h => by rw [← h]; exact run51 N a.1 a.2.1

/-! ### tiller/nat.less: function 52 -/
noncomputable def c52 : Code := (Tryd.f52.body).getD .skip
noncomputable def T52 : Tb := ⟨tyOf tys, [(30, 5)], [35], wrNil⟩
noncomputable def G52 {R : Type} (N : Nat) : FuncId → List AV → (AV → Option R) → Option R := gCons 50 (gOf ad50 rd50 (F50 N)) (gCons 55 (gOf ad55 rd55 (F55 N)) (gNil))
theorem gok52 {R : Type} (N : Nat) : GOK Tryd.prog (G52 (R := R) N) := gCons_ok (ok50 N) (gCons_ok (ok55 N) (gNil_ok))
noncomputable def live52 : List (Nat × List (Nat × HK)) := [(4, [(0, .keep), (1, .keep), (5, .row .u32 36), (6, .keep), (13, .keep), (14, .keep)])]
noncomputable def ad52 : Ad (List Int × List Int × Unit) := aC (cLi .u32) (aC (cLi .u32) (a0))
noncomputable def rd52 : Rd (List Int) := r1 (cLi .u32)
noncomputable def st52_0 (v0 : List Int) (v1 : List Int) (v2 : Int) (v3 : Int) (v4 : Int) (v5 : List Int) : St := ⟨[AV.li .u32 v0, AV.li .u32 v1, AV.none, AV.none, AV.none, AV.own 5, AV.v (.int .u64 v2), AV.none, AV.none, AV.none, AV.none, AV.none, AV.none, AV.v (.int .i64 v3), AV.v (.int .i64 v4), AV.none, AV.none, AV.none, AV.none, AV.none, AV.none, AV.none, AV.none, AV.none, AV.none, AV.none, AV.none, AV.none, AV.none, AV.none, AV.none, AV.none, AV.none, AV.none, AV.none, AV.none], [none, none, none, none, none, some (OB.row .u32 36 v5), none, none, none, none, none, none, none, none, none, none, none, none, none, none, none, none, none, none, none, none, none, none, none, none, none, none, none, none, none, none]⟩
noncomputable def raw52_0 (N : Nat) (n : Nat) (v0 : List Int) (v1 : List Int) (v2 : Int) (v3 : Int) (v4 : Int) (v5 : List Int) : Option (List Int) := loopN (lookN live52 4) (exec T52 (G52 N) N live52 (cL (cL (cR (cL (cR (cR (cR c52)))))))) n (st52_0 v0 v1 v2 v3 v4 v5) (blockK 0 (seqK (exec T52 (G52 N) N live52 (cR (cR (cR (cR c52))))) (retK T52 Tryd.f52.results.toList (rd52).dec)))
noncomputable def s52_0 (N : Nat) (Ln0 : List Int → List Int → Int → Int → Int → List Int → Option (List Int)) (v0 : List Int) (v1 : List Int) (v2 : Int) (v3 : Int) (v4 : Int) (v5 : List Int) : Option (List Int) :=
  cond (ltI v4 v3)
   ((fn_nat_N_at N v0 v4).bind fun r1 =>
    (fn_nat_N_at N v1 v4).bind fun r2 =>
     cond (leI 0 v4)
      (cond (ltI v4 (v5.length : Int))
       (Ln0 v0 v1 (shrI .u64 (subI .u64 (subI .u64 r1 r2) v2) 63) v3 (addI .i64 v4 1) (v5.set v4.toNat (cvI .u32 (subI .u64 (subI .u64 r1 r2) v2))))
       (none))
      (none))
   ((fn_nat_trim N v5).bind fun r3 =>
    some r3)
theorem step52_0 (N : Nat) (n : Nat) (v0 : List Int) (v1 : List Int) (v2 : Int) (v3 : Int) (v4 : Int) (v5 : List Int) : raw52_0 N  (n + 1) v0 v1 v2 v3 v4 v5 = s52_0 N (raw52_0 N  n) v0 v1 v2 v3 v4 v5 := by kernel_rfl
noncomputable def l52_0 (N : Nat) : Nat → List Int → List Int → Int → Int → Int → List Int → Option (List Int)
  | 0 => fun _ _ _ _ _ _ => none
  | n + 1 => fun v0 v1 v2 v3 v4 v5 => s52_0 N (l52_0 N  n) v0 v1 v2 v3 v4 v5
theorem eq52_0 (N : Nat) : ∀ n, raw52_0 N  n = l52_0 N  n := by
  intro n
  induction n with
  | zero => exact funext fun v0 => funext fun v1 => funext fun v2 => funext fun v3 => funext fun v4 => funext fun v5 => rfl
  | succ n ih => exact funext fun v0 => funext fun v1 => funext fun v2 => funext fun v3 => funext fun v4 => funext fun v5 => by rw [step52_0, ih]; rfl
noncomputable def t52 (N : Nat) (Le0 : List Int → List Int → Int → Int → Int → List Int → Option (List Int)) (x0 : List Int) (x1 : List Int) : Option (List Int) :=
  cond (leI 0 (x0.length : Int))
   (cond (leI (x0.length : Int) 17592186044416)
    (Le0 x0 x1 0 ((List.replicate ((x0.length : Int).toNat) (0 : Int)).length : Int) 0 (List.replicate ((x0.length : Int).toNat) (0 : Int)))
    (none))
   (none)
noncomputable def fn_nat_less (N : Nat) (x0 : List Int) (x1 : List Int) : Option (List Int) := t52 N (l52_0 N N) x0 x1
theorem run52 (N : Nat) (x0 : List Int) (x1 : List Int) : Eng.run T52 (G52 N) N live52 c52 Tryd.f52.results.toList Tryd.f52.ntmps ((ad52).enc (x0, x1, ())) (rd52).dec = fn_nat_less N x0 x1 := by
  refine Eq.trans (show _ = t52 N (raw52_0 N N) x0 x1 from by kernel_rfl) ?_
  unfold fn_nat_less
  rw [eq52_0 N N]
noncomputable def F52 (N : Nat) (a : List Int × List Int × Unit) : Option (List Int) := fn_nat_less N a.1 a.2.1
theorem ok52 (N : Nat) : FnOK Tryd.prog 52 ad52 rd52 (F52 N) :=
  fn_ok (N := N) (live := live52) (code := c52) (tok T52.rt T52.kl (wrNil_ok)) mixed (gok52 N) Tryd.func52 (by kernel_rfl) (by kernel_rfl) (by kernel_rfl) fun a p h => by rw [← h]; exact run52 N a.1 a.2.1

/-! ### tiller/nat.Sub: function 28 -/
noncomputable def c28 : Code := (Tryd.f28.body).getD .skip
noncomputable def T28 : Tb := ⟨tyOf tys, [], [], wrNil⟩
noncomputable def G28 {R : Type} (N : Nat) : FuncId → List AV → (AV → Option R) → Option R := gCons 35 (gOf ad35 rd35 (F35 N)) (gCons 51 (gOf ad51 rd51 (F51 N)) (gCons 52 (gOf ad52 rd52 (F52 N)) (gCons 36 (gOf ad36 rd36 (F36 N)) (gNil))))
theorem gok28 {R : Type} (N : Nat) : GOK Tryd.prog (G28 (R := R) N) := gCons_ok (ok35 N) (gCons_ok (ok51 N) (gCons_ok (ok52 N) (gCons_ok (ok36 N) (gNil_ok))))
noncomputable def live28 : List (Nat × List (Nat × HK)) := []
noncomputable def ad28 : Ad (List Int × List Int × Unit) := aC (cLi .u32) (aC (cLi .u32) (a0))
noncomputable def rd28 : Rd (List Int × Option Int) := r2 (cLi .u32) (cErr 60)
noncomputable def fn_nat_Sub (N : Nat) (x0 : List Int) (x1 : List Int) : Option (List Int × Option Int) :=
  (fn_nat_both N x0 x1).bind fun r1 =>
   cond (!(isNoneI r1))
    (some ([], some 1))
    ((fn_nat_compare N x0 x1).bind fun r2 =>
     cond (ltI r2 0)
      (some ([], some 4))
      ((fn_nat_less N x0 x1).bind fun r3 =>
       (fn_nat_bounded N r3).bind fun r4 =>
        some (r4.1, r4.2)))
theorem run28 (N : Nat) (x0 : List Int) (x1 : List Int) : Eng.run T28 (G28 N) N live28 c28 Tryd.f28.results.toList Tryd.f28.ntmps ((ad28).enc (x0, x1, ())) (rd28).dec = fn_nat_Sub N x0 x1 := by kernel_rfl
noncomputable def F28 (N : Nat) (a : List Int × List Int × Unit) : Option (List Int × Option Int) := fn_nat_Sub N a.1 a.2.1
theorem ok28 (N : Nat) : FnOK Tryd.prog 28 ad28 rd28 (F28 N) :=
  fn_ok (N := N) (live := live28) (code := c28) (tok T28.rt T28.kl (wrNil_ok)) mixed (gok28 N) Tryd.func28 (by kernel_rfl) (by kernel_rfl) (by kernel_rfl) fun a p h => by rw [← h]; exact run28 N a.1 a.2.1

/-! ### tiller/nat.Cmp: function 29 -/
noncomputable def c29 : Code := (Tryd.f29.body).getD .skip
noncomputable def T29 : Tb := ⟨tyOf tys, [], [], wrNil⟩
noncomputable def G29 {R : Type} (N : Nat) : FuncId → List AV → (AV → Option R) → Option R := gCons 35 (gOf ad35 rd35 (F35 N)) (gCons 51 (gOf ad51 rd51 (F51 N)) (gNil))
theorem gok29 {R : Type} (N : Nat) : GOK Tryd.prog (G29 (R := R) N) := gCons_ok (ok35 N) (gCons_ok (ok51 N) (gNil_ok))
noncomputable def live29 : List (Nat × List (Nat × HK)) := []
noncomputable def ad29 : Ad (List Int × List Int × Unit) := aC (cLi .u32) (aC (cLi .u32) (a0))
noncomputable def rd29 : Rd (Int × Option Int) := r2 (cInt .i64) (cErr 60)
noncomputable def fn_nat_Cmp (N : Nat) (x0 : List Int) (x1 : List Int) : Option (Int × Option Int) :=
  (fn_nat_both N x0 x1).bind fun r1 =>
   cond (!(isNoneI r1))
    (some (0, r1))
    ((fn_nat_compare N x0 x1).bind fun r2 =>
     some (r2, none))
theorem run29 (N : Nat) (x0 : List Int) (x1 : List Int) : Eng.run T29 (G29 N) N live29 c29 Tryd.f29.results.toList Tryd.f29.ntmps ((ad29).enc (x0, x1, ())) (rd29).dec = fn_nat_Cmp N x0 x1 := by kernel_rfl
noncomputable def F29 (N : Nat) (a : List Int × List Int × Unit) : Option (Int × Option Int) := fn_nat_Cmp N a.1 a.2.1
theorem ok29 (N : Nat) : FnOK Tryd.prog 29 ad29 rd29 (F29 N) :=
  fn_ok (N := N) (live := live29) (code := c29) (tok T29.rt T29.kl (wrNil_ok)) mixed (gok29 N) Tryd.func29 (by kernel_rfl) (by kernel_rfl) (by kernel_rfl) fun a p h => by rw [← h]; exact run29 N a.1 a.2.1

/-! ### tiller/tillerref02.Cmp: function 31 -/
noncomputable def c31 : Code := (Tryd.f31.body).getD .skip
noncomputable def T31 : Tb := ⟨tyOf tys, [], [], wrNil⟩
noncomputable def G31 {R : Type} (N : Nat) : FuncId → List AV → (AV → Option R) → Option R := gCons 53 (gOf ad53 rd53 (F53 N)) (gNil)
theorem gok31 {R : Type} (N : Nat) : GOK Tryd.prog (G31 (R := R) N) := gCons_ok (ok53 N) (gNil_ok)
noncomputable def live31 : List (Nat × List (Nat × HK)) := [(2, [(0, .keep), (1, .keep), (5, .keep)])]
noncomputable def ad31 : Ad (List Int × List Int × Unit) := aC (cLi .u32) (aC (cLi .u32) (a0))
noncomputable def rd31 : Rd (Int) := r1 (cInt .i64)
noncomputable def st31_0 (v0 : List Int) (v1 : List Int) (v2 : Int) : St := ⟨[AV.li .u32 v0, AV.li .u32 v1, AV.none, AV.none, AV.none, AV.v (.int .i64 v2), AV.none, AV.none, AV.none, AV.none, AV.none, AV.none, AV.none, AV.none, AV.none, AV.none, AV.none, AV.none, AV.none, AV.none, AV.none, AV.none, AV.none, AV.none, AV.none, AV.none, AV.none, AV.none, AV.none, AV.none], [none, none, none, none, none, none, none, none, none, none, none, none, none, none, none, none, none, none, none, none, none, none, none, none, none, none, none, none, none, none]⟩
noncomputable def raw31_0 (N : Nat) (n : Nat) (v0 : List Int) (v1 : List Int) (v2 : Int) : Option (Int) := loopN (lookN live31 2) (exec T31 (G31 N) N live31 (cL (cL (cR (cL (cR c31)))))) n (st31_0 v0 v1 v2) (blockK 0 (seqK (exec T31 (G31 N) N live31 (cR (cR c31))) (retK T31 Tryd.f31.results.toList (rd31).dec)))
noncomputable def s31_0 (N : Nat) (Ln0 : List Int → List Int → Int → Option (Int)) (v0 : List Int) (v1 : List Int) (v2 : Int) : Option (Int) :=
  cond (leI 0 v2)
   ((fn_tillerref02_at N v0 v2).bind fun r1 =>
    (fn_tillerref02_at N v1 v2).bind fun r2 =>
     cond (ltI r1 r2)
      (some (-1))
      ((fn_tillerref02_at N v0 v2).bind fun r3 =>
       (fn_tillerref02_at N v1 v2).bind fun r4 =>
        cond (ltI r4 r3)
         (some 1)
         (Ln0 v0 v1 (subI .i64 v2 1))))
   (some 0)
theorem step31_0 (N : Nat) (n : Nat) (v0 : List Int) (v1 : List Int) (v2 : Int) : raw31_0 N  (n + 1) v0 v1 v2 = s31_0 N (raw31_0 N  n) v0 v1 v2 := by kernel_rfl
noncomputable def l31_0 (N : Nat) : Nat → List Int → List Int → Int → Option (Int)
  | 0 => fun _ _ _ => none
  | n + 1 => fun v0 v1 v2 => s31_0 N (l31_0 N  n) v0 v1 v2
theorem eq31_0 (N : Nat) : ∀ n, raw31_0 N  n = l31_0 N  n := by
  intro n
  induction n with
  | zero => exact funext fun v0 => funext fun v1 => funext fun v2 => rfl
  | succ n ih => exact funext fun v0 => funext fun v1 => funext fun v2 => by rw [step31_0, ih]; rfl
noncomputable def t31 (N : Nat) (Le0 : List Int → List Int → Int → Option (Int)) (x0 : List Int) (x1 : List Int) : Option (Int) :=
  Le0 x0 x1 (subI .i64 (maxI (x0.length : Int) (x1.length : Int)) 1)
noncomputable def fn_tillerref02_Cmp (N : Nat) (x0 : List Int) (x1 : List Int) : Option (Int) := t31 N (l31_0 N N) x0 x1
theorem run31 (N : Nat) (x0 : List Int) (x1 : List Int) : Eng.run T31 (G31 N) N live31 c31 Tryd.f31.results.toList Tryd.f31.ntmps ((ad31).enc (x0, x1, ())) (rd31).dec = fn_tillerref02_Cmp N x0 x1 := by
  refine Eq.trans (show _ = t31 N (raw31_0 N N) x0 x1 from by kernel_rfl) ?_
  unfold fn_tillerref02_Cmp
  rw [eq31_0 N N]
noncomputable def F31 (N : Nat) (a : List Int × List Int × Unit) : Option (Int) := fn_tillerref02_Cmp N a.1 a.2.1
theorem ok31 (N : Nat) : FnOK Tryd.prog 31 ad31 rd31 (F31 N) :=
  fn_ok (N := N) (live := live31) (code := c31) (tok T31.rt T31.kl (wrNil_ok)) mixed (gok31 N) Tryd.func31 (by kernel_rfl) (by kernel_rfl) (by kernel_rfl) fun a p h => by rw [← h]; exact run31 N a.1 a.2.1

/-! ### tiller/tillerref02.Add: function 32 -/
noncomputable def c32 : Code := (Tryd.f32.body).getD .skip
noncomputable def T32 : Tb := ⟨tyOf tys, [], [41], wrNil⟩
noncomputable def G32 {R : Type} (N : Nat) : FuncId → List AV → (AV → Option R) → Option R := gCons 53 (gOf ad53 rd53 (F53 N)) (gCons 39 (gOf ad39 rd39 (F39 N)) (gNil))
theorem gok32 {R : Type} (N : Nat) : GOK Tryd.prog (G32 (R := R) N) := gCons_ok (ok53 N) (gCons_ok (ok39 N) (gNil_ok))
noncomputable def live32 : List (Nat × List (Nat × HK)) := [(4, [(0, .keep), (1, .keep), (5, .row .u32 36), (6, .keep), (7, .keep)])]
noncomputable def ad32 : Ad (List Int × List Int × Unit) := aC (cLi .u32) (aC (cLi .u32) (a0))
noncomputable def rd32 : Rd (List Int) := r1 (cLi .u32)
noncomputable def st32_0 (v0 : List Int) (v1 : List Int) (v2 : Int) (v3 : Int) (v4 : List Int) : St := ⟨[AV.li .u32 v0, AV.li .u32 v1, AV.none, AV.none, AV.none, AV.own 5, AV.v (.int .u32 v2), AV.v (.int .i64 v3), AV.none, AV.none, AV.none, AV.none, AV.none, AV.none, AV.none, AV.none, AV.none, AV.none, AV.none, AV.none, AV.none, AV.none, AV.none, AV.none, AV.none, AV.none, AV.none, AV.none, AV.none, AV.none, AV.none, AV.none, AV.none, AV.none, AV.none, AV.none, AV.none, AV.none, AV.none, AV.none, AV.none, AV.none], [none, none, none, none, none, some (OB.row .u32 36 v4), none, none, none, none, none, none, none, none, none, none, none, none, none, none, none, none, none, none, none, none, none, none, none, none, none, none, none, none, none, none, none, none, none, none, none, none]⟩
noncomputable def raw32_0 (N : Nat) (n : Nat) (v0 : List Int) (v1 : List Int) (v2 : Int) (v3 : Int) (v4 : List Int) : Option (List Int) := loopN (lookN live32 4) (exec T32 (G32 N) N live32 (cL (cL (cR (cL (cR (cR (cR c32)))))))) n (st32_0 v0 v1 v2 v3 v4) (blockK 0 (seqK (exec T32 (G32 N) N live32 (cR (cR (cR (cR c32))))) (retK T32 Tryd.f32.results.toList (rd32).dec)))
noncomputable def s32_0 (N : Nat) (Ln0 : List Int → List Int → Int → Int → List Int → Option (List Int)) (v0 : List Int) (v1 : List Int) (v2 : Int) (v3 : Int) (v4 : List Int) : Option (List Int) :=
  cond (ltI v3 (v0.length : Int))
   ((fn_tillerref02_at N v0 v3).bind fun r1 =>
    (fn_tillerref02_at N v1 v3).bind fun r2 =>
     cond (fitL (v4.length + [remI .u32 (addI .u32 (addI .u32 v2 r1) r2) 65536].length))
      (Ln0 v0 v1 (quoI .u32 (addI .u32 (addI .u32 v2 r1) r2) 65536) (addI .i64 v3 1) (v4 ++ [remI .u32 (addI .u32 (addI .u32 v2 r1) r2) 65536]))
      (none))
   (cond (ltI v3 (v1.length : Int))
    ((fn_tillerref02_at N v0 v3).bind fun r3 =>
     (fn_tillerref02_at N v1 v3).bind fun r4 =>
      cond (fitL (v4.length + [remI .u32 (addI .u32 (addI .u32 v2 r3) r4) 65536].length))
       (Ln0 v0 v1 (quoI .u32 (addI .u32 (addI .u32 v2 r3) r4) 65536) (addI .i64 v3 1) (v4 ++ [remI .u32 (addI .u32 (addI .u32 v2 r3) r4) 65536]))
       (none))
    (cond (ltI 0 v2)
     ((fn_tillerref02_at N v0 v3).bind fun r5 =>
      (fn_tillerref02_at N v1 v3).bind fun r6 =>
       cond (fitL (v4.length + [remI .u32 (addI .u32 (addI .u32 v2 r5) r6) 65536].length))
        (Ln0 v0 v1 (quoI .u32 (addI .u32 (addI .u32 v2 r5) r6) 65536) (addI .i64 v3 1) (v4 ++ [remI .u32 (addI .u32 (addI .u32 v2 r5) r6) 65536]))
        (none))
     ((fn_tillerref02_trim N v4).bind fun r7 =>
      some r7)))
theorem step32_0 (N : Nat) (n : Nat) (v0 : List Int) (v1 : List Int) (v2 : Int) (v3 : Int) (v4 : List Int) : raw32_0 N  (n + 1) v0 v1 v2 v3 v4 = s32_0 N (raw32_0 N  n) v0 v1 v2 v3 v4 := by kernel_rfl
noncomputable def l32_0 (N : Nat) : Nat → List Int → List Int → Int → Int → List Int → Option (List Int)
  | 0 => fun _ _ _ _ _ => none
  | n + 1 => fun v0 v1 v2 v3 v4 => s32_0 N (l32_0 N  n) v0 v1 v2 v3 v4
theorem eq32_0 (N : Nat) : ∀ n, raw32_0 N  n = l32_0 N  n := by
  intro n
  induction n with
  | zero => exact funext fun v0 => funext fun v1 => funext fun v2 => funext fun v3 => funext fun v4 => rfl
  | succ n ih => exact funext fun v0 => funext fun v1 => funext fun v2 => funext fun v3 => funext fun v4 => by rw [step32_0, ih]; rfl
noncomputable def t32 (N : Nat) (Le0 : List Int → List Int → Int → Int → List Int → Option (List Int)) (x0 : List Int) (x1 : List Int) : Option (List Int) :=
  Le0 x0 x1 0 0 []
noncomputable def fn_tillerref02_Add (N : Nat) (x0 : List Int) (x1 : List Int) : Option (List Int) := t32 N (l32_0 N N) x0 x1
theorem run32 (N : Nat) (x0 : List Int) (x1 : List Int) : Eng.run T32 (G32 N) N live32 c32 Tryd.f32.results.toList Tryd.f32.ntmps ((ad32).enc (x0, x1, ())) (rd32).dec = fn_tillerref02_Add N x0 x1 := by
  refine Eq.trans (show _ = t32 N (raw32_0 N N) x0 x1 from by kernel_rfl) ?_
  unfold fn_tillerref02_Add
  rw [eq32_0 N N]
noncomputable def F32 (N : Nat) (a : List Int × List Int × Unit) : Option (List Int) := fn_tillerref02_Add N a.1 a.2.1
theorem ok32 (N : Nat) : FnOK Tryd.prog 32 ad32 rd32 (F32 N) :=
  fn_ok (N := N) (live := live32) (code := c32) (tok T32.rt T32.kl (wrNil_ok)) mixed (gok32 N) Tryd.func32 (by kernel_rfl) (by kernel_rfl) (by kernel_rfl) fun a p h => by rw [← h]; exact run32 N a.1 a.2.1

/-! ### tiller/tillerref02.Sub: function 33 -/
noncomputable def c33 : Code := (Tryd.f33.body).getD .skip
noncomputable def T33 : Tb := ⟨tyOf tys, [], [34], wrNil⟩
noncomputable def G33 {R : Type} (N : Nat) : FuncId → List AV → (AV → Option R) → Option R := gCons 53 (gOf ad53 rd53 (F53 N)) (gCons 39 (gOf ad39 rd39 (F39 N)) (gNil))
theorem gok33 {R : Type} (N : Nat) : GOK Tryd.prog (G33 (R := R) N) := gCons_ok (ok53 N) (gCons_ok (ok39 N) (gNil_ok))
noncomputable def live33 : List (Nat × List (Nat × HK)) := [(4, [(0, .keep), (1, .keep), (5, .row .u32 36), (6, .keep), (7, .keep)])]
noncomputable def ad33 : Ad (List Int × List Int × Unit) := aC (cLi .u32) (aC (cLi .u32) (a0))
noncomputable def rd33 : Rd (List Int) := r1 (cLi .u32)
noncomputable def st33_0 (v0 : List Int) (v1 : List Int) (v2 : Int) (v3 : Int) (v4 : List Int) : St := ⟨[AV.li .u32 v0, AV.li .u32 v1, AV.none, AV.none, AV.none, AV.own 5, AV.v (.int .u32 v2), AV.v (.int .i64 v3), AV.none, AV.none, AV.none, AV.none, AV.none, AV.none, AV.none, AV.none, AV.none, AV.none, AV.none, AV.none, AV.none, AV.none, AV.none, AV.none, AV.none, AV.none, AV.none, AV.none, AV.none, AV.none, AV.none, AV.none, AV.none, AV.none, AV.none], [none, none, none, none, none, some (OB.row .u32 36 v4), none, none, none, none, none, none, none, none, none, none, none, none, none, none, none, none, none, none, none, none, none, none, none, none, none, none, none, none, none]⟩
noncomputable def raw33_0 (N : Nat) (n : Nat) (v0 : List Int) (v1 : List Int) (v2 : Int) (v3 : Int) (v4 : List Int) : Option (List Int) := loopN (lookN live33 4) (exec T33 (G33 N) N live33 (cL (cL (cR (cL (cR (cR (cR c33)))))))) n (st33_0 v0 v1 v2 v3 v4) (blockK 0 (seqK (exec T33 (G33 N) N live33 (cR (cR (cR (cR c33))))) (retK T33 Tryd.f33.results.toList (rd33).dec)))
noncomputable def s33_0 (N : Nat) (Ln0 : List Int → List Int → Int → Int → List Int → Option (List Int)) (v0 : List Int) (v1 : List Int) (v2 : Int) (v3 : Int) (v4 : List Int) : Option (List Int) :=
  cond (ltI v3 (v0.length : Int))
   ((fn_tillerref02_at N v0 v3).bind fun r1 =>
    (fn_tillerref02_at N v1 v3).bind fun r2 =>
     cond (fitL (v4.length + [remI .u32 (subI .u32 (subI .u32 (addI .u32 65536 r1) r2) v2) 65536].length))
      (Ln0 v0 v1 (subI .u32 1 (quoI .u32 (subI .u32 (subI .u32 (addI .u32 65536 r1) r2) v2) 65536)) (addI .i64 v3 1) (v4 ++ [remI .u32 (subI .u32 (subI .u32 (addI .u32 65536 r1) r2) v2) 65536]))
      (none))
   ((fn_tillerref02_trim N v4).bind fun r3 =>
    some r3)
theorem step33_0 (N : Nat) (n : Nat) (v0 : List Int) (v1 : List Int) (v2 : Int) (v3 : Int) (v4 : List Int) : raw33_0 N  (n + 1) v0 v1 v2 v3 v4 = s33_0 N (raw33_0 N  n) v0 v1 v2 v3 v4 := by kernel_rfl
noncomputable def l33_0 (N : Nat) : Nat → List Int → List Int → Int → Int → List Int → Option (List Int)
  | 0 => fun _ _ _ _ _ => none
  | n + 1 => fun v0 v1 v2 v3 v4 => s33_0 N (l33_0 N  n) v0 v1 v2 v3 v4
theorem eq33_0 (N : Nat) : ∀ n, raw33_0 N  n = l33_0 N  n := by
  intro n
  induction n with
  | zero => exact funext fun v0 => funext fun v1 => funext fun v2 => funext fun v3 => funext fun v4 => rfl
  | succ n ih => exact funext fun v0 => funext fun v1 => funext fun v2 => funext fun v3 => funext fun v4 => by rw [step33_0, ih]; rfl
noncomputable def t33 (N : Nat) (Le0 : List Int → List Int → Int → Int → List Int → Option (List Int)) (x0 : List Int) (x1 : List Int) : Option (List Int) :=
  Le0 x0 x1 0 0 []
noncomputable def fn_tillerref02_Sub (N : Nat) (x0 : List Int) (x1 : List Int) : Option (List Int) := t33 N (l33_0 N N) x0 x1
theorem run33 (N : Nat) (x0 : List Int) (x1 : List Int) : Eng.run T33 (G33 N) N live33 c33 Tryd.f33.results.toList Tryd.f33.ntmps ((ad33).enc (x0, x1, ())) (rd33).dec = fn_tillerref02_Sub N x0 x1 := by
  refine Eq.trans (show _ = t33 N (raw33_0 N N) x0 x1 from by kernel_rfl) ?_
  unfold fn_tillerref02_Sub
  rw [eq33_0 N N]
noncomputable def F33 (N : Nat) (a : List Int × List Int × Unit) : Option (List Int) := fn_tillerref02_Sub N a.1 a.2.1
theorem ok33 (N : Nat) : FnOK Tryd.prog 33 ad33 rd33 (F33 N) :=
  fn_ok (N := N) (live := live33) (code := c33) (tok T33.rt T33.kl (wrNil_ok)) mixed (gok33 N) Tryd.func33 (by kernel_rfl) (by kernel_rfl) (by kernel_rfl) fun a p h => by rw [← h]; exact run33 N a.1 a.2.1

/-! ### math/bits.LeadingZeros32: function 61 -/
noncomputable def c61 : Code := (Tryd.f61.body).getD .skip
noncomputable def T61 : Tb := ⟨tyOf tys, [], [], wrNil⟩
noncomputable def G61 {R : Type} (N : Nat) : FuncId → List AV → (AV → Option R) → Option R := gCons 42 (gOf ad42 rd42 (F42 N)) (gNil)
theorem gok61 {R : Type} (N : Nat) : GOK Tryd.prog (G61 (R := R) N) := gCons_ok (ok42 N) (gNil_ok)
noncomputable def live61 : List (Nat × List (Nat × HK)) := []
noncomputable def ad61 : Ad (Int × Unit) := aC (cInt .u32) (a0)
noncomputable def rd61 : Rd (Int) := r1 (cInt .i64)
noncomputable def fn_bits_LeadingZeros32 (N : Nat) (x0 : Int) : Option (Int) :=
  (fn_bits_Len32 N x0).bind fun r1 =>
   some (subI .i64 32 r1)
theorem run61 (N : Nat) (x0 : Int) : Eng.run T61 (G61 N) N live61 c61 Tryd.f61.results.toList Tryd.f61.ntmps ((ad61).enc (x0, ())) (rd61).dec = fn_bits_LeadingZeros32 N x0 := by kernel_rfl
noncomputable def F61 (N : Nat) (a : Int × Unit) : Option (Int) := fn_bits_LeadingZeros32 N a.1
theorem ok61 (N : Nat) : FnOK Tryd.prog 61 ad61 rd61 (F61 N) :=
  fn_ok (N := N) (live := live61) (code := c61) (tok T61.rt T61.kl (wrNil_ok)) mixed (gok61 N) Tryd.func61 (by kernel_rfl) (by kernel_rfl) (by kernel_rfl) fun a p h => by rw [← h]; exact run61 N a.1

/-! ### tiller/nat.guess: function 62 -/
noncomputable def c62 : Code := (Tryd.f62.body).getD .skip
noncomputable def T62 : Tb := ⟨tyOf tys, [(8, 2), (12, 2), (17, 3), (22, 3), (30, 3), (36, 2), (45, 3)], [], wrNil⟩
noncomputable def G62 {R : Type} (N : Nat) : FuncId → List AV → (AV → Option R) → Option R := gNil
theorem gok62 {R : Type} (N : Nat) : GOK Tryd.prog (G62 (R := R) N) := gNil_ok
noncomputable def live62 : List (Nat × List (Nat × HK)) := [(3, [(2, .keep), (3, .keep), (6, .keep), (7, .keep)])]
noncomputable def ad62 : Ad (Vec 3 × Vec 2 × Unit) := aC (cVec .u32 3) (aC (cVec .u32 2) (a0))
noncomputable def rd62 : Rd (Int) := r1 (cInt .u64)
noncomputable def st62_0 (v0 : Int) (v1 : Int) (v2 : Vec 3) (v3 : Vec 2) : St := ⟨[AV.none, AV.none, AV.ptr 2 0, AV.ptr 3 0, AV.none, AV.none, AV.v (.int .u64 v0), AV.v (.int .u64 v1), AV.none, AV.none, AV.none, AV.none, AV.none, AV.none, AV.none, AV.none, AV.none, AV.none, AV.none, AV.none, AV.none, AV.none, AV.none, AV.none, AV.none, AV.none, AV.none, AV.none, AV.none, AV.none, AV.none, AV.none, AV.none, AV.none, AV.none, AV.none, AV.none, AV.none, AV.none, AV.none, AV.none, AV.none, AV.none, AV.none, AV.none, AV.none, AV.none, AV.none, AV.none, AV.none, AV.none, AV.none], [none, none, some (OB.arr .u32 3 v2), some (OB.arr .u32 2 v3), none, none, none, none, none, none, none, none, none, none, none, none, none, none, none, none, none, none, none, none, none, none, none, none, none, none, none, none, none, none, none, none, none, none, none, none, none, none, none, none, none, none, none, none, none, none, none, none]⟩
noncomputable def raw62_0 (N : Nat) (n : Nat) (v0 : Int) (v1 : Int) (v2 : Vec 3) (v3 : Vec 2) : Option (Int) := loopN (lookN live62 3) (exec T62 (G62 N) N live62 (cL (cL (cL (cR (cR (cR c62))))))) n (st62_0 v0 v1 v2 v3) (blockK 0 (seqK (exec T62 (G62 N) N live62 (cR (cR (cR (cR c62))))) (retK T62 Tryd.f62.results.toList (rd62).dec)))
noncomputable def s62_0 (N : Nat) (Ln0 : Int → Int → Vec 3 → Vec 2 → Option (Int)) (v0 : Int) (v1 : Int) (v2 : Vec 3) (v3 : Vec 2) : Option (Int) :=
  cond (leI 4294967296 v0)
   (cond (leI 4294967296 (addI .u64 v1 (cvI .u64 (Vec.rd v3 0))))
    (some (subI .u64 v0 1))
    (Ln0 (subI .u64 v0 1) (addI .u64 v1 (cvI .u64 (Vec.rd v3 0))) v2 v3))
   (cond (ltI (orI .u64 (shlI .u64 v1 32) (cvI .u64 (Vec.rd v2 2))) (mulI .u64 v0 (cvI .u64 (Vec.rd v3 1))))
    (cond (leI 4294967296 (addI .u64 v1 (cvI .u64 (Vec.rd v3 0))))
     (some (subI .u64 v0 1))
     (Ln0 (subI .u64 v0 1) (addI .u64 v1 (cvI .u64 (Vec.rd v3 0))) v2 v3))
    (some v0))
theorem step62_0 (N : Nat) (n : Nat) (v0 : Int) (v1 : Int) (v2 : Vec 3) (v3 : Vec 2) : raw62_0 N  (n + 1) v0 v1 v2 v3 = s62_0 N (raw62_0 N  n) v0 v1 v2 v3 := by kernel_rfl
noncomputable def l62_0 (N : Nat) : Nat → Int → Int → Vec 3 → Vec 2 → Option (Int)
  | 0 => fun _ _ _ _ => none
  | n + 1 => fun v0 v1 v2 v3 => s62_0 N (l62_0 N  n) v0 v1 v2 v3
theorem eq62_0 (N : Nat) : ∀ n, raw62_0 N  n = l62_0 N  n := by
  intro n
  induction n with
  | zero => exact funext fun v0 => funext fun v1 => funext fun v2 => funext fun v3 => rfl
  | succ n ih => exact funext fun v0 => funext fun v1 => funext fun v2 => funext fun v3 => by rw [step62_0, ih]; rfl
noncomputable def t62 (N : Nat) (Le0 : Int → Int → Vec 3 → Vec 2 → Option (Int)) (x0 : Vec 3) (x1 : Vec 2) : Option (Int) :=
  cond (eqI (cvI .u64 (Vec.rd x1 0)) 0)
   (none)
   (cond (eqI (cvI .u64 (Vec.rd x1 0)) 0)
    (none)
    (Le0 (quoI .u64 (orI .u64 (shlI .u64 (cvI .u64 (Vec.rd x0 0)) 32) (cvI .u64 (Vec.rd x0 1))) (cvI .u64 (Vec.rd x1 0))) (remI .u64 (orI .u64 (shlI .u64 (cvI .u64 (Vec.rd x0 0)) 32) (cvI .u64 (Vec.rd x0 1))) (cvI .u64 (Vec.rd x1 0))) x0 x1))
noncomputable def fn_nat_guess (N : Nat) (x0 : Vec 3) (x1 : Vec 2) : Option (Int) := t62 N (l62_0 N N) x0 x1
theorem run62 (N : Nat) (x0 : Vec 3) (x1 : Vec 2) : Eng.run T62 (G62 N) N live62 c62 Tryd.f62.results.toList Tryd.f62.ntmps ((ad62).enc (x0, x1, ())) (rd62).dec = fn_nat_guess N x0 x1 := by
  refine Eq.trans (show _ = t62 N (raw62_0 N N) x0 x1 from by kernel_rfl) ?_
  unfold fn_nat_guess
  rw [eq62_0 N N]
noncomputable def F62 (N : Nat) (a : Vec 3 × Vec 2 × Unit) : Option (Int) := fn_nat_guess N a.1 a.2.1
theorem ok62 (N : Nat) : FnOK Tryd.prog 62 ad62 rd62 (F62 N) :=
  fn_ok (N := N) (live := live62) (code := c62) (tok T62.rt T62.kl (wrNil_ok)) mixed (gok62 N) Tryd.func62 (by kernel_rfl) (by kernel_rfl) (by kernel_rfl) fun a p h => by rw [← h]; exact run62 N a.1 a.2.1

/-! ### tiller/nat.take: function 63 -/
noncomputable def c63 : Code := (Tryd.f63.body).getD .skip
noncomputable def T63 : Tb := ⟨tyOf tys, [(31, 0), (45, 0), (64, 0), (78, 0)], [], wrNil⟩
noncomputable def G63 {R : Type} (N : Nat) : FuncId → List AV → (AV → Option R) → Option R := gCons 50 (gOf ad50 rd50 (F50 N)) (gNil)
theorem gok63 {R : Type} (N : Nat) : GOK Tryd.prog (G63 (R := R) N) := gCons_ok (ok50 N) (gNil_ok)
noncomputable def live63 : List (Nat × List (Nat × HK)) := [(3, [(0, .row .u32 36), (1, .keep), (2, .keep), (3, .keep), (9, .keep), (10, .keep), (16, .keep), (17, .keep)]), (14, [(0, .row .u32 36), (1, .keep), (2, .keep), (9, .keep), (55, .keep), (56, .keep)])]
noncomputable def ad63 : Ad (List Int × Int × Int × Unit) := aC (cLi .u32) (aC (cInt .i64) (aC (cInt .u64) (a0)))
noncomputable def rd63 : Rd (Bool) := r1 (cBool)
noncomputable def st63_0 (v0 : List Int) (v1 : Int) (v2 : Int) (v3 : Int) (v4 : Int) (v5 : Int) (v6 : Int) (v7 : List Int) : St := ⟨[AV.own 0, AV.li .u32 v0, AV.v (.int .i64 v1), AV.v (.int .u64 v2), AV.none, AV.none, AV.none, AV.none, AV.none, AV.v (.int .u64 v3), AV.v (.int .u64 v4), AV.none, AV.none, AV.none, AV.none, AV.none, AV.v (.int .i64 v5), AV.v (.int .i64 v6), AV.none, AV.none, AV.none, AV.none, AV.none, AV.none, AV.none, AV.none, AV.none, AV.none, AV.none, AV.none, AV.none, AV.none, AV.none, AV.none, AV.none, AV.none, AV.none, AV.none, AV.none, AV.none, AV.none, AV.none, AV.none, AV.none, AV.none, AV.none, AV.none, AV.none, AV.none, AV.none, AV.none, AV.none, AV.none, AV.none, AV.none, AV.none, AV.none, AV.none, AV.none, AV.none, AV.none, AV.none, AV.none, AV.none, AV.none, AV.none, AV.none, AV.none, AV.none, AV.none, AV.none, AV.none, AV.none, AV.none, AV.none, AV.none, AV.none, AV.none, AV.none, AV.none, AV.none, AV.none], [some (OB.row .u32 36 v7), none, none, none, none, none, none, none, none, none, none, none, none, none, none, none, none, none, none, none, none, none, none, none, none, none, none, none, none, none, none, none, none, none, none, none, none, none, none, none, none, none, none, none, none, none, none, none, none, none, none, none, none, none, none, none, none, none, none, none, none, none, none, none, none, none, none, none, none, none, none, none, none, none, none, none, none, none, none, none, none, none]⟩
noncomputable def raw63_0 (N xl : Nat) (n : Nat) (v0 : List Int) (v1 : Int) (v2 : Int) (v3 : Int) (v4 : Int) (v5 : Int) (v6 : Int) (v7 : List Int) : Option (List Int × (Bool)) := loopN (lookN live63 3) (exec T63 (G63 N) N live63 (cL (cL (cR (cL (cR (cR c63))))))) n (st63_0 v0 v1 v2 v3 v4 v5 v6 v7) (blockK 0 (seqK (exec T63 (G63 N) N live63 (cR (cR (cR c63)))) (retKW T63 Tryd.f63.results.toList .u32 36 xl (kW rd63))))
noncomputable def st63_1 (v0 : List Int) (v1 : Int) (v2 : Int) (v3 : Int) (v4 : Int) (v5 : List Int) : St := ⟨[AV.own 0, AV.li .u32 v0, AV.v (.int .i64 v1), AV.none, AV.none, AV.none, AV.none, AV.none, AV.none, AV.v (.int .u64 v2), AV.none, AV.none, AV.none, AV.none, AV.none, AV.none, AV.none, AV.none, AV.none, AV.none, AV.none, AV.none, AV.none, AV.none, AV.none, AV.none, AV.none, AV.none, AV.none, AV.none, AV.none, AV.none, AV.none, AV.none, AV.none, AV.none, AV.none, AV.none, AV.none, AV.none, AV.none, AV.none, AV.none, AV.none, AV.none, AV.none, AV.none, AV.none, AV.none, AV.none, AV.none, AV.none, AV.none, AV.none, AV.none, AV.v (.int .i64 v3), AV.v (.int .i64 v4), AV.none, AV.none, AV.none, AV.none, AV.none, AV.none, AV.none, AV.none, AV.none, AV.none, AV.none, AV.none, AV.none, AV.none, AV.none, AV.none, AV.none, AV.none, AV.none, AV.none, AV.none, AV.none, AV.none, AV.none, AV.none], [some (OB.row .u32 36 v5), none, none, none, none, none, none, none, none, none, none, none, none, none, none, none, none, none, none, none, none, none, none, none, none, none, none, none, none, none, none, none, none, none, none, none, none, none, none, none, none, none, none, none, none, none, none, none, none, none, none, none, none, none, none, none, none, none, none, none, none, none, none, none, none, none, none, none, none, none, none, none, none, none, none, none, none, none, none, none, none, none]⟩
noncomputable def raw63_1 (N xl : Nat) (n : Nat) (v0 : List Int) (v1 : Int) (v2 : Int) (v3 : Int) (v4 : Int) (v5 : List Int) : Option (List Int × (Bool)) := loopN (lookN live63 14) (exec T63 (G63 N) N live63 (cL (cL (cR (cL (cR (cR (cR (cR (cR c63)))))))))) n (st63_1 v0 v1 v2 v3 v4 v5) (blockK 2 (seqK (exec T63 (G63 N) N live63 (cR (cR (cR (cR (cR (cR c63))))))) (retKW T63 Tryd.f63.results.toList .u32 36 xl (kW rd63))))
noncomputable def s63_1 (N xl : Nat) (Ln1 : List Int → Int → Int → Int → Int → List Int → Option (List Int × (Bool))) (v0 : List Int) (v1 : Int) (v2 : Int) (v3 : Int) (v4 : Int) (v5 : List Int) : Option (List Int × (Bool)) :=
  cond (ltI v4 v3)
   (cond (leI 0 (addI .i64 v1 v4))
    (cond (ltI (addI .i64 v1 v4) (v5.length : Int))
     ((fn_nat_N_at N v0 v4).bind fun r2 =>
      cond (leI 0 (addI .i64 v1 v4))
       (cond (ltI (addI .i64 v1 v4) (v5.length : Int))
        (Ln1 v0 v1 (shrI .u64 (addI .u64 v2 (addI .u64 (cvI .u64 (lrd v5 (addI .i64 v1 v4))) r2)) 32) v3 (addI .i64 v4 1) (v5.set ((addI .i64 v1 v4).toNat) (cvI .u32 (addI .u64 v2 (addI .u64 (cvI .u64 (lrd v5 (addI .i64 v1 v4))) r2)))))
        (none))
       (none))
     (none))
    (none))
   (cond (Nat.beq v5.length xl)
    (some (v5, true))
    (none))
theorem step63_1 (N xl : Nat) (n : Nat) (v0 : List Int) (v1 : Int) (v2 : Int) (v3 : Int) (v4 : Int) (v5 : List Int) : raw63_1 N xl  (n + 1) v0 v1 v2 v3 v4 v5 = s63_1 N xl (raw63_1 N xl  n) v0 v1 v2 v3 v4 v5 := by kernel_rfl
noncomputable def l63_1 (N xl : Nat) : Nat → List Int → Int → Int → Int → Int → List Int → Option (List Int × (Bool))
  | 0 => fun _ _ _ _ _ _ => none
  | n + 1 => fun v0 v1 v2 v3 v4 v5 => s63_1 N xl (l63_1 N xl  n) v0 v1 v2 v3 v4 v5
theorem eq63_1 (N xl : Nat) : ∀ n, raw63_1 N xl  n = l63_1 N xl  n := by
  intro n
  induction n with
  | zero => exact funext fun v0 => funext fun v1 => funext fun v2 => funext fun v3 => funext fun v4 => funext fun v5 => rfl
  | succ n ih => exact funext fun v0 => funext fun v1 => funext fun v2 => funext fun v3 => funext fun v4 => funext fun v5 => by rw [step63_1, ih]; rfl
noncomputable def s63_0 (N xl : Nat) (Ln0 : List Int → Int → Int → Int → Int → Int → Int → List Int → Option (List Int × (Bool))) (Le1 : List Int → Int → Int → Int → Int → List Int → Option (List Int × (Bool))) (v0 : List Int) (v1 : Int) (v2 : Int) (v3 : Int) (v4 : Int) (v5 : Int) (v6 : Int) (v7 : List Int) : Option (List Int × (Bool)) :=
  cond (ltI v6 v5)
   ((fn_nat_N_at N v0 v6).bind fun r1 =>
    cond (leI 0 (addI .i64 v1 v6))
     (cond (ltI (addI .i64 v1 v6) (v7.length : Int))
      (cond (leI 0 (addI .i64 v1 v6))
       (cond (ltI (addI .i64 v1 v6) (v7.length : Int))
        (Ln0 v0 v1 v2 (shrI .u64 (subI .u64 (subI .u64 (cvI .u64 (lrd v7 (addI .i64 v1 v6))) (andI .u64 (addI .u64 v4 (mulI .u64 v2 r1)) 4294967295)) v3) 63) (shrI .u64 (addI .u64 v4 (mulI .u64 v2 r1)) 32) v5 (addI .i64 v6 1) (v7.set ((addI .i64 v1 v6).toNat) (cvI .u32 (subI .u64 (subI .u64 (cvI .u64 (lrd v7 (addI .i64 v1 v6))) (andI .u64 (addI .u64 v4 (mulI .u64 v2 r1)) 4294967295)) v3))))
        (none))
       (none))
      (none))
     (none))
   (cond (eqI v3 0)
    (cond (Nat.beq v7.length xl)
     (some (v7, false))
     (none))
    (Le1 v0 v1 0 (addI .i64 (v0.length : Int) 1) 0 v7))
theorem step63_0 (N xl : Nat) (n : Nat) (v0 : List Int) (v1 : Int) (v2 : Int) (v3 : Int) (v4 : Int) (v5 : Int) (v6 : Int) (v7 : List Int) : raw63_0 N xl  (n + 1) v0 v1 v2 v3 v4 v5 v6 v7 = s63_0 N xl (raw63_0 N xl  n) (raw63_1 N xl  N) v0 v1 v2 v3 v4 v5 v6 v7 := by kernel_rfl
noncomputable def l63_0 (N xl : Nat) : Nat → List Int → Int → Int → Int → Int → Int → Int → List Int → Option (List Int × (Bool))
  | 0 => fun _ _ _ _ _ _ _ _ => none
  | n + 1 => fun v0 v1 v2 v3 v4 v5 v6 v7 => s63_0 N xl (l63_0 N xl  n) (l63_1 N xl  N) v0 v1 v2 v3 v4 v5 v6 v7
theorem eq63_0 (N xl : Nat) : ∀ n, raw63_0 N xl  n = l63_0 N xl  n := by
  intro n
  induction n with
  | zero => exact funext fun v0 => funext fun v1 => funext fun v2 => funext fun v3 => funext fun v4 => funext fun v5 => funext fun v6 => funext fun v7 => rfl
  | succ n ih => exact funext fun v0 => funext fun v1 => funext fun v2 => funext fun v3 => funext fun v4 => funext fun v5 => funext fun v6 => funext fun v7 => by rw [step63_0, eq63_1 N xl  N, ih]; rfl
noncomputable def t63 (N xl : Nat) (Le0 : List Int → Int → Int → Int → Int → Int → Int → List Int → Option (List Int × (Bool))) (x0 : List Int) (x1 : List Int) (x2 : Int) (x3 : Int) : Option (List Int × (Bool)) :=
  Le0 x1 x2 x3 0 0 (addI .i64 (x1.length : Int) 1) 0 x0
noncomputable def fn_nat_take (N : Nat) (x0 : List Int) (x1 : List Int) (x2 : Int) (x3 : Int) : Option (List Int × (Bool)) := t63 N x0.length (l63_0 N x0.length N) x0 x1 x2 x3
theorem run63 (N : Nat) (x0 : List Int) (x1 : List Int) (x2 : Int) (x3 : Int) : Eng.runW T63 (G63 N) N live63 c63 Tryd.f63.results.toList Tryd.f63.ntmps .u32 36 x0 ((ad63).enc (x1, x2, x3, ())) (kW rd63) = fn_nat_take N x0 x1 x2 x3 := by
  refine Eq.trans (show _ = t63 N x0.length (raw63_0 N x0.length N) x0 x1 x2 x3 from by kernel_rfl) ?_
  unfold fn_nat_take
  rw [eq63_0 N x0.length N]
noncomputable def F63 (N : Nat) (x0 : List Int) (a : List Int × Int × Int × Unit) : Option (List Int × (Bool)) := fn_nat_take N x0 a.1 a.2.1 a.2.2.1
theorem okw63 (N : Nat) : FnwOK Tryd.prog 63 .u32 36 ad63 rd63 (F63 N) :=
  fnw_ok (N := N) (live := live63) (code := c63) (tok T63.rt T63.kl (wrNil_ok)) mixed (gok63 N) Tryd.func63 (by kernel_rfl) (by kernel_rfl) (by kernel_rfl) (by kernel_rfl) (by kernel_rfl) fun x0 a p h => by rw [← h]; exact run63 N x0 a.1 a.2.1 a.2.2.1

/-! ### tiller/nat.down: function 64 -/
noncomputable def c64 : Code := (Tryd.f64.body).getD .skip
noncomputable def T64 : Tb := ⟨tyOf tys, [(29, 5)], [32], wrNil⟩
noncomputable def G64 {R : Type} (N : Nat) : FuncId → List AV → (AV → Option R) → Option R := gCons 50 (gOf ad50 rd50 (F50 N)) (gCons 55 (gOf ad55 rd55 (F55 N)) (gNil))
theorem gok64 {R : Type} (N : Nat) : GOK Tryd.prog (G64 (R := R) N) := gCons_ok (ok50 N) (gCons_ok (ok55 N) (gNil_ok))
noncomputable def live64 : List (Nat × List (Nat × HK)) := [(3, [(0, .keep), (1, .keep), (5, .row .u32 36), (11, .keep), (12, .keep)])]
noncomputable def ad64 : Ad (List Int × Int × Unit) := aC (cLi .u32) (aC (cInt .i64) (a0))
noncomputable def rd64 : Rd (List Int) := r1 (cLi .u32)
noncomputable def st64_0 (v0 : List Int) (v1 : Int) (v2 : Int) (v3 : Int) (v4 : List Int) : St := ⟨[AV.li .u32 v0, AV.v (.int .i64 v1), AV.none, AV.none, AV.none, AV.own 5, AV.none, AV.none, AV.none, AV.none, AV.none, AV.v (.int .i64 v2), AV.v (.int .i64 v3), AV.none, AV.none, AV.none, AV.none, AV.none, AV.none, AV.none, AV.none, AV.none, AV.none, AV.none, AV.none, AV.none, AV.none, AV.none, AV.none, AV.none, AV.none, AV.none, AV.none], [none, none, none, none, none, some (OB.row .u32 36 v4), none, none, none, none, none, none, none, none, none, none, none, none, none, none, none, none, none, none, none, none, none, none, none, none, none, none, none]⟩
noncomputable def raw64_0 (N : Nat) (n : Nat) (v0 : List Int) (v1 : Int) (v2 : Int) (v3 : Int) (v4 : List Int) : Option (List Int) := loopN (lookN live64 3) (exec T64 (G64 N) N live64 (cL (cL (cR (cL (cR (cR c64))))))) n (st64_0 v0 v1 v2 v3 v4) (blockK 0 (seqK (exec T64 (G64 N) N live64 (cR (cR (cR c64)))) (retK T64 Tryd.f64.results.toList (rd64).dec)))
noncomputable def s64_0 (N : Nat) (Ln0 : List Int → Int → Int → Int → List Int → Option (List Int)) (v0 : List Int) (v1 : Int) (v2 : Int) (v3 : Int) (v4 : List Int) : Option (List Int) :=
  cond (ltI v3 v2)
   ((fn_nat_N_at N v0 v3).bind fun r1 =>
    (fn_nat_N_at N v0 (addI .i64 v3 1)).bind fun r2 =>
     cond (ltI v1 0)
      (none)
      (cond (leI 0 v3)
       (cond (ltI v3 (v4.length : Int))
        (Ln0 v0 v1 v2 (addI .i64 v3 1) (v4.set v3.toNat (cvI .u32 (shrI .u64 (orI .u64 r1 (shlI .u64 r2 32)) v1))))
        (none))
       (none)))
   ((fn_nat_trim N v4).bind fun r3 =>
    some r3)
theorem step64_0 (N : Nat) (n : Nat) (v0 : List Int) (v1 : Int) (v2 : Int) (v3 : Int) (v4 : List Int) : raw64_0 N  (n + 1) v0 v1 v2 v3 v4 = s64_0 N (raw64_0 N  n) v0 v1 v2 v3 v4 := by kernel_rfl
noncomputable def l64_0 (N : Nat) : Nat → List Int → Int → Int → Int → List Int → Option (List Int)
  | 0 => fun _ _ _ _ _ => none
  | n + 1 => fun v0 v1 v2 v3 v4 => s64_0 N (l64_0 N  n) v0 v1 v2 v3 v4
theorem eq64_0 (N : Nat) : ∀ n, raw64_0 N  n = l64_0 N  n := by
  intro n
  induction n with
  | zero => exact funext fun v0 => funext fun v1 => funext fun v2 => funext fun v3 => funext fun v4 => rfl
  | succ n ih => exact funext fun v0 => funext fun v1 => funext fun v2 => funext fun v3 => funext fun v4 => by rw [step64_0, ih]; rfl
noncomputable def t64 (N : Nat) (Le0 : List Int → Int → Int → Int → List Int → Option (List Int)) (x0 : List Int) (x1 : Int) : Option (List Int) :=
  cond (leI 0 (x0.length : Int))
   (cond (leI (x0.length : Int) 17592186044416)
    (Le0 x0 x1 ((List.replicate ((x0.length : Int).toNat) (0 : Int)).length : Int) 0 (List.replicate ((x0.length : Int).toNat) (0 : Int)))
    (none))
   (none)
noncomputable def fn_nat_down (N : Nat) (x0 : List Int) (x1 : Int) : Option (List Int) := t64 N (l64_0 N N) x0 x1
theorem run64 (N : Nat) (x0 : List Int) (x1 : Int) : Eng.run T64 (G64 N) N live64 c64 Tryd.f64.results.toList Tryd.f64.ntmps ((ad64).enc (x0, x1, ())) (rd64).dec = fn_nat_down N x0 x1 := by
  refine Eq.trans (show _ = t64 N (raw64_0 N N) x0 x1 from by kernel_rfl) ?_
  unfold fn_nat_down
  rw [eq64_0 N N]
noncomputable def F64 (N : Nat) (a : List Int × Int × Unit) : Option (List Int) := fn_nat_down N a.1 a.2.1
theorem ok64 (N : Nat) : FnOK Tryd.prog 64 ad64 rd64 (F64 N) :=
  fn_ok (N := N) (live := live64) (code := c64) (tok T64.rt T64.kl (wrNil_ok)) mixed (gok64 N) Tryd.func64 (by kernel_rfl) (by kernel_rfl) (by kernel_rfl) fun a p h => by rw [← h]; exact run64 N a.1 a.2.1

/-! ### tiller/nat.parts: function 54 -/
noncomputable def c54 : Code := (Tryd.f54.body).getD .skip
noncomputable def T54 (N : Nat) : Tb := ⟨tyOf tys, [(75, 10), (82, 10), (89, 10), (115, 12)], [117, 119], wrCons 63 (wOf .u32 36 ad63 rd63 (F63 N)) (wrNil)⟩
noncomputable def G54 {R : Type} (N : Nat) : FuncId → List AV → (AV → Option R) → Option R := gCons 51 (gOf ad51 rd51 (F51 N)) (gCons 44 (gOf (aC (cLi .u32) a0) (r1 (cLi .u32)) (fun a => fn_slices_Clone N a.1)) (gCons 45 (gOf ad45 rd45 (F45 N)) (gCons 40 (gOf ad40 rd40 (F40 N)) (gCons 61 (gOf ad61 rd61 (F61 N)) (gCons 41 (gOf ad41 rd41 (F41 N)) (gCons 62 (gOf ad62 rd62 (F62 N)) (gCons 55 (gOf ad55 rd55 (F55 N)) (gCons 64 (gOf ad64 rd64 (F64 N)) (gNil)))))))))
theorem gok54 {R : Type} (N : Nat) : GOK Tryd.prog (G54 (R := R) N) := gCons_ok (ok51 N) (gCons_ok (clone_ok N) (gCons_ok (ok45 N) (gCons_ok (ok40 N) (gCons_ok (ok61 N) (gCons_ok (ok41 N) (gCons_ok (ok62 N) (gCons_ok (ok55 N) (gCons_ok (ok64 N) (gNil_ok)))))))))
noncomputable def live54 : List (Nat × List (Nat × HK)) := [(13, [(8, .keep), (9, .keep), (10, .row .u32 36), (11, .keep), (12, .row .u32 36), (13, .keep)])]
noncomputable def ad54 : Ad (List Int × List Int × Unit) := aC (cLi .u32) (aC (cLi .u32) (a0))
noncomputable def rd54 : Rd (List Int × List Int) := r2 (cLi .u32) (cLi .u32)
noncomputable def st54_0 (v0 : Int) (v1 : List Int) (v2 : Int) (v3 : Int) (v4 : List Int) (v5 : List Int) : St := ⟨[AV.none, AV.none, AV.none, AV.none, AV.none, AV.none, AV.none, AV.none, AV.v (.int .i64 v0), AV.li .u32 v1, AV.own 10, AV.v (.int .i64 v2), AV.own 12, AV.v (.int .i64 v3), AV.none, AV.none, AV.none, AV.none, AV.none, AV.none, AV.none, AV.none, AV.none, AV.none, AV.none, AV.none, AV.none, AV.none, AV.none, AV.none, AV.none, AV.none, AV.none, AV.none, AV.none, AV.none, AV.none, AV.none, AV.none, AV.none, AV.none, AV.none, AV.none, AV.none, AV.none, AV.none, AV.none, AV.none, AV.none, AV.none, AV.none, AV.none, AV.none, AV.none, AV.none, AV.none, AV.none, AV.none, AV.none, AV.none, AV.none, AV.none, AV.none, AV.none, AV.none, AV.none, AV.none, AV.none, AV.none, AV.none, AV.none, AV.none, AV.none, AV.none, AV.none, AV.none, AV.none, AV.none, AV.none, AV.none, AV.none, AV.none, AV.none, AV.none, AV.none, AV.none, AV.none, AV.none, AV.none, AV.none, AV.none, AV.none, AV.none, AV.none, AV.none, AV.none, AV.none, AV.none, AV.none, AV.none, AV.none, AV.none, AV.none, AV.none, AV.none, AV.none, AV.none, AV.none, AV.none, AV.none, AV.none, AV.none, AV.none, AV.none, AV.none, AV.none, AV.none, AV.none, AV.none, AV.none, AV.none, AV.none], [none, none, none, none, none, none, none, none, none, none, some (OB.row .u32 36 v4), none, some (OB.row .u32 36 v5), none, none, none, none, none, none, none, none, none, none, none, none, none, none, none, none, none, none, none, none, none, none, none, none, none, none, none, none, none, none, none, none, none, none, none, none, none, none, none, none, none, none, none, none, none, none, none, none, none, none, none, none, none, none, none, none, none, none, none, none, none, none, none, none, none, none, none, none, none, none, none, none, none, none, none, none, none, none, none, none, none, none, none, none, none, none, none, none, none, none, none, none, none, none, none, none, none, none, none, none, none, none, none, none, none, none, none, none, none]⟩
noncomputable def raw54_0 (N : Nat) (n : Nat) (v0 : Int) (v1 : List Int) (v2 : Int) (v3 : Int) (v4 : List Int) (v5 : List Int) : Option (List Int × List Int) := loopN (lookN live54 13) (exec (T54 N) (G54 N) N live54 (cL (cL (cR (cL (cR (cR (cR (cR (cR (cR (cR (cR (cR c54)))))))))))))) n (st54_0 v0 v1 v2 v3 v4 v5) (blockK 0 (seqK (exec (T54 N) (G54 N) N live54 (cR (cR (cR (cR (cR (cR (cR (cR (cR (cR c54))))))))))) (retK (T54 N) Tryd.f54.results.toList (rd54).dec)))
noncomputable def s54_0 (N : Nat) (Ln0 : Int → List Int → Int → Int → List Int → List Int → Option (List Int × List Int)) (v0 : Int) (v1 : List Int) (v2 : Int) (v3 : Int) (v4 : List Int) (v5 : List Int) : Option (List Int × List Int) :=
  cond (leI 0 v3)
   (cond (leI 0 (addI .i64 v3 v2))
    (cond (ltI (addI .i64 v3 v2) (v4.length : Int))
     (cond (leI 0 (subI .i64 (addI .i64 v3 v2) 1))
      (cond (ltI (subI .i64 (addI .i64 v3 v2) 1) (v4.length : Int))
       (cond (leI 0 (subI .i64 (addI .i64 v3 v2) 2))
        (cond (ltI (subI .i64 (addI .i64 v3 v2) 2) (v4.length : Int))
         (cond (leI 0 (subI .i64 v2 1))
          (cond (ltI (subI .i64 v2 1) (v1.length : Int))
           (cond (leI 0 (subI .i64 v2 2))
            (cond (ltI (subI .i64 v2 2) (v1.length : Int))
             ((fn_nat_guess N (Vec.st (Vec.st (Vec.st (Vec.zero 3) 0 (lrd v4 (addI .i64 v3 v2))) 1 (lrd v4 (subI .i64 (addI .i64 v3 v2) 1))) 2 (lrd v4 (subI .i64 (addI .i64 v3 v2) 2))) (Vec.st (Vec.st (Vec.zero 2) 0 (lrd v1 (subI .i64 v2 1))) 1 (lrd v1 (subI .i64 v2 2)))).bind fun r8 =>
              (fn_nat_take N v4 v1 v3 r8).bind fun r9 =>
               cond r9.2
                (cond (leI 0 v3)
                 (cond (ltI v3 (v5.length : Int))
                  (Ln0 v0 v1 v2 (subI .i64 v3 1) r9.1 (v5.set v3.toNat (cvI .u32 (subI .u64 r8 1))))
                  (none))
                 (none))
                (cond (leI 0 v3)
                 (cond (ltI v3 (v5.length : Int))
                  (Ln0 v0 v1 v2 (subI .i64 v3 1) r9.1 (v5.set v3.toNat (cvI .u32 r8)))
                  (none))
                 (none)))
             (none))
            (none))
           (none))
          (none))
         (none))
        (none))
       (none))
      (none))
     (none))
    (none))
   ((fn_nat_trim N v5).bind fun r10 =>
    (fn_nat_trim N v4).bind fun r11 =>
     (fn_nat_down N r11 v0).bind fun r12 =>
      some (r10, r12))
theorem step54_0 (N : Nat) (n : Nat) (v0 : Int) (v1 : List Int) (v2 : Int) (v3 : Int) (v4 : List Int) (v5 : List Int) : raw54_0 N  (n + 1) v0 v1 v2 v3 v4 v5 = s54_0 N (raw54_0 N  n) v0 v1 v2 v3 v4 v5 := by kernel_rfl
noncomputable def l54_0 (N : Nat) : Nat → Int → List Int → Int → Int → List Int → List Int → Option (List Int × List Int)
  | 0 => fun _ _ _ _ _ _ => none
  | n + 1 => fun v0 v1 v2 v3 v4 v5 => s54_0 N (l54_0 N  n) v0 v1 v2 v3 v4 v5
theorem eq54_0 (N : Nat) : ∀ n, raw54_0 N  n = l54_0 N  n := by
  intro n
  induction n with
  | zero => exact funext fun v0 => funext fun v1 => funext fun v2 => funext fun v3 => funext fun v4 => funext fun v5 => rfl
  | succ n ih => exact funext fun v0 => funext fun v1 => funext fun v2 => funext fun v3 => funext fun v4 => funext fun v5 => by rw [step54_0, ih]; rfl
noncomputable def t54 (N : Nat) (Le0 : Int → List Int → Int → Int → List Int → List Int → Option (List Int × List Int)) (x0 : List Int) (x1 : List Int) : Option (List Int × List Int) :=
  (fn_nat_compare N x0 x1).bind fun r1 =>
   cond (ltI r1 0)
    ((fn_slices_Clone N x0).bind fun r2 =>
     some ([], r2))
    (cond (eqI (x1.length : Int) 1)
     (cond (ltI 0 (x1.length : Int))
      ((fn_nat_short N x0 (lrd x1 0)).bind fun r3 =>
       (fn_nat_Of N (cvI .u64 r3.2)).bind fun r4 =>
        some (r3.1, r4))
      (none))
     (cond (leI 0 (subI .i64 (x1.length : Int) 1))
      (cond (ltI (subI .i64 (x1.length : Int) 1) (x1.length : Int))
       ((fn_bits_LeadingZeros32 N (lrd x1 (subI .i64 (x1.length : Int) 1))).bind fun r5 =>
        (fn_nat_up N x1 r5).bind fun r6 =>
         cond (leI 0 (addI .i64 (x0.length : Int) 1))
          (cond (leI (addI .i64 (x0.length : Int) 1) 17592186044416)
           ((fn_nat_up N x0 r5).bind fun r7 =>
            cond (leI 0 (addI .i64 (subI .i64 (x0.length : Int) (r6.length : Int)) 1))
             (cond (leI (addI .i64 (subI .i64 (x0.length : Int) (r6.length : Int)) 1) 17592186044416)
              (Le0 r5 r6 (r6.length : Int) (subI .i64 (x0.length : Int) (r6.length : Int)) (cpL (List.replicate ((addI .i64 (x0.length : Int) 1).toNat) (0 : Int)) r7) (List.replicate ((addI .i64 (subI .i64 (x0.length : Int) (r6.length : Int)) 1).toNat) (0 : Int)))
              (none))
             (none))
           (none))
          (none))
       (none))
      (none)))
noncomputable def fn_nat_parts (N : Nat) (x0 : List Int) (x1 : List Int) : Option (List Int × List Int) := t54 N (l54_0 N N) x0 x1
theorem run54 (N : Nat) (x0 : List Int) (x1 : List Int) : Eng.run (T54 N) (G54 N) N live54 c54 Tryd.f54.results.toList Tryd.f54.ntmps ((ad54).enc (x0, x1, ())) (rd54).dec = fn_nat_parts N x0 x1 := by
  refine Eq.trans (show _ = t54 N (raw54_0 N N) x0 x1 from by kernel_rfl) ?_
  unfold fn_nat_parts
  rw [eq54_0 N N]
noncomputable def F54 (N : Nat) (a : List Int × List Int × Unit) : Option (List Int × List Int) := fn_nat_parts N a.1 a.2.1
theorem ok54 (N : Nat) : FnOK Tryd.prog 54 ad54 rd54 (F54 N) :=
  fn_ok (N := N) (live := live54) (code := c54) (tok (T54 N).rt (T54 N).kl (wrCons_ok (wOf_ok (okw63 N)) (wrNil_ok))) mixed (gok54 N) Tryd.func54 (by kernel_rfl) (by kernel_rfl) (by kernel_rfl) fun a p h => by rw [← h]; exact run54 N a.1 a.2.1

/-! ### tiller/nat.DivMod: function 34 -/
noncomputable def c34 : Code := (Tryd.f34.body).getD .skip
noncomputable def T34 : Tb := ⟨tyOf tys, [], [], wrNil⟩
noncomputable def G34 {R : Type} (N : Nat) : FuncId → List AV → (AV → Option R) → Option R := gCons 35 (gOf ad35 rd35 (F35 N)) (gCons 54 (gOf ad54 rd54 (F54 N)) (gNil))
theorem gok34 {R : Type} (N : Nat) : GOK Tryd.prog (G34 (R := R) N) := gCons_ok (ok35 N) (gCons_ok (ok54 N) (gNil_ok))
noncomputable def live34 : List (Nat × List (Nat × HK)) := []
noncomputable def ad34 : Ad (List Int × List Int × Unit) := aC (cLi .u32) (aC (cLi .u32) (a0))
noncomputable def rd34 : Rd (List Int × List Int × Option Int) := r3 (cLi .u32) (cLi .u32) (cErr 60)
noncomputable def fn_nat_DivMod (N : Nat) (x0 : List Int) (x1 : List Int) : Option (List Int × List Int × Option Int) :=
  (fn_nat_both N x0 x1).bind fun r1 =>
   cond (!(isNoneI r1))
    (some ([], [], some 1))
    (cond (eqI (x1.length : Int) 0)
     (some ([], [], some 5))
     ((fn_nat_parts N x0 x1).bind fun r2 =>
      some (r2.1, r2.2, none)))
theorem run34 (N : Nat) (x0 : List Int) (x1 : List Int) : Eng.run T34 (G34 N) N live34 c34 Tryd.f34.results.toList Tryd.f34.ntmps ((ad34).enc (x0, x1, ())) (rd34).dec = fn_nat_DivMod N x0 x1 := by kernel_rfl
noncomputable def F34 (N : Nat) (a : List Int × List Int × Unit) : Option (List Int × List Int × Option Int) := fn_nat_DivMod N a.1 a.2.1
theorem ok34 (N : Nat) : FnOK Tryd.prog 34 ad34 rd34 (F34 N) :=
  fn_ok (N := N) (live := live34) (code := c34) (tok T34.rt T34.kl (wrNil_ok)) mixed (gok34 N) Tryd.func34 (by kernel_rfl) (by kernel_rfl) (by kernel_rfl) fun a p h => by rw [← h]; exact run34 N a.1 a.2.1
end Go.Proofs.YtoihjgfnocimjaaDoor.Fns

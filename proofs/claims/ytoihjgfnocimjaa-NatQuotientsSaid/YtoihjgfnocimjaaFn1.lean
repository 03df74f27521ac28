/- Go functions as plain Lean functions, and the engine's run of each. No statement is proved here. Laid by eng.py. -/
import Derived.Test.YtoihjgfnocimjaaFn0
namespace Go.Proofs.Ytoihjgfnocimjaa.Fns
open Go Go.RowKit Go.Proofs Go.Proofs.Ytoihjgfnocimjaa.Eng Go.Proofs.Ytoihjgfnocimjaa.Slc
set_option linter.unusedVariables false
set_option maxRecDepth 100000
/-! ### tiller/nat.trim: function 17 -/
noncomputable def c17 : Code := (Try.f17.body).getD .skip
noncomputable def T17 : Tb := ⟨tyOf tys, [], [], wrNil⟩
noncomputable def G17 {R : Type} (N : Nat) : FuncId → List AV → (AV → Option R) → Option R := gNil
theorem gok17 {R : Type} (N : Nat) : GOK Try.prog (G17 (R := R) N) := gNil_ok
noncomputable def live17 : List (Nat × List (Nat × HK)) := [(1, [(0, .keep)])]
noncomputable def ad17 : Ad (List Int × Unit) := aC (cLi .u32) (a0)
noncomputable def rd17 : Rd (List Int) := r1 (cLi .u32)
noncomputable def st17_0 (v0 : List Int) : St := ⟨[AV.li .u32 v0, AV.none, AV.none, AV.none, AV.none, AV.none, AV.none, AV.none, AV.none, AV.none, AV.none, AV.none, AV.none, AV.none, AV.none, AV.none, AV.none, AV.none, AV.none, AV.none, AV.none], [none, none, none, none, none, none, none, none, none, none, none, none, none, none, none, none, none, none, none, none, none]⟩
noncomputable def raw17_0 (N : Nat) (n : Nat) (v0 : List Int) : Option (List Int) := loopN (lookN live17 1) (exec T17 (G17 N) N live17 (cL (cL (cL (cR c17))))) n (st17_0 v0) (blockK 0 (seqK (exec T17 (G17 N) N live17 (cR (cR c17))) (retK T17 Try.f17.results.toList (rd17).dec)))
noncomputable def s17_0 (N : Nat) (Ln0 : List Int → Option (List Int)) (v0 : List Int) : Option (List Int) :=
  cond (ltI 0 (v0.length : Int))
   (cond (leI 0 (subI .i64 (v0.length : Int) 1))
    (cond (ltI (subI .i64 (v0.length : Int) 1) (v0.length : Int))
     (cond (eqI (lrd v0 (subI .i64 (v0.length : Int) 1)) 0)
      (cond (((((leI 0 0) && (leI 0 (subI .i64 (v0.length : Int) 1))) && (leI (subI .i64 (v0.length : Int) 1) (v0.length : Int))) && (leI (v0.length : Int) (v0.length : Int))) && (true || true))
       (Ln0 ((v0.take ((subI .i64 (v0.length : Int) 1).toNat)).drop ((0 : Int).toNat)))
       (none))
      (some v0))
     (none))
    (none))
   (some v0)
theorem step17_0 (N : Nat) (n : Nat) (v0 : List Int) : raw17_0 N  (n + 1) v0 = s17_0 N (raw17_0 N  n) v0 := by kernel_rfl
noncomputable def l17_0 (N : Nat) : Nat → List Int → Option (List Int)
  | 0 => fun _ => none
  | n + 1 => fun v0 => s17_0 N (l17_0 N  n) v0
theorem eq17_0 (N : Nat) : ∀ n, raw17_0 N  n = l17_0 N  n := by
  intro n
  induction n with
  | zero => exact funext fun v0 => rfl
  | succ n ih => exact funext fun v0 => by rw [step17_0, ih]; rfl
noncomputable def t17 (N : Nat) (Le0 : List Int → Option (List Int)) (x0 : List Int) : Option (List Int) :=
  Le0 x0
noncomputable def fn_nat_trim (N : Nat) (x0 : List Int) : Option (List Int) := t17 N (l17_0 N N) x0
theorem run17 (N : Nat) (x0 : List Int) : Eng.run T17 (G17 N) N live17 c17 Try.f17.results.toList Try.f17.ntmps ((ad17).enc (x0, ())) (rd17).dec = fn_nat_trim N x0 := by
  refine Eq.trans (show _ = t17 N (raw17_0 N N) x0 from by kernel_rfl) ?_
  unfold fn_nat_trim
  rw [eq17_0 N N]
noncomputable def F17 (N : Nat) (a : List Int × Unit) : Option (List Int) := fn_nat_trim N a.1
theorem ok17 (N : Nat) : FnOK Try.prog 17 ad17 rd17 (F17 N) :=
  fn_ok (N := N) (live := live17) (code := c17) (tok T17.rt T17.kl (wrNil_ok)) mixed (gok17 N) Try.func17 (by kernel_rfl) (by kernel_rfl) (by kernel_rfl) fun a p h => by rw [← h]; exact run17 N a.1

/-! ### tiller/nat.Of: function 5 -/
noncomputable def c5 : Code := (Try.f5.body).getD .skip
noncomputable def T5 : Tb := ⟨tyOf tys, [], [9], wrNil⟩
noncomputable def G5 {R : Type} (N : Nat) : FuncId → List AV → (AV → Option R) → Option R := gCons 17 (gOf ad17 rd17 (F17 N)) (gNil)
theorem gok5 {R : Type} (N : Nat) : GOK Try.prog (G5 (R := R) N) := gCons_ok (ok17 N) (gNil_ok)
noncomputable def live5 : List (Nat × List (Nat × HK)) := []
noncomputable def ad5 : Ad (Int × Unit) := aC (cInt .u64) (a0)
noncomputable def rd5 : Rd (List Int) := r1 (cLi .u32)
noncomputable def fn_nat_Of (N : Nat) (x0 : Int) : Option (List Int) :=
  (fn_nat_trim N [cvI .u32 x0, cvI .u32 (shrI .u64 x0 32)]).bind fun r1 =>
   some r1
theorem run5 (N : Nat) (x0 : Int) : Eng.run T5 (G5 N) N live5 c5 Try.f5.results.toList Try.f5.ntmps ((ad5).enc (x0, ())) (rd5).dec = fn_nat_Of N x0 := by kernel_rfl
noncomputable def F5 (N : Nat) (a : Int × Unit) : Option (List Int) := fn_nat_Of N a.1
theorem ok5 (N : Nat) : FnOK Try.prog 5 ad5 rd5 (F5 N) :=
  fn_ok (N := N) (live := live5) (code := c5) (tok T5.rt T5.kl (wrNil_ok)) mixed (gok5 N) Try.func5 (by kernel_rfl) (by kernel_rfl) (by kernel_rfl) fun a p h => by rw [← h]; exact run5 N a.1

/-! ### tiller/nat.Check: function 21 -/
noncomputable def c21 : Code := (Try.f21.body).getD .skip
noncomputable def T21 : Tb := ⟨tyOf tys, [], [], wrNil⟩
noncomputable def G21 {R : Type} (N : Nat) : FuncId → List AV → (AV → Option R) → Option R := gNil
theorem gok21 {R : Type} (N : Nat) : GOK Try.prog (G21 (R := R) N) := gNil_ok
noncomputable def live21 : List (Nat × List (Nat × HK)) := []
noncomputable def ad21 : Ad (List Int × Unit) := aC (cLi .u32) (a0)
noncomputable def rd21 : Rd (Option Int) := r1 (cErr 50)
noncomputable def fn_nat_Check (N : Nat) (x0 : List Int) : Option (Option Int) :=
  cond (ltI 8192 (x0.length : Int))
   (some (some 1))
   (cond (ltI 0 (x0.length : Int))
    (cond (leI 0 (subI .i64 (x0.length : Int) 1))
     (cond (ltI (subI .i64 (x0.length : Int) 1) (x0.length : Int))
      (cond (eqI (lrd x0 (subI .i64 (x0.length : Int) 1)) 0)
       (some (some 1))
       (some none))
      (none))
     (none))
    (some none))
theorem run21 (N : Nat) (x0 : List Int) : Eng.run T21 (G21 N) N live21 c21 Try.f21.results.toList Try.f21.ntmps ((ad21).enc (x0, ())) (rd21).dec = fn_nat_Check N x0 := by kernel_rfl
noncomputable def F21 (N : Nat) (a : List Int × Unit) : Option (Option Int) := fn_nat_Check N a.1
theorem ok21 (N : Nat) : FnOK Try.prog 21 ad21 rd21 (F21 N) :=
  fn_ok (N := N) (live := live21) (code := c21) (tok T21.rt T21.kl (wrNil_ok)) mixed (gok21 N) Try.func21 (by kernel_rfl) (by kernel_rfl) (by kernel_rfl) fun a p h => by rw [← h]; exact run21 N a.1

/-! ### tiller/nat.both: function 18 -/
noncomputable def c18 : Code := (Try.f18.body).getD .skip
noncomputable def T18 : Tb := ⟨tyOf tys, [], [], wrNil⟩
noncomputable def G18 {R : Type} (N : Nat) : FuncId → List AV → (AV → Option R) → Option R := gCons 21 (gOf ad21 rd21 (F21 N)) (gNil)
theorem gok18 {R : Type} (N : Nat) : GOK Try.prog (G18 (R := R) N) := gCons_ok (ok21 N) (gNil_ok)
noncomputable def live18 : List (Nat × List (Nat × HK)) := []
noncomputable def ad18 : Ad (List Int × List Int × Unit) := aC (cLi .u32) (aC (cLi .u32) (a0))
noncomputable def rd18 : Rd (Option Int) := r1 (cErr 50)
noncomputable def fn_nat_both (N : Nat) (x0 : List Int) (x1 : List Int) : Option (Option Int) :=
  (fn_nat_Check N x0).bind fun r1 =>
   cond (!(isNoneI r1))
    (some (some 1))
    ((fn_nat_Check N x1).bind fun r2 =>
     cond (!(isNoneI r2))
      (some (some 1))
      (some none))
theorem run18 (N : Nat) (x0 : List Int) (x1 : List Int) : Eng.run T18 (G18 N) N live18 c18 Try.f18.results.toList Try.f18.ntmps ((ad18).enc (x0, x1, ())) (rd18).dec = fn_nat_both N x0 x1 := by kernel_rfl
noncomputable def F18 (N : Nat) (a : List Int × List Int × Unit) : Option (Option Int) := fn_nat_both N a.1 a.2.1
theorem ok18 (N : Nat) : FnOK Try.prog 18 ad18 rd18 (F18 N) :=
  fn_ok (N := N) (live := live18) (code := c18) (tok T18.rt T18.kl (wrNil_ok)) mixed (gok18 N) Try.func18 (by kernel_rfl) (by kernel_rfl) (by kernel_rfl) fun a p h => by rw [← h]; exact run18 N a.1 a.2.1

/-! ### (tiller/nat.N).at: function 19 -/
noncomputable def c19 : Code := (Try.f19.body).getD .skip
noncomputable def T19 : Tb := ⟨tyOf tys, [], [], wrNil⟩
noncomputable def G19 {R : Type} (N : Nat) : FuncId → List AV → (AV → Option R) → Option R := gNil
theorem gok19 {R : Type} (N : Nat) : GOK Try.prog (G19 (R := R) N) := gNil_ok
noncomputable def live19 : List (Nat × List (Nat × HK)) := []
noncomputable def ad19 : Ad (List Int × Int × Unit) := aC (cLi .u32) (aC (cInt .i64) (a0))
noncomputable def rd19 : Rd (Int) := r1 (cInt .u64)
noncomputable def fn_nat_N_at (N : Nat) (x0 : List Int) (x1 : Int) : Option (Int) :=
  cond (ltI x1 (x0.length : Int))
   (cond (leI 0 x1)
    (cond (ltI x1 (x0.length : Int))
     (some (cvI .u64 (lrd x0 x1)))
     (none))
    (none))
   (some 0)
theorem run19 (N : Nat) (x0 : List Int) (x1 : Int) : Eng.run T19 (G19 N) N live19 c19 Try.f19.results.toList Try.f19.ntmps ((ad19).enc (x0, x1, ())) (rd19).dec = fn_nat_N_at N x0 x1 := by kernel_rfl
noncomputable def F19 (N : Nat) (a : List Int × Int × Unit) : Option (Int) := fn_nat_N_at N a.1 a.2.1
theorem ok19 (N : Nat) : FnOK Try.prog 19 ad19 rd19 (F19 N) :=
  fn_ok (N := N) (live := live19) (code := c19) (tok T19.rt T19.kl (wrNil_ok)) mixed (gok19 N) Try.func19 (by kernel_rfl) (by kernel_rfl) (by kernel_rfl) fun a p h => by rw [← h]; exact run19 N a.1 a.2.1

/-! ### slices.Clip[tiller/nat.N,uint32]: function 34 -/
noncomputable def c34 : Code := (Try.f34.body).getD .skip
noncomputable def T34 : Tb := ⟨tyOf tys, [], [], wrNil⟩
noncomputable def G34 {R : Type} (N : Nat) : FuncId → List AV → (AV → Option R) → Option R := gNil
theorem gok34 {R : Type} (N : Nat) : GOK Try.prog (G34 (R := R) N) := gNil_ok
noncomputable def live34 : List (Nat × List (Nat × HK)) := []
noncomputable def ad34 : Ad (List Int × Unit) := aC (cLi .u32) (a0)
noncomputable def rd34 : Rd (List Int) := r1 (cLi .u32)
noncomputable def fn_nat_N_uint32 (N : Nat) (x0 : List Int) : Option (List Int) :=
  cond (((((leI 0 0) && (leI 0 (x0.length : Int))) && (leI (x0.length : Int) (x0.length : Int))) && (leI (x0.length : Int) (x0.length : Int))) && (true || false))
   (some ((x0.take ((x0.length : Int).toNat)).drop ((0 : Int).toNat)))
   (none)
theorem run34 (N : Nat) (x0 : List Int) : Eng.run T34 (G34 N) N live34 c34 Try.f34.results.toList Try.f34.ntmps ((ad34).enc (x0, ())) (rd34).dec = fn_nat_N_uint32 N x0 := by kernel_rfl
noncomputable def F34 (N : Nat) (a : List Int × Unit) : Option (List Int) := fn_nat_N_uint32 N a.1
theorem ok34 (N : Nat) : FnOK Try.prog 34 ad34 rd34 (F34 N) :=
  fn_ok (N := N) (live := live34) (code := c34) (tok T34.rt T34.kl (wrNil_ok)) mixed (gok34 N) Try.func34 (by kernel_rfl) (by kernel_rfl) (by kernel_rfl) fun a p h => by rw [← h]; exact run34 N a.1

/-! ### tiller/nat.bounded: function 20 -/
noncomputable def c20 : Code := (Try.f20.body).getD .skip
noncomputable def T20 : Tb := ⟨tyOf tys, [], [], wrNil⟩
noncomputable def G20 {R : Type} (N : Nat) : FuncId → List AV → (AV → Option R) → Option R := gCons 17 (gOf ad17 rd17 (F17 N)) (gCons 34 (gOf ad34 rd34 (F34 N)) (gNil))
theorem gok20 {R : Type} (N : Nat) : GOK Try.prog (G20 (R := R) N) := gCons_ok (ok17 N) (gCons_ok (ok34 N) (gNil_ok))
noncomputable def live20 : List (Nat × List (Nat × HK)) := []
noncomputable def ad20 : Ad (List Int × Unit) := aC (cLi .u32) (a0)
noncomputable def rd20 : Rd (List Int × Option Int) := r2 (cLi .u32) (cErr 50)
noncomputable def fn_nat_bounded (N : Nat) (x0 : List Int) : Option (List Int × Option Int) :=
  (fn_nat_trim N x0).bind fun r1 =>
   cond (ltI 8192 (r1.length : Int))
    (some ([], some 2))
    ((fn_nat_N_uint32 N r1).bind fun r2 =>
     some (r2, none))
theorem run20 (N : Nat) (x0 : List Int) : Eng.run T20 (G20 N) N live20 c20 Try.f20.results.toList Try.f20.ntmps ((ad20).enc (x0, ())) (rd20).dec = fn_nat_bounded N x0 := by kernel_rfl
noncomputable def F20 (N : Nat) (a : List Int × Unit) : Option (List Int × Option Int) := fn_nat_bounded N a.1
theorem ok20 (N : Nat) : FnOK Try.prog 20 ad20 rd20 (F20 N) :=
  fn_ok (N := N) (live := live20) (code := c20) (tok T20.rt T20.kl (wrNil_ok)) mixed (gok20 N) Try.func20 (by kernel_rfl) (by kernel_rfl) (by kernel_rfl) fun a p h => by rw [← h]; exact run20 N a.1

/-! ### tiller/nat.Add: function 6 -/
noncomputable def c6 : Code := (Try.f6.body).getD .skip
noncomputable def T6 : Tb := ⟨tyOf tys, [(41, 7)], [46], wrNil⟩
noncomputable def G6 {R : Type} (N : Nat) : FuncId → List AV → (AV → Option R) → Option R := gCons 18 (gOf ad18 rd18 (F18 N)) (gCons 19 (gOf ad19 rd19 (F19 N)) (gCons 20 (gOf ad20 rd20 (F20 N)) (gNil)))
theorem gok6 {R : Type} (N : Nat) : GOK Try.prog (G6 (R := R) N) := gCons_ok (ok18 N) (gCons_ok (ok19 N) (gCons_ok (ok20 N) (gNil_ok)))
noncomputable def live6 : List (Nat × List (Nat × HK)) := [(7, [(0, .keep), (1, .keep), (7, .row .u32 44), (8, .keep), (24, .keep), (25, .keep)])]
noncomputable def ad6 : Ad (List Int × List Int × Unit) := aC (cLi .u32) (aC (cLi .u32) (a0))
noncomputable def rd6 : Rd (List Int × Option Int) := r2 (cLi .u32) (cErr 50)
noncomputable def st6_0 (v0 : List Int) (v1 : List Int) (v2 : Int) (v3 : Int) (v4 : Int) (v5 : List Int) : St := ⟨[AV.li .u32 v0, AV.li .u32 v1, AV.none, AV.none, AV.none, AV.none, AV.none, AV.own 7, AV.v (.int .u64 v2), AV.none, AV.none, AV.none, AV.none, AV.none, AV.none, AV.none, AV.none, AV.none, AV.none, AV.none, AV.none, AV.none, AV.none, AV.none, AV.v (.int .i64 v3), AV.v (.int .i64 v4), AV.none, AV.none, AV.none, AV.none, AV.none, AV.none, AV.none, AV.none, AV.none, AV.none, AV.none, AV.none, AV.none, AV.none, AV.none, AV.none, AV.none, AV.none, AV.none, AV.none, AV.none, AV.none, AV.none], [none, none, none, none, none, none, none, some (OB.row .u32 44 v5), none, none, none, none, none, none, none, none, none, none, none, none, none, none, none, none, none, none, none, none, none, none, none, none, none, none, none, none, none, none, none, none, none, none, none, none, none, none, none, none, none]⟩
noncomputable def raw6_0 (N : Nat) (n : Nat) (v0 : List Int) (v1 : List Int) (v2 : Int) (v3 : Int) (v4 : Int) (v5 : List Int) : Option (List Int × Option Int) := loopN (lookN live6 7) (exec T6 (G6 N) N live6 (cL (cL (cR (cL (cR (cR (cR (cR c6))))))))) n (st6_0 v0 v1 v2 v3 v4 v5) (blockK 0 (seqK (exec T6 (G6 N) N live6 (cR (cR (cR (cR (cR c6)))))) (retK T6 Try.f6.results.toList (rd6).dec)))
noncomputable def s6_0 (N : Nat) (Ln0 : List Int → List Int → Int → Int → Int → List Int → Option (List Int × Option Int)) (v0 : List Int) (v1 : List Int) (v2 : Int) (v3 : Int) (v4 : Int) (v5 : List Int) : Option (List Int × Option Int) :=
  cond (ltI v4 v3)
   ((fn_nat_N_at N v0 v4).bind fun r2 =>
    (fn_nat_N_at N v1 v4).bind fun r3 =>
     cond (leI 0 v4)
      (cond (ltI v4 (v5.length : Int))
       (Ln0 v0 v1 (shrI .u64 (addI .u64 v2 (addI .u64 r2 r3)) 32) v3 (addI .i64 v4 1) (v5.set v4.toNat (cvI .u32 (addI .u64 v2 (addI .u64 r2 r3)))))
       (none))
      (none))
   ((fn_nat_bounded N v5).bind fun r4 =>
    some (r4.1, r4.2))
theorem step6_0 (N : Nat) (n : Nat) (v0 : List Int) (v1 : List Int) (v2 : Int) (v3 : Int) (v4 : Int) (v5 : List Int) : raw6_0 N  (n + 1) v0 v1 v2 v3 v4 v5 = s6_0 N (raw6_0 N  n) v0 v1 v2 v3 v4 v5 := by kernel_rfl
noncomputable def l6_0 (N : Nat) : Nat → List Int → List Int → Int → Int → Int → List Int → Option (List Int × Option Int)
  | 0 => fun _ _ _ _ _ _ => none
  | n + 1 => fun v0 v1 v2 v3 v4 v5 => s6_0 N (l6_0 N  n) v0 v1 v2 v3 v4 v5
theorem eq6_0 (N : Nat) : ∀ n, raw6_0 N  n = l6_0 N  n := by
  intro n
  induction n with
  | zero => exact funext fun v0 => funext fun v1 => funext fun v2 => funext fun v3 => funext fun v4 => funext fun v5 => rfl
  | succ n ih => exact funext fun v0 => funext fun v1 => funext fun v2 => funext fun v3 => funext fun v4 => funext fun v5 => by rw [step6_0, ih]; rfl
noncomputable def t6 (N : Nat) (Le0 : List Int → List Int → Int → Int → Int → List Int → Option (List Int × Option Int)) (x0 : List Int) (x1 : List Int) : Option (List Int × Option Int) :=
  (fn_nat_both N x0 x1).bind fun r1 =>
   cond (!(isNoneI r1))
    (some ([], r1))
    (cond (leI 0 (addI .i64 (maxI (x0.length : Int) (x1.length : Int)) 1))
     (cond (leI (addI .i64 (maxI (x0.length : Int) (x1.length : Int)) 1) 17592186044416)
      (Le0 x0 x1 0 ((List.replicate ((addI .i64 (maxI (x0.length : Int) (x1.length : Int)) 1).toNat) (0 : Int)).length : Int) 0 (List.replicate ((addI .i64 (maxI (x0.length : Int) (x1.length : Int)) 1).toNat) (0 : Int)))
      (none))
     (none))
noncomputable def fn_nat_Add (N : Nat) (x0 : List Int) (x1 : List Int) : Option (List Int × Option Int) := t6 N (l6_0 N N) x0 x1
theorem run6 (N : Nat) (x0 : List Int) (x1 : List Int) : Eng.run T6 (G6 N) N live6 c6 Try.f6.results.toList Try.f6.ntmps ((ad6).enc (x0, x1, ())) (rd6).dec = fn_nat_Add N x0 x1 := by
  refine Eq.trans (show _ = t6 N (raw6_0 N N) x0 x1 from by kernel_rfl) ?_
  unfold fn_nat_Add
  rw [eq6_0 N N]
noncomputable def F6 (N : Nat) (a : List Int × List Int × Unit) : Option (List Int × Option Int) := fn_nat_Add N a.1 a.2.1
theorem ok6 (N : Nat) : FnOK Try.prog 6 ad6 rd6 (F6 N) :=
  fn_ok (N := N) (live := live6) (code := c6) (tok T6.rt T6.kl (wrNil_ok)) mixed (gok6 N) Try.func6 (by kernel_rfl) (by kernel_rfl) (by kernel_rfl) fun a p h => by rw [← h]; exact run6 N a.1 a.2.1

/-! ### tiller/nat.up: function 22 -/
noncomputable def c22 : Code := (Try.f22.body).getD .skip
noncomputable def T22 : Tb := ⟨tyOf tys, [(38, 5), (43, 5), (53, 5)], [56], wrNil⟩
noncomputable def G22 {R : Type} (N : Nat) : FuncId → List AV → (AV → Option R) → Option R := gCons 17 (gOf ad17 rd17 (F17 N)) (gNil)
theorem gok22 {R : Type} (N : Nat) : GOK Try.prog (G22 (R := R) N) := gCons_ok (ok17 N) (gNil_ok)
noncomputable def live22 : List (Nat × List (Nat × HK)) := [(6, [(1, .keep), (5, .row .u32 44), (6, .keep), (22, .keep), (23, .keep), (24, .keep)])]
noncomputable def ad22 : Ad (List Int × Int × Unit) := aC (cLi .u32) (aC (cInt .i64) (a0))
noncomputable def rd22 : Rd (List Int) := r1 (cLi .u32)
noncomputable def st22_0 (v0 : Int) (v1 : Int) (v2 : List Int) (v3 : Int) (v4 : Int) (v5 : List Int) : St := ⟨[AV.none, AV.v (.int .i64 v0), AV.none, AV.none, AV.none, AV.own 5, AV.v (.int .i64 v1), AV.none, AV.none, AV.none, AV.none, AV.none, AV.none, AV.none, AV.none, AV.none, AV.none, AV.none, AV.none, AV.none, AV.none, AV.none, AV.li .u32 v2, AV.v (.int .i64 v3), AV.v (.int .i64 v4), AV.none, AV.none, AV.none, AV.none, AV.none, AV.none, AV.none, AV.none, AV.none, AV.none, AV.none, AV.none, AV.none, AV.none, AV.none, AV.none, AV.none, AV.none, AV.none, AV.none, AV.none, AV.none, AV.none, AV.none, AV.none, AV.none, AV.none, AV.none, AV.none, AV.none, AV.none, AV.none], [none, none, none, none, none, some (OB.row .u32 44 v5), none, none, none, none, none, none, none, none, none, none, none, none, none, none, none, none, none, none, none, none, none, none, none, none, none, none, none, none, none, none, none, none, none, none, none, none, none, none, none, none, none, none, none, none, none, none, none, none, none, none, none]⟩
noncomputable def raw22_0 (N : Nat) (n : Nat) (v0 : Int) (v1 : Int) (v2 : List Int) (v3 : Int) (v4 : Int) (v5 : List Int) : Option (List Int) := loopN (lookN live22 6) (exec T22 (G22 N) N live22 (cL (cL (cR (cL (cR (cR (cR (cR c22))))))))) n (st22_0 v0 v1 v2 v3 v4 v5) (blockK 0 (seqK (exec T22 (G22 N) N live22 (cR (cR (cR (cR (cR c22)))))) (retK T22 Try.f22.results.toList (rd22).dec)))
noncomputable def s22_0 (N : Nat) (Ln0 : Int → Int → List Int → Int → Int → List Int → Option (List Int)) (v0 : Int) (v1 : Int) (v2 : List Int) (v3 : Int) (v4 : Int) (v5 : List Int) : Option (List Int) :=
  cond (ltI v4 v3)
   (cond (leI 0 v4)
    (cond (ltI v4 (v2.length : Int))
     (cond (ltI v1 0)
      (none)
      (cond (leI 0 (addI .i64 v4 (quoI .i64 v0 32)))
       (cond (ltI (addI .i64 v4 (quoI .i64 v0 32)) (v5.length : Int))
        (cond (leI 0 (addI .i64 v4 (quoI .i64 v0 32)))
         (cond (ltI (addI .i64 v4 (quoI .i64 v0 32)) (v5.length : Int))
          (cond (leI 0 (addI .i64 (addI .i64 v4 (quoI .i64 v0 32)) 1))
           (cond (ltI (addI .i64 (addI .i64 v4 (quoI .i64 v0 32)) 1) ((v5.set ((addI .i64 v4 (quoI .i64 v0 32)).toNat) (orI .u32 (lrd v5 (addI .i64 v4 (quoI .i64 v0 32))) (cvI .u32 (shlI .u64 (cvI .u64 (lrd v2 v4)) v1)))).length : Int))
            (Ln0 v0 v1 v2 v3 (addI .i64 v4 1) ((v5.set ((addI .i64 v4 (quoI .i64 v0 32)).toNat) (orI .u32 (lrd v5 (addI .i64 v4 (quoI .i64 v0 32))) (cvI .u32 (shlI .u64 (cvI .u64 (lrd v2 v4)) v1)))).set ((addI .i64 (addI .i64 v4 (quoI .i64 v0 32)) 1).toNat) (cvI .u32 (shrI .u64 (shlI .u64 (cvI .u64 (lrd v2 v4)) v1) 32))))
            (none))
           (none))
          (none))
         (none))
        (none))
       (none)))
     (none))
    (none))
   ((fn_nat_trim N v5).bind fun r1 =>
    some r1)
theorem step22_0 (N : Nat) (n : Nat) (v0 : Int) (v1 : Int) (v2 : List Int) (v3 : Int) (v4 : Int) (v5 : List Int) : raw22_0 N  (n + 1) v0 v1 v2 v3 v4 v5 = s22_0 N (raw22_0 N  n) v0 v1 v2 v3 v4 v5 := by kernel_rfl
noncomputable def l22_0 (N : Nat) : Nat → Int → Int → List Int → Int → Int → List Int → Option (List Int)
  | 0 => fun _ _ _ _ _ _ => none
  | n + 1 => fun v0 v1 v2 v3 v4 v5 => s22_0 N (l22_0 N  n) v0 v1 v2 v3 v4 v5
theorem eq22_0 (N : Nat) : ∀ n, raw22_0 N  n = l22_0 N  n := by
  intro n
  induction n with
  | zero => exact funext fun v0 => funext fun v1 => funext fun v2 => funext fun v3 => funext fun v4 => funext fun v5 => rfl
  | succ n ih => exact funext fun v0 => funext fun v1 => funext fun v2 => funext fun v3 => funext fun v4 => funext fun v5 => by rw [step22_0, ih]; rfl
noncomputable def t22 (N : Nat) (Le0 : Int → Int → List Int → Int → Int → List Int → Option (List Int)) (x0 : List Int) (x1 : Int) : Option (List Int) :=
  cond (eqI (x0.length : Int) 0)
   (some [])
   (cond (leI 0 (addI .i64 (addI .i64 (x0.length : Int) (quoI .i64 x1 32)) 1))
    (cond (leI (addI .i64 (addI .i64 (x0.length : Int) (quoI .i64 x1 32)) 1) 17592186044416)
     (Le0 x1 (remI .i64 x1 32) x0 (x0.length : Int) 0 (List.replicate ((addI .i64 (addI .i64 (x0.length : Int) (quoI .i64 x1 32)) 1).toNat) (0 : Int)))
     (none))
    (none))
noncomputable def fn_nat_up (N : Nat) (x0 : List Int) (x1 : Int) : Option (List Int) := t22 N (l22_0 N N) x0 x1
theorem run22 (N : Nat) (x0 : List Int) (x1 : Int) : Eng.run T22 (G22 N) N live22 c22 Try.f22.results.toList Try.f22.ntmps ((ad22).enc (x0, x1, ())) (rd22).dec = fn_nat_up N x0 x1 := by
  refine Eq.trans (show _ = t22 N (raw22_0 N N) x0 x1 from by kernel_rfl) ?_
  unfold fn_nat_up
  rw [eq22_0 N N]
noncomputable def F22 (N : Nat) (a : List Int × Int × Unit) : Option (List Int) := fn_nat_up N a.1 a.2.1
theorem ok22 (N : Nat) : FnOK Try.prog 22 ad22 rd22 (F22 N) :=
  fn_ok (N := N) (live := live22) (code := c22) (tok T22.rt T22.kl (wrNil_ok)) mixed (gok22 N) Try.func22 (by kernel_rfl) (by kernel_rfl) (by kernel_rfl) fun a p h => by rw [← h]; exact run22 N a.1 a.2.1

/-! ### tiller/nat.Shl: function 7 -/
noncomputable def c7 : Code := (Try.f7.body).getD .skip
noncomputable def T7 : Tb := ⟨tyOf tys, [], [], wrNil⟩
noncomputable def G7 {R : Type} (N : Nat) : FuncId → List AV → (AV → Option R) → Option R := gCons 21 (gOf ad21 rd21 (F21 N)) (gCons 22 (gOf ad22 rd22 (F22 N)) (gCons 20 (gOf ad20 rd20 (F20 N)) (gNil)))
theorem gok7 {R : Type} (N : Nat) : GOK Try.prog (G7 (R := R) N) := gCons_ok (ok21 N) (gCons_ok (ok22 N) (gCons_ok (ok20 N) (gNil_ok)))
noncomputable def live7 : List (Nat × List (Nat × HK)) := []
noncomputable def ad7 : Ad (List Int × Int × Unit) := aC (cLi .u32) (aC (cInt .i64) (a0))
noncomputable def rd7 : Rd (List Int × Option Int) := r2 (cLi .u32) (cErr 50)
noncomputable def fn_nat_Shl (N : Nat) (x0 : List Int) (x1 : Int) : Option (List Int × Option Int) :=
  (fn_nat_Check N x0).bind fun r1 =>
   cond (!(isNoneI r1))
    (some ([], some 1))
    (cond (ltI x1 0)
     (some ([], some 1))
     (cond (eqI (x0.length : Int) 0)
      (some ([], none))
      (cond (ltI 262144 x1)
       (some ([], some 2))
       ((fn_nat_up N x0 x1).bind fun r2 =>
        (fn_nat_bounded N r2).bind fun r3 =>
         some (r3.1, r3.2)))))
theorem run7 (N : Nat) (x0 : List Int) (x1 : Int) : Eng.run T7 (G7 N) N live7 c7 Try.f7.results.toList Try.f7.ntmps ((ad7).enc (x0, x1, ())) (rd7).dec = fn_nat_Shl N x0 x1 := by kernel_rfl
noncomputable def F7 (N : Nat) (a : List Int × Int × Unit) : Option (List Int × Option Int) := fn_nat_Shl N a.1 a.2.1
theorem ok7 (N : Nat) : FnOK Try.prog 7 ad7 rd7 (F7 N) :=
  fn_ok (N := N) (live := live7) (code := c7) (tok T7.rt T7.kl (wrNil_ok)) mixed (gok7 N) Try.func7 (by kernel_rfl) (by kernel_rfl) (by kernel_rfl) fun a p h => by rw [← h]; exact run7 N a.1 a.2.1

/-! ### tiller/nat.compare: function 23 -/
noncomputable def c23 : Code := (Try.f23.body).getD .skip
noncomputable def T23 : Tb := ⟨tyOf tys, [], [], wrNil⟩
noncomputable def G23 {R : Type} (N : Nat) : FuncId → List AV → (AV → Option R) → Option R := gNil
theorem gok23 {R : Type} (N : Nat) : GOK Try.prog (G23 (R := R) N) := gNil_ok
noncomputable def live23 : List (Nat × List (Nat × HK)) := [(6, [(0, .keep), (1, .keep), (5, .keep)])]
noncomputable def ad23 : Ad (List Int × List Int × Unit) := aC (cLi .u32) (aC (cLi .u32) (a0))
noncomputable def rd23 : Rd (Int) := r1 (cInt .i64)
noncomputable def st23_0 (v0 : List Int) (v1 : List Int) (v2 : Int) : St := ⟨[AV.li .u32 v0, AV.li .u32 v1, AV.none, AV.none, AV.none, AV.v (.int .i64 v2), AV.none, AV.none, AV.none, AV.none, AV.none, AV.none, AV.none, AV.none, AV.none, AV.none, AV.none, AV.none, AV.none, AV.none, AV.none, AV.none, AV.none, AV.none, AV.none, AV.none, AV.none, AV.none, AV.none, AV.none, AV.none, AV.none, AV.none, AV.none, AV.none, AV.none, AV.none, AV.none, AV.none, AV.none, AV.none, AV.none, AV.none], [none, none, none, none, none, none, none, none, none, none, none, none, none, none, none, none, none, none, none, none, none, none, none, none, none, none, none, none, none, none, none, none, none, none, none, none, none, none, none, none, none, none, none]⟩
noncomputable def raw23_0 (N : Nat) (n : Nat) (v0 : List Int) (v1 : List Int) (v2 : Int) : Option (Int) := loopN (lookN live23 6) (exec T23 (G23 N) N live23 (cL (cL (cR (cL (cR (cR c23))))))) n (st23_0 v0 v1 v2) (blockK 0 (seqK (exec T23 (G23 N) N live23 (cR (cR (cR c23)))) (retK T23 Try.f23.results.toList (rd23).dec)))
noncomputable def s23_0 (N : Nat) (Ln0 : List Int → List Int → Int → Option (Int)) (v0 : List Int) (v1 : List Int) (v2 : Int) : Option (Int) :=
  cond (leI 0 v2)
   (cond (leI 0 v2)
    (cond (ltI v2 (v0.length : Int))
     (cond (leI 0 v2)
      (cond (ltI v2 (v1.length : Int))
       (cond (ltI (lrd v0 v2) (lrd v1 v2))
        (some (-1))
        (cond (leI 0 v2)
         (cond (ltI v2 (v0.length : Int))
          (cond (leI 0 v2)
           (cond (ltI v2 (v1.length : Int))
            (cond (ltI (lrd v1 v2) (lrd v0 v2))
             (some 1)
             (Ln0 v0 v1 (subI .i64 v2 1)))
            (none))
           (none))
          (none))
         (none)))
       (none))
      (none))
     (none))
    (none))
   (some 0)
theorem step23_0 (N : Nat) (n : Nat) (v0 : List Int) (v1 : List Int) (v2 : Int) : raw23_0 N  (n + 1) v0 v1 v2 = s23_0 N (raw23_0 N  n) v0 v1 v2 := by kernel_rfl
noncomputable def l23_0 (N : Nat) : Nat → List Int → List Int → Int → Option (Int)
  | 0 => fun _ _ _ => none
  | n + 1 => fun v0 v1 v2 => s23_0 N (l23_0 N  n) v0 v1 v2
theorem eq23_0 (N : Nat) : ∀ n, raw23_0 N  n = l23_0 N  n := by
  intro n
  induction n with
  | zero => exact funext fun v0 => funext fun v1 => funext fun v2 => rfl
  | succ n ih => exact funext fun v0 => funext fun v1 => funext fun v2 => by rw [step23_0, ih]; rfl
noncomputable def t23 (N : Nat) (Le0 : List Int → List Int → Int → Option (Int)) (x0 : List Int) (x1 : List Int) : Option (Int) :=
  cond (!(eqI (x0.length : Int) (x1.length : Int)))
   (cond (ltI (x0.length : Int) (x1.length : Int))
    (some (-1))
    (some 1))
   (Le0 x0 x1 (subI .i64 (x0.length : Int) 1))
noncomputable def fn_nat_compare (N : Nat) (x0 : List Int) (x1 : List Int) : Option (Int) := t23 N (l23_0 N N) x0 x1
theorem run23 (N : Nat) (x0 : List Int) (x1 : List Int) : Eng.run T23 (G23 N) N live23 c23 Try.f23.results.toList Try.f23.ntmps ((ad23).enc (x0, x1, ())) (rd23).dec = fn_nat_compare N x0 x1 := by
  refine Eq.trans (show _ = t23 N (raw23_0 N N) x0 x1 from by kernel_rfl) ?_
  unfold fn_nat_compare
  rw [eq23_0 N N]
noncomputable def F23 (N : Nat) (a : List Int × List Int × Unit) : Option (Int) := fn_nat_compare N a.1 a.2.1
theorem ok23 (N : Nat) : FnOK Try.prog 23 ad23 rd23 (F23 N) :=
  fn_ok (N := N) (live := live23) (code := c23) (tok T23.rt T23.kl (wrNil_ok)) mixed (gok23 N) Try.func23 (by kernel_rfl) (by kernel_rfl) (by kernel_rfl) fun a p h => by rw [← h]; exact run23 N a.1 a.2.1

/-! ### tiller/nat.less: function 24 -/
noncomputable def c24 : Code := (Try.f24.body).getD .skip
noncomputable def T24 : Tb := ⟨tyOf tys, [(30, 5)], [35], wrNil⟩
noncomputable def G24 {R : Type} (N : Nat) : FuncId → List AV → (AV → Option R) → Option R := gCons 19 (gOf ad19 rd19 (F19 N)) (gCons 17 (gOf ad17 rd17 (F17 N)) (gNil))
theorem gok24 {R : Type} (N : Nat) : GOK Try.prog (G24 (R := R) N) := gCons_ok (ok19 N) (gCons_ok (ok17 N) (gNil_ok))
noncomputable def live24 : List (Nat × List (Nat × HK)) := [(4, [(0, .keep), (1, .keep), (5, .row .u32 44), (6, .keep), (13, .keep), (14, .keep)])]
noncomputable def ad24 : Ad (List Int × List Int × Unit) := aC (cLi .u32) (aC (cLi .u32) (a0))
noncomputable def rd24 : Rd (List Int) := r1 (cLi .u32)
noncomputable def st24_0 (v0 : List Int) (v1 : List Int) (v2 : Int) (v3 : Int) (v4 : Int) (v5 : List Int) : St := ⟨[AV.li .u32 v0, AV.li .u32 v1, AV.none, AV.none, AV.none, AV.own 5, AV.v (.int .u64 v2), AV.none, AV.none, AV.none, AV.none, AV.none, AV.none, AV.v (.int .i64 v3), AV.v (.int .i64 v4), AV.none, AV.none, AV.none, AV.none, AV.none, AV.none, AV.none, AV.none, AV.none, AV.none, AV.none, AV.none, AV.none, AV.none, AV.none, AV.none, AV.none, AV.none, AV.none, AV.none, AV.none], [none, none, none, none, none, some (OB.row .u32 44 v5), none, none, none, none, none, none, none, none, none, none, none, none, none, none, none, none, none, none, none, none, none, none, none, none, none, none, none, none, none, none]⟩
noncomputable def raw24_0 (N : Nat) (n : Nat) (v0 : List Int) (v1 : List Int) (v2 : Int) (v3 : Int) (v4 : Int) (v5 : List Int) : Option (List Int) := loopN (lookN live24 4) (exec T24 (G24 N) N live24 (cL (cL (cR (cL (cR (cR (cR c24)))))))) n (st24_0 v0 v1 v2 v3 v4 v5) (blockK 0 (seqK (exec T24 (G24 N) N live24 (cR (cR (cR (cR c24))))) (retK T24 Try.f24.results.toList (rd24).dec)))
noncomputable def s24_0 (N : Nat) (Ln0 : List Int → List Int → Int → Int → Int → List Int → Option (List Int)) (v0 : List Int) (v1 : List Int) (v2 : Int) (v3 : Int) (v4 : Int) (v5 : List Int) : Option (List Int) :=
  cond (ltI v4 v3)
   ((fn_nat_N_at N v0 v4).bind fun r1 =>
    (fn_nat_N_at N v1 v4).bind fun r2 =>
     cond (leI 0 v4)
      (cond (ltI v4 (v5.length : Int))
       (Ln0 v0 v1 (shrI .u64 (subI .u64 (subI .u64 r1 r2) v2) 63) v3 (addI .i64 v4 1) (v5.set v4.toNat (cvI .u32 (subI .u64 (subI .u64 r1 r2) v2))))
       (none))
      (none))
   ((fn_nat_trim N v5).bind fun r3 =>
    some r3)
theorem step24_0 (N : Nat) (n : Nat) (v0 : List Int) (v1 : List Int) (v2 : Int) (v3 : Int) (v4 : Int) (v5 : List Int) : raw24_0 N  (n + 1) v0 v1 v2 v3 v4 v5 = s24_0 N (raw24_0 N  n) v0 v1 v2 v3 v4 v5 := by kernel_rfl
noncomputable def l24_0 (N : Nat) : Nat → List Int → List Int → Int → Int → Int → List Int → Option (List Int)
  | 0 => fun _ _ _ _ _ _ => none
  | n + 1 => fun v0 v1 v2 v3 v4 v5 => s24_0 N (l24_0 N  n) v0 v1 v2 v3 v4 v5
theorem eq24_0 (N : Nat) : ∀ n, raw24_0 N  n = l24_0 N  n := by
  intro n
  induction n with
  | zero => exact funext fun v0 => funext fun v1 => funext fun v2 => funext fun v3 => funext fun v4 => funext fun v5 => rfl
  | succ n ih => exact funext fun v0 => funext fun v1 => funext fun v2 => funext fun v3 => funext fun v4 => funext fun v5 => by rw [step24_0, ih]; rfl
noncomputable def t24 (N : Nat) (Le0 : List Int → List Int → Int → Int → Int → List Int → Option (List Int)) (x0 : List Int) (x1 : List Int) : Option (List Int) :=
  cond (leI 0 (x0.length : Int))
   (cond (leI (x0.length : Int) 17592186044416)
    (Le0 x0 x1 0 ((List.replicate ((x0.length : Int).toNat) (0 : Int)).length : Int) 0 (List.replicate ((x0.length : Int).toNat) (0 : Int)))
    (none))
   (none)
noncomputable def fn_nat_less (N : Nat) (x0 : List Int) (x1 : List Int) : Option (List Int) := t24 N (l24_0 N N) x0 x1
theorem run24 (N : Nat) (x0 : List Int) (x1 : List Int) : Eng.run T24 (G24 N) N live24 c24 Try.f24.results.toList Try.f24.ntmps ((ad24).enc (x0, x1, ())) (rd24).dec = fn_nat_less N x0 x1 := by
  refine Eq.trans (show _ = t24 N (raw24_0 N N) x0 x1 from by kernel_rfl) ?_
  unfold fn_nat_less
  rw [eq24_0 N N]
noncomputable def F24 (N : Nat) (a : List Int × List Int × Unit) : Option (List Int) := fn_nat_less N a.1 a.2.1
theorem ok24 (N : Nat) : FnOK Try.prog 24 ad24 rd24 (F24 N) :=
  fn_ok (N := N) (live := live24) (code := c24) (tok T24.rt T24.kl (wrNil_ok)) mixed (gok24 N) Try.func24 (by kernel_rfl) (by kernel_rfl) (by kernel_rfl) fun a p h => by rw [← h]; exact run24 N a.1 a.2.1

/-! ### tiller/nat.Sub: function 8 -/
noncomputable def c8 : Code := (Try.f8.body).getD .skip
noncomputable def T8 : Tb := ⟨tyOf tys, [], [], wrNil⟩
noncomputable def G8 {R : Type} (N : Nat) : FuncId → List AV → (AV → Option R) → Option R := gCons 18 (gOf ad18 rd18 (F18 N)) (gCons 23 (gOf ad23 rd23 (F23 N)) (gCons 24 (gOf ad24 rd24 (F24 N)) (gCons 20 (gOf ad20 rd20 (F20 N)) (gNil))))
theorem gok8 {R : Type} (N : Nat) : GOK Try.prog (G8 (R := R) N) := gCons_ok (ok18 N) (gCons_ok (ok23 N) (gCons_ok (ok24 N) (gCons_ok (ok20 N) (gNil_ok))))
noncomputable def live8 : List (Nat × List (Nat × HK)) := []
noncomputable def ad8 : Ad (List Int × List Int × Unit) := aC (cLi .u32) (aC (cLi .u32) (a0))
noncomputable def rd8 : Rd (List Int × Option Int) := r2 (cLi .u32) (cErr 50)
noncomputable def fn_nat_Sub (N : Nat) (x0 : List Int) (x1 : List Int) : Option (List Int × Option Int) :=
  (fn_nat_both N x0 x1).bind fun r1 =>
   cond (!(isNoneI r1))
    (some ([], some 1))
    ((fn_nat_compare N x0 x1).bind fun r2 =>
     cond (ltI r2 0)
      (some ([], some 4))
      ((fn_nat_less N x0 x1).bind fun r3 =>
       (fn_nat_bounded N r3).bind fun r4 =>
        some (r4.1, r4.2)))
theorem run8 (N : Nat) (x0 : List Int) (x1 : List Int) : Eng.run T8 (G8 N) N live8 c8 Try.f8.results.toList Try.f8.ntmps ((ad8).enc (x0, x1, ())) (rd8).dec = fn_nat_Sub N x0 x1 := by kernel_rfl
noncomputable def F8 (N : Nat) (a : List Int × List Int × Unit) : Option (List Int × Option Int) := fn_nat_Sub N a.1 a.2.1
theorem ok8 (N : Nat) : FnOK Try.prog 8 ad8 rd8 (F8 N) :=
  fn_ok (N := N) (live := live8) (code := c8) (tok T8.rt T8.kl (wrNil_ok)) mixed (gok8 N) Try.func8 (by kernel_rfl) (by kernel_rfl) (by kernel_rfl) fun a p h => by rw [← h]; exact run8 N a.1 a.2.1

/-! ### math/bits.Len32: function 25 -/
noncomputable def c25 : Code := (Try.f25.body).getD .skip
noncomputable def T25 : Tb := ⟨tyOf tys, [], [], wrNil⟩
noncomputable def G25 {R : Type} (N : Nat) : FuncId → List AV → (AV → Option R) → Option R := gNil
theorem gok25 {R : Type} (N : Nat) : GOK Try.prog (G25 (R := R) N) := gNil_ok
noncomputable def live25 : List (Nat × List (Nat × HK)) := []
noncomputable def ad25 : Ad (Int × Unit) := aC (cInt .u32) (a0)
noncomputable def rd25 : Rd (Int) := r1 (cInt .i64)
noncomputable def fn_bits_Len32 (N : Nat) (x0 : Int) : Option (Int) :=
  cond (leI 65536 x0)
   (cond (leI 256 (shrI .u32 x0 16))
    (cond (leI 0 (cvI .u8 (shrI .u32 (shrI .u32 x0 16) 8)))
     (cond (ltI (cvI .u8 (shrI .u32 (shrI .u32 x0 16) 8)) (str0.size : Int))
      (some (addI .i64 (addI .i64 16 8) (cvI .i64 (sAt str0 (cvI .u8 (shrI .u32 (shrI .u32 x0 16) 8))))))
      (none))
     (none))
    (cond (leI 0 (cvI .u8 (shrI .u32 x0 16)))
     (cond (ltI (cvI .u8 (shrI .u32 x0 16)) (str0.size : Int))
      (some (addI .i64 16 (cvI .i64 (sAt str0 (cvI .u8 (shrI .u32 x0 16))))))
      (none))
     (none)))
   (cond (leI 256 x0)
    (cond (leI 0 (cvI .u8 (shrI .u32 x0 8)))
     (cond (ltI (cvI .u8 (shrI .u32 x0 8)) (str0.size : Int))
      (some (addI .i64 (addI .i64 0 8) (cvI .i64 (sAt str0 (cvI .u8 (shrI .u32 x0 8))))))
      (none))
     (none))
    (cond (leI 0 (cvI .u8 x0))
     (cond (ltI (cvI .u8 x0) (str0.size : Int))
      (some (addI .i64 0 (cvI .i64 (sAt str0 (cvI .u8 x0)))))
      (none))
     (none)))
theorem run25 (N : Nat) (x0 : Int) : Eng.run T25 (G25 N) N live25 c25 Try.f25.results.toList Try.f25.ntmps ((ad25).enc (x0, ())) (rd25).dec = fn_bits_Len32 N x0 := by kernel_rfl
noncomputable def F25 (N : Nat) (a : Int × Unit) : Option (Int) := fn_bits_Len32 N a.1
theorem ok25 (N : Nat) : FnOK Try.prog 25 ad25 rd25 (F25 N) :=
  fn_ok (N := N) (live := live25) (code := c25) (tok T25.rt T25.kl (wrNil_ok)) mixed (gok25 N) Try.func25 (by kernel_rfl) (by kernel_rfl) (by kernel_rfl) fun a p h => by rw [← h]; exact run25 N a.1

/-! ### tiller/nat.Len: function 9 -/
noncomputable def c9 : Code := (Try.f9.body).getD .skip
noncomputable def T9 : Tb := ⟨tyOf tys, [], [], wrNil⟩
noncomputable def G9 {R : Type} (N : Nat) : FuncId → List AV → (AV → Option R) → Option R := gCons 21 (gOf ad21 rd21 (F21 N)) (gCons 25 (gOf ad25 rd25 (F25 N)) (gNil))
theorem gok9 {R : Type} (N : Nat) : GOK Try.prog (G9 (R := R) N) := gCons_ok (ok21 N) (gCons_ok (ok25 N) (gNil_ok))
noncomputable def live9 : List (Nat × List (Nat × HK)) := []
noncomputable def ad9 : Ad (List Int × Unit) := aC (cLi .u32) (a0)
noncomputable def rd9 : Rd (Int) := r1 (cInt .i64)
noncomputable def fn_nat_Len (N : Nat) (x0 : List Int) : Option (Int) :=
  (fn_nat_Check N x0).bind fun r1 =>
   cond (!(isNoneI r1))
    (some 0)
    (cond (eqI (x0.length : Int) 0)
     (some 0)
     (cond (leI 0 (subI .i64 (x0.length : Int) 1))
      (cond (ltI (subI .i64 (x0.length : Int) 1) (x0.length : Int))
       ((fn_bits_Len32 N (lrd x0 (subI .i64 (x0.length : Int) 1))).bind fun r2 =>
        some (addI .i64 (mulI .i64 32 (subI .i64 (x0.length : Int) 1)) r2))
       (none))
      (none)))
theorem run9 (N : Nat) (x0 : List Int) : Eng.run T9 (G9 N) N live9 c9 Try.f9.results.toList Try.f9.ntmps ((ad9).enc (x0, ())) (rd9).dec = fn_nat_Len N x0 := by kernel_rfl
noncomputable def F9 (N : Nat) (a : List Int × Unit) : Option (Int) := fn_nat_Len N a.1
theorem ok9 (N : Nat) : FnOK Try.prog 9 ad9 rd9 (F9 N) :=
  fn_ok (N := N) (live := live9) (code := c9) (tok T9.rt T9.kl (wrNil_ok)) mixed (gok9 N) Try.func9 (by kernel_rfl) (by kernel_rfl) (by kernel_rfl) fun a p h => by rw [← h]; exact run9 N a.1

/-! ### tiller/tillerlaw02.words: function 10 -/
noncomputable def c10 : Code := (Try.f10.body).getD .skip
noncomputable def T10 : Tb := ⟨tyOf tys, [], [], wrNil⟩
noncomputable def G10 {R : Type} (N : Nat) : FuncId → List AV → (AV → Option R) → Option R := gNil
theorem gok10 {R : Type} (N : Nat) : GOK Try.prog (G10 (R := R) N) := gNil_ok
noncomputable def live10 : List (Nat × List (Nat × HK)) := [(4, [(0, .keep), (1, .keep), (5, .keep)])]
noncomputable def ad10 : Ad (List Int × List Int × Unit) := aC (cLi .u32) (aC (cLi .u32) (a0))
noncomputable def rd10 : Rd (Bool) := r1 (cBool)
noncomputable def st10_0 (v0 : List Int) (v1 : List Int) (v2 : Int) : St := ⟨[AV.li .u32 v0, AV.li .u32 v1, AV.none, AV.none, AV.none, AV.v (.int .i64 v2), AV.none, AV.none, AV.none, AV.none, AV.none, AV.none, AV.none, AV.none, AV.none, AV.none, AV.none, AV.none, AV.none, AV.none, AV.none, AV.none, AV.none, AV.none, AV.none, AV.none], [none, none, none, none, none, none, none, none, none, none, none, none, none, none, none, none, none, none, none, none, none, none, none, none, none, none]⟩
noncomputable def raw10_0 (N : Nat) (n : Nat) (v0 : List Int) (v1 : List Int) (v2 : Int) : Option (Bool) := loopN (lookN live10 4) (exec T10 (G10 N) N live10 (cL (cL (cR (cL (cR (cR c10))))))) n (st10_0 v0 v1 v2) (blockK 0 (seqK (exec T10 (G10 N) N live10 (cR (cR (cR c10)))) (retK T10 Try.f10.results.toList (rd10).dec)))
noncomputable def s10_0 (N : Nat) (Ln0 : List Int → List Int → Int → Option (Bool)) (v0 : List Int) (v1 : List Int) (v2 : Int) : Option (Bool) :=
  cond (ltI v2 (v0.length : Int))
   (cond (leI 0 v2)
    (cond (ltI v2 (v0.length : Int))
     (cond (leI 0 v2)
      (cond (ltI v2 (v1.length : Int))
       (cond (!(eqI (lrd v0 v2) (lrd v1 v2)))
        (some false)
        (Ln0 v0 v1 (addI .i64 v2 1)))
       (none))
      (none))
     (none))
    (none))
   (some true)
theorem step10_0 (N : Nat) (n : Nat) (v0 : List Int) (v1 : List Int) (v2 : Int) : raw10_0 N  (n + 1) v0 v1 v2 = s10_0 N (raw10_0 N  n) v0 v1 v2 := by kernel_rfl
noncomputable def l10_0 (N : Nat) : Nat → List Int → List Int → Int → Option (Bool)
  | 0 => fun _ _ _ => none
  | n + 1 => fun v0 v1 v2 => s10_0 N (l10_0 N  n) v0 v1 v2
theorem eq10_0 (N : Nat) : ∀ n, raw10_0 N  n = l10_0 N  n := by
  intro n
  induction n with
  | zero => exact funext fun v0 => funext fun v1 => funext fun v2 => rfl
  | succ n ih => exact funext fun v0 => funext fun v1 => funext fun v2 => by rw [step10_0, ih]; rfl
noncomputable def t10 (N : Nat) (Le0 : List Int → List Int → Int → Option (Bool)) (x0 : List Int) (x1 : List Int) : Option (Bool) :=
  cond (!(eqI (x0.length : Int) (x1.length : Int)))
   (some false)
   (Le0 x0 x1 0)
noncomputable def fn_tillerlaw02_words (N : Nat) (x0 : List Int) (x1 : List Int) : Option (Bool) := t10 N (l10_0 N N) x0 x1
theorem run10 (N : Nat) (x0 : List Int) (x1 : List Int) : Eng.run T10 (G10 N) N live10 c10 Try.f10.results.toList Try.f10.ntmps ((ad10).enc (x0, x1, ())) (rd10).dec = fn_tillerlaw02_words N x0 x1 := by
  refine Eq.trans (show _ = t10 N (raw10_0 N N) x0 x1 from by kernel_rfl) ?_
  unfold fn_tillerlaw02_words
  rw [eq10_0 N N]
noncomputable def F10 (N : Nat) (a : List Int × List Int × Unit) : Option (Bool) := fn_tillerlaw02_words N a.1 a.2.1
theorem ok10 (N : Nat) : FnOK Try.prog 10 ad10 rd10 (F10 N) :=
  fn_ok (N := N) (live := live10) (code := c10) (tok T10.rt T10.kl (wrNil_ok)) mixed (gok10 N) Try.func10 (by kernel_rfl) (by kernel_rfl) (by kernel_rfl) fun a p h => by rw [← h]; exact run10 N a.1 a.2.1

/-! ### tiller/tillerlaw02.is: function 11 -/
noncomputable def c11 : Code := (Try.f11.body).getD .skip
noncomputable def T11 : Tb := ⟨tyOf tys, [], [], wrNil⟩
noncomputable def G11 {R : Type} (N : Nat) : FuncId → List AV → (AV → Option R) → Option R := gNil
theorem gok11 {R : Type} (N : Nat) : GOK Try.prog (G11 (R := R) N) := gNil_ok
noncomputable def live11 : List (Nat × List (Nat × HK)) := []
noncomputable def ad11 : Ad (List Int × Unit) := aC (cLi .u32) (a0)
noncomputable def rd11 : Rd (Bool) := r1 (cBool)
noncomputable def fn_tillerlaw02_is (N : Nat) (x0 : List Int) : Option (Bool) :=
  cond (eqI (x0.length : Int) 0)
   (some true)
   (cond (leI (x0.length : Int) 8192)
    (cond (leI 0 (subI .i64 (x0.length : Int) 1))
     (cond (ltI (subI .i64 (x0.length : Int) 1) (x0.length : Int))
      (some (!(eqI (lrd x0 (subI .i64 (x0.length : Int) 1)) 0)))
      (none))
     (none))
    (some false))
theorem run11 (N : Nat) (x0 : List Int) : Eng.run T11 (G11 N) N live11 c11 Try.f11.results.toList Try.f11.ntmps ((ad11).enc (x0, ())) (rd11).dec = fn_tillerlaw02_is N x0 := by kernel_rfl
noncomputable def F11 (N : Nat) (a : List Int × Unit) : Option (Bool) := fn_tillerlaw02_is N a.1
theorem ok11 (N : Nat) : FnOK Try.prog 11 ad11 rd11 (F11 N) :=
  fn_ok (N := N) (live := live11) (code := c11) (tok T11.rt T11.kl (wrNil_ok)) mixed (gok11 N) Try.func11 (by kernel_rfl) (by kernel_rfl) (by kernel_rfl) fun a p h => by rw [← h]; exact run11 N a.1

/-! ### tiller/nat.times: function 35 -/
noncomputable def c35 : Code := (Try.f35.body).getD .skip
noncomputable def T35 : Tb := ⟨tyOf tys, [(41, 5), (52, 5), (63, 5)], [66], wrNil⟩
noncomputable def G35 {R : Type} (N : Nat) : FuncId → List AV → (AV → Option R) → Option R := gCons 17 (gOf ad17 rd17 (F17 N)) (gNil)
theorem gok35 {R : Type} (N : Nat) : GOK Try.prog (G35 (R := R) N) := gCons_ok (ok17 N) (gNil_ok)
noncomputable def live35 : List (Nat × List (Nat × HK)) := [(3, [(1, .keep), (5, .row .u32 44), (17, .keep), (18, .keep), (19, .keep)]), (7, [(1, .keep), (5, .row .u32 44), (6, .keep), (7, .keep), (8, .keep), (17, .keep), (18, .keep), (19, .keep), (24, .keep), (25, .keep), (26, .keep)])]
noncomputable def ad35 : Ad (List Int × List Int × Unit) := aC (cLi .u32) (aC (cLi .u32) (a0))
noncomputable def rd35 : Rd (List Int) := r1 (cLi .u32)
noncomputable def st35_0 (v0 : List Int) (v1 : List Int) (v2 : Int) (v3 : Int) (v4 : List Int) : St := ⟨[AV.none, AV.li .u32 v0, AV.none, AV.none, AV.none, AV.own 5, AV.none, AV.none, AV.none, AV.none, AV.none, AV.none, AV.none, AV.none, AV.none, AV.none, AV.none, AV.li .u32 v1, AV.v (.int .i64 v2), AV.v (.int .i64 v3), AV.none, AV.none, AV.none, AV.none, AV.none, AV.none, AV.none, AV.none, AV.none, AV.none, AV.none, AV.none, AV.none, AV.none, AV.none, AV.none, AV.none, AV.none, AV.none, AV.none, AV.none, AV.none, AV.none, AV.none, AV.none, AV.none, AV.none, AV.none, AV.none, AV.none, AV.none, AV.none, AV.none, AV.none, AV.none, AV.none, AV.none, AV.none, AV.none, AV.none, AV.none, AV.none, AV.none, AV.none, AV.none, AV.none, AV.none], [none, none, none, none, none, some (OB.row .u32 44 v4), none, none, none, none, none, none, none, none, none, none, none, none, none, none, none, none, none, none, none, none, none, none, none, none, none, none, none, none, none, none, none, none, none, none, none, none, none, none, none, none, none, none, none, none, none, none, none, none, none, none, none, none, none, none, none, none, none, none, none, none, none]⟩
noncomputable def raw35_0 (N : Nat) (n : Nat) (v0 : List Int) (v1 : List Int) (v2 : Int) (v3 : Int) (v4 : List Int) : Option (List Int) := loopN (lookN live35 3) (exec T35 (G35 N) N live35 (cL (cL (cR (cL (cR (cR c35))))))) n (st35_0 v0 v1 v2 v3 v4) (blockK 0 (seqK (exec T35 (G35 N) N live35 (cR (cR (cR c35)))) (retK T35 Try.f35.results.toList (rd35).dec)))
noncomputable def st35_1 (v0 : List Int) (v1 : Int) (v2 : Int) (v3 : Int) (v4 : List Int) (v5 : Int) (v6 : Int) (v7 : List Int) (v8 : Int) (v9 : Int) (v10 : List Int) : St := ⟨[AV.none, AV.li .u32 v0, AV.none, AV.none, AV.none, AV.own 5, AV.v (.int .i64 v1), AV.v (.int .u32 v2), AV.v (.int .u64 v3), AV.none, AV.none, AV.none, AV.none, AV.none, AV.none, AV.none, AV.none, AV.li .u32 v4, AV.v (.int .i64 v5), AV.v (.int .i64 v6), AV.none, AV.none, AV.none, AV.none, AV.li .u32 v7, AV.v (.int .i64 v8), AV.v (.int .i64 v9), AV.none, AV.none, AV.none, AV.none, AV.none, AV.none, AV.none, AV.none, AV.none, AV.none, AV.none, AV.none, AV.none, AV.none, AV.none, AV.none, AV.none, AV.none, AV.none, AV.none, AV.none, AV.none, AV.none, AV.none, AV.none, AV.none, AV.none, AV.none, AV.none, AV.none, AV.none, AV.none, AV.none, AV.none, AV.none, AV.none, AV.none, AV.none, AV.none, AV.none], [none, none, none, none, none, some (OB.row .u32 44 v10), none, none, none, none, none, none, none, none, none, none, none, none, none, none, none, none, none, none, none, none, none, none, none, none, none, none, none, none, none, none, none, none, none, none, none, none, none, none, none, none, none, none, none, none, none, none, none, none, none, none, none, none, none, none, none, none, none, none, none, none, none]⟩
noncomputable def raw35_1 (N : Nat) (m0 : Nat) (n : Nat) (v0 : List Int) (v1 : Int) (v2 : Int) (v3 : Int) (v4 : List Int) (v5 : Int) (v6 : Int) (v7 : List Int) (v8 : Int) (v9 : Int) (v10 : List Int) : Option (List Int) := loopN (lookN live35 7) (exec T35 (G35 N) N live35 (cL (cL (cR (cL (cR (cR (cL (cL (cR (cR (cL (cL (cR (cL (cR (cR c35))))))))))))))))) n (st35_1 v0 v1 v2 v3 v4 v5 v6 v7 v8 v9 v10) (blockK 2 (seqK (exec T35 (G35 N) N live35 (cR (cR (cR (cL (cL (cR (cR (cL (cL (cR (cL (cR (cR c35)))))))))))))) (blockK 1 (seqK (exec T35 (G35 N) N live35 (cR (cR (cR (cL (cL (cR (cL (cR (cR c35)))))))))) (roundK (fun s => loopN (lookN live35 3) (exec T35 (G35 N) N live35 (cL (cL (cR (cL (cR (cR c35))))))) m0 s (blockK 0 (seqK (exec T35 (G35 N) N live35 (cR (cR (cR c35)))) (retK T35 Try.f35.results.toList (rd35).dec)))) (lookN live35 3) (blockK 0 (seqK (exec T35 (G35 N) N live35 (cR (cR (cR c35)))) (retK T35 Try.f35.results.toList (rd35).dec))))))))
noncomputable def s35_1 (N : Nat) (Ln1 : List Int → Int → Int → Int → List Int → Int → Int → List Int → Int → Int → List Int → Option (List Int)) (Ln0 : List Int → List Int → Int → Int → List Int → Option (List Int)) (v0 : List Int) (v1 : Int) (v2 : Int) (v3 : Int) (v4 : List Int) (v5 : Int) (v6 : Int) (v7 : List Int) (v8 : Int) (v9 : Int) (v10 : List Int) : Option (List Int) :=
  cond (ltI v9 v8)
   (cond (leI 0 v9)
    (cond (ltI v9 (v7.length : Int))
     (cond (leI 0 (addI .i64 v1 v9))
      (cond (ltI (addI .i64 v1 v9) (v10.length : Int))
       (cond (leI 0 (addI .i64 v1 v9))
        (cond (ltI (addI .i64 v1 v9) (v10.length : Int))
         (Ln1 v0 v1 v2 (shrI .u64 (addI .u64 v3 (addI .u64 (mulI .u64 (cvI .u64 v2) (cvI .u64 (lrd v7 v9))) (cvI .u64 (lrd v10 (addI .i64 v1 v9))))) 32) v4 v5 v6 v7 v8 (addI .i64 v9 1) (v10.set ((addI .i64 v1 v9).toNat) (cvI .u32 (addI .u64 v3 (addI .u64 (mulI .u64 (cvI .u64 v2) (cvI .u64 (lrd v7 v9))) (cvI .u64 (lrd v10 (addI .i64 v1 v9))))))))
         (none))
        (none))
       (none))
      (none))
     (none))
    (none))
   (cond (leI 0 (addI .i64 v1 (v0.length : Int)))
    (cond (ltI (addI .i64 v1 (v0.length : Int)) (v10.length : Int))
     (Ln0 v0 v4 v5 (addI .i64 v6 1) (v10.set ((addI .i64 v1 (v0.length : Int)).toNat) (cvI .u32 v3)))
     (none))
    (none))
theorem step35_1 (N : Nat) (m0 : Nat) (n : Nat) (v0 : List Int) (v1 : Int) (v2 : Int) (v3 : Int) (v4 : List Int) (v5 : Int) (v6 : Int) (v7 : List Int) (v8 : Int) (v9 : Int) (v10 : List Int) : raw35_1 N m0 (n + 1) v0 v1 v2 v3 v4 v5 v6 v7 v8 v9 v10 = s35_1 N (raw35_1 N m0 n) (raw35_0 N  m0) v0 v1 v2 v3 v4 v5 v6 v7 v8 v9 v10 := by kernel_rfl
noncomputable def l35_1 (N : Nat) (E0 : List Int → List Int → Int → Int → List Int → Option (List Int)) : Nat → List Int → Int → Int → Int → List Int → Int → Int → List Int → Int → Int → List Int → Option (List Int)
  | 0 => fun _ _ _ _ _ _ _ _ _ _ _ => none
  | n + 1 => fun v0 v1 v2 v3 v4 v5 v6 v7 v8 v9 v10 => s35_1 N (l35_1 N E0 n) E0 v0 v1 v2 v3 v4 v5 v6 v7 v8 v9 v10
theorem eq35_1 (N : Nat) (m0 : Nat) : ∀ n, raw35_1 N m0 n = l35_1 N (raw35_0 N  m0) n := by
  intro n
  induction n with
  | zero => exact funext fun v0 => funext fun v1 => funext fun v2 => funext fun v3 => funext fun v4 => funext fun v5 => funext fun v6 => funext fun v7 => funext fun v8 => funext fun v9 => funext fun v10 => rfl
  | succ n ih => exact funext fun v0 => funext fun v1 => funext fun v2 => funext fun v3 => funext fun v4 => funext fun v5 => funext fun v6 => funext fun v7 => funext fun v8 => funext fun v9 => funext fun v10 => by rw [step35_1, ih]; rfl
noncomputable def s35_0 (N : Nat) (Le1 : List Int → Int → Int → Int → List Int → Int → Int → List Int → Int → Int → List Int → Option (List Int)) (v0 : List Int) (v1 : List Int) (v2 : Int) (v3 : Int) (v4 : List Int) : Option (List Int) :=
  cond (ltI v3 v2)
   (cond (leI 0 v3)
    (cond (ltI v3 (v1.length : Int))
     (Le1 v0 v3 (lrd v1 v3) 0 v1 v2 v3 v0 (v0.length : Int) 0 v4)
     (none))
    (none))
   ((fn_nat_trim N v4).bind fun r1 =>
    some r1)
theorem step35_0 (N : Nat) (n : Nat) (v0 : List Int) (v1 : List Int) (v2 : Int) (v3 : Int) (v4 : List Int) : raw35_0 N  (n + 1) v0 v1 v2 v3 v4 = s35_0 N (raw35_1 N n N) v0 v1 v2 v3 v4 := by kernel_rfl
noncomputable def l35_0 (N : Nat) : Nat → List Int → List Int → Int → Int → List Int → Option (List Int)
  | 0 => fun _ _ _ _ _ => none
  | n + 1 => fun v0 v1 v2 v3 v4 => s35_0 N (l35_1 N (l35_0 N  n) N) v0 v1 v2 v3 v4
theorem eq35_0 (N : Nat) : ∀ n, raw35_0 N  n = l35_0 N  n := by
  intro n
  induction n with
  | zero => exact funext fun v0 => funext fun v1 => funext fun v2 => funext fun v3 => funext fun v4 => rfl
  | succ n ih => exact funext fun v0 => funext fun v1 => funext fun v2 => funext fun v3 => funext fun v4 => by rw [step35_0, eq35_1 N n N, ih]; rfl
noncomputable def t35 (N : Nat) (Le0 : List Int → List Int → Int → Int → List Int → Option (List Int)) (x0 : List Int) (x1 : List Int) : Option (List Int) :=
  cond (leI 0 (addI .i64 (x0.length : Int) (x1.length : Int)))
   (cond (leI (addI .i64 (x0.length : Int) (x1.length : Int)) 17592186044416)
    (Le0 x1 x0 (x0.length : Int) 0 (List.replicate ((addI .i64 (x0.length : Int) (x1.length : Int)).toNat) (0 : Int)))
    (none))
   (none)
noncomputable def fn_nat_times (N : Nat) (x0 : List Int) (x1 : List Int) : Option (List Int) := t35 N (l35_0 N N) x0 x1
theorem run35 (N : Nat) (x0 : List Int) (x1 : List Int) : Eng.run T35 (G35 N) N live35 c35 Try.f35.results.toList Try.f35.ntmps ((ad35).enc (x0, x1, ())) (rd35).dec = fn_nat_times N x0 x1 := by
  refine Eq.trans (show _ = t35 N (raw35_0 N N) x0 x1 from by kernel_rfl) ?_
  unfold fn_nat_times
  rw [eq35_0 N N]
noncomputable def F35 (N : Nat) (a : List Int × List Int × Unit) : Option (List Int) := fn_nat_times N a.1 a.2.1
theorem ok35 (N : Nat) : FnOK Try.prog 35 ad35 rd35 (F35 N) :=
  fn_ok (N := N) (live := live35) (code := c35) (tok T35.rt T35.kl (wrNil_ok)) mixed (gok35 N) Try.func35 (by kernel_rfl) (by kernel_rfl) (by kernel_rfl) fun a p h => by rw [← h]; exact run35 N a.1 a.2.1

/-! ### tiller/nat.Pow: function 26 -/
noncomputable def c26 : Code := (Try.f26.body).getD .skip
noncomputable def T26 : Tb := ⟨tyOf tys, [], [24], wrNil⟩
noncomputable def G26 {R : Type} (N : Nat) : FuncId → List AV → (AV → Option R) → Option R := gCons 5 (gOf ad5 rd5 (F5 N)) (gCons 35 (gOf ad35 rd35 (F35 N)) (gCons 20 (gOf ad20 rd20 (F20 N)) (gNil)))
theorem gok26 {R : Type} (N : Nat) : GOK Try.prog (G26 (R := R) N) := gCons_ok (ok5 N) (gCons_ok (ok35 N) (gCons_ok (ok20 N) (gNil_ok)))
noncomputable def live26 : List (Nat × List (Nat × HK)) := [(4, [(0, .keep), (1, .keep), (6, .li .u32), (7, .keep), (45, .keep), (46, .keep)])]
noncomputable def ad26 : Ad (Int × Int × Unit) := aC (cInt .u32) (aC (cInt .i64) (a0))
noncomputable def rd26 : Rd (List Int × Option Int) := r2 (cLi .u32) (cErr 50)
noncomputable def st26_0 (v0 : Int) (v1 : Int) (v2 : List Int) (v3 : List Int) : St := ⟨[AV.v (.int .u32 v0), AV.v (.int .i64 v1), AV.none, AV.none, AV.none, AV.none, AV.li .u32 v2, AV.li .u32 v3, AV.none, AV.none, AV.none, AV.none, AV.none, AV.none, AV.none, AV.none, AV.none, AV.none, AV.none, AV.none, AV.none, AV.none, AV.none, AV.none, AV.none, AV.none, AV.none, AV.none, AV.none, AV.none, AV.none, AV.none, AV.none, AV.none, AV.none, AV.none, AV.none, AV.none, AV.none, AV.none, AV.none, AV.none, AV.none, AV.none, AV.none, AV.none, AV.none, AV.none, AV.none, AV.none, AV.none, AV.none, AV.none], [none, none, none, none, none, none, none, none, none, none, none, none, none, none, none, none, none, none, none, none, none, none, none, none, none, none, none, none, none, none, none, none, none, none, none, none, none, none, none, none, none, none, none, none, none, none, none, none, none, none, none, none, none]⟩
noncomputable def raw26_0 (N : Nat) (n : Nat) (v0 : Int) (v1 : Int) (v2 : List Int) (v3 : List Int) : Option (List Int × Option Int) := loopN (lookN live26 4) (exec T26 (G26 N) N live26 (cL (cL (cL (cR (cR (cR c26))))))) n (st26_0 v0 v1 v2 v3) (blockK 0 (seqK (exec T26 (G26 N) N live26 (cR (cR (cR (cR c26))))) (retK T26 Try.f26.results.toList (rd26).dec)))
noncomputable def s26_0 (N : Nat) (Ln0 : Int → Int → List Int → List Int → Option (List Int × Option Int)) (v0 : Int) (v1 : Int) (v2 : List Int) (v3 : List Int) : Option (List Int × Option Int) :=
  cond (eqI (andI .i64 v1 1) 1)
   ((fn_nat_times N v2 v3).bind fun r2 =>
    cond (eqI (shrI .i64 v1 1) 0)
     (cond (ltI 0 (shrI .i64 v1 1))
      (cond (ltI 1 v0)
       (some ([], some 2))
       ((fn_nat_bounded N r2).bind fun r3 =>
        some (r3.1, r3.2)))
      ((fn_nat_bounded N r2).bind fun r4 =>
       some (r4.1, r4.2)))
     (cond (ltI 8192 (r2.length : Int))
      (cond (ltI 0 (shrI .i64 v1 1))
       (cond (ltI 1 v0)
        (some ([], some 2))
        ((fn_nat_bounded N r2).bind fun r5 =>
         some (r5.1, r5.2)))
       ((fn_nat_bounded N r2).bind fun r6 =>
        some (r6.1, r6.2)))
      (cond (ltI 8192 (v3.length : Int))
       (cond (ltI 0 (shrI .i64 v1 1))
        (cond (ltI 1 v0)
         (some ([], some 2))
         ((fn_nat_bounded N r2).bind fun r7 =>
          some (r7.1, r7.2)))
        ((fn_nat_bounded N r2).bind fun r8 =>
         some (r8.1, r8.2)))
       ((fn_nat_times N v3 v3).bind fun r9 =>
        Ln0 v0 (shrI .i64 v1 1) r2 r9))))
   (cond (eqI (shrI .i64 v1 1) 0)
    (cond (ltI 0 (shrI .i64 v1 1))
     (cond (ltI 1 v0)
      (some ([], some 2))
      ((fn_nat_bounded N v2).bind fun r10 =>
       some (r10.1, r10.2)))
     ((fn_nat_bounded N v2).bind fun r11 =>
      some (r11.1, r11.2)))
    (cond (ltI 8192 (v2.length : Int))
     (cond (ltI 0 (shrI .i64 v1 1))
      (cond (ltI 1 v0)
       (some ([], some 2))
       ((fn_nat_bounded N v2).bind fun r12 =>
        some (r12.1, r12.2)))
      ((fn_nat_bounded N v2).bind fun r13 =>
       some (r13.1, r13.2)))
     (cond (ltI 8192 (v3.length : Int))
      (cond (ltI 0 (shrI .i64 v1 1))
       (cond (ltI 1 v0)
        (some ([], some 2))
        ((fn_nat_bounded N v2).bind fun r14 =>
         some (r14.1, r14.2)))
       ((fn_nat_bounded N v2).bind fun r15 =>
        some (r15.1, r15.2)))
      ((fn_nat_times N v3 v3).bind fun r16 =>
       Ln0 v0 (shrI .i64 v1 1) v2 r16))))
theorem step26_0 (N : Nat) (n : Nat) (v0 : Int) (v1 : Int) (v2 : List Int) (v3 : List Int) : raw26_0 N  (n + 1) v0 v1 v2 v3 = s26_0 N (raw26_0 N  n) v0 v1 v2 v3 := by kernel_rfl
noncomputable def l26_0 (N : Nat) : Nat → Int → Int → List Int → List Int → Option (List Int × Option Int)
  | 0 => fun _ _ _ _ => none
  | n + 1 => fun v0 v1 v2 v3 => s26_0 N (l26_0 N  n) v0 v1 v2 v3
theorem eq26_0 (N : Nat) : ∀ n, raw26_0 N  n = l26_0 N  n := by
  intro n
  induction n with
  | zero => exact funext fun v0 => funext fun v1 => funext fun v2 => funext fun v3 => rfl
  | succ n ih => exact funext fun v0 => funext fun v1 => funext fun v2 => funext fun v3 => by rw [step26_0, ih]; rfl
noncomputable def t26 (N : Nat) (Le0 : Int → Int → List Int → List Int → Option (List Int × Option Int)) (x0 : Int) (x1 : Int) : Option (List Int × Option Int) :=
  cond (ltI x1 0)
   (some ([], some 1))
   (cond (ltI 1000000 x1)
    (some ([], some 1))
    ((fn_nat_Of N (cvI .u64 x0)).bind fun r1 =>
     Le0 x0 x1 [1] r1))
noncomputable def fn_nat_Pow (N : Nat) (x0 : Int) (x1 : Int) : Option (List Int × Option Int) := t26 N (l26_0 N N) x0 x1
theorem run26 (N : Nat) (x0 : Int) (x1 : Int) : Eng.run T26 (G26 N) N live26 c26 Try.f26.results.toList Try.f26.ntmps ((ad26).enc (x0, x1, ())) (rd26).dec = fn_nat_Pow N x0 x1 := by
  refine Eq.trans (show _ = t26 N (raw26_0 N N) x0 x1 from by kernel_rfl) ?_
  unfold fn_nat_Pow
  rw [eq26_0 N N]
noncomputable def F26 (N : Nat) (a : Int × Int × Unit) : Option (List Int × Option Int) := fn_nat_Pow N a.1 a.2.1
theorem ok26 (N : Nat) : FnOK Try.prog 26 ad26 rd26 (F26 N) :=
  fn_ok (N := N) (live := live26) (code := c26) (tok T26.rt T26.kl (wrNil_ok)) mixed (gok26 N) Try.func26 (by kernel_rfl) (by kernel_rfl) (by kernel_rfl) fun a p h => by rw [← h]; exact run26 N a.1 a.2.1

/-! ### tiller/nat.short: function 37 -/
noncomputable def c37 : Code := (Try.f37.body).getD .skip
noncomputable def T37 : Tb := ⟨tyOf tys, [(34, 6)], [40], wrNil⟩
noncomputable def G37 {R : Type} (N : Nat) : FuncId → List AV → (AV → Option R) → Option R := gCons 17 (gOf ad17 rd17 (F17 N)) (gNil)
theorem gok37 {R : Type} (N : Nat) : GOK Try.prog (G37 (R := R) N) := gCons_ok (ok17 N) (gNil_ok)
noncomputable def live37 : List (Nat × List (Nat × HK)) := [(4, [(0, .keep), (1, .keep), (6, .row .u32 44), (7, .keep), (8, .keep)])]
noncomputable def ad37 : Ad (List Int × Int × Unit) := aC (cLi .u32) (aC (cInt .u32) (a0))
noncomputable def rd37 : Rd (List Int × Int) := r2 (cLi .u32) (cInt .u32)
noncomputable def st37_0 (v0 : List Int) (v1 : Int) (v2 : Int) (v3 : Int) (v4 : List Int) : St := ⟨[AV.li .u32 v0, AV.v (.int .u32 v1), AV.none, AV.none, AV.none, AV.none, AV.own 6, AV.v (.int .u64 v2), AV.v (.int .i64 v3), AV.none, AV.none, AV.none, AV.none, AV.none, AV.none, AV.none, AV.none, AV.none, AV.none, AV.none, AV.none, AV.none, AV.none, AV.none, AV.none, AV.none, AV.none, AV.none, AV.none, AV.none, AV.none, AV.none, AV.none, AV.none, AV.none, AV.none, AV.none, AV.none, AV.none, AV.none, AV.none, AV.none, AV.none], [none, none, none, none, none, none, some (OB.row .u32 44 v4), none, none, none, none, none, none, none, none, none, none, none, none, none, none, none, none, none, none, none, none, none, none, none, none, none, none, none, none, none, none, none, none, none, none, none, none]⟩
noncomputable def raw37_0 (N : Nat) (n : Nat) (v0 : List Int) (v1 : Int) (v2 : Int) (v3 : Int) (v4 : List Int) : Option (List Int × Int) := loopN (lookN live37 4) (exec T37 (G37 N) N live37 (cL (cL (cR (cL (cR (cR (cR c37)))))))) n (st37_0 v0 v1 v2 v3 v4) (blockK 0 (seqK (exec T37 (G37 N) N live37 (cR (cR (cR (cR c37))))) (retK T37 Try.f37.results.toList (rd37).dec)))
noncomputable def s37_0 (N : Nat) (Ln0 : List Int → Int → Int → Int → List Int → Option (List Int × Int)) (v0 : List Int) (v1 : Int) (v2 : Int) (v3 : Int) (v4 : List Int) : Option (List Int × Int) :=
  cond (leI 0 v3)
   (cond (leI 0 v3)
    (cond (ltI v3 (v0.length : Int))
     (cond (eqI (cvI .u64 v1) 0)
      (none)
      (cond (leI 0 v3)
       (cond (ltI v3 (v4.length : Int))
        (cond (eqI (cvI .u64 v1) 0)
         (none)
         (Ln0 v0 v1 (remI .u64 (orI .u64 (shlI .u64 v2 32) (cvI .u64 (lrd v0 v3))) (cvI .u64 v1)) (subI .i64 v3 1) (v4.set v3.toNat (cvI .u32 (quoI .u64 (orI .u64 (shlI .u64 v2 32) (cvI .u64 (lrd v0 v3))) (cvI .u64 v1))))))
        (none))
       (none)))
     (none))
    (none))
   ((fn_nat_trim N v4).bind fun r1 =>
    some (r1, cvI .u32 v2))
theorem step37_0 (N : Nat) (n : Nat) (v0 : List Int) (v1 : Int) (v2 : Int) (v3 : Int) (v4 : List Int) : raw37_0 N  (n + 1) v0 v1 v2 v3 v4 = s37_0 N (raw37_0 N  n) v0 v1 v2 v3 v4 := by kernel_rfl
noncomputable def l37_0 (N : Nat) : Nat → List Int → Int → Int → Int → List Int → Option (List Int × Int)
  | 0 => fun _ _ _ _ _ => none
  | n + 1 => fun v0 v1 v2 v3 v4 => s37_0 N (l37_0 N  n) v0 v1 v2 v3 v4
theorem eq37_0 (N : Nat) : ∀ n, raw37_0 N  n = l37_0 N  n := by
  intro n
  induction n with
  | zero => exact funext fun v0 => funext fun v1 => funext fun v2 => funext fun v3 => funext fun v4 => rfl
  | succ n ih => exact funext fun v0 => funext fun v1 => funext fun v2 => funext fun v3 => funext fun v4 => by rw [step37_0, ih]; rfl
noncomputable def t37 (N : Nat) (Le0 : List Int → Int → Int → Int → List Int → Option (List Int × Int)) (x0 : List Int) (x1 : Int) : Option (List Int × Int) :=
  cond (leI 0 (x0.length : Int))
   (cond (leI (x0.length : Int) 17592186044416)
    (Le0 x0 x1 0 (subI .i64 (x0.length : Int) 1) (List.replicate ((x0.length : Int).toNat) (0 : Int)))
    (none))
   (none)
noncomputable def fn_nat_short (N : Nat) (x0 : List Int) (x1 : Int) : Option (List Int × Int) := t37 N (l37_0 N N) x0 x1
theorem run37 (N : Nat) (x0 : List Int) (x1 : Int) : Eng.run T37 (G37 N) N live37 c37 Try.f37.results.toList Try.f37.ntmps ((ad37).enc (x0, x1, ())) (rd37).dec = fn_nat_short N x0 x1 := by
  refine Eq.trans (show _ = t37 N (raw37_0 N N) x0 x1 from by kernel_rfl) ?_
  unfold fn_nat_short
  rw [eq37_0 N N]
noncomputable def F37 (N : Nat) (a : List Int × Int × Unit) : Option (List Int × Int) := fn_nat_short N a.1 a.2.1
theorem ok37 (N : Nat) : FnOK Try.prog 37 ad37 rd37 (F37 N) :=
  fn_ok (N := N) (live := live37) (code := c37) (tok T37.rt T37.kl (wrNil_ok)) mixed (gok37 N) Try.func37 (by kernel_rfl) (by kernel_rfl) (by kernel_rfl) fun a p h => by rw [← h]; exact run37 N a.1 a.2.1

/-! ### tiller/nat.Decimal: function 27 -/
noncomputable def c27 : Code := (Try.f27.body).getD .skip
noncomputable def T27 : Tb := ⟨tyOf tys, [(44, 4)], [52], wrCons 38 revW (wrNil)⟩
noncomputable def G27 {R : Type} (N : Nat) : FuncId → List AV → (AV → Option R) → Option R := gCons 21 (gOf ad21 rd21 (F21 N)) (gCons 36 (gOf (aC (cLi .u32) a0) (r1 (cLi .u32)) (fun a => fn_slices_Clone N a.1)) (gCons 37 (gOf ad37 rd37 (F37 N)) (gNil)))
theorem gok27 {R : Type} (N : Nat) : GOK Try.prog (G27 (R := R) N) := gCons_ok (ok21 N) (gCons_ok (clone_ok N) (gCons_ok (ok37 N) (gNil_ok)))
noncomputable def live27 : List (Nat × List (Nat × HK)) := [(5, [(4, .row .u8 5), (5, .keep), (40, .keep), (41, .keep), (42, .keep), (43, .keep), (44, .keep), (45, .keep), (46, .keep)]), (8, [(4, .row .u8 5), (6, .keep), (7, .keep), (23, .keep), (40, .keep), (41, .keep), (42, .keep), (43, .keep), (44, .keep), (45, .keep), (46, .keep)]), (13, [(4, .row .u8 5), (40, .keep), (41, .keep), (44, .keep)])]
noncomputable def ad27 : Ad (List Int × Unit) := aC (cLi .u32) (a0)
noncomputable def rd27 : Rd (ByteArray × Option Int) := r2 (cStr) (cErr 50)
noncomputable def st27_0 (v0 : List Int) (v1 : List Int) : St := ⟨[AV.none, AV.none, AV.none, AV.none, AV.own 4, AV.li .u32 v0, AV.none, AV.none, AV.none, AV.none, AV.none, AV.none, AV.none, AV.none, AV.none, AV.none, AV.none, AV.none, AV.none, AV.none, AV.none, AV.none, AV.none, AV.none, AV.none, AV.none, AV.none, AV.none, AV.none, AV.none, AV.none, AV.none, AV.none, AV.none, AV.none, AV.none, AV.none, AV.none, AV.none, AV.none, AV.none, AV.none, AV.none, AV.none, AV.none, AV.none, AV.none, AV.none, AV.none, AV.none, AV.none, AV.none, AV.none, AV.none, AV.none, AV.none, AV.none, AV.none, AV.none, AV.none], [none, none, none, none, some (OB.row .u8 5 v1), none, none, none, none, none, none, none, none, none, none, none, none, none, none, none, none, none, none, none, none, none, none, none, none, none, none, none, none, none, none, none, none, none, none, none, none, none, none, none, none, none, none, none, none, none, none, none, none, none, none, none, none, none, none, none]⟩
noncomputable def raw27_0 (N : Nat) (n : Nat) (v0 : List Int) (v1 : List Int) : Option (ByteArray × Option Int) := loopN (lookN live27 5) (exec T27 (G27 N) N live27 (cL (cL (cR (cL (cR (cR (cR c27)))))))) n (st27_0 v0 v1) (blockK 0 (seqK (exec T27 (G27 N) N live27 (cR (cR (cR (cR c27))))) (retK T27 Try.f27.results.toList (rd27).dec)))
noncomputable def st27_1 (v0 : List Int) (v1 : Int) (v2 : Int) (v3 : List Int) : St := ⟨[AV.none, AV.none, AV.none, AV.none, AV.own 4, AV.none, AV.li .u32 v0, AV.v (.int .u32 v1), AV.none, AV.none, AV.none, AV.none, AV.none, AV.none, AV.none, AV.none, AV.none, AV.none, AV.none, AV.none, AV.none, AV.none, AV.none, AV.v (.int .i64 v2), AV.none, AV.none, AV.none, AV.none, AV.none, AV.none, AV.none, AV.none, AV.none, AV.none, AV.none, AV.none, AV.none, AV.none, AV.none, AV.none, AV.none, AV.none, AV.none, AV.none, AV.none, AV.none, AV.none, AV.none, AV.none, AV.none, AV.none, AV.none, AV.none, AV.none, AV.none, AV.none, AV.none, AV.none, AV.none, AV.none], [none, none, none, none, some (OB.row .u8 5 v3), none, none, none, none, none, none, none, none, none, none, none, none, none, none, none, none, none, none, none, none, none, none, none, none, none, none, none, none, none, none, none, none, none, none, none, none, none, none, none, none, none, none, none, none, none, none, none, none, none, none, none, none, none, none, none]⟩
noncomputable def raw27_1 (N : Nat) (m0 : Nat) (n : Nat) (v0 : List Int) (v1 : Int) (v2 : Int) (v3 : List Int) : Option (ByteArray × Option Int) := loopN (lookN live27 8) (exec T27 (G27 N) N live27 (cL (cL (cR (cL (cR (cL (cR (cL (cL (cR (cL (cR (cR (cR c27))))))))))))))) n (st27_1 v0 v1 v2 v3) (blockK 2 (seqK (exec T27 (G27 N) N live27 (cR (cR (cL (cR (cL (cL (cR (cL (cR (cR (cR c27)))))))))))) (blockK 1 (roundK (fun s => loopN (lookN live27 5) (exec T27 (G27 N) N live27 (cL (cL (cR (cL (cR (cR (cR c27)))))))) m0 s (blockK 0 (seqK (exec T27 (G27 N) N live27 (cR (cR (cR (cR c27))))) (retK T27 Try.f27.results.toList (rd27).dec)))) (lookN live27 5) (blockK 0 (seqK (exec T27 (G27 N) N live27 (cR (cR (cR (cR c27))))) (retK T27 Try.f27.results.toList (rd27).dec)))))))
noncomputable def st27_2 (v0 : List Int) : St := ⟨[AV.none, AV.none, AV.none, AV.none, AV.own 4, AV.none, AV.none, AV.none, AV.none, AV.none, AV.none, AV.none, AV.none, AV.none, AV.none, AV.none, AV.none, AV.none, AV.none, AV.none, AV.none, AV.none, AV.none, AV.none, AV.none, AV.none, AV.none, AV.none, AV.none, AV.none, AV.none, AV.none, AV.none, AV.none, AV.none, AV.none, AV.none, AV.none, AV.none, AV.none, AV.none, AV.none, AV.none, AV.none, AV.none, AV.none, AV.none, AV.none, AV.none, AV.none, AV.none, AV.none, AV.none, AV.none, AV.none, AV.none, AV.none, AV.none, AV.none, AV.none], [none, none, none, none, some (OB.row .u8 5 v0), none, none, none, none, none, none, none, none, none, none, none, none, none, none, none, none, none, none, none, none, none, none, none, none, none, none, none, none, none, none, none, none, none, none, none, none, none, none, none, none, none, none, none, none, none, none, none, none, none, none, none, none, none, none, none]⟩
noncomputable def raw27_2 (N : Nat) (n : Nat) (v0 : List Int) : Option (ByteArray × Option Int) := loopN (lookN live27 13) (exec T27 (G27 N) N live27 (cL (cL (cL (cR (cR (cR (cR c27)))))))) n (st27_2 v0) (blockK 4 (seqK (exec T27 (G27 N) N live27 (cR (cR (cR (cR (cR c27)))))) (retK T27 Try.f27.results.toList (rd27).dec)))
noncomputable def s27_1 (N : Nat) (Ln1 : List Int → Int → Int → List Int → Option (ByteArray × Option Int)) (Ln0 : List Int → List Int → Option (ByteArray × Option Int)) (v0 : List Int) (v1 : Int) (v2 : Int) (v3 : List Int) : Option (ByteArray × Option Int) :=
  cond (ltI v2 9)
   (cond (fitL (v3.length + [cvI .u8 (addI .u32 48 (remI .u32 v1 10))].length))
    (Ln1 v0 (quoI .u32 v1 10) (addI .i64 v2 1) (v3 ++ [cvI .u8 (addI .u32 48 (remI .u32 v1 10))]))
    (none))
   (Ln0 v0 v3)
theorem step27_1 (N : Nat) (m0 : Nat) (n : Nat) (v0 : List Int) (v1 : Int) (v2 : Int) (v3 : List Int) : raw27_1 N m0 (n + 1) v0 v1 v2 v3 = s27_1 N (raw27_1 N m0 n) (raw27_0 N  m0) v0 v1 v2 v3 := by kernel_rfl
noncomputable def l27_1 (N : Nat) (E0 : List Int → List Int → Option (ByteArray × Option Int)) : Nat → List Int → Int → Int → List Int → Option (ByteArray × Option Int)
  | 0 => fun _ _ _ _ => none
  | n + 1 => fun v0 v1 v2 v3 => s27_1 N (l27_1 N E0 n) E0 v0 v1 v2 v3
theorem eq27_1 (N : Nat) (m0 : Nat) : ∀ n, raw27_1 N m0 n = l27_1 N (raw27_0 N  m0) n := by
  intro n
  induction n with
  | zero => exact funext fun v0 => funext fun v1 => funext fun v2 => funext fun v3 => rfl
  | succ n ih => exact funext fun v0 => funext fun v1 => funext fun v2 => funext fun v3 => by rw [step27_1, ih]; rfl
noncomputable def s27_2 (N : Nat) (Ln2 : List Int → Option (ByteArray × Option Int)) (v0 : List Int) : Option (ByteArray × Option Int) :=
  cond (ltI 1 (v0.length : Int))
   (cond (leI 0 (subI .i64 (v0.length : Int) 1))
    (cond (ltI (subI .i64 (v0.length : Int) 1) (v0.length : Int))
     (cond (eqI (lrd v0 (subI .i64 (v0.length : Int) 1)) 48)
      (cond ((leI 0 (subI .i64 (v0.length : Int) 1)) && (leI (subI .i64 (v0.length : Int) 1) (v0.length : Int)))
       (Ln2 (v0.take ((subI .i64 (v0.length : Int) 1).toNat)))
       (none))
      (cond (eqI (v0.length : Int) 0)
       (some ((⟨#[48]⟩ : ByteArray), none))
       (some (bstr (List.reverse v0), none))))
     (none))
    (none))
   (cond (eqI (v0.length : Int) 0)
    (some ((⟨#[48]⟩ : ByteArray), none))
    (some (bstr (List.reverse v0), none)))
theorem step27_2 (N : Nat) (n : Nat) (v0 : List Int) : raw27_2 N  (n + 1) v0 = s27_2 N (raw27_2 N  n) v0 := by kernel_rfl
noncomputable def l27_2 (N : Nat) : Nat → List Int → Option (ByteArray × Option Int)
  | 0 => fun _ => none
  | n + 1 => fun v0 => s27_2 N (l27_2 N  n) v0
theorem eq27_2 (N : Nat) : ∀ n, raw27_2 N  n = l27_2 N  n := by
  intro n
  induction n with
  | zero => exact funext fun v0 => rfl
  | succ n ih => exact funext fun v0 => by rw [step27_2, ih]; rfl
noncomputable def s27_0 (N : Nat) (Le1 : List Int → Int → Int → List Int → Option (ByteArray × Option Int)) (Le2 : List Int → Option (ByteArray × Option Int)) (v0 : List Int) (v1 : List Int) : Option (ByteArray × Option Int) :=
  cond (ltI 0 (v0.length : Int))
   ((fn_nat_short N v0 1000000000).bind fun r3 =>
    Le1 r3.1 r3.2 0 v1)
   (Le2 v1)
theorem step27_0 (N : Nat) (n : Nat) (v0 : List Int) (v1 : List Int) : raw27_0 N  (n + 1) v0 v1 = s27_0 N (raw27_1 N n N) (raw27_2 N  N) v0 v1 := by kernel_rfl
noncomputable def l27_0 (N : Nat) : Nat → List Int → List Int → Option (ByteArray × Option Int)
  | 0 => fun _ _ => none
  | n + 1 => fun v0 v1 => s27_0 N (l27_1 N (l27_0 N  n) N) (l27_2 N  N) v0 v1
theorem eq27_0 (N : Nat) : ∀ n, raw27_0 N  n = l27_0 N  n := by
  intro n
  induction n with
  | zero => exact funext fun v0 => funext fun v1 => rfl
  | succ n ih => exact funext fun v0 => funext fun v1 => by rw [step27_0, eq27_1 N n N, eq27_2 N  N, ih]; rfl
noncomputable def t27 (N : Nat) (Le0 : List Int → List Int → Option (ByteArray × Option Int)) (x0 : List Int) : Option (ByteArray × Option Int) :=
  (fn_nat_Check N x0).bind fun r1 =>
   cond (!(isNoneI r1))
    (some ((⟨#[]⟩ : ByteArray), some 1))
    ((fn_slices_Clone N x0).bind fun r2 =>
     Le0 r2 [])
noncomputable def fn_nat_Decimal (N : Nat) (x0 : List Int) : Option (ByteArray × Option Int) := t27 N (l27_0 N N) x0
theorem run27 (N : Nat) (x0 : List Int) : Eng.run T27 (G27 N) N live27 c27 Try.f27.results.toList Try.f27.ntmps ((ad27).enc (x0, ())) (rd27).dec = fn_nat_Decimal N x0 := by
  refine Eq.trans (show _ = t27 N (raw27_0 N N) x0 from by kernel_rfl) ?_
  unfold fn_nat_Decimal
  rw [eq27_0 N N]
noncomputable def F27 (N : Nat) (a : List Int × Unit) : Option (ByteArray × Option Int) := fn_nat_Decimal N a.1
theorem ok27 (N : Nat) : FnOK Try.prog 27 ad27 rd27 (F27 N) :=
  fn_ok (N := N) (live := live27) (code := c27) (tok T27.rt T27.kl (wrCons_ok (rev_ok) (wrNil_ok))) mixed (gok27 N) Try.func27 (by kernel_rfl) (by kernel_rfl) (by kernel_rfl) fun a p h => by rw [← h]; exact run27 N a.1

/-! ### tiller/tillerlaw02.sure: function 12 -/
noncomputable def c12 : Code := (Try.f12.body).getD .skip
noncomputable def T12 : Tb := ⟨tyOf tys, [], [], wrNil⟩
noncomputable def G12 {R : Type} (N : Nat) : FuncId → List AV → (AV → Option R) → Option R := gCons 26 (gOf ad26 rd26 (F26 N)) (gCons 27 (gOf ad27 rd27 (F27 N)) (gCons 9 (gOf ad9 rd9 (F9 N)) (gNil)))
theorem gok12 {R : Type} (N : Nat) : GOK Try.prog (G12 (R := R) N) := gCons_ok (ok26 N) (gCons_ok (ok27 N) (gCons_ok (ok9 N) (gNil_ok)))
noncomputable def live12 : List (Nat × List (Nat × HK)) := []
noncomputable def ad12 : Ad (Unit) := a0
noncomputable def rd12 : Rd (Bool) := r1 (cBool)
noncomputable def fn_tillerlaw02_sure (N : Nat)  : Option (Bool) :=
  (fn_nat_Pow N 10 20).bind fun r1 =>
   (fn_nat_Decimal N r1.1).bind fun r2 =>
    cond (isNoneI r1.2)
     (cond (isNoneI r2.2)
      ((fn_nat_Len N r1.1).bind fun r3 =>
       cond (eqI r3 67)
        (some (eqS r2.1 str1))
        (some false))
      (some false))
     (some false)
theorem run12 (N : Nat)  : Eng.run T12 (G12 N) N live12 c12 Try.f12.results.toList Try.f12.ntmps ((ad12).enc (())) (rd12).dec = fn_tillerlaw02_sure N  := by kernel_rfl
noncomputable def F12 (N : Nat) (a : Unit) : Option (Bool) := fn_tillerlaw02_sure N 
theorem ok12 (N : Nat) : FnOK Try.prog 12 ad12 rd12 (F12 N) :=
  fn_ok (N := N) (live := live12) (code := c12) (tok T12.rt T12.kl (wrNil_ok)) mixed (gok12 N) Try.func12 (by kernel_rfl) (by kernel_rfl) (by kernel_rfl) fun a p h => by rw [← h]; exact run12 N 

/-! ### math/bits.LeadingZeros32: function 39 -/
noncomputable def c39 : Code := (Try.f39.body).getD .skip
noncomputable def T39 : Tb := ⟨tyOf tys, [], [], wrNil⟩
noncomputable def G39 {R : Type} (N : Nat) : FuncId → List AV → (AV → Option R) → Option R := gCons 25 (gOf ad25 rd25 (F25 N)) (gNil)
theorem gok39 {R : Type} (N : Nat) : GOK Try.prog (G39 (R := R) N) := gCons_ok (ok25 N) (gNil_ok)
noncomputable def live39 : List (Nat × List (Nat × HK)) := []
noncomputable def ad39 : Ad (Int × Unit) := aC (cInt .u32) (a0)
noncomputable def rd39 : Rd (Int) := r1 (cInt .i64)
noncomputable def fn_bits_LeadingZeros32 (N : Nat) (x0 : Int) : Option (Int) :=
  (fn_bits_Len32 N x0).bind fun r1 =>
   some (subI .i64 32 r1)
theorem run39 (N : Nat) (x0 : Int) : Eng.run T39 (G39 N) N live39 c39 Try.f39.results.toList Try.f39.ntmps ((ad39).enc (x0, ())) (rd39).dec = fn_bits_LeadingZeros32 N x0 := by kernel_rfl
noncomputable def F39 (N : Nat) (a : Int × Unit) : Option (Int) := fn_bits_LeadingZeros32 N a.1
theorem ok39 (N : Nat) : FnOK Try.prog 39 ad39 rd39 (F39 N) :=
  fn_ok (N := N) (live := live39) (code := c39) (tok T39.rt T39.kl (wrNil_ok)) mixed (gok39 N) Try.func39 (by kernel_rfl) (by kernel_rfl) (by kernel_rfl) fun a p h => by rw [← h]; exact run39 N a.1

/-! ### tiller/nat.guess: function 40 -/
noncomputable def c40 : Code := (Try.f40.body).getD .skip
noncomputable def T40 : Tb := ⟨tyOf tys, [(8, 2), (12, 2), (17, 3), (22, 3), (30, 3), (36, 2), (45, 3)], [], wrNil⟩
noncomputable def G40 {R : Type} (N : Nat) : FuncId → List AV → (AV → Option R) → Option R := gNil
theorem gok40 {R : Type} (N : Nat) : GOK Try.prog (G40 (R := R) N) := gNil_ok
noncomputable def live40 : List (Nat × List (Nat × HK)) := [(3, [(2, .keep), (3, .keep), (6, .keep), (7, .keep)])]
noncomputable def ad40 : Ad (Vec 3 × Vec 2 × Unit) := aC (cVec .u32 3) (aC (cVec .u32 2) (a0))
noncomputable def rd40 : Rd (Int) := r1 (cInt .u64)
noncomputable def st40_0 (v0 : Int) (v1 : Int) (v2 : Vec 3) (v3 : Vec 2) : St := ⟨[AV.none, AV.none, AV.ptr 2 0, AV.ptr 3 0, AV.none, AV.none, AV.v (.int .u64 v0), AV.v (.int .u64 v1), AV.none, AV.none, AV.none, AV.none, AV.none, AV.none, AV.none, AV.none, AV.none, AV.none, AV.none, AV.none, AV.none, AV.none, AV.none, AV.none, AV.none, AV.none, AV.none, AV.none, AV.none, AV.none, AV.none, AV.none, AV.none, AV.none, AV.none, AV.none, AV.none, AV.none, AV.none, AV.none, AV.none, AV.none, AV.none, AV.none, AV.none, AV.none, AV.none, AV.none, AV.none, AV.none, AV.none, AV.none], [none, none, some (OB.arr .u32 3 v2), some (OB.arr .u32 2 v3), none, none, none, none, none, none, none, none, none, none, none, none, none, none, none, none, none, none, none, none, none, none, none, none, none, none, none, none, none, none, none, none, none, none, none, none, none, none, none, none, none, none, none, none, none, none, none, none]⟩
noncomputable def raw40_0 (N : Nat) (n : Nat) (v0 : Int) (v1 : Int) (v2 : Vec 3) (v3 : Vec 2) : Option (Int) := loopN (lookN live40 3) (exec T40 (G40 N) N live40 (cL (cL (cL (cR (cR (cR c40))))))) n (st40_0 v0 v1 v2 v3) (blockK 0 (seqK (exec T40 (G40 N) N live40 (cR (cR (cR (cR c40))))) (retK T40 Try.f40.results.toList (rd40).dec)))
noncomputable def s40_0 (N : Nat) (Ln0 : Int → Int → Vec 3 → Vec 2 → Option (Int)) (v0 : Int) (v1 : Int) (v2 : Vec 3) (v3 : Vec 2) : Option (Int) :=
  cond (leI 4294967296 v0)
   (cond (leI 4294967296 (addI .u64 v1 (cvI .u64 (Vec.rd v3 0))))
    (some (subI .u64 v0 1))
    (Ln0 (subI .u64 v0 1) (addI .u64 v1 (cvI .u64 (Vec.rd v3 0))) v2 v3))
   (cond (ltI (orI .u64 (shlI .u64 v1 32) (cvI .u64 (Vec.rd v2 2))) (mulI .u64 v0 (cvI .u64 (Vec.rd v3 1))))
    (cond (leI 4294967296 (addI .u64 v1 (cvI .u64 (Vec.rd v3 0))))
     (some (subI .u64 v0 1))
     (Ln0 (subI .u64 v0 1) (addI .u64 v1 (cvI .u64 (Vec.rd v3 0))) v2 v3))
    (some v0))
theorem step40_0 (N : Nat) (n : Nat) (v0 : Int) (v1 : Int) (v2 : Vec 3) (v3 : Vec 2) : raw40_0 N  (n + 1) v0 v1 v2 v3 = s40_0 N (raw40_0 N  n) v0 v1 v2 v3 := by kernel_rfl
noncomputable def l40_0 (N : Nat) : Nat → Int → Int → Vec 3 → Vec 2 → Option (Int)
  | 0 => fun _ _ _ _ => none
  | n + 1 => fun v0 v1 v2 v3 => s40_0 N (l40_0 N  n) v0 v1 v2 v3
theorem eq40_0 (N : Nat) : ∀ n, raw40_0 N  n = l40_0 N  n := by
  intro n
  induction n with
  | zero => exact funext fun v0 => funext fun v1 => funext fun v2 => funext fun v3 => rfl
  | succ n ih => exact funext fun v0 => funext fun v1 => funext fun v2 => funext fun v3 => by rw [step40_0, ih]; rfl
noncomputable def t40 (N : Nat) (Le0 : Int → Int → Vec 3 → Vec 2 → Option (Int)) (x0 : Vec 3) (x1 : Vec 2) : Option (Int) :=
  cond (eqI (cvI .u64 (Vec.rd x1 0)) 0)
   (none)
   (cond (eqI (cvI .u64 (Vec.rd x1 0)) 0)
    (none)
    (Le0 (quoI .u64 (orI .u64 (shlI .u64 (cvI .u64 (Vec.rd x0 0)) 32) (cvI .u64 (Vec.rd x0 1))) (cvI .u64 (Vec.rd x1 0))) (remI .u64 (orI .u64 (shlI .u64 (cvI .u64 (Vec.rd x0 0)) 32) (cvI .u64 (Vec.rd x0 1))) (cvI .u64 (Vec.rd x1 0))) x0 x1))
noncomputable def fn_nat_guess (N : Nat) (x0 : Vec 3) (x1 : Vec 2) : Option (Int) := t40 N (l40_0 N N) x0 x1
theorem run40 (N : Nat) (x0 : Vec 3) (x1 : Vec 2) : Eng.run T40 (G40 N) N live40 c40 Try.f40.results.toList Try.f40.ntmps ((ad40).enc (x0, x1, ())) (rd40).dec = fn_nat_guess N x0 x1 := by
  refine Eq.trans (show _ = t40 N (raw40_0 N N) x0 x1 from by kernel_rfl) ?_
  unfold fn_nat_guess
  rw [eq40_0 N N]
noncomputable def F40 (N : Nat) (a : Vec 3 × Vec 2 × Unit) : Option (Int) := fn_nat_guess N a.1 a.2.1
theorem ok40 (N : Nat) : FnOK Try.prog 40 ad40 rd40 (F40 N) :=
  fn_ok (N := N) (live := live40) (code := c40) (tok T40.rt T40.kl (wrNil_ok)) mixed (gok40 N) Try.func40 (by kernel_rfl) (by kernel_rfl) (by kernel_rfl) fun a p h => by rw [← h]; exact run40 N a.1 a.2.1

/-! ### tiller/nat.take: function 41 -/
noncomputable def c41 : Code := (Try.f41.body).getD .skip
noncomputable def T41 : Tb := ⟨tyOf tys, [(31, 0), (45, 0), (64, 0), (78, 0)], [], wrNil⟩
noncomputable def G41 {R : Type} (N : Nat) : FuncId → List AV → (AV → Option R) → Option R := gCons 19 (gOf ad19 rd19 (F19 N)) (gNil)
theorem gok41 {R : Type} (N : Nat) : GOK Try.prog (G41 (R := R) N) := gCons_ok (ok19 N) (gNil_ok)
noncomputable def live41 : List (Nat × List (Nat × HK)) := [(3, [(0, .row .u32 44), (1, .keep), (2, .keep), (3, .keep), (9, .keep), (10, .keep), (16, .keep), (17, .keep)]), (14, [(0, .row .u32 44), (1, .keep), (2, .keep), (9, .keep), (55, .keep), (56, .keep)])]
noncomputable def ad41 : Ad (List Int × Int × Int × Unit) := aC (cLi .u32) (aC (cInt .i64) (aC (cInt .u64) (a0)))
noncomputable def rd41 : Rd (Bool) := r1 (cBool)
noncomputable def st41_0 (v0 : List Int) (v1 : Int) (v2 : Int) (v3 : Int) (v4 : Int) (v5 : Int) (v6 : Int) (v7 : List Int) : St := ⟨[AV.own 0, AV.li .u32 v0, AV.v (.int .i64 v1), AV.v (.int .u64 v2), AV.none, AV.none, AV.none, AV.none, AV.none, AV.v (.int .u64 v3), AV.v (.int .u64 v4), AV.none, AV.none, AV.none, AV.none, AV.none, AV.v (.int .i64 v5), AV.v (.int .i64 v6), AV.none, AV.none, AV.none, AV.none, AV.none, AV.none, AV.none, AV.none, AV.none, AV.none, AV.none, AV.none, AV.none, AV.none, AV.none, AV.none, AV.none, AV.none, AV.none, AV.none, AV.none, AV.none, AV.none, AV.none, AV.none, AV.none, AV.none, AV.none, AV.none, AV.none, AV.none, AV.none, AV.none, AV.none, AV.none, AV.none, AV.none, AV.none, AV.none, AV.none, AV.none, AV.none, AV.none, AV.none, AV.none, AV.none, AV.none, AV.none, AV.none, AV.none, AV.none, AV.none, AV.none, AV.none, AV.none, AV.none, AV.none, AV.none, AV.none, AV.none, AV.none, AV.none, AV.none, AV.none], [some (OB.row .u32 44 v7), none, none, none, none, none, none, none, none, none, none, none, none, none, none, none, none, none, none, none, none, none, none, none, none, none, none, none, none, none, none, none, none, none, none, none, none, none, none, none, none, none, none, none, none, none, none, none, none, none, none, none, none, none, none, none, none, none, none, none, none, none, none, none, none, none, none, none, none, none, none, none, none, none, none, none, none, none, none, none, none, none]⟩
noncomputable def raw41_0 (N xl : Nat) (n : Nat) (v0 : List Int) (v1 : Int) (v2 : Int) (v3 : Int) (v4 : Int) (v5 : Int) (v6 : Int) (v7 : List Int) : Option (List Int × (Bool)) := loopN (lookN live41 3) (exec T41 (G41 N) N live41 (cL (cL (cR (cL (cR (cR c41))))))) n (st41_0 v0 v1 v2 v3 v4 v5 v6 v7) (blockK 0 (seqK (exec T41 (G41 N) N live41 (cR (cR (cR c41)))) (retKW T41 Try.f41.results.toList .u32 44 xl (kW rd41))))
noncomputable def st41_1 (v0 : List Int) (v1 : Int) (v2 : Int) (v3 : Int) (v4 : Int) (v5 : List Int) : St := ⟨[AV.own 0, AV.li .u32 v0, AV.v (.int .i64 v1), AV.none, AV.none, AV.none, AV.none, AV.none, AV.none, AV.v (.int .u64 v2), AV.none, AV.none, AV.none, AV.none, AV.none, AV.none, AV.none, AV.none, AV.none, AV.none, AV.none, AV.none, AV.none, AV.none, AV.none, AV.none, AV.none, AV.none, AV.none, AV.none, AV.none, AV.none, AV.none, AV.none, AV.none, AV.none, AV.none, AV.none, AV.none, AV.none, AV.none, AV.none, AV.none, AV.none, AV.none, AV.none, AV.none, AV.none, AV.none, AV.none, AV.none, AV.none, AV.none, AV.none, AV.none, AV.v (.int .i64 v3), AV.v (.int .i64 v4), AV.none, AV.none, AV.none, AV.none, AV.none, AV.none, AV.none, AV.none, AV.none, AV.none, AV.none, AV.none, AV.none, AV.none, AV.none, AV.none, AV.none, AV.none, AV.none, AV.none, AV.none, AV.none, AV.none, AV.none, AV.none], [some (OB.row .u32 44 v5), none, none, none, none, none, none, none, none, none, none, none, none, none, none, none, none, none, none, none, none, none, none, none, none, none, none, none, none, none, none, none, none, none, none, none, none, none, none, none, none, none, none, none, none, none, none, none, none, none, none, none, none, none, none, none, none, none, none, none, none, none, none, none, none, none, none, none, none, none, none, none, none, none, none, none, none, none, none, none, none, none]⟩
noncomputable def raw41_1 (N xl : Nat) (n : Nat) (v0 : List Int) (v1 : Int) (v2 : Int) (v3 : Int) (v4 : Int) (v5 : List Int) : Option (List Int × (Bool)) := loopN (lookN live41 14) (exec T41 (G41 N) N live41 (cL (cL (cR (cL (cR (cR (cR (cR (cR c41)))))))))) n (st41_1 v0 v1 v2 v3 v4 v5) (blockK 2 (seqK (exec T41 (G41 N) N live41 (cR (cR (cR (cR (cR (cR c41))))))) (retKW T41 Try.f41.results.toList .u32 44 xl (kW rd41))))
noncomputable def s41_1 (N xl : Nat) (Ln1 : List Int → Int → Int → Int → Int → List Int → Option (List Int × (Bool))) (v0 : List Int) (v1 : Int) (v2 : Int) (v3 : Int) (v4 : Int) (v5 : List Int) : Option (List Int × (Bool)) :=
  cond (ltI v4 v3)
   (cond (leI 0 (addI .i64 v1 v4))
    (cond (ltI (addI .i64 v1 v4) (v5.length : Int))
     ((fn_nat_N_at N v0 v4).bind fun r2 =>
      cond (leI 0 (addI .i64 v1 v4))
       (cond (ltI (addI .i64 v1 v4) (v5.length : Int))
        (Ln1 v0 v1 (shrI .u64 (addI .u64 v2 (addI .u64 (cvI .u64 (lrd v5 (addI .i64 v1 v4))) r2)) 32) v3 (addI .i64 v4 1) (v5.set ((addI .i64 v1 v4).toNat) (cvI .u32 (addI .u64 v2 (addI .u64 (cvI .u64 (lrd v5 (addI .i64 v1 v4))) r2)))))
        (none))
       (none))
     (none))
    (none))
   (cond (Nat.beq v5.length xl)
    (some (v5, true))
    (none))
theorem step41_1 (N xl : Nat) (n : Nat) (v0 : List Int) (v1 : Int) (v2 : Int) (v3 : Int) (v4 : Int) (v5 : List Int) : raw41_1 N xl  (n + 1) v0 v1 v2 v3 v4 v5 = s41_1 N xl (raw41_1 N xl  n) v0 v1 v2 v3 v4 v5 := by kernel_rfl
noncomputable def l41_1 (N xl : Nat) : Nat → List Int → Int → Int → Int → Int → List Int → Option (List Int × (Bool))
  | 0 => fun _ _ _ _ _ _ => none
  | n + 1 => fun v0 v1 v2 v3 v4 v5 => s41_1 N xl (l41_1 N xl  n) v0 v1 v2 v3 v4 v5
theorem eq41_1 (N xl : Nat) : ∀ n, raw41_1 N xl  n = l41_1 N xl  n := by
  intro n
  induction n with
  | zero => exact funext fun v0 => funext fun v1 => funext fun v2 => funext fun v3 => funext fun v4 => funext fun v5 => rfl
  | succ n ih => exact funext fun v0 => funext fun v1 => funext fun v2 => funext fun v3 => funext fun v4 => funext fun v5 => by rw [step41_1, ih]; rfl
noncomputable def s41_0 (N xl : Nat) (Ln0 : List Int → Int → Int → Int → Int → Int → Int → List Int → Option (List Int × (Bool))) (Le1 : List Int → Int → Int → Int → Int → List Int → Option (List Int × (Bool))) (v0 : List Int) (v1 : Int) (v2 : Int) (v3 : Int) (v4 : Int) (v5 : Int) (v6 : Int) (v7 : List Int) : Option (List Int × (Bool)) :=
  cond (ltI v6 v5)
   ((fn_nat_N_at N v0 v6).bind fun r1 =>
    cond (leI 0 (addI .i64 v1 v6))
     (cond (ltI (addI .i64 v1 v6) (v7.length : Int))
      (cond (leI 0 (addI .i64 v1 v6))
       (cond (ltI (addI .i64 v1 v6) (v7.length : Int))
        (Ln0 v0 v1 v2 (shrI .u64 (subI .u64 (subI .u64 (cvI .u64 (lrd v7 (addI .i64 v1 v6))) (andI .u64 (addI .u64 v4 (mulI .u64 v2 r1)) 4294967295)) v3) 63) (shrI .u64 (addI .u64 v4 (mulI .u64 v2 r1)) 32) v5 (addI .i64 v6 1) (v7.set ((addI .i64 v1 v6).toNat) (cvI .u32 (subI .u64 (subI .u64 (cvI .u64 (lrd v7 (addI .i64 v1 v6))) (andI .u64 (addI .u64 v4 (mulI .u64 v2 r1)) 4294967295)) v3))))
        (none))
       (none))
      (none))
     (none))
   (cond (eqI v3 0)
    (cond (Nat.beq v7.length xl)
     (some (v7, false))
     (none))
    (Le1 v0 v1 0 (addI .i64 (v0.length : Int) 1) 0 v7))
theorem step41_0 (N xl : Nat) (n : Nat) (v0 : List Int) (v1 : Int) (v2 : Int) (v3 : Int) (v4 : Int) (v5 : Int) (v6 : Int) (v7 : List Int) : raw41_0 N xl  (n + 1) v0 v1 v2 v3 v4 v5 v6 v7 = s41_0 N xl (raw41_0 N xl  n) (raw41_1 N xl  N) v0 v1 v2 v3 v4 v5 v6 v7 := by kernel_rfl
noncomputable def l41_0 (N xl : Nat) : Nat → List Int → Int → Int → Int → Int → Int → Int → List Int → Option (List Int × (Bool))
  | 0 => fun _ _ _ _ _ _ _ _ => none
  | n + 1 => fun v0 v1 v2 v3 v4 v5 v6 v7 => s41_0 N xl (l41_0 N xl  n) (l41_1 N xl  N) v0 v1 v2 v3 v4 v5 v6 v7
theorem eq41_0 (N xl : Nat) : ∀ n, raw41_0 N xl  n = l41_0 N xl  n := by
  intro n
  induction n with
  | zero => exact funext fun v0 => funext fun v1 => funext fun v2 => funext fun v3 => funext fun v4 => funext fun v5 => funext fun v6 => funext fun v7 => rfl
  | succ n ih => exact funext fun v0 => funext fun v1 => funext fun v2 => funext fun v3 => funext fun v4 => funext fun v5 => funext fun v6 => funext fun v7 => by rw [step41_0, eq41_1 N xl  N, ih]; rfl
noncomputable def t41 (N xl : Nat) (Le0 : List Int → Int → Int → Int → Int → Int → Int → List Int → Option (List Int × (Bool))) (x0 : List Int) (x1 : List Int) (x2 : Int) (x3 : Int) : Option (List Int × (Bool)) :=
  Le0 x1 x2 x3 0 0 (addI .i64 (x1.length : Int) 1) 0 x0
noncomputable def fn_nat_take (N : Nat) (x0 : List Int) (x1 : List Int) (x2 : Int) (x3 : Int) : Option (List Int × (Bool)) := t41 N x0.length (l41_0 N x0.length N) x0 x1 x2 x3
theorem run41 (N : Nat) (x0 : List Int) (x1 : List Int) (x2 : Int) (x3 : Int) : Eng.runW T41 (G41 N) N live41 c41 Try.f41.results.toList Try.f41.ntmps .u32 44 x0 ((ad41).enc (x1, x2, x3, ())) (kW rd41) = fn_nat_take N x0 x1 x2 x3 := by
  refine Eq.trans (show _ = t41 N x0.length (raw41_0 N x0.length N) x0 x1 x2 x3 from by kernel_rfl) ?_
  unfold fn_nat_take
  rw [eq41_0 N x0.length N]
noncomputable def F41 (N : Nat) (x0 : List Int) (a : List Int × Int × Int × Unit) : Option (List Int × (Bool)) := fn_nat_take N x0 a.1 a.2.1 a.2.2.1
theorem okw41 (N : Nat) : FnwOK Try.prog 41 .u32 44 ad41 rd41 (F41 N) :=
  fnw_ok (N := N) (live := live41) (code := c41) (tok T41.rt T41.kl (wrNil_ok)) mixed (gok41 N) Try.func41 (by kernel_rfl) (by kernel_rfl) (by kernel_rfl) (by kernel_rfl) (by kernel_rfl) fun x0 a p h => by rw [← h]; exact run41 N x0 a.1 a.2.1 a.2.2.1

/-! ### tiller/nat.down: function 42 -/
noncomputable def c42 : Code := (Try.f42.body).getD .skip
noncomputable def T42 : Tb := ⟨tyOf tys, [(29, 5)], [32], wrNil⟩
noncomputable def G42 {R : Type} (N : Nat) : FuncId → List AV → (AV → Option R) → Option R := gCons 19 (gOf ad19 rd19 (F19 N)) (gCons 17 (gOf ad17 rd17 (F17 N)) (gNil))
theorem gok42 {R : Type} (N : Nat) : GOK Try.prog (G42 (R := R) N) := gCons_ok (ok19 N) (gCons_ok (ok17 N) (gNil_ok))
noncomputable def live42 : List (Nat × List (Nat × HK)) := [(3, [(0, .keep), (1, .keep), (5, .row .u32 44), (11, .keep), (12, .keep)])]
noncomputable def ad42 : Ad (List Int × Int × Unit) := aC (cLi .u32) (aC (cInt .i64) (a0))
noncomputable def rd42 : Rd (List Int) := r1 (cLi .u32)
noncomputable def st42_0 (v0 : List Int) (v1 : Int) (v2 : Int) (v3 : Int) (v4 : List Int) : St := ⟨[AV.li .u32 v0, AV.v (.int .i64 v1), AV.none, AV.none, AV.none, AV.own 5, AV.none, AV.none, AV.none, AV.none, AV.none, AV.v (.int .i64 v2), AV.v (.int .i64 v3), AV.none, AV.none, AV.none, AV.none, AV.none, AV.none, AV.none, AV.none, AV.none, AV.none, AV.none, AV.none, AV.none, AV.none, AV.none, AV.none, AV.none, AV.none, AV.none, AV.none], [none, none, none, none, none, some (OB.row .u32 44 v4), none, none, none, none, none, none, none, none, none, none, none, none, none, none, none, none, none, none, none, none, none, none, none, none, none, none, none]⟩
noncomputable def raw42_0 (N : Nat) (n : Nat) (v0 : List Int) (v1 : Int) (v2 : Int) (v3 : Int) (v4 : List Int) : Option (List Int) := loopN (lookN live42 3) (exec T42 (G42 N) N live42 (cL (cL (cR (cL (cR (cR c42))))))) n (st42_0 v0 v1 v2 v3 v4) (blockK 0 (seqK (exec T42 (G42 N) N live42 (cR (cR (cR c42)))) (retK T42 Try.f42.results.toList (rd42).dec)))
noncomputable def s42_0 (N : Nat) (Ln0 : List Int → Int → Int → Int → List Int → Option (List Int)) (v0 : List Int) (v1 : Int) (v2 : Int) (v3 : Int) (v4 : List Int) : Option (List Int) :=
  cond (ltI v3 v2)
   ((fn_nat_N_at N v0 v3).bind fun r1 =>
    (fn_nat_N_at N v0 (addI .i64 v3 1)).bind fun r2 =>
     cond (ltI v1 0)
      (none)
      (cond (leI 0 v3)
       (cond (ltI v3 (v4.length : Int))
        (Ln0 v0 v1 v2 (addI .i64 v3 1) (v4.set v3.toNat (cvI .u32 (shrI .u64 (orI .u64 r1 (shlI .u64 r2 32)) v1))))
        (none))
       (none)))
   ((fn_nat_trim N v4).bind fun r3 =>
    some r3)
theorem step42_0 (N : Nat) (n : Nat) (v0 : List Int) (v1 : Int) (v2 : Int) (v3 : Int) (v4 : List Int) : raw42_0 N  (n + 1) v0 v1 v2 v3 v4 = s42_0 N (raw42_0 N  n) v0 v1 v2 v3 v4 := by kernel_rfl
noncomputable def l42_0 (N : Nat) : Nat → List Int → Int → Int → Int → List Int → Option (List Int)
  | 0 => fun _ _ _ _ _ => none
  | n + 1 => fun v0 v1 v2 v3 v4 => s42_0 N (l42_0 N  n) v0 v1 v2 v3 v4
theorem eq42_0 (N : Nat) : ∀ n, raw42_0 N  n = l42_0 N  n := by
  intro n
  induction n with
  | zero => exact funext fun v0 => funext fun v1 => funext fun v2 => funext fun v3 => funext fun v4 => rfl
  | succ n ih => exact funext fun v0 => funext fun v1 => funext fun v2 => funext fun v3 => funext fun v4 => by rw [step42_0, ih]; rfl
noncomputable def t42 (N : Nat) (Le0 : List Int → Int → Int → Int → List Int → Option (List Int)) (x0 : List Int) (x1 : Int) : Option (List Int) :=
  cond (leI 0 (x0.length : Int))
   (cond (leI (x0.length : Int) 17592186044416)
    (Le0 x0 x1 ((List.replicate ((x0.length : Int).toNat) (0 : Int)).length : Int) 0 (List.replicate ((x0.length : Int).toNat) (0 : Int)))
    (none))
   (none)
noncomputable def fn_nat_down (N : Nat) (x0 : List Int) (x1 : Int) : Option (List Int) := t42 N (l42_0 N N) x0 x1
theorem run42 (N : Nat) (x0 : List Int) (x1 : Int) : Eng.run T42 (G42 N) N live42 c42 Try.f42.results.toList Try.f42.ntmps ((ad42).enc (x0, x1, ())) (rd42).dec = fn_nat_down N x0 x1 := by
  refine Eq.trans (show _ = t42 N (raw42_0 N N) x0 x1 from by kernel_rfl) ?_
  unfold fn_nat_down
  rw [eq42_0 N N]
noncomputable def F42 (N : Nat) (a : List Int × Int × Unit) : Option (List Int) := fn_nat_down N a.1 a.2.1
theorem ok42 (N : Nat) : FnOK Try.prog 42 ad42 rd42 (F42 N) :=
  fn_ok (N := N) (live := live42) (code := c42) (tok T42.rt T42.kl (wrNil_ok)) mixed (gok42 N) Try.func42 (by kernel_rfl) (by kernel_rfl) (by kernel_rfl) fun a p h => by rw [← h]; exact run42 N a.1 a.2.1

/-! ### tiller/nat.parts: function 28 -/
noncomputable def c28 : Code := (Try.f28.body).getD .skip
noncomputable def T28 (N : Nat) : Tb := ⟨tyOf tys, [(75, 10), (82, 10), (89, 10), (115, 12)], [117, 119], wrCons 41 (wOf .u32 44 ad41 rd41 (F41 N)) (wrNil)⟩
noncomputable def G28 {R : Type} (N : Nat) : FuncId → List AV → (AV → Option R) → Option R := gCons 23 (gOf ad23 rd23 (F23 N)) (gCons 36 (gOf (aC (cLi .u32) a0) (r1 (cLi .u32)) (fun a => fn_slices_Clone N a.1)) (gCons 37 (gOf ad37 rd37 (F37 N)) (gCons 5 (gOf ad5 rd5 (F5 N)) (gCons 39 (gOf ad39 rd39 (F39 N)) (gCons 22 (gOf ad22 rd22 (F22 N)) (gCons 40 (gOf ad40 rd40 (F40 N)) (gCons 17 (gOf ad17 rd17 (F17 N)) (gCons 42 (gOf ad42 rd42 (F42 N)) (gNil)))))))))
theorem gok28 {R : Type} (N : Nat) : GOK Try.prog (G28 (R := R) N) := gCons_ok (ok23 N) (gCons_ok (clone_ok N) (gCons_ok (ok37 N) (gCons_ok (ok5 N) (gCons_ok (ok39 N) (gCons_ok (ok22 N) (gCons_ok (ok40 N) (gCons_ok (ok17 N) (gCons_ok (ok42 N) (gNil_ok)))))))))
noncomputable def live28 : List (Nat × List (Nat × HK)) := [(13, [(8, .keep), (9, .keep), (10, .row .u32 44), (11, .keep), (12, .row .u32 44), (13, .keep)])]
noncomputable def ad28 : Ad (List Int × List Int × Unit) := aC (cLi .u32) (aC (cLi .u32) (a0))
noncomputable def rd28 : Rd (List Int × List Int) := r2 (cLi .u32) (cLi .u32)
noncomputable def st28_0 (v0 : Int) (v1 : List Int) (v2 : Int) (v3 : Int) (v4 : List Int) (v5 : List Int) : St := ⟨[AV.none, AV.none, AV.none, AV.none, AV.none, AV.none, AV.none, AV.none, AV.v (.int .i64 v0), AV.li .u32 v1, AV.own 10, AV.v (.int .i64 v2), AV.own 12, AV.v (.int .i64 v3), AV.none, AV.none, AV.none, AV.none, AV.none, AV.none, AV.none, AV.none, AV.none, AV.none, AV.none, AV.none, AV.none, AV.none, AV.none, AV.none, AV.none, AV.none, AV.none, AV.none, AV.none, AV.none, AV.none, AV.none, AV.none, AV.none, AV.none, AV.none, AV.none, AV.none, AV.none, AV.none, AV.none, AV.none, AV.none, AV.none, AV.none, AV.none, AV.none, AV.none, AV.none, AV.none, AV.none, AV.none, AV.none, AV.none, AV.none, AV.none, AV.none, AV.none, AV.none, AV.none, AV.none, AV.none, AV.none, AV.none, AV.none, AV.none, AV.none, AV.none, AV.none, AV.none, AV.none, AV.none, AV.none, AV.none, AV.none, AV.none, AV.none, AV.none, AV.none, AV.none, AV.none, AV.none, AV.none, AV.none, AV.none, AV.none, AV.none, AV.none, AV.none, AV.none, AV.none, AV.none, AV.none, AV.none, AV.none, AV.none, AV.none, AV.none, AV.none, AV.none, AV.none, AV.none, AV.none, AV.none, AV.none, AV.none, AV.none, AV.none, AV.none, AV.none, AV.none, AV.none, AV.none, AV.none, AV.none, AV.none], [none, none, none, none, none, none, none, none, none, none, some (OB.row .u32 44 v4), none, some (OB.row .u32 44 v5), none, none, none, none, none, none, none, none, none, none, none, none, none, none, none, none, none, none, none, none, none, none, none, none, none, none, none, none, none, none, none, none, none, none, none, none, none, none, none, none, none, none, none, none, none, none, none, none, none, none, none, none, none, none, none, none, none, none, none, none, none, none, none, none, none, none, none, none, none, none, none, none, none, none, none, none, none, none, none, none, none, none, none, none, none, none, none, none, none, none, none, none, none, none, none, none, none, none, none, none, none, none, none, none, none, none, none, none, none]⟩
noncomputable def raw28_0 (N : Nat) (n : Nat) (v0 : Int) (v1 : List Int) (v2 : Int) (v3 : Int) (v4 : List Int) (v5 : List Int) : Option (List Int × List Int) := loopN (lookN live28 13) (exec (T28 N) (G28 N) N live28 (cL (cL (cR (cL (cR (cR (cR (cR (cR (cR (cR (cR (cR c28)))))))))))))) n (st28_0 v0 v1 v2 v3 v4 v5) (blockK 0 (seqK (exec (T28 N) (G28 N) N live28 (cR (cR (cR (cR (cR (cR (cR (cR (cR (cR c28))))))))))) (retK (T28 N) Try.f28.results.toList (rd28).dec)))
noncomputable def s28_0 (N : Nat) (Ln0 : Int → List Int → Int → Int → List Int → List Int → Option (List Int × List Int)) (v0 : Int) (v1 : List Int) (v2 : Int) (v3 : Int) (v4 : List Int) (v5 : List Int) : Option (List Int × List Int) :=
  cond (leI 0 v3)
   (cond (leI 0 (addI .i64 v3 v2))
    (cond (ltI (addI .i64 v3 v2) (v4.length : Int))
     (cond (leI 0 (subI .i64 (addI .i64 v3 v2) 1))
      (cond (ltI (subI .i64 (addI .i64 v3 v2) 1) (v4.length : Int))
       (cond (leI 0 (subI .i64 (addI .i64 v3 v2) 2))
        (cond (ltI (subI .i64 (addI .i64 v3 v2) 2) (v4.length : Int))
         (cond (leI 0 (subI .i64 v2 1))
          (cond (ltI (subI .i64 v2 1) (v1.length : Int))
           (cond (leI 0 (subI .i64 v2 2))
            (cond (ltI (subI .i64 v2 2) (v1.length : Int))
             ((fn_nat_guess N (Vec.st (Vec.st (Vec.st (Vec.zero 3) 0 (lrd v4 (addI .i64 v3 v2))) 1 (lrd v4 (subI .i64 (addI .i64 v3 v2) 1))) 2 (lrd v4 (subI .i64 (addI .i64 v3 v2) 2))) (Vec.st (Vec.st (Vec.zero 2) 0 (lrd v1 (subI .i64 v2 1))) 1 (lrd v1 (subI .i64 v2 2)))).bind fun r8 =>
              (fn_nat_take N v4 v1 v3 r8).bind fun r9 =>
               cond r9.2
                (cond (leI 0 v3)
                 (cond (ltI v3 (v5.length : Int))
                  (Ln0 v0 v1 v2 (subI .i64 v3 1) r9.1 (v5.set v3.toNat (cvI .u32 (subI .u64 r8 1))))
                  (none))
                 (none))
                (cond (leI 0 v3)
                 (cond (ltI v3 (v5.length : Int))
                  (Ln0 v0 v1 v2 (subI .i64 v3 1) r9.1 (v5.set v3.toNat (cvI .u32 r8)))
                  (none))
                 (none)))
             (none))
            (none))
           (none))
          (none))
         (none))
        (none))
       (none))
      (none))
     (none))
    (none))
   ((fn_nat_trim N v5).bind fun r10 =>
    (fn_nat_trim N v4).bind fun r11 =>
     (fn_nat_down N r11 v0).bind fun r12 =>
      some (r10, r12))
theorem step28_0 (N : Nat) (n : Nat) (v0 : Int) (v1 : List Int) (v2 : Int) (v3 : Int) (v4 : List Int) (v5 : List Int) : raw28_0 N  (n + 1) v0 v1 v2 v3 v4 v5 = s28_0 N (raw28_0 N  n) v0 v1 v2 v3 v4 v5 := by kernel_rfl
noncomputable def l28_0 (N : Nat) : Nat → Int → List Int → Int → Int → List Int → List Int → Option (List Int × List Int)
  | 0 => fun _ _ _ _ _ _ => none
  | n + 1 => fun v0 v1 v2 v3 v4 v5 => s28_0 N (l28_0 N  n) v0 v1 v2 v3 v4 v5
theorem eq28_0 (N : Nat) : ∀ n, raw28_0 N  n = l28_0 N  n := by
  intro n
  induction n with
  | zero => exact funext fun v0 => funext fun v1 => funext fun v2 => funext fun v3 => funext fun v4 => funext fun v5 => rfl
  | succ n ih => exact funext fun v0 => funext fun v1 => funext fun v2 => funext fun v3 => funext fun v4 => funext fun v5 => by rw [step28_0, ih]; rfl
noncomputable def t28 (N : Nat) (Le0 : Int → List Int → Int → Int → List Int → List Int → Option (List Int × List Int)) (x0 : List Int) (x1 : List Int) : Option (List Int × List Int) :=
  (fn_nat_compare N x0 x1).bind fun r1 =>
   cond (ltI r1 0)
    ((fn_slices_Clone N x0).bind fun r2 =>
     some ([], r2))
    (cond (eqI (x1.length : Int) 1)
     (cond (ltI 0 (x1.length : Int))
      ((fn_nat_short N x0 (lrd x1 0)).bind fun r3 =>
       (fn_nat_Of N (cvI .u64 r3.2)).bind fun r4 =>
        some (r3.1, r4))
      (none))
     (cond (leI 0 (subI .i64 (x1.length : Int) 1))
      (cond (ltI (subI .i64 (x1.length : Int) 1) (x1.length : Int))
       ((fn_bits_LeadingZeros32 N (lrd x1 (subI .i64 (x1.length : Int) 1))).bind fun r5 =>
        (fn_nat_up N x1 r5).bind fun r6 =>
         cond (leI 0 (addI .i64 (x0.length : Int) 1))
          (cond (leI (addI .i64 (x0.length : Int) 1) 17592186044416)
           ((fn_nat_up N x0 r5).bind fun r7 =>
            cond (leI 0 (addI .i64 (subI .i64 (x0.length : Int) (r6.length : Int)) 1))
             (cond (leI (addI .i64 (subI .i64 (x0.length : Int) (r6.length : Int)) 1) 17592186044416)
              (Le0 r5 r6 (r6.length : Int) (subI .i64 (x0.length : Int) (r6.length : Int)) (cpL (List.replicate ((addI .i64 (x0.length : Int) 1).toNat) (0 : Int)) r7) (List.replicate ((addI .i64 (subI .i64 (x0.length : Int) (r6.length : Int)) 1).toNat) (0 : Int)))
              (none))
             (none))
           (none))
          (none))
       (none))
      (none)))
noncomputable def fn_nat_parts (N : Nat) (x0 : List Int) (x1 : List Int) : Option (List Int × List Int) := t28 N (l28_0 N N) x0 x1
theorem run28 (N : Nat) (x0 : List Int) (x1 : List Int) : Eng.run (T28 N) (G28 N) N live28 c28 Try.f28.results.toList Try.f28.ntmps ((ad28).enc (x0, x1, ())) (rd28).dec = fn_nat_parts N x0 x1 := by
  refine Eq.trans (show _ = t28 N (raw28_0 N N) x0 x1 from by kernel_rfl) ?_
  unfold fn_nat_parts
  rw [eq28_0 N N]
noncomputable def F28 (N : Nat) (a : List Int × List Int × Unit) : Option (List Int × List Int) := fn_nat_parts N a.1 a.2.1
theorem ok28 (N : Nat) : FnOK Try.prog 28 ad28 rd28 (F28 N) :=
  fn_ok (N := N) (live := live28) (code := c28) (tok (T28 N).rt (T28 N).kl (wrCons_ok (wOf_ok (okw41 N)) (wrNil_ok))) mixed (gok28 N) Try.func28 (by kernel_rfl) (by kernel_rfl) (by kernel_rfl) fun a p h => by rw [← h]; exact run28 N a.1 a.2.1

/-! ### tiller/nat.DivMod: function 13 -/
noncomputable def c13 : Code := (Try.f13.body).getD .skip
noncomputable def T13 : Tb := ⟨tyOf tys, [], [], wrNil⟩
noncomputable def G13 {R : Type} (N : Nat) : FuncId → List AV → (AV → Option R) → Option R := gCons 18 (gOf ad18 rd18 (F18 N)) (gCons 28 (gOf ad28 rd28 (F28 N)) (gNil))
theorem gok13 {R : Type} (N : Nat) : GOK Try.prog (G13 (R := R) N) := gCons_ok (ok18 N) (gCons_ok (ok28 N) (gNil_ok))
noncomputable def live13 : List (Nat × List (Nat × HK)) := []
noncomputable def ad13 : Ad (List Int × List Int × Unit) := aC (cLi .u32) (aC (cLi .u32) (a0))
noncomputable def rd13 : Rd (List Int × List Int × Option Int) := r3 (cLi .u32) (cLi .u32) (cErr 50)
noncomputable def fn_nat_DivMod (N : Nat) (x0 : List Int) (x1 : List Int) : Option (List Int × List Int × Option Int) :=
  (fn_nat_both N x0 x1).bind fun r1 =>
   cond (!(isNoneI r1))
    (some ([], [], some 1))
    (cond (eqI (x1.length : Int) 0)
     (some ([], [], some 5))
     ((fn_nat_parts N x0 x1).bind fun r2 =>
      some (r2.1, r2.2, none)))
theorem run13 (N : Nat) (x0 : List Int) (x1 : List Int) : Eng.run T13 (G13 N) N live13 c13 Try.f13.results.toList Try.f13.ntmps ((ad13).enc (x0, x1, ())) (rd13).dec = fn_nat_DivMod N x0 x1 := by kernel_rfl
noncomputable def F13 (N : Nat) (a : List Int × List Int × Unit) : Option (List Int × List Int × Option Int) := fn_nat_DivMod N a.1 a.2.1
theorem ok13 (N : Nat) : FnOK Try.prog 13 ad13 rd13 (F13 N) :=
  fn_ok (N := N) (live := live13) (code := c13) (tok T13.rt T13.kl (wrNil_ok)) mixed (gok13 N) Try.func13 (by kernel_rfl) (by kernel_rfl) (by kernel_rfl) fun a p h => by rw [← h]; exact run13 N a.1 a.2.1

/-! ### tiller/tillerref02.trim: function 29 -/
noncomputable def c29 : Code := (Try.f29.body).getD .skip
noncomputable def T29 : Tb := ⟨tyOf tys, [], [], wrNil⟩
noncomputable def G29 {R : Type} (N : Nat) : FuncId → List AV → (AV → Option R) → Option R := gNil
theorem gok29 {R : Type} (N : Nat) : GOK Try.prog (G29 (R := R) N) := gNil_ok
noncomputable def live29 : List (Nat × List (Nat × HK)) := [(2, [(0, .keep), (3, .keep)])]
noncomputable def ad29 : Ad (List Int × Unit) := aC (cLi .u32) (a0)
noncomputable def rd29 : Rd (List Int) := r1 (cLi .u32)
noncomputable def st29_0 (v0 : List Int) (v1 : Int) : St := ⟨[AV.li .u32 v0, AV.none, AV.none, AV.v (.int .i64 v1), AV.none, AV.none, AV.none, AV.none, AV.none, AV.none, AV.none, AV.none, AV.none, AV.none, AV.none, AV.none, AV.none, AV.none, AV.none, AV.none, AV.none, AV.none], [none, none, none, none, none, none, none, none, none, none, none, none, none, none, none, none, none, none, none, none, none, none]⟩
noncomputable def raw29_0 (N : Nat) (n : Nat) (v0 : List Int) (v1 : Int) : Option (List Int) := loopN (lookN live29 2) (exec T29 (G29 N) N live29 (cL (cL (cL (cR (cR c29)))))) n (st29_0 v0 v1) (blockK 0 (seqK (exec T29 (G29 N) N live29 (cR (cR (cR c29)))) (retK T29 Try.f29.results.toList (rd29).dec)))
noncomputable def s29_0 (N : Nat) (Ln0 : List Int → Int → Option (List Int)) (v0 : List Int) (v1 : Int) : Option (List Int) :=
  cond (ltI 0 v1)
   (cond (leI 0 (subI .i64 v1 1))
    (cond (ltI (subI .i64 v1 1) (v0.length : Int))
     (cond (eqI (lrd v0 (subI .i64 v1 1)) 0)
      (Ln0 v0 (subI .i64 v1 1))
      (cond (((((leI 0 0) && (leI 0 v1)) && (leI v1 v1)) && (leI v1 (v0.length : Int))) && (true || false))
       (some ((v0.take v1.toNat).drop ((0 : Int).toNat)))
       (none)))
     (none))
    (none))
   (cond (((((leI 0 0) && (leI 0 v1)) && (leI v1 v1)) && (leI v1 (v0.length : Int))) && (true || false))
    (some ((v0.take v1.toNat).drop ((0 : Int).toNat)))
    (none))
theorem step29_0 (N : Nat) (n : Nat) (v0 : List Int) (v1 : Int) : raw29_0 N  (n + 1) v0 v1 = s29_0 N (raw29_0 N  n) v0 v1 := by kernel_rfl
noncomputable def l29_0 (N : Nat) : Nat → List Int → Int → Option (List Int)
  | 0 => fun _ _ => none
  | n + 1 => fun v0 v1 => s29_0 N (l29_0 N  n) v0 v1
theorem eq29_0 (N : Nat) : ∀ n, raw29_0 N  n = l29_0 N  n := by
  intro n
  induction n with
  | zero => exact funext fun v0 => funext fun v1 => rfl
  | succ n ih => exact funext fun v0 => funext fun v1 => by rw [step29_0, ih]; rfl
noncomputable def t29 (N : Nat) (Le0 : List Int → Int → Option (List Int)) (x0 : List Int) : Option (List Int) :=
  Le0 x0 (x0.length : Int)
noncomputable def fn_tillerref02_trim (N : Nat) (x0 : List Int) : Option (List Int) := t29 N (l29_0 N N) x0
theorem run29 (N : Nat) (x0 : List Int) : Eng.run T29 (G29 N) N live29 c29 Try.f29.results.toList Try.f29.ntmps ((ad29).enc (x0, ())) (rd29).dec = fn_tillerref02_trim N x0 := by
  refine Eq.trans (show _ = t29 N (raw29_0 N N) x0 from by kernel_rfl) ?_
  unfold fn_tillerref02_trim
  rw [eq29_0 N N]
noncomputable def F29 (N : Nat) (a : List Int × Unit) : Option (List Int) := fn_tillerref02_trim N a.1
theorem ok29 (N : Nat) : FnOK Try.prog 29 ad29 rd29 (F29 N) :=
  fn_ok (N := N) (live := live29) (code := c29) (tok T29.rt T29.kl (wrNil_ok)) mixed (gok29 N) Try.func29 (by kernel_rfl) (by kernel_rfl) (by kernel_rfl) fun a p h => by rw [← h]; exact run29 N a.1

/-! ### tiller/tillerref02.From: function 15 -/
noncomputable def c15 : Code := (Try.f15.body).getD .skip
noncomputable def T15 : Tb := ⟨tyOf tys, [], [25], wrNil⟩
noncomputable def G15 {R : Type} (N : Nat) : FuncId → List AV → (AV → Option R) → Option R := gCons 29 (gOf ad29 rd29 (F29 N)) (gNil)
theorem gok15 {R : Type} (N : Nat) : GOK Try.prog (G15 (R := R) N) := gCons_ok (ok29 N) (gNil_ok)
noncomputable def live15 : List (Nat × List (Nat × HK)) := [(3, [(0, .keep), (3, .row .u32 44), (4, .keep)])]
noncomputable def ad15 : Ad (List Int × Unit) := aC (cLi .u32) (a0)
noncomputable def rd15 : Rd (List Int) := r1 (cLi .u32)
noncomputable def st15_0 (v0 : List Int) (v1 : Int) (v2 : List Int) : St := ⟨[AV.li .u32 v0, AV.none, AV.none, AV.own 3, AV.v (.int .i64 v1), AV.none, AV.none, AV.none, AV.none, AV.none, AV.none, AV.none, AV.none, AV.none, AV.none, AV.none, AV.none, AV.none, AV.none, AV.none, AV.none, AV.none, AV.none, AV.none, AV.none, AV.none], [none, none, none, some (OB.row .u32 44 v2), none, none, none, none, none, none, none, none, none, none, none, none, none, none, none, none, none, none, none, none, none, none]⟩
noncomputable def raw15_0 (N : Nat) (n : Nat) (v0 : List Int) (v1 : Int) (v2 : List Int) : Option (List Int) := loopN (lookN live15 3) (exec T15 (G15 N) N live15 (cL (cL (cR (cL (cR (cR c15))))))) n (st15_0 v0 v1 v2) (blockK 0 (seqK (exec T15 (G15 N) N live15 (cR (cR (cR c15)))) (retK T15 Try.f15.results.toList (rd15).dec)))
noncomputable def s15_0 (N : Nat) (Ln0 : List Int → Int → List Int → Option (List Int)) (v0 : List Int) (v1 : Int) (v2 : List Int) : Option (List Int) :=
  cond (ltI v1 (v0.length : Int))
   (cond (leI 0 v1)
    (cond (ltI v1 (v0.length : Int))
     (cond (leI 0 v1)
      (cond (ltI v1 (v0.length : Int))
       (cond (fitL (v2.length + [remI .u32 (lrd v0 v1) 65536, quoI .u32 (lrd v0 v1) 65536].length))
        (Ln0 v0 (addI .i64 v1 1) (v2 ++ [remI .u32 (lrd v0 v1) 65536, quoI .u32 (lrd v0 v1) 65536]))
        (none))
       (none))
      (none))
     (none))
    (none))
   ((fn_tillerref02_trim N v2).bind fun r1 =>
    some r1)
theorem step15_0 (N : Nat) (n : Nat) (v0 : List Int) (v1 : Int) (v2 : List Int) : raw15_0 N  (n + 1) v0 v1 v2 = s15_0 N (raw15_0 N  n) v0 v1 v2 := by kernel_rfl
noncomputable def l15_0 (N : Nat) : Nat → List Int → Int → List Int → Option (List Int)
  | 0 => fun _ _ _ => none
  | n + 1 => fun v0 v1 v2 => s15_0 N (l15_0 N  n) v0 v1 v2
theorem eq15_0 (N : Nat) : ∀ n, raw15_0 N  n = l15_0 N  n := by
  intro n
  induction n with
  | zero => exact funext fun v0 => funext fun v1 => funext fun v2 => rfl
  | succ n ih => exact funext fun v0 => funext fun v1 => funext fun v2 => by rw [step15_0, ih]; rfl
noncomputable def t15 (N : Nat) (Le0 : List Int → Int → List Int → Option (List Int)) (x0 : List Int) : Option (List Int) :=
  Le0 x0 0 []
noncomputable def fn_tillerref02_From (N : Nat) (x0 : List Int) : Option (List Int) := t15 N (l15_0 N N) x0
theorem run15 (N : Nat) (x0 : List Int) : Eng.run T15 (G15 N) N live15 c15 Try.f15.results.toList Try.f15.ntmps ((ad15).enc (x0, ())) (rd15).dec = fn_tillerref02_From N x0 := by
  refine Eq.trans (show _ = t15 N (raw15_0 N N) x0 from by kernel_rfl) ?_
  unfold fn_tillerref02_From
  rw [eq15_0 N N]
noncomputable def F15 (N : Nat) (a : List Int × Unit) : Option (List Int) := fn_tillerref02_From N a.1
theorem ok15 (N : Nat) : FnOK Try.prog 15 ad15 rd15 (F15 N) :=
  fn_ok (N := N) (live := live15) (code := c15) (tok T15.rt T15.kl (wrNil_ok)) mixed (gok15 N) Try.func15 (by kernel_rfl) (by kernel_rfl) (by kernel_rfl) fun a p h => by rw [← h]; exact run15 N a.1

/-! ### tiller/tillerref02.at: function 31 -/
noncomputable def c31 : Code := (Try.f31.body).getD .skip
noncomputable def T31 : Tb := ⟨tyOf tys, [], [], wrNil⟩
noncomputable def G31 {R : Type} (N : Nat) : FuncId → List AV → (AV → Option R) → Option R := gNil
theorem gok31 {R : Type} (N : Nat) : GOK Try.prog (G31 (R := R) N) := gNil_ok
noncomputable def live31 : List (Nat × List (Nat × HK)) := []
noncomputable def ad31 : Ad (List Int × Int × Unit) := aC (cLi .u32) (aC (cInt .i64) (a0))
noncomputable def rd31 : Rd (Int) := r1 (cInt .u32)
noncomputable def fn_tillerref02_at (N : Nat) (x0 : List Int) (x1 : Int) : Option (Int) :=
  cond (leI 0 x1)
   (cond (ltI x1 (x0.length : Int))
    (cond (leI 0 x1)
     (cond (ltI x1 (x0.length : Int))
      (some (lrd x0 x1))
      (none))
     (none))
    (some 0))
   (some 0)
theorem run31 (N : Nat) (x0 : List Int) (x1 : Int) : Eng.run T31 (G31 N) N live31 c31 Try.f31.results.toList Try.f31.ntmps ((ad31).enc (x0, x1, ())) (rd31).dec = fn_tillerref02_at N x0 x1 := by kernel_rfl
noncomputable def F31 (N : Nat) (a : List Int × Int × Unit) : Option (Int) := fn_tillerref02_at N a.1 a.2.1
theorem ok31 (N : Nat) : FnOK Try.prog 31 ad31 rd31 (F31 N) :=
  fn_ok (N := N) (live := live31) (code := c31) (tok T31.rt T31.kl (wrNil_ok)) mixed (gok31 N) Try.func31 (by kernel_rfl) (by kernel_rfl) (by kernel_rfl) fun a p h => by rw [← h]; exact run31 N a.1 a.2.1

/-! ### tiller/tillerref02.Cmp: function 30 -/
noncomputable def c30 : Code := (Try.f30.body).getD .skip
noncomputable def T30 : Tb := ⟨tyOf tys, [], [], wrNil⟩
noncomputable def G30 {R : Type} (N : Nat) : FuncId → List AV → (AV → Option R) → Option R := gCons 31 (gOf ad31 rd31 (F31 N)) (gNil)
theorem gok30 {R : Type} (N : Nat) : GOK Try.prog (G30 (R := R) N) := gCons_ok (ok31 N) (gNil_ok)
noncomputable def live30 : List (Nat × List (Nat × HK)) := [(2, [(0, .keep), (1, .keep), (5, .keep)])]
noncomputable def ad30 : Ad (List Int × List Int × Unit) := aC (cLi .u32) (aC (cLi .u32) (a0))
noncomputable def rd30 : Rd (Int) := r1 (cInt .i64)
noncomputable def st30_0 (v0 : List Int) (v1 : List Int) (v2 : Int) : St := ⟨[AV.li .u32 v0, AV.li .u32 v1, AV.none, AV.none, AV.none, AV.v (.int .i64 v2), AV.none, AV.none, AV.none, AV.none, AV.none, AV.none, AV.none, AV.none, AV.none, AV.none, AV.none, AV.none, AV.none, AV.none, AV.none, AV.none, AV.none, AV.none, AV.none, AV.none, AV.none, AV.none, AV.none, AV.none], [none, none, none, none, none, none, none, none, none, none, none, none, none, none, none, none, none, none, none, none, none, none, none, none, none, none, none, none, none, none]⟩
noncomputable def raw30_0 (N : Nat) (n : Nat) (v0 : List Int) (v1 : List Int) (v2 : Int) : Option (Int) := loopN (lookN live30 2) (exec T30 (G30 N) N live30 (cL (cL (cR (cL (cR c30)))))) n (st30_0 v0 v1 v2) (blockK 0 (seqK (exec T30 (G30 N) N live30 (cR (cR c30))) (retK T30 Try.f30.results.toList (rd30).dec)))
noncomputable def s30_0 (N : Nat) (Ln0 : List Int → List Int → Int → Option (Int)) (v0 : List Int) (v1 : List Int) (v2 : Int) : Option (Int) :=
  cond (leI 0 v2)
   ((fn_tillerref02_at N v0 v2).bind fun r1 =>
    (fn_tillerref02_at N v1 v2).bind fun r2 =>
     cond (ltI r1 r2)
      (some (-1))
      ((fn_tillerref02_at N v0 v2).bind fun r3 =>
       (fn_tillerref02_at N v1 v2).bind fun r4 =>
        cond (ltI r4 r3)
         (some 1)
         (Ln0 v0 v1 (subI .i64 v2 1))))
   (some 0)
theorem step30_0 (N : Nat) (n : Nat) (v0 : List Int) (v1 : List Int) (v2 : Int) : raw30_0 N  (n + 1) v0 v1 v2 = s30_0 N (raw30_0 N  n) v0 v1 v2 := by kernel_rfl
noncomputable def l30_0 (N : Nat) : Nat → List Int → List Int → Int → Option (Int)
  | 0 => fun _ _ _ => none
  | n + 1 => fun v0 v1 v2 => s30_0 N (l30_0 N  n) v0 v1 v2
theorem eq30_0 (N : Nat) : ∀ n, raw30_0 N  n = l30_0 N  n := by
  intro n
  induction n with
  | zero => exact funext fun v0 => funext fun v1 => funext fun v2 => rfl
  | succ n ih => exact funext fun v0 => funext fun v1 => funext fun v2 => by rw [step30_0, ih]; rfl
noncomputable def t30 (N : Nat) (Le0 : List Int → List Int → Int → Option (Int)) (x0 : List Int) (x1 : List Int) : Option (Int) :=
  Le0 x0 x1 (subI .i64 (maxI (x0.length : Int) (x1.length : Int)) 1)
noncomputable def fn_tillerref02_Cmp (N : Nat) (x0 : List Int) (x1 : List Int) : Option (Int) := t30 N (l30_0 N N) x0 x1
theorem run30 (N : Nat) (x0 : List Int) (x1 : List Int) : Eng.run T30 (G30 N) N live30 c30 Try.f30.results.toList Try.f30.ntmps ((ad30).enc (x0, x1, ())) (rd30).dec = fn_tillerref02_Cmp N x0 x1 := by
  refine Eq.trans (show _ = t30 N (raw30_0 N N) x0 x1 from by kernel_rfl) ?_
  unfold fn_tillerref02_Cmp
  rw [eq30_0 N N]
noncomputable def F30 (N : Nat) (a : List Int × List Int × Unit) : Option (Int) := fn_tillerref02_Cmp N a.1 a.2.1
theorem ok30 (N : Nat) : FnOK Try.prog 30 ad30 rd30 (F30 N) :=
  fn_ok (N := N) (live := live30) (code := c30) (tok T30.rt T30.kl (wrNil_ok)) mixed (gok30 N) Try.func30 (by kernel_rfl) (by kernel_rfl) (by kernel_rfl) fun a p h => by rw [← h]; exact run30 N a.1 a.2.1

/-! ### tiller/tillerref02.Small: function 32 -/
noncomputable def c32 : Code := (Try.f32.body).getD .skip
noncomputable def T32 : Tb := ⟨tyOf tys, [], [40], wrNil⟩
noncomputable def G32 {R : Type} (N : Nat) : FuncId → List AV → (AV → Option R) → Option R := gCons 31 (gOf ad31 rd31 (F31 N)) (gCons 29 (gOf ad29 rd29 (F29 N)) (gNil))
theorem gok32 {R : Type} (N : Nat) : GOK Try.prog (G32 (R := R) N) := gCons_ok (ok31 N) (gCons_ok (ok29 N) (gNil_ok))
noncomputable def live32 : List (Nat × List (Nat × HK)) := [(4, [(0, .keep), (1, .keep), (7, .row .u32 44), (8, .keep), (9, .keep)])]
noncomputable def ad32 : Ad (List Int × Int × Int × Unit) := aC (cLi .u32) (aC (cInt .u32) (aC (cInt .u32) (a0)))
noncomputable def rd32 : Rd (List Int) := r1 (cLi .u32)
noncomputable def st32_0 (v0 : List Int) (v1 : Int) (v2 : Int) (v3 : Int) (v4 : List Int) : St := ⟨[AV.li .u32 v0, AV.v (.int .u32 v1), AV.none, AV.none, AV.none, AV.none, AV.none, AV.own 7, AV.v (.int .u64 v2), AV.v (.int .i64 v3), AV.none, AV.none, AV.none, AV.none, AV.none, AV.none, AV.none, AV.none, AV.none, AV.none, AV.none, AV.none, AV.none, AV.none, AV.none, AV.none, AV.none, AV.none, AV.none, AV.none, AV.none, AV.none, AV.none, AV.none, AV.none, AV.none, AV.none, AV.none, AV.none, AV.none, AV.none], [none, none, none, none, none, none, none, some (OB.row .u32 44 v4), none, none, none, none, none, none, none, none, none, none, none, none, none, none, none, none, none, none, none, none, none, none, none, none, none, none, none, none, none, none, none, none, none]⟩
noncomputable def raw32_0 (N : Nat) (n : Nat) (v0 : List Int) (v1 : Int) (v2 : Int) (v3 : Int) (v4 : List Int) : Option (List Int) := loopN (lookN live32 4) (exec T32 (G32 N) N live32 (cL (cL (cR (cL (cR (cR (cR c32)))))))) n (st32_0 v0 v1 v2 v3 v4) (blockK 0 (seqK (exec T32 (G32 N) N live32 (cR (cR (cR (cR c32))))) (retK T32 Try.f32.results.toList (rd32).dec)))
noncomputable def s32_0 (N : Nat) (Ln0 : List Int → Int → Int → Int → List Int → Option (List Int)) (v0 : List Int) (v1 : Int) (v2 : Int) (v3 : Int) (v4 : List Int) : Option (List Int) :=
  cond (ltI v3 (v0.length : Int))
   ((fn_tillerref02_at N v0 v3).bind fun r1 =>
    cond (fitL (v4.length + [cvI .u32 (remI .u64 (addI .u64 v2 (mulI .u64 (cvI .u64 r1) (cvI .u64 v1))) 65536)].length))
     (Ln0 v0 v1 (quoI .u64 (addI .u64 v2 (mulI .u64 (cvI .u64 r1) (cvI .u64 v1))) 65536) (addI .i64 v3 1) (v4 ++ [cvI .u32 (remI .u64 (addI .u64 v2 (mulI .u64 (cvI .u64 r1) (cvI .u64 v1))) 65536)]))
     (none))
   (cond (ltI 0 v2)
    ((fn_tillerref02_at N v0 v3).bind fun r2 =>
     cond (fitL (v4.length + [cvI .u32 (remI .u64 (addI .u64 v2 (mulI .u64 (cvI .u64 r2) (cvI .u64 v1))) 65536)].length))
      (Ln0 v0 v1 (quoI .u64 (addI .u64 v2 (mulI .u64 (cvI .u64 r2) (cvI .u64 v1))) 65536) (addI .i64 v3 1) (v4 ++ [cvI .u32 (remI .u64 (addI .u64 v2 (mulI .u64 (cvI .u64 r2) (cvI .u64 v1))) 65536)]))
      (none))
    ((fn_tillerref02_trim N v4).bind fun r3 =>
     some r3))
theorem step32_0 (N : Nat) (n : Nat) (v0 : List Int) (v1 : Int) (v2 : Int) (v3 : Int) (v4 : List Int) : raw32_0 N  (n + 1) v0 v1 v2 v3 v4 = s32_0 N (raw32_0 N  n) v0 v1 v2 v3 v4 := by kernel_rfl
noncomputable def l32_0 (N : Nat) : Nat → List Int → Int → Int → Int → List Int → Option (List Int)
  | 0 => fun _ _ _ _ _ => none
  | n + 1 => fun v0 v1 v2 v3 v4 => s32_0 N (l32_0 N  n) v0 v1 v2 v3 v4
theorem eq32_0 (N : Nat) : ∀ n, raw32_0 N  n = l32_0 N  n := by
  intro n
  induction n with
  | zero => exact funext fun v0 => funext fun v1 => funext fun v2 => funext fun v3 => funext fun v4 => rfl
  | succ n ih => exact funext fun v0 => funext fun v1 => funext fun v2 => funext fun v3 => funext fun v4 => by rw [step32_0, ih]; rfl
noncomputable def t32 (N : Nat) (Le0 : List Int → Int → Int → Int → List Int → Option (List Int)) (x0 : List Int) (x1 : Int) (x2 : Int) : Option (List Int) :=
  Le0 x0 x1 (cvI .u64 x2) 0 []
noncomputable def fn_tillerref02_Small (N : Nat) (x0 : List Int) (x1 : Int) (x2 : Int) : Option (List Int) := t32 N (l32_0 N N) x0 x1 x2
theorem run32 (N : Nat) (x0 : List Int) (x1 : Int) (x2 : Int) : Eng.run T32 (G32 N) N live32 c32 Try.f32.results.toList Try.f32.ntmps ((ad32).enc (x0, x1, x2, ())) (rd32).dec = fn_tillerref02_Small N x0 x1 x2 := by
  refine Eq.trans (show _ = t32 N (raw32_0 N N) x0 x1 x2 from by kernel_rfl) ?_
  unfold fn_tillerref02_Small
  rw [eq32_0 N N]
noncomputable def F32 (N : Nat) (a : List Int × Int × Int × Unit) : Option (List Int) := fn_tillerref02_Small N a.1 a.2.1 a.2.2.1
theorem ok32 (N : Nat) : FnOK Try.prog 32 ad32 rd32 (F32 N) :=
  fn_ok (N := N) (live := live32) (code := c32) (tok T32.rt T32.kl (wrNil_ok)) mixed (gok32 N) Try.func32 (by kernel_rfl) (by kernel_rfl) (by kernel_rfl) fun a p h => by rw [← h]; exact run32 N a.1 a.2.1 a.2.2.1

/-! ### tiller/tillerref02.Sub: function 33 -/
noncomputable def c33 : Code := (Try.f33.body).getD .skip
noncomputable def T33 : Tb := ⟨tyOf tys, [], [34], wrNil⟩
noncomputable def G33 {R : Type} (N : Nat) : FuncId → List AV → (AV → Option R) → Option R := gCons 31 (gOf ad31 rd31 (F31 N)) (gCons 29 (gOf ad29 rd29 (F29 N)) (gNil))
theorem gok33 {R : Type} (N : Nat) : GOK Try.prog (G33 (R := R) N) := gCons_ok (ok31 N) (gCons_ok (ok29 N) (gNil_ok))
noncomputable def live33 : List (Nat × List (Nat × HK)) := [(4, [(0, .keep), (1, .keep), (5, .row .u32 44), (6, .keep), (7, .keep)])]
noncomputable def ad33 : Ad (List Int × List Int × Unit) := aC (cLi .u32) (aC (cLi .u32) (a0))
noncomputable def rd33 : Rd (List Int) := r1 (cLi .u32)
noncomputable def st33_0 (v0 : List Int) (v1 : List Int) (v2 : Int) (v3 : Int) (v4 : List Int) : St := ⟨[AV.li .u32 v0, AV.li .u32 v1, AV.none, AV.none, AV.none, AV.own 5, AV.v (.int .u32 v2), AV.v (.int .i64 v3), AV.none, AV.none, AV.none, AV.none, AV.none, AV.none, AV.none, AV.none, AV.none, AV.none, AV.none, AV.none, AV.none, AV.none, AV.none, AV.none, AV.none, AV.none, AV.none, AV.none, AV.none, AV.none, AV.none, AV.none, AV.none, AV.none, AV.none], [none, none, none, none, none, some (OB.row .u32 44 v4), none, none, none, none, none, none, none, none, none, none, none, none, none, none, none, none, none, none, none, none, none, none, none, none, none, none, none, none, none]⟩
noncomputable def raw33_0 (N : Nat) (n : Nat) (v0 : List Int) (v1 : List Int) (v2 : Int) (v3 : Int) (v4 : List Int) : Option (List Int) := loopN (lookN live33 4) (exec T33 (G33 N) N live33 (cL (cL (cR (cL (cR (cR (cR c33)))))))) n (st33_0 v0 v1 v2 v3 v4) (blockK 0 (seqK (exec T33 (G33 N) N live33 (cR (cR (cR (cR c33))))) (retK T33 Try.f33.results.toList (rd33).dec)))
noncomputable def s33_0 (N : Nat) (Ln0 : List Int → List Int → Int → Int → List Int → Option (List Int)) (v0 : List Int) (v1 : List Int) (v2 : Int) (v3 : Int) (v4 : List Int) : Option (List Int) :=
  cond (ltI v3 (v0.length : Int))
   ((fn_tillerref02_at N v0 v3).bind fun r1 =>
    (fn_tillerref02_at N v1 v3).bind fun r2 =>
     cond (fitL (v4.length + [remI .u32 (subI .u32 (subI .u32 (addI .u32 65536 r1) r2) v2) 65536].length))
      (Ln0 v0 v1 (subI .u32 1 (quoI .u32 (subI .u32 (subI .u32 (addI .u32 65536 r1) r2) v2) 65536)) (addI .i64 v3 1) (v4 ++ [remI .u32 (subI .u32 (subI .u32 (addI .u32 65536 r1) r2) v2) 65536]))
      (none))
   ((fn_tillerref02_trim N v4).bind fun r3 =>
    some r3)
theorem step33_0 (N : Nat) (n : Nat) (v0 : List Int) (v1 : List Int) (v2 : Int) (v3 : Int) (v4 : List Int) : raw33_0 N  (n + 1) v0 v1 v2 v3 v4 = s33_0 N (raw33_0 N  n) v0 v1 v2 v3 v4 := by kernel_rfl
noncomputable def l33_0 (N : Nat) : Nat → List Int → List Int → Int → Int → List Int → Option (List Int)
  | 0 => fun _ _ _ _ _ => none
  | n + 1 => fun v0 v1 v2 v3 v4 => s33_0 N (l33_0 N  n) v0 v1 v2 v3 v4
theorem eq33_0 (N : Nat) : ∀ n, raw33_0 N  n = l33_0 N  n := by
  intro n
  induction n with
  | zero => exact funext fun v0 => funext fun v1 => funext fun v2 => funext fun v3 => funext fun v4 => rfl
  | succ n ih => exact funext fun v0 => funext fun v1 => funext fun v2 => funext fun v3 => funext fun v4 => by rw [step33_0, ih]; rfl
noncomputable def t33 (N : Nat) (Le0 : List Int → List Int → Int → Int → List Int → Option (List Int)) (x0 : List Int) (x1 : List Int) : Option (List Int) :=
  Le0 x0 x1 0 0 []
noncomputable def fn_tillerref02_Sub (N : Nat) (x0 : List Int) (x1 : List Int) : Option (List Int) := t33 N (l33_0 N N) x0 x1
theorem run33 (N : Nat) (x0 : List Int) (x1 : List Int) : Eng.run T33 (G33 N) N live33 c33 Try.f33.results.toList Try.f33.ntmps ((ad33).enc (x0, x1, ())) (rd33).dec = fn_tillerref02_Sub N x0 x1 := by
  refine Eq.trans (show _ = t33 N (raw33_0 N N) x0 x1 from by kernel_rfl) ?_
  unfold fn_tillerref02_Sub
  rw [eq33_0 N N]
noncomputable def F33 (N : Nat) (a : List Int × List Int × Unit) : Option (List Int) := fn_tillerref02_Sub N a.1 a.2.1
theorem ok33 (N : Nat) : FnOK Try.prog 33 ad33 rd33 (F33 N) :=
  fn_ok (N := N) (live := live33) (code := c33) (tok T33.rt T33.kl (wrNil_ok)) mixed (gok33 N) Try.func33 (by kernel_rfl) (by kernel_rfl) (by kernel_rfl) fun a p h => by rw [← h]; exact run33 N a.1 a.2.1

/-! ### tiller/tillerref02.Parts: function 14 -/
noncomputable def c14 : Code := (Try.f14.body).getD .skip
noncomputable def T14 : Tb := ⟨tyOf tys, [(91, 7)], [32, 93], wrNil⟩
noncomputable def G14 {R : Type} (N : Nat) : FuncId → List AV → (AV → Option R) → Option R := gCons 29 (gOf ad29 rd29 (F29 N)) (gCons 30 (gOf ad30 rd30 (F30 N)) (gCons 31 (gOf ad31 rd31 (F31 N)) (gCons 32 (gOf ad32 rd32 (F32 N)) (gCons 33 (gOf ad33 rd33 (F33 N)) (gNil)))))
theorem gok14 {R : Type} (N : Nat) : GOK Try.prog (G14 (R := R) N) := gCons_ok (ok29 N) (gCons_ok (ok30 N) (gCons_ok (ok31 N) (gCons_ok (ok32 N) (gCons_ok (ok33 N) (gNil_ok)))))
noncomputable def live14 : List (Nat × List (Nat × HK)) := [(5, [(0, .keep), (1, .keep), (6, .li .u32), (7, .row .u32 44), (8, .keep), (9, .keep)]), (12, [(0, .keep), (1, .keep), (6, .keep), (7, .row .u32 44), (8, .keep), (9, .keep), (11, .keep), (12, .keep)])]
noncomputable def ad14 : Ad (List Int × List Int × Unit) := aC (cLi .u32) (aC (cLi .u32) (a0))
noncomputable def rd14 : Rd (List Int × List Int) := r2 (cLi .u32) (cLi .u32)
noncomputable def st14_0 (v0 : List Int) (v1 : List Int) (v2 : List Int) (v3 : Int) (v4 : Int) (v5 : List Int) : St := ⟨[AV.li .u32 v0, AV.li .u32 v1, AV.none, AV.none, AV.none, AV.none, AV.li .u32 v2, AV.own 7, AV.v (.int .i64 v3), AV.v (.int .i64 v4), AV.none, AV.none, AV.none, AV.none, AV.none, AV.none, AV.none, AV.none, AV.none, AV.none, AV.none, AV.none, AV.none, AV.none, AV.none, AV.none, AV.none, AV.none, AV.none, AV.none, AV.none, AV.none, AV.none, AV.none, AV.none, AV.none, AV.none, AV.none, AV.none, AV.none, AV.none, AV.none, AV.none, AV.none, AV.none, AV.none, AV.none, AV.none, AV.none, AV.none, AV.none, AV.none, AV.none, AV.none, AV.none, AV.none, AV.none, AV.none, AV.none, AV.none, AV.none, AV.none, AV.none, AV.none, AV.none, AV.none, AV.none, AV.none, AV.none, AV.none, AV.none, AV.none, AV.none, AV.none, AV.none, AV.none, AV.none, AV.none, AV.none, AV.none, AV.none, AV.none, AV.none, AV.none, AV.none, AV.none, AV.none, AV.none, AV.none, AV.none, AV.none, AV.none, AV.none, AV.none, AV.none], [none, none, none, none, none, none, none, some (OB.row .u32 44 v5), none, none, none, none, none, none, none, none, none, none, none, none, none, none, none, none, none, none, none, none, none, none, none, none, none, none, none, none, none, none, none, none, none, none, none, none, none, none, none, none, none, none, none, none, none, none, none, none, none, none, none, none, none, none, none, none, none, none, none, none, none, none, none, none, none, none, none, none, none, none, none, none, none, none, none, none, none, none, none, none, none, none, none, none, none, none, none]⟩
noncomputable def raw14_0 (N : Nat) (n : Nat) (v0 : List Int) (v1 : List Int) (v2 : List Int) (v3 : Int) (v4 : Int) (v5 : List Int) : Option (List Int × List Int) := loopN (lookN live14 5) (exec T14 (G14 N) N live14 (cL (cL (cR (cL (cR (cR (cR (cR c14))))))))) n (st14_0 v0 v1 v2 v3 v4 v5) (blockK 0 (seqK (exec T14 (G14 N) N live14 (cR (cR (cR (cR (cR c14)))))) (retK T14 Try.f14.results.toList (rd14).dec)))
noncomputable def st14_1 (v0 : List Int) (v1 : List Int) (v2 : List Int) (v3 : Int) (v4 : Int) (v5 : Int) (v6 : List Int) (v7 : List Int) : St := ⟨[AV.li .u32 v0, AV.li .u32 v1, AV.none, AV.none, AV.none, AV.none, AV.li .u32 v2, AV.own 7, AV.v (.int .i64 v3), AV.v (.int .i64 v4), AV.none, AV.v (.int .u64 v5), AV.li .u32 v6, AV.none, AV.none, AV.none, AV.none, AV.none, AV.none, AV.none, AV.none, AV.none, AV.none, AV.none, AV.none, AV.none, AV.none, AV.none, AV.none, AV.none, AV.none, AV.none, AV.none, AV.none, AV.none, AV.none, AV.none, AV.none, AV.none, AV.none, AV.none, AV.none, AV.none, AV.none, AV.none, AV.none, AV.none, AV.none, AV.none, AV.none, AV.none, AV.none, AV.none, AV.none, AV.none, AV.none, AV.none, AV.none, AV.none, AV.none, AV.none, AV.none, AV.none, AV.none, AV.none, AV.none, AV.none, AV.none, AV.none, AV.none, AV.none, AV.none, AV.none, AV.none, AV.none, AV.none, AV.none, AV.none, AV.none, AV.none, AV.none, AV.none, AV.none, AV.none, AV.none, AV.none, AV.none, AV.none, AV.none, AV.none, AV.none, AV.none, AV.none, AV.none, AV.none], [none, none, none, none, none, none, none, some (OB.row .u32 44 v7), none, none, none, none, none, none, none, none, none, none, none, none, none, none, none, none, none, none, none, none, none, none, none, none, none, none, none, none, none, none, none, none, none, none, none, none, none, none, none, none, none, none, none, none, none, none, none, none, none, none, none, none, none, none, none, none, none, none, none, none, none, none, none, none, none, none, none, none, none, none, none, none, none, none, none, none, none, none, none, none, none, none, none, none, none, none, none]⟩
noncomputable def raw14_1 (N : Nat) (m0 : Nat) (n : Nat) (v0 : List Int) (v1 : List Int) (v2 : List Int) (v3 : Int) (v4 : Int) (v5 : Int) (v6 : List Int) (v7 : List Int) : Option (List Int × List Int) := loopN (lookN live14 12) (exec T14 (G14 N) N live14 (cL (cL (cL (cR (cR (cR (cR (cR (cL (cL (cR (cL (cL (cR (cL (cR (cR (cR (cR c14)))))))))))))))))))) n (st14_1 v0 v1 v2 v3 v4 v5 v6 v7) (blockK 2 (seqK (exec T14 (G14 N) N live14 (cR (cR (cR (cR (cR (cR (cL (cL (cR (cL (cL (cR (cL (cR (cR (cR (cR c14)))))))))))))))))) (blockK 1 (seqK (exec T14 (G14 N) N live14 (cR (cR (cL (cL (cR (cL (cR (cR (cR (cR c14))))))))))) (roundK (fun s => loopN (lookN live14 5) (exec T14 (G14 N) N live14 (cL (cL (cR (cL (cR (cR (cR (cR c14))))))))) m0 s (blockK 0 (seqK (exec T14 (G14 N) N live14 (cR (cR (cR (cR (cR c14)))))) (retK T14 Try.f14.results.toList (rd14).dec)))) (lookN live14 5) (blockK 0 (seqK (exec T14 (G14 N) N live14 (cR (cR (cR (cR (cR c14)))))) (retK T14 Try.f14.results.toList (rd14).dec))))))))
noncomputable def s14_1 (N : Nat) (Ln1 : List Int → List Int → List Int → Int → Int → Int → List Int → List Int → Option (List Int × List Int)) (Ln0 : List Int → List Int → List Int → Int → Int → List Int → Option (List Int × List Int)) (v0 : List Int) (v1 : List Int) (v2 : List Int) (v3 : Int) (v4 : Int) (v5 : Int) (v6 : List Int) (v7 : List Int) : Option (List Int × List Int) :=
  (fn_tillerref02_Cmp N v6 v2).bind fun r8 =>
   cond (ltI 0 r8)
    ((fn_tillerref02_Sub N v6 v1).bind fun r9 =>
     Ln1 v0 v1 v2 v3 v4 (subI .u64 v5 1) r9 v7)
    ((fn_tillerref02_Sub N v2 v6).bind fun r10 =>
     cond (leI 0 v4)
      (cond (ltI v4 (v7.length : Int))
       (Ln0 v0 v1 r10 v3 (subI .i64 v4 1) (v7.set v4.toNat (cvI .u32 v5)))
       (none))
      (none))
theorem step14_1 (N : Nat) (m0 : Nat) (n : Nat) (v0 : List Int) (v1 : List Int) (v2 : List Int) (v3 : Int) (v4 : Int) (v5 : Int) (v6 : List Int) (v7 : List Int) : raw14_1 N m0 (n + 1) v0 v1 v2 v3 v4 v5 v6 v7 = s14_1 N (raw14_1 N m0 n) (raw14_0 N  m0) v0 v1 v2 v3 v4 v5 v6 v7 := by kernel_rfl
noncomputable def l14_1 (N : Nat) (E0 : List Int → List Int → List Int → Int → Int → List Int → Option (List Int × List Int)) : Nat → List Int → List Int → List Int → Int → Int → Int → List Int → List Int → Option (List Int × List Int)
  | 0 => fun _ _ _ _ _ _ _ _ => none
  | n + 1 => fun v0 v1 v2 v3 v4 v5 v6 v7 => s14_1 N (l14_1 N E0 n) E0 v0 v1 v2 v3 v4 v5 v6 v7
theorem eq14_1 (N : Nat) (m0 : Nat) : ∀ n, raw14_1 N m0 n = l14_1 N (raw14_0 N  m0) n := by
  intro n
  induction n with
  | zero => exact funext fun v0 => funext fun v1 => funext fun v2 => funext fun v3 => funext fun v4 => funext fun v5 => funext fun v6 => funext fun v7 => rfl
  | succ n ih => exact funext fun v0 => funext fun v1 => funext fun v2 => funext fun v3 => funext fun v4 => funext fun v5 => funext fun v6 => funext fun v7 => by rw [step14_1, ih]; rfl
noncomputable def s14_0 (N : Nat) (Ln0 : List Int → List Int → List Int → Int → Int → List Int → Option (List Int × List Int)) (Le1 : List Int → List Int → List Int → Int → Int → Int → List Int → List Int → Option (List Int × List Int)) (v0 : List Int) (v1 : List Int) (v2 : List Int) (v3 : Int) (v4 : Int) (v5 : List Int) : Option (List Int × List Int) :=
  cond (leI 0 v4)
   (cond (leI 0 v4)
    (cond (ltI v4 (v0.length : Int))
     (cond (fitL ([lrd v0 v4].length + v2.length))
      ((fn_tillerref02_trim N ([lrd v0 v4] ++ v2)).bind fun r1 =>
       (fn_tillerref02_Cmp N r1 v1).bind fun r2 =>
        cond (ltI r2 0)
         (Ln0 v0 v1 r1 v3 (subI .i64 v4 1) v5)
         ((fn_tillerref02_at N r1 v3).bind fun r3 =>
          (fn_tillerref02_at N r1 (subI .i64 v3 1)).bind fun r4 =>
           (fn_tillerref02_at N r1 (subI .i64 v3 2)).bind fun r5 =>
            cond (leI 0 (subI .i64 v3 1))
             (cond (ltI (subI .i64 v3 1) (v1.length : Int))
              ((fn_tillerref02_at N v1 (subI .i64 v3 2)).bind fun r6 =>
               cond (eqI (addI .u64 (shlI .u64 (cvI .u64 (lrd v1 (subI .i64 v3 1))) 16) (cvI .u64 r6)) 0)
                (none)
                ((fn_tillerref02_Small N v1 (cvI .u32 (minI (quoI .u64 (addI .u64 (addI .u64 (shlI .u64 (cvI .u64 r3) 32) (shlI .u64 (cvI .u64 r4) 16)) (cvI .u64 r5)) (addI .u64 (shlI .u64 (cvI .u64 (lrd v1 (subI .i64 v3 1))) 16) (cvI .u64 r6))) 65535)) 0).bind fun r7 =>
                 Le1 v0 v1 r1 v3 v4 (minI (quoI .u64 (addI .u64 (addI .u64 (shlI .u64 (cvI .u64 r3) 32) (shlI .u64 (cvI .u64 r4) 16)) (cvI .u64 r5)) (addI .u64 (shlI .u64 (cvI .u64 (lrd v1 (subI .i64 v3 1))) 16) (cvI .u64 r6))) 65535) r7 v5))
              (none))
             (none)))
      (none))
     (none))
    (none))
   ((fn_tillerref02_trim N v5).bind fun r11 =>
    some (r11, v2))
theorem step14_0 (N : Nat) (n : Nat) (v0 : List Int) (v1 : List Int) (v2 : List Int) (v3 : Int) (v4 : Int) (v5 : List Int) : raw14_0 N  (n + 1) v0 v1 v2 v3 v4 v5 = s14_0 N (raw14_0 N  n) (raw14_1 N n N) v0 v1 v2 v3 v4 v5 := by kernel_rfl
noncomputable def l14_0 (N : Nat) : Nat → List Int → List Int → List Int → Int → Int → List Int → Option (List Int × List Int)
  | 0 => fun _ _ _ _ _ _ => none
  | n + 1 => fun v0 v1 v2 v3 v4 v5 => s14_0 N (l14_0 N  n) (l14_1 N (l14_0 N  n) N) v0 v1 v2 v3 v4 v5
theorem eq14_0 (N : Nat) : ∀ n, raw14_0 N  n = l14_0 N  n := by
  intro n
  induction n with
  | zero => exact funext fun v0 => funext fun v1 => funext fun v2 => funext fun v3 => funext fun v4 => funext fun v5 => rfl
  | succ n ih => exact funext fun v0 => funext fun v1 => funext fun v2 => funext fun v3 => funext fun v4 => funext fun v5 => by rw [step14_0, eq14_1 N n N, ih]; rfl
noncomputable def t14 (N : Nat) (Le0 : List Int → List Int → List Int → Int → Int → List Int → Option (List Int × List Int)) (x0 : List Int) (x1 : List Int) : Option (List Int × List Int) :=
  cond (leI 0 (x0.length : Int))
   (cond (leI (x0.length : Int) 17592186044416)
    (Le0 x0 x1 [] (x1.length : Int) (subI .i64 (x0.length : Int) 1) (List.replicate ((x0.length : Int).toNat) (0 : Int)))
    (none))
   (none)
noncomputable def fn_tillerref02_Parts (N : Nat) (x0 : List Int) (x1 : List Int) : Option (List Int × List Int) := t14 N (l14_0 N N) x0 x1
theorem run14 (N : Nat) (x0 : List Int) (x1 : List Int) : Eng.run T14 (G14 N) N live14 c14 Try.f14.results.toList Try.f14.ntmps ((ad14).enc (x0, x1, ())) (rd14).dec = fn_tillerref02_Parts N x0 x1 := by
  refine Eq.trans (show _ = t14 N (raw14_0 N N) x0 x1 from by kernel_rfl) ?_
  unfold fn_tillerref02_Parts
  rw [eq14_0 N N]
noncomputable def F14 (N : Nat) (a : List Int × List Int × Unit) : Option (List Int × List Int) := fn_tillerref02_Parts N a.1 a.2.1
theorem ok14 (N : Nat) : FnOK Try.prog 14 ad14 rd14 (F14 N) :=
  fn_ok (N := N) (live := live14) (code := c14) (tok T14.rt T14.kl (wrNil_ok)) mixed (gok14 N) Try.func14 (by kernel_rfl) (by kernel_rfl) (by kernel_rfl) fun a p h => by rw [← h]; exact run14 N a.1 a.2.1

/-! ### tiller/tillerref02.Words: function 16 -/
noncomputable def c16 : Code := (Try.f16.body).getD .skip
noncomputable def T16 : Tb := ⟨tyOf tys, [], [], wrNil⟩
noncomputable def G16 {R : Type} (N : Nat) : FuncId → List AV → (AV → Option R) → Option R := gNil
theorem gok16 {R : Type} (N : Nat) : GOK Try.prog (G16 (R := R) N) := gNil_ok
noncomputable def live16 : List (Nat × List (Nat × HK)) := [(3, [(0, .keep), (3, .row .u32 44), (4, .keep)])]
noncomputable def ad16 : Ad (List Int × Unit) := aC (cLi .u32) (a0)
noncomputable def rd16 : Rd (List Int) := r1 (cLi .u32)
noncomputable def st16_0 (v0 : List Int) (v1 : Int) (v2 : List Int) : St := ⟨[AV.li .u32 v0, AV.none, AV.none, AV.own 3, AV.v (.int .i64 v1), AV.none, AV.none, AV.none, AV.none, AV.none, AV.none, AV.none, AV.none, AV.none, AV.none, AV.none, AV.none, AV.none, AV.none, AV.none, AV.none, AV.none, AV.none, AV.none, AV.none, AV.none, AV.none, AV.none, AV.none, AV.none, AV.none, AV.none, AV.none, AV.none], [none, none, none, some (OB.row .u32 44 v2), none, none, none, none, none, none, none, none, none, none, none, none, none, none, none, none, none, none, none, none, none, none, none, none, none, none, none, none, none, none]⟩
noncomputable def raw16_0 (N : Nat) (n : Nat) (v0 : List Int) (v1 : Int) (v2 : List Int) : Option (List Int) := loopN (lookN live16 3) (exec T16 (G16 N) N live16 (cL (cL (cR (cL (cR (cR c16))))))) n (st16_0 v0 v1 v2) (blockK 0 (seqK (exec T16 (G16 N) N live16 (cR (cR (cR c16)))) (retK T16 Try.f16.results.toList (rd16).dec)))
noncomputable def s16_0 (N : Nat) (Ln0 : List Int → Int → List Int → Option (List Int)) (v0 : List Int) (v1 : Int) (v2 : List Int) : Option (List Int) :=
  cond (ltI v1 (v0.length : Int))
   (cond (leI 0 v1)
    (cond (ltI v1 (v0.length : Int))
     (cond (ltI (addI .i64 v1 1) (v0.length : Int))
      (cond (leI 0 (addI .i64 v1 1))
       (cond (ltI (addI .i64 v1 1) (v0.length : Int))
        (cond (fitL (v2.length + [addI .u32 (lrd v0 v1) (mulI .u32 65536 (lrd v0 (addI .i64 v1 1)))].length))
         (Ln0 v0 (addI .i64 v1 2) (v2 ++ [addI .u32 (lrd v0 v1) (mulI .u32 65536 (lrd v0 (addI .i64 v1 1)))]))
         (none))
        (none))
       (none))
      (cond (fitL (v2.length + [lrd v0 v1].length))
       (Ln0 v0 (addI .i64 v1 2) (v2 ++ [lrd v0 v1]))
       (none)))
     (none))
    (none))
   (some v2)
theorem step16_0 (N : Nat) (n : Nat) (v0 : List Int) (v1 : Int) (v2 : List Int) : raw16_0 N  (n + 1) v0 v1 v2 = s16_0 N (raw16_0 N  n) v0 v1 v2 := by kernel_rfl
noncomputable def l16_0 (N : Nat) : Nat → List Int → Int → List Int → Option (List Int)
  | 0 => fun _ _ _ => none
  | n + 1 => fun v0 v1 v2 => s16_0 N (l16_0 N  n) v0 v1 v2
theorem eq16_0 (N : Nat) : ∀ n, raw16_0 N  n = l16_0 N  n := by
  intro n
  induction n with
  | zero => exact funext fun v0 => funext fun v1 => funext fun v2 => rfl
  | succ n ih => exact funext fun v0 => funext fun v1 => funext fun v2 => by rw [step16_0, ih]; rfl
noncomputable def t16 (N : Nat) (Le0 : List Int → Int → List Int → Option (List Int)) (x0 : List Int) : Option (List Int) :=
  Le0 x0 0 []
noncomputable def fn_tillerref02_Words (N : Nat) (x0 : List Int) : Option (List Int) := t16 N (l16_0 N N) x0
theorem run16 (N : Nat) (x0 : List Int) : Eng.run T16 (G16 N) N live16 c16 Try.f16.results.toList Try.f16.ntmps ((ad16).enc (x0, ())) (rd16).dec = fn_tillerref02_Words N x0 := by
  refine Eq.trans (show _ = t16 N (raw16_0 N N) x0 from by kernel_rfl) ?_
  unfold fn_tillerref02_Words
  rw [eq16_0 N N]
noncomputable def F16 (N : Nat) (a : List Int × Unit) : Option (List Int) := fn_tillerref02_Words N a.1
theorem ok16 (N : Nat) : FnOK Try.prog 16 ad16 rd16 (F16 N) :=
  fn_ok (N := N) (live := live16) (code := c16) (tok T16.rt T16.kl (wrNil_ok)) mixed (gok16 N) Try.func16 (by kernel_rfl) (by kernel_rfl) (by kernel_rfl) fun a p h => by rw [← h]; exact run16 N a.1
end Go.Proofs.Ytoihjgfnocimjaa.Fns

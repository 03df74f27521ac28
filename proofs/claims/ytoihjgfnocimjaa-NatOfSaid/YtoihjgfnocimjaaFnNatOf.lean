/- The law's function as a plain Lean function, and the engine's run of it. No statement is proved here. Laid by eng.py. -/
import Derived.Test.YtoihjgfnocimjaaFn1
namespace Go.Proofs.Ytoihjgfnocimjaa.Fns
open Go Go.RowKit Go.Proofs Go.Proofs.Ytoihjgfnocimjaa.Eng Go.Proofs.Ytoihjgfnocimjaa.Slc
set_option linter.unusedVariables false
set_option maxRecDepth 100000
/-! ### tiller/tillerlaw02.NatOf: function 3 -/
noncomputable def c3 : Code := (Try.f3.body).getD .skip
noncomputable def T3 : Tb := ⟨tyOf tys, [], [], wrNil⟩
noncomputable def G3 {R : Type} (N : Nat) : FuncId → List AV → (AV → Option R) → Option R := gCons 5 (gOf ad5 rd5 (F5 N)) (gCons 6 (gOf ad6 rd6 (F6 N)) (gCons 7 (gOf ad7 rd7 (F7 N)) (gCons 8 (gOf ad8 rd8 (F8 N)) (gCons 9 (gOf ad9 rd9 (F9 N)) (gCons 10 (gOf ad10 rd10 (F10 N)) (gCons 11 (gOf ad11 rd11 (F11 N)) (gCons 12 (gOf ad12 rd12 (F12 N)) (gNil))))))))
theorem gok3 {R : Type} (N : Nat) : GOK Try.prog (G3 (R := R) N) := gCons_ok (ok5 N) (gCons_ok (ok6 N) (gCons_ok (ok7 N) (gCons_ok (ok8 N) (gCons_ok (ok9 N) (gCons_ok (ok10 N) (gCons_ok (ok11 N) (gCons_ok (ok12 N) (gNil_ok))))))))
noncomputable def live3 : List (Nat × List (Nat × HK)) := [(8, [(3, .keep), (4, .keep), (5, .keep), (6, .keep), (7, .keep), (8, .keep), (9, .keep), (10, .keep), (11, .keep), (12, .keep), (13, .keep), (49, .keep), (50, .keep), (53, .keep), (54, .keep), (57, .keep), (58, .keep), (61, .keep), (62, .keep), (63, .keep), (64, .keep), (67, .keep), (68, .keep), (69, .keep), (72, .keep), (73, .keep), (74, .keep), (77, .keep), (78, .keep), (79, .keep), (82, .keep), (83, .keep), (86, .keep)])]
noncomputable def ad3 : Ad (Int × Unit) := aC (cInt .u64) (a0)
noncomputable def rd3 : Rd (Bool) := r1 (cBool)
noncomputable def st3_0 (v0 : List Int) (v1 : List Int) (v2 : Option Int) (v3 : List Int) (v4 : Option Int) (v5 : List Int) (v6 : Option Int) (v7 : List Int) (v8 : Option Int) (v9 : Int) (v10 : Int) : St := ⟨[AV.none, AV.none, AV.none, AV.li .u32 v0, AV.li .u32 v1, AV.er 50 v2, AV.li .u32 v3, AV.er 50 v4, AV.li .u32 v5, AV.er 50 v6, AV.li .u32 v7, AV.er 50 v8, AV.v (.int .i64 v9), AV.v (.int .u64 v10), AV.none, AV.none, AV.none, AV.none, AV.none, AV.none, AV.none, AV.none, AV.none, AV.none, AV.none, AV.none, AV.none, AV.none, AV.none, AV.none, AV.none, AV.none, AV.none, AV.none, AV.none, AV.none, AV.none, AV.none, AV.none, AV.none, AV.none, AV.none, AV.none, AV.none, AV.none, AV.none, AV.none, AV.none, AV.none, AV.none, AV.none, AV.none, AV.none, AV.none, AV.none, AV.none, AV.none, AV.none, AV.none, AV.none, AV.none, AV.none, AV.none, AV.none, AV.none, AV.none, AV.none, AV.none, AV.none, AV.none, AV.none, AV.none, AV.none, AV.none, AV.none, AV.none, AV.none, AV.none, AV.none, AV.none, AV.none, AV.none, AV.none, AV.none, AV.none, AV.none, AV.none, AV.none], [none, none, none, none, none, none, none, none, none, none, none, none, none, none, none, none, none, none, none, none, none, none, none, none, none, none, none, none, none, none, none, none, none, none, none, none, none, none, none, none, none, none, none, none, none, none, none, none, none, none, none, none, none, none, none, none, none, none, none, none, none, none, none, none, none, none, none, none, none, none, none, none, none, none, none, none, none, none, none, none, none, none, none, none, none, none, none, none]⟩
noncomputable def raw3_0 (N : Nat) (n : Nat) (v0 : List Int) (v1 : List Int) (v2 : Option Int) (v3 : List Int) (v4 : Option Int) (v5 : List Int) (v6 : Option Int) (v7 : List Int) (v8 : Option Int) (v9 : Int) (v10 : Int) : Option (Bool) := loopN (lookN live3 8) (exec T3 (G3 N) N live3 (cL (cL (cR (cL (cR (cR (cR (cR (cR (cR (cR c3)))))))))))) n (st3_0 v0 v1 v2 v3 v4 v5 v6 v7 v8 v9 v10) (blockK 0 (seqK (exec T3 (G3 N) N live3 (cR (cR (cR (cR (cR (cR (cR (cR c3))))))))) (retK T3 Try.f3.results.toList (rd3).dec)))
noncomputable def s3_0 (N : Nat) (Ln0 : List Int → List Int → Option Int → List Int → Option Int → List Int → Option Int → List Int → Option Int → Int → Int → Option (Bool)) (v0 : List Int) (v1 : List Int) (v2 : Option Int) (v3 : List Int) (v4 : Option Int) (v5 : List Int) (v6 : Option Int) (v7 : List Int) (v8 : Option Int) (v9 : Int) (v10 : Int) : Option (Bool) :=
  cond (ltI 0 v10)
   (Ln0 v0 v1 v2 v3 v4 v5 v6 v7 v8 (addI .i64 v9 1) (quoI .u64 v10 2))
   (cond (isNoneI v2)
    (cond (isNoneI v4)
     (cond (isNoneI v6)
      (cond (isNoneI v8)
       ((fn_nat_Len N v0).bind fun r6 =>
        cond (eqI r6 v9)
         ((fn_tillerlaw02_words N v1 v3).bind fun r7 =>
          cond r7
           ((fn_tillerlaw02_words N v5 v0).bind fun r8 =>
            cond r8
             (cond (eqI (v7.length : Int) 0)
              ((fn_tillerlaw02_is N v0).bind fun r9 =>
               cond r9
                ((fn_tillerlaw02_sure N).bind fun r10 =>
                 some r10)
                (some false))
              (some false))
             (some false))
           (some false))
         (some false))
       (some false))
      (some false))
     (some false))
    (some false))
theorem step3_0 (N : Nat) (n : Nat) (v0 : List Int) (v1 : List Int) (v2 : Option Int) (v3 : List Int) (v4 : Option Int) (v5 : List Int) (v6 : Option Int) (v7 : List Int) (v8 : Option Int) (v9 : Int) (v10 : Int) : raw3_0 N  (n + 1) v0 v1 v2 v3 v4 v5 v6 v7 v8 v9 v10 = s3_0 N (raw3_0 N  n) v0 v1 v2 v3 v4 v5 v6 v7 v8 v9 v10 := by kernel_rfl
noncomputable def l3_0 (N : Nat) : Nat → List Int → List Int → Option Int → List Int → Option Int → List Int → Option Int → List Int → Option Int → Int → Int → Option (Bool)
  | 0 => fun _ _ _ _ _ _ _ _ _ _ _ => none
  | n + 1 => fun v0 v1 v2 v3 v4 v5 v6 v7 v8 v9 v10 => s3_0 N (l3_0 N  n) v0 v1 v2 v3 v4 v5 v6 v7 v8 v9 v10
theorem eq3_0 (N : Nat) : ∀ n, raw3_0 N  n = l3_0 N  n := by
  intro n
  induction n with
  | zero => exact funext fun v0 => funext fun v1 => funext fun v2 => funext fun v3 => funext fun v4 => funext fun v5 => funext fun v6 => funext fun v7 => funext fun v8 => funext fun v9 => funext fun v10 => rfl
  | succ n ih => exact funext fun v0 => funext fun v1 => funext fun v2 => funext fun v3 => funext fun v4 => funext fun v5 => funext fun v6 => funext fun v7 => funext fun v8 => funext fun v9 => funext fun v10 => by rw [step3_0, ih]; rfl
noncomputable def t3 (N : Nat) (Le0 : List Int → List Int → Option Int → List Int → Option Int → List Int → Option Int → List Int → Option Int → Int → Int → Option (Bool)) (x0 : Int) : Option (Bool) :=
  (fn_nat_Of N x0).bind fun r1 =>
   (fn_nat_Add N r1 r1).bind fun r2 =>
    (fn_nat_Shl N r1 1).bind fun r3 =>
     (fn_nat_Sub N r2.1 r1).bind fun r4 =>
      (fn_nat_Sub N r1 r1).bind fun r5 =>
       Le0 r1 r2.1 r2.2 r3.1 r3.2 r4.1 r4.2 r5.1 r5.2 0 x0
noncomputable def fn_tillerlaw02_NatOf (N : Nat) (x0 : Int) : Option (Bool) := t3 N (l3_0 N N) x0
theorem run3 (N : Nat) (x0 : Int) : Eng.run T3 (G3 N) N live3 c3 Try.f3.results.toList Try.f3.ntmps ((ad3).enc (x0, ())) (rd3).dec = fn_tillerlaw02_NatOf N x0 := by
  refine Eq.trans (show _ = t3 N (raw3_0 N N) x0 from by kernel_rfl) ?_
  unfold fn_tillerlaw02_NatOf
  rw [eq3_0 N N]
noncomputable def F3 (N : Nat) (a : Int × Unit) : Option (Bool) := fn_tillerlaw02_NatOf N a.1
theorem ok3 (N : Nat) : FnOK Try.prog 3 ad3 rd3 (F3 N) :=
  fn_ok (N := N) (live := live3) (code := c3) (tok T3.rt T3.kl (wrNil_ok)) mixed (gok3 N) Try.func3 (by kernel_rfl) (by kernel_rfl) (by kernel_rfl) fun a p h => by rw [← h]; exact run3 N a.1
end Go.Proofs.Ytoihjgfnocimjaa.Fns

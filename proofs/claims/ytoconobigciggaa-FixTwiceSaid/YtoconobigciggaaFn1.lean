/- Go functions as plain Lean functions, and the engine's run of each. No statement is proved here. Laid by eng.py. -/
import Derived.Test.YtoconobigciggaaFn0
namespace Go.Proofs.Ytoconobigciggaa.Fns
open Go Go.RowKit Go.Proofs Go.Proofs.Ytoconobigciggaa.Eng
set_option linter.unusedVariables false
set_option maxRecDepth 100000
/-! ### math/bits.Mul64: function 32 -/
noncomputable def c32 : Code := (Try.f32.body).getD .skip
noncomputable def T32 : Tb := ⟨tyOf tys, [], [], wrNil⟩
noncomputable def G32 {R : Type} (N : Nat) : FuncId → List AV → (AV → Option R) → Option R := gNil
theorem gok32 {R : Type} (N : Nat) : GOK Try.prog (G32 (R := R) N) := gNil_ok
noncomputable def live32 : List (Nat × List (Nat × HK)) := []
noncomputable def ad32 : Ad (Int × Int × Unit) := aC (cInt .u64) (aC (cInt .u64) (a0))
noncomputable def rd32 : Rd (Int × Int) := r2 (cInt .u64) (cInt .u64)
noncomputable def fn_bits_Mul64 (N : Nat) (x0 : Int) (x1 : Int) : Option (Int × Int) :=
  some (addI .u64 (addI .u64 (mulI .u64 (shrI .u64 x0 32) (shrI .u64 x1 32)) (shrI .u64 (addI .u64 (mulI .u64 (shrI .u64 x0 32) (andI .u64 x1 4294967295)) (shrI .u64 (mulI .u64 (andI .u64 x0 4294967295) (andI .u64 x1 4294967295)) 32)) 32)) (shrI .u64 (addI .u64 (andI .u64 (addI .u64 (mulI .u64 (shrI .u64 x0 32) (andI .u64 x1 4294967295)) (shrI .u64 (mulI .u64 (andI .u64 x0 4294967295) (andI .u64 x1 4294967295)) 32)) 4294967295) (mulI .u64 (andI .u64 x0 4294967295) (shrI .u64 x1 32))) 32), mulI .u64 x0 x1)
theorem run32 (N : Nat) (x0 : Int) (x1 : Int) : Eng.run T32 (G32 N) N live32 c32 Try.f32.results.toList Try.f32.ntmps ((ad32).enc (x0, x1, ())) (rd32).dec = fn_bits_Mul64 N x0 x1 := by kernel_rfl
noncomputable def F32 (N : Nat) (a : Int × Int × Unit) : Option (Int × Int) := fn_bits_Mul64 N a.1 a.2.1
theorem ok32 (N : Nat) : FnOK Try.prog 32 ad32 rd32 (F32 N) :=
  fn_ok (N := N) (live := live32) (code := c32) (tok T32.rt T32.kl (wrNil_ok)) mixed (gok32 N) Try.func32 (by kernel_rfl) (by kernel_rfl) (by kernel_rfl) fun a p h => by rw [← h]; exact run32 N a.1 a.2.1

/-! ### tiller/wide.Mul: function 22 -/
noncomputable def c22 : Code := (Try.f22.body).getD .skip
noncomputable def T22 : Tb := ⟨tyOf tys, [(47, 6), (53, 6), (61, 6), (64, 6), (67, 6)], [], wrNil⟩
noncomputable def G22 {R : Type} (N : Nat) : FuncId → List AV → (AV → Option R) → Option R := gCons 32 (gOf ad32 rd32 (F32 N)) (gCons 33 (gOf (aI3 .u64) (r2 (cInt .u64) (cInt .u64)) (fun a => add64 a.1 a.2.1 a.2.2.1)) (gNil))
theorem gok22 {R : Type} (N : Nat) : GOK Try.prog (G22 (R := R) N) := gCons_ok (ok32 N) (gCons_ok (add64_ok Try.func33 (by kernel_rfl) (by kernel_rfl) (by kernel_rfl) (by kernel_rfl)) (gNil_ok))
noncomputable def live22 : List (Nat × List (Nat × HK)) := [(3, [(3, .keep), (4, .keep), (5, .keep), (6, .keep), (15, .keep), (16, .keep)]), (7, [(3, .keep), (4, .keep), (5, .keep), (6, .keep), (7, .keep), (8, .keep), (9, .keep), (15, .keep), (16, .keep), (20, .keep), (21, .keep)])]
noncomputable def ad22 : Ad (Vec 4 × Vec 4 × Unit) := aC (cVec .u64 4) (aC (cVec .u64 4) (a0))
noncomputable def rd22 : Rd (Vec 4 × Vec 4) := r2 (cVec .u64 4) (cVec .u64 4)
noncomputable def st22_0 (v0 : Vec 4) (v1 : Int) (v2 : Vec 4) (v3 : Vec 4) (v4 : Vec 4) (v5 : Vec 8) : St := ⟨[AV.none, AV.none, AV.none, AV.ptr 3 0, AV.ptr 4 0, AV.ptr 5 0, AV.ptr 6 0, AV.none, AV.none, AV.none, AV.none, AV.none, AV.none, AV.none, AV.none, AV.arr .u64 4 v0, AV.v (.int .i64 v1), AV.none, AV.none, AV.none, AV.none, AV.none, AV.none, AV.none, AV.none, AV.none, AV.none, AV.none, AV.none, AV.none, AV.none, AV.none, AV.none, AV.none, AV.none, AV.none, AV.none, AV.none, AV.none, AV.none, AV.none, AV.none, AV.none, AV.none, AV.none, AV.none, AV.none, AV.none, AV.none, AV.none, AV.none, AV.none, AV.none, AV.none, AV.none, AV.none, AV.none, AV.none, AV.none, AV.none, AV.none, AV.none, AV.none, AV.none, AV.none, AV.none, AV.none, AV.none, AV.none], [none, none, none, some (OB.arr .u64 4 v2), some (OB.arr .u64 4 v3), some (OB.arr .u64 4 v4), some (OB.arr .u64 8 v5), none, none, none, none, none, none, none, none, none, none, none, none, none, none, none, none, none, none, none, none, none, none, none, none, none, none, none, none, none, none, none, none, none, none, none, none, none, none, none, none, none, none, none, none, none, none, none, none, none, none, none, none, none, none, none, none, none, none, none, none, none, none]⟩
noncomputable def raw22_0 (N : Nat) (n : Nat) (v0 : Vec 4) (v1 : Int) (v2 : Vec 4) (v3 : Vec 4) (v4 : Vec 4) (v5 : Vec 8) : Option (Vec 4 × Vec 4) := loopN (lookN live22 3) (exec T22 (G22 N) N live22 (cL (cL (cR (cL (cR (cR c22))))))) n (st22_0 v0 v1 v2 v3 v4 v5) (blockK 0 (seqK (exec T22 (G22 N) N live22 (cR (cR (cR c22)))) (retK T22 Try.f22.results.toList (rd22).dec)))
noncomputable def st22_1 (v0 : Int) (v1 : Int) (v2 : Int) (v3 : Vec 4) (v4 : Int) (v5 : Vec 4) (v6 : Int) (v7 : Vec 4) (v8 : Vec 4) (v9 : Vec 4) (v10 : Vec 8) : St := ⟨[AV.none, AV.none, AV.none, AV.ptr 3 0, AV.ptr 4 0, AV.ptr 5 0, AV.ptr 6 0, AV.v (.int .i64 v0), AV.v (.int .u64 v1), AV.v (.int .u64 v2), AV.none, AV.none, AV.none, AV.none, AV.none, AV.arr .u64 4 v3, AV.v (.int .i64 v4), AV.none, AV.none, AV.none, AV.arr .u64 4 v5, AV.v (.int .i64 v6), AV.none, AV.none, AV.none, AV.none, AV.none, AV.none, AV.none, AV.none, AV.none, AV.none, AV.none, AV.none, AV.none, AV.none, AV.none, AV.none, AV.none, AV.none, AV.none, AV.none, AV.none, AV.none, AV.none, AV.none, AV.none, AV.none, AV.none, AV.none, AV.none, AV.none, AV.none, AV.none, AV.none, AV.none, AV.none, AV.none, AV.none, AV.none, AV.none, AV.none, AV.none, AV.none, AV.none, AV.none, AV.none, AV.none, AV.none], [none, none, none, some (OB.arr .u64 4 v7), some (OB.arr .u64 4 v8), some (OB.arr .u64 4 v9), some (OB.arr .u64 8 v10), none, none, none, none, none, none, none, none, none, none, none, none, none, none, none, none, none, none, none, none, none, none, none, none, none, none, none, none, none, none, none, none, none, none, none, none, none, none, none, none, none, none, none, none, none, none, none, none, none, none, none, none, none, none, none, none, none, none, none, none, none, none]⟩
noncomputable def raw22_1 (N : Nat) (m0 : Nat) (n : Nat) (v0 : Int) (v1 : Int) (v2 : Int) (v3 : Vec 4) (v4 : Int) (v5 : Vec 4) (v6 : Int) (v7 : Vec 4) (v8 : Vec 4) (v9 : Vec 4) (v10 : Vec 8) : Option (Vec 4 × Vec 4) := loopN (lookN live22 7) (exec T22 (G22 N) N live22 (cL (cL (cR (cL (cR (cR (cL (cL (cR (cR (cL (cL (cR (cL (cR (cR c22))))))))))))))))) n (st22_1 v0 v1 v2 v3 v4 v5 v6 v7 v8 v9 v10) (blockK 2 (seqK (exec T22 (G22 N) N live22 (cR (cR (cR (cL (cL (cR (cR (cL (cL (cR (cL (cR (cR c22)))))))))))))) (blockK 1 (seqK (exec T22 (G22 N) N live22 (cR (cR (cR (cL (cL (cR (cL (cR (cR c22)))))))))) (roundK (fun s => loopN (lookN live22 3) (exec T22 (G22 N) N live22 (cL (cL (cR (cL (cR (cR c22))))))) m0 s (blockK 0 (seqK (exec T22 (G22 N) N live22 (cR (cR (cR c22)))) (retK T22 Try.f22.results.toList (rd22).dec)))) (lookN live22 3) (blockK 0 (seqK (exec T22 (G22 N) N live22 (cR (cR (cR c22)))) (retK T22 Try.f22.results.toList (rd22).dec))))))))
noncomputable def s22_1 (N : Nat) (Ln1 : Int → Int → Int → Vec 4 → Int → Vec 4 → Int → Vec 4 → Vec 4 → Vec 4 → Vec 8 → Option (Vec 4 × Vec 4)) (Ln0 : Vec 4 → Int → Vec 4 → Vec 4 → Vec 4 → Vec 8 → Option (Vec 4 × Vec 4)) (v0 : Int) (v1 : Int) (v2 : Int) (v3 : Vec 4) (v4 : Int) (v5 : Vec 4) (v6 : Int) (v7 : Vec 4) (v8 : Vec 4) (v9 : Vec 4) (v10 : Vec 8) : Option (Vec 4 × Vec 4) :=
  cond (ltI v6 4)
   (cond (leI 0 v6)
    (cond (ltI v6 4)
     ((fn_bits_Mul64 N v1 (Vec.rd v5 v6)).bind fun r1 =>
      (add64 r1.2 v2 0).bind fun r2 =>
       cond (leI 0 (addI .i64 v0 v6))
        (cond (ltI (addI .i64 v0 v6) 8)
         ((add64 (Vec.rd v10 (addI .i64 v0 v6)) r2.1 0).bind fun r3 =>
          cond (leI 0 (addI .i64 v0 v6))
           (cond (ltI (addI .i64 v0 v6) 8)
            (Ln1 v0 v1 (addI .u64 (addI .u64 r1.1 r2.2) r3.2) v3 v4 v5 (addI .i64 v6 1) v7 v8 v9 (Vec.st v10 (addI .i64 v0 v6) r3.1))
            (none))
           (none))
         (none))
        (none))
     (none))
    (none))
   (cond (leI 0 (addI .i64 v0 4))
    (cond (ltI (addI .i64 v0 4) 8)
     (Ln0 v3 (addI .i64 v4 1) v7 v8 v9 (Vec.st v10 (addI .i64 v0 4) v2))
     (none))
    (none))
theorem step22_1 (N : Nat) (m0 : Nat) (n : Nat) (v0 : Int) (v1 : Int) (v2 : Int) (v3 : Vec 4) (v4 : Int) (v5 : Vec 4) (v6 : Int) (v7 : Vec 4) (v8 : Vec 4) (v9 : Vec 4) (v10 : Vec 8) : raw22_1 N m0 (n + 1) v0 v1 v2 v3 v4 v5 v6 v7 v8 v9 v10 = s22_1 N (raw22_1 N m0 n) (raw22_0 N  m0) v0 v1 v2 v3 v4 v5 v6 v7 v8 v9 v10 := by kernel_rfl
noncomputable def l22_1 (N : Nat) (E0 : Vec 4 → Int → Vec 4 → Vec 4 → Vec 4 → Vec 8 → Option (Vec 4 × Vec 4)) : Nat → Int → Int → Int → Vec 4 → Int → Vec 4 → Int → Vec 4 → Vec 4 → Vec 4 → Vec 8 → Option (Vec 4 × Vec 4)
  | 0 => fun _ _ _ _ _ _ _ _ _ _ _ => none
  | n + 1 => fun v0 v1 v2 v3 v4 v5 v6 v7 v8 v9 v10 => s22_1 N (l22_1 N E0 n) E0 v0 v1 v2 v3 v4 v5 v6 v7 v8 v9 v10
theorem eq22_1 (N : Nat) (m0 : Nat) : ∀ n, raw22_1 N m0 n = l22_1 N (raw22_0 N  m0) n := by
  intro n
  induction n with
  | zero => exact funext fun v0 => funext fun v1 => funext fun v2 => funext fun v3 => funext fun v4 => funext fun v5 => funext fun v6 => funext fun v7 => funext fun v8 => funext fun v9 => funext fun v10 => rfl
  | succ n ih => exact funext fun v0 => funext fun v1 => funext fun v2 => funext fun v3 => funext fun v4 => funext fun v5 => funext fun v6 => funext fun v7 => funext fun v8 => funext fun v9 => funext fun v10 => by rw [step22_1, ih]; rfl
noncomputable def s22_0 (N : Nat) (Le1 : Int → Int → Int → Vec 4 → Int → Vec 4 → Int → Vec 4 → Vec 4 → Vec 4 → Vec 8 → Option (Vec 4 × Vec 4)) (v0 : Vec 4) (v1 : Int) (v2 : Vec 4) (v3 : Vec 4) (v4 : Vec 4) (v5 : Vec 8) : Option (Vec 4 × Vec 4) :=
  cond (ltI v1 4)
   (cond (leI 0 v1)
    (cond (ltI v1 4)
     (Le1 v1 (Vec.rd v0 v1) 0 v0 v1 v2 0 v2 v3 v4 v5)
     (none))
    (none))
   (some (v5.sub 0 4 (by decide), v5.sub 4 4 (by decide)))
theorem step22_0 (N : Nat) (n : Nat) (v0 : Vec 4) (v1 : Int) (v2 : Vec 4) (v3 : Vec 4) (v4 : Vec 4) (v5 : Vec 8) : raw22_0 N  (n + 1) v0 v1 v2 v3 v4 v5 = s22_0 N (raw22_1 N n N) v0 v1 v2 v3 v4 v5 := by kernel_rfl
noncomputable def l22_0 (N : Nat) : Nat → Vec 4 → Int → Vec 4 → Vec 4 → Vec 4 → Vec 8 → Option (Vec 4 × Vec 4)
  | 0 => fun _ _ _ _ _ _ => none
  | n + 1 => fun v0 v1 v2 v3 v4 v5 => s22_0 N (l22_1 N (l22_0 N  n) N) v0 v1 v2 v3 v4 v5
theorem eq22_0 (N : Nat) : ∀ n, raw22_0 N  n = l22_0 N  n := by
  intro n
  induction n with
  | zero => exact funext fun v0 => funext fun v1 => funext fun v2 => funext fun v3 => funext fun v4 => funext fun v5 => rfl
  | succ n ih => exact funext fun v0 => funext fun v1 => funext fun v2 => funext fun v3 => funext fun v4 => funext fun v5 => by rw [step22_0, eq22_1 N n N, ih]; rfl
noncomputable def t22 (N : Nat) (Le0 : Vec 4 → Int → Vec 4 → Vec 4 → Vec 4 → Vec 8 → Option (Vec 4 × Vec 4)) (x0 : Vec 4) (x1 : Vec 4) : Option (Vec 4 × Vec 4) :=
  Le0 x0 0 x1 (Vec.zero 4) (Vec.zero 4) (Vec.zero 8)
noncomputable def fn_wide_Mul (N : Nat) (x0 : Vec 4) (x1 : Vec 4) : Option (Vec 4 × Vec 4) := t22 N (l22_0 N N) x0 x1
theorem run22 (N : Nat) (x0 : Vec 4) (x1 : Vec 4) : Eng.run T22 (G22 N) N live22 c22 Try.f22.results.toList Try.f22.ntmps ((ad22).enc (x0, x1, ())) (rd22).dec = fn_wide_Mul N x0 x1 := by
  refine Eq.trans (show _ = t22 N (raw22_0 N N) x0 x1 from by kernel_rfl) ?_
  unfold fn_wide_Mul
  rw [eq22_0 N N]
noncomputable def F22 (N : Nat) (a : Vec 4 × Vec 4 × Unit) : Option (Vec 4 × Vec 4) := fn_wide_Mul N a.1 a.2.1
theorem ok22 (N : Nat) : FnOK Try.prog 22 ad22 rd22 (F22 N) :=
  fn_ok (N := N) (live := live22) (code := c22) (tok T22.rt T22.kl (wrNil_ok)) mixed (gok22 N) Try.func22 (by kernel_rfl) (by kernel_rfl) (by kernel_rfl) fun a p h => by rw [← h]; exact run22 N a.1 a.2.1

/-! ### tiller/wide.Shl: function 21 -/
noncomputable def c21 : Code := (Try.f21.body).getD .skip
noncomputable def T21 : Tb := ⟨tyOf tys, [(25, 2), (30, 5), (35, 5), (41, 2), (48, 5)], [], wrNil⟩
noncomputable def G21 {R : Type} (N : Nat) : FuncId → List AV → (AV → Option R) → Option R := gNil
theorem gok21 {R : Type} (N : Nat) : GOK Try.prog (G21 (R := R) N) := gNil_ok
noncomputable def live21 : List (Nat × List (Nat × HK)) := [(8, [(1, .keep), (2, .keep), (4, .keep), (5, .keep), (6, .keep), (7, .keep)])]
noncomputable def ad21 : Ad (Vec 4 × Int × Unit) := aC (cVec .u64 4) (aC (cInt .i64) (a0))
noncomputable def rd21 : Rd (Vec 4) := r1 (cVec .u64 4)
noncomputable def st21_0 (v0 : Int) (v1 : Int) (v2 : Int) (v3 : Vec 4) (v4 : Vec 4) (v5 : Vec 4) : St := ⟨[AV.none, AV.v (.int .i64 v0), AV.ptr 2 0, AV.none, AV.ptr 4 0, AV.ptr 5 0, AV.v (.int .i64 v1), AV.v (.int .i64 v2), AV.none, AV.none, AV.none, AV.none, AV.none, AV.none, AV.none, AV.none, AV.none, AV.none, AV.none, AV.none, AV.none, AV.none, AV.none, AV.none, AV.none, AV.none, AV.none, AV.none, AV.none, AV.none, AV.none, AV.none, AV.none, AV.none, AV.none, AV.none, AV.none, AV.none, AV.none, AV.none, AV.none, AV.none, AV.none, AV.none, AV.none, AV.none, AV.none, AV.none, AV.none, AV.none], [none, none, some (OB.arr .u64 4 v3), none, some (OB.arr .u64 4 v4), some (OB.arr .u64 4 v5), none, none, none, none, none, none, none, none, none, none, none, none, none, none, none, none, none, none, none, none, none, none, none, none, none, none, none, none, none, none, none, none, none, none, none, none, none, none, none, none, none, none, none, none]⟩
noncomputable def raw21_0 (N : Nat) (n : Nat) (v0 : Int) (v1 : Int) (v2 : Int) (v3 : Vec 4) (v4 : Vec 4) (v5 : Vec 4) : Option (Vec 4) := loopN (lookN live21 8) (exec T21 (G21 N) N live21 (cL (cL (cR (cL (cR (cR (cR (cR (cR c21)))))))))) n (st21_0 v0 v1 v2 v3 v4 v5) (blockK 0 (seqK (exec T21 (G21 N) N live21 (cR (cR (cR (cR (cR (cR c21))))))) (retK T21 Try.f21.results.toList (rd21).dec)))
noncomputable def s21_0 (N : Nat) (Ln0 : Int → Int → Int → Vec 4 → Vec 4 → Vec 4 → Option (Vec 4)) (v0 : Int) (v1 : Int) (v2 : Int) (v3 : Vec 4) (v4 : Vec 4) (v5 : Vec 4) : Option (Vec 4) :=
  cond (leI v1 v2)
   (cond (leI 0 (subI .i64 v2 v1))
    (cond (ltI (subI .i64 v2 v1) 4)
     (cond (ltI (remI .i64 v0 64) 0)
      (none)
      (cond (leI 0 v2)
       (cond (ltI v2 4)
        (cond (ltI v1 v2)
         (cond (leI 0 v2)
          (cond (ltI v2 4)
           (cond (leI 0 (subI .i64 (subI .i64 v2 v1) 1))
            (cond (ltI (subI .i64 (subI .i64 v2 v1) 1) 4)
             (cond (ltI (subI .i64 64 (remI .i64 v0 64)) 0)
              (none)
              (cond (leI 0 v2)
               (cond (ltI v2 4)
                (Ln0 v0 v1 (subI .i64 v2 1) v3 v4 (Vec.st (Vec.st v5 v2 (shlI .u64 (Vec.rd v3 (subI .i64 v2 v1)) (remI .i64 v0 64))) v2 (orI .u64 (Vec.rd (Vec.st v5 v2 (shlI .u64 (Vec.rd v3 (subI .i64 v2 v1)) (remI .i64 v0 64))) v2) (shrI .u64 (Vec.rd v3 (subI .i64 (subI .i64 v2 v1) 1)) (subI .i64 64 (remI .i64 v0 64))))))
                (none))
               (none)))
             (none))
            (none))
           (none))
          (none))
         (Ln0 v0 v1 (subI .i64 v2 1) v3 v4 (Vec.st v5 v2 (shlI .u64 (Vec.rd v3 (subI .i64 v2 v1)) (remI .i64 v0 64)))))
        (none))
       (none)))
     (none))
    (none))
   (some v5)
theorem step21_0 (N : Nat) (n : Nat) (v0 : Int) (v1 : Int) (v2 : Int) (v3 : Vec 4) (v4 : Vec 4) (v5 : Vec 4) : raw21_0 N  (n + 1) v0 v1 v2 v3 v4 v5 = s21_0 N (raw21_0 N  n) v0 v1 v2 v3 v4 v5 := by kernel_rfl
noncomputable def l21_0 (N : Nat) : Nat → Int → Int → Int → Vec 4 → Vec 4 → Vec 4 → Option (Vec 4)
  | 0 => fun _ _ _ _ _ _ => none
  | n + 1 => fun v0 v1 v2 v3 v4 v5 => s21_0 N (l21_0 N  n) v0 v1 v2 v3 v4 v5
theorem eq21_0 (N : Nat) : ∀ n, raw21_0 N  n = l21_0 N  n := by
  intro n
  induction n with
  | zero => exact funext fun v0 => funext fun v1 => funext fun v2 => funext fun v3 => funext fun v4 => funext fun v5 => rfl
  | succ n ih => exact funext fun v0 => funext fun v1 => funext fun v2 => funext fun v3 => funext fun v4 => funext fun v5 => by rw [step21_0, ih]; rfl
noncomputable def t21 (N : Nat) (Le0 : Int → Int → Int → Vec 4 → Vec 4 → Vec 4 → Option (Vec 4)) (x0 : Vec 4) (x1 : Int) : Option (Vec 4) :=
  cond (ltI x1 1)
   (some x0)
   (cond (leI 256 x1)
    (some (Vec.zero 4))
    (Le0 x1 (quoI .i64 x1 64) 3 x0 (Vec.zero 4) (Vec.zero 4)))
noncomputable def fn_wide_Shl (N : Nat) (x0 : Vec 4) (x1 : Int) : Option (Vec 4) := t21 N (l21_0 N N) x0 x1
theorem run21 (N : Nat) (x0 : Vec 4) (x1 : Int) : Eng.run T21 (G21 N) N live21 c21 Try.f21.results.toList Try.f21.ntmps ((ad21).enc (x0, x1, ())) (rd21).dec = fn_wide_Shl N x0 x1 := by
  refine Eq.trans (show _ = t21 N (raw21_0 N N) x0 x1 from by kernel_rfl) ?_
  unfold fn_wide_Shl
  rw [eq21_0 N N]
noncomputable def F21 (N : Nat) (a : Vec 4 × Int × Unit) : Option (Vec 4) := fn_wide_Shl N a.1 a.2.1
theorem ok21 (N : Nat) : FnOK Try.prog 21 ad21 rd21 (F21 N) :=
  fn_ok (N := N) (live := live21) (code := c21) (tok T21.rt T21.kl (wrNil_ok)) mixed (gok21 N) Try.func21 (by kernel_rfl) (by kernel_rfl) (by kernel_rfl) fun a p h => by rw [← h]; exact run21 N a.1 a.2.1

/-! ### tiller/wide.Shr: function 20 -/
noncomputable def c20 : Code := (Try.f20.body).getD .skip
noncomputable def T20 : Tb := ⟨tyOf tys, [(29, 2), (34, 6), (41, 6), (47, 2), (54, 6)], [], wrNil⟩
noncomputable def G20 {R : Type} (N : Nat) : FuncId → List AV → (AV → Option R) → Option R := gCons 21 (gOf ad21 rd21 (F21 N)) (gNil)
theorem gok20 {R : Type} (N : Nat) : GOK Try.prog (G20 (R := R) N) := gCons_ok (ok21 N) (gNil_ok)
noncomputable def live20 : List (Nat × List (Nat × HK)) := [(8, [(1, .keep), (2, .keep), (4, .keep), (6, .keep), (7, .keep), (21, .keep), (22, .keep)])]
noncomputable def ad20 : Ad (Vec 4 × Int × Unit) := aC (cVec .u64 4) (aC (cInt .i64) (a0))
noncomputable def rd20 : Rd (Vec 4 × Bool) := r2 (cVec .u64 4) (cBool)
noncomputable def st20_0 (v0 : Int) (v1 : Int) (v2 : Int) (v3 : Int) (v4 : Vec 4) (v5 : Vec 4) (v6 : Vec 4) : St := ⟨[AV.none, AV.v (.int .i64 v0), AV.ptr 2 0, AV.none, AV.ptr 4 0, AV.none, AV.ptr 6 0, AV.v (.int .i64 v1), AV.none, AV.none, AV.none, AV.none, AV.none, AV.none, AV.none, AV.none, AV.none, AV.none, AV.none, AV.none, AV.none, AV.v (.int .i64 v2), AV.v (.int .i64 v3), AV.none, AV.none, AV.none, AV.none, AV.none, AV.none, AV.none, AV.none, AV.none, AV.none, AV.none, AV.none, AV.none, AV.none, AV.none, AV.none, AV.none, AV.none, AV.none, AV.none, AV.none, AV.none, AV.none, AV.none, AV.none, AV.none, AV.none, AV.none, AV.none, AV.none, AV.none, AV.none, AV.none, AV.none, AV.none, AV.none, AV.none, AV.none, AV.none], [none, none, some (OB.arr .u64 4 v4), none, some (OB.arr .u64 4 v5), none, some (OB.arr .u64 4 v6), none, none, none, none, none, none, none, none, none, none, none, none, none, none, none, none, none, none, none, none, none, none, none, none, none, none, none, none, none, none, none, none, none, none, none, none, none, none, none, none, none, none, none, none, none, none, none, none, none, none, none, none, none, none, none]⟩
noncomputable def raw20_0 (N : Nat) (n : Nat) (v0 : Int) (v1 : Int) (v2 : Int) (v3 : Int) (v4 : Vec 4) (v5 : Vec 4) (v6 : Vec 4) : Option (Vec 4 × Bool) := loopN (lookN live20 8) (exec T20 (G20 N) N live20 (cL (cL (cR (cL (cR (cR (cR (cR (cR c20)))))))))) n (st20_0 v0 v1 v2 v3 v4 v5 v6) (blockK 0 (seqK (exec T20 (G20 N) N live20 (cR (cR (cR (cR (cR (cR c20))))))) (retK T20 Try.f20.results.toList (rd20).dec)))
noncomputable def s20_0 (N : Nat) (Ln0 : Int → Int → Int → Int → Vec 4 → Vec 4 → Vec 4 → Option (Vec 4 × Bool)) (v0 : Int) (v1 : Int) (v2 : Int) (v3 : Int) (v4 : Vec 4) (v5 : Vec 4) (v6 : Vec 4) : Option (Vec 4 × Bool) :=
  cond (ltI v3 v2)
   (cond (leI 0 (addI .i64 v3 v1))
    (cond (ltI (addI .i64 v3 v1) 4)
     (cond (ltI (remI .i64 v0 64) 0)
      (none)
      (cond (leI 0 v3)
       (cond (ltI v3 4)
        (cond (ltI (addI .i64 (addI .i64 v3 v1) 1) 4)
         (cond (leI 0 v3)
          (cond (ltI v3 4)
           (cond (leI 0 (addI .i64 (addI .i64 v3 v1) 1))
            (cond (ltI (addI .i64 (addI .i64 v3 v1) 1) 4)
             (cond (ltI (subI .i64 64 (remI .i64 v0 64)) 0)
              (none)
              (cond (leI 0 v3)
               (cond (ltI v3 4)
                (Ln0 v0 v1 v2 (addI .i64 v3 1) v4 v5 (Vec.st (Vec.st v6 v3 (shrI .u64 (Vec.rd v4 (addI .i64 v3 v1)) (remI .i64 v0 64))) v3 (orI .u64 (Vec.rd (Vec.st v6 v3 (shrI .u64 (Vec.rd v4 (addI .i64 v3 v1)) (remI .i64 v0 64))) v3) (shlI .u64 (Vec.rd v4 (addI .i64 (addI .i64 v3 v1) 1)) (subI .i64 64 (remI .i64 v0 64))))))
                (none))
               (none)))
             (none))
            (none))
           (none))
          (none))
         (Ln0 v0 v1 v2 (addI .i64 v3 1) v4 v5 (Vec.st v6 v3 (shrI .u64 (Vec.rd v4 (addI .i64 v3 v1)) (remI .i64 v0 64)))))
        (none))
       (none)))
     (none))
    (none))
   ((fn_wide_Shl N v6 v0).bind fun r1 =>
    some (v6, !(eqL r1.1 v4.1)))
theorem step20_0 (N : Nat) (n : Nat) (v0 : Int) (v1 : Int) (v2 : Int) (v3 : Int) (v4 : Vec 4) (v5 : Vec 4) (v6 : Vec 4) : raw20_0 N  (n + 1) v0 v1 v2 v3 v4 v5 v6 = s20_0 N (raw20_0 N  n) v0 v1 v2 v3 v4 v5 v6 := by kernel_rfl
noncomputable def l20_0 (N : Nat) : Nat → Int → Int → Int → Int → Vec 4 → Vec 4 → Vec 4 → Option (Vec 4 × Bool)
  | 0 => fun _ _ _ _ _ _ _ => none
  | n + 1 => fun v0 v1 v2 v3 v4 v5 v6 => s20_0 N (l20_0 N  n) v0 v1 v2 v3 v4 v5 v6
theorem eq20_0 (N : Nat) : ∀ n, raw20_0 N  n = l20_0 N  n := by
  intro n
  induction n with
  | zero => exact funext fun v0 => funext fun v1 => funext fun v2 => funext fun v3 => funext fun v4 => funext fun v5 => funext fun v6 => rfl
  | succ n ih => exact funext fun v0 => funext fun v1 => funext fun v2 => funext fun v3 => funext fun v4 => funext fun v5 => funext fun v6 => by rw [step20_0, ih]; rfl
noncomputable def t20 (N : Nat) (Le0 : Int → Int → Int → Int → Vec 4 → Vec 4 → Vec 4 → Option (Vec 4 × Bool)) (x0 : Vec 4) (x1 : Int) : Option (Vec 4 × Bool) :=
  cond (ltI x1 1)
   (some (x0, false))
   (cond (leI 256 x1)
    (some (Vec.zero 4, !(eqL x0.1 (Vec.zero 4).1)))
    (Le0 x1 (quoI .i64 x1 64) (subI .i64 4 (quoI .i64 x1 64)) 0 x0 (Vec.zero 4) (Vec.zero 4)))
noncomputable def fn_wide_Shr (N : Nat) (x0 : Vec 4) (x1 : Int) : Option (Vec 4 × Bool) := t20 N (l20_0 N N) x0 x1
theorem run20 (N : Nat) (x0 : Vec 4) (x1 : Int) : Eng.run T20 (G20 N) N live20 c20 Try.f20.results.toList Try.f20.ntmps ((ad20).enc (x0, x1, ())) (rd20).dec = fn_wide_Shr N x0 x1 := by
  refine Eq.trans (show _ = t20 N (raw20_0 N N) x0 x1 from by kernel_rfl) ?_
  unfold fn_wide_Shr
  rw [eq20_0 N N]
noncomputable def F20 (N : Nat) (a : Vec 4 × Int × Unit) : Option (Vec 4 × Bool) := fn_wide_Shr N a.1 a.2.1
theorem ok20 (N : Nat) : FnOK Try.prog 20 ad20 rd20 (F20 N) :=
  fn_ok (N := N) (live := live20) (code := c20) (tok T20.rt T20.kl (wrNil_ok)) mixed (gok20 N) Try.func20 (by kernel_rfl) (by kernel_rfl) (by kernel_rfl) fun a p h => by rw [← h]; exact run20 N a.1 a.2.1

/-! ### tiller/wide.Add: function 23 -/
noncomputable def c23 : Code := (Try.f23.body).getD .skip
noncomputable def T23 : Tb := ⟨tyOf tys, [(14, 2), (17, 3), (23, 2)], [], wrNil⟩
noncomputable def G23 {R : Type} (N : Nat) : FuncId → List AV → (AV → Option R) → Option R := gCons 33 (gOf (aI3 .u64) (r2 (cInt .u64) (cInt .u64)) (fun a => add64 a.1 a.2.1 a.2.2.1)) (gNil)
theorem gok23 {R : Type} (N : Nat) : GOK Try.prog (G23 (R := R) N) := gCons_ok (add64_ok Try.func33 (by kernel_rfl) (by kernel_rfl) (by kernel_rfl) (by kernel_rfl)) (gNil_ok)
noncomputable def live23 : List (Nat × List (Nat × HK)) := [(3, [(2, .keep), (3, .keep), (4, .keep), (6, .keep), (8, .keep)])]
noncomputable def ad23 : Ad (Vec 4 × Vec 4 × Unit) := aC (cVec .u64 4) (aC (cVec .u64 4) (a0))
noncomputable def rd23 : Rd (Vec 4 × Bool) := r2 (cVec .u64 4) (cBool)
noncomputable def st23_0 (v0 : Int) (v1 : Int) (v2 : Vec 4) (v3 : Vec 4) (v4 : Vec 4) : St := ⟨[AV.none, AV.none, AV.ptr 2 0, AV.ptr 3 0, AV.ptr 4 0, AV.none, AV.v (.int .u64 v0), AV.none, AV.v (.int .i64 v1), AV.none, AV.none, AV.none, AV.none, AV.none, AV.none, AV.none, AV.none, AV.none, AV.none, AV.none, AV.none, AV.none, AV.none, AV.none, AV.none, AV.none, AV.none, AV.none], [none, none, some (OB.arr .u64 4 v2), some (OB.arr .u64 4 v3), some (OB.arr .u64 4 v4), none, none, none, none, none, none, none, none, none, none, none, none, none, none, none, none, none, none, none, none, none, none, none]⟩
noncomputable def raw23_0 (N : Nat) (n : Nat) (v0 : Int) (v1 : Int) (v2 : Vec 4) (v3 : Vec 4) (v4 : Vec 4) : Option (Vec 4 × Bool) := loopN (lookN live23 3) (exec T23 (G23 N) N live23 (cL (cL (cR (cL (cR (cR c23))))))) n (st23_0 v0 v1 v2 v3 v4) (blockK 0 (seqK (exec T23 (G23 N) N live23 (cR (cR (cR c23)))) (retK T23 Try.f23.results.toList (rd23).dec)))
noncomputable def s23_0 (N : Nat) (Ln0 : Int → Int → Vec 4 → Vec 4 → Vec 4 → Option (Vec 4 × Bool)) (v0 : Int) (v1 : Int) (v2 : Vec 4) (v3 : Vec 4) (v4 : Vec 4) : Option (Vec 4 × Bool) :=
  cond (ltI v1 4)
   (cond (leI 0 v1)
    (cond (ltI v1 4)
     (cond (leI 0 v1)
      (cond (ltI v1 4)
       ((add64 (Vec.rd v2 v1) (Vec.rd v3 v1) v0).bind fun r1 =>
        cond (leI 0 v1)
         (cond (ltI v1 4)
          (Ln0 r1.2 (addI .i64 v1 1) (Vec.st v2 v1 r1.1) v3 v4)
          (none))
         (none))
       (none))
      (none))
     (none))
    (none))
   (some (v2, !(eqI v0 0)))
theorem step23_0 (N : Nat) (n : Nat) (v0 : Int) (v1 : Int) (v2 : Vec 4) (v3 : Vec 4) (v4 : Vec 4) : raw23_0 N  (n + 1) v0 v1 v2 v3 v4 = s23_0 N (raw23_0 N  n) v0 v1 v2 v3 v4 := by kernel_rfl
noncomputable def l23_0 (N : Nat) : Nat → Int → Int → Vec 4 → Vec 4 → Vec 4 → Option (Vec 4 × Bool)
  | 0 => fun _ _ _ _ _ => none
  | n + 1 => fun v0 v1 v2 v3 v4 => s23_0 N (l23_0 N  n) v0 v1 v2 v3 v4
theorem eq23_0 (N : Nat) : ∀ n, raw23_0 N  n = l23_0 N  n := by
  intro n
  induction n with
  | zero => exact funext fun v0 => funext fun v1 => funext fun v2 => funext fun v3 => funext fun v4 => rfl
  | succ n ih => exact funext fun v0 => funext fun v1 => funext fun v2 => funext fun v3 => funext fun v4 => by rw [step23_0, ih]; rfl
noncomputable def t23 (N : Nat) (Le0 : Int → Int → Vec 4 → Vec 4 → Vec 4 → Option (Vec 4 × Bool)) (x0 : Vec 4) (x1 : Vec 4) : Option (Vec 4 × Bool) :=
  Le0 0 0 x0 x1 (Vec.zero 4)
noncomputable def fn_wide_Add (N : Nat) (x0 : Vec 4) (x1 : Vec 4) : Option (Vec 4 × Bool) := t23 N (l23_0 N N) x0 x1
theorem run23 (N : Nat) (x0 : Vec 4) (x1 : Vec 4) : Eng.run T23 (G23 N) N live23 c23 Try.f23.results.toList Try.f23.ntmps ((ad23).enc (x0, x1, ())) (rd23).dec = fn_wide_Add N x0 x1 := by
  refine Eq.trans (show _ = t23 N (raw23_0 N N) x0 x1 from by kernel_rfl) ?_
  unfold fn_wide_Add
  rw [eq23_0 N N]
noncomputable def F23 (N : Nat) (a : Vec 4 × Vec 4 × Unit) : Option (Vec 4 × Bool) := fn_wide_Add N a.1 a.2.1
theorem ok23 (N : Nat) : FnOK Try.prog 23 ad23 rd23 (F23 N) :=
  fn_ok (N := N) (live := live23) (code := c23) (tok T23.rt T23.kl (wrNil_ok)) mixed (gok23 N) Try.func23 (by kernel_rfl) (by kernel_rfl) (by kernel_rfl) fun a p h => by rw [← h]; exact run23 N a.1 a.2.1

/-! ### math/bits.Len64: function 34 -/
noncomputable def c34 : Code := (Try.f34.body).getD .skip
noncomputable def T34 : Tb := ⟨tyOf tys, [], [], wrNil⟩
noncomputable def G34 {R : Type} (N : Nat) : FuncId → List AV → (AV → Option R) → Option R := gNil
theorem gok34 {R : Type} (N : Nat) : GOK Try.prog (G34 (R := R) N) := gNil_ok
noncomputable def live34 : List (Nat × List (Nat × HK)) := []
noncomputable def ad34 : Ad (Int × Unit) := aC (cInt .u64) (a0)
noncomputable def rd34 : Rd (Int) := r1 (cInt .i64)
noncomputable def fn_bits_Len64 (N : Nat) (x0 : Int) : Option (Int) :=
  cond (leI 4294967296 x0)
   (cond (leI 65536 (shrI .u64 x0 32))
    (cond (leI 256 (shrI .u64 (shrI .u64 x0 32) 16))
     (cond (leI 0 (cvI .u8 (shrI .u64 (shrI .u64 (shrI .u64 x0 32) 16) 8)))
      (cond (ltI (cvI .u8 (shrI .u64 (shrI .u64 (shrI .u64 x0 32) 16) 8)) (str0.size : Int))
       (some (addI .i64 (addI .i64 (addI .i64 32 16) 8) (cvI .i64 (sAt str0 (cvI .u8 (shrI .u64 (shrI .u64 (shrI .u64 x0 32) 16) 8))))))
       (none))
      (none))
     (cond (leI 0 (cvI .u8 (shrI .u64 (shrI .u64 x0 32) 16)))
      (cond (ltI (cvI .u8 (shrI .u64 (shrI .u64 x0 32) 16)) (str0.size : Int))
       (some (addI .i64 (addI .i64 32 16) (cvI .i64 (sAt str0 (cvI .u8 (shrI .u64 (shrI .u64 x0 32) 16))))))
       (none))
      (none)))
    (cond (leI 256 (shrI .u64 x0 32))
     (cond (leI 0 (cvI .u8 (shrI .u64 (shrI .u64 x0 32) 8)))
      (cond (ltI (cvI .u8 (shrI .u64 (shrI .u64 x0 32) 8)) (str0.size : Int))
       (some (addI .i64 (addI .i64 32 8) (cvI .i64 (sAt str0 (cvI .u8 (shrI .u64 (shrI .u64 x0 32) 8))))))
       (none))
      (none))
     (cond (leI 0 (cvI .u8 (shrI .u64 x0 32)))
      (cond (ltI (cvI .u8 (shrI .u64 x0 32)) (str0.size : Int))
       (some (addI .i64 32 (cvI .i64 (sAt str0 (cvI .u8 (shrI .u64 x0 32))))))
       (none))
      (none))))
   (cond (leI 65536 x0)
    (cond (leI 256 (shrI .u64 x0 16))
     (cond (leI 0 (cvI .u8 (shrI .u64 (shrI .u64 x0 16) 8)))
      (cond (ltI (cvI .u8 (shrI .u64 (shrI .u64 x0 16) 8)) (str0.size : Int))
       (some (addI .i64 (addI .i64 (addI .i64 0 16) 8) (cvI .i64 (sAt str0 (cvI .u8 (shrI .u64 (shrI .u64 x0 16) 8))))))
       (none))
      (none))
     (cond (leI 0 (cvI .u8 (shrI .u64 x0 16)))
      (cond (ltI (cvI .u8 (shrI .u64 x0 16)) (str0.size : Int))
       (some (addI .i64 (addI .i64 0 16) (cvI .i64 (sAt str0 (cvI .u8 (shrI .u64 x0 16))))))
       (none))
      (none)))
    (cond (leI 256 x0)
     (cond (leI 0 (cvI .u8 (shrI .u64 x0 8)))
      (cond (ltI (cvI .u8 (shrI .u64 x0 8)) (str0.size : Int))
       (some (addI .i64 (addI .i64 0 8) (cvI .i64 (sAt str0 (cvI .u8 (shrI .u64 x0 8))))))
       (none))
      (none))
     (cond (leI 0 (cvI .u8 x0))
      (cond (ltI (cvI .u8 x0) (str0.size : Int))
       (some (addI .i64 0 (cvI .i64 (sAt str0 (cvI .u8 x0)))))
       (none))
      (none))))
theorem run34 (N : Nat) (x0 : Int) : Eng.run T34 (G34 N) N live34 c34 Try.f34.results.toList Try.f34.ntmps ((ad34).enc (x0, ())) (rd34).dec = fn_bits_Len64 N x0 := by kernel_rfl
noncomputable def F34 (N : Nat) (a : Int × Unit) : Option (Int) := fn_bits_Len64 N a.1
theorem ok34 (N : Nat) : FnOK Try.prog 34 ad34 rd34 (F34 N) :=
  fn_ok (N := N) (live := live34) (code := c34) (tok T34.rt T34.kl (wrNil_ok)) mixed (gok34 N) Try.func34 (by kernel_rfl) (by kernel_rfl) (by kernel_rfl) fun a p h => by rw [← h]; exact run34 N a.1

/-! ### tiller/wide.Len: function 24 -/
noncomputable def c24 : Code := (Try.f24.body).getD .skip
noncomputable def T24 : Tb := ⟨tyOf tys, [(9, 1), (15, 1)], [], wrNil⟩
noncomputable def G24 {R : Type} (N : Nat) : FuncId → List AV → (AV → Option R) → Option R := gCons 34 (gOf ad34 rd34 (F34 N)) (gNil)
theorem gok24 {R : Type} (N : Nat) : GOK Try.prog (G24 (R := R) N) := gCons_ok (ok34 N) (gNil_ok)
noncomputable def live24 : List (Nat × List (Nat × HK)) := [(2, [(1, .keep), (3, .keep)])]
noncomputable def ad24 : Ad (Vec 4 × Unit) := aC (cVec .u64 4) (a0)
noncomputable def rd24 : Rd (Int) := r1 (cInt .i64)
noncomputable def st24_0 (v0 : Int) (v1 : Vec 4) : St := ⟨[AV.none, AV.ptr 1 0, AV.none, AV.v (.int .i64 v0), AV.none, AV.none, AV.none, AV.none, AV.none, AV.none, AV.none, AV.none, AV.none, AV.none, AV.none, AV.none, AV.none, AV.none, AV.none], [none, some (OB.arr .u64 4 v1), none, none, none, none, none, none, none, none, none, none, none, none, none, none, none, none, none]⟩
noncomputable def raw24_0 (N : Nat) (n : Nat) (v0 : Int) (v1 : Vec 4) : Option (Int) := loopN (lookN live24 2) (exec T24 (G24 N) N live24 (cL (cL (cR (cL (cR c24)))))) n (st24_0 v0 v1) (blockK 0 (seqK (exec T24 (G24 N) N live24 (cR (cR c24))) (retK T24 Try.f24.results.toList (rd24).dec)))
noncomputable def s24_0 (N : Nat) (Ln0 : Int → Vec 4 → Option (Int)) (v0 : Int) (v1 : Vec 4) : Option (Int) :=
  cond (leI 0 v0)
   (cond (leI 0 v0)
    (cond (ltI v0 4)
     (cond (!(eqI (Vec.rd v1 v0) 0))
      (cond (leI 0 v0)
       (cond (ltI v0 4)
        ((fn_bits_Len64 N (Vec.rd v1 v0)).bind fun r1 =>
         some (addI .i64 (mulI .i64 64 v0) r1))
        (none))
       (none))
      (Ln0 (subI .i64 v0 1) v1))
     (none))
    (none))
   (some 0)
theorem step24_0 (N : Nat) (n : Nat) (v0 : Int) (v1 : Vec 4) : raw24_0 N  (n + 1) v0 v1 = s24_0 N (raw24_0 N  n) v0 v1 := by kernel_rfl
noncomputable def l24_0 (N : Nat) : Nat → Int → Vec 4 → Option (Int)
  | 0 => fun _ _ => none
  | n + 1 => fun v0 v1 => s24_0 N (l24_0 N  n) v0 v1
theorem eq24_0 (N : Nat) : ∀ n, raw24_0 N  n = l24_0 N  n := by
  intro n
  induction n with
  | zero => exact funext fun v0 => funext fun v1 => rfl
  | succ n ih => exact funext fun v0 => funext fun v1 => by rw [step24_0, ih]; rfl
noncomputable def t24 (N : Nat) (Le0 : Int → Vec 4 → Option (Int)) (x0 : Vec 4) : Option (Int) :=
  Le0 3 x0
noncomputable def fn_wide_Len (N : Nat) (x0 : Vec 4) : Option (Int) := t24 N (l24_0 N N) x0
theorem run24 (N : Nat) (x0 : Vec 4) : Eng.run T24 (G24 N) N live24 c24 Try.f24.results.toList Try.f24.ntmps ((ad24).enc (x0, ())) (rd24).dec = fn_wide_Len N x0 := by
  refine Eq.trans (show _ = t24 N (raw24_0 N N) x0 from by kernel_rfl) ?_
  unfold fn_wide_Len
  rw [eq24_0 N N]
noncomputable def F24 (N : Nat) (a : Vec 4 × Unit) : Option (Int) := fn_wide_Len N a.1
theorem ok24 (N : Nat) : FnOK Try.prog 24 ad24 rd24 (F24 N) :=
  fn_ok (N := N) (live := live24) (code := c24) (tok T24.rt T24.kl (wrNil_ok)) mixed (gok24 N) Try.func24 (by kernel_rfl) (by kernel_rfl) (by kernel_rfl) fun a p h => by rw [← h]; exact run24 N a.1

/-! ### tiller/fix.Mul: function 6 -/
noncomputable def c6 : Code := (Try.f6.body).getD .skip
noncomputable def T6 : Tb := ⟨tyOf tys, [], [], wrNil⟩
noncomputable def G6 {R : Type} (N : Nat) : FuncId → List AV → (AV → Option R) → Option R := gCons 22 (gOf ad22 rd22 (F22 N)) (gCons 20 (gOf ad20 rd20 (F20 N)) (gCons 21 (gOf ad21 rd21 (F21 N)) (gCons 23 (gOf ad23 rd23 (F23 N)) (gCons 24 (gOf ad24 rd24 (F24 N)) (gNil)))))
theorem gok6 {R : Type} (N : Nat) : GOK Try.prog (G6 (R := R) N) := gCons_ok (ok22 N) (gCons_ok (ok20 N) (gCons_ok (ok21 N) (gCons_ok (ok23 N) (gCons_ok (ok24 N) (gNil_ok)))))
noncomputable def live6 : List (Nat × List (Nat × HK)) := []
noncomputable def ad6 : Ad (Vec 4 × Vec 4 × Unit) := aC (cVec .u64 4) (aC (cVec .u64 4) (a0))
noncomputable def rd6 : Rd (Vec 4 × Bool) := r2 (cVec .u64 4) (cBool)
noncomputable def fn_fix_Mul (N : Nat) (x0 : Vec 4) (x1 : Vec 4) : Option (Vec 4 × Bool) :=
  (fn_wide_Mul N x0 x1).bind fun r1 =>
   (fn_wide_Shr N r1.1 248).bind fun r2 =>
    (fn_wide_Shl N r1.2 8).bind fun r3 =>
     (fn_wide_Add N r3 r2.1).bind fun r4 =>
      (fn_wide_Len N r1.2).bind fun r5 =>
       some (r4.1, ltI 248 r5)
theorem run6 (N : Nat) (x0 : Vec 4) (x1 : Vec 4) : Eng.run T6 (G6 N) N live6 c6 Try.f6.results.toList Try.f6.ntmps ((ad6).enc (x0, x1, ())) (rd6).dec = fn_fix_Mul N x0 x1 := by kernel_rfl
noncomputable def F6 (N : Nat) (a : Vec 4 × Vec 4 × Unit) : Option (Vec 4 × Bool) := fn_fix_Mul N a.1 a.2.1
theorem ok6 (N : Nat) : FnOK Try.prog 6 ad6 rd6 (F6 N) :=
  fn_ok (N := N) (live := live6) (code := c6) (tok T6.rt T6.kl (wrNil_ok)) mixed (gok6 N) Try.func6 (by kernel_rfl) (by kernel_rfl) (by kernel_rfl) fun a p h => by rw [← h]; exact run6 N a.1 a.2.1

/-! ### tiller/tillerref02.trim: function 26 -/
noncomputable def c26 : Code := (Try.f26.body).getD .skip
noncomputable def T26 : Tb := ⟨tyOf tys, [], [], wrNil⟩
noncomputable def G26 {R : Type} (N : Nat) : FuncId → List AV → (AV → Option R) → Option R := gNil
theorem gok26 {R : Type} (N : Nat) : GOK Try.prog (G26 (R := R) N) := gNil_ok
noncomputable def live26 : List (Nat × List (Nat × HK)) := [(2, [(0, .keep), (3, .keep)])]
noncomputable def ad26 : Ad (List Int × Unit) := aC (cLi .u32) (a0)
noncomputable def rd26 : Rd (List Int) := r1 (cLi .u32)
noncomputable def st26_0 (v0 : List Int) (v1 : Int) : St := ⟨[AV.li .u32 v0, AV.none, AV.none, AV.v (.int .i64 v1), AV.none, AV.none, AV.none, AV.none, AV.none, AV.none, AV.none, AV.none, AV.none, AV.none, AV.none, AV.none, AV.none, AV.none, AV.none, AV.none, AV.none, AV.none], [none, none, none, none, none, none, none, none, none, none, none, none, none, none, none, none, none, none, none, none, none, none]⟩
noncomputable def raw26_0 (N : Nat) (n : Nat) (v0 : List Int) (v1 : Int) : Option (List Int) := loopN (lookN live26 2) (exec T26 (G26 N) N live26 (cL (cL (cL (cR (cR c26)))))) n (st26_0 v0 v1) (blockK 0 (seqK (exec T26 (G26 N) N live26 (cR (cR (cR c26)))) (retK T26 Try.f26.results.toList (rd26).dec)))
noncomputable def s26_0 (N : Nat) (Ln0 : List Int → Int → Option (List Int)) (v0 : List Int) (v1 : Int) : Option (List Int) :=
  cond (ltI 0 v1)
   (cond (leI 0 (subI .i64 v1 1))
    (cond (ltI (subI .i64 v1 1) (v0.length : Int))
     (cond (eqI (lrd v0 (subI .i64 v1 1)) 0)
      (Ln0 v0 (subI .i64 v1 1))
      (cond (((((leI 0 0) && (leI 0 v1)) && (leI v1 v1)) && (leI v1 (v0.length : Int))) && (true || false))
       (some ((v0.take v1.toNat).drop ((0 : Int).toNat)))
       (none)))
     (none))
    (none))
   (cond (((((leI 0 0) && (leI 0 v1)) && (leI v1 v1)) && (leI v1 (v0.length : Int))) && (true || false))
    (some ((v0.take v1.toNat).drop ((0 : Int).toNat)))
    (none))
theorem step26_0 (N : Nat) (n : Nat) (v0 : List Int) (v1 : Int) : raw26_0 N  (n + 1) v0 v1 = s26_0 N (raw26_0 N  n) v0 v1 := by kernel_rfl
noncomputable def l26_0 (N : Nat) : Nat → List Int → Int → Option (List Int)
  | 0 => fun _ _ => none
  | n + 1 => fun v0 v1 => s26_0 N (l26_0 N  n) v0 v1
theorem eq26_0 (N : Nat) : ∀ n, raw26_0 N  n = l26_0 N  n := by
  intro n
  induction n with
  | zero => exact funext fun v0 => funext fun v1 => rfl
  | succ n ih => exact funext fun v0 => funext fun v1 => by rw [step26_0, ih]; rfl
noncomputable def t26 (N : Nat) (Le0 : List Int → Int → Option (List Int)) (x0 : List Int) : Option (List Int) :=
  Le0 x0 (x0.length : Int)
noncomputable def fn_tillerref02_trim (N : Nat) (x0 : List Int) : Option (List Int) := t26 N (l26_0 N N) x0
theorem run26 (N : Nat) (x0 : List Int) : Eng.run T26 (G26 N) N live26 c26 Try.f26.results.toList Try.f26.ntmps ((ad26).enc (x0, ())) (rd26).dec = fn_tillerref02_trim N x0 := by
  refine Eq.trans (show _ = t26 N (raw26_0 N N) x0 from by kernel_rfl) ?_
  unfold fn_tillerref02_trim
  rw [eq26_0 N N]
noncomputable def F26 (N : Nat) (a : List Int × Unit) : Option (List Int) := fn_tillerref02_trim N a.1
theorem ok26 (N : Nat) : FnOK Try.prog 26 ad26 rd26 (F26 N) :=
  fn_ok (N := N) (live := live26) (code := c26) (tok T26.rt T26.kl (wrNil_ok)) mixed (gok26 N) Try.func26 (by kernel_rfl) (by kernel_rfl) (by kernel_rfl) fun a p h => by rw [← h]; exact run26 N a.1

/-! ### tiller/tillerref02.From: function 27 -/
noncomputable def c27 : Code := (Try.f27.body).getD .skip
noncomputable def T27 : Tb := ⟨tyOf tys, [], [25], wrNil⟩
noncomputable def G27 {R : Type} (N : Nat) : FuncId → List AV → (AV → Option R) → Option R := gCons 26 (gOf ad26 rd26 (F26 N)) (gNil)
theorem gok27 {R : Type} (N : Nat) : GOK Try.prog (G27 (R := R) N) := gCons_ok (ok26 N) (gNil_ok)
noncomputable def live27 : List (Nat × List (Nat × HK)) := [(3, [(0, .keep), (3, .row .u32 50), (4, .keep)])]
noncomputable def ad27 : Ad (List Int × Unit) := aC (cLi .u32) (a0)
noncomputable def rd27 : Rd (List Int) := r1 (cLi .u32)
noncomputable def st27_0 (v0 : List Int) (v1 : Int) (v2 : List Int) : St := ⟨[AV.li .u32 v0, AV.none, AV.none, AV.own 3, AV.v (.int .i64 v1), AV.none, AV.none, AV.none, AV.none, AV.none, AV.none, AV.none, AV.none, AV.none, AV.none, AV.none, AV.none, AV.none, AV.none, AV.none, AV.none, AV.none, AV.none, AV.none, AV.none, AV.none], [none, none, none, some (OB.row .u32 50 v2), none, none, none, none, none, none, none, none, none, none, none, none, none, none, none, none, none, none, none, none, none, none]⟩
noncomputable def raw27_0 (N : Nat) (n : Nat) (v0 : List Int) (v1 : Int) (v2 : List Int) : Option (List Int) := loopN (lookN live27 3) (exec T27 (G27 N) N live27 (cL (cL (cR (cL (cR (cR c27))))))) n (st27_0 v0 v1 v2) (blockK 0 (seqK (exec T27 (G27 N) N live27 (cR (cR (cR c27)))) (retK T27 Try.f27.results.toList (rd27).dec)))
noncomputable def s27_0 (N : Nat) (Ln0 : List Int → Int → List Int → Option (List Int)) (v0 : List Int) (v1 : Int) (v2 : List Int) : Option (List Int) :=
  cond (ltI v1 (v0.length : Int))
   (cond (leI 0 v1)
    (cond (ltI v1 (v0.length : Int))
     (cond (leI 0 v1)
      (cond (ltI v1 (v0.length : Int))
       (cond (fitL (v2.length + [remI .u32 (lrd v0 v1) 65536, quoI .u32 (lrd v0 v1) 65536].length))
        (Ln0 v0 (addI .i64 v1 1) (v2 ++ [remI .u32 (lrd v0 v1) 65536, quoI .u32 (lrd v0 v1) 65536]))
        (none))
       (none))
      (none))
     (none))
    (none))
   ((fn_tillerref02_trim N v2).bind fun r1 =>
    some r1)
theorem step27_0 (N : Nat) (n : Nat) (v0 : List Int) (v1 : Int) (v2 : List Int) : raw27_0 N  (n + 1) v0 v1 v2 = s27_0 N (raw27_0 N  n) v0 v1 v2 := by kernel_rfl
noncomputable def l27_0 (N : Nat) : Nat → List Int → Int → List Int → Option (List Int)
  | 0 => fun _ _ _ => none
  | n + 1 => fun v0 v1 v2 => s27_0 N (l27_0 N  n) v0 v1 v2
theorem eq27_0 (N : Nat) : ∀ n, raw27_0 N  n = l27_0 N  n := by
  intro n
  induction n with
  | zero => exact funext fun v0 => funext fun v1 => funext fun v2 => rfl
  | succ n ih => exact funext fun v0 => funext fun v1 => funext fun v2 => by rw [step27_0, ih]; rfl
noncomputable def t27 (N : Nat) (Le0 : List Int → Int → List Int → Option (List Int)) (x0 : List Int) : Option (List Int) :=
  Le0 x0 0 []
noncomputable def fn_tillerref02_From (N : Nat) (x0 : List Int) : Option (List Int) := t27 N (l27_0 N N) x0
theorem run27 (N : Nat) (x0 : List Int) : Eng.run T27 (G27 N) N live27 c27 Try.f27.results.toList Try.f27.ntmps ((ad27).enc (x0, ())) (rd27).dec = fn_tillerref02_From N x0 := by
  refine Eq.trans (show _ = t27 N (raw27_0 N N) x0 from by kernel_rfl) ?_
  unfold fn_tillerref02_From
  rw [eq27_0 N N]
noncomputable def F27 (N : Nat) (a : List Int × Unit) : Option (List Int) := fn_tillerref02_From N a.1
theorem ok27 (N : Nat) : FnOK Try.prog 27 ad27 rd27 (F27 N) :=
  fn_ok (N := N) (live := live27) (code := c27) (tok T27.rt T27.kl (wrNil_ok)) mixed (gok27 N) Try.func27 (by kernel_rfl) (by kernel_rfl) (by kernel_rfl) fun a p h => by rw [← h]; exact run27 N a.1

/-! ### tiller/tillerlaw15.of: function 9 -/
noncomputable def c9 : Code := (Try.f9.body).getD .skip
noncomputable def T9 : Tb := ⟨tyOf tys, [(11, 1), (16, 1)], [23], wrNil⟩
noncomputable def G9 {R : Type} (N : Nat) : FuncId → List AV → (AV → Option R) → Option R := gCons 27 (gOf ad27 rd27 (F27 N)) (gNil)
theorem gok9 {R : Type} (N : Nat) : GOK Try.prog (G9 (R := R) N) := gCons_ok (ok27 N) (gNil_ok)
noncomputable def live9 : List (Nat × List (Nat × HK)) := [(3, [(1, .keep), (3, .row .u32 50), (4, .keep)])]
noncomputable def ad9 : Ad (Vec 4 × Unit) := aC (cVec .u64 4) (a0)
noncomputable def rd9 : Rd (List Int) := r1 (cLi .u32)
noncomputable def st9_0 (v0 : Int) (v1 : Vec 4) (v2 : List Int) : St := ⟨[AV.none, AV.ptr 1 0, AV.none, AV.own 3, AV.v (.int .i64 v0), AV.none, AV.none, AV.none, AV.none, AV.none, AV.none, AV.none, AV.none, AV.none, AV.none, AV.none, AV.none, AV.none, AV.none, AV.none, AV.none, AV.none, AV.none, AV.none], [none, some (OB.arr .u64 4 v1), none, some (OB.row .u32 50 v2), none, none, none, none, none, none, none, none, none, none, none, none, none, none, none, none, none, none, none, none]⟩
noncomputable def raw9_0 (N : Nat) (n : Nat) (v0 : Int) (v1 : Vec 4) (v2 : List Int) : Option (List Int) := loopN (lookN live9 3) (exec T9 (G9 N) N live9 (cL (cL (cR (cL (cR (cR c9))))))) n (st9_0 v0 v1 v2) (blockK 0 (seqK (exec T9 (G9 N) N live9 (cR (cR (cR c9)))) (retK T9 Try.f9.results.toList (rd9).dec)))
noncomputable def s9_0 (N : Nat) (Ln0 : Int → Vec 4 → List Int → Option (List Int)) (v0 : Int) (v1 : Vec 4) (v2 : List Int) : Option (List Int) :=
  cond (ltI v0 4)
   (cond (leI 0 v0)
    (cond (ltI v0 4)
     (cond (leI 0 v0)
      (cond (ltI v0 4)
       (cond (fitL (v2.length + [cvI .u32 (remI .u64 (Vec.rd v1 v0) 4294967296), cvI .u32 (quoI .u64 (Vec.rd v1 v0) 4294967296)].length))
        (Ln0 (addI .i64 v0 1) v1 (v2 ++ [cvI .u32 (remI .u64 (Vec.rd v1 v0) 4294967296), cvI .u32 (quoI .u64 (Vec.rd v1 v0) 4294967296)]))
        (none))
       (none))
      (none))
     (none))
    (none))
   ((fn_tillerref02_From N v2).bind fun r1 =>
    some r1)
theorem step9_0 (N : Nat) (n : Nat) (v0 : Int) (v1 : Vec 4) (v2 : List Int) : raw9_0 N  (n + 1) v0 v1 v2 = s9_0 N (raw9_0 N  n) v0 v1 v2 := by kernel_rfl
noncomputable def l9_0 (N : Nat) : Nat → Int → Vec 4 → List Int → Option (List Int)
  | 0 => fun _ _ _ => none
  | n + 1 => fun v0 v1 v2 => s9_0 N (l9_0 N  n) v0 v1 v2
theorem eq9_0 (N : Nat) : ∀ n, raw9_0 N  n = l9_0 N  n := by
  intro n
  induction n with
  | zero => exact funext fun v0 => funext fun v1 => funext fun v2 => rfl
  | succ n ih => exact funext fun v0 => funext fun v1 => funext fun v2 => by rw [step9_0, ih]; rfl
noncomputable def t9 (N : Nat) (Le0 : Int → Vec 4 → List Int → Option (List Int)) (x0 : Vec 4) : Option (List Int) :=
  Le0 0 x0 []
noncomputable def fn_tillerlaw15_of (N : Nat) (x0 : Vec 4) : Option (List Int) := t9 N (l9_0 N N) x0
theorem run9 (N : Nat) (x0 : Vec 4) : Eng.run T9 (G9 N) N live9 c9 Try.f9.results.toList Try.f9.ntmps ((ad9).enc (x0, ())) (rd9).dec = fn_tillerlaw15_of N x0 := by
  refine Eq.trans (show _ = t9 N (raw9_0 N N) x0 from by kernel_rfl) ?_
  unfold fn_tillerlaw15_of
  rw [eq9_0 N N]
noncomputable def F9 (N : Nat) (a : Vec 4 × Unit) : Option (List Int) := fn_tillerlaw15_of N a.1
theorem ok9 (N : Nat) : FnOK Try.prog 9 ad9 rd9 (F9 N) :=
  fn_ok (N := N) (live := live9) (code := c9) (tok T9.rt T9.kl (wrNil_ok)) mixed (gok9 N) Try.func9 (by kernel_rfl) (by kernel_rfl) (by kernel_rfl) fun a p h => by rw [← h]; exact run9 N a.1

/-! ### tiller/tillerref02.Mul: function 8 -/
noncomputable def c8 : Code := (Try.f8.body).getD .skip
noncomputable def T8 : Tb := ⟨tyOf tys, [(32, 5), (55, 5), (65, 5)], [67], wrNil⟩
noncomputable def G8 {R : Type} (N : Nat) : FuncId → List AV → (AV → Option R) → Option R := gCons 26 (gOf ad26 rd26 (F26 N)) (gNil)
theorem gok8 {R : Type} (N : Nat) : GOK Try.prog (G8 (R := R) N) := gCons_ok (ok26 N) (gNil_ok)
noncomputable def live8 : List (Nat × List (Nat × HK)) := [(3, [(0, .keep), (1, .keep), (5, .row .u32 50), (6, .keep)]), (7, [(0, .keep), (1, .keep), (5, .row .u32 50), (6, .keep), (7, .keep), (8, .keep)])]
noncomputable def ad8 : Ad (List Int × List Int × Unit) := aC (cLi .u32) (aC (cLi .u32) (a0))
noncomputable def rd8 : Rd (List Int) := r1 (cLi .u32)
noncomputable def st8_0 (v0 : List Int) (v1 : List Int) (v2 : Int) (v3 : List Int) : St := ⟨[AV.li .u32 v0, AV.li .u32 v1, AV.none, AV.none, AV.none, AV.own 5, AV.v (.int .i64 v2), AV.none, AV.none, AV.none, AV.none, AV.none, AV.none, AV.none, AV.none, AV.none, AV.none, AV.none, AV.none, AV.none, AV.none, AV.none, AV.none, AV.none, AV.none, AV.none, AV.none, AV.none, AV.none, AV.none, AV.none, AV.none, AV.none, AV.none, AV.none, AV.none, AV.none, AV.none, AV.none, AV.none, AV.none, AV.none, AV.none, AV.none, AV.none, AV.none, AV.none, AV.none, AV.none, AV.none, AV.none, AV.none, AV.none, AV.none, AV.none, AV.none, AV.none, AV.none, AV.none, AV.none, AV.none, AV.none, AV.none, AV.none, AV.none, AV.none, AV.none, AV.none], [none, none, none, none, none, some (OB.row .u32 50 v3), none, none, none, none, none, none, none, none, none, none, none, none, none, none, none, none, none, none, none, none, none, none, none, none, none, none, none, none, none, none, none, none, none, none, none, none, none, none, none, none, none, none, none, none, none, none, none, none, none, none, none, none, none, none, none, none, none, none, none, none, none, none]⟩
noncomputable def raw8_0 (N : Nat) (n : Nat) (v0 : List Int) (v1 : List Int) (v2 : Int) (v3 : List Int) : Option (List Int) := loopN (lookN live8 3) (exec T8 (G8 N) N live8 (cL (cL (cR (cL (cR (cR c8))))))) n (st8_0 v0 v1 v2 v3) (blockK 0 (seqK (exec T8 (G8 N) N live8 (cR (cR (cR c8)))) (retK T8 Try.f8.results.toList (rd8).dec)))
noncomputable def st8_1 (v0 : List Int) (v1 : List Int) (v2 : Int) (v3 : Int) (v4 : Int) (v5 : List Int) : St := ⟨[AV.li .u32 v0, AV.li .u32 v1, AV.none, AV.none, AV.none, AV.own 5, AV.v (.int .i64 v2), AV.v (.int .u64 v3), AV.v (.int .i64 v4), AV.none, AV.none, AV.none, AV.none, AV.none, AV.none, AV.none, AV.none, AV.none, AV.none, AV.none, AV.none, AV.none, AV.none, AV.none, AV.none, AV.none, AV.none, AV.none, AV.none, AV.none, AV.none, AV.none, AV.none, AV.none, AV.none, AV.none, AV.none, AV.none, AV.none, AV.none, AV.none, AV.none, AV.none, AV.none, AV.none, AV.none, AV.none, AV.none, AV.none, AV.none, AV.none, AV.none, AV.none, AV.none, AV.none, AV.none, AV.none, AV.none, AV.none, AV.none, AV.none, AV.none, AV.none, AV.none, AV.none, AV.none, AV.none, AV.none], [none, none, none, none, none, some (OB.row .u32 50 v5), none, none, none, none, none, none, none, none, none, none, none, none, none, none, none, none, none, none, none, none, none, none, none, none, none, none, none, none, none, none, none, none, none, none, none, none, none, none, none, none, none, none, none, none, none, none, none, none, none, none, none, none, none, none, none, none, none, none, none, none, none, none]⟩
noncomputable def raw8_1 (N : Nat) (m0 : Nat) (n : Nat) (v0 : List Int) (v1 : List Int) (v2 : Int) (v3 : Int) (v4 : Int) (v5 : List Int) : Option (List Int) := loopN (lookN live8 7) (exec T8 (G8 N) N live8 (cL (cL (cR (cL (cR (cL (cL (cR (cL (cL (cR (cL (cR (cR c8))))))))))))))) n (st8_1 v0 v1 v2 v3 v4 v5) (blockK 2 (seqK (exec T8 (G8 N) N live8 (cR (cR (cL (cL (cR (cL (cL (cR (cL (cR (cR c8)))))))))))) (blockK 1 (seqK (exec T8 (G8 N) N live8 (cR (cR (cL (cL (cR (cL (cR (cR c8))))))))) (roundK (fun s => loopN (lookN live8 3) (exec T8 (G8 N) N live8 (cL (cL (cR (cL (cR (cR c8))))))) m0 s (blockK 0 (seqK (exec T8 (G8 N) N live8 (cR (cR (cR c8)))) (retK T8 Try.f8.results.toList (rd8).dec)))) (lookN live8 3) (blockK 0 (seqK (exec T8 (G8 N) N live8 (cR (cR (cR c8)))) (retK T8 Try.f8.results.toList (rd8).dec))))))))
noncomputable def s8_1 (N : Nat) (Ln1 : List Int → List Int → Int → Int → Int → List Int → Option (List Int)) (Ln0 : List Int → List Int → Int → List Int → Option (List Int)) (v0 : List Int) (v1 : List Int) (v2 : Int) (v3 : Int) (v4 : Int) (v5 : List Int) : Option (List Int) :=
  cond (ltI v4 (v1.length : Int))
   (cond (leI 0 (addI .i64 v2 v4))
    (cond (ltI (addI .i64 v2 v4) (v5.length : Int))
     (cond (leI 0 v2)
      (cond (ltI v2 (v0.length : Int))
       (cond (leI 0 v4)
        (cond (ltI v4 (v1.length : Int))
         (cond (leI 0 (addI .i64 v2 v4))
          (cond (ltI (addI .i64 v2 v4) (v5.length : Int))
           (Ln1 v0 v1 v2 (quoI .u64 (addI .u64 (addI .u64 v3 (cvI .u64 (lrd v5 (addI .i64 v2 v4)))) (mulI .u64 (cvI .u64 (lrd v0 v2)) (cvI .u64 (lrd v1 v4)))) 65536) (addI .i64 v4 1) (v5.set ((addI .i64 v2 v4).toNat) (cvI .u32 (remI .u64 (addI .u64 (addI .u64 v3 (cvI .u64 (lrd v5 (addI .i64 v2 v4)))) (mulI .u64 (cvI .u64 (lrd v0 v2)) (cvI .u64 (lrd v1 v4)))) 65536))))
           (none))
          (none))
         (none))
        (none))
       (none))
      (none))
     (none))
    (none))
   (cond (leI 0 (addI .i64 v2 (v1.length : Int)))
    (cond (ltI (addI .i64 v2 (v1.length : Int)) (v5.length : Int))
     (Ln0 v0 v1 (addI .i64 v2 1) (v5.set ((addI .i64 v2 (v1.length : Int)).toNat) (cvI .u32 v3)))
     (none))
    (none))
theorem step8_1 (N : Nat) (m0 : Nat) (n : Nat) (v0 : List Int) (v1 : List Int) (v2 : Int) (v3 : Int) (v4 : Int) (v5 : List Int) : raw8_1 N m0 (n + 1) v0 v1 v2 v3 v4 v5 = s8_1 N (raw8_1 N m0 n) (raw8_0 N  m0) v0 v1 v2 v3 v4 v5 := by kernel_rfl
noncomputable def l8_1 (N : Nat) (E0 : List Int → List Int → Int → List Int → Option (List Int)) : Nat → List Int → List Int → Int → Int → Int → List Int → Option (List Int)
  | 0 => fun _ _ _ _ _ _ => none
  | n + 1 => fun v0 v1 v2 v3 v4 v5 => s8_1 N (l8_1 N E0 n) E0 v0 v1 v2 v3 v4 v5
theorem eq8_1 (N : Nat) (m0 : Nat) : ∀ n, raw8_1 N m0 n = l8_1 N (raw8_0 N  m0) n := by
  intro n
  induction n with
  | zero => exact funext fun v0 => funext fun v1 => funext fun v2 => funext fun v3 => funext fun v4 => funext fun v5 => rfl
  | succ n ih => exact funext fun v0 => funext fun v1 => funext fun v2 => funext fun v3 => funext fun v4 => funext fun v5 => by rw [step8_1, ih]; rfl
noncomputable def s8_0 (N : Nat) (Le1 : List Int → List Int → Int → Int → Int → List Int → Option (List Int)) (v0 : List Int) (v1 : List Int) (v2 : Int) (v3 : List Int) : Option (List Int) :=
  cond (ltI v2 (v0.length : Int))
   (Le1 v0 v1 v2 0 0 v3)
   ((fn_tillerref02_trim N v3).bind fun r1 =>
    some r1)
theorem step8_0 (N : Nat) (n : Nat) (v0 : List Int) (v1 : List Int) (v2 : Int) (v3 : List Int) : raw8_0 N  (n + 1) v0 v1 v2 v3 = s8_0 N (raw8_1 N n N) v0 v1 v2 v3 := by kernel_rfl
noncomputable def l8_0 (N : Nat) : Nat → List Int → List Int → Int → List Int → Option (List Int)
  | 0 => fun _ _ _ _ => none
  | n + 1 => fun v0 v1 v2 v3 => s8_0 N (l8_1 N (l8_0 N  n) N) v0 v1 v2 v3
theorem eq8_0 (N : Nat) : ∀ n, raw8_0 N  n = l8_0 N  n := by
  intro n
  induction n with
  | zero => exact funext fun v0 => funext fun v1 => funext fun v2 => funext fun v3 => rfl
  | succ n ih => exact funext fun v0 => funext fun v1 => funext fun v2 => funext fun v3 => by rw [step8_0, eq8_1 N n N, ih]; rfl
noncomputable def t8 (N : Nat) (Le0 : List Int → List Int → Int → List Int → Option (List Int)) (x0 : List Int) (x1 : List Int) : Option (List Int) :=
  cond (leI 0 (addI .i64 (x0.length : Int) (x1.length : Int)))
   (cond (leI (addI .i64 (x0.length : Int) (x1.length : Int)) 17592186044416)
    (Le0 x0 x1 0 (List.replicate ((addI .i64 (x0.length : Int) (x1.length : Int)).toNat) (0 : Int)))
    (none))
   (none)
noncomputable def fn_tillerref02_Mul (N : Nat) (x0 : List Int) (x1 : List Int) : Option (List Int) := t8 N (l8_0 N N) x0 x1
theorem run8 (N : Nat) (x0 : List Int) (x1 : List Int) : Eng.run T8 (G8 N) N live8 c8 Try.f8.results.toList Try.f8.ntmps ((ad8).enc (x0, x1, ())) (rd8).dec = fn_tillerref02_Mul N x0 x1 := by
  refine Eq.trans (show _ = t8 N (raw8_0 N N) x0 x1 from by kernel_rfl) ?_
  unfold fn_tillerref02_Mul
  rw [eq8_0 N N]
noncomputable def F8 (N : Nat) (a : List Int × List Int × Unit) : Option (List Int) := fn_tillerref02_Mul N a.1 a.2.1
theorem ok8 (N : Nat) : FnOK Try.prog 8 ad8 rd8 (F8 N) :=
  fn_ok (N := N) (live := live8) (code := c8) (tok T8.rt T8.kl (wrNil_ok)) mixed (gok8 N) Try.func8 (by kernel_rfl) (by kernel_rfl) (by kernel_rfl) fun a p h => by rw [← h]; exact run8 N a.1 a.2.1

/-! ### tiller/tillerref02.at: function 25 -/
noncomputable def c25 : Code := (Try.f25.body).getD .skip
noncomputable def T25 : Tb := ⟨tyOf tys, [], [], wrNil⟩
noncomputable def G25 {R : Type} (N : Nat) : FuncId → List AV → (AV → Option R) → Option R := gNil
theorem gok25 {R : Type} (N : Nat) : GOK Try.prog (G25 (R := R) N) := gNil_ok
noncomputable def live25 : List (Nat × List (Nat × HK)) := []
noncomputable def ad25 : Ad (List Int × Int × Unit) := aC (cLi .u32) (aC (cInt .i64) (a0))
noncomputable def rd25 : Rd (Int) := r1 (cInt .u32)
noncomputable def fn_tillerref02_at (N : Nat) (x0 : List Int) (x1 : Int) : Option (Int) :=
  cond (leI 0 x1)
   (cond (ltI x1 (x0.length : Int))
    (cond (leI 0 x1)
     (cond (ltI x1 (x0.length : Int))
      (some (lrd x0 x1))
      (none))
     (none))
    (some 0))
   (some 0)
theorem run25 (N : Nat) (x0 : List Int) (x1 : Int) : Eng.run T25 (G25 N) N live25 c25 Try.f25.results.toList Try.f25.ntmps ((ad25).enc (x0, x1, ())) (rd25).dec = fn_tillerref02_at N x0 x1 := by kernel_rfl
noncomputable def F25 (N : Nat) (a : List Int × Int × Unit) : Option (Int) := fn_tillerref02_at N a.1 a.2.1
theorem ok25 (N : Nat) : FnOK Try.prog 25 ad25 rd25 (F25 N) :=
  fn_ok (N := N) (live := live25) (code := c25) (tok T25.rt T25.kl (wrNil_ok)) mixed (gok25 N) Try.func25 (by kernel_rfl) (by kernel_rfl) (by kernel_rfl) fun a p h => by rw [← h]; exact run25 N a.1 a.2.1

/-! ### tiller/tillerref02.Shr: function 7 -/
noncomputable def c7 : Code := (Try.f7.body).getD .skip
noncomputable def T7 : Tb := ⟨tyOf tys, [], [87], wrNil⟩
noncomputable def G7 {R : Type} (N : Nat) : FuncId → List AV → (AV → Option R) → Option R := gCons 25 (gOf ad25 rd25 (F25 N)) (gCons 26 (gOf ad26 rd26 (F26 N)) (gNil))
theorem gok7 {R : Type} (N : Nat) : GOK Try.prog (G7 (R := R) N) := gCons_ok (ok25 N) (gCons_ok (ok26 N) (gNil_ok))
noncomputable def live7 : List (Nat × List (Nat × HK)) := [(6, [(0, .keep), (1, .keep), (6, .keep), (7, .keep), (8, .keep), (52, .keep), (53, .keep), (54, .keep), (55, .keep), (56, .keep), (57, .keep), (58, .keep)]), (13, [(0, .keep), (1, .keep), (6, .keep), (7, .keep), (9, .keep), (10, .keep), (52, .keep), (53, .keep), (54, .keep), (55, .keep), (56, .keep), (57, .keep), (58, .keep)]), (19, [(0, .keep), (6, .keep), (9, .keep), (11, .row .u32 50), (12, .keep)])]
noncomputable def ad7 : Ad (List Int × Int × Unit) := aC (cLi .u32) (aC (cInt .i64) (a0))
noncomputable def rd7 : Rd (List Int × Bool) := r2 (cLi .u32) (cBool)
noncomputable def st7_0 (v0 : List Int) (v1 : Int) (v2 : Bool) (v3 : Int) (v4 : Int) : St := ⟨[AV.li .u32 v0, AV.v (.int .i64 v1), AV.none, AV.none, AV.none, AV.none, AV.v (.bool v2), AV.v (.int .i64 v3), AV.v (.int .i64 v4), AV.none, AV.none, AV.none, AV.none, AV.none, AV.none, AV.none, AV.none, AV.none, AV.none, AV.none, AV.none, AV.none, AV.none, AV.none, AV.none, AV.none, AV.none, AV.none, AV.none, AV.none, AV.none, AV.none, AV.none, AV.none, AV.none, AV.none, AV.none, AV.none, AV.none, AV.none, AV.none, AV.none, AV.none, AV.none, AV.none, AV.none, AV.none, AV.none, AV.none, AV.none, AV.none, AV.none, AV.none, AV.none, AV.none, AV.none, AV.none, AV.none, AV.none, AV.none, AV.none, AV.none, AV.none, AV.none, AV.none, AV.none, AV.none, AV.none, AV.none, AV.none, AV.none, AV.none, AV.none, AV.none, AV.none, AV.none, AV.none, AV.none, AV.none, AV.none, AV.none, AV.none, AV.none, AV.none, AV.none, AV.none, AV.none, AV.none, AV.none], [none, none, none, none, none, none, none, none, none, none, none, none, none, none, none, none, none, none, none, none, none, none, none, none, none, none, none, none, none, none, none, none, none, none, none, none, none, none, none, none, none, none, none, none, none, none, none, none, none, none, none, none, none, none, none, none, none, none, none, none, none, none, none, none, none, none, none, none, none, none, none, none, none, none, none, none, none, none, none, none, none, none, none, none, none, none, none, none, none]⟩
noncomputable def raw7_0 (N : Nat) (n : Nat) (v0 : List Int) (v1 : Int) (v2 : Bool) (v3 : Int) (v4 : Int) : Option (List Int × Bool) := loopN (lookN live7 6) (exec T7 (G7 N) N live7 (cL (cL (cR (cL (cR (cR (cR (cR c7))))))))) n (st7_0 v0 v1 v2 v3 v4) (blockK 0 (seqK (exec T7 (G7 N) N live7 (cR (cR (cR (cR (cR c7)))))) (retK T7 Try.f7.results.toList (rd7).dec)))
noncomputable def st7_1 (v0 : List Int) (v1 : Int) (v2 : Bool) (v3 : Int) (v4 : Int) (v5 : Int) : St := ⟨[AV.li .u32 v0, AV.v (.int .i64 v1), AV.none, AV.none, AV.none, AV.none, AV.v (.bool v2), AV.v (.int .i64 v3), AV.none, AV.v (.int .u32 v4), AV.v (.int .i64 v5), AV.none, AV.none, AV.none, AV.none, AV.none, AV.none, AV.none, AV.none, AV.none, AV.none, AV.none, AV.none, AV.none, AV.none, AV.none, AV.none, AV.none, AV.none, AV.none, AV.none, AV.none, AV.none, AV.none, AV.none, AV.none, AV.none, AV.none, AV.none, AV.none, AV.none, AV.none, AV.none, AV.none, AV.none, AV.none, AV.none, AV.none, AV.none, AV.none, AV.none, AV.none, AV.none, AV.none, AV.none, AV.none, AV.none, AV.none, AV.none, AV.none, AV.none, AV.none, AV.none, AV.none, AV.none, AV.none, AV.none, AV.none, AV.none, AV.none, AV.none, AV.none, AV.none, AV.none, AV.none, AV.none, AV.none, AV.none, AV.none, AV.none, AV.none, AV.none, AV.none, AV.none, AV.none, AV.none, AV.none, AV.none, AV.none], [none, none, none, none, none, none, none, none, none, none, none, none, none, none, none, none, none, none, none, none, none, none, none, none, none, none, none, none, none, none, none, none, none, none, none, none, none, none, none, none, none, none, none, none, none, none, none, none, none, none, none, none, none, none, none, none, none, none, none, none, none, none, none, none, none, none, none, none, none, none, none, none, none, none, none, none, none, none, none, none, none, none, none, none, none, none, none, none, none]⟩
noncomputable def raw7_1 (N : Nat) (n : Nat) (v0 : List Int) (v1 : Int) (v2 : Bool) (v3 : Int) (v4 : Int) (v5 : Int) : Option (List Int × Bool) := loopN (lookN live7 13) (exec T7 (G7 N) N live7 (cL (cL (cR (cL (cR (cR (cR (cR (cR (cR (cR c7)))))))))))) n (st7_1 v0 v1 v2 v3 v4 v5) (blockK 2 (seqK (exec T7 (G7 N) N live7 (cR (cR (cR (cR (cR (cR (cR (cR c7))))))))) (retK T7 Try.f7.results.toList (rd7).dec)))
noncomputable def st7_2 (v0 : List Int) (v1 : Bool) (v2 : Int) (v3 : Int) (v4 : List Int) : St := ⟨[AV.li .u32 v0, AV.none, AV.none, AV.none, AV.none, AV.none, AV.v (.bool v1), AV.none, AV.none, AV.v (.int .u32 v2), AV.none, AV.own 11, AV.v (.int .i64 v3), AV.none, AV.none, AV.none, AV.none, AV.none, AV.none, AV.none, AV.none, AV.none, AV.none, AV.none, AV.none, AV.none, AV.none, AV.none, AV.none, AV.none, AV.none, AV.none, AV.none, AV.none, AV.none, AV.none, AV.none, AV.none, AV.none, AV.none, AV.none, AV.none, AV.none, AV.none, AV.none, AV.none, AV.none, AV.none, AV.none, AV.none, AV.none, AV.none, AV.none, AV.none, AV.none, AV.none, AV.none, AV.none, AV.none, AV.none, AV.none, AV.none, AV.none, AV.none, AV.none, AV.none, AV.none, AV.none, AV.none, AV.none, AV.none, AV.none, AV.none, AV.none, AV.none, AV.none, AV.none, AV.none, AV.none, AV.none, AV.none, AV.none, AV.none, AV.none, AV.none, AV.none, AV.none, AV.none, AV.none], [none, none, none, none, none, none, none, none, none, none, none, some (OB.row .u32 50 v4), none, none, none, none, none, none, none, none, none, none, none, none, none, none, none, none, none, none, none, none, none, none, none, none, none, none, none, none, none, none, none, none, none, none, none, none, none, none, none, none, none, none, none, none, none, none, none, none, none, none, none, none, none, none, none, none, none, none, none, none, none, none, none, none, none, none, none, none, none, none, none, none, none, none, none, none, none]⟩
noncomputable def raw7_2 (N : Nat) (n : Nat) (v0 : List Int) (v1 : Bool) (v2 : Int) (v3 : Int) (v4 : List Int) : Option (List Int × Bool) := loopN (lookN live7 19) (exec T7 (G7 N) N live7 (cL (cL (cR (cL (cR (cR (cR (cR (cR (cR (cR (cR (cR (cR c7))))))))))))))) n (st7_2 v0 v1 v2 v3 v4) (blockK 4 (seqK (exec T7 (G7 N) N live7 (cR (cR (cR (cR (cR (cR (cR (cR (cR (cR (cR c7)))))))))))) (retK T7 Try.f7.results.toList (rd7).dec)))
noncomputable def s7_2 (N : Nat) (Ln2 : List Int → Bool → Int → Int → List Int → Option (List Int × Bool)) (v0 : List Int) (v1 : Bool) (v2 : Int) (v3 : Int) (v4 : List Int) : Option (List Int × Bool) :=
  cond (ltI v3 (v0.length : Int))
   (cond (leI 0 v3)
    (cond (ltI v3 (v0.length : Int))
     (cond (eqI v2 0)
      (none)
      ((fn_tillerref02_at N v0 (addI .i64 v3 1)).bind fun r1 =>
       cond (eqI v2 0)
        (none)
        (cond (eqI v2 0)
         (none)
         (cond (fitL (v4.length + [addI .u32 (quoI .u32 (lrd v0 v3) v2) (mulI .u32 (remI .u32 r1 v2) (quoI .u32 65536 v2))].length))
          (Ln2 v0 v1 v2 (addI .i64 v3 1) (v4 ++ [addI .u32 (quoI .u32 (lrd v0 v3) v2) (mulI .u32 (remI .u32 r1 v2) (quoI .u32 65536 v2))]))
          (none)))))
     (none))
    (none))
   ((fn_tillerref02_trim N v4).bind fun r2 =>
    some (r2, v1))
theorem step7_2 (N : Nat) (n : Nat) (v0 : List Int) (v1 : Bool) (v2 : Int) (v3 : Int) (v4 : List Int) : raw7_2 N  (n + 1) v0 v1 v2 v3 v4 = s7_2 N (raw7_2 N  n) v0 v1 v2 v3 v4 := by kernel_rfl
noncomputable def l7_2 (N : Nat) : Nat → List Int → Bool → Int → Int → List Int → Option (List Int × Bool)
  | 0 => fun _ _ _ _ _ => none
  | n + 1 => fun v0 v1 v2 v3 v4 => s7_2 N (l7_2 N  n) v0 v1 v2 v3 v4
theorem eq7_2 (N : Nat) : ∀ n, raw7_2 N  n = l7_2 N  n := by
  intro n
  induction n with
  | zero => exact funext fun v0 => funext fun v1 => funext fun v2 => funext fun v3 => funext fun v4 => rfl
  | succ n ih => exact funext fun v0 => funext fun v1 => funext fun v2 => funext fun v3 => funext fun v4 => by rw [step7_2, ih]; rfl
noncomputable def s7_1 (N : Nat) (Ln1 : List Int → Int → Bool → Int → Int → Int → Option (List Int × Bool)) (Le2 : List Int → Bool → Int → Int → List Int → Option (List Int × Bool)) (v0 : List Int) (v1 : Int) (v2 : Bool) (v3 : Int) (v4 : Int) (v5 : Int) : Option (List Int × Bool) :=
  cond (ltI v5 (remI .i64 v1 16))
   (Ln1 v0 v1 v2 v3 (mulI .u32 2 v4) (addI .i64 v5 1))
   (cond v2
    (Le2 v0 true v4 v3 [])
    (cond (leI 0 v3)
     (cond (ltI v3 (v0.length : Int))
      (cond (eqI v4 0)
       (none)
       (Le2 v0 (!(eqI (remI .u32 (lrd v0 v3) v4) 0)) v4 v3 []))
      (none))
     (none)))
theorem step7_1 (N : Nat) (n : Nat) (v0 : List Int) (v1 : Int) (v2 : Bool) (v3 : Int) (v4 : Int) (v5 : Int) : raw7_1 N  (n + 1) v0 v1 v2 v3 v4 v5 = s7_1 N (raw7_1 N  n) (raw7_2 N  N) v0 v1 v2 v3 v4 v5 := by kernel_rfl
noncomputable def l7_1 (N : Nat) : Nat → List Int → Int → Bool → Int → Int → Int → Option (List Int × Bool)
  | 0 => fun _ _ _ _ _ _ => none
  | n + 1 => fun v0 v1 v2 v3 v4 v5 => s7_1 N (l7_1 N  n) (l7_2 N  N) v0 v1 v2 v3 v4 v5
theorem eq7_1 (N : Nat) : ∀ n, raw7_1 N  n = l7_1 N  n := by
  intro n
  induction n with
  | zero => exact funext fun v0 => funext fun v1 => funext fun v2 => funext fun v3 => funext fun v4 => funext fun v5 => rfl
  | succ n ih => exact funext fun v0 => funext fun v1 => funext fun v2 => funext fun v3 => funext fun v4 => funext fun v5 => by rw [step7_1, eq7_2 N  N, ih]; rfl
noncomputable def s7_0 (N : Nat) (Ln0 : List Int → Int → Bool → Int → Int → Option (List Int × Bool)) (Le1 : List Int → Int → Bool → Int → Int → Int → Option (List Int × Bool)) (v0 : List Int) (v1 : Int) (v2 : Bool) (v3 : Int) (v4 : Int) : Option (List Int × Bool) :=
  cond (ltI v4 v3)
   (cond (ltI v4 (v0.length : Int))
    (cond v2
     (Ln0 v0 v1 true v3 (addI .i64 v4 1))
     (cond (leI 0 v4)
      (cond (ltI v4 (v0.length : Int))
       (Ln0 v0 v1 (!(eqI (lrd v0 v4) 0)) v3 (addI .i64 v4 1))
       (none))
      (none)))
    (cond (leI (v0.length : Int) v3)
     (some ([], v2))
     (Le1 v0 v1 v2 v3 1 0)))
   (cond (leI (v0.length : Int) v3)
    (some ([], v2))
    (Le1 v0 v1 v2 v3 1 0))
theorem step7_0 (N : Nat) (n : Nat) (v0 : List Int) (v1 : Int) (v2 : Bool) (v3 : Int) (v4 : Int) : raw7_0 N  (n + 1) v0 v1 v2 v3 v4 = s7_0 N (raw7_0 N  n) (raw7_1 N  N) v0 v1 v2 v3 v4 := by kernel_rfl
noncomputable def l7_0 (N : Nat) : Nat → List Int → Int → Bool → Int → Int → Option (List Int × Bool)
  | 0 => fun _ _ _ _ _ => none
  | n + 1 => fun v0 v1 v2 v3 v4 => s7_0 N (l7_0 N  n) (l7_1 N  N) v0 v1 v2 v3 v4
theorem eq7_0 (N : Nat) : ∀ n, raw7_0 N  n = l7_0 N  n := by
  intro n
  induction n with
  | zero => exact funext fun v0 => funext fun v1 => funext fun v2 => funext fun v3 => funext fun v4 => rfl
  | succ n ih => exact funext fun v0 => funext fun v1 => funext fun v2 => funext fun v3 => funext fun v4 => by rw [step7_0, eq7_1 N  N, ih]; rfl
noncomputable def t7 (N : Nat) (Le0 : List Int → Int → Bool → Int → Int → Option (List Int × Bool)) (x0 : List Int) (x1 : Int) : Option (List Int × Bool) :=
  cond (leI x1 0)
   (some (x0, false))
   (Le0 x0 x1 false (quoI .i64 x1 16) 0)
noncomputable def fn_tillerref02_Shr (N : Nat) (x0 : List Int) (x1 : Int) : Option (List Int × Bool) := t7 N (l7_0 N N) x0 x1
theorem run7 (N : Nat) (x0 : List Int) (x1 : Int) : Eng.run T7 (G7 N) N live7 c7 Try.f7.results.toList Try.f7.ntmps ((ad7).enc (x0, x1, ())) (rd7).dec = fn_tillerref02_Shr N x0 x1 := by
  refine Eq.trans (show _ = t7 N (raw7_0 N N) x0 x1 from by kernel_rfl) ?_
  unfold fn_tillerref02_Shr
  rw [eq7_0 N N]
noncomputable def F7 (N : Nat) (a : List Int × Int × Unit) : Option (List Int × Bool) := fn_tillerref02_Shr N a.1 a.2.1
theorem ok7 (N : Nat) : FnOK Try.prog 7 ad7 rd7 (F7 N) :=
  fn_ok (N := N) (live := live7) (code := c7) (tok T7.rt T7.kl (wrNil_ok)) mixed (gok7 N) Try.func7 (by kernel_rfl) (by kernel_rfl) (by kernel_rfl) fun a p h => by rw [← h]; exact run7 N a.1 a.2.1

/-! ### tiller/tillerref02.Shl: function 11 -/
noncomputable def c11 : Code := (Try.f11.body).getD .skip
noncomputable def T11 : Tb := ⟨tyOf tys, [], [49], wrNil⟩
noncomputable def G11 {R : Type} (N : Nat) : FuncId → List AV → (AV → Option R) → Option R := gCons 26 (gOf ad26 rd26 (F26 N)) (gNil)
theorem gok11 {R : Type} (N : Nat) : GOK Try.prog (G11 (R := R) N) := gCons_ok (ok26 N) (gNil_ok)
noncomputable def live11 : List (Nat × List (Nat × HK)) := [(6, [(0, .keep), (1, .keep), (5, .row .u32 50), (6, .keep), (7, .keep)]), (11, [(0, .keep), (5, .row .u32 50), (6, .keep), (8, .keep), (9, .keep)])]
noncomputable def ad11 : Ad (List Int × Int × Unit) := aC (cLi .u32) (aC (cInt .i64) (a0))
noncomputable def rd11 : Rd (List Int) := r1 (cLi .u32)
noncomputable def st11_0 (v0 : List Int) (v1 : Int) (v2 : Int) (v3 : Int) (v4 : List Int) : St := ⟨[AV.li .u32 v0, AV.v (.int .i64 v1), AV.none, AV.none, AV.none, AV.own 5, AV.v (.int .u32 v2), AV.v (.int .i64 v3), AV.none, AV.none, AV.none, AV.none, AV.none, AV.none, AV.none, AV.none, AV.none, AV.none, AV.none, AV.none, AV.none, AV.none, AV.none, AV.none, AV.none, AV.none, AV.none, AV.none, AV.none, AV.none, AV.none, AV.none, AV.none, AV.none, AV.none, AV.none, AV.none, AV.none, AV.none, AV.none, AV.none, AV.none, AV.none, AV.none, AV.none, AV.none, AV.none, AV.none, AV.none, AV.none], [none, none, none, none, none, some (OB.row .u32 50 v4), none, none, none, none, none, none, none, none, none, none, none, none, none, none, none, none, none, none, none, none, none, none, none, none, none, none, none, none, none, none, none, none, none, none, none, none, none, none, none, none, none, none, none, none]⟩
noncomputable def raw11_0 (N : Nat) (n : Nat) (v0 : List Int) (v1 : Int) (v2 : Int) (v3 : Int) (v4 : List Int) : Option (List Int) := loopN (lookN live11 6) (exec T11 (G11 N) N live11 (cL (cL (cR (cL (cR (cR (cR (cR c11))))))))) n (st11_0 v0 v1 v2 v3 v4) (blockK 0 (seqK (exec T11 (G11 N) N live11 (cR (cR (cR (cR (cR c11)))))) (retK T11 Try.f11.results.toList (rd11).dec)))
noncomputable def st11_1 (v0 : List Int) (v1 : Int) (v2 : Int) (v3 : Int) (v4 : List Int) : St := ⟨[AV.li .u32 v0, AV.none, AV.none, AV.none, AV.none, AV.own 5, AV.v (.int .u32 v1), AV.none, AV.v (.int .u32 v2), AV.v (.int .i64 v3), AV.none, AV.none, AV.none, AV.none, AV.none, AV.none, AV.none, AV.none, AV.none, AV.none, AV.none, AV.none, AV.none, AV.none, AV.none, AV.none, AV.none, AV.none, AV.none, AV.none, AV.none, AV.none, AV.none, AV.none, AV.none, AV.none, AV.none, AV.none, AV.none, AV.none, AV.none, AV.none, AV.none, AV.none, AV.none, AV.none, AV.none, AV.none, AV.none, AV.none], [none, none, none, none, none, some (OB.row .u32 50 v4), none, none, none, none, none, none, none, none, none, none, none, none, none, none, none, none, none, none, none, none, none, none, none, none, none, none, none, none, none, none, none, none, none, none, none, none, none, none, none, none, none, none, none, none]⟩
noncomputable def raw11_1 (N : Nat) (n : Nat) (v0 : List Int) (v1 : Int) (v2 : Int) (v3 : Int) (v4 : List Int) : Option (List Int) := loopN (lookN live11 11) (exec T11 (G11 N) N live11 (cL (cL (cR (cL (cR (cR (cR (cR (cR (cR c11))))))))))) n (st11_1 v0 v1 v2 v3 v4) (blockK 2 (seqK (exec T11 (G11 N) N live11 (cR (cR (cR (cR (cR (cR (cR c11)))))))) (retK T11 Try.f11.results.toList (rd11).dec)))
noncomputable def s11_1 (N : Nat) (Ln1 : List Int → Int → Int → Int → List Int → Option (List Int)) (v0 : List Int) (v1 : Int) (v2 : Int) (v3 : Int) (v4 : List Int) : Option (List Int) :=
  cond (ltI v3 (v0.length : Int))
   (cond (leI 0 v3)
    (cond (ltI v3 (v0.length : Int))
     (cond (fitL (v4.length + [remI .u32 (addI .u32 v2 (mulI .u32 (lrd v0 v3) v1)) 65536].length))
      (Ln1 v0 v1 (quoI .u32 (addI .u32 v2 (mulI .u32 (lrd v0 v3) v1)) 65536) (addI .i64 v3 1) (v4 ++ [remI .u32 (addI .u32 v2 (mulI .u32 (lrd v0 v3) v1)) 65536]))
      (none))
     (none))
    (none))
   (cond (fitL (v4.length + [v2].length))
    ((fn_tillerref02_trim N (v4 ++ [v2])).bind fun r1 =>
     some r1)
    (none))
theorem step11_1 (N : Nat) (n : Nat) (v0 : List Int) (v1 : Int) (v2 : Int) (v3 : Int) (v4 : List Int) : raw11_1 N  (n + 1) v0 v1 v2 v3 v4 = s11_1 N (raw11_1 N  n) v0 v1 v2 v3 v4 := by kernel_rfl
noncomputable def l11_1 (N : Nat) : Nat → List Int → Int → Int → Int → List Int → Option (List Int)
  | 0 => fun _ _ _ _ _ => none
  | n + 1 => fun v0 v1 v2 v3 v4 => s11_1 N (l11_1 N  n) v0 v1 v2 v3 v4
theorem eq11_1 (N : Nat) : ∀ n, raw11_1 N  n = l11_1 N  n := by
  intro n
  induction n with
  | zero => exact funext fun v0 => funext fun v1 => funext fun v2 => funext fun v3 => funext fun v4 => rfl
  | succ n ih => exact funext fun v0 => funext fun v1 => funext fun v2 => funext fun v3 => funext fun v4 => by rw [step11_1, ih]; rfl
noncomputable def s11_0 (N : Nat) (Ln0 : List Int → Int → Int → Int → List Int → Option (List Int)) (Le1 : List Int → Int → Int → Int → List Int → Option (List Int)) (v0 : List Int) (v1 : Int) (v2 : Int) (v3 : Int) (v4 : List Int) : Option (List Int) :=
  cond (ltI v3 (remI .i64 v1 16))
   (Ln0 v0 v1 (mulI .u32 2 v2) (addI .i64 v3 1) v4)
   (Le1 v0 v2 0 0 v4)
theorem step11_0 (N : Nat) (n : Nat) (v0 : List Int) (v1 : Int) (v2 : Int) (v3 : Int) (v4 : List Int) : raw11_0 N  (n + 1) v0 v1 v2 v3 v4 = s11_0 N (raw11_0 N  n) (raw11_1 N  N) v0 v1 v2 v3 v4 := by kernel_rfl
noncomputable def l11_0 (N : Nat) : Nat → List Int → Int → Int → Int → List Int → Option (List Int)
  | 0 => fun _ _ _ _ _ => none
  | n + 1 => fun v0 v1 v2 v3 v4 => s11_0 N (l11_0 N  n) (l11_1 N  N) v0 v1 v2 v3 v4
theorem eq11_0 (N : Nat) : ∀ n, raw11_0 N  n = l11_0 N  n := by
  intro n
  induction n with
  | zero => exact funext fun v0 => funext fun v1 => funext fun v2 => funext fun v3 => funext fun v4 => rfl
  | succ n ih => exact funext fun v0 => funext fun v1 => funext fun v2 => funext fun v3 => funext fun v4 => by rw [step11_0, eq11_1 N  N, ih]; rfl
noncomputable def t11 (N : Nat) (Le0 : List Int → Int → Int → Int → List Int → Option (List Int)) (x0 : List Int) (x1 : Int) : Option (List Int) :=
  cond (eqI (x0.length : Int) 0)
   (some [])
   (cond (leI 0 (quoI .i64 x1 16))
    (cond (leI (quoI .i64 x1 16) 17592186044416)
     (Le0 x0 x1 1 0 (List.replicate ((quoI .i64 x1 16).toNat) (0 : Int)))
     (none))
    (none))
noncomputable def fn_tillerref02_Shl (N : Nat) (x0 : List Int) (x1 : Int) : Option (List Int) := t11 N (l11_0 N N) x0 x1
theorem run11 (N : Nat) (x0 : List Int) (x1 : Int) : Eng.run T11 (G11 N) N live11 c11 Try.f11.results.toList Try.f11.ntmps ((ad11).enc (x0, x1, ())) (rd11).dec = fn_tillerref02_Shl N x0 x1 := by
  refine Eq.trans (show _ = t11 N (raw11_0 N N) x0 x1 from by kernel_rfl) ?_
  unfold fn_tillerref02_Shl
  rw [eq11_0 N N]
noncomputable def F11 (N : Nat) (a : List Int × Int × Unit) : Option (List Int) := fn_tillerref02_Shl N a.1 a.2.1
theorem ok11 (N : Nat) : FnOK Try.prog 11 ad11 rd11 (F11 N) :=
  fn_ok (N := N) (live := live11) (code := c11) (tok T11.rt T11.kl (wrNil_ok)) mixed (gok11 N) Try.func11 (by kernel_rfl) (by kernel_rfl) (by kernel_rfl) fun a p h => by rw [← h]; exact run11 N a.1 a.2.1

/-! ### tiller/tillerref02.Sub: function 10 -/
noncomputable def c10 : Code := (Try.f10.body).getD .skip
noncomputable def T10 : Tb := ⟨tyOf tys, [], [34], wrNil⟩
noncomputable def G10 {R : Type} (N : Nat) : FuncId → List AV → (AV → Option R) → Option R := gCons 25 (gOf ad25 rd25 (F25 N)) (gCons 26 (gOf ad26 rd26 (F26 N)) (gNil))
theorem gok10 {R : Type} (N : Nat) : GOK Try.prog (G10 (R := R) N) := gCons_ok (ok25 N) (gCons_ok (ok26 N) (gNil_ok))
noncomputable def live10 : List (Nat × List (Nat × HK)) := [(4, [(0, .keep), (1, .keep), (5, .row .u32 50), (6, .keep), (7, .keep)])]
noncomputable def ad10 : Ad (List Int × List Int × Unit) := aC (cLi .u32) (aC (cLi .u32) (a0))
noncomputable def rd10 : Rd (List Int) := r1 (cLi .u32)
noncomputable def st10_0 (v0 : List Int) (v1 : List Int) (v2 : Int) (v3 : Int) (v4 : List Int) : St := ⟨[AV.li .u32 v0, AV.li .u32 v1, AV.none, AV.none, AV.none, AV.own 5, AV.v (.int .u32 v2), AV.v (.int .i64 v3), AV.none, AV.none, AV.none, AV.none, AV.none, AV.none, AV.none, AV.none, AV.none, AV.none, AV.none, AV.none, AV.none, AV.none, AV.none, AV.none, AV.none, AV.none, AV.none, AV.none, AV.none, AV.none, AV.none, AV.none, AV.none, AV.none, AV.none], [none, none, none, none, none, some (OB.row .u32 50 v4), none, none, none, none, none, none, none, none, none, none, none, none, none, none, none, none, none, none, none, none, none, none, none, none, none, none, none, none, none]⟩
noncomputable def raw10_0 (N : Nat) (n : Nat) (v0 : List Int) (v1 : List Int) (v2 : Int) (v3 : Int) (v4 : List Int) : Option (List Int) := loopN (lookN live10 4) (exec T10 (G10 N) N live10 (cL (cL (cR (cL (cR (cR (cR c10)))))))) n (st10_0 v0 v1 v2 v3 v4) (blockK 0 (seqK (exec T10 (G10 N) N live10 (cR (cR (cR (cR c10))))) (retK T10 Try.f10.results.toList (rd10).dec)))
noncomputable def s10_0 (N : Nat) (Ln0 : List Int → List Int → Int → Int → List Int → Option (List Int)) (v0 : List Int) (v1 : List Int) (v2 : Int) (v3 : Int) (v4 : List Int) : Option (List Int) :=
  cond (ltI v3 (v0.length : Int))
   ((fn_tillerref02_at N v0 v3).bind fun r1 =>
    (fn_tillerref02_at N v1 v3).bind fun r2 =>
     cond (fitL (v4.length + [remI .u32 (subI .u32 (subI .u32 (addI .u32 65536 r1) r2) v2) 65536].length))
      (Ln0 v0 v1 (subI .u32 1 (quoI .u32 (subI .u32 (subI .u32 (addI .u32 65536 r1) r2) v2) 65536)) (addI .i64 v3 1) (v4 ++ [remI .u32 (subI .u32 (subI .u32 (addI .u32 65536 r1) r2) v2) 65536]))
      (none))
   ((fn_tillerref02_trim N v4).bind fun r3 =>
    some r3)
theorem step10_0 (N : Nat) (n : Nat) (v0 : List Int) (v1 : List Int) (v2 : Int) (v3 : Int) (v4 : List Int) : raw10_0 N  (n + 1) v0 v1 v2 v3 v4 = s10_0 N (raw10_0 N  n) v0 v1 v2 v3 v4 := by kernel_rfl
noncomputable def l10_0 (N : Nat) : Nat → List Int → List Int → Int → Int → List Int → Option (List Int)
  | 0 => fun _ _ _ _ _ => none
  | n + 1 => fun v0 v1 v2 v3 v4 => s10_0 N (l10_0 N  n) v0 v1 v2 v3 v4
theorem eq10_0 (N : Nat) : ∀ n, raw10_0 N  n = l10_0 N  n := by
  intro n
  induction n with
  | zero => exact funext fun v0 => funext fun v1 => funext fun v2 => funext fun v3 => funext fun v4 => rfl
  | succ n ih => exact funext fun v0 => funext fun v1 => funext fun v2 => funext fun v3 => funext fun v4 => by rw [step10_0, ih]; rfl
noncomputable def t10 (N : Nat) (Le0 : List Int → List Int → Int → Int → List Int → Option (List Int)) (x0 : List Int) (x1 : List Int) : Option (List Int) :=
  Le0 x0 x1 0 0 []
noncomputable def fn_tillerref02_Sub (N : Nat) (x0 : List Int) (x1 : List Int) : Option (List Int) := t10 N (l10_0 N N) x0 x1
theorem run10 (N : Nat) (x0 : List Int) (x1 : List Int) : Eng.run T10 (G10 N) N live10 c10 Try.f10.results.toList Try.f10.ntmps ((ad10).enc (x0, x1, ())) (rd10).dec = fn_tillerref02_Sub N x0 x1 := by
  refine Eq.trans (show _ = t10 N (raw10_0 N N) x0 x1 from by kernel_rfl) ?_
  unfold fn_tillerref02_Sub
  rw [eq10_0 N N]
noncomputable def F10 (N : Nat) (a : List Int × List Int × Unit) : Option (List Int) := fn_tillerref02_Sub N a.1 a.2.1
theorem ok10 (N : Nat) : FnOK Try.prog 10 ad10 rd10 (F10 N) :=
  fn_ok (N := N) (live := live10) (code := c10) (tok T10.rt T10.kl (wrNil_ok)) mixed (gok10 N) Try.func10 (by kernel_rfl) (by kernel_rfl) (by kernel_rfl) fun a p h => by rw [← h]; exact run10 N a.1 a.2.1

/-! ### tiller/tillerref02.Cmp: function 12 -/
noncomputable def c12 : Code := (Try.f12.body).getD .skip
noncomputable def T12 : Tb := ⟨tyOf tys, [], [], wrNil⟩
noncomputable def G12 {R : Type} (N : Nat) : FuncId → List AV → (AV → Option R) → Option R := gCons 25 (gOf ad25 rd25 (F25 N)) (gNil)
theorem gok12 {R : Type} (N : Nat) : GOK Try.prog (G12 (R := R) N) := gCons_ok (ok25 N) (gNil_ok)
noncomputable def live12 : List (Nat × List (Nat × HK)) := [(2, [(0, .keep), (1, .keep), (5, .keep)])]
noncomputable def ad12 : Ad (List Int × List Int × Unit) := aC (cLi .u32) (aC (cLi .u32) (a0))
noncomputable def rd12 : Rd (Int) := r1 (cInt .i64)
noncomputable def st12_0 (v0 : List Int) (v1 : List Int) (v2 : Int) : St := ⟨[AV.li .u32 v0, AV.li .u32 v1, AV.none, AV.none, AV.none, AV.v (.int .i64 v2), AV.none, AV.none, AV.none, AV.none, AV.none, AV.none, AV.none, AV.none, AV.none, AV.none, AV.none, AV.none, AV.none, AV.none, AV.none, AV.none, AV.none, AV.none, AV.none, AV.none, AV.none, AV.none, AV.none, AV.none], [none, none, none, none, none, none, none, none, none, none, none, none, none, none, none, none, none, none, none, none, none, none, none, none, none, none, none, none, none, none]⟩
noncomputable def raw12_0 (N : Nat) (n : Nat) (v0 : List Int) (v1 : List Int) (v2 : Int) : Option (Int) := loopN (lookN live12 2) (exec T12 (G12 N) N live12 (cL (cL (cR (cL (cR c12)))))) n (st12_0 v0 v1 v2) (blockK 0 (seqK (exec T12 (G12 N) N live12 (cR (cR c12))) (retK T12 Try.f12.results.toList (rd12).dec)))
noncomputable def s12_0 (N : Nat) (Ln0 : List Int → List Int → Int → Option (Int)) (v0 : List Int) (v1 : List Int) (v2 : Int) : Option (Int) :=
  cond (leI 0 v2)
   ((fn_tillerref02_at N v0 v2).bind fun r1 =>
    (fn_tillerref02_at N v1 v2).bind fun r2 =>
     cond (ltI r1 r2)
      (some (-1))
      ((fn_tillerref02_at N v0 v2).bind fun r3 =>
       (fn_tillerref02_at N v1 v2).bind fun r4 =>
        cond (ltI r4 r3)
         (some 1)
         (Ln0 v0 v1 (subI .i64 v2 1))))
   (some 0)
theorem step12_0 (N : Nat) (n : Nat) (v0 : List Int) (v1 : List Int) (v2 : Int) : raw12_0 N  (n + 1) v0 v1 v2 = s12_0 N (raw12_0 N  n) v0 v1 v2 := by kernel_rfl
noncomputable def l12_0 (N : Nat) : Nat → List Int → List Int → Int → Option (Int)
  | 0 => fun _ _ _ => none
  | n + 1 => fun v0 v1 v2 => s12_0 N (l12_0 N  n) v0 v1 v2
theorem eq12_0 (N : Nat) : ∀ n, raw12_0 N  n = l12_0 N  n := by
  intro n
  induction n with
  | zero => exact funext fun v0 => funext fun v1 => funext fun v2 => rfl
  | succ n ih => exact funext fun v0 => funext fun v1 => funext fun v2 => by rw [step12_0, ih]; rfl
noncomputable def t12 (N : Nat) (Le0 : List Int → List Int → Int → Option (Int)) (x0 : List Int) (x1 : List Int) : Option (Int) :=
  Le0 x0 x1 (subI .i64 (maxI (x0.length : Int) (x1.length : Int)) 1)
noncomputable def fn_tillerref02_Cmp (N : Nat) (x0 : List Int) (x1 : List Int) : Option (Int) := t12 N (l12_0 N N) x0 x1
theorem run12 (N : Nat) (x0 : List Int) (x1 : List Int) : Eng.run T12 (G12 N) N live12 c12 Try.f12.results.toList Try.f12.ntmps ((ad12).enc (x0, x1, ())) (rd12).dec = fn_tillerref02_Cmp N x0 x1 := by
  refine Eq.trans (show _ = t12 N (raw12_0 N N) x0 x1 from by kernel_rfl) ?_
  unfold fn_tillerref02_Cmp
  rw [eq12_0 N N]
noncomputable def F12 (N : Nat) (a : List Int × List Int × Unit) : Option (Int) := fn_tillerref02_Cmp N a.1 a.2.1
theorem ok12 (N : Nat) : FnOK Try.prog 12 ad12 rd12 (F12 N) :=
  fn_ok (N := N) (live := live12) (code := c12) (tok T12.rt T12.kl (wrNil_ok)) mixed (gok12 N) Try.func12 (by kernel_rfl) (by kernel_rfl) (by kernel_rfl) fun a p h => by rw [← h]; exact run12 N a.1 a.2.1

/-! ### tiller/wide.Of: function 36 -/
noncomputable def c36 : Code := (Try.f36.body).getD .skip
noncomputable def T36 : Tb := ⟨tyOf tys, [], [], wrNil⟩
noncomputable def G36 {R : Type} (N : Nat) : FuncId → List AV → (AV → Option R) → Option R := gNil
theorem gok36 {R : Type} (N : Nat) : GOK Try.prog (G36 (R := R) N) := gNil_ok
noncomputable def live36 : List (Nat × List (Nat × HK)) := []
noncomputable def ad36 : Ad (Int × Unit) := aC (cInt .u64) (a0)
noncomputable def rd36 : Rd (Vec 4) := r1 (cVec .u64 4)
noncomputable def fn_wide_Of (N : Nat) (x0 : Int) : Option (Vec 4) :=
  some (Vec.st (Vec.zero 4) 0 x0)
theorem run36 (N : Nat) (x0 : Int) : Eng.run T36 (G36 N) N live36 c36 Try.f36.results.toList Try.f36.ntmps ((ad36).enc (x0, ())) (rd36).dec = fn_wide_Of N x0 := by kernel_rfl
noncomputable def F36 (N : Nat) (a : Int × Unit) : Option (Vec 4) := fn_wide_Of N a.1
theorem ok36 (N : Nat) : FnOK Try.prog 36 ad36 rd36 (F36 N) :=
  fn_ok (N := N) (live := live36) (code := c36) (tok T36.rt T36.kl (wrNil_ok)) mixed (gok36 N) Try.func36 (by kernel_rfl) (by kernel_rfl) (by kernel_rfl) fun a p h => by rw [← h]; exact run36 N a.1

/-! ### tiller/wide.Sub: function 37 -/
noncomputable def c37 : Code := (Try.f37.body).getD .skip
noncomputable def T37 : Tb := ⟨tyOf tys, [(14, 2), (17, 3), (23, 2)], [], wrNil⟩
noncomputable def G37 {R : Type} (N : Nat) : FuncId → List AV → (AV → Option R) → Option R := gCons 38 (gOf (aI3 .u64) (r2 (cInt .u64) (cInt .u64)) (fun a => sub64 a.1 a.2.1 a.2.2.1)) (gNil)
theorem gok37 {R : Type} (N : Nat) : GOK Try.prog (G37 (R := R) N) := gCons_ok (sub64_ok Try.func38 (by kernel_rfl) (by kernel_rfl) (by kernel_rfl) (by kernel_rfl)) (gNil_ok)
noncomputable def live37 : List (Nat × List (Nat × HK)) := [(3, [(2, .keep), (3, .keep), (4, .keep), (6, .keep), (8, .keep)])]
noncomputable def ad37 : Ad (Vec 4 × Vec 4 × Unit) := aC (cVec .u64 4) (aC (cVec .u64 4) (a0))
noncomputable def rd37 : Rd (Vec 4 × Bool) := r2 (cVec .u64 4) (cBool)
noncomputable def st37_0 (v0 : Int) (v1 : Int) (v2 : Vec 4) (v3 : Vec 4) (v4 : Vec 4) : St := ⟨[AV.none, AV.none, AV.ptr 2 0, AV.ptr 3 0, AV.ptr 4 0, AV.none, AV.v (.int .u64 v0), AV.none, AV.v (.int .i64 v1), AV.none, AV.none, AV.none, AV.none, AV.none, AV.none, AV.none, AV.none, AV.none, AV.none, AV.none, AV.none, AV.none, AV.none, AV.none, AV.none, AV.none, AV.none, AV.none], [none, none, some (OB.arr .u64 4 v2), some (OB.arr .u64 4 v3), some (OB.arr .u64 4 v4), none, none, none, none, none, none, none, none, none, none, none, none, none, none, none, none, none, none, none, none, none, none, none]⟩
noncomputable def raw37_0 (N : Nat) (n : Nat) (v0 : Int) (v1 : Int) (v2 : Vec 4) (v3 : Vec 4) (v4 : Vec 4) : Option (Vec 4 × Bool) := loopN (lookN live37 3) (exec T37 (G37 N) N live37 (cL (cL (cR (cL (cR (cR c37))))))) n (st37_0 v0 v1 v2 v3 v4) (blockK 0 (seqK (exec T37 (G37 N) N live37 (cR (cR (cR c37)))) (retK T37 Try.f37.results.toList (rd37).dec)))
noncomputable def s37_0 (N : Nat) (Ln0 : Int → Int → Vec 4 → Vec 4 → Vec 4 → Option (Vec 4 × Bool)) (v0 : Int) (v1 : Int) (v2 : Vec 4) (v3 : Vec 4) (v4 : Vec 4) : Option (Vec 4 × Bool) :=
  cond (ltI v1 4)
   (cond (leI 0 v1)
    (cond (ltI v1 4)
     (cond (leI 0 v1)
      (cond (ltI v1 4)
       ((sub64 (Vec.rd v2 v1) (Vec.rd v3 v1) v0).bind fun r1 =>
        cond (leI 0 v1)
         (cond (ltI v1 4)
          (Ln0 r1.2 (addI .i64 v1 1) (Vec.st v2 v1 r1.1) v3 v4)
          (none))
         (none))
       (none))
      (none))
     (none))
    (none))
   (some (v2, !(eqI v0 0)))
theorem step37_0 (N : Nat) (n : Nat) (v0 : Int) (v1 : Int) (v2 : Vec 4) (v3 : Vec 4) (v4 : Vec 4) : raw37_0 N  (n + 1) v0 v1 v2 v3 v4 = s37_0 N (raw37_0 N  n) v0 v1 v2 v3 v4 := by kernel_rfl
noncomputable def l37_0 (N : Nat) : Nat → Int → Int → Vec 4 → Vec 4 → Vec 4 → Option (Vec 4 × Bool)
  | 0 => fun _ _ _ _ _ => none
  | n + 1 => fun v0 v1 v2 v3 v4 => s37_0 N (l37_0 N  n) v0 v1 v2 v3 v4
theorem eq37_0 (N : Nat) : ∀ n, raw37_0 N  n = l37_0 N  n := by
  intro n
  induction n with
  | zero => exact funext fun v0 => funext fun v1 => funext fun v2 => funext fun v3 => funext fun v4 => rfl
  | succ n ih => exact funext fun v0 => funext fun v1 => funext fun v2 => funext fun v3 => funext fun v4 => by rw [step37_0, ih]; rfl
noncomputable def t37 (N : Nat) (Le0 : Int → Int → Vec 4 → Vec 4 → Vec 4 → Option (Vec 4 × Bool)) (x0 : Vec 4) (x1 : Vec 4) : Option (Vec 4 × Bool) :=
  Le0 0 0 x0 x1 (Vec.zero 4)
noncomputable def fn_wide_Sub (N : Nat) (x0 : Vec 4) (x1 : Vec 4) : Option (Vec 4 × Bool) := t37 N (l37_0 N N) x0 x1
theorem run37 (N : Nat) (x0 : Vec 4) (x1 : Vec 4) : Eng.run T37 (G37 N) N live37 c37 Try.f37.results.toList Try.f37.ntmps ((ad37).enc (x0, x1, ())) (rd37).dec = fn_wide_Sub N x0 x1 := by
  refine Eq.trans (show _ = t37 N (raw37_0 N N) x0 x1 from by kernel_rfl) ?_
  unfold fn_wide_Sub
  rw [eq37_0 N N]
noncomputable def F37 (N : Nat) (a : Vec 4 × Vec 4 × Unit) : Option (Vec 4 × Bool) := fn_wide_Sub N a.1 a.2.1
theorem ok37 (N : Nat) : FnOK Try.prog 37 ad37 rd37 (F37 N) :=
  fn_ok (N := N) (live := live37) (code := c37) (tok T37.rt T37.kl (wrNil_ok)) mixed (gok37 N) Try.func37 (by kernel_rfl) (by kernel_rfl) (by kernel_rfl) fun a p h => by rw [← h]; exact run37 N a.1 a.2.1

/-! ### tiller/wide.DivMod: function 35 -/
noncomputable def c35 : Code := (Try.f35.body).getD .skip
noncomputable def T35 : Tb := ⟨tyOf tys, [(39, 7), (45, 7)], [], wrNil⟩
noncomputable def G35 {R : Type} (N : Nat) : FuncId → List AV → (AV → Option R) → Option R := gCons 24 (gOf ad24 rd24 (F24 N)) (gCons 21 (gOf ad21 rd21 (F21 N)) (gCons 37 (gOf ad37 rd37 (F37 N)) (gNil)))
theorem gok35 {R : Type} (N : Nat) : GOK Try.prog (G35 (R := R) N) := gCons_ok (ok24 N) (gCons_ok (ok21 N) (gCons_ok (ok37 N) (gNil_ok)))
noncomputable def live35 : List (Nat × List (Nat × HK)) := [(5, [(2, .keep), (3, .keep), (4, .keep), (5, .keep), (7, .keep), (8, .keep)])]
noncomputable def ad35 : Ad (Vec 4 × Vec 4 × Unit) := aC (cVec .u64 4) (aC (cVec .u64 4) (a0))
noncomputable def rd35 : Rd (Vec 4 × Vec 4 × Option Int) := r3 (cVec .u64 4) (cVec .u64 4) (cErr 56)
noncomputable def st35_0 (v0 : Int) (v1 : Vec 4) (v2 : Vec 4) (v3 : Vec 4) (v4 : Vec 4) (v5 : Vec 4) : St := ⟨[AV.none, AV.none, AV.ptr 2 0, AV.ptr 3 0, AV.ptr 4 0, AV.ptr 5 0, AV.none, AV.ptr 7 0, AV.v (.int .i64 v0), AV.none, AV.none, AV.none, AV.none, AV.none, AV.none, AV.none, AV.none, AV.none, AV.none, AV.none, AV.none, AV.none, AV.none, AV.none, AV.none, AV.none, AV.none, AV.none, AV.none, AV.none, AV.none, AV.none, AV.none, AV.none, AV.none, AV.none, AV.none, AV.none, AV.none, AV.none, AV.none, AV.none, AV.none, AV.none, AV.none, AV.none, AV.none, AV.none], [none, none, some (OB.arr .u64 4 v1), some (OB.arr .u64 4 v2), some (OB.arr .u64 4 v3), some (OB.arr .u64 4 v4), none, some (OB.arr .u64 4 v5), none, none, none, none, none, none, none, none, none, none, none, none, none, none, none, none, none, none, none, none, none, none, none, none, none, none, none, none, none, none, none, none, none, none, none, none, none, none, none, none]⟩
noncomputable def raw35_0 (N : Nat) (n : Nat) (v0 : Int) (v1 : Vec 4) (v2 : Vec 4) (v3 : Vec 4) (v4 : Vec 4) (v5 : Vec 4) : Option (Vec 4 × Vec 4 × Option Int) := loopN (lookN live35 5) (exec T35 (G35 N) N live35 (cL (cL (cR (cL (cR (cR (cR c35)))))))) n (st35_0 v0 v1 v2 v3 v4 v5) (blockK 0 (seqK (exec T35 (G35 N) N live35 (cR (cR (cR (cR c35))))) (retK T35 Try.f35.results.toList (rd35).dec)))
noncomputable def s35_0 (N : Nat) (Ln0 : Int → Vec 4 → Vec 4 → Vec 4 → Vec 4 → Vec 4 → Option (Vec 4 × Vec 4 × Option Int)) (v0 : Int) (v1 : Vec 4) (v2 : Vec 4) (v3 : Vec 4) (v4 : Vec 4) (v5 : Vec 4) : Option (Vec 4 × Vec 4 × Option Int) :=
  cond (leI 0 v0)
   ((fn_wide_Shl N v2 v0).bind fun r3 =>
    (fn_wide_Sub N v1 r3).bind fun r4 =>
     cond (!(r4.2))
      (cond (leI 0 (quoI .i64 v0 64))
       (cond (ltI (quoI .i64 v0 64) 4)
        (cond (ltI (remI .i64 v0 64) 0)
         (none)
         (cond (leI 0 (quoI .i64 v0 64))
          (cond (ltI (quoI .i64 v0 64) 4)
           (Ln0 (subI .i64 v0 1) r4.1 v2 v3 v4 (Vec.st v5 (quoI .i64 v0 64) (orI .u64 (Vec.rd v5 (quoI .i64 v0 64)) (shlI .u64 1 (remI .i64 v0 64)))))
           (none))
          (none)))
        (none))
       (none))
      (Ln0 (subI .i64 v0 1) v1 v2 v3 v4 v5))
   (some (v5, v1, none))
theorem step35_0 (N : Nat) (n : Nat) (v0 : Int) (v1 : Vec 4) (v2 : Vec 4) (v3 : Vec 4) (v4 : Vec 4) (v5 : Vec 4) : raw35_0 N  (n + 1) v0 v1 v2 v3 v4 v5 = s35_0 N (raw35_0 N  n) v0 v1 v2 v3 v4 v5 := by kernel_rfl
noncomputable def l35_0 (N : Nat) : Nat → Int → Vec 4 → Vec 4 → Vec 4 → Vec 4 → Vec 4 → Option (Vec 4 × Vec 4 × Option Int)
  | 0 => fun _ _ _ _ _ _ => none
  | n + 1 => fun v0 v1 v2 v3 v4 v5 => s35_0 N (l35_0 N  n) v0 v1 v2 v3 v4 v5
theorem eq35_0 (N : Nat) : ∀ n, raw35_0 N  n = l35_0 N  n := by
  intro n
  induction n with
  | zero => exact funext fun v0 => funext fun v1 => funext fun v2 => funext fun v3 => funext fun v4 => funext fun v5 => rfl
  | succ n ih => exact funext fun v0 => funext fun v1 => funext fun v2 => funext fun v3 => funext fun v4 => funext fun v5 => by rw [step35_0, ih]; rfl
noncomputable def t35 (N : Nat) (Le0 : Int → Vec 4 → Vec 4 → Vec 4 → Vec 4 → Vec 4 → Option (Vec 4 × Vec 4 × Option Int)) (x0 : Vec 4) (x1 : Vec 4) : Option (Vec 4 × Vec 4 × Option Int) :=
  cond (eqL x1.1 (Vec.zero 4).1)
   (some (Vec.zero 4, Vec.zero 4, some 5))
   ((fn_wide_Len N x0).bind fun r1 =>
    (fn_wide_Len N x1).bind fun r2 =>
     Le0 (subI .i64 r1 r2) x0 x1 (Vec.zero 4) (Vec.zero 4) (Vec.zero 4))
noncomputable def fn_wide_DivMod (N : Nat) (x0 : Vec 4) (x1 : Vec 4) : Option (Vec 4 × Vec 4 × Option Int) := t35 N (l35_0 N N) x0 x1
theorem run35 (N : Nat) (x0 : Vec 4) (x1 : Vec 4) : Eng.run T35 (G35 N) N live35 c35 Try.f35.results.toList Try.f35.ntmps ((ad35).enc (x0, x1, ())) (rd35).dec = fn_wide_DivMod N x0 x1 := by
  refine Eq.trans (show _ = t35 N (raw35_0 N N) x0 x1 from by kernel_rfl) ?_
  unfold fn_wide_DivMod
  rw [eq35_0 N N]
noncomputable def F35 (N : Nat) (a : Vec 4 × Vec 4 × Unit) : Option (Vec 4 × Vec 4 × Option Int) := fn_wide_DivMod N a.1 a.2.1
theorem ok35 (N : Nat) : FnOK Try.prog 35 ad35 rd35 (F35 N) :=
  fn_ok (N := N) (live := live35) (code := c35) (tok T35.rt T35.kl (wrNil_ok)) mixed (gok35 N) Try.func35 (by kernel_rfl) (by kernel_rfl) (by kernel_rfl) fun a p h => by rw [← h]; exact run35 N a.1 a.2.1

/-! ### tiller/fix.Of: function 28 -/
noncomputable def c28 : Code := (Try.f28.body).getD .skip
noncomputable def T28 : Tb := ⟨tyOf tys, [], [], wrNil⟩
noncomputable def G28 {R : Type} (N : Nat) : FuncId → List AV → (AV → Option R) → Option R := gCons 36 (gOf ad36 rd36 (F36 N)) (gCons 35 (gOf ad35 rd35 (F35 N)) (gCons 21 (gOf ad21 rd21 (F21 N)) (gCons 23 (gOf ad23 rd23 (F23 N)) (gNil))))
theorem gok28 {R : Type} (N : Nat) : GOK Try.prog (G28 (R := R) N) := gCons_ok (ok36 N) (gCons_ok (ok35 N) (gCons_ok (ok21 N) (gCons_ok (ok23 N) (gNil_ok))))
noncomputable def live28 : List (Nat × List (Nat × HK)) := []
noncomputable def ad28 : Ad (Int × Int × Unit) := aC (cInt .u64) (aC (cInt .u64) (a0))
noncomputable def rd28 : Rd (Vec 4 × Option Int) := r2 (cVec .u64 4) (cErr 56)
noncomputable def fn_fix_Of (N : Nat) (x0 : Int) (x1 : Int) : Option (Vec 4 × Option Int) :=
  cond (eqI x1 0)
   (some (Vec.zero 4, some 5))
   (cond (eqI x1 0)
    (none)
    (cond (leI 256 (quoI .u64 x0 x1))
     (some (Vec.zero 4, some 2))
     ((fn_wide_Of N x0).bind fun r1 =>
      (fn_wide_Of N x1).bind fun r2 =>
       (fn_wide_DivMod N r1 r2).bind fun r3 =>
        cond (!(isNoneI r3.2.2))
         (some (Vec.zero 4, r3.2.2))
         ((fn_wide_Shl N r3.2.1 128).bind fun r4 =>
          (fn_wide_Of N x1).bind fun r5 =>
           (fn_wide_DivMod N r4 r5).bind fun r6 =>
            cond (!(isNoneI r6.2.2))
             (some (Vec.zero 4, r6.2.2))
             ((fn_wide_Shl N r3.2.1 128).bind fun r7 =>
              (fn_wide_Of N x1).bind fun r8 =>
               (fn_wide_DivMod N r7 r8).bind fun r9 =>
                (fn_wide_Shl N r9.2.1 120).bind fun r10 =>
                 (fn_wide_Of N x1).bind fun r11 =>
                  (fn_wide_DivMod N r10 r11).bind fun r12 =>
                   (fn_wide_Shl N r3.1 248).bind fun r13 =>
                    (fn_wide_Shl N r6.1 120).bind fun r14 =>
                     (fn_wide_Add N r13 r14).bind fun r15 =>
                      (fn_wide_Add N r15.1 r12.1).bind fun r16 =>
                       some (r16.1, r12.2.2))))))
theorem run28 (N : Nat) (x0 : Int) (x1 : Int) : Eng.run T28 (G28 N) N live28 c28 Try.f28.results.toList Try.f28.ntmps ((ad28).enc (x0, x1, ())) (rd28).dec = fn_fix_Of N x0 x1 := by kernel_rfl
noncomputable def F28 (N : Nat) (a : Int × Int × Unit) : Option (Vec 4 × Option Int) := fn_fix_Of N a.1 a.2.1
theorem ok28 (N : Nat) : FnOK Try.prog 28 ad28 rd28 (F28 N) :=
  fn_ok (N := N) (live := live28) (code := c28) (tok T28.rt T28.kl (wrNil_ok)) mixed (gok28 N) Try.func28 (by kernel_rfl) (by kernel_rfl) (by kernel_rfl) fun a p h => by rw [← h]; exact run28 N a.1 a.2.1

/-! ### tiller/tillerlaw15.sure: function 13 -/
noncomputable def c13 : Code := (Try.f13.body).getD .skip
noncomputable def T13 : Tb := ⟨tyOf tys, [], [], wrNil⟩
noncomputable def G13 {R : Type} (N : Nat) : FuncId → List AV → (AV → Option R) → Option R := gCons 28 (gOf ad28 rd28 (F28 N)) (gNil)
theorem gok13 {R : Type} (N : Nat) : GOK Try.prog (G13 (R := R) N) := gCons_ok (ok28 N) (gNil_ok)
noncomputable def live13 : List (Nat × List (Nat × HK)) := []
noncomputable def ad13 : Ad (Unit) := a0
noncomputable def rd13 : Rd (Bool) := r1 (cBool)
noncomputable def fn_tillerlaw15_sure (N : Nat)  : Option (Bool) :=
  (fn_fix_Of N 1 2).bind fun r1 =>
   cond (isNoneI r1.2)
    (cond (eqL r1.1.1 (Vec.st (Vec.st (Vec.st (Vec.st (Vec.zero 4) 0 0) 1 0) 2 0) 3 36028797018963968).1)
     (some true)
     (some false))
    (some false)
theorem run13 (N : Nat)  : Eng.run T13 (G13 N) N live13 c13 Try.f13.results.toList Try.f13.ntmps ((ad13).enc (())) (rd13).dec = fn_tillerlaw15_sure N  := by kernel_rfl
noncomputable def F13 (N : Nat) (a : Unit) : Option (Bool) := fn_tillerlaw15_sure N 
theorem ok13 (N : Nat) : FnOK Try.prog 13 ad13 rd13 (F13 N) :=
  fn_ok (N := N) (live := live13) (code := c13) (tok T13.rt T13.kl (wrNil_ok)) mixed (gok13 N) Try.func13 (by kernel_rfl) (by kernel_rfl) (by kernel_rfl) fun a p h => by rw [← h]; exact run13 N 

/-! ### tiller/fix.one: function 29 -/
noncomputable def c29 : Code := (Try.f29.body).getD .skip
noncomputable def T29 : Tb := ⟨tyOf tys, [], [], wrNil⟩
noncomputable def G29 {R : Type} (N : Nat) : FuncId → List AV → (AV → Option R) → Option R := gCons 36 (gOf ad36 rd36 (F36 N)) (gCons 21 (gOf ad21 rd21 (F21 N)) (gNil))
theorem gok29 {R : Type} (N : Nat) : GOK Try.prog (G29 (R := R) N) := gCons_ok (ok36 N) (gCons_ok (ok21 N) (gNil_ok))
noncomputable def live29 : List (Nat × List (Nat × HK)) := []
noncomputable def ad29 : Ad (Unit) := a0
noncomputable def rd29 : Rd (Vec 4) := r1 (cVec .u64 4)
noncomputable def fn_fix_one (N : Nat)  : Option (Vec 4) :=
  (fn_wide_Of N 1).bind fun r1 =>
   (fn_wide_Shl N r1 248).bind fun r2 =>
    some r2
theorem run29 (N : Nat)  : Eng.run T29 (G29 N) N live29 c29 Try.f29.results.toList Try.f29.ntmps ((ad29).enc (())) (rd29).dec = fn_fix_one N  := by kernel_rfl
noncomputable def F29 (N : Nat) (a : Unit) : Option (Vec 4) := fn_fix_one N 
theorem ok29 (N : Nat) : FnOK Try.prog 29 ad29 rd29 (F29 N) :=
  fn_ok (N := N) (live := live29) (code := c29) (tok T29.rt T29.kl (wrNil_ok)) mixed (gok29 N) Try.func29 (by kernel_rfl) (by kernel_rfl) (by kernel_rfl) fun a p h => by rw [← h]; exact run29 N 

/-! ### tiller/wide.Cmp: function 16 -/
noncomputable def c16 : Code := (Try.f16.body).getD .skip
noncomputable def T16 : Tb := ⟨tyOf tys, [(12, 2), (15, 3), (20, 2), (23, 3)], [], wrNil⟩
noncomputable def G16 {R : Type} (N : Nat) : FuncId → List AV → (AV → Option R) → Option R := gNil
theorem gok16 {R : Type} (N : Nat) : GOK Try.prog (G16 (R := R) N) := gNil_ok
noncomputable def live16 : List (Nat × List (Nat × HK)) := [(2, [(2, .keep), (3, .keep), (5, .keep)])]
noncomputable def ad16 : Ad (Vec 4 × Vec 4 × Unit) := aC (cVec .u64 4) (aC (cVec .u64 4) (a0))
noncomputable def rd16 : Rd (Int) := r1 (cInt .i64)
noncomputable def st16_0 (v0 : Int) (v1 : Vec 4) (v2 : Vec 4) : St := ⟨[AV.none, AV.none, AV.ptr 2 0, AV.ptr 3 0, AV.none, AV.v (.int .i64 v0), AV.none, AV.none, AV.none, AV.none, AV.none, AV.none, AV.none, AV.none, AV.none, AV.none, AV.none, AV.none, AV.none, AV.none, AV.none, AV.none, AV.none, AV.none, AV.none, AV.none], [none, none, some (OB.arr .u64 4 v1), some (OB.arr .u64 4 v2), none, none, none, none, none, none, none, none, none, none, none, none, none, none, none, none, none, none, none, none, none, none]⟩
noncomputable def raw16_0 (N : Nat) (n : Nat) (v0 : Int) (v1 : Vec 4) (v2 : Vec 4) : Option (Int) := loopN (lookN live16 2) (exec T16 (G16 N) N live16 (cL (cL (cR (cL (cR c16)))))) n (st16_0 v0 v1 v2) (blockK 0 (seqK (exec T16 (G16 N) N live16 (cR (cR c16))) (retK T16 Try.f16.results.toList (rd16).dec)))
noncomputable def s16_0 (N : Nat) (Ln0 : Int → Vec 4 → Vec 4 → Option (Int)) (v0 : Int) (v1 : Vec 4) (v2 : Vec 4) : Option (Int) :=
  cond (leI 0 v0)
   (cond (leI 0 v0)
    (cond (ltI v0 4)
     (cond (leI 0 v0)
      (cond (ltI v0 4)
       (cond (ltI (Vec.rd v1 v0) (Vec.rd v2 v0))
        (some (-1))
        (cond (leI 0 v0)
         (cond (ltI v0 4)
          (cond (leI 0 v0)
           (cond (ltI v0 4)
            (cond (ltI (Vec.rd v2 v0) (Vec.rd v1 v0))
             (some 1)
             (Ln0 (subI .i64 v0 1) v1 v2))
            (none))
           (none))
          (none))
         (none)))
       (none))
      (none))
     (none))
    (none))
   (some 0)
theorem step16_0 (N : Nat) (n : Nat) (v0 : Int) (v1 : Vec 4) (v2 : Vec 4) : raw16_0 N  (n + 1) v0 v1 v2 = s16_0 N (raw16_0 N  n) v0 v1 v2 := by kernel_rfl
noncomputable def l16_0 (N : Nat) : Nat → Int → Vec 4 → Vec 4 → Option (Int)
  | 0 => fun _ _ _ => none
  | n + 1 => fun v0 v1 v2 => s16_0 N (l16_0 N  n) v0 v1 v2
theorem eq16_0 (N : Nat) : ∀ n, raw16_0 N  n = l16_0 N  n := by
  intro n
  induction n with
  | zero => exact funext fun v0 => funext fun v1 => funext fun v2 => rfl
  | succ n ih => exact funext fun v0 => funext fun v1 => funext fun v2 => by rw [step16_0, ih]; rfl
noncomputable def t16 (N : Nat) (Le0 : Int → Vec 4 → Vec 4 → Option (Int)) (x0 : Vec 4) (x1 : Vec 4) : Option (Int) :=
  Le0 3 x0 x1
noncomputable def fn_wide_Cmp (N : Nat) (x0 : Vec 4) (x1 : Vec 4) : Option (Int) := t16 N (l16_0 N N) x0 x1
theorem run16 (N : Nat) (x0 : Vec 4) (x1 : Vec 4) : Eng.run T16 (G16 N) N live16 c16 Try.f16.results.toList Try.f16.ntmps ((ad16).enc (x0, x1, ())) (rd16).dec = fn_wide_Cmp N x0 x1 := by
  refine Eq.trans (show _ = t16 N (raw16_0 N N) x0 x1 from by kernel_rfl) ?_
  unfold fn_wide_Cmp
  rw [eq16_0 N N]
noncomputable def F16 (N : Nat) (a : Vec 4 × Vec 4 × Unit) : Option (Int) := fn_wide_Cmp N a.1 a.2.1
theorem ok16 (N : Nat) : FnOK Try.prog 16 ad16 rd16 (F16 N) :=
  fn_ok (N := N) (live := live16) (code := c16) (tok T16.rt T16.kl (wrNil_ok)) mixed (gok16 N) Try.func16 (by kernel_rfl) (by kernel_rfl) (by kernel_rfl) fun a p h => by rw [← h]; exact run16 N a.1 a.2.1

/-! ### tiller/fix.series: function 31 -/
noncomputable def c31 : Code := (Try.f31.body).getD .skip
noncomputable def T31 : Tb := ⟨tyOf tys, [], [], wrNil⟩
noncomputable def G31 {R : Type} (N : Nat) : FuncId → List AV → (AV → Option R) → Option R := gCons 23 (gOf ad23 rd23 (F23 N)) (gCons 6 (gOf ad6 rd6 (F6 N)) (gCons 36 (gOf ad36 rd36 (F36 N)) (gCons 35 (gOf ad35 rd35 (F35 N)) (gCons 37 (gOf ad37 rd37 (F37 N)) (gNil)))))
theorem gok31 {R : Type} (N : Nat) : GOK Try.prog (G31 (R := R) N) := gCons_ok (ok23 N) (gCons_ok (ok6 N) (gCons_ok (ok36 N) (gCons_ok (ok35 N) (gCons_ok (ok37 N) (gNil_ok)))))
noncomputable def live31 : List (Nat × List (Nat × HK)) := [(3, [(2, .keep), (3, .keep), (4, .keep), (6, .keep), (7, .keep), (8, .keep), (12, .keep)])]
noncomputable def ad31 : Ad (Vec 4 × Vec 4 × Int × Unit) := aC (cVec .u64 4) (aC (cVec .u64 4) (aC (cInt .u64) (a0)))
noncomputable def rd31 : Rd (Vec 4) := r1 (cVec .u64 4)
noncomputable def st31_0 (v0 : Int) (v1 : Int) (v2 : Vec 4) (v3 : Vec 4) (v4 : Vec 4) (v5 : Vec 4) (v6 : Vec 4) : St := ⟨[AV.none, AV.none, AV.v (.int .u64 v0), AV.ptr 3 0, AV.ptr 4 0, AV.none, AV.ptr 6 0, AV.ptr 7 0, AV.ptr 8 0, AV.none, AV.none, AV.none, AV.v (.int .i64 v1), AV.none, AV.none, AV.none, AV.none, AV.none, AV.none, AV.none, AV.none, AV.none, AV.none, AV.none, AV.none, AV.none, AV.none, AV.none, AV.none, AV.none, AV.none, AV.none, AV.none, AV.none, AV.none, AV.none, AV.none, AV.none, AV.none, AV.none, AV.none, AV.none, AV.none, AV.none, AV.none, AV.none, AV.none, AV.none, AV.none, AV.none, AV.none, AV.none, AV.none, AV.none, AV.none, AV.none, AV.none, AV.none, AV.none, AV.none], [none, none, none, some (OB.arr .u64 4 v2), some (OB.arr .u64 4 v3), none, some (OB.arr .u64 4 v4), some (OB.arr .u64 4 v5), some (OB.arr .u64 4 v6), none, none, none, none, none, none, none, none, none, none, none, none, none, none, none, none, none, none, none, none, none, none, none, none, none, none, none, none, none, none, none, none, none, none, none, none, none, none, none, none, none, none, none, none, none, none, none, none, none, none, none]⟩
noncomputable def raw31_0 (N : Nat) (n : Nat) (v0 : Int) (v1 : Int) (v2 : Vec 4) (v3 : Vec 4) (v4 : Vec 4) (v5 : Vec 4) (v6 : Vec 4) : Option (Vec 4) := loopN (lookN live31 3) (exec T31 (G31 N) N live31 (cL (cL (cR (cL (cR (cR c31))))))) n (st31_0 v0 v1 v2 v3 v4 v5 v6) (blockK 0 (seqK (exec T31 (G31 N) N live31 (cR (cR (cR c31)))) (retK T31 Try.f31.results.toList (rd31).dec)))
noncomputable def s31_0 (N : Nat) (Ln0 : Int → Int → Vec 4 → Vec 4 → Vec 4 → Vec 4 → Vec 4 → Option (Vec 4)) (v0 : Int) (v1 : Int) (v2 : Vec 4) (v3 : Vec 4) (v4 : Vec 4) (v5 : Vec 4) (v6 : Vec 4) : Option (Vec 4) :=
  cond (ltI v1 80)
   (cond (eqI (remI .i64 v1 2) 0)
    ((fn_wide_Add N v5 v2).bind fun r1 =>
     (fn_fix_Mul N v2 v3).bind fun r2 =>
      (fn_wide_Of N (mulI .u64 v0 (addI .u64 v0 1))).bind fun r3 =>
       (fn_wide_DivMod N r2.1 r3).bind fun r4 =>
        cond (eqL r4.1.1 (Vec.zero 4).1)
         ((fn_wide_Sub N r1.1 v6).bind fun r5 =>
          some r5.1)
         (Ln0 (addI .u64 v0 2) (addI .i64 v1 1) r4.1 v3 v4 r1.1 v6))
    ((fn_wide_Add N v6 v2).bind fun r6 =>
     (fn_fix_Mul N v2 v3).bind fun r7 =>
      (fn_wide_Of N (mulI .u64 v0 (addI .u64 v0 1))).bind fun r8 =>
       (fn_wide_DivMod N r7.1 r8).bind fun r9 =>
        cond (eqL r9.1.1 (Vec.zero 4).1)
         ((fn_wide_Sub N v5 r6.1).bind fun r10 =>
          some r10.1)
         (Ln0 (addI .u64 v0 2) (addI .i64 v1 1) r9.1 v3 v4 v5 r6.1)))
   ((fn_wide_Sub N v5 v6).bind fun r11 =>
    some r11.1)
theorem step31_0 (N : Nat) (n : Nat) (v0 : Int) (v1 : Int) (v2 : Vec 4) (v3 : Vec 4) (v4 : Vec 4) (v5 : Vec 4) (v6 : Vec 4) : raw31_0 N  (n + 1) v0 v1 v2 v3 v4 v5 v6 = s31_0 N (raw31_0 N  n) v0 v1 v2 v3 v4 v5 v6 := by kernel_rfl
noncomputable def l31_0 (N : Nat) : Nat → Int → Int → Vec 4 → Vec 4 → Vec 4 → Vec 4 → Vec 4 → Option (Vec 4)
  | 0 => fun _ _ _ _ _ _ _ => none
  | n + 1 => fun v0 v1 v2 v3 v4 v5 v6 => s31_0 N (l31_0 N  n) v0 v1 v2 v3 v4 v5 v6
theorem eq31_0 (N : Nat) : ∀ n, raw31_0 N  n = l31_0 N  n := by
  intro n
  induction n with
  | zero => exact funext fun v0 => funext fun v1 => funext fun v2 => funext fun v3 => funext fun v4 => funext fun v5 => funext fun v6 => rfl
  | succ n ih => exact funext fun v0 => funext fun v1 => funext fun v2 => funext fun v3 => funext fun v4 => funext fun v5 => funext fun v6 => by rw [step31_0, ih]; rfl
noncomputable def t31 (N : Nat) (Le0 : Int → Int → Vec 4 → Vec 4 → Vec 4 → Vec 4 → Vec 4 → Option (Vec 4)) (x0 : Vec 4) (x1 : Vec 4) (x2 : Int) : Option (Vec 4) :=
  Le0 x2 0 x0 x1 (Vec.zero 4) (Vec.zero 4) (Vec.zero 4)
noncomputable def fn_fix_series (N : Nat) (x0 : Vec 4) (x1 : Vec 4) (x2 : Int) : Option (Vec 4) := t31 N (l31_0 N N) x0 x1 x2
theorem run31 (N : Nat) (x0 : Vec 4) (x1 : Vec 4) (x2 : Int) : Eng.run T31 (G31 N) N live31 c31 Try.f31.results.toList Try.f31.ntmps ((ad31).enc (x0, x1, x2, ())) (rd31).dec = fn_fix_series N x0 x1 x2 := by
  refine Eq.trans (show _ = t31 N (raw31_0 N N) x0 x1 x2 from by kernel_rfl) ?_
  unfold fn_fix_series
  rw [eq31_0 N N]
noncomputable def F31 (N : Nat) (a : Vec 4 × Vec 4 × Int × Unit) : Option (Vec 4) := fn_fix_series N a.1 a.2.1 a.2.2.1
theorem ok31 (N : Nat) : FnOK Try.prog 31 ad31 rd31 (F31 N) :=
  fn_ok (N := N) (live := live31) (code := c31) (tok T31.rt T31.kl (wrNil_ok)) mixed (gok31 N) Try.func31 (by kernel_rfl) (by kernel_rfl) (by kernel_rfl) fun a p h => by rw [← h]; exact run31 N a.1 a.2.1 a.2.2.1

/-! ### tiller/fix.around: function 30 -/
noncomputable def c30 : Code := (Try.f30.body).getD .skip
noncomputable def T30 : Tb := ⟨tyOf tys, [], [], wrNil⟩
noncomputable def G30 {R : Type} (N : Nat) : FuncId → List AV → (AV → Option R) → Option R := gCons 36 (gOf ad36 rd36 (F36 N)) (gCons 37 (gOf ad37 rd37 (F37 N)) (gCons 23 (gOf ad23 rd23 (F23 N)) (gNil)))
theorem gok30 {R : Type} (N : Nat) : GOK Try.prog (G30 (R := R) N) := gCons_ok (ok36 N) (gCons_ok (ok37 N) (gCons_ok (ok23 N) (gNil_ok)))
noncomputable def live30 : List (Nat × List (Nat × HK)) := []
noncomputable def ad30 : Ad (Vec 4 × Unit) := aC (cVec .u64 4) (a0)
noncomputable def rd30 : Rd (Vec 4 × Vec 4 × Option Int) := r3 (cVec .u64 4) (cVec .u64 4) (cErr 56)
noncomputable def fn_fix_around (N : Nat) (x0 : Vec 4) : Option (Vec 4 × Vec 4 × Option Int) :=
  (fn_wide_Of N 512).bind fun r1 =>
   (fn_wide_Sub N x0 r1).bind fun r2 =>
    cond r2.2
     ((fn_wide_Of N 512).bind fun r3 =>
      (fn_wide_Add N x0 r3).bind fun r4 =>
       some (Vec.zero 4, r4.1, none))
     ((fn_wide_Of N 512).bind fun r5 =>
      (fn_wide_Add N x0 r5).bind fun r6 =>
       some (r2.1, r6.1, none))
theorem run30 (N : Nat) (x0 : Vec 4) : Eng.run T30 (G30 N) N live30 c30 Try.f30.results.toList Try.f30.ntmps ((ad30).enc (x0, ())) (rd30).dec = fn_fix_around N x0 := by kernel_rfl
noncomputable def F30 (N : Nat) (a : Vec 4 × Unit) : Option (Vec 4 × Vec 4 × Option Int) := fn_fix_around N a.1
theorem ok30 (N : Nat) : FnOK Try.prog 30 ad30 rd30 (F30 N) :=
  fn_ok (N := N) (live := live30) (code := c30) (tok T30.rt T30.kl (wrNil_ok)) mixed (gok30 N) Try.func30 (by kernel_rfl) (by kernel_rfl) (by kernel_rfl) fun a p h => by rw [← h]; exact run30 N a.1

/-! ### tiller/fix.Sin: function 14 -/
noncomputable def c14 : Code := (Try.f14.body).getD .skip
noncomputable def T14 : Tb := ⟨tyOf tys, [], [], wrNil⟩
noncomputable def G14 {R : Type} (N : Nat) : FuncId → List AV → (AV → Option R) → Option R := gCons 29 (gOf ad29 rd29 (F29 N)) (gCons 16 (gOf ad16 rd16 (F16 N)) (gCons 6 (gOf ad6 rd6 (F6 N)) (gCons 31 (gOf ad31 rd31 (F31 N)) (gCons 30 (gOf ad30 rd30 (F30 N)) (gNil)))))
theorem gok14 {R : Type} (N : Nat) : GOK Try.prog (G14 (R := R) N) := gCons_ok (ok29 N) (gCons_ok (ok16 N) (gCons_ok (ok6 N) (gCons_ok (ok31 N) (gCons_ok (ok30 N) (gNil_ok)))))
noncomputable def live14 : List (Nat × List (Nat × HK)) := []
noncomputable def ad14 : Ad (Vec 4 × Unit) := aC (cVec .u64 4) (a0)
noncomputable def rd14 : Rd (Vec 4 × Vec 4 × Option Int) := r3 (cVec .u64 4) (cVec .u64 4) (cErr 56)
noncomputable def fn_fix_Sin (N : Nat) (x0 : Vec 4) : Option (Vec 4 × Vec 4 × Option Int) :=
  (fn_fix_one N).bind fun r1 =>
   (fn_wide_Cmp N x0 r1).bind fun r2 =>
    cond (ltI 0 r2)
     (some (Vec.zero 4, Vec.zero 4, some 1))
     ((fn_fix_Mul N x0 x0).bind fun r3 =>
      (fn_fix_series N x0 r3.1 2).bind fun r4 =>
       (fn_fix_around N r4).bind fun r5 =>
        some (r5.1, r5.2.1, r5.2.2))
theorem run14 (N : Nat) (x0 : Vec 4) : Eng.run T14 (G14 N) N live14 c14 Try.f14.results.toList Try.f14.ntmps ((ad14).enc (x0, ())) (rd14).dec = fn_fix_Sin N x0 := by kernel_rfl
noncomputable def F14 (N : Nat) (a : Vec 4 × Unit) : Option (Vec 4 × Vec 4 × Option Int) := fn_fix_Sin N a.1
theorem ok14 (N : Nat) : FnOK Try.prog 14 ad14 rd14 (F14 N) :=
  fn_ok (N := N) (live := live14) (code := c14) (tok T14.rt T14.kl (wrNil_ok)) mixed (gok14 N) Try.func14 (by kernel_rfl) (by kernel_rfl) (by kernel_rfl) fun a p h => by rw [← h]; exact run14 N a.1

/-! ### tiller/fix.Cos: function 15 -/
noncomputable def c15 : Code := (Try.f15.body).getD .skip
noncomputable def T15 : Tb := ⟨tyOf tys, [], [], wrNil⟩
noncomputable def G15 {R : Type} (N : Nat) : FuncId → List AV → (AV → Option R) → Option R := gCons 29 (gOf ad29 rd29 (F29 N)) (gCons 16 (gOf ad16 rd16 (F16 N)) (gCons 6 (gOf ad6 rd6 (F6 N)) (gCons 31 (gOf ad31 rd31 (F31 N)) (gCons 30 (gOf ad30 rd30 (F30 N)) (gNil)))))
theorem gok15 {R : Type} (N : Nat) : GOK Try.prog (G15 (R := R) N) := gCons_ok (ok29 N) (gCons_ok (ok16 N) (gCons_ok (ok6 N) (gCons_ok (ok31 N) (gCons_ok (ok30 N) (gNil_ok)))))
noncomputable def live15 : List (Nat × List (Nat × HK)) := []
noncomputable def ad15 : Ad (Vec 4 × Unit) := aC (cVec .u64 4) (a0)
noncomputable def rd15 : Rd (Vec 4 × Vec 4 × Option Int) := r3 (cVec .u64 4) (cVec .u64 4) (cErr 56)
noncomputable def fn_fix_Cos (N : Nat) (x0 : Vec 4) : Option (Vec 4 × Vec 4 × Option Int) :=
  (fn_fix_one N).bind fun r1 =>
   (fn_wide_Cmp N x0 r1).bind fun r2 =>
    cond (ltI 0 r2)
     (some (Vec.zero 4, Vec.zero 4, some 1))
     ((fn_fix_Mul N x0 x0).bind fun r3 =>
      (fn_fix_one N).bind fun r4 =>
       (fn_fix_series N r4 r3.1 1).bind fun r5 =>
        (fn_fix_around N r5).bind fun r6 =>
         some (r6.1, r6.2.1, r6.2.2))
theorem run15 (N : Nat) (x0 : Vec 4) : Eng.run T15 (G15 N) N live15 c15 Try.f15.results.toList Try.f15.ntmps ((ad15).enc (x0, ())) (rd15).dec = fn_fix_Cos N x0 := by kernel_rfl
noncomputable def F15 (N : Nat) (a : Vec 4 × Unit) : Option (Vec 4 × Vec 4 × Option Int) := fn_fix_Cos N a.1
theorem ok15 (N : Nat) : FnOK Try.prog 15 ad15 rd15 (F15 N) :=
  fn_ok (N := N) (live := live15) (code := c15) (tok T15.rt T15.kl (wrNil_ok)) mixed (gok15 N) Try.func15 (by kernel_rfl) (by kernel_rfl) (by kernel_rfl) fun a p h => by rw [← h]; exact run15 N a.1

/-! ### tiller/tillerlaw15.one: function 17 -/
noncomputable def c17 : Code := (Try.f17.body).getD .skip
noncomputable def T17 : Tb := ⟨tyOf tys, [], [], wrNil⟩
noncomputable def G17 {R : Type} (N : Nat) : FuncId → List AV → (AV → Option R) → Option R := gNil
theorem gok17 {R : Type} (N : Nat) : GOK Try.prog (G17 (R := R) N) := gNil_ok
noncomputable def live17 : List (Nat × List (Nat × HK)) := []
noncomputable def ad17 : Ad (Unit) := a0
noncomputable def rd17 : Rd (Vec 4) := r1 (cVec .u64 4)
noncomputable def fn_tillerlaw15_one (N : Nat)  : Option (Vec 4) :=
  some (Vec.st (Vec.st (Vec.st (Vec.st (Vec.zero 4) 0 0) 1 0) 2 0) 3 72057594037927936)
theorem run17 (N : Nat)  : Eng.run T17 (G17 N) N live17 c17 Try.f17.results.toList Try.f17.ntmps ((ad17).enc (())) (rd17).dec = fn_tillerlaw15_one N  := by kernel_rfl
noncomputable def F17 (N : Nat) (a : Unit) : Option (Vec 4) := fn_tillerlaw15_one N 
theorem ok17 (N : Nat) : FnOK Try.prog 17 ad17 rd17 (F17 N) :=
  fn_ok (N := N) (live := live17) (code := c17) (tok T17.rt T17.kl (wrNil_ok)) mixed (gok17 N) Try.func17 (by kernel_rfl) (by kernel_rfl) (by kernel_rfl) fun a p h => by rw [← h]; exact run17 N 

/-! ### tiller/tillerref02.Add: function 18 -/
noncomputable def c18 : Code := (Try.f18.body).getD .skip
noncomputable def T18 : Tb := ⟨tyOf tys, [], [41], wrNil⟩
noncomputable def G18 {R : Type} (N : Nat) : FuncId → List AV → (AV → Option R) → Option R := gCons 25 (gOf ad25 rd25 (F25 N)) (gCons 26 (gOf ad26 rd26 (F26 N)) (gNil))
theorem gok18 {R : Type} (N : Nat) : GOK Try.prog (G18 (R := R) N) := gCons_ok (ok25 N) (gCons_ok (ok26 N) (gNil_ok))
noncomputable def live18 : List (Nat × List (Nat × HK)) := [(4, [(0, .keep), (1, .keep), (5, .row .u32 50), (6, .keep), (7, .keep)])]
noncomputable def ad18 : Ad (List Int × List Int × Unit) := aC (cLi .u32) (aC (cLi .u32) (a0))
noncomputable def rd18 : Rd (List Int) := r1 (cLi .u32)
noncomputable def st18_0 (v0 : List Int) (v1 : List Int) (v2 : Int) (v3 : Int) (v4 : List Int) : St := ⟨[AV.li .u32 v0, AV.li .u32 v1, AV.none, AV.none, AV.none, AV.own 5, AV.v (.int .u32 v2), AV.v (.int .i64 v3), AV.none, AV.none, AV.none, AV.none, AV.none, AV.none, AV.none, AV.none, AV.none, AV.none, AV.none, AV.none, AV.none, AV.none, AV.none, AV.none, AV.none, AV.none, AV.none, AV.none, AV.none, AV.none, AV.none, AV.none, AV.none, AV.none, AV.none, AV.none, AV.none, AV.none, AV.none, AV.none, AV.none, AV.none], [none, none, none, none, none, some (OB.row .u32 50 v4), none, none, none, none, none, none, none, none, none, none, none, none, none, none, none, none, none, none, none, none, none, none, none, none, none, none, none, none, none, none, none, none, none, none, none, none]⟩
noncomputable def raw18_0 (N : Nat) (n : Nat) (v0 : List Int) (v1 : List Int) (v2 : Int) (v3 : Int) (v4 : List Int) : Option (List Int) := loopN (lookN live18 4) (exec T18 (G18 N) N live18 (cL (cL (cR (cL (cR (cR (cR c18)))))))) n (st18_0 v0 v1 v2 v3 v4) (blockK 0 (seqK (exec T18 (G18 N) N live18 (cR (cR (cR (cR c18))))) (retK T18 Try.f18.results.toList (rd18).dec)))
noncomputable def s18_0 (N : Nat) (Ln0 : List Int → List Int → Int → Int → List Int → Option (List Int)) (v0 : List Int) (v1 : List Int) (v2 : Int) (v3 : Int) (v4 : List Int) : Option (List Int) :=
  cond (ltI v3 (v0.length : Int))
   ((fn_tillerref02_at N v0 v3).bind fun r1 =>
    (fn_tillerref02_at N v1 v3).bind fun r2 =>
     cond (fitL (v4.length + [remI .u32 (addI .u32 (addI .u32 v2 r1) r2) 65536].length))
      (Ln0 v0 v1 (quoI .u32 (addI .u32 (addI .u32 v2 r1) r2) 65536) (addI .i64 v3 1) (v4 ++ [remI .u32 (addI .u32 (addI .u32 v2 r1) r2) 65536]))
      (none))
   (cond (ltI v3 (v1.length : Int))
    ((fn_tillerref02_at N v0 v3).bind fun r3 =>
     (fn_tillerref02_at N v1 v3).bind fun r4 =>
      cond (fitL (v4.length + [remI .u32 (addI .u32 (addI .u32 v2 r3) r4) 65536].length))
       (Ln0 v0 v1 (quoI .u32 (addI .u32 (addI .u32 v2 r3) r4) 65536) (addI .i64 v3 1) (v4 ++ [remI .u32 (addI .u32 (addI .u32 v2 r3) r4) 65536]))
       (none))
    (cond (ltI 0 v2)
     ((fn_tillerref02_at N v0 v3).bind fun r5 =>
      (fn_tillerref02_at N v1 v3).bind fun r6 =>
       cond (fitL (v4.length + [remI .u32 (addI .u32 (addI .u32 v2 r5) r6) 65536].length))
        (Ln0 v0 v1 (quoI .u32 (addI .u32 (addI .u32 v2 r5) r6) 65536) (addI .i64 v3 1) (v4 ++ [remI .u32 (addI .u32 (addI .u32 v2 r5) r6) 65536]))
        (none))
     ((fn_tillerref02_trim N v4).bind fun r7 =>
      some r7)))
theorem step18_0 (N : Nat) (n : Nat) (v0 : List Int) (v1 : List Int) (v2 : Int) (v3 : Int) (v4 : List Int) : raw18_0 N  (n + 1) v0 v1 v2 v3 v4 = s18_0 N (raw18_0 N  n) v0 v1 v2 v3 v4 := by kernel_rfl
noncomputable def l18_0 (N : Nat) : Nat → List Int → List Int → Int → Int → List Int → Option (List Int)
  | 0 => fun _ _ _ _ _ => none
  | n + 1 => fun v0 v1 v2 v3 v4 => s18_0 N (l18_0 N  n) v0 v1 v2 v3 v4
theorem eq18_0 (N : Nat) : ∀ n, raw18_0 N  n = l18_0 N  n := by
  intro n
  induction n with
  | zero => exact funext fun v0 => funext fun v1 => funext fun v2 => funext fun v3 => funext fun v4 => rfl
  | succ n ih => exact funext fun v0 => funext fun v1 => funext fun v2 => funext fun v3 => funext fun v4 => by rw [step18_0, ih]; rfl
noncomputable def t18 (N : Nat) (Le0 : List Int → List Int → Int → Int → List Int → Option (List Int)) (x0 : List Int) (x1 : List Int) : Option (List Int) :=
  Le0 x0 x1 0 0 []
noncomputable def fn_tillerref02_Add (N : Nat) (x0 : List Int) (x1 : List Int) : Option (List Int) := t18 N (l18_0 N N) x0 x1
theorem run18 (N : Nat) (x0 : List Int) (x1 : List Int) : Eng.run T18 (G18 N) N live18 c18 Try.f18.results.toList Try.f18.ntmps ((ad18).enc (x0, x1, ())) (rd18).dec = fn_tillerref02_Add N x0 x1 := by
  refine Eq.trans (show _ = t18 N (raw18_0 N N) x0 x1 from by kernel_rfl) ?_
  unfold fn_tillerref02_Add
  rw [eq18_0 N N]
noncomputable def F18 (N : Nat) (a : List Int × List Int × Unit) : Option (List Int) := fn_tillerref02_Add N a.1 a.2.1
theorem ok18 (N : Nat) : FnOK Try.prog 18 ad18 rd18 (F18 N) :=
  fn_ok (N := N) (live := live18) (code := c18) (tok T18.rt T18.kl (wrNil_ok)) mixed (gok18 N) Try.func18 (by kernel_rfl) (by kernel_rfl) (by kernel_rfl) fun a p h => by rw [← h]; exact run18 N a.1 a.2.1

/-! ### tiller/tillerref02.Of: function 19 -/
noncomputable def c19 : Code := (Try.f19.body).getD .skip
noncomputable def T19 : Tb := ⟨tyOf tys, [], [18], wrNil⟩
noncomputable def G19 {R : Type} (N : Nat) : FuncId → List AV → (AV → Option R) → Option R := gCons 26 (gOf ad26 rd26 (F26 N)) (gNil)
theorem gok19 {R : Type} (N : Nat) : GOK Try.prog (G19 (R := R) N) := gCons_ok (ok26 N) (gNil_ok)
noncomputable def live19 : List (Nat × List (Nat × HK)) := []
noncomputable def ad19 : Ad (Int × Unit) := aC (cInt .u64) (a0)
noncomputable def rd19 : Rd (List Int) := r1 (cLi .u32)
noncomputable def fn_tillerref02_Of (N : Nat) (x0 : Int) : Option (List Int) :=
  (fn_tillerref02_trim N [cvI .u32 (remI .u64 x0 65536), cvI .u32 (remI .u64 (quoI .u64 x0 65536) 65536), cvI .u32 (remI .u64 (quoI .u64 x0 4294967296) 65536), cvI .u32 (quoI .u64 x0 281474976710656)]).bind fun r1 =>
   some r1
theorem run19 (N : Nat) (x0 : Int) : Eng.run T19 (G19 N) N live19 c19 Try.f19.results.toList Try.f19.ntmps ((ad19).enc (x0, ())) (rd19).dec = fn_tillerref02_Of N x0 := by kernel_rfl
noncomputable def F19 (N : Nat) (a : Int × Unit) : Option (List Int) := fn_tillerref02_Of N a.1
theorem ok19 (N : Nat) : FnOK Try.prog 19 ad19 rd19 (F19 N) :=
  fn_ok (N := N) (live := live19) (code := c19) (tok T19.rt T19.kl (wrNil_ok)) mixed (gok19 N) Try.func19 (by kernel_rfl) (by kernel_rfl) (by kernel_rfl) fun a p h => by rw [← h]; exact run19 N a.1
end Go.Proofs.Ytoconobigciggaa.Fns

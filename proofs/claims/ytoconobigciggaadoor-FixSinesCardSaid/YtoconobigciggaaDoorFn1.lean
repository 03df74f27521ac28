/- Go functions as plain Lean functions, and the engine's run of each. No statement is proved here. Laid by eng.py. -/
import Derived.Test.YtoconobigciggaaDoorFn0
namespace Go.Proofs.YtoconobigciggaaDoor.Fns
open Go Go.RowKit Go.Proofs Go.Proofs.YtoconobigciggaaDoor.Eng Go.Proofs.YtoconobigciggaaDoor.Num
set_option linter.unusedVariables false
set_option maxRecDepth 100000
/-! ### tiller/wide.Of: function 24 -/
noncomputable def c24 : Code := (Tryd.f24.body).getD .skip
noncomputable def T24 : Tb := ⟨tyOf tys, [], []⟩
noncomputable def G24 {R : Type} (N : Nat) : FuncId → List AV → (AV → Option R) → Option R := gNil
theorem gok24 {R : Type} (N : Nat) : GOK Tryd.prog (G24 (R := R) N) := gNil_ok
noncomputable def live24 : List (Nat × List (Nat × HK)) := []
noncomputable def ad24 : Ad (Int × Unit) := aC (cInt .u64) (a0)
noncomputable def rd24 : Rd (Vec 4) := r1 (cVec .u64 4)
noncomputable def fn_wide_Of (N : Nat) (x0 : Int) : Option (Vec 4) :=
  some (Vec.st (Vec.zero 4) 0 x0)
theorem run24 (N : Nat) (x0 : Int) : Eng.run T24 (G24 N) N live24 c24 Tryd.f24.results.toList Tryd.f24.ntmps ((ad24).enc (x0, ())) (rd24).dec = fn_wide_Of N x0 := by kernel_rfl
noncomputable def F24 (N : Nat) (a : Int × Unit) : Option (Vec 4) := fn_wide_Of N a.1
theorem ok24 (N : Nat) : FnOK Tryd.prog 24 ad24 rd24 (F24 N) :=
  fn_ok (N := N) (live := live24) (code := c24) (tok T24.rt T24.kl) mixed (gok24 N) Tryd.func24 (by kernel_rfl) (by kernel_rfl) (by kernel_rfl) fun a p h => by rw [← h]; exact run24 N a.1

/-! ### math/bits.Len64: function 43 -/
noncomputable def c43 : Code := (Tryd.f43.body).getD .skip
noncomputable def T43 : Tb := ⟨tyOf tys, [], []⟩
noncomputable def G43 {R : Type} (N : Nat) : FuncId → List AV → (AV → Option R) → Option R := gNil
theorem gok43 {R : Type} (N : Nat) : GOK Tryd.prog (G43 (R := R) N) := gNil_ok
noncomputable def live43 : List (Nat × List (Nat × HK)) := []
noncomputable def ad43 : Ad (Int × Unit) := aC (cInt .u64) (a0)
noncomputable def rd43 : Rd (Int) := r1 (cInt .i64)
noncomputable def fn_bits_Len64 (N : Nat) (x0 : Int) : Option (Int) :=
  cond (leI 4294967296 x0)
   (cond (leI 65536 (shrI .u64 x0 32))
    (cond (leI 256 (shrI .u64 (shrI .u64 x0 32) 16))
     (cond (leI 0 (cvI .u8 (shrI .u64 (shrI .u64 (shrI .u64 x0 32) 16) 8)))
      (cond (ltI (cvI .u8 (shrI .u64 (shrI .u64 (shrI .u64 x0 32) 16) 8)) (str0.size : Int))
       (some (addI .i64 (addI .i64 (addI .i64 32 16) 8) (cvI .i64 (sAt str0 (cvI .u8 (shrI .u64 (shrI .u64 (shrI .u64 x0 32) 16) 8))))))
       (none))
      (none))
     (cond (leI 0 (cvI .u8 (shrI .u64 (shrI .u64 x0 32) 16)))
      (cond (ltI (cvI .u8 (shrI .u64 (shrI .u64 x0 32) 16)) (str0.size : Int))
       (some (addI .i64 (addI .i64 32 16) (cvI .i64 (sAt str0 (cvI .u8 (shrI .u64 (shrI .u64 x0 32) 16))))))
       (none))
      (none)))
    (cond (leI 256 (shrI .u64 x0 32))
     (cond (leI 0 (cvI .u8 (shrI .u64 (shrI .u64 x0 32) 8)))
      (cond (ltI (cvI .u8 (shrI .u64 (shrI .u64 x0 32) 8)) (str0.size : Int))
       (some (addI .i64 (addI .i64 32 8) (cvI .i64 (sAt str0 (cvI .u8 (shrI .u64 (shrI .u64 x0 32) 8))))))
       (none))
      (none))
     (cond (leI 0 (cvI .u8 (shrI .u64 x0 32)))
      (cond (ltI (cvI .u8 (shrI .u64 x0 32)) (str0.size : Int))
       (some (addI .i64 32 (cvI .i64 (sAt str0 (cvI .u8 (shrI .u64 x0 32))))))
       (none))
      (none))))
   (cond (leI 65536 x0)
    (cond (leI 256 (shrI .u64 x0 16))
     (cond (leI 0 (cvI .u8 (shrI .u64 (shrI .u64 x0 16) 8)))
      (cond (ltI (cvI .u8 (shrI .u64 (shrI .u64 x0 16) 8)) (str0.size : Int))
       (some (addI .i64 (addI .i64 (addI .i64 0 16) 8) (cvI .i64 (sAt str0 (cvI .u8 (shrI .u64 (shrI .u64 x0 16) 8))))))
       (none))
      (none))
     (cond (leI 0 (cvI .u8 (shrI .u64 x0 16)))
      (cond (ltI (cvI .u8 (shrI .u64 x0 16)) (str0.size : Int))
       (some (addI .i64 (addI .i64 0 16) (cvI .i64 (sAt str0 (cvI .u8 (shrI .u64 x0 16))))))
       (none))
      (none)))
    (cond (leI 256 x0)
     (cond (leI 0 (cvI .u8 (shrI .u64 x0 8)))
      (cond (ltI (cvI .u8 (shrI .u64 x0 8)) (str0.size : Int))
       (some (addI .i64 (addI .i64 0 8) (cvI .i64 (sAt str0 (cvI .u8 (shrI .u64 x0 8))))))
       (none))
      (none))
     (cond (leI 0 (cvI .u8 x0))
      (cond (ltI (cvI .u8 x0) (str0.size : Int))
       (some (addI .i64 0 (cvI .i64 (sAt str0 (cvI .u8 x0)))))
       (none))
      (none))))
theorem run43 (N : Nat) (x0 : Int) : Eng.run T43 (G43 N) N live43 c43 Tryd.f43.results.toList Tryd.f43.ntmps ((ad43).enc (x0, ())) (rd43).dec = fn_bits_Len64 N x0 := by kernel_rfl
noncomputable def F43 (N : Nat) (a : Int × Unit) : Option (Int) := fn_bits_Len64 N a.1
theorem ok43 (N : Nat) : FnOK Tryd.prog 43 ad43 rd43 (F43 N) :=
  fn_ok (N := N) (live := live43) (code := c43) (tok T43.rt T43.kl) mixed (gok43 N) Tryd.func43 (by kernel_rfl) (by kernel_rfl) (by kernel_rfl) fun a p h => by rw [← h]; exact run43 N a.1

/-! ### tiller/wide.Len: function 23 -/
noncomputable def c23 : Code := (Tryd.f23.body).getD .skip
noncomputable def T23 : Tb := ⟨tyOf tys, [(9, 1), (15, 1)], []⟩
noncomputable def G23 {R : Type} (N : Nat) : FuncId → List AV → (AV → Option R) → Option R := gCons 43 (gOf ad43 rd43 (F43 N)) (gNil)
theorem gok23 {R : Type} (N : Nat) : GOK Tryd.prog (G23 (R := R) N) := gCons_ok (ok43 N) (gNil_ok)
noncomputable def live23 : List (Nat × List (Nat × HK)) := [(2, [(1, .keep), (3, .keep)])]
noncomputable def ad23 : Ad (Vec 4 × Unit) := aC (cVec .u64 4) (a0)
noncomputable def rd23 : Rd (Int) := r1 (cInt .i64)
noncomputable def st23_0 (v0 : Int) (v1 : Vec 4) : St := ⟨[AV.none, AV.ptr 1 0, AV.none, AV.v (.int .i64 v0), AV.none, AV.none, AV.none, AV.none, AV.none, AV.none, AV.none, AV.none, AV.none, AV.none, AV.none, AV.none, AV.none, AV.none, AV.none], [none, some (OB.arr .u64 4 v1), none, none, none, none, none, none, none, none, none, none, none, none, none, none, none, none, none]⟩
noncomputable def raw23_0 (N : Nat) (n : Nat) (v0 : Int) (v1 : Vec 4) : Option (Int) := loopN (lookN live23 2) (exec T23 (G23 N) N live23 (cL (cL (cR (cL (cR c23)))))) n (st23_0 v0 v1) (blockK 0 (seqK (exec T23 (G23 N) N live23 (cR (cR c23))) (retK T23 Tryd.f23.results.toList (rd23).dec)))
noncomputable def s23_0 (N : Nat) (Ln0 : Int → Vec 4 → Option (Int)) (v0 : Int) (v1 : Vec 4) : Option (Int) :=
  cond (leI 0 v0)
   (cond (leI 0 v0)
    (cond (ltI v0 4)
     (cond (!(eqI (Vec.rd v1 v0) 0))
      (cond (leI 0 v0)
       (cond (ltI v0 4)
        ((fn_bits_Len64 N (Vec.rd v1 v0)).bind fun r1 =>
         some (addI .i64 (mulI .i64 64 v0) r1))
        (none))
       (none))
      (Ln0 (subI .i64 v0 1) v1))
     (none))
    (none))
   (some 0)
theorem step23_0 (N : Nat) (n : Nat) (v0 : Int) (v1 : Vec 4) : raw23_0 N  (n + 1) v0 v1 = s23_0 N (raw23_0 N  n) v0 v1 := by kernel_rfl
noncomputable def l23_0 (N : Nat) : Nat → Int → Vec 4 → Option (Int)
  | 0 => fun _ _ => none
  | n + 1 => fun v0 v1 => s23_0 N (l23_0 N  n) v0 v1
theorem eq23_0 (N : Nat) : ∀ n, raw23_0 N  n = l23_0 N  n := by
  intro n
  induction n with
  | zero => exact funext fun v0 => funext fun v1 => rfl
  | succ n ih => exact funext fun v0 => funext fun v1 => by rw [step23_0, ih]; rfl
noncomputable def t23 (N : Nat) (Le0 : Int → Vec 4 → Option (Int)) (x0 : Vec 4) : Option (Int) :=
  Le0 3 x0
noncomputable def fn_wide_Len (N : Nat) (x0 : Vec 4) : Option (Int) := t23 N (l23_0 N N) x0
theorem run23 (N : Nat) (x0 : Vec 4) : Eng.run T23 (G23 N) N live23 c23 Tryd.f23.results.toList Tryd.f23.ntmps ((ad23).enc (x0, ())) (rd23).dec = fn_wide_Len N x0 := by
  refine Eq.trans (show _ = t23 N (raw23_0 N N) x0 from by kernel_rfl) ?_
  unfold fn_wide_Len
  rw [eq23_0 N N]
noncomputable def F23 (N : Nat) (a : Vec 4 × Unit) : Option (Int) := fn_wide_Len N a.1
theorem ok23 (N : Nat) : FnOK Tryd.prog 23 ad23 rd23 (F23 N) :=
  fn_ok (N := N) (live := live23) (code := c23) (tok T23.rt T23.kl) mixed (gok23 N) Tryd.func23 (by kernel_rfl) (by kernel_rfl) (by kernel_rfl) fun a p h => by rw [← h]; exact run23 N a.1

/-! ### tiller/wide.Shl: function 29 -/
noncomputable def c29 : Code := (Tryd.f29.body).getD .skip
noncomputable def T29 : Tb := ⟨tyOf tys, [(25, 2), (30, 5), (35, 5), (41, 2), (48, 5)], []⟩
noncomputable def G29 {R : Type} (N : Nat) : FuncId → List AV → (AV → Option R) → Option R := gNil
theorem gok29 {R : Type} (N : Nat) : GOK Tryd.prog (G29 (R := R) N) := gNil_ok
noncomputable def live29 : List (Nat × List (Nat × HK)) := [(8, [(1, .keep), (2, .keep), (4, .keep), (5, .keep), (6, .keep), (7, .keep)])]
noncomputable def ad29 : Ad (Vec 4 × Int × Unit) := aC (cVec .u64 4) (aC (cInt .i64) (a0))
noncomputable def rd29 : Rd (Vec 4) := r1 (cVec .u64 4)
noncomputable def st29_0 (v0 : Int) (v1 : Int) (v2 : Int) (v3 : Vec 4) (v4 : Vec 4) (v5 : Vec 4) : St := ⟨[AV.none, AV.v (.int .i64 v0), AV.ptr 2 0, AV.none, AV.ptr 4 0, AV.ptr 5 0, AV.v (.int .i64 v1), AV.v (.int .i64 v2), AV.none, AV.none, AV.none, AV.none, AV.none, AV.none, AV.none, AV.none, AV.none, AV.none, AV.none, AV.none, AV.none, AV.none, AV.none, AV.none, AV.none, AV.none, AV.none, AV.none, AV.none, AV.none, AV.none, AV.none, AV.none, AV.none, AV.none, AV.none, AV.none, AV.none, AV.none, AV.none, AV.none, AV.none, AV.none, AV.none, AV.none, AV.none, AV.none, AV.none, AV.none, AV.none], [none, none, some (OB.arr .u64 4 v3), none, some (OB.arr .u64 4 v4), some (OB.arr .u64 4 v5), none, none, none, none, none, none, none, none, none, none, none, none, none, none, none, none, none, none, none, none, none, none, none, none, none, none, none, none, none, none, none, none, none, none, none, none, none, none, none, none, none, none, none, none]⟩
noncomputable def raw29_0 (N : Nat) (n : Nat) (v0 : Int) (v1 : Int) (v2 : Int) (v3 : Vec 4) (v4 : Vec 4) (v5 : Vec 4) : Option (Vec 4) := loopN (lookN live29 8) (exec T29 (G29 N) N live29 (cL (cL (cR (cL (cR (cR (cR (cR (cR c29)))))))))) n (st29_0 v0 v1 v2 v3 v4 v5) (blockK 0 (seqK (exec T29 (G29 N) N live29 (cR (cR (cR (cR (cR (cR c29))))))) (retK T29 Tryd.f29.results.toList (rd29).dec)))
noncomputable def s29_0 (N : Nat) (Ln0 : Int → Int → Int → Vec 4 → Vec 4 → Vec 4 → Option (Vec 4)) (v0 : Int) (v1 : Int) (v2 : Int) (v3 : Vec 4) (v4 : Vec 4) (v5 : Vec 4) : Option (Vec 4) :=
  cond (leI v1 v2)
   (cond (leI 0 (subI .i64 v2 v1))
    (cond (ltI (subI .i64 v2 v1) 4)
     (cond (ltI (remI .i64 v0 64) 0)
      (none)
      (cond (leI 0 v2)
       (cond (ltI v2 4)
        (cond (ltI v1 v2)
         (cond (leI 0 v2)
          (cond (ltI v2 4)
           (cond (leI 0 (subI .i64 (subI .i64 v2 v1) 1))
            (cond (ltI (subI .i64 (subI .i64 v2 v1) 1) 4)
             (cond (ltI (subI .i64 64 (remI .i64 v0 64)) 0)
              (none)
              (cond (leI 0 v2)
               (cond (ltI v2 4)
                (Ln0 v0 v1 (subI .i64 v2 1) v3 v4 (Vec.st (Vec.st v5 v2 (shlI .u64 (Vec.rd v3 (subI .i64 v2 v1)) (remI .i64 v0 64))) v2 (orI .u64 (Vec.rd (Vec.st v5 v2 (shlI .u64 (Vec.rd v3 (subI .i64 v2 v1)) (remI .i64 v0 64))) v2) (shrI .u64 (Vec.rd v3 (subI .i64 (subI .i64 v2 v1) 1)) (subI .i64 64 (remI .i64 v0 64))))))
                (none))
               (none)))
             (none))
            (none))
           (none))
          (none))
         (Ln0 v0 v1 (subI .i64 v2 1) v3 v4 (Vec.st v5 v2 (shlI .u64 (Vec.rd v3 (subI .i64 v2 v1)) (remI .i64 v0 64)))))
        (none))
       (none)))
     (none))
    (none))
   (some v5)
theorem step29_0 (N : Nat) (n : Nat) (v0 : Int) (v1 : Int) (v2 : Int) (v3 : Vec 4) (v4 : Vec 4) (v5 : Vec 4) : raw29_0 N  (n + 1) v0 v1 v2 v3 v4 v5 = s29_0 N (raw29_0 N  n) v0 v1 v2 v3 v4 v5 := by kernel_rfl
noncomputable def l29_0 (N : Nat) : Nat → Int → Int → Int → Vec 4 → Vec 4 → Vec 4 → Option (Vec 4)
  | 0 => fun _ _ _ _ _ _ => none
  | n + 1 => fun v0 v1 v2 v3 v4 v5 => s29_0 N (l29_0 N  n) v0 v1 v2 v3 v4 v5
theorem eq29_0 (N : Nat) : ∀ n, raw29_0 N  n = l29_0 N  n := by
  intro n
  induction n with
  | zero => exact funext fun v0 => funext fun v1 => funext fun v2 => funext fun v3 => funext fun v4 => funext fun v5 => rfl
  | succ n ih => exact funext fun v0 => funext fun v1 => funext fun v2 => funext fun v3 => funext fun v4 => funext fun v5 => by rw [step29_0, ih]; rfl
noncomputable def t29 (N : Nat) (Le0 : Int → Int → Int → Vec 4 → Vec 4 → Vec 4 → Option (Vec 4)) (x0 : Vec 4) (x1 : Int) : Option (Vec 4) :=
  cond (ltI x1 1)
   (some x0)
   (cond (leI 256 x1)
    (some (Vec.zero 4))
    (Le0 x1 (quoI .i64 x1 64) 3 x0 (Vec.zero 4) (Vec.zero 4)))
noncomputable def fn_wide_Shl (N : Nat) (x0 : Vec 4) (x1 : Int) : Option (Vec 4) := t29 N (l29_0 N N) x0 x1
theorem run29 (N : Nat) (x0 : Vec 4) (x1 : Int) : Eng.run T29 (G29 N) N live29 c29 Tryd.f29.results.toList Tryd.f29.ntmps ((ad29).enc (x0, x1, ())) (rd29).dec = fn_wide_Shl N x0 x1 := by
  refine Eq.trans (show _ = t29 N (raw29_0 N N) x0 x1 from by kernel_rfl) ?_
  unfold fn_wide_Shl
  rw [eq29_0 N N]
noncomputable def F29 (N : Nat) (a : Vec 4 × Int × Unit) : Option (Vec 4) := fn_wide_Shl N a.1 a.2.1
theorem ok29 (N : Nat) : FnOK Tryd.prog 29 ad29 rd29 (F29 N) :=
  fn_ok (N := N) (live := live29) (code := c29) (tok T29.rt T29.kl) mixed (gok29 N) Tryd.func29 (by kernel_rfl) (by kernel_rfl) (by kernel_rfl) fun a p h => by rw [← h]; exact run29 N a.1 a.2.1

/-! ### tiller/wide.Sub: function 21 -/
noncomputable def c21 : Code := (Tryd.f21.body).getD .skip
noncomputable def T21 : Tb := ⟨tyOf tys, [(14, 2), (17, 3), (23, 2)], []⟩
noncomputable def G21 {R : Type} (N : Nat) : FuncId → List AV → (AV → Option R) → Option R := gCons 42 (gOf (aI3 .u64) (r2 (cInt .u64) (cInt .u64)) (fun a => sub64 a.1 a.2.1 a.2.2.1)) (gNil)
theorem gok21 {R : Type} (N : Nat) : GOK Tryd.prog (G21 (R := R) N) := gCons_ok (sub64_ok Tryd.func42 (by kernel_rfl) (by kernel_rfl) (by kernel_rfl) (by kernel_rfl)) (gNil_ok)
noncomputable def live21 : List (Nat × List (Nat × HK)) := [(3, [(2, .keep), (3, .keep), (4, .keep), (6, .keep), (8, .keep)])]
noncomputable def ad21 : Ad (Vec 4 × Vec 4 × Unit) := aC (cVec .u64 4) (aC (cVec .u64 4) (a0))
noncomputable def rd21 : Rd (Vec 4 × Bool) := r2 (cVec .u64 4) (cBool)
noncomputable def st21_0 (v0 : Int) (v1 : Int) (v2 : Vec 4) (v3 : Vec 4) (v4 : Vec 4) : St := ⟨[AV.none, AV.none, AV.ptr 2 0, AV.ptr 3 0, AV.ptr 4 0, AV.none, AV.v (.int .u64 v0), AV.none, AV.v (.int .i64 v1), AV.none, AV.none, AV.none, AV.none, AV.none, AV.none, AV.none, AV.none, AV.none, AV.none, AV.none, AV.none, AV.none, AV.none, AV.none, AV.none, AV.none, AV.none, AV.none], [none, none, some (OB.arr .u64 4 v2), some (OB.arr .u64 4 v3), some (OB.arr .u64 4 v4), none, none, none, none, none, none, none, none, none, none, none, none, none, none, none, none, none, none, none, none, none, none, none]⟩
noncomputable def raw21_0 (N : Nat) (n : Nat) (v0 : Int) (v1 : Int) (v2 : Vec 4) (v3 : Vec 4) (v4 : Vec 4) : Option (Vec 4 × Bool) := loopN (lookN live21 3) (exec T21 (G21 N) N live21 (cL (cL (cR (cL (cR (cR c21))))))) n (st21_0 v0 v1 v2 v3 v4) (blockK 0 (seqK (exec T21 (G21 N) N live21 (cR (cR (cR c21)))) (retK T21 Tryd.f21.results.toList (rd21).dec)))
noncomputable def s21_0 (N : Nat) (Ln0 : Int → Int → Vec 4 → Vec 4 → Vec 4 → Option (Vec 4 × Bool)) (v0 : Int) (v1 : Int) (v2 : Vec 4) (v3 : Vec 4) (v4 : Vec 4) : Option (Vec 4 × Bool) :=
  cond (ltI v1 4)
   (cond (leI 0 v1)
    (cond (ltI v1 4)
     (cond (leI 0 v1)
      (cond (ltI v1 4)
       ((sub64 (Vec.rd v2 v1) (Vec.rd v3 v1) v0).bind fun r1 =>
        cond (leI 0 v1)
         (cond (ltI v1 4)
          (Ln0 r1.2 (addI .i64 v1 1) (Vec.st v2 v1 r1.1) v3 v4)
          (none))
         (none))
       (none))
      (none))
     (none))
    (none))
   (some (v2, !(eqI v0 0)))
theorem step21_0 (N : Nat) (n : Nat) (v0 : Int) (v1 : Int) (v2 : Vec 4) (v3 : Vec 4) (v4 : Vec 4) : raw21_0 N  (n + 1) v0 v1 v2 v3 v4 = s21_0 N (raw21_0 N  n) v0 v1 v2 v3 v4 := by kernel_rfl
noncomputable def l21_0 (N : Nat) : Nat → Int → Int → Vec 4 → Vec 4 → Vec 4 → Option (Vec 4 × Bool)
  | 0 => fun _ _ _ _ _ => none
  | n + 1 => fun v0 v1 v2 v3 v4 => s21_0 N (l21_0 N  n) v0 v1 v2 v3 v4
theorem eq21_0 (N : Nat) : ∀ n, raw21_0 N  n = l21_0 N  n := by
  intro n
  induction n with
  | zero => exact funext fun v0 => funext fun v1 => funext fun v2 => funext fun v3 => funext fun v4 => rfl
  | succ n ih => exact funext fun v0 => funext fun v1 => funext fun v2 => funext fun v3 => funext fun v4 => by rw [step21_0, ih]; rfl
noncomputable def t21 (N : Nat) (Le0 : Int → Int → Vec 4 → Vec 4 → Vec 4 → Option (Vec 4 × Bool)) (x0 : Vec 4) (x1 : Vec 4) : Option (Vec 4 × Bool) :=
  Le0 0 0 x0 x1 (Vec.zero 4)
noncomputable def fn_wide_Sub (N : Nat) (x0 : Vec 4) (x1 : Vec 4) : Option (Vec 4 × Bool) := t21 N (l21_0 N N) x0 x1
theorem run21 (N : Nat) (x0 : Vec 4) (x1 : Vec 4) : Eng.run T21 (G21 N) N live21 c21 Tryd.f21.results.toList Tryd.f21.ntmps ((ad21).enc (x0, x1, ())) (rd21).dec = fn_wide_Sub N x0 x1 := by
  refine Eq.trans (show _ = t21 N (raw21_0 N N) x0 x1 from by kernel_rfl) ?_
  unfold fn_wide_Sub
  rw [eq21_0 N N]
noncomputable def F21 (N : Nat) (a : Vec 4 × Vec 4 × Unit) : Option (Vec 4 × Bool) := fn_wide_Sub N a.1 a.2.1
theorem ok21 (N : Nat) : FnOK Tryd.prog 21 ad21 rd21 (F21 N) :=
  fn_ok (N := N) (live := live21) (code := c21) (tok T21.rt T21.kl) mixed (gok21 N) Tryd.func21 (by kernel_rfl) (by kernel_rfl) (by kernel_rfl) fun a p h => by rw [← h]; exact run21 N a.1 a.2.1

/-! ### tiller/wide.DivMod: function 28 -/
noncomputable def c28 : Code := (Tryd.f28.body).getD .skip
noncomputable def T28 : Tb := ⟨tyOf tys, [(39, 7), (45, 7)], []⟩
noncomputable def G28 {R : Type} (N : Nat) : FuncId → List AV → (AV → Option R) → Option R := gCons 23 (gOf ad23 rd23 (F23 N)) (gCons 29 (gOf ad29 rd29 (F29 N)) (gCons 21 (gOf ad21 rd21 (F21 N)) (gNil)))
theorem gok28 {R : Type} (N : Nat) : GOK Tryd.prog (G28 (R := R) N) := gCons_ok (ok23 N) (gCons_ok (ok29 N) (gCons_ok (ok21 N) (gNil_ok)))
noncomputable def live28 : List (Nat × List (Nat × HK)) := [(5, [(2, .keep), (3, .keep), (4, .keep), (5, .keep), (7, .keep), (8, .keep)])]
noncomputable def ad28 : Ad (Vec 4 × Vec 4 × Unit) := aC (cVec .u64 4) (aC (cVec .u64 4) (a0))
noncomputable def rd28 : Rd (Vec 4 × Vec 4 × Option Int) := r3 (cVec .u64 4) (cVec .u64 4) (cErr 55)
noncomputable def st28_0 (v0 : Int) (v1 : Vec 4) (v2 : Vec 4) (v3 : Vec 4) (v4 : Vec 4) (v5 : Vec 4) : St := ⟨[AV.none, AV.none, AV.ptr 2 0, AV.ptr 3 0, AV.ptr 4 0, AV.ptr 5 0, AV.none, AV.ptr 7 0, AV.v (.int .i64 v0), AV.none, AV.none, AV.none, AV.none, AV.none, AV.none, AV.none, AV.none, AV.none, AV.none, AV.none, AV.none, AV.none, AV.none, AV.none, AV.none, AV.none, AV.none, AV.none, AV.none, AV.none, AV.none, AV.none, AV.none, AV.none, AV.none, AV.none, AV.none, AV.none, AV.none, AV.none, AV.none, AV.none, AV.none, AV.none, AV.none, AV.none, AV.none, AV.none], [none, none, some (OB.arr .u64 4 v1), some (OB.arr .u64 4 v2), some (OB.arr .u64 4 v3), some (OB.arr .u64 4 v4), none, some (OB.arr .u64 4 v5), none, none, none, none, none, none, none, none, none, none, none, none, none, none, none, none, none, none, none, none, none, none, none, none, none, none, none, none, none, none, none, none, none, none, none, none, none, none, none, none]⟩
noncomputable def raw28_0 (N : Nat) (n : Nat) (v0 : Int) (v1 : Vec 4) (v2 : Vec 4) (v3 : Vec 4) (v4 : Vec 4) (v5 : Vec 4) : Option (Vec 4 × Vec 4 × Option Int) := loopN (lookN live28 5) (exec T28 (G28 N) N live28 (cL (cL (cR (cL (cR (cR (cR c28)))))))) n (st28_0 v0 v1 v2 v3 v4 v5) (blockK 0 (seqK (exec T28 (G28 N) N live28 (cR (cR (cR (cR c28))))) (retK T28 Tryd.f28.results.toList (rd28).dec)))
noncomputable def s28_0 (N : Nat) (Ln0 : Int → Vec 4 → Vec 4 → Vec 4 → Vec 4 → Vec 4 → Option (Vec 4 × Vec 4 × Option Int)) (v0 : Int) (v1 : Vec 4) (v2 : Vec 4) (v3 : Vec 4) (v4 : Vec 4) (v5 : Vec 4) : Option (Vec 4 × Vec 4 × Option Int) :=
  cond (leI 0 v0)
   ((fn_wide_Shl N v2 v0).bind fun r3 =>
    (fn_wide_Sub N v1 r3).bind fun r4 =>
     cond (!(r4.2))
      (cond (leI 0 (quoI .i64 v0 64))
       (cond (ltI (quoI .i64 v0 64) 4)
        (cond (ltI (remI .i64 v0 64) 0)
         (none)
         (cond (leI 0 (quoI .i64 v0 64))
          (cond (ltI (quoI .i64 v0 64) 4)
           (Ln0 (subI .i64 v0 1) r4.1 v2 v3 v4 (Vec.st v5 (quoI .i64 v0 64) (orI .u64 (Vec.rd v5 (quoI .i64 v0 64)) (shlI .u64 1 (remI .i64 v0 64)))))
           (none))
          (none)))
        (none))
       (none))
      (Ln0 (subI .i64 v0 1) v1 v2 v3 v4 v5))
   (some (v5, v1, none))
theorem step28_0 (N : Nat) (n : Nat) (v0 : Int) (v1 : Vec 4) (v2 : Vec 4) (v3 : Vec 4) (v4 : Vec 4) (v5 : Vec 4) : raw28_0 N  (n + 1) v0 v1 v2 v3 v4 v5 = s28_0 N (raw28_0 N  n) v0 v1 v2 v3 v4 v5 := by kernel_rfl
noncomputable def l28_0 (N : Nat) : Nat → Int → Vec 4 → Vec 4 → Vec 4 → Vec 4 → Vec 4 → Option (Vec 4 × Vec 4 × Option Int)
  | 0 => fun _ _ _ _ _ _ => none
  | n + 1 => fun v0 v1 v2 v3 v4 v5 => s28_0 N (l28_0 N  n) v0 v1 v2 v3 v4 v5
theorem eq28_0 (N : Nat) : ∀ n, raw28_0 N  n = l28_0 N  n := by
  intro n
  induction n with
  | zero => exact funext fun v0 => funext fun v1 => funext fun v2 => funext fun v3 => funext fun v4 => funext fun v5 => rfl
  | succ n ih => exact funext fun v0 => funext fun v1 => funext fun v2 => funext fun v3 => funext fun v4 => funext fun v5 => by rw [step28_0, ih]; rfl
noncomputable def t28 (N : Nat) (Le0 : Int → Vec 4 → Vec 4 → Vec 4 → Vec 4 → Vec 4 → Option (Vec 4 × Vec 4 × Option Int)) (x0 : Vec 4) (x1 : Vec 4) : Option (Vec 4 × Vec 4 × Option Int) :=
  cond (eqL x1.1 (Vec.zero 4).1)
   (some (Vec.zero 4, Vec.zero 4, some 5))
   ((fn_wide_Len N x0).bind fun r1 =>
    (fn_wide_Len N x1).bind fun r2 =>
     Le0 (subI .i64 r1 r2) x0 x1 (Vec.zero 4) (Vec.zero 4) (Vec.zero 4))
noncomputable def fn_wide_DivMod (N : Nat) (x0 : Vec 4) (x1 : Vec 4) : Option (Vec 4 × Vec 4 × Option Int) := t28 N (l28_0 N N) x0 x1
theorem run28 (N : Nat) (x0 : Vec 4) (x1 : Vec 4) : Eng.run T28 (G28 N) N live28 c28 Tryd.f28.results.toList Tryd.f28.ntmps ((ad28).enc (x0, x1, ())) (rd28).dec = fn_wide_DivMod N x0 x1 := by
  refine Eq.trans (show _ = t28 N (raw28_0 N N) x0 x1 from by kernel_rfl) ?_
  unfold fn_wide_DivMod
  rw [eq28_0 N N]
noncomputable def F28 (N : Nat) (a : Vec 4 × Vec 4 × Unit) : Option (Vec 4 × Vec 4 × Option Int) := fn_wide_DivMod N a.1 a.2.1
theorem ok28 (N : Nat) : FnOK Tryd.prog 28 ad28 rd28 (F28 N) :=
  fn_ok (N := N) (live := live28) (code := c28) (tok T28.rt T28.kl) mixed (gok28 N) Tryd.func28 (by kernel_rfl) (by kernel_rfl) (by kernel_rfl) fun a p h => by rw [← h]; exact run28 N a.1 a.2.1

/-! ### tiller/wide.Add: function 30 -/
noncomputable def c30 : Code := (Tryd.f30.body).getD .skip
noncomputable def T30 : Tb := ⟨tyOf tys, [(14, 2), (17, 3), (23, 2)], []⟩
noncomputable def G30 {R : Type} (N : Nat) : FuncId → List AV → (AV → Option R) → Option R := gCons 47 (gOf (aI3 .u64) (r2 (cInt .u64) (cInt .u64)) (fun a => add64 a.1 a.2.1 a.2.2.1)) (gNil)
theorem gok30 {R : Type} (N : Nat) : GOK Tryd.prog (G30 (R := R) N) := gCons_ok (add64_ok Tryd.func47 (by kernel_rfl) (by kernel_rfl) (by kernel_rfl) (by kernel_rfl)) (gNil_ok)
noncomputable def live30 : List (Nat × List (Nat × HK)) := [(3, [(2, .keep), (3, .keep), (4, .keep), (6, .keep), (8, .keep)])]
noncomputable def ad30 : Ad (Vec 4 × Vec 4 × Unit) := aC (cVec .u64 4) (aC (cVec .u64 4) (a0))
noncomputable def rd30 : Rd (Vec 4 × Bool) := r2 (cVec .u64 4) (cBool)
noncomputable def st30_0 (v0 : Int) (v1 : Int) (v2 : Vec 4) (v3 : Vec 4) (v4 : Vec 4) : St := ⟨[AV.none, AV.none, AV.ptr 2 0, AV.ptr 3 0, AV.ptr 4 0, AV.none, AV.v (.int .u64 v0), AV.none, AV.v (.int .i64 v1), AV.none, AV.none, AV.none, AV.none, AV.none, AV.none, AV.none, AV.none, AV.none, AV.none, AV.none, AV.none, AV.none, AV.none, AV.none, AV.none, AV.none, AV.none, AV.none], [none, none, some (OB.arr .u64 4 v2), some (OB.arr .u64 4 v3), some (OB.arr .u64 4 v4), none, none, none, none, none, none, none, none, none, none, none, none, none, none, none, none, none, none, none, none, none, none, none]⟩
noncomputable def raw30_0 (N : Nat) (n : Nat) (v0 : Int) (v1 : Int) (v2 : Vec 4) (v3 : Vec 4) (v4 : Vec 4) : Option (Vec 4 × Bool) := loopN (lookN live30 3) (exec T30 (G30 N) N live30 (cL (cL (cR (cL (cR (cR c30))))))) n (st30_0 v0 v1 v2 v3 v4) (blockK 0 (seqK (exec T30 (G30 N) N live30 (cR (cR (cR c30)))) (retK T30 Tryd.f30.results.toList (rd30).dec)))
noncomputable def s30_0 (N : Nat) (Ln0 : Int → Int → Vec 4 → Vec 4 → Vec 4 → Option (Vec 4 × Bool)) (v0 : Int) (v1 : Int) (v2 : Vec 4) (v3 : Vec 4) (v4 : Vec 4) : Option (Vec 4 × Bool) :=
  cond (ltI v1 4)
   (cond (leI 0 v1)
    (cond (ltI v1 4)
     (cond (leI 0 v1)
      (cond (ltI v1 4)
       ((add64 (Vec.rd v2 v1) (Vec.rd v3 v1) v0).bind fun r1 =>
        cond (leI 0 v1)
         (cond (ltI v1 4)
          (Ln0 r1.2 (addI .i64 v1 1) (Vec.st v2 v1 r1.1) v3 v4)
          (none))
         (none))
       (none))
      (none))
     (none))
    (none))
   (some (v2, !(eqI v0 0)))
theorem step30_0 (N : Nat) (n : Nat) (v0 : Int) (v1 : Int) (v2 : Vec 4) (v3 : Vec 4) (v4 : Vec 4) : raw30_0 N  (n + 1) v0 v1 v2 v3 v4 = s30_0 N (raw30_0 N  n) v0 v1 v2 v3 v4 := by kernel_rfl
noncomputable def l30_0 (N : Nat) : Nat → Int → Int → Vec 4 → Vec 4 → Vec 4 → Option (Vec 4 × Bool)
  | 0 => fun _ _ _ _ _ => none
  | n + 1 => fun v0 v1 v2 v3 v4 => s30_0 N (l30_0 N  n) v0 v1 v2 v3 v4
theorem eq30_0 (N : Nat) : ∀ n, raw30_0 N  n = l30_0 N  n := by
  intro n
  induction n with
  | zero => exact funext fun v0 => funext fun v1 => funext fun v2 => funext fun v3 => funext fun v4 => rfl
  | succ n ih => exact funext fun v0 => funext fun v1 => funext fun v2 => funext fun v3 => funext fun v4 => by rw [step30_0, ih]; rfl
noncomputable def t30 (N : Nat) (Le0 : Int → Int → Vec 4 → Vec 4 → Vec 4 → Option (Vec 4 × Bool)) (x0 : Vec 4) (x1 : Vec 4) : Option (Vec 4 × Bool) :=
  Le0 0 0 x0 x1 (Vec.zero 4)
noncomputable def fn_wide_Add (N : Nat) (x0 : Vec 4) (x1 : Vec 4) : Option (Vec 4 × Bool) := t30 N (l30_0 N N) x0 x1
theorem run30 (N : Nat) (x0 : Vec 4) (x1 : Vec 4) : Eng.run T30 (G30 N) N live30 c30 Tryd.f30.results.toList Tryd.f30.ntmps ((ad30).enc (x0, x1, ())) (rd30).dec = fn_wide_Add N x0 x1 := by
  refine Eq.trans (show _ = t30 N (raw30_0 N N) x0 x1 from by kernel_rfl) ?_
  unfold fn_wide_Add
  rw [eq30_0 N N]
noncomputable def F30 (N : Nat) (a : Vec 4 × Vec 4 × Unit) : Option (Vec 4 × Bool) := fn_wide_Add N a.1 a.2.1
theorem ok30 (N : Nat) : FnOK Tryd.prog 30 ad30 rd30 (F30 N) :=
  fn_ok (N := N) (live := live30) (code := c30) (tok T30.rt T30.kl) mixed (gok30 N) Tryd.func30 (by kernel_rfl) (by kernel_rfl) (by kernel_rfl) fun a p h => by rw [← h]; exact run30 N a.1 a.2.1

/-! ### tiller/fix.Of: function 6 -/
noncomputable def c6 : Code := (Tryd.f6.body).getD .skip
noncomputable def T6 : Tb := ⟨tyOf tys, [], []⟩
noncomputable def G6 {R : Type} (N : Nat) : FuncId → List AV → (AV → Option R) → Option R := gCons 24 (gOf ad24 rd24 (F24 N)) (gCons 28 (gOf ad28 rd28 (F28 N)) (gCons 29 (gOf ad29 rd29 (F29 N)) (gCons 30 (gOf ad30 rd30 (F30 N)) (gNil))))
theorem gok6 {R : Type} (N : Nat) : GOK Tryd.prog (G6 (R := R) N) := gCons_ok (ok24 N) (gCons_ok (ok28 N) (gCons_ok (ok29 N) (gCons_ok (ok30 N) (gNil_ok))))
noncomputable def live6 : List (Nat × List (Nat × HK)) := []
noncomputable def ad6 : Ad (Int × Int × Unit) := aC (cInt .u64) (aC (cInt .u64) (a0))
noncomputable def rd6 : Rd (Vec 4 × Option Int) := r2 (cVec .u64 4) (cErr 55)
noncomputable def fn_fix_Of (N : Nat) (x0 : Int) (x1 : Int) : Option (Vec 4 × Option Int) :=
  cond (eqI x1 0)
   (some (Vec.zero 4, some 5))
   (cond (eqI x1 0)
    (none)
    (cond (leI 256 (quoI .u64 x0 x1))
     (some (Vec.zero 4, some 2))
     ((fn_wide_Of N x0).bind fun r1 =>
      (fn_wide_Of N x1).bind fun r2 =>
       (fn_wide_DivMod N r1 r2).bind fun r3 =>
        cond (!(isNoneI r3.2.2))
         (some (Vec.zero 4, r3.2.2))
         ((fn_wide_Shl N r3.2.1 128).bind fun r4 =>
          (fn_wide_Of N x1).bind fun r5 =>
           (fn_wide_DivMod N r4 r5).bind fun r6 =>
            cond (!(isNoneI r6.2.2))
             (some (Vec.zero 4, r6.2.2))
             ((fn_wide_Shl N r3.2.1 128).bind fun r7 =>
              (fn_wide_Of N x1).bind fun r8 =>
               (fn_wide_DivMod N r7 r8).bind fun r9 =>
                (fn_wide_Shl N r9.2.1 120).bind fun r10 =>
                 (fn_wide_Of N x1).bind fun r11 =>
                  (fn_wide_DivMod N r10 r11).bind fun r12 =>
                   (fn_wide_Shl N r3.1 248).bind fun r13 =>
                    (fn_wide_Shl N r6.1 120).bind fun r14 =>
                     (fn_wide_Add N r13 r14).bind fun r15 =>
                      (fn_wide_Add N r15.1 r12.1).bind fun r16 =>
                       some (r16.1, r12.2.2))))))
theorem run6 (N : Nat) (x0 : Int) (x1 : Int) : Eng.run T6 (G6 N) N live6 c6 Tryd.f6.results.toList Tryd.f6.ntmps ((ad6).enc (x0, x1, ())) (rd6).dec = fn_fix_Of N x0 x1 := by kernel_rfl
noncomputable def F6 (N : Nat) (a : Int × Int × Unit) : Option (Vec 4 × Option Int) := fn_fix_Of N a.1 a.2.1
theorem ok6 (N : Nat) : FnOK Tryd.prog 6 ad6 rd6 (F6 N) :=
  fn_ok (N := N) (live := live6) (code := c6) (tok T6.rt T6.kl) mixed (gok6 N) Tryd.func6 (by kernel_rfl) (by kernel_rfl) (by kernel_rfl) fun a p h => by rw [← h]; exact run6 N a.1 a.2.1

/-! ### tiller/tillerref02.trim: function 35 -/
noncomputable def c35 : Code := (Tryd.f35.body).getD .skip
noncomputable def T35 : Tb := ⟨tyOf tys, [], []⟩
noncomputable def G35 {R : Type} (N : Nat) : FuncId → List AV → (AV → Option R) → Option R := gNil
theorem gok35 {R : Type} (N : Nat) : GOK Tryd.prog (G35 (R := R) N) := gNil_ok
noncomputable def live35 : List (Nat × List (Nat × HK)) := [(2, [(0, .keep), (3, .keep)])]
noncomputable def ad35 : Ad (List Int × Unit) := aC (cLi .u32) (a0)
noncomputable def rd35 : Rd (List Int) := r1 (cLi .u32)
noncomputable def st35_0 (v0 : List Int) (v1 : Int) : St := ⟨[AV.li .u32 v0, AV.none, AV.none, AV.v (.int .i64 v1), AV.none, AV.none, AV.none, AV.none, AV.none, AV.none, AV.none, AV.none, AV.none, AV.none, AV.none, AV.none, AV.none, AV.none, AV.none, AV.none, AV.none, AV.none], [none, none, none, none, none, none, none, none, none, none, none, none, none, none, none, none, none, none, none, none, none, none]⟩
noncomputable def raw35_0 (N : Nat) (n : Nat) (v0 : List Int) (v1 : Int) : Option (List Int) := loopN (lookN live35 2) (exec T35 (G35 N) N live35 (cL (cL (cL (cR (cR c35)))))) n (st35_0 v0 v1) (blockK 0 (seqK (exec T35 (G35 N) N live35 (cR (cR (cR c35)))) (retK T35 Tryd.f35.results.toList (rd35).dec)))
noncomputable def s35_0 (N : Nat) (Ln0 : List Int → Int → Option (List Int)) (v0 : List Int) (v1 : Int) : Option (List Int) :=
  cond (ltI 0 v1)
   (cond (leI 0 (subI .i64 v1 1))
    (cond (ltI (subI .i64 v1 1) (v0.length : Int))
     (cond (eqI (lrd v0 (subI .i64 v1 1)) 0)
      (Ln0 v0 (subI .i64 v1 1))
      (cond (((((leI 0 0) && (leI 0 v1)) && (leI v1 v1)) && (leI v1 (v0.length : Int))) && (true || false))
       (some ((v0.take v1.toNat).drop ((0 : Int).toNat)))
       (none)))
     (none))
    (none))
   (cond (((((leI 0 0) && (leI 0 v1)) && (leI v1 v1)) && (leI v1 (v0.length : Int))) && (true || false))
    (some ((v0.take v1.toNat).drop ((0 : Int).toNat)))
    (none))
theorem step35_0 (N : Nat) (n : Nat) (v0 : List Int) (v1 : Int) : raw35_0 N  (n + 1) v0 v1 = s35_0 N (raw35_0 N  n) v0 v1 := by kernel_rfl
noncomputable def l35_0 (N : Nat) : Nat → List Int → Int → Option (List Int)
  | 0 => fun _ _ => none
  | n + 1 => fun v0 v1 => s35_0 N (l35_0 N  n) v0 v1
theorem eq35_0 (N : Nat) : ∀ n, raw35_0 N  n = l35_0 N  n := by
  intro n
  induction n with
  | zero => exact funext fun v0 => funext fun v1 => rfl
  | succ n ih => exact funext fun v0 => funext fun v1 => by rw [step35_0, ih]; rfl
noncomputable def t35 (N : Nat) (Le0 : List Int → Int → Option (List Int)) (x0 : List Int) : Option (List Int) :=
  Le0 x0 (x0.length : Int)
noncomputable def fn_tillerref02_trim (N : Nat) (x0 : List Int) : Option (List Int) := t35 N (l35_0 N N) x0
theorem run35 (N : Nat) (x0 : List Int) : Eng.run T35 (G35 N) N live35 c35 Tryd.f35.results.toList Tryd.f35.ntmps ((ad35).enc (x0, ())) (rd35).dec = fn_tillerref02_trim N x0 := by
  refine Eq.trans (show _ = t35 N (raw35_0 N N) x0 from by kernel_rfl) ?_
  unfold fn_tillerref02_trim
  rw [eq35_0 N N]
noncomputable def F35 (N : Nat) (a : List Int × Unit) : Option (List Int) := fn_tillerref02_trim N a.1
theorem ok35 (N : Nat) : FnOK Tryd.prog 35 ad35 rd35 (F35 N) :=
  fn_ok (N := N) (live := live35) (code := c35) (tok T35.rt T35.kl) mixed (gok35 N) Tryd.func35 (by kernel_rfl) (by kernel_rfl) (by kernel_rfl) fun a p h => by rw [← h]; exact run35 N a.1

/-! ### tiller/tillerref02.Of: function 32 -/
noncomputable def c32 : Code := (Tryd.f32.body).getD .skip
noncomputable def T32 : Tb := ⟨tyOf tys, [], [18]⟩
noncomputable def G32 {R : Type} (N : Nat) : FuncId → List AV → (AV → Option R) → Option R := gCons 35 (gOf ad35 rd35 (F35 N)) (gNil)
theorem gok32 {R : Type} (N : Nat) : GOK Tryd.prog (G32 (R := R) N) := gCons_ok (ok35 N) (gNil_ok)
noncomputable def live32 : List (Nat × List (Nat × HK)) := []
noncomputable def ad32 : Ad (Int × Unit) := aC (cInt .u64) (a0)
noncomputable def rd32 : Rd (List Int) := r1 (cLi .u32)
noncomputable def fn_tillerref02_Of (N : Nat) (x0 : Int) : Option (List Int) :=
  (fn_tillerref02_trim N [cvI .u32 (remI .u64 x0 65536), cvI .u32 (remI .u64 (quoI .u64 x0 65536) 65536), cvI .u32 (remI .u64 (quoI .u64 x0 4294967296) 65536), cvI .u32 (quoI .u64 x0 281474976710656)]).bind fun r1 =>
   some r1
theorem run32 (N : Nat) (x0 : Int) : Eng.run T32 (G32 N) N live32 c32 Tryd.f32.results.toList Tryd.f32.ntmps ((ad32).enc (x0, ())) (rd32).dec = fn_tillerref02_Of N x0 := by kernel_rfl
noncomputable def F32 (N : Nat) (a : Int × Unit) : Option (List Int) := fn_tillerref02_Of N a.1
theorem ok32 (N : Nat) : FnOK Tryd.prog 32 ad32 rd32 (F32 N) :=
  fn_ok (N := N) (live := live32) (code := c32) (tok T32.rt T32.kl) mixed (gok32 N) Tryd.func32 (by kernel_rfl) (by kernel_rfl) (by kernel_rfl) fun a p h => by rw [← h]; exact run32 N a.1

/-! ### tiller/tillerref02.Shl: function 22 -/
noncomputable def c22 : Code := (Tryd.f22.body).getD .skip
noncomputable def T22 : Tb := ⟨tyOf tys, [], [49]⟩
noncomputable def G22 {R : Type} (N : Nat) : FuncId → List AV → (AV → Option R) → Option R := gCons 35 (gOf ad35 rd35 (F35 N)) (gNil)
theorem gok22 {R : Type} (N : Nat) : GOK Tryd.prog (G22 (R := R) N) := gCons_ok (ok35 N) (gNil_ok)
noncomputable def live22 : List (Nat × List (Nat × HK)) := [(6, [(0, .keep), (1, .keep), (5, .row .u32 62), (6, .keep), (7, .keep)]), (11, [(0, .keep), (5, .row .u32 62), (6, .keep), (8, .keep), (9, .keep)])]
noncomputable def ad22 : Ad (List Int × Int × Unit) := aC (cLi .u32) (aC (cInt .i64) (a0))
noncomputable def rd22 : Rd (List Int) := r1 (cLi .u32)
noncomputable def st22_0 (v0 : List Int) (v1 : Int) (v2 : Int) (v3 : Int) (v4 : List Int) : St := ⟨[AV.li .u32 v0, AV.v (.int .i64 v1), AV.none, AV.none, AV.none, AV.own 5, AV.v (.int .u32 v2), AV.v (.int .i64 v3), AV.none, AV.none, AV.none, AV.none, AV.none, AV.none, AV.none, AV.none, AV.none, AV.none, AV.none, AV.none, AV.none, AV.none, AV.none, AV.none, AV.none, AV.none, AV.none, AV.none, AV.none, AV.none, AV.none, AV.none, AV.none, AV.none, AV.none, AV.none, AV.none, AV.none, AV.none, AV.none, AV.none, AV.none, AV.none, AV.none, AV.none, AV.none, AV.none, AV.none, AV.none, AV.none], [none, none, none, none, none, some (OB.row .u32 62 v4), none, none, none, none, none, none, none, none, none, none, none, none, none, none, none, none, none, none, none, none, none, none, none, none, none, none, none, none, none, none, none, none, none, none, none, none, none, none, none, none, none, none, none, none]⟩
noncomputable def raw22_0 (N : Nat) (n : Nat) (v0 : List Int) (v1 : Int) (v2 : Int) (v3 : Int) (v4 : List Int) : Option (List Int) := loopN (lookN live22 6) (exec T22 (G22 N) N live22 (cL (cL (cR (cL (cR (cR (cR (cR c22))))))))) n (st22_0 v0 v1 v2 v3 v4) (blockK 0 (seqK (exec T22 (G22 N) N live22 (cR (cR (cR (cR (cR c22)))))) (retK T22 Tryd.f22.results.toList (rd22).dec)))
noncomputable def st22_1 (v0 : List Int) (v1 : Int) (v2 : Int) (v3 : Int) (v4 : List Int) : St := ⟨[AV.li .u32 v0, AV.none, AV.none, AV.none, AV.none, AV.own 5, AV.v (.int .u32 v1), AV.none, AV.v (.int .u32 v2), AV.v (.int .i64 v3), AV.none, AV.none, AV.none, AV.none, AV.none, AV.none, AV.none, AV.none, AV.none, AV.none, AV.none, AV.none, AV.none, AV.none, AV.none, AV.none, AV.none, AV.none, AV.none, AV.none, AV.none, AV.none, AV.none, AV.none, AV.none, AV.none, AV.none, AV.none, AV.none, AV.none, AV.none, AV.none, AV.none, AV.none, AV.none, AV.none, AV.none, AV.none, AV.none, AV.none], [none, none, none, none, none, some (OB.row .u32 62 v4), none, none, none, none, none, none, none, none, none, none, none, none, none, none, none, none, none, none, none, none, none, none, none, none, none, none, none, none, none, none, none, none, none, none, none, none, none, none, none, none, none, none, none, none]⟩
noncomputable def raw22_1 (N : Nat) (n : Nat) (v0 : List Int) (v1 : Int) (v2 : Int) (v3 : Int) (v4 : List Int) : Option (List Int) := loopN (lookN live22 11) (exec T22 (G22 N) N live22 (cL (cL (cR (cL (cR (cR (cR (cR (cR (cR c22))))))))))) n (st22_1 v0 v1 v2 v3 v4) (blockK 2 (seqK (exec T22 (G22 N) N live22 (cR (cR (cR (cR (cR (cR (cR c22)))))))) (retK T22 Tryd.f22.results.toList (rd22).dec)))
noncomputable def s22_1 (N : Nat) (Ln1 : List Int → Int → Int → Int → List Int → Option (List Int)) (v0 : List Int) (v1 : Int) (v2 : Int) (v3 : Int) (v4 : List Int) : Option (List Int) :=
  cond (ltI v3 (v0.length : Int))
   (cond (leI 0 v3)
    (cond (ltI v3 (v0.length : Int))
     (cond (fitL (v4.length + [remI .u32 (addI .u32 v2 (mulI .u32 (lrd v0 v3) v1)) 65536].length))
      (Ln1 v0 v1 (quoI .u32 (addI .u32 v2 (mulI .u32 (lrd v0 v3) v1)) 65536) (addI .i64 v3 1) (v4 ++ [remI .u32 (addI .u32 v2 (mulI .u32 (lrd v0 v3) v1)) 65536]))
      (none))
     (none))
    (none))
   (cond (fitL (v4.length + [v2].length))
    ((fn_tillerref02_trim N (v4 ++ [v2])).bind fun r1 =>
     some r1)
    (none))
theorem step22_1 (N : Nat) (n : Nat) (v0 : List Int) (v1 : Int) (v2 : Int) (v3 : Int) (v4 : List Int) : raw22_1 N  (n + 1) v0 v1 v2 v3 v4 = s22_1 N (raw22_1 N  n) v0 v1 v2 v3 v4 := by kernel_rfl
noncomputable def l22_1 (N : Nat) : Nat → List Int → Int → Int → Int → List Int → Option (List Int)
  | 0 => fun _ _ _ _ _ => none
  | n + 1 => fun v0 v1 v2 v3 v4 => s22_1 N (l22_1 N  n) v0 v1 v2 v3 v4
theorem eq22_1 (N : Nat) : ∀ n, raw22_1 N  n = l22_1 N  n := by
  intro n
  induction n with
  | zero => exact funext fun v0 => funext fun v1 => funext fun v2 => funext fun v3 => funext fun v4 => rfl
  | succ n ih => exact funext fun v0 => funext fun v1 => funext fun v2 => funext fun v3 => funext fun v4 => by rw [step22_1, ih]; rfl
noncomputable def s22_0 (N : Nat) (Ln0 : List Int → Int → Int → Int → List Int → Option (List Int)) (Le1 : List Int → Int → Int → Int → List Int → Option (List Int)) (v0 : List Int) (v1 : Int) (v2 : Int) (v3 : Int) (v4 : List Int) : Option (List Int) :=
  cond (ltI v3 (remI .i64 v1 16))
   (Ln0 v0 v1 (mulI .u32 2 v2) (addI .i64 v3 1) v4)
   (Le1 v0 v2 0 0 v4)
theorem step22_0 (N : Nat) (n : Nat) (v0 : List Int) (v1 : Int) (v2 : Int) (v3 : Int) (v4 : List Int) : raw22_0 N  (n + 1) v0 v1 v2 v3 v4 = s22_0 N (raw22_0 N  n) (raw22_1 N  N) v0 v1 v2 v3 v4 := by kernel_rfl
noncomputable def l22_0 (N : Nat) : Nat → List Int → Int → Int → Int → List Int → Option (List Int)
  | 0 => fun _ _ _ _ _ => none
  | n + 1 => fun v0 v1 v2 v3 v4 => s22_0 N (l22_0 N  n) (l22_1 N  N) v0 v1 v2 v3 v4
theorem eq22_0 (N : Nat) : ∀ n, raw22_0 N  n = l22_0 N  n := by
  intro n
  induction n with
  | zero => exact funext fun v0 => funext fun v1 => funext fun v2 => funext fun v3 => funext fun v4 => rfl
  | succ n ih => exact funext fun v0 => funext fun v1 => funext fun v2 => funext fun v3 => funext fun v4 => by rw [step22_0, eq22_1 N  N, ih]; rfl
noncomputable def t22 (N : Nat) (Le0 : List Int → Int → Int → Int → List Int → Option (List Int)) (x0 : List Int) (x1 : Int) : Option (List Int) :=
  cond (eqI (x0.length : Int) 0)
   (some [])
   (cond (leI 0 (quoI .i64 x1 16))
    (cond (leI (quoI .i64 x1 16) 17592186044416)
     (Le0 x0 x1 1 0 (List.replicate ((quoI .i64 x1 16).toNat) (0 : Int)))
     (none))
    (none))
noncomputable def fn_tillerref02_Shl (N : Nat) (x0 : List Int) (x1 : Int) : Option (List Int) := t22 N (l22_0 N N) x0 x1
theorem run22 (N : Nat) (x0 : List Int) (x1 : Int) : Eng.run T22 (G22 N) N live22 c22 Tryd.f22.results.toList Tryd.f22.ntmps ((ad22).enc (x0, x1, ())) (rd22).dec = fn_tillerref02_Shl N x0 x1 := by
  refine Eq.trans (show _ = t22 N (raw22_0 N N) x0 x1 from by kernel_rfl) ?_
  unfold fn_tillerref02_Shl
  rw [eq22_0 N N]
noncomputable def F22 (N : Nat) (a : List Int × Int × Unit) : Option (List Int) := fn_tillerref02_Shl N a.1 a.2.1
theorem ok22 (N : Nat) : FnOK Tryd.prog 22 ad22 rd22 (F22 N) :=
  fn_ok (N := N) (live := live22) (code := c22) (tok T22.rt T22.kl) mixed (gok22 N) Tryd.func22 (by kernel_rfl) (by kernel_rfl) (by kernel_rfl) fun a p h => by rw [← h]; exact run22 N a.1 a.2.1

/-! ### tiller/tillerref02.at: function 34 -/
noncomputable def c34 : Code := (Tryd.f34.body).getD .skip
noncomputable def T34 : Tb := ⟨tyOf tys, [], []⟩
noncomputable def G34 {R : Type} (N : Nat) : FuncId → List AV → (AV → Option R) → Option R := gNil
theorem gok34 {R : Type} (N : Nat) : GOK Tryd.prog (G34 (R := R) N) := gNil_ok
noncomputable def live34 : List (Nat × List (Nat × HK)) := []
noncomputable def ad34 : Ad (List Int × Int × Unit) := aC (cLi .u32) (aC (cInt .i64) (a0))
noncomputable def rd34 : Rd (Int) := r1 (cInt .u32)
noncomputable def fn_tillerref02_at (N : Nat) (x0 : List Int) (x1 : Int) : Option (Int) :=
  cond (leI 0 x1)
   (cond (ltI x1 (x0.length : Int))
    (cond (leI 0 x1)
     (cond (ltI x1 (x0.length : Int))
      (some (lrd x0 x1))
      (none))
     (none))
    (some 0))
   (some 0)
theorem run34 (N : Nat) (x0 : List Int) (x1 : Int) : Eng.run T34 (G34 N) N live34 c34 Tryd.f34.results.toList Tryd.f34.ntmps ((ad34).enc (x0, x1, ())) (rd34).dec = fn_tillerref02_at N x0 x1 := by kernel_rfl
noncomputable def F34 (N : Nat) (a : List Int × Int × Unit) : Option (Int) := fn_tillerref02_at N a.1 a.2.1
theorem ok34 (N : Nat) : FnOK Tryd.prog 34 ad34 rd34 (F34 N) :=
  fn_ok (N := N) (live := live34) (code := c34) (tok T34.rt T34.kl) mixed (gok34 N) Tryd.func34 (by kernel_rfl) (by kernel_rfl) (by kernel_rfl) fun a p h => by rw [← h]; exact run34 N a.1 a.2.1

/-! ### tiller/tillerref02.Cmp: function 11 -/
noncomputable def c11 : Code := (Tryd.f11.body).getD .skip
noncomputable def T11 : Tb := ⟨tyOf tys, [], []⟩
noncomputable def G11 {R : Type} (N : Nat) : FuncId → List AV → (AV → Option R) → Option R := gCons 34 (gOf ad34 rd34 (F34 N)) (gNil)
theorem gok11 {R : Type} (N : Nat) : GOK Tryd.prog (G11 (R := R) N) := gCons_ok (ok34 N) (gNil_ok)
noncomputable def live11 : List (Nat × List (Nat × HK)) := [(2, [(0, .keep), (1, .keep), (5, .keep)])]
noncomputable def ad11 : Ad (List Int × List Int × Unit) := aC (cLi .u32) (aC (cLi .u32) (a0))
noncomputable def rd11 : Rd (Int) := r1 (cInt .i64)
noncomputable def st11_0 (v0 : List Int) (v1 : List Int) (v2 : Int) : St := ⟨[AV.li .u32 v0, AV.li .u32 v1, AV.none, AV.none, AV.none, AV.v (.int .i64 v2), AV.none, AV.none, AV.none, AV.none, AV.none, AV.none, AV.none, AV.none, AV.none, AV.none, AV.none, AV.none, AV.none, AV.none, AV.none, AV.none, AV.none, AV.none, AV.none, AV.none, AV.none, AV.none, AV.none, AV.none], [none, none, none, none, none, none, none, none, none, none, none, none, none, none, none, none, none, none, none, none, none, none, none, none, none, none, none, none, none, none]⟩
noncomputable def raw11_0 (N : Nat) (n : Nat) (v0 : List Int) (v1 : List Int) (v2 : Int) : Option (Int) := loopN (lookN live11 2) (exec T11 (G11 N) N live11 (cL (cL (cR (cL (cR c11)))))) n (st11_0 v0 v1 v2) (blockK 0 (seqK (exec T11 (G11 N) N live11 (cR (cR c11))) (retK T11 Tryd.f11.results.toList (rd11).dec)))
noncomputable def s11_0 (N : Nat) (Ln0 : List Int → List Int → Int → Option (Int)) (v0 : List Int) (v1 : List Int) (v2 : Int) : Option (Int) :=
  cond (leI 0 v2)
   ((fn_tillerref02_at N v0 v2).bind fun r1 =>
    (fn_tillerref02_at N v1 v2).bind fun r2 =>
     cond (ltI r1 r2)
      (some (-1))
      ((fn_tillerref02_at N v0 v2).bind fun r3 =>
       (fn_tillerref02_at N v1 v2).bind fun r4 =>
        cond (ltI r4 r3)
         (some 1)
         (Ln0 v0 v1 (subI .i64 v2 1))))
   (some 0)
theorem step11_0 (N : Nat) (n : Nat) (v0 : List Int) (v1 : List Int) (v2 : Int) : raw11_0 N  (n + 1) v0 v1 v2 = s11_0 N (raw11_0 N  n) v0 v1 v2 := by kernel_rfl
noncomputable def l11_0 (N : Nat) : Nat → List Int → List Int → Int → Option (Int)
  | 0 => fun _ _ _ => none
  | n + 1 => fun v0 v1 v2 => s11_0 N (l11_0 N  n) v0 v1 v2
theorem eq11_0 (N : Nat) : ∀ n, raw11_0 N  n = l11_0 N  n := by
  intro n
  induction n with
  | zero => exact funext fun v0 => funext fun v1 => funext fun v2 => rfl
  | succ n ih => exact funext fun v0 => funext fun v1 => funext fun v2 => by rw [step11_0, ih]; rfl
noncomputable def t11 (N : Nat) (Le0 : List Int → List Int → Int → Option (Int)) (x0 : List Int) (x1 : List Int) : Option (Int) :=
  Le0 x0 x1 (subI .i64 (maxI (x0.length : Int) (x1.length : Int)) 1)
noncomputable def fn_tillerref02_Cmp (N : Nat) (x0 : List Int) (x1 : List Int) : Option (Int) := t11 N (l11_0 N N) x0 x1
theorem run11 (N : Nat) (x0 : List Int) (x1 : List Int) : Eng.run T11 (G11 N) N live11 c11 Tryd.f11.results.toList Tryd.f11.ntmps ((ad11).enc (x0, x1, ())) (rd11).dec = fn_tillerref02_Cmp N x0 x1 := by
  refine Eq.trans (show _ = t11 N (raw11_0 N N) x0 x1 from by kernel_rfl) ?_
  unfold fn_tillerref02_Cmp
  rw [eq11_0 N N]
noncomputable def F11 (N : Nat) (a : List Int × List Int × Unit) : Option (Int) := fn_tillerref02_Cmp N a.1 a.2.1
theorem ok11 (N : Nat) : FnOK Tryd.prog 11 ad11 rd11 (F11 N) :=
  fn_ok (N := N) (live := live11) (code := c11) (tok T11.rt T11.kl) mixed (gok11 N) Tryd.func11 (by kernel_rfl) (by kernel_rfl) (by kernel_rfl) fun a p h => by rw [← h]; exact run11 N a.1 a.2.1

/-! ### tiller/tillerref02.Small: function 48 -/
noncomputable def c48 : Code := (Tryd.f48.body).getD .skip
noncomputable def T48 : Tb := ⟨tyOf tys, [], [40]⟩
noncomputable def G48 {R : Type} (N : Nat) : FuncId → List AV → (AV → Option R) → Option R := gCons 34 (gOf ad34 rd34 (F34 N)) (gCons 35 (gOf ad35 rd35 (F35 N)) (gNil))
theorem gok48 {R : Type} (N : Nat) : GOK Tryd.prog (G48 (R := R) N) := gCons_ok (ok34 N) (gCons_ok (ok35 N) (gNil_ok))
noncomputable def live48 : List (Nat × List (Nat × HK)) := [(4, [(0, .keep), (1, .keep), (7, .row .u32 62), (8, .keep), (9, .keep)])]
noncomputable def ad48 : Ad (List Int × Int × Int × Unit) := aC (cLi .u32) (aC (cInt .u32) (aC (cInt .u32) (a0)))
noncomputable def rd48 : Rd (List Int) := r1 (cLi .u32)
noncomputable def st48_0 (v0 : List Int) (v1 : Int) (v2 : Int) (v3 : Int) (v4 : List Int) : St := ⟨[AV.li .u32 v0, AV.v (.int .u32 v1), AV.none, AV.none, AV.none, AV.none, AV.none, AV.own 7, AV.v (.int .u64 v2), AV.v (.int .i64 v3), AV.none, AV.none, AV.none, AV.none, AV.none, AV.none, AV.none, AV.none, AV.none, AV.none, AV.none, AV.none, AV.none, AV.none, AV.none, AV.none, AV.none, AV.none, AV.none, AV.none, AV.none, AV.none, AV.none, AV.none, AV.none, AV.none, AV.none, AV.none, AV.none, AV.none, AV.none], [none, none, none, none, none, none, none, some (OB.row .u32 62 v4), none, none, none, none, none, none, none, none, none, none, none, none, none, none, none, none, none, none, none, none, none, none, none, none, none, none, none, none, none, none, none, none, none]⟩
noncomputable def raw48_0 (N : Nat) (n : Nat) (v0 : List Int) (v1 : Int) (v2 : Int) (v3 : Int) (v4 : List Int) : Option (List Int) := loopN (lookN live48 4) (exec T48 (G48 N) N live48 (cL (cL (cR (cL (cR (cR (cR c48)))))))) n (st48_0 v0 v1 v2 v3 v4) (blockK 0 (seqK (exec T48 (G48 N) N live48 (cR (cR (cR (cR c48))))) (retK T48 Tryd.f48.results.toList (rd48).dec)))
noncomputable def s48_0 (N : Nat) (Ln0 : List Int → Int → Int → Int → List Int → Option (List Int)) (v0 : List Int) (v1 : Int) (v2 : Int) (v3 : Int) (v4 : List Int) : Option (List Int) :=
  cond (ltI v3 (v0.length : Int))
   ((fn_tillerref02_at N v0 v3).bind fun r1 =>
    cond (fitL (v4.length + [cvI .u32 (remI .u64 (addI .u64 v2 (mulI .u64 (cvI .u64 r1) (cvI .u64 v1))) 65536)].length))
     (Ln0 v0 v1 (quoI .u64 (addI .u64 v2 (mulI .u64 (cvI .u64 r1) (cvI .u64 v1))) 65536) (addI .i64 v3 1) (v4 ++ [cvI .u32 (remI .u64 (addI .u64 v2 (mulI .u64 (cvI .u64 r1) (cvI .u64 v1))) 65536)]))
     (none))
   (cond (ltI 0 v2)
    ((fn_tillerref02_at N v0 v3).bind fun r2 =>
     cond (fitL (v4.length + [cvI .u32 (remI .u64 (addI .u64 v2 (mulI .u64 (cvI .u64 r2) (cvI .u64 v1))) 65536)].length))
      (Ln0 v0 v1 (quoI .u64 (addI .u64 v2 (mulI .u64 (cvI .u64 r2) (cvI .u64 v1))) 65536) (addI .i64 v3 1) (v4 ++ [cvI .u32 (remI .u64 (addI .u64 v2 (mulI .u64 (cvI .u64 r2) (cvI .u64 v1))) 65536)]))
      (none))
    ((fn_tillerref02_trim N v4).bind fun r3 =>
     some r3))
theorem step48_0 (N : Nat) (n : Nat) (v0 : List Int) (v1 : Int) (v2 : Int) (v3 : Int) (v4 : List Int) : raw48_0 N  (n + 1) v0 v1 v2 v3 v4 = s48_0 N (raw48_0 N  n) v0 v1 v2 v3 v4 := by kernel_rfl
noncomputable def l48_0 (N : Nat) : Nat → List Int → Int → Int → Int → List Int → Option (List Int)
  | 0 => fun _ _ _ _ _ => none
  | n + 1 => fun v0 v1 v2 v3 v4 => s48_0 N (l48_0 N  n) v0 v1 v2 v3 v4
theorem eq48_0 (N : Nat) : ∀ n, raw48_0 N  n = l48_0 N  n := by
  intro n
  induction n with
  | zero => exact funext fun v0 => funext fun v1 => funext fun v2 => funext fun v3 => funext fun v4 => rfl
  | succ n ih => exact funext fun v0 => funext fun v1 => funext fun v2 => funext fun v3 => funext fun v4 => by rw [step48_0, ih]; rfl
noncomputable def t48 (N : Nat) (Le0 : List Int → Int → Int → Int → List Int → Option (List Int)) (x0 : List Int) (x1 : Int) (x2 : Int) : Option (List Int) :=
  Le0 x0 x1 (cvI .u64 x2) 0 []
noncomputable def fn_tillerref02_Small (N : Nat) (x0 : List Int) (x1 : Int) (x2 : Int) : Option (List Int) := t48 N (l48_0 N N) x0 x1 x2
theorem run48 (N : Nat) (x0 : List Int) (x1 : Int) (x2 : Int) : Eng.run T48 (G48 N) N live48 c48 Tryd.f48.results.toList Tryd.f48.ntmps ((ad48).enc (x0, x1, x2, ())) (rd48).dec = fn_tillerref02_Small N x0 x1 x2 := by
  refine Eq.trans (show _ = t48 N (raw48_0 N N) x0 x1 x2 from by kernel_rfl) ?_
  unfold fn_tillerref02_Small
  rw [eq48_0 N N]
noncomputable def F48 (N : Nat) (a : List Int × Int × Int × Unit) : Option (List Int) := fn_tillerref02_Small N a.1 a.2.1 a.2.2.1
theorem ok48 (N : Nat) : FnOK Tryd.prog 48 ad48 rd48 (F48 N) :=
  fn_ok (N := N) (live := live48) (code := c48) (tok T48.rt T48.kl) mixed (gok48 N) Tryd.func48 (by kernel_rfl) (by kernel_rfl) (by kernel_rfl) fun a p h => by rw [← h]; exact run48 N a.1 a.2.1 a.2.2.1

/-! ### tiller/tillerref02.Sub: function 49 -/
noncomputable def c49 : Code := (Tryd.f49.body).getD .skip
noncomputable def T49 : Tb := ⟨tyOf tys, [], [34]⟩
noncomputable def G49 {R : Type} (N : Nat) : FuncId → List AV → (AV → Option R) → Option R := gCons 34 (gOf ad34 rd34 (F34 N)) (gCons 35 (gOf ad35 rd35 (F35 N)) (gNil))
theorem gok49 {R : Type} (N : Nat) : GOK Tryd.prog (G49 (R := R) N) := gCons_ok (ok34 N) (gCons_ok (ok35 N) (gNil_ok))
noncomputable def live49 : List (Nat × List (Nat × HK)) := [(4, [(0, .keep), (1, .keep), (5, .row .u32 62), (6, .keep), (7, .keep)])]
noncomputable def ad49 : Ad (List Int × List Int × Unit) := aC (cLi .u32) (aC (cLi .u32) (a0))
noncomputable def rd49 : Rd (List Int) := r1 (cLi .u32)
noncomputable def st49_0 (v0 : List Int) (v1 : List Int) (v2 : Int) (v3 : Int) (v4 : List Int) : St := ⟨[AV.li .u32 v0, AV.li .u32 v1, AV.none, AV.none, AV.none, AV.own 5, AV.v (.int .u32 v2), AV.v (.int .i64 v3), AV.none, AV.none, AV.none, AV.none, AV.none, AV.none, AV.none, AV.none, AV.none, AV.none, AV.none, AV.none, AV.none, AV.none, AV.none, AV.none, AV.none, AV.none, AV.none, AV.none, AV.none, AV.none, AV.none, AV.none, AV.none, AV.none, AV.none], [none, none, none, none, none, some (OB.row .u32 62 v4), none, none, none, none, none, none, none, none, none, none, none, none, none, none, none, none, none, none, none, none, none, none, none, none, none, none, none, none, none]⟩
noncomputable def raw49_0 (N : Nat) (n : Nat) (v0 : List Int) (v1 : List Int) (v2 : Int) (v3 : Int) (v4 : List Int) : Option (List Int) := loopN (lookN live49 4) (exec T49 (G49 N) N live49 (cL (cL (cR (cL (cR (cR (cR c49)))))))) n (st49_0 v0 v1 v2 v3 v4) (blockK 0 (seqK (exec T49 (G49 N) N live49 (cR (cR (cR (cR c49))))) (retK T49 Tryd.f49.results.toList (rd49).dec)))
noncomputable def s49_0 (N : Nat) (Ln0 : List Int → List Int → Int → Int → List Int → Option (List Int)) (v0 : List Int) (v1 : List Int) (v2 : Int) (v3 : Int) (v4 : List Int) : Option (List Int) :=
  cond (ltI v3 (v0.length : Int))
   ((fn_tillerref02_at N v0 v3).bind fun r1 =>
    (fn_tillerref02_at N v1 v3).bind fun r2 =>
     cond (fitL (v4.length + [remI .u32 (subI .u32 (subI .u32 (addI .u32 65536 r1) r2) v2) 65536].length))
      (Ln0 v0 v1 (subI .u32 1 (quoI .u32 (subI .u32 (subI .u32 (addI .u32 65536 r1) r2) v2) 65536)) (addI .i64 v3 1) (v4 ++ [remI .u32 (subI .u32 (subI .u32 (addI .u32 65536 r1) r2) v2) 65536]))
      (none))
   ((fn_tillerref02_trim N v4).bind fun r3 =>
    some r3)
theorem step49_0 (N : Nat) (n : Nat) (v0 : List Int) (v1 : List Int) (v2 : Int) (v3 : Int) (v4 : List Int) : raw49_0 N  (n + 1) v0 v1 v2 v3 v4 = s49_0 N (raw49_0 N  n) v0 v1 v2 v3 v4 := by kernel_rfl
noncomputable def l49_0 (N : Nat) : Nat → List Int → List Int → Int → Int → List Int → Option (List Int)
  | 0 => fun _ _ _ _ _ => none
  | n + 1 => fun v0 v1 v2 v3 v4 => s49_0 N (l49_0 N  n) v0 v1 v2 v3 v4
theorem eq49_0 (N : Nat) : ∀ n, raw49_0 N  n = l49_0 N  n := by
  intro n
  induction n with
  | zero => exact funext fun v0 => funext fun v1 => funext fun v2 => funext fun v3 => funext fun v4 => rfl
  | succ n ih => exact funext fun v0 => funext fun v1 => funext fun v2 => funext fun v3 => funext fun v4 => by rw [step49_0, ih]; rfl
noncomputable def t49 (N : Nat) (Le0 : List Int → List Int → Int → Int → List Int → Option (List Int)) (x0 : List Int) (x1 : List Int) : Option (List Int) :=
  Le0 x0 x1 0 0 []
noncomputable def fn_tillerref02_Sub (N : Nat) (x0 : List Int) (x1 : List Int) : Option (List Int) := t49 N (l49_0 N N) x0 x1
theorem run49 (N : Nat) (x0 : List Int) (x1 : List Int) : Eng.run T49 (G49 N) N live49 c49 Tryd.f49.results.toList Tryd.f49.ntmps ((ad49).enc (x0, x1, ())) (rd49).dec = fn_tillerref02_Sub N x0 x1 := by
  refine Eq.trans (show _ = t49 N (raw49_0 N N) x0 x1 from by kernel_rfl) ?_
  unfold fn_tillerref02_Sub
  rw [eq49_0 N N]
noncomputable def F49 (N : Nat) (a : List Int × List Int × Unit) : Option (List Int) := fn_tillerref02_Sub N a.1 a.2.1
theorem ok49 (N : Nat) : FnOK Tryd.prog 49 ad49 rd49 (F49 N) :=
  fn_ok (N := N) (live := live49) (code := c49) (tok T49.rt T49.kl) mixed (gok49 N) Tryd.func49 (by kernel_rfl) (by kernel_rfl) (by kernel_rfl) fun a p h => by rw [← h]; exact run49 N a.1 a.2.1

/-! ### tiller/tillerref02.Parts: function 31 -/
noncomputable def c31 : Code := (Tryd.f31.body).getD .skip
noncomputable def T31 : Tb := ⟨tyOf tys, [(91, 7)], [32, 93]⟩
noncomputable def G31 {R : Type} (N : Nat) : FuncId → List AV → (AV → Option R) → Option R := gCons 35 (gOf ad35 rd35 (F35 N)) (gCons 11 (gOf ad11 rd11 (F11 N)) (gCons 34 (gOf ad34 rd34 (F34 N)) (gCons 48 (gOf ad48 rd48 (F48 N)) (gCons 49 (gOf ad49 rd49 (F49 N)) (gNil)))))
theorem gok31 {R : Type} (N : Nat) : GOK Tryd.prog (G31 (R := R) N) := gCons_ok (ok35 N) (gCons_ok (ok11 N) (gCons_ok (ok34 N) (gCons_ok (ok48 N) (gCons_ok (ok49 N) (gNil_ok)))))
noncomputable def live31 : List (Nat × List (Nat × HK)) := [(5, [(0, .keep), (1, .keep), (6, .li .u32), (7, .row .u32 62), (8, .keep), (9, .keep)]), (12, [(0, .keep), (1, .keep), (6, .keep), (7, .row .u32 62), (8, .keep), (9, .keep), (11, .keep), (12, .keep)])]
noncomputable def ad31 : Ad (List Int × List Int × Unit) := aC (cLi .u32) (aC (cLi .u32) (a0))
noncomputable def rd31 : Rd (List Int × List Int) := r2 (cLi .u32) (cLi .u32)
noncomputable def st31_0 (v0 : List Int) (v1 : List Int) (v2 : List Int) (v3 : Int) (v4 : Int) (v5 : List Int) : St := ⟨[AV.li .u32 v0, AV.li .u32 v1, AV.none, AV.none, AV.none, AV.none, AV.li .u32 v2, AV.own 7, AV.v (.int .i64 v3), AV.v (.int .i64 v4), AV.none, AV.none, AV.none, AV.none, AV.none, AV.none, AV.none, AV.none, AV.none, AV.none, AV.none, AV.none, AV.none, AV.none, AV.none, AV.none, AV.none, AV.none, AV.none, AV.none, AV.none, AV.none, AV.none, AV.none, AV.none, AV.none, AV.none, AV.none, AV.none, AV.none, AV.none, AV.none, AV.none, AV.none, AV.none, AV.none, AV.none, AV.none, AV.none, AV.none, AV.none, AV.none, AV.none, AV.none, AV.none, AV.none, AV.none, AV.none, AV.none, AV.none, AV.none, AV.none, AV.none, AV.none, AV.none, AV.none, AV.none, AV.none, AV.none, AV.none, AV.none, AV.none, AV.none, AV.none, AV.none, AV.none, AV.none, AV.none, AV.none, AV.none, AV.none, AV.none, AV.none, AV.none, AV.none, AV.none, AV.none, AV.none, AV.none, AV.none, AV.none, AV.none, AV.none, AV.none, AV.none], [none, none, none, none, none, none, none, some (OB.row .u32 62 v5), none, none, none, none, none, none, none, none, none, none, none, none, none, none, none, none, none, none, none, none, none, none, none, none, none, none, none, none, none, none, none, none, none, none, none, none, none, none, none, none, none, none, none, none, none, none, none, none, none, none, none, none, none, none, none, none, none, none, none, none, none, none, none, none, none, none, none, none, none, none, none, none, none, none, none, none, none, none, none, none, none, none, none, none, none, none, none]⟩
noncomputable def raw31_0 (N : Nat) (n : Nat) (v0 : List Int) (v1 : List Int) (v2 : List Int) (v3 : Int) (v4 : Int) (v5 : List Int) : Option (List Int × List Int) := loopN (lookN live31 5) (exec T31 (G31 N) N live31 (cL (cL (cR (cL (cR (cR (cR (cR c31))))))))) n (st31_0 v0 v1 v2 v3 v4 v5) (blockK 0 (seqK (exec T31 (G31 N) N live31 (cR (cR (cR (cR (cR c31)))))) (retK T31 Tryd.f31.results.toList (rd31).dec)))
noncomputable def st31_1 (v0 : List Int) (v1 : List Int) (v2 : List Int) (v3 : Int) (v4 : Int) (v5 : Int) (v6 : List Int) (v7 : List Int) : St := ⟨[AV.li .u32 v0, AV.li .u32 v1, AV.none, AV.none, AV.none, AV.none, AV.li .u32 v2, AV.own 7, AV.v (.int .i64 v3), AV.v (.int .i64 v4), AV.none, AV.v (.int .u64 v5), AV.li .u32 v6, AV.none, AV.none, AV.none, AV.none, AV.none, AV.none, AV.none, AV.none, AV.none, AV.none, AV.none, AV.none, AV.none, AV.none, AV.none, AV.none, AV.none, AV.none, AV.none, AV.none, AV.none, AV.none, AV.none, AV.none, AV.none, AV.none, AV.none, AV.none, AV.none, AV.none, AV.none, AV.none, AV.none, AV.none, AV.none, AV.none, AV.none, AV.none, AV.none, AV.none, AV.none, AV.none, AV.none, AV.none, AV.none, AV.none, AV.none, AV.none, AV.none, AV.none, AV.none, AV.none, AV.none, AV.none, AV.none, AV.none, AV.none, AV.none, AV.none, AV.none, AV.none, AV.none, AV.none, AV.none, AV.none, AV.none, AV.none, AV.none, AV.none, AV.none, AV.none, AV.none, AV.none, AV.none, AV.none, AV.none, AV.none, AV.none, AV.none, AV.none, AV.none, AV.none], [none, none, none, none, none, none, none, some (OB.row .u32 62 v7), none, none, none, none, none, none, none, none, none, none, none, none, none, none, none, none, none, none, none, none, none, none, none, none, none, none, none, none, none, none, none, none, none, none, none, none, none, none, none, none, none, none, none, none, none, none, none, none, none, none, none, none, none, none, none, none, none, none, none, none, none, none, none, none, none, none, none, none, none, none, none, none, none, none, none, none, none, none, none, none, none, none, none, none, none, none, none]⟩
noncomputable def raw31_1 (N : Nat) (m0 : Nat) (n : Nat) (v0 : List Int) (v1 : List Int) (v2 : List Int) (v3 : Int) (v4 : Int) (v5 : Int) (v6 : List Int) (v7 : List Int) : Option (List Int × List Int) := loopN (lookN live31 12) (exec T31 (G31 N) N live31 (cL (cL (cL (cR (cR (cR (cR (cR (cL (cL (cR (cL (cL (cR (cL (cR (cR (cR (cR c31)))))))))))))))))))) n (st31_1 v0 v1 v2 v3 v4 v5 v6 v7) (blockK 2 (seqK (exec T31 (G31 N) N live31 (cR (cR (cR (cR (cR (cR (cL (cL (cR (cL (cL (cR (cL (cR (cR (cR (cR c31)))))))))))))))))) (blockK 1 (seqK (exec T31 (G31 N) N live31 (cR (cR (cL (cL (cR (cL (cR (cR (cR (cR c31))))))))))) (roundK (fun s => loopN (lookN live31 5) (exec T31 (G31 N) N live31 (cL (cL (cR (cL (cR (cR (cR (cR c31))))))))) m0 s (blockK 0 (seqK (exec T31 (G31 N) N live31 (cR (cR (cR (cR (cR c31)))))) (retK T31 Tryd.f31.results.toList (rd31).dec)))) (lookN live31 5) (blockK 0 (seqK (exec T31 (G31 N) N live31 (cR (cR (cR (cR (cR c31)))))) (retK T31 Tryd.f31.results.toList (rd31).dec))))))))
noncomputable def s31_1 (N : Nat) (Ln1 : List Int → List Int → List Int → Int → Int → Int → List Int → List Int → Option (List Int × List Int)) (Ln0 : List Int → List Int → List Int → Int → Int → List Int → Option (List Int × List Int)) (v0 : List Int) (v1 : List Int) (v2 : List Int) (v3 : Int) (v4 : Int) (v5 : Int) (v6 : List Int) (v7 : List Int) : Option (List Int × List Int) :=
  (fn_tillerref02_Cmp N v6 v2).bind fun r8 =>
   cond (ltI 0 r8)
    ((fn_tillerref02_Sub N v6 v1).bind fun r9 =>
     Ln1 v0 v1 v2 v3 v4 (subI .u64 v5 1) r9 v7)
    ((fn_tillerref02_Sub N v2 v6).bind fun r10 =>
     cond (leI 0 v4)
      (cond (ltI v4 (v7.length : Int))
       (Ln0 v0 v1 r10 v3 (subI .i64 v4 1) (v7.set v4.toNat (cvI .u32 v5)))
       (none))
      (none))
theorem step31_1 (N : Nat) (m0 : Nat) (n : Nat) (v0 : List Int) (v1 : List Int) (v2 : List Int) (v3 : Int) (v4 : Int) (v5 : Int) (v6 : List Int) (v7 : List Int) : raw31_1 N m0 (n + 1) v0 v1 v2 v3 v4 v5 v6 v7 = s31_1 N (raw31_1 N m0 n) (raw31_0 N  m0) v0 v1 v2 v3 v4 v5 v6 v7 := by kernel_rfl
noncomputable def l31_1 (N : Nat) (E0 : List Int → List Int → List Int → Int → Int → List Int → Option (List Int × List Int)) : Nat → List Int → List Int → List Int → Int → Int → Int → List Int → List Int → Option (List Int × List Int)
  | 0 => fun _ _ _ _ _ _ _ _ => none
  | n + 1 => fun v0 v1 v2 v3 v4 v5 v6 v7 => s31_1 N (l31_1 N E0 n) E0 v0 v1 v2 v3 v4 v5 v6 v7
theorem eq31_1 (N : Nat) (m0 : Nat) : ∀ n, raw31_1 N m0 n = l31_1 N (raw31_0 N  m0) n := by
  intro n
  induction n with
  | zero => exact funext fun v0 => funext fun v1 => funext fun v2 => funext fun v3 => funext fun v4 => funext fun v5 => funext fun v6 => funext fun v7 => rfl
  | succ n ih => exact funext fun v0 => funext fun v1 => funext fun v2 => funext fun v3 => funext fun v4 => funext fun v5 => funext fun v6 => funext fun v7 => by rw [step31_1, ih]; rfl
noncomputable def s31_0 (N : Nat) (Ln0 : List Int → List Int → List Int → Int → Int → List Int → Option (List Int × List Int)) (Le1 : List Int → List Int → List Int → Int → Int → Int → List Int → List Int → Option (List Int × List Int)) (v0 : List Int) (v1 : List Int) (v2 : List Int) (v3 : Int) (v4 : Int) (v5 : List Int) : Option (List Int × List Int) :=
  cond (leI 0 v4)
   (cond (leI 0 v4)
    (cond (ltI v4 (v0.length : Int))
     (cond (fitL ([lrd v0 v4].length + v2.length))
      ((fn_tillerref02_trim N ([lrd v0 v4] ++ v2)).bind fun r1 =>
       (fn_tillerref02_Cmp N r1 v1).bind fun r2 =>
        cond (ltI r2 0)
         (Ln0 v0 v1 r1 v3 (subI .i64 v4 1) v5)
         ((fn_tillerref02_at N r1 v3).bind fun r3 =>
          (fn_tillerref02_at N r1 (subI .i64 v3 1)).bind fun r4 =>
           (fn_tillerref02_at N r1 (subI .i64 v3 2)).bind fun r5 =>
            cond (leI 0 (subI .i64 v3 1))
             (cond (ltI (subI .i64 v3 1) (v1.length : Int))
              ((fn_tillerref02_at N v1 (subI .i64 v3 2)).bind fun r6 =>
               cond (eqI (addI .u64 (shlI .u64 (cvI .u64 (lrd v1 (subI .i64 v3 1))) 16) (cvI .u64 r6)) 0)
                (none)
                ((fn_tillerref02_Small N v1 (cvI .u32 (minI (quoI .u64 (addI .u64 (addI .u64 (shlI .u64 (cvI .u64 r3) 32) (shlI .u64 (cvI .u64 r4) 16)) (cvI .u64 r5)) (addI .u64 (shlI .u64 (cvI .u64 (lrd v1 (subI .i64 v3 1))) 16) (cvI .u64 r6))) 65535)) 0).bind fun r7 =>
                 Le1 v0 v1 r1 v3 v4 (minI (quoI .u64 (addI .u64 (addI .u64 (shlI .u64 (cvI .u64 r3) 32) (shlI .u64 (cvI .u64 r4) 16)) (cvI .u64 r5)) (addI .u64 (shlI .u64 (cvI .u64 (lrd v1 (subI .i64 v3 1))) 16) (cvI .u64 r6))) 65535) r7 v5))
              (none))
             (none)))
      (none))
     (none))
    (none))
   ((fn_tillerref02_trim N v5).bind fun r11 =>
    some (r11, v2))
theorem step31_0 (N : Nat) (n : Nat) (v0 : List Int) (v1 : List Int) (v2 : List Int) (v3 : Int) (v4 : Int) (v5 : List Int) : raw31_0 N  (n + 1) v0 v1 v2 v3 v4 v5 = s31_0 N (raw31_0 N  n) (raw31_1 N n N) v0 v1 v2 v3 v4 v5 := by kernel_rfl
noncomputable def l31_0 (N : Nat) : Nat → List Int → List Int → List Int → Int → Int → List Int → Option (List Int × List Int)
  | 0 => fun _ _ _ _ _ _ => none
  | n + 1 => fun v0 v1 v2 v3 v4 v5 => s31_0 N (l31_0 N  n) (l31_1 N (l31_0 N  n) N) v0 v1 v2 v3 v4 v5
theorem eq31_0 (N : Nat) : ∀ n, raw31_0 N  n = l31_0 N  n := by
  intro n
  induction n with
  | zero => exact funext fun v0 => funext fun v1 => funext fun v2 => funext fun v3 => funext fun v4 => funext fun v5 => rfl
  | succ n ih => exact funext fun v0 => funext fun v1 => funext fun v2 => funext fun v3 => funext fun v4 => funext fun v5 => by rw [step31_0, eq31_1 N n N, ih]; rfl
noncomputable def t31 (N : Nat) (Le0 : List Int → List Int → List Int → Int → Int → List Int → Option (List Int × List Int)) (x0 : List Int) (x1 : List Int) : Option (List Int × List Int) :=
  cond (leI 0 (x0.length : Int))
   (cond (leI (x0.length : Int) 17592186044416)
    (Le0 x0 x1 [] (x1.length : Int) (subI .i64 (x0.length : Int) 1) (List.replicate ((x0.length : Int).toNat) (0 : Int)))
    (none))
   (none)
noncomputable def fn_tillerref02_Parts (N : Nat) (x0 : List Int) (x1 : List Int) : Option (List Int × List Int) := t31 N (l31_0 N N) x0 x1
theorem run31 (N : Nat) (x0 : List Int) (x1 : List Int) : Eng.run T31 (G31 N) N live31 c31 Tryd.f31.results.toList Tryd.f31.ntmps ((ad31).enc (x0, x1, ())) (rd31).dec = fn_tillerref02_Parts N x0 x1 := by
  refine Eq.trans (show _ = t31 N (raw31_0 N N) x0 x1 from by kernel_rfl) ?_
  unfold fn_tillerref02_Parts
  rw [eq31_0 N N]
noncomputable def F31 (N : Nat) (a : List Int × List Int × Unit) : Option (List Int × List Int) := fn_tillerref02_Parts N a.1 a.2.1
theorem ok31 (N : Nat) : FnOK Tryd.prog 31 ad31 rd31 (F31 N) :=
  fn_ok (N := N) (live := live31) (code := c31) (tok T31.rt T31.kl) mixed (gok31 N) Tryd.func31 (by kernel_rfl) (by kernel_rfl) (by kernel_rfl) fun a p h => by rw [← h]; exact run31 N a.1 a.2.1

/-! ### tiller/tillerref02.Len: function 33 -/
noncomputable def c33 : Code := (Tryd.f33.body).getD .skip
noncomputable def T33 : Tb := ⟨tyOf tys, [], []⟩
noncomputable def G33 {R : Type} (N : Nat) : FuncId → List AV → (AV → Option R) → Option R := gNil
theorem gok33 {R : Type} (N : Nat) : GOK Tryd.prog (G33 (R := R) N) := gNil_ok
noncomputable def live33 : List (Nat × List (Nat × HK)) := [(5, [(3, .keep), (4, .keep)])]
noncomputable def ad33 : Ad (List Int × Unit) := aC (cLi .u32) (a0)
noncomputable def rd33 : Rd (Int) := r1 (cInt .i64)
noncomputable def st33_0 (v0 : Int) (v1 : Int) : St := ⟨[AV.none, AV.none, AV.none, AV.v (.int .i64 v0), AV.v (.int .u32 v1), AV.none, AV.none, AV.none, AV.none, AV.none, AV.none, AV.none, AV.none, AV.none, AV.none, AV.none, AV.none, AV.none, AV.none, AV.none, AV.none, AV.none, AV.none, AV.none, AV.none], [none, none, none, none, none, none, none, none, none, none, none, none, none, none, none, none, none, none, none, none, none, none, none, none, none]⟩
noncomputable def raw33_0 (N : Nat) (n : Nat) (v0 : Int) (v1 : Int) : Option (Int) := loopN (lookN live33 5) (exec T33 (G33 N) N live33 (cL (cL (cR (cL (cR (cR (cR c33)))))))) n (st33_0 v0 v1) (blockK 0 (seqK (exec T33 (G33 N) N live33 (cR (cR (cR (cR c33))))) (retK T33 Tryd.f33.results.toList (rd33).dec)))
noncomputable def s33_0 (N : Nat) (Ln0 : Int → Int → Option (Int)) (v0 : Int) (v1 : Int) : Option (Int) :=
  cond (ltI 0 v1)
   (Ln0 (addI .i64 v0 1) (quoI .u32 v1 2))
   (some v0)
theorem step33_0 (N : Nat) (n : Nat) (v0 : Int) (v1 : Int) : raw33_0 N  (n + 1) v0 v1 = s33_0 N (raw33_0 N  n) v0 v1 := by kernel_rfl
noncomputable def l33_0 (N : Nat) : Nat → Int → Int → Option (Int)
  | 0 => fun _ _ => none
  | n + 1 => fun v0 v1 => s33_0 N (l33_0 N  n) v0 v1
theorem eq33_0 (N : Nat) : ∀ n, raw33_0 N  n = l33_0 N  n := by
  intro n
  induction n with
  | zero => exact funext fun v0 => funext fun v1 => rfl
  | succ n ih => exact funext fun v0 => funext fun v1 => by rw [step33_0, ih]; rfl
noncomputable def t33 (N : Nat) (Le0 : Int → Int → Option (Int)) (x0 : List Int) : Option (Int) :=
  cond (eqI (x0.length : Int) 0)
   (some 0)
   (cond (leI 0 (subI .i64 (x0.length : Int) 1))
    (cond (ltI (subI .i64 (x0.length : Int) 1) (x0.length : Int))
     (Le0 (mulI .i64 16 (subI .i64 (x0.length : Int) 1)) (lrd x0 (subI .i64 (x0.length : Int) 1)))
     (none))
    (none))
noncomputable def fn_tillerref02_Len (N : Nat) (x0 : List Int) : Option (Int) := t33 N (l33_0 N N) x0
theorem run33 (N : Nat) (x0 : List Int) : Eng.run T33 (G33 N) N live33 c33 Tryd.f33.results.toList Tryd.f33.ntmps ((ad33).enc (x0, ())) (rd33).dec = fn_tillerref02_Len N x0 := by
  refine Eq.trans (show _ = t33 N (raw33_0 N N) x0 from by kernel_rfl) ?_
  unfold fn_tillerref02_Len
  rw [eq33_0 N N]
noncomputable def F33 (N : Nat) (a : List Int × Unit) : Option (Int) := fn_tillerref02_Len N a.1
theorem ok33 (N : Nat) : FnOK Tryd.prog 33 ad33 rd33 (F33 N) :=
  fn_ok (N := N) (live := live33) (code := c33) (tok T33.rt T33.kl) mixed (gok33 N) Tryd.func33 (by kernel_rfl) (by kernel_rfl) (by kernel_rfl) fun a p h => by rw [← h]; exact run33 N a.1

/-! ### tiller/tillerref15.Of: function 7 -/
noncomputable def c7 : Code := (Tryd.f7.body).getD .skip
noncomputable def T7 : Tb := ⟨tyOf tys, [], []⟩
noncomputable def G7 {R : Type} (N : Nat) : FuncId → List AV → (AV → Option R) → Option R := gCons 32 (gOf ad32 rd32 (F32 N)) (gCons 22 (gOf ad22 rd22 (F22 N)) (gCons 31 (gOf ad31 rd31 (F31 N)) (gCons 33 (gOf ad33 rd33 (F33 N)) (gNil))))
theorem gok7 {R : Type} (N : Nat) : GOK Tryd.prog (G7 (R := R) N) := gCons_ok (ok32 N) (gCons_ok (ok22 N) (gCons_ok (ok31 N) (gCons_ok (ok33 N) (gNil_ok))))
noncomputable def live7 : List (Nat × List (Nat × HK)) := []
noncomputable def ad7 : Ad (Int × Int × Unit) := aC (cInt .u64) (aC (cInt .u64) (a0))
noncomputable def rd7 : Rd (List Int × Int) := r2 (cLi .u32) (cInt .i64)
noncomputable def fn_tillerref15_Of (N : Nat) (x0 : Int) (x1 : Int) : Option (List Int × Int) :=
  cond (eqI x1 0)
   (some ([], 5))
   ((fn_tillerref02_Of N x0).bind fun r1 =>
    (fn_tillerref02_Shl N r1 248).bind fun r2 =>
     (fn_tillerref02_Of N x1).bind fun r3 =>
      (fn_tillerref02_Parts N r2 r3).bind fun r4 =>
       (fn_tillerref02_Len N r4.1).bind fun r5 =>
        cond (ltI 256 r5)
         (some ([], 2))
         (some (r4.1, 0)))
theorem run7 (N : Nat) (x0 : Int) (x1 : Int) : Eng.run T7 (G7 N) N live7 c7 Tryd.f7.results.toList Tryd.f7.ntmps ((ad7).enc (x0, x1, ())) (rd7).dec = fn_tillerref15_Of N x0 x1 := by kernel_rfl
noncomputable def F7 (N : Nat) (a : Int × Int × Unit) : Option (List Int × Int) := fn_tillerref15_Of N a.1 a.2.1
theorem ok7 (N : Nat) : FnOK Tryd.prog 7 ad7 rd7 (F7 N) :=
  fn_ok (N := N) (live := live7) (code := c7) (tok T7.rt T7.kl) mixed (gok7 N) Tryd.func7 (by kernel_rfl) (by kernel_rfl) (by kernel_rfl) fun a p h => by rw [← h]; exact run7 N a.1 a.2.1

/-! ### tiller/tillerref02.From: function 36 -/
noncomputable def c36 : Code := (Tryd.f36.body).getD .skip
noncomputable def T36 : Tb := ⟨tyOf tys, [], [25]⟩
noncomputable def G36 {R : Type} (N : Nat) : FuncId → List AV → (AV → Option R) → Option R := gCons 35 (gOf ad35 rd35 (F35 N)) (gNil)
theorem gok36 {R : Type} (N : Nat) : GOK Tryd.prog (G36 (R := R) N) := gCons_ok (ok35 N) (gNil_ok)
noncomputable def live36 : List (Nat × List (Nat × HK)) := [(3, [(0, .keep), (3, .row .u32 62), (4, .keep)])]
noncomputable def ad36 : Ad (List Int × Unit) := aC (cLi .u32) (a0)
noncomputable def rd36 : Rd (List Int) := r1 (cLi .u32)
noncomputable def st36_0 (v0 : List Int) (v1 : Int) (v2 : List Int) : St := ⟨[AV.li .u32 v0, AV.none, AV.none, AV.own 3, AV.v (.int .i64 v1), AV.none, AV.none, AV.none, AV.none, AV.none, AV.none, AV.none, AV.none, AV.none, AV.none, AV.none, AV.none, AV.none, AV.none, AV.none, AV.none, AV.none, AV.none, AV.none, AV.none, AV.none], [none, none, none, some (OB.row .u32 62 v2), none, none, none, none, none, none, none, none, none, none, none, none, none, none, none, none, none, none, none, none, none, none]⟩
noncomputable def raw36_0 (N : Nat) (n : Nat) (v0 : List Int) (v1 : Int) (v2 : List Int) : Option (List Int) := loopN (lookN live36 3) (exec T36 (G36 N) N live36 (cL (cL (cR (cL (cR (cR c36))))))) n (st36_0 v0 v1 v2) (blockK 0 (seqK (exec T36 (G36 N) N live36 (cR (cR (cR c36)))) (retK T36 Tryd.f36.results.toList (rd36).dec)))
noncomputable def s36_0 (N : Nat) (Ln0 : List Int → Int → List Int → Option (List Int)) (v0 : List Int) (v1 : Int) (v2 : List Int) : Option (List Int) :=
  cond (ltI v1 (v0.length : Int))
   (cond (leI 0 v1)
    (cond (ltI v1 (v0.length : Int))
     (cond (leI 0 v1)
      (cond (ltI v1 (v0.length : Int))
       (cond (fitL (v2.length + [remI .u32 (lrd v0 v1) 65536, quoI .u32 (lrd v0 v1) 65536].length))
        (Ln0 v0 (addI .i64 v1 1) (v2 ++ [remI .u32 (lrd v0 v1) 65536, quoI .u32 (lrd v0 v1) 65536]))
        (none))
       (none))
      (none))
     (none))
    (none))
   ((fn_tillerref02_trim N v2).bind fun r1 =>
    some r1)
theorem step36_0 (N : Nat) (n : Nat) (v0 : List Int) (v1 : Int) (v2 : List Int) : raw36_0 N  (n + 1) v0 v1 v2 = s36_0 N (raw36_0 N  n) v0 v1 v2 := by kernel_rfl
noncomputable def l36_0 (N : Nat) : Nat → List Int → Int → List Int → Option (List Int)
  | 0 => fun _ _ _ => none
  | n + 1 => fun v0 v1 v2 => s36_0 N (l36_0 N  n) v0 v1 v2
theorem eq36_0 (N : Nat) : ∀ n, raw36_0 N  n = l36_0 N  n := by
  intro n
  induction n with
  | zero => exact funext fun v0 => funext fun v1 => funext fun v2 => rfl
  | succ n ih => exact funext fun v0 => funext fun v1 => funext fun v2 => by rw [step36_0, ih]; rfl
noncomputable def t36 (N : Nat) (Le0 : List Int → Int → List Int → Option (List Int)) (x0 : List Int) : Option (List Int) :=
  Le0 x0 0 []
noncomputable def fn_tillerref02_From (N : Nat) (x0 : List Int) : Option (List Int) := t36 N (l36_0 N N) x0
theorem run36 (N : Nat) (x0 : List Int) : Eng.run T36 (G36 N) N live36 c36 Tryd.f36.results.toList Tryd.f36.ntmps ((ad36).enc (x0, ())) (rd36).dec = fn_tillerref02_From N x0 := by
  refine Eq.trans (show _ = t36 N (raw36_0 N N) x0 from by kernel_rfl) ?_
  unfold fn_tillerref02_From
  rw [eq36_0 N N]
noncomputable def F36 (N : Nat) (a : List Int × Unit) : Option (List Int) := fn_tillerref02_From N a.1
theorem ok36 (N : Nat) : FnOK Tryd.prog 36 ad36 rd36 (F36 N) :=
  fn_ok (N := N) (live := live36) (code := c36) (tok T36.rt T36.kl) mixed (gok36 N) Tryd.func36 (by kernel_rfl) (by kernel_rfl) (by kernel_rfl) fun a p h => by rw [← h]; exact run36 N a.1

/-! ### tiller/tillerref15.Pi: function 9 -/
noncomputable def c9 : Code := (Tryd.f9.body).getD .skip
noncomputable def T9 : Tb := ⟨tyOf tys, [], [2]⟩
noncomputable def G9 {R : Type} (N : Nat) : FuncId → List AV → (AV → Option R) → Option R := gCons 36 (gOf ad36 rd36 (F36 N)) (gNil)
theorem gok9 {R : Type} (N : Nat) : GOK Tryd.prog (G9 (R := R) N) := gCons_ok (ok36 N) (gNil_ok)
noncomputable def live9 : List (Nat × List (Nat × HK)) := []
noncomputable def ad9 : Ad (Unit) := a0
noncomputable def rd9 : Rd (List Int) := r1 (cLi .u32)
noncomputable def fn_tillerref15_Pi (N : Nat)  : Option (List Int) :=
  (fn_tillerref02_From N [953160567, 1160258022, 3964562569, 137296536, 698298832, 2752067618, 57701188, 320440878, 2242054355, 608135816, 3]).bind fun r1 =>
   some r1
theorem run9 (N : Nat)  : Eng.run T9 (G9 N) N live9 c9 Tryd.f9.results.toList Tryd.f9.ntmps ((ad9).enc (())) (rd9).dec = fn_tillerref15_Pi N  := by kernel_rfl
noncomputable def F9 (N : Nat) (a : Unit) : Option (List Int) := fn_tillerref15_Pi N 
theorem ok9 (N : Nat) : FnOK Tryd.prog 9 ad9 rd9 (F9 N) :=
  fn_ok (N := N) (live := live9) (code := c9) (tok T9.rt T9.kl) mixed (gok9 N) Tryd.func9 (by kernel_rfl) (by kernel_rfl) (by kernel_rfl) fun a p h => by rw [← h]; exact run9 N 

/-! ### tiller/tillerref02.Shr: function 8 -/
noncomputable def c8 : Code := (Tryd.f8.body).getD .skip
noncomputable def T8 : Tb := ⟨tyOf tys, [], [87]⟩
noncomputable def G8 {R : Type} (N : Nat) : FuncId → List AV → (AV → Option R) → Option R := gCons 34 (gOf ad34 rd34 (F34 N)) (gCons 35 (gOf ad35 rd35 (F35 N)) (gNil))
theorem gok8 {R : Type} (N : Nat) : GOK Tryd.prog (G8 (R := R) N) := gCons_ok (ok34 N) (gCons_ok (ok35 N) (gNil_ok))
noncomputable def live8 : List (Nat × List (Nat × HK)) := [(6, [(0, .keep), (1, .keep), (6, .keep), (7, .keep), (8, .keep), (52, .keep), (53, .keep), (54, .keep), (55, .keep), (56, .keep), (57, .keep), (58, .keep)]), (13, [(0, .keep), (1, .keep), (6, .keep), (7, .keep), (9, .keep), (10, .keep), (52, .keep), (53, .keep), (54, .keep), (55, .keep), (56, .keep), (57, .keep), (58, .keep)]), (19, [(0, .keep), (6, .keep), (9, .keep), (11, .row .u32 62), (12, .keep)])]
noncomputable def ad8 : Ad (List Int × Int × Unit) := aC (cLi .u32) (aC (cInt .i64) (a0))
noncomputable def rd8 : Rd (List Int × Bool) := r2 (cLi .u32) (cBool)
noncomputable def st8_0 (v0 : List Int) (v1 : Int) (v2 : Bool) (v3 : Int) (v4 : Int) : St := ⟨[AV.li .u32 v0, AV.v (.int .i64 v1), AV.none, AV.none, AV.none, AV.none, AV.v (.bool v2), AV.v (.int .i64 v3), AV.v (.int .i64 v4), AV.none, AV.none, AV.none, AV.none, AV.none, AV.none, AV.none, AV.none, AV.none, AV.none, AV.none, AV.none, AV.none, AV.none, AV.none, AV.none, AV.none, AV.none, AV.none, AV.none, AV.none, AV.none, AV.none, AV.none, AV.none, AV.none, AV.none, AV.none, AV.none, AV.none, AV.none, AV.none, AV.none, AV.none, AV.none, AV.none, AV.none, AV.none, AV.none, AV.none, AV.none, AV.none, AV.none, AV.none, AV.none, AV.none, AV.none, AV.none, AV.none, AV.none, AV.none, AV.none, AV.none, AV.none, AV.none, AV.none, AV.none, AV.none, AV.none, AV.none, AV.none, AV.none, AV.none, AV.none, AV.none, AV.none, AV.none, AV.none, AV.none, AV.none, AV.none, AV.none, AV.none, AV.none, AV.none, AV.none, AV.none, AV.none, AV.none, AV.none], [none, none, none, none, none, none, none, none, none, none, none, none, none, none, none, none, none, none, none, none, none, none, none, none, none, none, none, none, none, none, none, none, none, none, none, none, none, none, none, none, none, none, none, none, none, none, none, none, none, none, none, none, none, none, none, none, none, none, none, none, none, none, none, none, none, none, none, none, none, none, none, none, none, none, none, none, none, none, none, none, none, none, none, none, none, none, none, none, none]⟩
noncomputable def raw8_0 (N : Nat) (n : Nat) (v0 : List Int) (v1 : Int) (v2 : Bool) (v3 : Int) (v4 : Int) : Option (List Int × Bool) := loopN (lookN live8 6) (exec T8 (G8 N) N live8 (cL (cL (cR (cL (cR (cR (cR (cR c8))))))))) n (st8_0 v0 v1 v2 v3 v4) (blockK 0 (seqK (exec T8 (G8 N) N live8 (cR (cR (cR (cR (cR c8)))))) (retK T8 Tryd.f8.results.toList (rd8).dec)))
noncomputable def st8_1 (v0 : List Int) (v1 : Int) (v2 : Bool) (v3 : Int) (v4 : Int) (v5 : Int) : St := ⟨[AV.li .u32 v0, AV.v (.int .i64 v1), AV.none, AV.none, AV.none, AV.none, AV.v (.bool v2), AV.v (.int .i64 v3), AV.none, AV.v (.int .u32 v4), AV.v (.int .i64 v5), AV.none, AV.none, AV.none, AV.none, AV.none, AV.none, AV.none, AV.none, AV.none, AV.none, AV.none, AV.none, AV.none, AV.none, AV.none, AV.none, AV.none, AV.none, AV.none, AV.none, AV.none, AV.none, AV.none, AV.none, AV.none, AV.none, AV.none, AV.none, AV.none, AV.none, AV.none, AV.none, AV.none, AV.none, AV.none, AV.none, AV.none, AV.none, AV.none, AV.none, AV.none, AV.none, AV.none, AV.none, AV.none, AV.none, AV.none, AV.none, AV.none, AV.none, AV.none, AV.none, AV.none, AV.none, AV.none, AV.none, AV.none, AV.none, AV.none, AV.none, AV.none, AV.none, AV.none, AV.none, AV.none, AV.none, AV.none, AV.none, AV.none, AV.none, AV.none, AV.none, AV.none, AV.none, AV.none, AV.none, AV.none, AV.none], [none, none, none, none, none, none, none, none, none, none, none, none, none, none, none, none, none, none, none, none, none, none, none, none, none, none, none, none, none, none, none, none, none, none, none, none, none, none, none, none, none, none, none, none, none, none, none, none, none, none, none, none, none, none, none, none, none, none, none, none, none, none, none, none, none, none, none, none, none, none, none, none, none, none, none, none, none, none, none, none, none, none, none, none, none, none, none, none, none]⟩
noncomputable def raw8_1 (N : Nat) (n : Nat) (v0 : List Int) (v1 : Int) (v2 : Bool) (v3 : Int) (v4 : Int) (v5 : Int) : Option (List Int × Bool) := loopN (lookN live8 13) (exec T8 (G8 N) N live8 (cL (cL (cR (cL (cR (cR (cR (cR (cR (cR (cR c8)))))))))))) n (st8_1 v0 v1 v2 v3 v4 v5) (blockK 2 (seqK (exec T8 (G8 N) N live8 (cR (cR (cR (cR (cR (cR (cR (cR c8))))))))) (retK T8 Tryd.f8.results.toList (rd8).dec)))
noncomputable def st8_2 (v0 : List Int) (v1 : Bool) (v2 : Int) (v3 : Int) (v4 : List Int) : St := ⟨[AV.li .u32 v0, AV.none, AV.none, AV.none, AV.none, AV.none, AV.v (.bool v1), AV.none, AV.none, AV.v (.int .u32 v2), AV.none, AV.own 11, AV.v (.int .i64 v3), AV.none, AV.none, AV.none, AV.none, AV.none, AV.none, AV.none, AV.none, AV.none, AV.none, AV.none, AV.none, AV.none, AV.none, AV.none, AV.none, AV.none, AV.none, AV.none, AV.none, AV.none, AV.none, AV.none, AV.none, AV.none, AV.none, AV.none, AV.none, AV.none, AV.none, AV.none, AV.none, AV.none, AV.none, AV.none, AV.none, AV.none, AV.none, AV.none, AV.none, AV.none, AV.none, AV.none, AV.none, AV.none, AV.none, AV.none, AV.none, AV.none, AV.none, AV.none, AV.none, AV.none, AV.none, AV.none, AV.none, AV.none, AV.none, AV.none, AV.none, AV.none, AV.none, AV.none, AV.none, AV.none, AV.none, AV.none, AV.none, AV.none, AV.none, AV.none, AV.none, AV.none, AV.none, AV.none, AV.none], [none, none, none, none, none, none, none, none, none, none, none, some (OB.row .u32 62 v4), none, none, none, none, none, none, none, none, none, none, none, none, none, none, none, none, none, none, none, none, none, none, none, none, none, none, none, none, none, none, none, none, none, none, none, none, none, none, none, none, none, none, none, none, none, none, none, none, none, none, none, none, none, none, none, none, none, none, none, none, none, none, none, none, none, none, none, none, none, none, none, none, none, none, none, none, none]⟩
noncomputable def raw8_2 (N : Nat) (n : Nat) (v0 : List Int) (v1 : Bool) (v2 : Int) (v3 : Int) (v4 : List Int) : Option (List Int × Bool) := loopN (lookN live8 19) (exec T8 (G8 N) N live8 (cL (cL (cR (cL (cR (cR (cR (cR (cR (cR (cR (cR (cR (cR c8))))))))))))))) n (st8_2 v0 v1 v2 v3 v4) (blockK 4 (seqK (exec T8 (G8 N) N live8 (cR (cR (cR (cR (cR (cR (cR (cR (cR (cR (cR c8)))))))))))) (retK T8 Tryd.f8.results.toList (rd8).dec)))
noncomputable def s8_2 (N : Nat) (Ln2 : List Int → Bool → Int → Int → List Int → Option (List Int × Bool)) (v0 : List Int) (v1 : Bool) (v2 : Int) (v3 : Int) (v4 : List Int) : Option (List Int × Bool) :=
  cond (ltI v3 (v0.length : Int))
   (cond (leI 0 v3)
    (cond (ltI v3 (v0.length : Int))
     (cond (eqI v2 0)
      (none)
      ((fn_tillerref02_at N v0 (addI .i64 v3 1)).bind fun r1 =>
       cond (eqI v2 0)
        (none)
        (cond (eqI v2 0)
         (none)
         (cond (fitL (v4.length + [addI .u32 (quoI .u32 (lrd v0 v3) v2) (mulI .u32 (remI .u32 r1 v2) (quoI .u32 65536 v2))].length))
          (Ln2 v0 v1 v2 (addI .i64 v3 1) (v4 ++ [addI .u32 (quoI .u32 (lrd v0 v3) v2) (mulI .u32 (remI .u32 r1 v2) (quoI .u32 65536 v2))]))
          (none)))))
     (none))
    (none))
   ((fn_tillerref02_trim N v4).bind fun r2 =>
    some (r2, v1))
theorem step8_2 (N : Nat) (n : Nat) (v0 : List Int) (v1 : Bool) (v2 : Int) (v3 : Int) (v4 : List Int) : raw8_2 N  (n + 1) v0 v1 v2 v3 v4 = s8_2 N (raw8_2 N  n) v0 v1 v2 v3 v4 := by kernel_rfl
noncomputable def l8_2 (N : Nat) : Nat → List Int → Bool → Int → Int → List Int → Option (List Int × Bool)
  | 0 => fun _ _ _ _ _ => none
  | n + 1 => fun v0 v1 v2 v3 v4 => s8_2 N (l8_2 N  n) v0 v1 v2 v3 v4
theorem eq8_2 (N : Nat) : ∀ n, raw8_2 N  n = l8_2 N  n := by
  intro n
  induction n with
  | zero => exact funext fun v0 => funext fun v1 => funext fun v2 => funext fun v3 => funext fun v4 => rfl
  | succ n ih => exact funext fun v0 => funext fun v1 => funext fun v2 => funext fun v3 => funext fun v4 => by rw [step8_2, ih]; rfl
noncomputable def s8_1 (N : Nat) (Ln1 : List Int → Int → Bool → Int → Int → Int → Option (List Int × Bool)) (Le2 : List Int → Bool → Int → Int → List Int → Option (List Int × Bool)) (v0 : List Int) (v1 : Int) (v2 : Bool) (v3 : Int) (v4 : Int) (v5 : Int) : Option (List Int × Bool) :=
  cond (ltI v5 (remI .i64 v1 16))
   (Ln1 v0 v1 v2 v3 (mulI .u32 2 v4) (addI .i64 v5 1))
   (cond v2
    (Le2 v0 true v4 v3 [])
    (cond (leI 0 v3)
     (cond (ltI v3 (v0.length : Int))
      (cond (eqI v4 0)
       (none)
       (Le2 v0 (!(eqI (remI .u32 (lrd v0 v3) v4) 0)) v4 v3 []))
      (none))
     (none)))
theorem step8_1 (N : Nat) (n : Nat) (v0 : List Int) (v1 : Int) (v2 : Bool) (v3 : Int) (v4 : Int) (v5 : Int) : raw8_1 N  (n + 1) v0 v1 v2 v3 v4 v5 = s8_1 N (raw8_1 N  n) (raw8_2 N  N) v0 v1 v2 v3 v4 v5 := by kernel_rfl
noncomputable def l8_1 (N : Nat) : Nat → List Int → Int → Bool → Int → Int → Int → Option (List Int × Bool)
  | 0 => fun _ _ _ _ _ _ => none
  | n + 1 => fun v0 v1 v2 v3 v4 v5 => s8_1 N (l8_1 N  n) (l8_2 N  N) v0 v1 v2 v3 v4 v5
theorem eq8_1 (N : Nat) : ∀ n, raw8_1 N  n = l8_1 N  n := by
  intro n
  induction n with
  | zero => exact funext fun v0 => funext fun v1 => funext fun v2 => funext fun v3 => funext fun v4 => funext fun v5 => rfl
  | succ n ih => exact funext fun v0 => funext fun v1 => funext fun v2 => funext fun v3 => funext fun v4 => funext fun v5 => by rw [step8_1, eq8_2 N  N, ih]; rfl
noncomputable def s8_0 (N : Nat) (Ln0 : List Int → Int → Bool → Int → Int → Option (List Int × Bool)) (Le1 : List Int → Int → Bool → Int → Int → Int → Option (List Int × Bool)) (v0 : List Int) (v1 : Int) (v2 : Bool) (v3 : Int) (v4 : Int) : Option (List Int × Bool) :=
  cond (ltI v4 v3)
   (cond (ltI v4 (v0.length : Int))
    (cond v2
     (Ln0 v0 v1 true v3 (addI .i64 v4 1))
     (cond (leI 0 v4)
      (cond (ltI v4 (v0.length : Int))
       (Ln0 v0 v1 (!(eqI (lrd v0 v4) 0)) v3 (addI .i64 v4 1))
       (none))
      (none)))
    (cond (leI (v0.length : Int) v3)
     (some ([], v2))
     (Le1 v0 v1 v2 v3 1 0)))
   (cond (leI (v0.length : Int) v3)
    (some ([], v2))
    (Le1 v0 v1 v2 v3 1 0))
theorem step8_0 (N : Nat) (n : Nat) (v0 : List Int) (v1 : Int) (v2 : Bool) (v3 : Int) (v4 : Int) : raw8_0 N  (n + 1) v0 v1 v2 v3 v4 = s8_0 N (raw8_0 N  n) (raw8_1 N  N) v0 v1 v2 v3 v4 := by kernel_rfl
noncomputable def l8_0 (N : Nat) : Nat → List Int → Int → Bool → Int → Int → Option (List Int × Bool)
  | 0 => fun _ _ _ _ _ => none
  | n + 1 => fun v0 v1 v2 v3 v4 => s8_0 N (l8_0 N  n) (l8_1 N  N) v0 v1 v2 v3 v4
theorem eq8_0 (N : Nat) : ∀ n, raw8_0 N  n = l8_0 N  n := by
  intro n
  induction n with
  | zero => exact funext fun v0 => funext fun v1 => funext fun v2 => funext fun v3 => funext fun v4 => rfl
  | succ n ih => exact funext fun v0 => funext fun v1 => funext fun v2 => funext fun v3 => funext fun v4 => by rw [step8_0, eq8_1 N  N, ih]; rfl
noncomputable def t8 (N : Nat) (Le0 : List Int → Int → Bool → Int → Int → Option (List Int × Bool)) (x0 : List Int) (x1 : Int) : Option (List Int × Bool) :=
  cond (leI x1 0)
   (some (x0, false))
   (Le0 x0 x1 false (quoI .i64 x1 16) 0)
noncomputable def fn_tillerref02_Shr (N : Nat) (x0 : List Int) (x1 : Int) : Option (List Int × Bool) := t8 N (l8_0 N N) x0 x1
theorem run8 (N : Nat) (x0 : List Int) (x1 : Int) : Eng.run T8 (G8 N) N live8 c8 Tryd.f8.results.toList Tryd.f8.ntmps ((ad8).enc (x0, x1, ())) (rd8).dec = fn_tillerref02_Shr N x0 x1 := by
  refine Eq.trans (show _ = t8 N (raw8_0 N N) x0 x1 from by kernel_rfl) ?_
  unfold fn_tillerref02_Shr
  rw [eq8_0 N N]
noncomputable def F8 (N : Nat) (a : List Int × Int × Unit) : Option (List Int × Bool) := fn_tillerref02_Shr N a.1 a.2.1
theorem ok8 (N : Nat) : FnOK Tryd.prog 8 ad8 rd8 (F8 N) :=
  fn_ok (N := N) (live := live8) (code := c8) (tok T8.rt T8.kl) mixed (gok8 N) Tryd.func8 (by kernel_rfl) (by kernel_rfl) (by kernel_rfl) fun a p h => by rw [← h]; exact run8 N a.1 a.2.1

/-! ### tiller/tillerlaw15.of: function 12 -/
noncomputable def c12 : Code := (Tryd.f12.body).getD .skip
noncomputable def T12 : Tb := ⟨tyOf tys, [(11, 1), (16, 1)], [23]⟩
noncomputable def G12 {R : Type} (N : Nat) : FuncId → List AV → (AV → Option R) → Option R := gCons 36 (gOf ad36 rd36 (F36 N)) (gNil)
theorem gok12 {R : Type} (N : Nat) : GOK Tryd.prog (G12 (R := R) N) := gCons_ok (ok36 N) (gNil_ok)
noncomputable def live12 : List (Nat × List (Nat × HK)) := [(3, [(1, .keep), (3, .row .u32 62), (4, .keep)])]
noncomputable def ad12 : Ad (Vec 4 × Unit) := aC (cVec .u64 4) (a0)
noncomputable def rd12 : Rd (List Int) := r1 (cLi .u32)
noncomputable def st12_0 (v0 : Int) (v1 : Vec 4) (v2 : List Int) : St := ⟨[AV.none, AV.ptr 1 0, AV.none, AV.own 3, AV.v (.int .i64 v0), AV.none, AV.none, AV.none, AV.none, AV.none, AV.none, AV.none, AV.none, AV.none, AV.none, AV.none, AV.none, AV.none, AV.none, AV.none, AV.none, AV.none, AV.none, AV.none], [none, some (OB.arr .u64 4 v1), none, some (OB.row .u32 62 v2), none, none, none, none, none, none, none, none, none, none, none, none, none, none, none, none, none, none, none, none]⟩
noncomputable def raw12_0 (N : Nat) (n : Nat) (v0 : Int) (v1 : Vec 4) (v2 : List Int) : Option (List Int) := loopN (lookN live12 3) (exec T12 (G12 N) N live12 (cL (cL (cR (cL (cR (cR c12))))))) n (st12_0 v0 v1 v2) (blockK 0 (seqK (exec T12 (G12 N) N live12 (cR (cR (cR c12)))) (retK T12 Tryd.f12.results.toList (rd12).dec)))
noncomputable def s12_0 (N : Nat) (Ln0 : Int → Vec 4 → List Int → Option (List Int)) (v0 : Int) (v1 : Vec 4) (v2 : List Int) : Option (List Int) :=
  cond (ltI v0 4)
   (cond (leI 0 v0)
    (cond (ltI v0 4)
     (cond (leI 0 v0)
      (cond (ltI v0 4)
       (cond (fitL (v2.length + [cvI .u32 (remI .u64 (Vec.rd v1 v0) 4294967296), cvI .u32 (quoI .u64 (Vec.rd v1 v0) 4294967296)].length))
        (Ln0 (addI .i64 v0 1) v1 (v2 ++ [cvI .u32 (remI .u64 (Vec.rd v1 v0) 4294967296), cvI .u32 (quoI .u64 (Vec.rd v1 v0) 4294967296)]))
        (none))
       (none))
      (none))
     (none))
    (none))
   ((fn_tillerref02_From N v2).bind fun r1 =>
    some r1)
theorem step12_0 (N : Nat) (n : Nat) (v0 : Int) (v1 : Vec 4) (v2 : List Int) : raw12_0 N  (n + 1) v0 v1 v2 = s12_0 N (raw12_0 N  n) v0 v1 v2 := by kernel_rfl
noncomputable def l12_0 (N : Nat) : Nat → Int → Vec 4 → List Int → Option (List Int)
  | 0 => fun _ _ _ => none
  | n + 1 => fun v0 v1 v2 => s12_0 N (l12_0 N  n) v0 v1 v2
theorem eq12_0 (N : Nat) : ∀ n, raw12_0 N  n = l12_0 N  n := by
  intro n
  induction n with
  | zero => exact funext fun v0 => funext fun v1 => funext fun v2 => rfl
  | succ n ih => exact funext fun v0 => funext fun v1 => funext fun v2 => by rw [step12_0, ih]; rfl
noncomputable def t12 (N : Nat) (Le0 : Int → Vec 4 → List Int → Option (List Int)) (x0 : Vec 4) : Option (List Int) :=
  Le0 0 x0 []
noncomputable def fn_tillerlaw15_of (N : Nat) (x0 : Vec 4) : Option (List Int) := t12 N (l12_0 N N) x0
theorem run12 (N : Nat) (x0 : Vec 4) : Eng.run T12 (G12 N) N live12 c12 Tryd.f12.results.toList Tryd.f12.ntmps ((ad12).enc (x0, ())) (rd12).dec = fn_tillerlaw15_of N x0 := by
  refine Eq.trans (show _ = t12 N (raw12_0 N N) x0 from by kernel_rfl) ?_
  unfold fn_tillerlaw15_of
  rw [eq12_0 N N]
noncomputable def F12 (N : Nat) (a : Vec 4 × Unit) : Option (List Int) := fn_tillerlaw15_of N a.1
theorem ok12 (N : Nat) : FnOK Tryd.prog 12 ad12 rd12 (F12 N) :=
  fn_ok (N := N) (live := live12) (code := c12) (tok T12.rt T12.kl) mixed (gok12 N) Tryd.func12 (by kernel_rfl) (by kernel_rfl) (by kernel_rfl) fun a p h => by rw [← h]; exact run12 N a.1

/-! ### tiller/fix.Pi: function 13 -/
noncomputable def c13 : Code := (Tryd.f13.body).getD .skip
noncomputable def T13 : Tb := ⟨tyOf tys, [], []⟩
noncomputable def G13 {R : Type} (N : Nat) : FuncId → List AV → (AV → Option R) → Option R := gNil
theorem gok13 {R : Type} (N : Nat) : GOK Tryd.prog (G13 (R := R) N) := gNil_ok
noncomputable def live13 : List (Nat × List (Nat × HK)) := []
noncomputable def ad13 : Ad (Unit) := a0
noncomputable def rd13 : Rd (Vec 4) := r1 (cVec .u64 4)
noncomputable def fn_fix_Pi (N : Nat)  : Option (Vec 4) :=
  some (Vec.st (Vec.st (Vec.st (Vec.st (Vec.zero 4) 0 14990283013545021036) 1 4946088427455618865) 2 15209528447828455539) 3 226375608064910088)
theorem run13 (N : Nat)  : Eng.run T13 (G13 N) N live13 c13 Tryd.f13.results.toList Tryd.f13.ntmps ((ad13).enc (())) (rd13).dec = fn_fix_Pi N  := by kernel_rfl
noncomputable def F13 (N : Nat) (a : Unit) : Option (Vec 4) := fn_fix_Pi N 
theorem ok13 (N : Nat) : FnOK Tryd.prog 13 ad13 rd13 (F13 N) :=
  fn_ok (N := N) (live := live13) (code := c13) (tok T13.rt T13.kl) mixed (gok13 N) Tryd.func13 (by kernel_rfl) (by kernel_rfl) (by kernel_rfl) fun a p h => by rw [← h]; exact run13 N 

/-! ### tiller/tillerlaw15.sure: function 14 -/
noncomputable def c14 : Code := (Tryd.f14.body).getD .skip
noncomputable def T14 : Tb := ⟨tyOf tys, [], []⟩
noncomputable def G14 {R : Type} (N : Nat) : FuncId → List AV → (AV → Option R) → Option R := gCons 6 (gOf ad6 rd6 (F6 N)) (gNil)
theorem gok14 {R : Type} (N : Nat) : GOK Tryd.prog (G14 (R := R) N) := gCons_ok (ok6 N) (gNil_ok)
noncomputable def live14 : List (Nat × List (Nat × HK)) := []
noncomputable def ad14 : Ad (Unit) := a0
noncomputable def rd14 : Rd (Bool) := r1 (cBool)
noncomputable def fn_tillerlaw15_sure (N : Nat)  : Option (Bool) :=
  (fn_fix_Of N 1 2).bind fun r1 =>
   cond (isNoneI r1.2)
    (cond (eqL r1.1.1 (Vec.st (Vec.st (Vec.st (Vec.st (Vec.zero 4) 0 0) 1 0) 2 0) 3 36028797018963968).1)
     (some true)
     (some false))
    (some false)
theorem run14 (N : Nat)  : Eng.run T14 (G14 N) N live14 c14 Tryd.f14.results.toList Tryd.f14.ntmps ((ad14).enc (())) (rd14).dec = fn_tillerlaw15_sure N  := by kernel_rfl
noncomputable def F14 (N : Nat) (a : Unit) : Option (Bool) := fn_tillerlaw15_sure N 
theorem ok14 (N : Nat) : FnOK Tryd.prog 14 ad14 rd14 (F14 N) :=
  fn_ok (N := N) (live := live14) (code := c14) (tok T14.rt T14.kl) mixed (gok14 N) Tryd.func14 (by kernel_rfl) (by kernel_rfl) (by kernel_rfl) fun a p h => by rw [← h]; exact run14 N 

/-! ### math/bits.Mul64: function 54 -/
noncomputable def c54 : Code := (Tryd.f54.body).getD .skip
noncomputable def T54 : Tb := ⟨tyOf tys, [], []⟩
noncomputable def G54 {R : Type} (N : Nat) : FuncId → List AV → (AV → Option R) → Option R := gNil
theorem gok54 {R : Type} (N : Nat) : GOK Tryd.prog (G54 (R := R) N) := gNil_ok
noncomputable def live54 : List (Nat × List (Nat × HK)) := []
noncomputable def ad54 : Ad (Int × Int × Unit) := aC (cInt .u64) (aC (cInt .u64) (a0))
noncomputable def rd54 : Rd (Int × Int) := r2 (cInt .u64) (cInt .u64)
noncomputable def fn_bits_Mul64 (N : Nat) (x0 : Int) (x1 : Int) : Option (Int × Int) :=
  some (addI .u64 (addI .u64 (mulI .u64 (shrI .u64 x0 32) (shrI .u64 x1 32)) (shrI .u64 (addI .u64 (mulI .u64 (shrI .u64 x0 32) (andI .u64 x1 4294967295)) (shrI .u64 (mulI .u64 (andI .u64 x0 4294967295) (andI .u64 x1 4294967295)) 32)) 32)) (shrI .u64 (addI .u64 (andI .u64 (addI .u64 (mulI .u64 (shrI .u64 x0 32) (andI .u64 x1 4294967295)) (shrI .u64 (mulI .u64 (andI .u64 x0 4294967295) (andI .u64 x1 4294967295)) 32)) 4294967295) (mulI .u64 (andI .u64 x0 4294967295) (shrI .u64 x1 32))) 32), mulI .u64 x0 x1)
theorem run54 (N : Nat) (x0 : Int) (x1 : Int) : Eng.run T54 (G54 N) N live54 c54 Tryd.f54.results.toList Tryd.f54.ntmps ((ad54).enc (x0, x1, ())) (rd54).dec = fn_bits_Mul64 N x0 x1 := by kernel_rfl
noncomputable def F54 (N : Nat) (a : Int × Int × Unit) : Option (Int × Int) := fn_bits_Mul64 N a.1 a.2.1
theorem ok54 (N : Nat) : FnOK Tryd.prog 54 ad54 rd54 (F54 N) :=
  fn_ok (N := N) (live := live54) (code := c54) (tok T54.rt T54.kl) mixed (gok54 N) Tryd.func54 (by kernel_rfl) (by kernel_rfl) (by kernel_rfl) fun a p h => by rw [← h]; exact run54 N a.1 a.2.1

/-! ### tiller/wide.Mul: function 38 -/
noncomputable def c38 : Code := (Tryd.f38.body).getD .skip
noncomputable def T38 : Tb := ⟨tyOf tys, [(47, 6), (53, 6), (61, 6), (64, 6), (67, 6)], []⟩
noncomputable def G38 {R : Type} (N : Nat) : FuncId → List AV → (AV → Option R) → Option R := gCons 54 (gOf ad54 rd54 (F54 N)) (gCons 47 (gOf (aI3 .u64) (r2 (cInt .u64) (cInt .u64)) (fun a => add64 a.1 a.2.1 a.2.2.1)) (gNil))
theorem gok38 {R : Type} (N : Nat) : GOK Tryd.prog (G38 (R := R) N) := gCons_ok (ok54 N) (gCons_ok (add64_ok Tryd.func47 (by kernel_rfl) (by kernel_rfl) (by kernel_rfl) (by kernel_rfl)) (gNil_ok))
noncomputable def live38 : List (Nat × List (Nat × HK)) := [(3, [(3, .keep), (4, .keep), (5, .keep), (6, .keep), (15, .keep), (16, .keep)]), (7, [(3, .keep), (4, .keep), (5, .keep), (6, .keep), (7, .keep), (8, .keep), (9, .keep), (15, .keep), (16, .keep), (20, .keep), (21, .keep)])]
noncomputable def ad38 : Ad (Vec 4 × Vec 4 × Unit) := aC (cVec .u64 4) (aC (cVec .u64 4) (a0))
noncomputable def rd38 : Rd (Vec 4 × Vec 4) := r2 (cVec .u64 4) (cVec .u64 4)
noncomputable def st38_0 (v0 : Vec 4) (v1 : Int) (v2 : Vec 4) (v3 : Vec 4) (v4 : Vec 4) (v5 : Vec 8) : St := ⟨[AV.none, AV.none, AV.none, AV.ptr 3 0, AV.ptr 4 0, AV.ptr 5 0, AV.ptr 6 0, AV.none, AV.none, AV.none, AV.none, AV.none, AV.none, AV.none, AV.none, AV.arr .u64 4 v0, AV.v (.int .i64 v1), AV.none, AV.none, AV.none, AV.none, AV.none, AV.none, AV.none, AV.none, AV.none, AV.none, AV.none, AV.none, AV.none, AV.none, AV.none, AV.none, AV.none, AV.none, AV.none, AV.none, AV.none, AV.none, AV.none, AV.none, AV.none, AV.none, AV.none, AV.none, AV.none, AV.none, AV.none, AV.none, AV.none, AV.none, AV.none, AV.none, AV.none, AV.none, AV.none, AV.none, AV.none, AV.none, AV.none, AV.none, AV.none, AV.none, AV.none, AV.none, AV.none, AV.none, AV.none, AV.none], [none, none, none, some (OB.arr .u64 4 v2), some (OB.arr .u64 4 v3), some (OB.arr .u64 4 v4), some (OB.arr .u64 8 v5), none, none, none, none, none, none, none, none, none, none, none, none, none, none, none, none, none, none, none, none, none, none, none, none, none, none, none, none, none, none, none, none, none, none, none, none, none, none, none, none, none, none, none, none, none, none, none, none, none, none, none, none, none, none, none, none, none, none, none, none, none, none]⟩
noncomputable def raw38_0 (N : Nat) (n : Nat) (v0 : Vec 4) (v1 : Int) (v2 : Vec 4) (v3 : Vec 4) (v4 : Vec 4) (v5 : Vec 8) : Option (Vec 4 × Vec 4) := loopN (lookN live38 3) (exec T38 (G38 N) N live38 (cL (cL (cR (cL (cR (cR c38))))))) n (st38_0 v0 v1 v2 v3 v4 v5) (blockK 0 (seqK (exec T38 (G38 N) N live38 (cR (cR (cR c38)))) (retK T38 Tryd.f38.results.toList (rd38).dec)))
noncomputable def st38_1 (v0 : Int) (v1 : Int) (v2 : Int) (v3 : Vec 4) (v4 : Int) (v5 : Vec 4) (v6 : Int) (v7 : Vec 4) (v8 : Vec 4) (v9 : Vec 4) (v10 : Vec 8) : St := ⟨[AV.none, AV.none, AV.none, AV.ptr 3 0, AV.ptr 4 0, AV.ptr 5 0, AV.ptr 6 0, AV.v (.int .i64 v0), AV.v (.int .u64 v1), AV.v (.int .u64 v2), AV.none, AV.none, AV.none, AV.none, AV.none, AV.arr .u64 4 v3, AV.v (.int .i64 v4), AV.none, AV.none, AV.none, AV.arr .u64 4 v5, AV.v (.int .i64 v6), AV.none, AV.none, AV.none, AV.none, AV.none, AV.none, AV.none, AV.none, AV.none, AV.none, AV.none, AV.none, AV.none, AV.none, AV.none, AV.none, AV.none, AV.none, AV.none, AV.none, AV.none, AV.none, AV.none, AV.none, AV.none, AV.none, AV.none, AV.none, AV.none, AV.none, AV.none, AV.none, AV.none, AV.none, AV.none, AV.none, AV.none, AV.none, AV.none, AV.none, AV.none, AV.none, AV.none, AV.none, AV.none, AV.none, AV.none], [none, none, none, some (OB.arr .u64 4 v7), some (OB.arr .u64 4 v8), some (OB.arr .u64 4 v9), some (OB.arr .u64 8 v10), none, none, none, none, none, none, none, none, none, none, none, none, none, none, none, none, none, none, none, none, none, none, none, none, none, none, none, none, none, none, none, none, none, none, none, none, none, none, none, none, none, none, none, none, none, none, none, none, none, none, none, none, none, none, none, none, none, none, none, none, none, none]⟩
noncomputable def raw38_1 (N : Nat) (m0 : Nat) (n : Nat) (v0 : Int) (v1 : Int) (v2 : Int) (v3 : Vec 4) (v4 : Int) (v5 : Vec 4) (v6 : Int) (v7 : Vec 4) (v8 : Vec 4) (v9 : Vec 4) (v10 : Vec 8) : Option (Vec 4 × Vec 4) := loopN (lookN live38 7) (exec T38 (G38 N) N live38 (cL (cL (cR (cL (cR (cR (cL (cL (cR (cR (cL (cL (cR (cL (cR (cR c38))))))))))))))))) n (st38_1 v0 v1 v2 v3 v4 v5 v6 v7 v8 v9 v10) (blockK 2 (seqK (exec T38 (G38 N) N live38 (cR (cR (cR (cL (cL (cR (cR (cL (cL (cR (cL (cR (cR c38)))))))))))))) (blockK 1 (seqK (exec T38 (G38 N) N live38 (cR (cR (cR (cL (cL (cR (cL (cR (cR c38)))))))))) (roundK (fun s => loopN (lookN live38 3) (exec T38 (G38 N) N live38 (cL (cL (cR (cL (cR (cR c38))))))) m0 s (blockK 0 (seqK (exec T38 (G38 N) N live38 (cR (cR (cR c38)))) (retK T38 Tryd.f38.results.toList (rd38).dec)))) (lookN live38 3) (blockK 0 (seqK (exec T38 (G38 N) N live38 (cR (cR (cR c38)))) (retK T38 Tryd.f38.results.toList (rd38).dec))))))))
noncomputable def s38_1 (N : Nat) (Ln1 : Int → Int → Int → Vec 4 → Int → Vec 4 → Int → Vec 4 → Vec 4 → Vec 4 → Vec 8 → Option (Vec 4 × Vec 4)) (Ln0 : Vec 4 → Int → Vec 4 → Vec 4 → Vec 4 → Vec 8 → Option (Vec 4 × Vec 4)) (v0 : Int) (v1 : Int) (v2 : Int) (v3 : Vec 4) (v4 : Int) (v5 : Vec 4) (v6 : Int) (v7 : Vec 4) (v8 : Vec 4) (v9 : Vec 4) (v10 : Vec 8) : Option (Vec 4 × Vec 4) :=
  cond (ltI v6 4)
   (cond (leI 0 v6)
    (cond (ltI v6 4)
     ((fn_bits_Mul64 N v1 (Vec.rd v5 v6)).bind fun r1 =>
      (add64 r1.2 v2 0).bind fun r2 =>
       cond (leI 0 (addI .i64 v0 v6))
        (cond (ltI (addI .i64 v0 v6) 8)
         ((add64 (Vec.rd v10 (addI .i64 v0 v6)) r2.1 0).bind fun r3 =>
          cond (leI 0 (addI .i64 v0 v6))
           (cond (ltI (addI .i64 v0 v6) 8)
            (Ln1 v0 v1 (addI .u64 (addI .u64 r1.1 r2.2) r3.2) v3 v4 v5 (addI .i64 v6 1) v7 v8 v9 (Vec.st v10 (addI .i64 v0 v6) r3.1))
            (none))
           (none))
         (none))
        (none))
     (none))
    (none))
   (cond (leI 0 (addI .i64 v0 4))
    (cond (ltI (addI .i64 v0 4) 8)
     (Ln0 v3 (addI .i64 v4 1) v7 v8 v9 (Vec.st v10 (addI .i64 v0 4) v2))
     (none))
    (none))
theorem step38_1 (N : Nat) (m0 : Nat) (n : Nat) (v0 : Int) (v1 : Int) (v2 : Int) (v3 : Vec 4) (v4 : Int) (v5 : Vec 4) (v6 : Int) (v7 : Vec 4) (v8 : Vec 4) (v9 : Vec 4) (v10 : Vec 8) : raw38_1 N m0 (n + 1) v0 v1 v2 v3 v4 v5 v6 v7 v8 v9 v10 = s38_1 N (raw38_1 N m0 n) (raw38_0 N  m0) v0 v1 v2 v3 v4 v5 v6 v7 v8 v9 v10 := by kernel_rfl
noncomputable def l38_1 (N : Nat) (E0 : Vec 4 → Int → Vec 4 → Vec 4 → Vec 4 → Vec 8 → Option (Vec 4 × Vec 4)) : Nat → Int → Int → Int → Vec 4 → Int → Vec 4 → Int → Vec 4 → Vec 4 → Vec 4 → Vec 8 → Option (Vec 4 × Vec 4)
  | 0 => fun _ _ _ _ _ _ _ _ _ _ _ => none
  | n + 1 => fun v0 v1 v2 v3 v4 v5 v6 v7 v8 v9 v10 => s38_1 N (l38_1 N E0 n) E0 v0 v1 v2 v3 v4 v5 v6 v7 v8 v9 v10
theorem eq38_1 (N : Nat) (m0 : Nat) : ∀ n, raw38_1 N m0 n = l38_1 N (raw38_0 N  m0) n := by
  intro n
  induction n with
  | zero => exact funext fun v0 => funext fun v1 => funext fun v2 => funext fun v3 => funext fun v4 => funext fun v5 => funext fun v6 => funext fun v7 => funext fun v8 => funext fun v9 => funext fun v10 => rfl
  | succ n ih => exact funext fun v0 => funext fun v1 => funext fun v2 => funext fun v3 => funext fun v4 => funext fun v5 => funext fun v6 => funext fun v7 => funext fun v8 => funext fun v9 => funext fun v10 => by rw [step38_1, ih]; rfl
noncomputable def s38_0 (N : Nat) (Le1 : Int → Int → Int → Vec 4 → Int → Vec 4 → Int → Vec 4 → Vec 4 → Vec 4 → Vec 8 → Option (Vec 4 × Vec 4)) (v0 : Vec 4) (v1 : Int) (v2 : Vec 4) (v3 : Vec 4) (v4 : Vec 4) (v5 : Vec 8) : Option (Vec 4 × Vec 4) :=
  cond (ltI v1 4)
   (cond (leI 0 v1)
    (cond (ltI v1 4)
     (Le1 v1 (Vec.rd v0 v1) 0 v0 v1 v2 0 v2 v3 v4 v5)
     (none))
    (none))
   (some (v5.sub 0 4 (by decide), v5.sub 4 4 (by decide)))
theorem step38_0 (N : Nat) (n : Nat) (v0 : Vec 4) (v1 : Int) (v2 : Vec 4) (v3 : Vec 4) (v4 : Vec 4) (v5 : Vec 8) : raw38_0 N  (n + 1) v0 v1 v2 v3 v4 v5 = s38_0 N (raw38_1 N n N) v0 v1 v2 v3 v4 v5 := by kernel_rfl
noncomputable def l38_0 (N : Nat) : Nat → Vec 4 → Int → Vec 4 → Vec 4 → Vec 4 → Vec 8 → Option (Vec 4 × Vec 4)
  | 0 => fun _ _ _ _ _ _ => none
  | n + 1 => fun v0 v1 v2 v3 v4 v5 => s38_0 N (l38_1 N (l38_0 N  n) N) v0 v1 v2 v3 v4 v5
theorem eq38_0 (N : Nat) : ∀ n, raw38_0 N  n = l38_0 N  n := by
  intro n
  induction n with
  | zero => exact funext fun v0 => funext fun v1 => funext fun v2 => funext fun v3 => funext fun v4 => funext fun v5 => rfl
  | succ n ih => exact funext fun v0 => funext fun v1 => funext fun v2 => funext fun v3 => funext fun v4 => funext fun v5 => by rw [step38_0, eq38_1 N n N, ih]; rfl
noncomputable def t38 (N : Nat) (Le0 : Vec 4 → Int → Vec 4 → Vec 4 → Vec 4 → Vec 8 → Option (Vec 4 × Vec 4)) (x0 : Vec 4) (x1 : Vec 4) : Option (Vec 4 × Vec 4) :=
  Le0 x0 0 x1 (Vec.zero 4) (Vec.zero 4) (Vec.zero 8)
noncomputable def fn_wide_Mul (N : Nat) (x0 : Vec 4) (x1 : Vec 4) : Option (Vec 4 × Vec 4) := t38 N (l38_0 N N) x0 x1
theorem run38 (N : Nat) (x0 : Vec 4) (x1 : Vec 4) : Eng.run T38 (G38 N) N live38 c38 Tryd.f38.results.toList Tryd.f38.ntmps ((ad38).enc (x0, x1, ())) (rd38).dec = fn_wide_Mul N x0 x1 := by
  refine Eq.trans (show _ = t38 N (raw38_0 N N) x0 x1 from by kernel_rfl) ?_
  unfold fn_wide_Mul
  rw [eq38_0 N N]
noncomputable def F38 (N : Nat) (a : Vec 4 × Vec 4 × Unit) : Option (Vec 4 × Vec 4) := fn_wide_Mul N a.1 a.2.1
theorem ok38 (N : Nat) : FnOK Tryd.prog 38 ad38 rd38 (F38 N) :=
  fn_ok (N := N) (live := live38) (code := c38) (tok T38.rt T38.kl) mixed (gok38 N) Tryd.func38 (by kernel_rfl) (by kernel_rfl) (by kernel_rfl) fun a p h => by rw [← h]; exact run38 N a.1 a.2.1

/-! ### tiller/wide.Shr: function 16 -/
noncomputable def c16 : Code := (Tryd.f16.body).getD .skip
noncomputable def T16 : Tb := ⟨tyOf tys, [(29, 2), (34, 6), (41, 6), (47, 2), (54, 6)], []⟩
noncomputable def G16 {R : Type} (N : Nat) : FuncId → List AV → (AV → Option R) → Option R := gCons 29 (gOf ad29 rd29 (F29 N)) (gNil)
theorem gok16 {R : Type} (N : Nat) : GOK Tryd.prog (G16 (R := R) N) := gCons_ok (ok29 N) (gNil_ok)
noncomputable def live16 : List (Nat × List (Nat × HK)) := [(8, [(1, .keep), (2, .keep), (4, .keep), (6, .keep), (7, .keep), (21, .keep), (22, .keep)])]
noncomputable def ad16 : Ad (Vec 4 × Int × Unit) := aC (cVec .u64 4) (aC (cInt .i64) (a0))
noncomputable def rd16 : Rd (Vec 4 × Bool) := r2 (cVec .u64 4) (cBool)
noncomputable def st16_0 (v0 : Int) (v1 : Int) (v2 : Int) (v3 : Int) (v4 : Vec 4) (v5 : Vec 4) (v6 : Vec 4) : St := ⟨[AV.none, AV.v (.int .i64 v0), AV.ptr 2 0, AV.none, AV.ptr 4 0, AV.none, AV.ptr 6 0, AV.v (.int .i64 v1), AV.none, AV.none, AV.none, AV.none, AV.none, AV.none, AV.none, AV.none, AV.none, AV.none, AV.none, AV.none, AV.none, AV.v (.int .i64 v2), AV.v (.int .i64 v3), AV.none, AV.none, AV.none, AV.none, AV.none, AV.none, AV.none, AV.none, AV.none, AV.none, AV.none, AV.none, AV.none, AV.none, AV.none, AV.none, AV.none, AV.none, AV.none, AV.none, AV.none, AV.none, AV.none, AV.none, AV.none, AV.none, AV.none, AV.none, AV.none, AV.none, AV.none, AV.none, AV.none, AV.none, AV.none, AV.none, AV.none, AV.none, AV.none], [none, none, some (OB.arr .u64 4 v4), none, some (OB.arr .u64 4 v5), none, some (OB.arr .u64 4 v6), none, none, none, none, none, none, none, none, none, none, none, none, none, none, none, none, none, none, none, none, none, none, none, none, none, none, none, none, none, none, none, none, none, none, none, none, none, none, none, none, none, none, none, none, none, none, none, none, none, none, none, none, none, none, none]⟩
noncomputable def raw16_0 (N : Nat) (n : Nat) (v0 : Int) (v1 : Int) (v2 : Int) (v3 : Int) (v4 : Vec 4) (v5 : Vec 4) (v6 : Vec 4) : Option (Vec 4 × Bool) := loopN (lookN live16 8) (exec T16 (G16 N) N live16 (cL (cL (cR (cL (cR (cR (cR (cR (cR c16)))))))))) n (st16_0 v0 v1 v2 v3 v4 v5 v6) (blockK 0 (seqK (exec T16 (G16 N) N live16 (cR (cR (cR (cR (cR (cR c16))))))) (retK T16 Tryd.f16.results.toList (rd16).dec)))
noncomputable def s16_0 (N : Nat) (Ln0 : Int → Int → Int → Int → Vec 4 → Vec 4 → Vec 4 → Option (Vec 4 × Bool)) (v0 : Int) (v1 : Int) (v2 : Int) (v3 : Int) (v4 : Vec 4) (v5 : Vec 4) (v6 : Vec 4) : Option (Vec 4 × Bool) :=
  cond (ltI v3 v2)
   (cond (leI 0 (addI .i64 v3 v1))
    (cond (ltI (addI .i64 v3 v1) 4)
     (cond (ltI (remI .i64 v0 64) 0)
      (none)
      (cond (leI 0 v3)
       (cond (ltI v3 4)
        (cond (ltI (addI .i64 (addI .i64 v3 v1) 1) 4)
         (cond (leI 0 v3)
          (cond (ltI v3 4)
           (cond (leI 0 (addI .i64 (addI .i64 v3 v1) 1))
            (cond (ltI (addI .i64 (addI .i64 v3 v1) 1) 4)
             (cond (ltI (subI .i64 64 (remI .i64 v0 64)) 0)
              (none)
              (cond (leI 0 v3)
               (cond (ltI v3 4)
                (Ln0 v0 v1 v2 (addI .i64 v3 1) v4 v5 (Vec.st (Vec.st v6 v3 (shrI .u64 (Vec.rd v4 (addI .i64 v3 v1)) (remI .i64 v0 64))) v3 (orI .u64 (Vec.rd (Vec.st v6 v3 (shrI .u64 (Vec.rd v4 (addI .i64 v3 v1)) (remI .i64 v0 64))) v3) (shlI .u64 (Vec.rd v4 (addI .i64 (addI .i64 v3 v1) 1)) (subI .i64 64 (remI .i64 v0 64))))))
                (none))
               (none)))
             (none))
            (none))
           (none))
          (none))
         (Ln0 v0 v1 v2 (addI .i64 v3 1) v4 v5 (Vec.st v6 v3 (shrI .u64 (Vec.rd v4 (addI .i64 v3 v1)) (remI .i64 v0 64)))))
        (none))
       (none)))
     (none))
    (none))
   ((fn_wide_Shl N v6 v0).bind fun r1 =>
    some (v6, !(eqL r1.1 v4.1)))
theorem step16_0 (N : Nat) (n : Nat) (v0 : Int) (v1 : Int) (v2 : Int) (v3 : Int) (v4 : Vec 4) (v5 : Vec 4) (v6 : Vec 4) : raw16_0 N  (n + 1) v0 v1 v2 v3 v4 v5 v6 = s16_0 N (raw16_0 N  n) v0 v1 v2 v3 v4 v5 v6 := by kernel_rfl
noncomputable def l16_0 (N : Nat) : Nat → Int → Int → Int → Int → Vec 4 → Vec 4 → Vec 4 → Option (Vec 4 × Bool)
  | 0 => fun _ _ _ _ _ _ _ => none
  | n + 1 => fun v0 v1 v2 v3 v4 v5 v6 => s16_0 N (l16_0 N  n) v0 v1 v2 v3 v4 v5 v6
theorem eq16_0 (N : Nat) : ∀ n, raw16_0 N  n = l16_0 N  n := by
  intro n
  induction n with
  | zero => exact funext fun v0 => funext fun v1 => funext fun v2 => funext fun v3 => funext fun v4 => funext fun v5 => funext fun v6 => rfl
  | succ n ih => exact funext fun v0 => funext fun v1 => funext fun v2 => funext fun v3 => funext fun v4 => funext fun v5 => funext fun v6 => by rw [step16_0, ih]; rfl
noncomputable def t16 (N : Nat) (Le0 : Int → Int → Int → Int → Vec 4 → Vec 4 → Vec 4 → Option (Vec 4 × Bool)) (x0 : Vec 4) (x1 : Int) : Option (Vec 4 × Bool) :=
  cond (ltI x1 1)
   (some (x0, false))
   (cond (leI 256 x1)
    (some (Vec.zero 4, !(eqL x0.1 (Vec.zero 4).1)))
    (Le0 x1 (quoI .i64 x1 64) (subI .i64 4 (quoI .i64 x1 64)) 0 x0 (Vec.zero 4) (Vec.zero 4)))
noncomputable def fn_wide_Shr (N : Nat) (x0 : Vec 4) (x1 : Int) : Option (Vec 4 × Bool) := t16 N (l16_0 N N) x0 x1
theorem run16 (N : Nat) (x0 : Vec 4) (x1 : Int) : Eng.run T16 (G16 N) N live16 c16 Tryd.f16.results.toList Tryd.f16.ntmps ((ad16).enc (x0, x1, ())) (rd16).dec = fn_wide_Shr N x0 x1 := by
  refine Eq.trans (show _ = t16 N (raw16_0 N N) x0 x1 from by kernel_rfl) ?_
  unfold fn_wide_Shr
  rw [eq16_0 N N]
noncomputable def F16 (N : Nat) (a : Vec 4 × Int × Unit) : Option (Vec 4 × Bool) := fn_wide_Shr N a.1 a.2.1
theorem ok16 (N : Nat) : FnOK Tryd.prog 16 ad16 rd16 (F16 N) :=
  fn_ok (N := N) (live := live16) (code := c16) (tok T16.rt T16.kl) mixed (gok16 N) Tryd.func16 (by kernel_rfl) (by kernel_rfl) (by kernel_rfl) fun a p h => by rw [← h]; exact run16 N a.1 a.2.1

/-! ### tiller/fix.Mul: function 15 -/
noncomputable def c15 : Code := (Tryd.f15.body).getD .skip
noncomputable def T15 : Tb := ⟨tyOf tys, [], []⟩
noncomputable def G15 {R : Type} (N : Nat) : FuncId → List AV → (AV → Option R) → Option R := gCons 38 (gOf ad38 rd38 (F38 N)) (gCons 16 (gOf ad16 rd16 (F16 N)) (gCons 29 (gOf ad29 rd29 (F29 N)) (gCons 30 (gOf ad30 rd30 (F30 N)) (gCons 23 (gOf ad23 rd23 (F23 N)) (gNil)))))
theorem gok15 {R : Type} (N : Nat) : GOK Tryd.prog (G15 (R := R) N) := gCons_ok (ok38 N) (gCons_ok (ok16 N) (gCons_ok (ok29 N) (gCons_ok (ok30 N) (gCons_ok (ok23 N) (gNil_ok)))))
noncomputable def live15 : List (Nat × List (Nat × HK)) := []
noncomputable def ad15 : Ad (Vec 4 × Vec 4 × Unit) := aC (cVec .u64 4) (aC (cVec .u64 4) (a0))
noncomputable def rd15 : Rd (Vec 4 × Bool) := r2 (cVec .u64 4) (cBool)
noncomputable def fn_fix_Mul (N : Nat) (x0 : Vec 4) (x1 : Vec 4) : Option (Vec 4 × Bool) :=
  (fn_wide_Mul N x0 x1).bind fun r1 =>
   (fn_wide_Shr N r1.1 248).bind fun r2 =>
    (fn_wide_Shl N r1.2 8).bind fun r3 =>
     (fn_wide_Add N r3 r2.1).bind fun r4 =>
      (fn_wide_Len N r1.2).bind fun r5 =>
       some (r4.1, ltI 248 r5)
theorem run15 (N : Nat) (x0 : Vec 4) (x1 : Vec 4) : Eng.run T15 (G15 N) N live15 c15 Tryd.f15.results.toList Tryd.f15.ntmps ((ad15).enc (x0, x1, ())) (rd15).dec = fn_fix_Mul N x0 x1 := by kernel_rfl
noncomputable def F15 (N : Nat) (a : Vec 4 × Vec 4 × Unit) : Option (Vec 4 × Bool) := fn_fix_Mul N a.1 a.2.1
theorem ok15 (N : Nat) : FnOK Tryd.prog 15 ad15 rd15 (F15 N) :=
  fn_ok (N := N) (live := live15) (code := c15) (tok T15.rt T15.kl) mixed (gok15 N) Tryd.func15 (by kernel_rfl) (by kernel_rfl) (by kernel_rfl) fun a p h => by rw [← h]; exact run15 N a.1 a.2.1

/-! ### tiller/tillerlaw15.one: function 17 -/
noncomputable def c17 : Code := (Tryd.f17.body).getD .skip
noncomputable def T17 : Tb := ⟨tyOf tys, [], []⟩
noncomputable def G17 {R : Type} (N : Nat) : FuncId → List AV → (AV → Option R) → Option R := gNil
theorem gok17 {R : Type} (N : Nat) : GOK Tryd.prog (G17 (R := R) N) := gNil_ok
noncomputable def live17 : List (Nat × List (Nat × HK)) := []
noncomputable def ad17 : Ad (Unit) := a0
noncomputable def rd17 : Rd (Vec 4) := r1 (cVec .u64 4)
noncomputable def fn_tillerlaw15_one (N : Nat)  : Option (Vec 4) :=
  some (Vec.st (Vec.st (Vec.st (Vec.st (Vec.zero 4) 0 0) 1 0) 2 0) 3 72057594037927936)
theorem run17 (N : Nat)  : Eng.run T17 (G17 N) N live17 c17 Tryd.f17.results.toList Tryd.f17.ntmps ((ad17).enc (())) (rd17).dec = fn_tillerlaw15_one N  := by kernel_rfl
noncomputable def F17 (N : Nat) (a : Unit) : Option (Vec 4) := fn_tillerlaw15_one N 
theorem ok17 (N : Nat) : FnOK Tryd.prog 17 ad17 rd17 (F17 N) :=
  fn_ok (N := N) (live := live17) (code := c17) (tok T17.rt T17.kl) mixed (gok17 N) Tryd.func17 (by kernel_rfl) (by kernel_rfl) (by kernel_rfl) fun a p h => by rw [← h]; exact run17 N 

/-! ### tiller/fix.one: function 39 -/
noncomputable def c39 : Code := (Tryd.f39.body).getD .skip
noncomputable def T39 : Tb := ⟨tyOf tys, [], []⟩
noncomputable def G39 {R : Type} (N : Nat) : FuncId → List AV → (AV → Option R) → Option R := gCons 24 (gOf ad24 rd24 (F24 N)) (gCons 29 (gOf ad29 rd29 (F29 N)) (gNil))
theorem gok39 {R : Type} (N : Nat) : GOK Tryd.prog (G39 (R := R) N) := gCons_ok (ok24 N) (gCons_ok (ok29 N) (gNil_ok))
noncomputable def live39 : List (Nat × List (Nat × HK)) := []
noncomputable def ad39 : Ad (Unit) := a0
noncomputable def rd39 : Rd (Vec 4) := r1 (cVec .u64 4)
noncomputable def fn_fix_one (N : Nat)  : Option (Vec 4) :=
  (fn_wide_Of N 1).bind fun r1 =>
   (fn_wide_Shl N r1 248).bind fun r2 =>
    some r2
theorem run39 (N : Nat)  : Eng.run T39 (G39 N) N live39 c39 Tryd.f39.results.toList Tryd.f39.ntmps ((ad39).enc (())) (rd39).dec = fn_fix_one N  := by kernel_rfl
noncomputable def F39 (N : Nat) (a : Unit) : Option (Vec 4) := fn_fix_one N 
theorem ok39 (N : Nat) : FnOK Tryd.prog 39 ad39 rd39 (F39 N) :=
  fn_ok (N := N) (live := live39) (code := c39) (tok T39.rt T39.kl) mixed (gok39 N) Tryd.func39 (by kernel_rfl) (by kernel_rfl) (by kernel_rfl) fun a p h => by rw [← h]; exact run39 N 

/-! ### tiller/wide.Cmp: function 20 -/
noncomputable def c20 : Code := (Tryd.f20.body).getD .skip
noncomputable def T20 : Tb := ⟨tyOf tys, [(12, 2), (15, 3), (20, 2), (23, 3)], []⟩
noncomputable def G20 {R : Type} (N : Nat) : FuncId → List AV → (AV → Option R) → Option R := gNil
theorem gok20 {R : Type} (N : Nat) : GOK Tryd.prog (G20 (R := R) N) := gNil_ok
noncomputable def live20 : List (Nat × List (Nat × HK)) := [(2, [(2, .keep), (3, .keep), (5, .keep)])]
noncomputable def ad20 : Ad (Vec 4 × Vec 4 × Unit) := aC (cVec .u64 4) (aC (cVec .u64 4) (a0))
noncomputable def rd20 : Rd (Int) := r1 (cInt .i64)
noncomputable def st20_0 (v0 : Int) (v1 : Vec 4) (v2 : Vec 4) : St := ⟨[AV.none, AV.none, AV.ptr 2 0, AV.ptr 3 0, AV.none, AV.v (.int .i64 v0), AV.none, AV.none, AV.none, AV.none, AV.none, AV.none, AV.none, AV.none, AV.none, AV.none, AV.none, AV.none, AV.none, AV.none, AV.none, AV.none, AV.none, AV.none, AV.none, AV.none], [none, none, some (OB.arr .u64 4 v1), some (OB.arr .u64 4 v2), none, none, none, none, none, none, none, none, none, none, none, none, none, none, none, none, none, none, none, none, none, none]⟩
noncomputable def raw20_0 (N : Nat) (n : Nat) (v0 : Int) (v1 : Vec 4) (v2 : Vec 4) : Option (Int) := loopN (lookN live20 2) (exec T20 (G20 N) N live20 (cL (cL (cR (cL (cR c20)))))) n (st20_0 v0 v1 v2) (blockK 0 (seqK (exec T20 (G20 N) N live20 (cR (cR c20))) (retK T20 Tryd.f20.results.toList (rd20).dec)))
noncomputable def s20_0 (N : Nat) (Ln0 : Int → Vec 4 → Vec 4 → Option (Int)) (v0 : Int) (v1 : Vec 4) (v2 : Vec 4) : Option (Int) :=
  cond (leI 0 v0)
   (cond (leI 0 v0)
    (cond (ltI v0 4)
     (cond (leI 0 v0)
      (cond (ltI v0 4)
       (cond (ltI (Vec.rd v1 v0) (Vec.rd v2 v0))
        (some (-1))
        (cond (leI 0 v0)
         (cond (ltI v0 4)
          (cond (leI 0 v0)
           (cond (ltI v0 4)
            (cond (ltI (Vec.rd v2 v0) (Vec.rd v1 v0))
             (some 1)
             (Ln0 (subI .i64 v0 1) v1 v2))
            (none))
           (none))
          (none))
         (none)))
       (none))
      (none))
     (none))
    (none))
   (some 0)
theorem step20_0 (N : Nat) (n : Nat) (v0 : Int) (v1 : Vec 4) (v2 : Vec 4) : raw20_0 N  (n + 1) v0 v1 v2 = s20_0 N (raw20_0 N  n) v0 v1 v2 := by kernel_rfl
noncomputable def l20_0 (N : Nat) : Nat → Int → Vec 4 → Vec 4 → Option (Int)
  | 0 => fun _ _ _ => none
  | n + 1 => fun v0 v1 v2 => s20_0 N (l20_0 N  n) v0 v1 v2
theorem eq20_0 (N : Nat) : ∀ n, raw20_0 N  n = l20_0 N  n := by
  intro n
  induction n with
  | zero => exact funext fun v0 => funext fun v1 => funext fun v2 => rfl
  | succ n ih => exact funext fun v0 => funext fun v1 => funext fun v2 => by rw [step20_0, ih]; rfl
noncomputable def t20 (N : Nat) (Le0 : Int → Vec 4 → Vec 4 → Option (Int)) (x0 : Vec 4) (x1 : Vec 4) : Option (Int) :=
  Le0 3 x0 x1
noncomputable def fn_wide_Cmp (N : Nat) (x0 : Vec 4) (x1 : Vec 4) : Option (Int) := t20 N (l20_0 N N) x0 x1
theorem run20 (N : Nat) (x0 : Vec 4) (x1 : Vec 4) : Eng.run T20 (G20 N) N live20 c20 Tryd.f20.results.toList Tryd.f20.ntmps ((ad20).enc (x0, x1, ())) (rd20).dec = fn_wide_Cmp N x0 x1 := by
  refine Eq.trans (show _ = t20 N (raw20_0 N N) x0 x1 from by kernel_rfl) ?_
  unfold fn_wide_Cmp
  rw [eq20_0 N N]
noncomputable def F20 (N : Nat) (a : Vec 4 × Vec 4 × Unit) : Option (Int) := fn_wide_Cmp N a.1 a.2.1
theorem ok20 (N : Nat) : FnOK Tryd.prog 20 ad20 rd20 (F20 N) :=
  fn_ok (N := N) (live := live20) (code := c20) (tok T20.rt T20.kl) mixed (gok20 N) Tryd.func20 (by kernel_rfl) (by kernel_rfl) (by kernel_rfl) fun a p h => by rw [← h]; exact run20 N a.1 a.2.1

/-! ### tiller/fix.series: function 41 -/
noncomputable def c41 : Code := (Tryd.f41.body).getD .skip
noncomputable def T41 : Tb := ⟨tyOf tys, [], []⟩
noncomputable def G41 {R : Type} (N : Nat) : FuncId → List AV → (AV → Option R) → Option R := gCons 30 (gOf ad30 rd30 (F30 N)) (gCons 15 (gOf ad15 rd15 (F15 N)) (gCons 24 (gOf ad24 rd24 (F24 N)) (gCons 28 (gOf ad28 rd28 (F28 N)) (gCons 21 (gOf ad21 rd21 (F21 N)) (gNil)))))
theorem gok41 {R : Type} (N : Nat) : GOK Tryd.prog (G41 (R := R) N) := gCons_ok (ok30 N) (gCons_ok (ok15 N) (gCons_ok (ok24 N) (gCons_ok (ok28 N) (gCons_ok (ok21 N) (gNil_ok)))))
noncomputable def live41 : List (Nat × List (Nat × HK)) := [(3, [(2, .keep), (3, .keep), (4, .keep), (6, .keep), (7, .keep), (8, .keep), (12, .keep)])]
noncomputable def ad41 : Ad (Vec 4 × Vec 4 × Int × Unit) := aC (cVec .u64 4) (aC (cVec .u64 4) (aC (cInt .u64) (a0)))
noncomputable def rd41 : Rd (Vec 4) := r1 (cVec .u64 4)
noncomputable def st41_0 (v0 : Int) (v1 : Int) (v2 : Vec 4) (v3 : Vec 4) (v4 : Vec 4) (v5 : Vec 4) (v6 : Vec 4) : St := ⟨[AV.none, AV.none, AV.v (.int .u64 v0), AV.ptr 3 0, AV.ptr 4 0, AV.none, AV.ptr 6 0, AV.ptr 7 0, AV.ptr 8 0, AV.none, AV.none, AV.none, AV.v (.int .i64 v1), AV.none, AV.none, AV.none, AV.none, AV.none, AV.none, AV.none, AV.none, AV.none, AV.none, AV.none, AV.none, AV.none, AV.none, AV.none, AV.none, AV.none, AV.none, AV.none, AV.none, AV.none, AV.none, AV.none, AV.none, AV.none, AV.none, AV.none, AV.none, AV.none, AV.none, AV.none, AV.none, AV.none, AV.none, AV.none, AV.none, AV.none, AV.none, AV.none, AV.none, AV.none, AV.none, AV.none, AV.none, AV.none, AV.none, AV.none], [none, none, none, some (OB.arr .u64 4 v2), some (OB.arr .u64 4 v3), none, some (OB.arr .u64 4 v4), some (OB.arr .u64 4 v5), some (OB.arr .u64 4 v6), none, none, none, none, none, none, none, none, none, none, none, none, none, none, none, none, none, none, none, none, none, none, none, none, none, none, none, none, none, none, none, none, none, none, none, none, none, none, none, none, none, none, none, none, none, none, none, none, none, none, none]⟩
noncomputable def raw41_0 (N : Nat) (n : Nat) (v0 : Int) (v1 : Int) (v2 : Vec 4) (v3 : Vec 4) (v4 : Vec 4) (v5 : Vec 4) (v6 : Vec 4) : Option (Vec 4) := loopN (lookN live41 3) (exec T41 (G41 N) N live41 (cL (cL (cR (cL (cR (cR c41))))))) n (st41_0 v0 v1 v2 v3 v4 v5 v6) (blockK 0 (seqK (exec T41 (G41 N) N live41 (cR (cR (cR c41)))) (retK T41 Tryd.f41.results.toList (rd41).dec)))
noncomputable def s41_0 (N : Nat) (Ln0 : Int → Int → Vec 4 → Vec 4 → Vec 4 → Vec 4 → Vec 4 → Option (Vec 4)) (v0 : Int) (v1 : Int) (v2 : Vec 4) (v3 : Vec 4) (v4 : Vec 4) (v5 : Vec 4) (v6 : Vec 4) : Option (Vec 4) :=
  cond (ltI v1 80)
   (cond (eqI (remI .i64 v1 2) 0)
    ((fn_wide_Add N v5 v2).bind fun r1 =>
     (fn_fix_Mul N v2 v3).bind fun r2 =>
      (fn_wide_Of N (mulI .u64 v0 (addI .u64 v0 1))).bind fun r3 =>
       (fn_wide_DivMod N r2.1 r3).bind fun r4 =>
        cond (eqL r4.1.1 (Vec.zero 4).1)
         ((fn_wide_Sub N r1.1 v6).bind fun r5 =>
          some r5.1)
         (Ln0 (addI .u64 v0 2) (addI .i64 v1 1) r4.1 v3 v4 r1.1 v6))
    ((fn_wide_Add N v6 v2).bind fun r6 =>
     (fn_fix_Mul N v2 v3).bind fun r7 =>
      (fn_wide_Of N (mulI .u64 v0 (addI .u64 v0 1))).bind fun r8 =>
       (fn_wide_DivMod N r7.1 r8).bind fun r9 =>
        cond (eqL r9.1.1 (Vec.zero 4).1)
         ((fn_wide_Sub N v5 r6.1).bind fun r10 =>
          some r10.1)
         (Ln0 (addI .u64 v0 2) (addI .i64 v1 1) r9.1 v3 v4 v5 r6.1)))
   ((fn_wide_Sub N v5 v6).bind fun r11 =>
    some r11.1)
theorem step41_0 (N : Nat) (n : Nat) (v0 : Int) (v1 : Int) (v2 : Vec 4) (v3 : Vec 4) (v4 : Vec 4) (v5 : Vec 4) (v6 : Vec 4) : raw41_0 N  (n + 1) v0 v1 v2 v3 v4 v5 v6 = s41_0 N (raw41_0 N  n) v0 v1 v2 v3 v4 v5 v6 := by kernel_rfl
noncomputable def l41_0 (N : Nat) : Nat → Int → Int → Vec 4 → Vec 4 → Vec 4 → Vec 4 → Vec 4 → Option (Vec 4)
  | 0 => fun _ _ _ _ _ _ _ => none
  | n + 1 => fun v0 v1 v2 v3 v4 v5 v6 => s41_0 N (l41_0 N  n) v0 v1 v2 v3 v4 v5 v6
theorem eq41_0 (N : Nat) : ∀ n, raw41_0 N  n = l41_0 N  n := by
  intro n
  induction n with
  | zero => exact funext fun v0 => funext fun v1 => funext fun v2 => funext fun v3 => funext fun v4 => funext fun v5 => funext fun v6 => rfl
  | succ n ih => exact funext fun v0 => funext fun v1 => funext fun v2 => funext fun v3 => funext fun v4 => funext fun v5 => funext fun v6 => by rw [step41_0, ih]; rfl
noncomputable def t41 (N : Nat) (Le0 : Int → Int → Vec 4 → Vec 4 → Vec 4 → Vec 4 → Vec 4 → Option (Vec 4)) (x0 : Vec 4) (x1 : Vec 4) (x2 : Int) : Option (Vec 4) :=
  Le0 x2 0 x0 x1 (Vec.zero 4) (Vec.zero 4) (Vec.zero 4)
noncomputable def fn_fix_series (N : Nat) (x0 : Vec 4) (x1 : Vec 4) (x2 : Int) : Option (Vec 4) := t41 N (l41_0 N N) x0 x1 x2
theorem run41 (N : Nat) (x0 : Vec 4) (x1 : Vec 4) (x2 : Int) : Eng.run T41 (G41 N) N live41 c41 Tryd.f41.results.toList Tryd.f41.ntmps ((ad41).enc (x0, x1, x2, ())) (rd41).dec = fn_fix_series N x0 x1 x2 := by
  refine Eq.trans (show _ = t41 N (raw41_0 N N) x0 x1 x2 from by kernel_rfl) ?_
  unfold fn_fix_series
  rw [eq41_0 N N]
noncomputable def F41 (N : Nat) (a : Vec 4 × Vec 4 × Int × Unit) : Option (Vec 4) := fn_fix_series N a.1 a.2.1 a.2.2.1
theorem ok41 (N : Nat) : FnOK Tryd.prog 41 ad41 rd41 (F41 N) :=
  fn_ok (N := N) (live := live41) (code := c41) (tok T41.rt T41.kl) mixed (gok41 N) Tryd.func41 (by kernel_rfl) (by kernel_rfl) (by kernel_rfl) fun a p h => by rw [← h]; exact run41 N a.1 a.2.1 a.2.2.1

/-! ### tiller/fix.around: function 40 -/
noncomputable def c40 : Code := (Tryd.f40.body).getD .skip
noncomputable def T40 : Tb := ⟨tyOf tys, [], []⟩
noncomputable def G40 {R : Type} (N : Nat) : FuncId → List AV → (AV → Option R) → Option R := gCons 24 (gOf ad24 rd24 (F24 N)) (gCons 21 (gOf ad21 rd21 (F21 N)) (gCons 30 (gOf ad30 rd30 (F30 N)) (gNil)))
theorem gok40 {R : Type} (N : Nat) : GOK Tryd.prog (G40 (R := R) N) := gCons_ok (ok24 N) (gCons_ok (ok21 N) (gCons_ok (ok30 N) (gNil_ok)))
noncomputable def live40 : List (Nat × List (Nat × HK)) := []
noncomputable def ad40 : Ad (Vec 4 × Unit) := aC (cVec .u64 4) (a0)
noncomputable def rd40 : Rd (Vec 4 × Vec 4 × Option Int) := r3 (cVec .u64 4) (cVec .u64 4) (cErr 55)
noncomputable def fn_fix_around (N : Nat) (x0 : Vec 4) : Option (Vec 4 × Vec 4 × Option Int) :=
  (fn_wide_Of N 512).bind fun r1 =>
   (fn_wide_Sub N x0 r1).bind fun r2 =>
    cond r2.2
     ((fn_wide_Of N 512).bind fun r3 =>
      (fn_wide_Add N x0 r3).bind fun r4 =>
       some (Vec.zero 4, r4.1, none))
     ((fn_wide_Of N 512).bind fun r5 =>
      (fn_wide_Add N x0 r5).bind fun r6 =>
       some (r2.1, r6.1, none))
theorem run40 (N : Nat) (x0 : Vec 4) : Eng.run T40 (G40 N) N live40 c40 Tryd.f40.results.toList Tryd.f40.ntmps ((ad40).enc (x0, ())) (rd40).dec = fn_fix_around N x0 := by kernel_rfl
noncomputable def F40 (N : Nat) (a : Vec 4 × Unit) : Option (Vec 4 × Vec 4 × Option Int) := fn_fix_around N a.1
theorem ok40 (N : Nat) : FnOK Tryd.prog 40 ad40 rd40 (F40 N) :=
  fn_ok (N := N) (live := live40) (code := c40) (tok T40.rt T40.kl) mixed (gok40 N) Tryd.func40 (by kernel_rfl) (by kernel_rfl) (by kernel_rfl) fun a p h => by rw [← h]; exact run40 N a.1

/-! ### tiller/fix.Sin: function 18 -/
noncomputable def c18 : Code := (Tryd.f18.body).getD .skip
noncomputable def T18 : Tb := ⟨tyOf tys, [], []⟩
noncomputable def G18 {R : Type} (N : Nat) : FuncId → List AV → (AV → Option R) → Option R := gCons 39 (gOf ad39 rd39 (F39 N)) (gCons 20 (gOf ad20 rd20 (F20 N)) (gCons 15 (gOf ad15 rd15 (F15 N)) (gCons 41 (gOf ad41 rd41 (F41 N)) (gCons 40 (gOf ad40 rd40 (F40 N)) (gNil)))))
theorem gok18 {R : Type} (N : Nat) : GOK Tryd.prog (G18 (R := R) N) := gCons_ok (ok39 N) (gCons_ok (ok20 N) (gCons_ok (ok15 N) (gCons_ok (ok41 N) (gCons_ok (ok40 N) (gNil_ok)))))
noncomputable def live18 : List (Nat × List (Nat × HK)) := []
noncomputable def ad18 : Ad (Vec 4 × Unit) := aC (cVec .u64 4) (a0)
noncomputable def rd18 : Rd (Vec 4 × Vec 4 × Option Int) := r3 (cVec .u64 4) (cVec .u64 4) (cErr 55)
noncomputable def fn_fix_Sin (N : Nat) (x0 : Vec 4) : Option (Vec 4 × Vec 4 × Option Int) :=
  (fn_fix_one N).bind fun r1 =>
   (fn_wide_Cmp N x0 r1).bind fun r2 =>
    cond (ltI 0 r2)
     (some (Vec.zero 4, Vec.zero 4, some 1))
     ((fn_fix_Mul N x0 x0).bind fun r3 =>
      (fn_fix_series N x0 r3.1 2).bind fun r4 =>
       (fn_fix_around N r4).bind fun r5 =>
        some (r5.1, r5.2.1, r5.2.2))
theorem run18 (N : Nat) (x0 : Vec 4) : Eng.run T18 (G18 N) N live18 c18 Tryd.f18.results.toList Tryd.f18.ntmps ((ad18).enc (x0, ())) (rd18).dec = fn_fix_Sin N x0 := by kernel_rfl
noncomputable def F18 (N : Nat) (a : Vec 4 × Unit) : Option (Vec 4 × Vec 4 × Option Int) := fn_fix_Sin N a.1
theorem ok18 (N : Nat) : FnOK Tryd.prog 18 ad18 rd18 (F18 N) :=
  fn_ok (N := N) (live := live18) (code := c18) (tok T18.rt T18.kl) mixed (gok18 N) Tryd.func18 (by kernel_rfl) (by kernel_rfl) (by kernel_rfl) fun a p h => by rw [← h]; exact run18 N a.1

/-! ### tiller/fix.Cos: function 19 -/
noncomputable def c19 : Code := (Tryd.f19.body).getD .skip
noncomputable def T19 : Tb := ⟨tyOf tys, [], []⟩
noncomputable def G19 {R : Type} (N : Nat) : FuncId → List AV → (AV → Option R) → Option R := gCons 39 (gOf ad39 rd39 (F39 N)) (gCons 20 (gOf ad20 rd20 (F20 N)) (gCons 15 (gOf ad15 rd15 (F15 N)) (gCons 41 (gOf ad41 rd41 (F41 N)) (gCons 40 (gOf ad40 rd40 (F40 N)) (gNil)))))
theorem gok19 {R : Type} (N : Nat) : GOK Tryd.prog (G19 (R := R) N) := gCons_ok (ok39 N) (gCons_ok (ok20 N) (gCons_ok (ok15 N) (gCons_ok (ok41 N) (gCons_ok (ok40 N) (gNil_ok)))))
noncomputable def live19 : List (Nat × List (Nat × HK)) := []
noncomputable def ad19 : Ad (Vec 4 × Unit) := aC (cVec .u64 4) (a0)
noncomputable def rd19 : Rd (Vec 4 × Vec 4 × Option Int) := r3 (cVec .u64 4) (cVec .u64 4) (cErr 55)
noncomputable def fn_fix_Cos (N : Nat) (x0 : Vec 4) : Option (Vec 4 × Vec 4 × Option Int) :=
  (fn_fix_one N).bind fun r1 =>
   (fn_wide_Cmp N x0 r1).bind fun r2 =>
    cond (ltI 0 r2)
     (some (Vec.zero 4, Vec.zero 4, some 1))
     ((fn_fix_Mul N x0 x0).bind fun r3 =>
      (fn_fix_one N).bind fun r4 =>
       (fn_fix_series N r4 r3.1 1).bind fun r5 =>
        (fn_fix_around N r5).bind fun r6 =>
         some (r6.1, r6.2.1, r6.2.2))
theorem run19 (N : Nat) (x0 : Vec 4) : Eng.run T19 (G19 N) N live19 c19 Tryd.f19.results.toList Tryd.f19.ntmps ((ad19).enc (x0, ())) (rd19).dec = fn_fix_Cos N x0 := by kernel_rfl
noncomputable def F19 (N : Nat) (a : Vec 4 × Unit) : Option (Vec 4 × Vec 4 × Option Int) := fn_fix_Cos N a.1
theorem ok19 (N : Nat) : FnOK Tryd.prog 19 ad19 rd19 (F19 N) :=
  fn_ok (N := N) (live := live19) (code := c19) (tok T19.rt T19.kl) mixed (gok19 N) Tryd.func19 (by kernel_rfl) (by kernel_rfl) (by kernel_rfl) fun a p h => by rw [← h]; exact run19 N a.1

/-! ### tiller/tillerref02.Mul: function 56 -/
noncomputable def c56 : Code := (Tryd.f56.body).getD .skip
noncomputable def T56 : Tb := ⟨tyOf tys, [(32, 5), (55, 5), (65, 5)], [67]⟩
noncomputable def G56 {R : Type} (N : Nat) : FuncId → List AV → (AV → Option R) → Option R := gCons 35 (gOf ad35 rd35 (F35 N)) (gNil)
theorem gok56 {R : Type} (N : Nat) : GOK Tryd.prog (G56 (R := R) N) := gCons_ok (ok35 N) (gNil_ok)
noncomputable def live56 : List (Nat × List (Nat × HK)) := [(3, [(0, .keep), (1, .keep), (5, .row .u32 62), (6, .keep)]), (7, [(0, .keep), (1, .keep), (5, .row .u32 62), (6, .keep), (7, .keep), (8, .keep)])]
noncomputable def ad56 : Ad (List Int × List Int × Unit) := aC (cLi .u32) (aC (cLi .u32) (a0))
noncomputable def rd56 : Rd (List Int) := r1 (cLi .u32)
noncomputable def st56_0 (v0 : List Int) (v1 : List Int) (v2 : Int) (v3 : List Int) : St := ⟨[AV.li .u32 v0, AV.li .u32 v1, AV.none, AV.none, AV.none, AV.own 5, AV.v (.int .i64 v2), AV.none, AV.none, AV.none, AV.none, AV.none, AV.none, AV.none, AV.none, AV.none, AV.none, AV.none, AV.none, AV.none, AV.none, AV.none, AV.none, AV.none, AV.none, AV.none, AV.none, AV.none, AV.none, AV.none, AV.none, AV.none, AV.none, AV.none, AV.none, AV.none, AV.none, AV.none, AV.none, AV.none, AV.none, AV.none, AV.none, AV.none, AV.none, AV.none, AV.none, AV.none, AV.none, AV.none, AV.none, AV.none, AV.none, AV.none, AV.none, AV.none, AV.none, AV.none, AV.none, AV.none, AV.none, AV.none, AV.none, AV.none, AV.none, AV.none, AV.none, AV.none], [none, none, none, none, none, some (OB.row .u32 62 v3), none, none, none, none, none, none, none, none, none, none, none, none, none, none, none, none, none, none, none, none, none, none, none, none, none, none, none, none, none, none, none, none, none, none, none, none, none, none, none, none, none, none, none, none, none, none, none, none, none, none, none, none, none, none, none, none, none, none, none, none, none, none]⟩
noncomputable def raw56_0 (N : Nat) (n : Nat) (v0 : List Int) (v1 : List Int) (v2 : Int) (v3 : List Int) : Option (List Int) := loopN (lookN live56 3) (exec T56 (G56 N) N live56 (cL (cL (cR (cL (cR (cR c56))))))) n (st56_0 v0 v1 v2 v3) (blockK 0 (seqK (exec T56 (G56 N) N live56 (cR (cR (cR c56)))) (retK T56 Tryd.f56.results.toList (rd56).dec)))
noncomputable def st56_1 (v0 : List Int) (v1 : List Int) (v2 : Int) (v3 : Int) (v4 : Int) (v5 : List Int) : St := ⟨[AV.li .u32 v0, AV.li .u32 v1, AV.none, AV.none, AV.none, AV.own 5, AV.v (.int .i64 v2), AV.v (.int .u64 v3), AV.v (.int .i64 v4), AV.none, AV.none, AV.none, AV.none, AV.none, AV.none, AV.none, AV.none, AV.none, AV.none, AV.none, AV.none, AV.none, AV.none, AV.none, AV.none, AV.none, AV.none, AV.none, AV.none, AV.none, AV.none, AV.none, AV.none, AV.none, AV.none, AV.none, AV.none, AV.none, AV.none, AV.none, AV.none, AV.none, AV.none, AV.none, AV.none, AV.none, AV.none, AV.none, AV.none, AV.none, AV.none, AV.none, AV.none, AV.none, AV.none, AV.none, AV.none, AV.none, AV.none, AV.none, AV.none, AV.none, AV.none, AV.none, AV.none, AV.none, AV.none, AV.none], [none, none, none, none, none, some (OB.row .u32 62 v5), none, none, none, none, none, none, none, none, none, none, none, none, none, none, none, none, none, none, none, none, none, none, none, none, none, none, none, none, none, none, none, none, none, none, none, none, none, none, none, none, none, none, none, none, none, none, none, none, none, none, none, none, none, none, none, none, none, none, none, none, none, none]⟩
noncomputable def raw56_1 (N : Nat) (m0 : Nat) (n : Nat) (v0 : List Int) (v1 : List Int) (v2 : Int) (v3 : Int) (v4 : Int) (v5 : List Int) : Option (List Int) := loopN (lookN live56 7) (exec T56 (G56 N) N live56 (cL (cL (cR (cL (cR (cL (cL (cR (cL (cL (cR (cL (cR (cR c56))))))))))))))) n (st56_1 v0 v1 v2 v3 v4 v5) (blockK 2 (seqK (exec T56 (G56 N) N live56 (cR (cR (cL (cL (cR (cL (cL (cR (cL (cR (cR c56)))))))))))) (blockK 1 (seqK (exec T56 (G56 N) N live56 (cR (cR (cL (cL (cR (cL (cR (cR c56))))))))) (roundK (fun s => loopN (lookN live56 3) (exec T56 (G56 N) N live56 (cL (cL (cR (cL (cR (cR c56))))))) m0 s (blockK 0 (seqK (exec T56 (G56 N) N live56 (cR (cR (cR c56)))) (retK T56 Tryd.f56.results.toList (rd56).dec)))) (lookN live56 3) (blockK 0 (seqK (exec T56 (G56 N) N live56 (cR (cR (cR c56)))) (retK T56 Tryd.f56.results.toList (rd56).dec))))))))
noncomputable def s56_1 (N : Nat) (Ln1 : List Int → List Int → Int → Int → Int → List Int → Option (List Int)) (Ln0 : List Int → List Int → Int → List Int → Option (List Int)) (v0 : List Int) (v1 : List Int) (v2 : Int) (v3 : Int) (v4 : Int) (v5 : List Int) : Option (List Int) :=
  cond (ltI v4 (v1.length : Int))
   (cond (leI 0 (addI .i64 v2 v4))
    (cond (ltI (addI .i64 v2 v4) (v5.length : Int))
     (cond (leI 0 v2)
      (cond (ltI v2 (v0.length : Int))
       (cond (leI 0 v4)
        (cond (ltI v4 (v1.length : Int))
         (cond (leI 0 (addI .i64 v2 v4))
          (cond (ltI (addI .i64 v2 v4) (v5.length : Int))
           (Ln1 v0 v1 v2 (quoI .u64 (addI .u64 (addI .u64 v3 (cvI .u64 (lrd v5 (addI .i64 v2 v4)))) (mulI .u64 (cvI .u64 (lrd v0 v2)) (cvI .u64 (lrd v1 v4)))) 65536) (addI .i64 v4 1) (v5.set ((addI .i64 v2 v4).toNat) (cvI .u32 (remI .u64 (addI .u64 (addI .u64 v3 (cvI .u64 (lrd v5 (addI .i64 v2 v4)))) (mulI .u64 (cvI .u64 (lrd v0 v2)) (cvI .u64 (lrd v1 v4)))) 65536))))
           (none))
          (none))
         (none))
        (none))
       (none))
      (none))
     (none))
    (none))
   (cond (leI 0 (addI .i64 v2 (v1.length : Int)))
    (cond (ltI (addI .i64 v2 (v1.length : Int)) (v5.length : Int))
     (Ln0 v0 v1 (addI .i64 v2 1) (v5.set ((addI .i64 v2 (v1.length : Int)).toNat) (cvI .u32 v3)))
     (none))
    (none))
theorem step56_1 (N : Nat) (m0 : Nat) (n : Nat) (v0 : List Int) (v1 : List Int) (v2 : Int) (v3 : Int) (v4 : Int) (v5 : List Int) : raw56_1 N m0 (n + 1) v0 v1 v2 v3 v4 v5 = s56_1 N (raw56_1 N m0 n) (raw56_0 N  m0) v0 v1 v2 v3 v4 v5 := by kernel_rfl
noncomputable def l56_1 (N : Nat) (E0 : List Int → List Int → Int → List Int → Option (List Int)) : Nat → List Int → List Int → Int → Int → Int → List Int → Option (List Int)
  | 0 => fun _ _ _ _ _ _ => none
  | n + 1 => fun v0 v1 v2 v3 v4 v5 => s56_1 N (l56_1 N E0 n) E0 v0 v1 v2 v3 v4 v5
theorem eq56_1 (N : Nat) (m0 : Nat) : ∀ n, raw56_1 N m0 n = l56_1 N (raw56_0 N  m0) n := by
  intro n
  induction n with
  | zero => exact funext fun v0 => funext fun v1 => funext fun v2 => funext fun v3 => funext fun v4 => funext fun v5 => rfl
  | succ n ih => exact funext fun v0 => funext fun v1 => funext fun v2 => funext fun v3 => funext fun v4 => funext fun v5 => by rw [step56_1, ih]; rfl
noncomputable def s56_0 (N : Nat) (Le1 : List Int → List Int → Int → Int → Int → List Int → Option (List Int)) (v0 : List Int) (v1 : List Int) (v2 : Int) (v3 : List Int) : Option (List Int) :=
  cond (ltI v2 (v0.length : Int))
   (Le1 v0 v1 v2 0 0 v3)
   ((fn_tillerref02_trim N v3).bind fun r1 =>
    some r1)
theorem step56_0 (N : Nat) (n : Nat) (v0 : List Int) (v1 : List Int) (v2 : Int) (v3 : List Int) : raw56_0 N  (n + 1) v0 v1 v2 v3 = s56_0 N (raw56_1 N n N) v0 v1 v2 v3 := by kernel_rfl
noncomputable def l56_0 (N : Nat) : Nat → List Int → List Int → Int → List Int → Option (List Int)
  | 0 => fun _ _ _ _ => none
  | n + 1 => fun v0 v1 v2 v3 => s56_0 N (l56_1 N (l56_0 N  n) N) v0 v1 v2 v3
theorem eq56_0 (N : Nat) : ∀ n, raw56_0 N  n = l56_0 N  n := by
  intro n
  induction n with
  | zero => exact funext fun v0 => funext fun v1 => funext fun v2 => funext fun v3 => rfl
  | succ n ih => exact funext fun v0 => funext fun v1 => funext fun v2 => funext fun v3 => by rw [step56_0, eq56_1 N n N, ih]; rfl
noncomputable def t56 (N : Nat) (Le0 : List Int → List Int → Int → List Int → Option (List Int)) (x0 : List Int) (x1 : List Int) : Option (List Int) :=
  cond (leI 0 (addI .i64 (x0.length : Int) (x1.length : Int)))
   (cond (leI (addI .i64 (x0.length : Int) (x1.length : Int)) 17592186044416)
    (Le0 x0 x1 0 (List.replicate ((addI .i64 (x0.length : Int) (x1.length : Int)).toNat) (0 : Int)))
    (none))
   (none)
noncomputable def fn_tillerref02_Mul (N : Nat) (x0 : List Int) (x1 : List Int) : Option (List Int) := t56 N (l56_0 N N) x0 x1
theorem run56 (N : Nat) (x0 : List Int) (x1 : List Int) : Eng.run T56 (G56 N) N live56 c56 Tryd.f56.results.toList Tryd.f56.ntmps ((ad56).enc (x0, x1, ())) (rd56).dec = fn_tillerref02_Mul N x0 x1 := by
  refine Eq.trans (show _ = t56 N (raw56_0 N N) x0 x1 from by kernel_rfl) ?_
  unfold fn_tillerref02_Mul
  rw [eq56_0 N N]
noncomputable def F56 (N : Nat) (a : List Int × List Int × Unit) : Option (List Int) := fn_tillerref02_Mul N a.1 a.2.1
theorem ok56 (N : Nat) : FnOK Tryd.prog 56 ad56 rd56 (F56 N) :=
  fn_ok (N := N) (live := live56) (code := c56) (tok T56.rt T56.kl) mixed (gok56 N) Tryd.func56 (by kernel_rfl) (by kernel_rfl) (by kernel_rfl) fun a p h => by rw [← h]; exact run56 N a.1 a.2.1

/-! ### tiller/tillerref15.cut: function 46 -/
noncomputable def c46 : Code := (Tryd.f46.body).getD .skip
noncomputable def T46 : Tb := ⟨tyOf tys, [], []⟩
noncomputable def G46 {R : Type} (N : Nat) : FuncId → List AV → (AV → Option R) → Option R := gCons 56 (gOf ad56 rd56 (F56 N)) (gCons 8 (gOf ad8 rd8 (F8 N)) (gNil))
theorem gok46 {R : Type} (N : Nat) : GOK Tryd.prog (G46 (R := R) N) := gCons_ok (ok56 N) (gCons_ok (ok8 N) (gNil_ok))
noncomputable def live46 : List (Nat × List (Nat × HK)) := []
noncomputable def ad46 : Ad (List Int × List Int × Unit) := aC (cLi .u32) (aC (cLi .u32) (a0))
noncomputable def rd46 : Rd (List Int) := r1 (cLi .u32)
noncomputable def fn_tillerref15_cut (N : Nat) (x0 : List Int) (x1 : List Int) : Option (List Int) :=
  (fn_tillerref02_Mul N x0 x1).bind fun r1 =>
   (fn_tillerref02_Shr N r1 320).bind fun r2 =>
    some r2.1
theorem run46 (N : Nat) (x0 : List Int) (x1 : List Int) : Eng.run T46 (G46 N) N live46 c46 Tryd.f46.results.toList Tryd.f46.ntmps ((ad46).enc (x0, x1, ())) (rd46).dec = fn_tillerref15_cut N x0 x1 := by kernel_rfl
noncomputable def F46 (N : Nat) (a : List Int × List Int × Unit) : Option (List Int) := fn_tillerref15_cut N a.1 a.2.1
theorem ok46 (N : Nat) : FnOK Tryd.prog 46 ad46 rd46 (F46 N) :=
  fn_ok (N := N) (live := live46) (code := c46) (tok T46.rt T46.kl) mixed (gok46 N) Tryd.func46 (by kernel_rfl) (by kernel_rfl) (by kernel_rfl) fun a p h => by rw [← h]; exact run46 N a.1 a.2.1

/-! ### tiller/tillerref02.Add: function 44 -/
noncomputable def c44 : Code := (Tryd.f44.body).getD .skip
noncomputable def T44 : Tb := ⟨tyOf tys, [], [41]⟩
noncomputable def G44 {R : Type} (N : Nat) : FuncId → List AV → (AV → Option R) → Option R := gCons 34 (gOf ad34 rd34 (F34 N)) (gCons 35 (gOf ad35 rd35 (F35 N)) (gNil))
theorem gok44 {R : Type} (N : Nat) : GOK Tryd.prog (G44 (R := R) N) := gCons_ok (ok34 N) (gCons_ok (ok35 N) (gNil_ok))
noncomputable def live44 : List (Nat × List (Nat × HK)) := [(4, [(0, .keep), (1, .keep), (5, .row .u32 62), (6, .keep), (7, .keep)])]
noncomputable def ad44 : Ad (List Int × List Int × Unit) := aC (cLi .u32) (aC (cLi .u32) (a0))
noncomputable def rd44 : Rd (List Int) := r1 (cLi .u32)
noncomputable def st44_0 (v0 : List Int) (v1 : List Int) (v2 : Int) (v3 : Int) (v4 : List Int) : St := ⟨[AV.li .u32 v0, AV.li .u32 v1, AV.none, AV.none, AV.none, AV.own 5, AV.v (.int .u32 v2), AV.v (.int .i64 v3), AV.none, AV.none, AV.none, AV.none, AV.none, AV.none, AV.none, AV.none, AV.none, AV.none, AV.none, AV.none, AV.none, AV.none, AV.none, AV.none, AV.none, AV.none, AV.none, AV.none, AV.none, AV.none, AV.none, AV.none, AV.none, AV.none, AV.none, AV.none, AV.none, AV.none, AV.none, AV.none, AV.none, AV.none], [none, none, none, none, none, some (OB.row .u32 62 v4), none, none, none, none, none, none, none, none, none, none, none, none, none, none, none, none, none, none, none, none, none, none, none, none, none, none, none, none, none, none, none, none, none, none, none, none]⟩
noncomputable def raw44_0 (N : Nat) (n : Nat) (v0 : List Int) (v1 : List Int) (v2 : Int) (v3 : Int) (v4 : List Int) : Option (List Int) := loopN (lookN live44 4) (exec T44 (G44 N) N live44 (cL (cL (cR (cL (cR (cR (cR c44)))))))) n (st44_0 v0 v1 v2 v3 v4) (blockK 0 (seqK (exec T44 (G44 N) N live44 (cR (cR (cR (cR c44))))) (retK T44 Tryd.f44.results.toList (rd44).dec)))
noncomputable def s44_0 (N : Nat) (Ln0 : List Int → List Int → Int → Int → List Int → Option (List Int)) (v0 : List Int) (v1 : List Int) (v2 : Int) (v3 : Int) (v4 : List Int) : Option (List Int) :=
  cond (ltI v3 (v0.length : Int))
   ((fn_tillerref02_at N v0 v3).bind fun r1 =>
    (fn_tillerref02_at N v1 v3).bind fun r2 =>
     cond (fitL (v4.length + [remI .u32 (addI .u32 (addI .u32 v2 r1) r2) 65536].length))
      (Ln0 v0 v1 (quoI .u32 (addI .u32 (addI .u32 v2 r1) r2) 65536) (addI .i64 v3 1) (v4 ++ [remI .u32 (addI .u32 (addI .u32 v2 r1) r2) 65536]))
      (none))
   (cond (ltI v3 (v1.length : Int))
    ((fn_tillerref02_at N v0 v3).bind fun r3 =>
     (fn_tillerref02_at N v1 v3).bind fun r4 =>
      cond (fitL (v4.length + [remI .u32 (addI .u32 (addI .u32 v2 r3) r4) 65536].length))
       (Ln0 v0 v1 (quoI .u32 (addI .u32 (addI .u32 v2 r3) r4) 65536) (addI .i64 v3 1) (v4 ++ [remI .u32 (addI .u32 (addI .u32 v2 r3) r4) 65536]))
       (none))
    (cond (ltI 0 v2)
     ((fn_tillerref02_at N v0 v3).bind fun r5 =>
      (fn_tillerref02_at N v1 v3).bind fun r6 =>
       cond (fitL (v4.length + [remI .u32 (addI .u32 (addI .u32 v2 r5) r6) 65536].length))
        (Ln0 v0 v1 (quoI .u32 (addI .u32 (addI .u32 v2 r5) r6) 65536) (addI .i64 v3 1) (v4 ++ [remI .u32 (addI .u32 (addI .u32 v2 r5) r6) 65536]))
        (none))
     ((fn_tillerref02_trim N v4).bind fun r7 =>
      some r7)))
theorem step44_0 (N : Nat) (n : Nat) (v0 : List Int) (v1 : List Int) (v2 : Int) (v3 : Int) (v4 : List Int) : raw44_0 N  (n + 1) v0 v1 v2 v3 v4 = s44_0 N (raw44_0 N  n) v0 v1 v2 v3 v4 := by kernel_rfl
noncomputable def l44_0 (N : Nat) : Nat → List Int → List Int → Int → Int → List Int → Option (List Int)
  | 0 => fun _ _ _ _ _ => none
  | n + 1 => fun v0 v1 v2 v3 v4 => s44_0 N (l44_0 N  n) v0 v1 v2 v3 v4
theorem eq44_0 (N : Nat) : ∀ n, raw44_0 N  n = l44_0 N  n := by
  intro n
  induction n with
  | zero => exact funext fun v0 => funext fun v1 => funext fun v2 => funext fun v3 => funext fun v4 => rfl
  | succ n ih => exact funext fun v0 => funext fun v1 => funext fun v2 => funext fun v3 => funext fun v4 => by rw [step44_0, ih]; rfl
noncomputable def t44 (N : Nat) (Le0 : List Int → List Int → Int → Int → List Int → Option (List Int)) (x0 : List Int) (x1 : List Int) : Option (List Int) :=
  Le0 x0 x1 0 0 []
noncomputable def fn_tillerref02_Add (N : Nat) (x0 : List Int) (x1 : List Int) : Option (List Int) := t44 N (l44_0 N N) x0 x1
theorem run44 (N : Nat) (x0 : List Int) (x1 : List Int) : Eng.run T44 (G44 N) N live44 c44 Tryd.f44.results.toList Tryd.f44.ntmps ((ad44).enc (x0, x1, ())) (rd44).dec = fn_tillerref02_Add N x0 x1 := by
  refine Eq.trans (show _ = t44 N (raw44_0 N N) x0 x1 from by kernel_rfl) ?_
  unfold fn_tillerref02_Add
  rw [eq44_0 N N]
noncomputable def F44 (N : Nat) (a : List Int × List Int × Unit) : Option (List Int) := fn_tillerref02_Add N a.1 a.2.1
theorem ok44 (N : Nat) : FnOK Tryd.prog 44 ad44 rd44 (F44 N) :=
  fn_ok (N := N) (live := live44) (code := c44) (tok T44.rt T44.kl) mixed (gok44 N) Tryd.func44 (by kernel_rfl) (by kernel_rfl) (by kernel_rfl) fun a p h => by rw [← h]; exact run44 N a.1 a.2.1

/-! ### tiller/tillerref15.small: function 55 -/
noncomputable def c55 : Code := (Tryd.f55.body).getD .skip
noncomputable def T55 : Tb := ⟨tyOf tys, [(23, 5), (34, 5), (47, 5)], [55]⟩
noncomputable def G55 {R : Type} (N : Nat) : FuncId → List AV → (AV → Option R) → Option R := gNil
theorem gok55 {R : Type} (N : Nat) : GOK Tryd.prog (G55 (R := R) N) := gNil_ok
noncomputable def live55 : List (Nat × List (Nat × HK)) := [(5, [(1, .keep), (5, .row .u32 62), (6, .keep), (7, .keep), (44, .keep), (45, .keep), (46, .keep), (47, .keep), (48, .keep), (49, .keep)]), (11, [(5, .row .u32 62), (8, .keep), (47, .keep)])]
noncomputable def ad55 : Ad (List Int × Int × Unit) := aC (cLi .u32) (aC (cInt .u32) (a0))
noncomputable def rd55 : Rd (List Int) := r1 (cLi .u32)
noncomputable def st55_0 (v0 : Int) (v1 : Int) (v2 : Int) (v3 : List Int) : St := ⟨[AV.none, AV.v (.int .u32 v0), AV.none, AV.none, AV.none, AV.own 5, AV.v (.int .u64 v1), AV.v (.int .i64 v2), AV.none, AV.none, AV.none, AV.none, AV.none, AV.none, AV.none, AV.none, AV.none, AV.none, AV.none, AV.none, AV.none, AV.none, AV.none, AV.none, AV.none, AV.none, AV.none, AV.none, AV.none, AV.none, AV.none, AV.none, AV.none, AV.none, AV.none, AV.none, AV.none, AV.none, AV.none, AV.none, AV.none, AV.none, AV.none, AV.none, AV.none, AV.none, AV.none, AV.none, AV.none, AV.none, AV.none, AV.none, AV.none, AV.none, AV.none, AV.none], [none, none, none, none, none, some (OB.row .u32 62 v3), none, none, none, none, none, none, none, none, none, none, none, none, none, none, none, none, none, none, none, none, none, none, none, none, none, none, none, none, none, none, none, none, none, none, none, none, none, none, none, none, none, none, none, none, none, none, none, none, none, none]⟩
noncomputable def raw55_0 (N : Nat) (n : Nat) (v0 : Int) (v1 : Int) (v2 : Int) (v3 : List Int) : Option (List Int) := loopN (lookN live55 5) (exec T55 (G55 N) N live55 (cL (cL (cR (cL (cR (cR (cR (cR c55))))))))) n (st55_0 v0 v1 v2 v3) (blockK 0 (seqK (exec T55 (G55 N) N live55 (cR (cR (cR (cR (cR c55)))))) (retK T55 Tryd.f55.results.toList (rd55).dec)))
noncomputable def st55_1 (v0 : Int) (v1 : List Int) : St := ⟨[AV.none, AV.none, AV.none, AV.none, AV.none, AV.own 5, AV.none, AV.none, AV.v (.int .i64 v0), AV.none, AV.none, AV.none, AV.none, AV.none, AV.none, AV.none, AV.none, AV.none, AV.none, AV.none, AV.none, AV.none, AV.none, AV.none, AV.none, AV.none, AV.none, AV.none, AV.none, AV.none, AV.none, AV.none, AV.none, AV.none, AV.none, AV.none, AV.none, AV.none, AV.none, AV.none, AV.none, AV.none, AV.none, AV.none, AV.none, AV.none, AV.none, AV.none, AV.none, AV.none, AV.none, AV.none, AV.none, AV.none, AV.none, AV.none], [none, none, none, none, none, some (OB.row .u32 62 v1), none, none, none, none, none, none, none, none, none, none, none, none, none, none, none, none, none, none, none, none, none, none, none, none, none, none, none, none, none, none, none, none, none, none, none, none, none, none, none, none, none, none, none, none, none, none, none, none, none, none]⟩
noncomputable def raw55_1 (N : Nat) (n : Nat) (v0 : Int) (v1 : List Int) : Option (List Int) := loopN (lookN live55 11) (exec T55 (G55 N) N live55 (cL (cL (cL (cR (cR (cR (cR (cR (cR c55)))))))))) n (st55_1 v0 v1) (blockK 2 (seqK (exec T55 (G55 N) N live55 (cR (cR (cR (cR (cR (cR (cR c55)))))))) (retK T55 Tryd.f55.results.toList (rd55).dec)))
noncomputable def s55_1 (N : Nat) (Ln1 : Int → List Int → Option (List Int)) (v0 : Int) (v1 : List Int) : Option (List Int) :=
  cond (ltI 0 v0)
   (cond (leI 0 (subI .i64 v0 1))
    (cond (ltI (subI .i64 v0 1) (v1.length : Int))
     (cond (eqI (lrd v1 (subI .i64 v0 1)) 0)
      (Ln1 (subI .i64 v0 1) v1)
      (cond ((leI 0 v0) && (leI v0 (v1.length : Int)))
       (some (v1.take v0.toNat))
       (none)))
     (none))
    (none))
   (cond ((leI 0 v0) && (leI v0 (v1.length : Int)))
    (some (v1.take v0.toNat))
    (none))
theorem step55_1 (N : Nat) (n : Nat) (v0 : Int) (v1 : List Int) : raw55_1 N  (n + 1) v0 v1 = s55_1 N (raw55_1 N  n) v0 v1 := by kernel_rfl
noncomputable def l55_1 (N : Nat) : Nat → Int → List Int → Option (List Int)
  | 0 => fun _ _ => none
  | n + 1 => fun v0 v1 => s55_1 N (l55_1 N  n) v0 v1
theorem eq55_1 (N : Nat) : ∀ n, raw55_1 N  n = l55_1 N  n := by
  intro n
  induction n with
  | zero => exact funext fun v0 => funext fun v1 => rfl
  | succ n ih => exact funext fun v0 => funext fun v1 => by rw [step55_1, ih]; rfl
noncomputable def s55_0 (N : Nat) (Ln0 : Int → Int → Int → List Int → Option (List Int)) (Le1 : Int → List Int → Option (List Int)) (v0 : Int) (v1 : Int) (v2 : Int) (v3 : List Int) : Option (List Int) :=
  cond (leI 0 v2)
   (cond (leI 0 v2)
    (cond (ltI v2 (v3.length : Int))
     (cond (eqI (cvI .u64 v0) 0)
      (none)
      (cond (leI 0 v2)
       (cond (ltI v2 (v3.length : Int))
        (cond (eqI (cvI .u64 v0) 0)
         (none)
         (Ln0 v0 (remI .u64 (addI .u64 (mulI .u64 65536 v1) (cvI .u64 (lrd v3 v2))) (cvI .u64 v0)) (subI .i64 v2 1) (v3.set v2.toNat (cvI .u32 (quoI .u64 (addI .u64 (mulI .u64 65536 v1) (cvI .u64 (lrd v3 v2))) (cvI .u64 v0))))))
        (none))
       (none)))
     (none))
    (none))
   (Le1 (v3.length : Int) v3)
theorem step55_0 (N : Nat) (n : Nat) (v0 : Int) (v1 : Int) (v2 : Int) (v3 : List Int) : raw55_0 N  (n + 1) v0 v1 v2 v3 = s55_0 N (raw55_0 N  n) (raw55_1 N  N) v0 v1 v2 v3 := by kernel_rfl
noncomputable def l55_0 (N : Nat) : Nat → Int → Int → Int → List Int → Option (List Int)
  | 0 => fun _ _ _ _ => none
  | n + 1 => fun v0 v1 v2 v3 => s55_0 N (l55_0 N  n) (l55_1 N  N) v0 v1 v2 v3
theorem eq55_0 (N : Nat) : ∀ n, raw55_0 N  n = l55_0 N  n := by
  intro n
  induction n with
  | zero => exact funext fun v0 => funext fun v1 => funext fun v2 => funext fun v3 => rfl
  | succ n ih => exact funext fun v0 => funext fun v1 => funext fun v2 => funext fun v3 => by rw [step55_0, eq55_1 N  N, ih]; rfl
noncomputable def t55 (N : Nat) (Le0 : Int → Int → Int → List Int → Option (List Int)) (x0 : List Int) (x1 : Int) : Option (List Int) :=
  cond (fitL x0.length)
   (Le0 x1 0 (subI .i64 (x0.length : Int) 1) x0)
   (none)
noncomputable def fn_tillerref15_small (N : Nat) (x0 : List Int) (x1 : Int) : Option (List Int) := t55 N (l55_0 N N) x0 x1
theorem run55 (N : Nat) (x0 : List Int) (x1 : Int) : Eng.run T55 (G55 N) N live55 c55 Tryd.f55.results.toList Tryd.f55.ntmps ((ad55).enc (x0, x1, ())) (rd55).dec = fn_tillerref15_small N x0 x1 := by
  refine Eq.trans (show _ = t55 N (raw55_0 N N) x0 x1 from by kernel_rfl) ?_
  unfold fn_tillerref15_small
  rw [eq55_0 N N]
noncomputable def F55 (N : Nat) (a : List Int × Int × Unit) : Option (List Int) := fn_tillerref15_small N a.1 a.2.1
theorem ok55 (N : Nat) : FnOK Tryd.prog 55 ad55 rd55 (F55 N) :=
  fn_ok (N := N) (live := live55) (code := c55) (tok T55.rt T55.kl) mixed (gok55 N) Tryd.func55 (by kernel_rfl) (by kernel_rfl) (by kernel_rfl) fun a p h => by rw [← h]; exact run55 N a.1 a.2.1

/-! ### tiller/tillerref15.series: function 45 -/
noncomputable def c45 : Code := (Tryd.f45.body).getD .skip
noncomputable def T45 : Tb := ⟨tyOf tys, [], [24, 27]⟩
noncomputable def G45 {R : Type} (N : Nat) : FuncId → List AV → (AV → Option R) → Option R := gCons 44 (gOf ad44 rd44 (F44 N)) (gCons 46 (gOf ad46 rd46 (F46 N)) (gCons 55 (gOf ad55 rd55 (F55 N)) (gCons 49 (gOf ad49 rd49 (F49 N)) (gNil))))
theorem gok45 {R : Type} (N : Nat) : GOK Tryd.prog (G45 (R := R) N) := gCons_ok (ok44 N) (gCons_ok (ok46 N) (gCons_ok (ok55 N) (gCons_ok (ok49 N) (gNil_ok))))
noncomputable def live45 : List (Nat × List (Nat × HK)) := [(3, [(0, .keep), (1, .keep), (2, .keep), (7, .li .u32), (8, .li .u32), (9, .keep)])]
noncomputable def ad45 : Ad (List Int × List Int × Int × Unit) := aC (cLi .u32) (aC (cLi .u32) (aC (cInt .u32) (a0)))
noncomputable def rd45 : Rd (List Int) := r1 (cLi .u32)
noncomputable def st45_0 (v0 : List Int) (v1 : List Int) (v2 : Int) (v3 : List Int) (v4 : List Int) (v5 : Int) : St := ⟨[AV.li .u32 v0, AV.li .u32 v1, AV.v (.int .u32 v2), AV.none, AV.none, AV.none, AV.none, AV.li .u32 v3, AV.li .u32 v4, AV.v (.int .i64 v5), AV.none, AV.none, AV.none, AV.none, AV.none, AV.none, AV.none, AV.none, AV.none, AV.none, AV.none, AV.none, AV.none, AV.none, AV.none, AV.none, AV.none, AV.none, AV.none, AV.none, AV.none, AV.none, AV.none, AV.none, AV.none, AV.none, AV.none, AV.none, AV.none, AV.none, AV.none], [none, none, none, none, none, none, none, none, none, none, none, none, none, none, none, none, none, none, none, none, none, none, none, none, none, none, none, none, none, none, none, none, none, none, none, none, none, none, none, none, none]⟩
noncomputable def raw45_0 (N : Nat) (n : Nat) (v0 : List Int) (v1 : List Int) (v2 : Int) (v3 : List Int) (v4 : List Int) (v5 : Int) : Option (List Int) := loopN (lookN live45 3) (exec T45 (G45 N) N live45 (cL (cL (cR (cL (cR (cR c45))))))) n (st45_0 v0 v1 v2 v3 v4 v5) (blockK 0 (seqK (exec T45 (G45 N) N live45 (cR (cR (cR c45)))) (retK T45 Tryd.f45.results.toList (rd45).dec)))
noncomputable def s45_0 (N : Nat) (Ln0 : List Int → List Int → Int → List Int → List Int → Int → Option (List Int)) (v0 : List Int) (v1 : List Int) (v2 : Int) (v3 : List Int) (v4 : List Int) (v5 : Int) : Option (List Int) :=
  cond (ltI v5 100)
   (cond (ltI 0 (v0.length : Int))
    (cond (eqI (remI .i64 v5 2) 0)
     ((fn_tillerref02_Add N v3 v0).bind fun r1 =>
      (fn_tillerref15_cut N v0 v1).bind fun r2 =>
       (fn_tillerref15_small N r2 v2).bind fun r3 =>
        (fn_tillerref15_small N r3 (addI .u32 v2 1)).bind fun r4 =>
         Ln0 r4 v1 (addI .u32 v2 2) r1 v4 (addI .i64 v5 1))
     ((fn_tillerref02_Add N v4 v0).bind fun r5 =>
      (fn_tillerref15_cut N v0 v1).bind fun r6 =>
       (fn_tillerref15_small N r6 v2).bind fun r7 =>
        (fn_tillerref15_small N r7 (addI .u32 v2 1)).bind fun r8 =>
         Ln0 r8 v1 (addI .u32 v2 2) v3 r5 (addI .i64 v5 1)))
    ((fn_tillerref02_Sub N v3 v4).bind fun r9 =>
     some r9))
   ((fn_tillerref02_Sub N v3 v4).bind fun r10 =>
    some r10)
theorem step45_0 (N : Nat) (n : Nat) (v0 : List Int) (v1 : List Int) (v2 : Int) (v3 : List Int) (v4 : List Int) (v5 : Int) : raw45_0 N  (n + 1) v0 v1 v2 v3 v4 v5 = s45_0 N (raw45_0 N  n) v0 v1 v2 v3 v4 v5 := by kernel_rfl
noncomputable def l45_0 (N : Nat) : Nat → List Int → List Int → Int → List Int → List Int → Int → Option (List Int)
  | 0 => fun _ _ _ _ _ _ => none
  | n + 1 => fun v0 v1 v2 v3 v4 v5 => s45_0 N (l45_0 N  n) v0 v1 v2 v3 v4 v5
theorem eq45_0 (N : Nat) : ∀ n, raw45_0 N  n = l45_0 N  n := by
  intro n
  induction n with
  | zero => exact funext fun v0 => funext fun v1 => funext fun v2 => funext fun v3 => funext fun v4 => funext fun v5 => rfl
  | succ n ih => exact funext fun v0 => funext fun v1 => funext fun v2 => funext fun v3 => funext fun v4 => funext fun v5 => by rw [step45_0, ih]; rfl
noncomputable def t45 (N : Nat) (Le0 : List Int → List Int → Int → List Int → List Int → Int → Option (List Int)) (x0 : List Int) (x1 : List Int) (x2 : Int) : Option (List Int) :=
  Le0 x0 x1 x2 [] [] 0
noncomputable def fn_tillerref15_series (N : Nat) (x0 : List Int) (x1 : List Int) (x2 : Int) : Option (List Int) := t45 N (l45_0 N N) x0 x1 x2
theorem run45 (N : Nat) (x0 : List Int) (x1 : List Int) (x2 : Int) : Eng.run T45 (G45 N) N live45 c45 Tryd.f45.results.toList Tryd.f45.ntmps ((ad45).enc (x0, x1, x2, ())) (rd45).dec = fn_tillerref15_series N x0 x1 x2 := by
  refine Eq.trans (show _ = t45 N (raw45_0 N N) x0 x1 x2 from by kernel_rfl) ?_
  unfold fn_tillerref15_series
  rw [eq45_0 N N]
noncomputable def F45 (N : Nat) (a : List Int × List Int × Int × Unit) : Option (List Int) := fn_tillerref15_series N a.1 a.2.1 a.2.2.1
theorem ok45 (N : Nat) : FnOK Tryd.prog 45 ad45 rd45 (F45 N) :=
  fn_ok (N := N) (live := live45) (code := c45) (tok T45.rt T45.kl) mixed (gok45 N) Tryd.func45 (by kernel_rfl) (by kernel_rfl) (by kernel_rfl) fun a p h => by rw [← h]; exact run45 N a.1 a.2.1 a.2.2.1

/-! ### tiller/tillerref15.Sin: function 26 -/
noncomputable def c26 : Code := (Tryd.f26.body).getD .skip
noncomputable def T26 : Tb := ⟨tyOf tys, [], []⟩
noncomputable def G26 {R : Type} (N : Nat) : FuncId → List AV → (AV → Option R) → Option R := gCons 46 (gOf ad46 rd46 (F46 N)) (gCons 45 (gOf ad45 rd45 (F45 N)) (gNil))
theorem gok26 {R : Type} (N : Nat) : GOK Tryd.prog (G26 (R := R) N) := gCons_ok (ok46 N) (gCons_ok (ok45 N) (gNil_ok))
noncomputable def live26 : List (Nat × List (Nat × HK)) := []
noncomputable def ad26 : Ad (List Int × Unit) := aC (cLi .u32) (a0)
noncomputable def rd26 : Rd (List Int) := r1 (cLi .u32)
noncomputable def fn_tillerref15_Sin (N : Nat) (x0 : List Int) : Option (List Int) :=
  (fn_tillerref15_cut N x0 x0).bind fun r1 =>
   (fn_tillerref15_series N x0 r1 2).bind fun r2 =>
    some r2
theorem run26 (N : Nat) (x0 : List Int) : Eng.run T26 (G26 N) N live26 c26 Tryd.f26.results.toList Tryd.f26.ntmps ((ad26).enc (x0, ())) (rd26).dec = fn_tillerref15_Sin N x0 := by kernel_rfl
noncomputable def F26 (N : Nat) (a : List Int × Unit) : Option (List Int) := fn_tillerref15_Sin N a.1
theorem ok26 (N : Nat) : FnOK Tryd.prog 26 ad26 rd26 (F26 N) :=
  fn_ok (N := N) (live := live26) (code := c26) (tok T26.rt T26.kl) mixed (gok26 N) Tryd.func26 (by kernel_rfl) (by kernel_rfl) (by kernel_rfl) fun a p h => by rw [← h]; exact run26 N a.1

/-! ### tiller/tillerref15.Bounds: function 25 -/
noncomputable def c25 : Code := (Tryd.f25.body).getD .skip
noncomputable def T25 : Tb := ⟨tyOf tys, [], []⟩
noncomputable def G25 {R : Type} (N : Nat) : FuncId → List AV → (AV → Option R) → Option R := gCons 32 (gOf ad32 rd32 (F32 N)) (gCons 22 (gOf ad22 rd22 (F22 N)) (gCons 44 (gOf ad44 rd44 (F44 N)) (gCons 11 (gOf ad11 rd11 (F11 N)) (gNil))))
theorem gok25 {R : Type} (N : Nat) : GOK Tryd.prog (G25 (R := R) N) := gCons_ok (ok32 N) (gCons_ok (ok22 N) (gCons_ok (ok44 N) (gCons_ok (ok11 N) (gNil_ok))))
noncomputable def live25 : List (Nat × List (Nat × HK)) := []
noncomputable def ad25 : Ad (List Int × List Int × List Int × Unit) := aC (cLi .u32) (aC (cLi .u32) (aC (cLi .u32) (a0)))
noncomputable def rd25 : Rd (Bool) := r1 (cBool)
noncomputable def fn_tillerref15_Bounds (N : Nat) (x0 : List Int) (x1 : List Int) (x2 : List Int) : Option (Bool) :=
  (fn_tillerref02_Of N 1000).bind fun r1 =>
   (fn_tillerref02_Shl N x1 72).bind fun r2 =>
    (fn_tillerref02_Add N x0 r1).bind fun r3 =>
     (fn_tillerref02_Cmp N r2 r3).bind fun r4 =>
      cond (leI r4 0)
       ((fn_tillerref02_Shl N x2 72).bind fun r5 =>
        (fn_tillerref02_Add N r5 r1).bind fun r6 =>
         (fn_tillerref02_Cmp N x0 r6).bind fun r7 =>
          some (leI r7 0))
       (some false)
theorem run25 (N : Nat) (x0 : List Int) (x1 : List Int) (x2 : List Int) : Eng.run T25 (G25 N) N live25 c25 Tryd.f25.results.toList Tryd.f25.ntmps ((ad25).enc (x0, x1, x2, ())) (rd25).dec = fn_tillerref15_Bounds N x0 x1 x2 := by kernel_rfl
noncomputable def F25 (N : Nat) (a : List Int × List Int × List Int × Unit) : Option (Bool) := fn_tillerref15_Bounds N a.1 a.2.1 a.2.2.1
theorem ok25 (N : Nat) : FnOK Tryd.prog 25 ad25 rd25 (F25 N) :=
  fn_ok (N := N) (live := live25) (code := c25) (tok T25.rt T25.kl) mixed (gok25 N) Tryd.func25 (by kernel_rfl) (by kernel_rfl) (by kernel_rfl) fun a p h => by rw [← h]; exact run25 N a.1 a.2.1 a.2.2.1

/-! ### tiller/tillerref15.Cos: function 27 -/
noncomputable def c27 : Code := (Tryd.f27.body).getD .skip
noncomputable def T27 : Tb := ⟨tyOf tys, [], []⟩
noncomputable def G27 {R : Type} (N : Nat) : FuncId → List AV → (AV → Option R) → Option R := gCons 32 (gOf ad32 rd32 (F32 N)) (gCons 22 (gOf ad22 rd22 (F22 N)) (gCons 46 (gOf ad46 rd46 (F46 N)) (gCons 45 (gOf ad45 rd45 (F45 N)) (gNil))))
theorem gok27 {R : Type} (N : Nat) : GOK Tryd.prog (G27 (R := R) N) := gCons_ok (ok32 N) (gCons_ok (ok22 N) (gCons_ok (ok46 N) (gCons_ok (ok45 N) (gNil_ok))))
noncomputable def live27 : List (Nat × List (Nat × HK)) := []
noncomputable def ad27 : Ad (List Int × Unit) := aC (cLi .u32) (a0)
noncomputable def rd27 : Rd (List Int) := r1 (cLi .u32)
noncomputable def fn_tillerref15_Cos (N : Nat) (x0 : List Int) : Option (List Int) :=
  (fn_tillerref02_Of N 1).bind fun r1 =>
   (fn_tillerref02_Shl N r1 320).bind fun r2 =>
    (fn_tillerref15_cut N x0 x0).bind fun r3 =>
     (fn_tillerref15_series N r2 r3 1).bind fun r4 =>
      some r4
theorem run27 (N : Nat) (x0 : List Int) : Eng.run T27 (G27 N) N live27 c27 Tryd.f27.results.toList Tryd.f27.ntmps ((ad27).enc (x0, ())) (rd27).dec = fn_tillerref15_Cos N x0 := by kernel_rfl
noncomputable def F27 (N : Nat) (a : List Int × Unit) : Option (List Int) := fn_tillerref15_Cos N a.1
theorem ok27 (N : Nat) : FnOK Tryd.prog 27 ad27 rd27 (F27 N) :=
  fn_ok (N := N) (live := live27) (code := c27) (tok T27.rt T27.kl) mixed (gok27 N) Tryd.func27 (by kernel_rfl) (by kernel_rfl) (by kernel_rfl) fun a p h => by rw [← h]; exact run27 N a.1
end Go.Proofs.YtoconobigciggaaDoor.Fns

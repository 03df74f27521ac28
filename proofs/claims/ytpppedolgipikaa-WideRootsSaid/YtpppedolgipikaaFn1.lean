/- Go functions as plain Lean functions, and the engine's run of each. No statement is proved here. Laid by eng.py. -/
import Derived.Test.YtpppedolgipikaaFn0
namespace Go.Proofs.Ytpppedolgipikaa.Fns
open Go Go.RowKit Go.Proofs Go.Proofs.Ytpppedolgipikaa.Eng
set_option linter.unusedVariables false
set_option maxRecDepth 100000
/-! ### math/bits.Len64: function 33 -/
noncomputable def c33 : Code := (Try.f33.body).getD .skip
noncomputable def T33 : Tb := ⟨tyOf tys, []⟩
noncomputable def G33 {R : Type} (N : Nat) : FuncId → List AV → (AV → Option R) → Option R := gNil
theorem gok33 {R : Type} (N : Nat) : GOK Try.prog (G33 (R := R) N) := gNil_ok
noncomputable def live33 : List (Nat × List Nat) := []
noncomputable def ad33 : Ad (Int × Unit) := aC (cInt .u64) (a0)
noncomputable def rd33 : Rd (Int) := r1 (cInt .i64)
noncomputable def fn_bits_Len64 (N : Nat) (x0 : Int) : Option (Int) :=
  cond (leI 4294967296 x0)
   (cond (leI 65536 (shrI .u64 x0 32))
    (cond (leI 256 (shrI .u64 (shrI .u64 x0 32) 16))
     (cond (leI 0 (cvI .u8 (shrI .u64 (shrI .u64 (shrI .u64 x0 32) 16) 8)))
      (cond (ltI (cvI .u8 (shrI .u64 (shrI .u64 (shrI .u64 x0 32) 16) 8)) (str0.size : Int))
       (some (addI .i64 (addI .i64 (addI .i64 32 16) 8) (cvI .i64 (sAt str0 (cvI .u8 (shrI .u64 (shrI .u64 (shrI .u64 x0 32) 16) 8))))))
       (none))
      (none))
     (cond (leI 0 (cvI .u8 (shrI .u64 (shrI .u64 x0 32) 16)))
      (cond (ltI (cvI .u8 (shrI .u64 (shrI .u64 x0 32) 16)) (str0.size : Int))
       (some (addI .i64 (addI .i64 32 16) (cvI .i64 (sAt str0 (cvI .u8 (shrI .u64 (shrI .u64 x0 32) 16))))))
       (none))
      (none)))
    (cond (leI 256 (shrI .u64 x0 32))
     (cond (leI 0 (cvI .u8 (shrI .u64 (shrI .u64 x0 32) 8)))
      (cond (ltI (cvI .u8 (shrI .u64 (shrI .u64 x0 32) 8)) (str0.size : Int))
       (some (addI .i64 (addI .i64 32 8) (cvI .i64 (sAt str0 (cvI .u8 (shrI .u64 (shrI .u64 x0 32) 8))))))
       (none))
      (none))
     (cond (leI 0 (cvI .u8 (shrI .u64 x0 32)))
      (cond (ltI (cvI .u8 (shrI .u64 x0 32)) (str0.size : Int))
       (some (addI .i64 32 (cvI .i64 (sAt str0 (cvI .u8 (shrI .u64 x0 32))))))
       (none))
      (none))))
   (cond (leI 65536 x0)
    (cond (leI 256 (shrI .u64 x0 16))
     (cond (leI 0 (cvI .u8 (shrI .u64 (shrI .u64 x0 16) 8)))
      (cond (ltI (cvI .u8 (shrI .u64 (shrI .u64 x0 16) 8)) (str0.size : Int))
       (some (addI .i64 (addI .i64 (addI .i64 0 16) 8) (cvI .i64 (sAt str0 (cvI .u8 (shrI .u64 (shrI .u64 x0 16) 8))))))
       (none))
      (none))
     (cond (leI 0 (cvI .u8 (shrI .u64 x0 16)))
      (cond (ltI (cvI .u8 (shrI .u64 x0 16)) (str0.size : Int))
       (some (addI .i64 (addI .i64 0 16) (cvI .i64 (sAt str0 (cvI .u8 (shrI .u64 x0 16))))))
       (none))
      (none)))
    (cond (leI 256 x0)
     (cond (leI 0 (cvI .u8 (shrI .u64 x0 8)))
      (cond (ltI (cvI .u8 (shrI .u64 x0 8)) (str0.size : Int))
       (some (addI .i64 (addI .i64 0 8) (cvI .i64 (sAt str0 (cvI .u8 (shrI .u64 x0 8))))))
       (none))
      (none))
     (cond (leI 0 (cvI .u8 x0))
      (cond (ltI (cvI .u8 x0) (str0.size : Int))
       (some (addI .i64 0 (cvI .i64 (sAt str0 (cvI .u8 x0)))))
       (none))
      (none))))
theorem run33 (N : Nat) (x0 : Int) : Eng.run T33 (G33 N) N live33 c33 Try.f33.results.toList Try.f33.ntmps ((ad33).enc (x0, ())) (rd33).dec = fn_bits_Len64 N x0 := by kernel_rfl
noncomputable def F33 (N : Nat) (a : Int × Unit) : Option (Int) := fn_bits_Len64 N a.1
theorem ok33 (N : Nat) : FnOK Try.prog 33 ad33 rd33 (F33 N) :=
  fn_ok (N := N) (live := live33) (code := c33) (tok T33.rt) mixed (gok33 N) Try.func33 (by kernel_rfl) (by kernel_rfl) (by kernel_rfl) fun a p h => by rw [← h]; exact run33 N a.1

/-! ### tiller/wide.Len: function 16 -/
noncomputable def c16 : Code := (Try.f16.body).getD .skip
noncomputable def T16 : Tb := ⟨tyOf tys, [(9, 1), (15, 1)]⟩
noncomputable def G16 {R : Type} (N : Nat) : FuncId → List AV → (AV → Option R) → Option R := gCons 33 (gOf ad33 rd33 (F33 N)) (gNil)
theorem gok16 {R : Type} (N : Nat) : GOK Try.prog (G16 (R := R) N) := gCons_ok (ok33 N) (gNil_ok)
noncomputable def live16 : List (Nat × List Nat) := [(2, [1, 3])]
noncomputable def ad16 : Ad (Vec 4 × Unit) := aC (cVec .u64 4) (a0)
noncomputable def rd16 : Rd (Int) := r1 (cInt .i64)
noncomputable def st16_0 (v0 : Int) (v1 : Vec 4) : St := ⟨[AV.none, AV.ptr 1 0, AV.none, AV.v (.int .i64 v0), AV.none, AV.none, AV.none, AV.none, AV.none, AV.none, AV.none, AV.none, AV.none, AV.none, AV.none, AV.none, AV.none, AV.none, AV.none], [none, some (OB.arr .u64 4 v1), none, none, none, none, none, none, none, none, none, none, none, none, none, none, none, none, none]⟩
noncomputable def raw16_0 (N : Nat) (n : Nat) (v0 : Int) (v1 : Vec 4) : Option (Int) := loopN (lookN live16 2) (exec T16 (G16 N) N live16 (cL (cL (cR (cL (cR c16)))))) n (st16_0 v0 v1) (blockK 0 (seqK (exec T16 (G16 N) N live16 (cR (cR c16))) (retK T16 Try.f16.results.toList (rd16).dec)))
noncomputable def s16_0 (N : Nat) (Ln0 : Int → Vec 4 → Option (Int)) (v0 : Int) (v1 : Vec 4) : Option (Int) :=
  cond (leI 0 v0)
   (cond (leI 0 v0)
    (cond (ltI v0 4)
     (cond (!(eqI (Vec.rd v1 v0) 0))
      (cond (leI 0 v0)
       (cond (ltI v0 4)
        ((fn_bits_Len64 N (Vec.rd v1 v0)).bind fun r1 =>
         some (addI .i64 (mulI .i64 64 v0) r1))
        (none))
       (none))
      (Ln0 (subI .i64 v0 1) v1))
     (none))
    (none))
   (some 0)
theorem step16_0 (N : Nat) (n : Nat) (v0 : Int) (v1 : Vec 4) : raw16_0 N  (n + 1) v0 v1 = s16_0 N (raw16_0 N  n) v0 v1 := by kernel_rfl
noncomputable def l16_0 (N : Nat) : Nat → Int → Vec 4 → Option (Int)
  | 0 => fun _ _ => none
  | n + 1 => fun v0 v1 => s16_0 N (l16_0 N  n) v0 v1
theorem eq16_0 (N : Nat) : ∀ n, raw16_0 N  n = l16_0 N  n := by
  intro n
  induction n with
  | zero => exact funext fun v0 => funext fun v1 => rfl
  | succ n ih => exact funext fun v0 => funext fun v1 => by rw [step16_0, ih]; rfl
noncomputable def t16 (N : Nat) (Le0 : Int → Vec 4 → Option (Int)) (x0 : Vec 4) : Option (Int) :=
  Le0 3 x0
noncomputable def fn_wide_Len (N : Nat) (x0 : Vec 4) : Option (Int) := t16 N (l16_0 N N) x0
theorem run16 (N : Nat) (x0 : Vec 4) : Eng.run T16 (G16 N) N live16 c16 Try.f16.results.toList Try.f16.ntmps ((ad16).enc (x0, ())) (rd16).dec = fn_wide_Len N x0 := by
  refine Eq.trans (show _ = t16 N (raw16_0 N N) x0 from by kernel_rfl) ?_
  unfold fn_wide_Len
  rw [eq16_0 N N]
noncomputable def F16 (N : Nat) (a : Vec 4 × Unit) : Option (Int) := fn_wide_Len N a.1
theorem ok16 (N : Nat) : FnOK Try.prog 16 ad16 rd16 (F16 N) :=
  fn_ok (N := N) (live := live16) (code := c16) (tok T16.rt) mixed (gok16 N) Try.func16 (by kernel_rfl) (by kernel_rfl) (by kernel_rfl) fun a p h => by rw [← h]; exact run16 N a.1

/-! ### tiller/wide.Shl: function 27 -/
noncomputable def c27 : Code := (Try.f27.body).getD .skip
noncomputable def T27 : Tb := ⟨tyOf tys, [(25, 2), (30, 5), (35, 5), (41, 2), (48, 5)]⟩
noncomputable def G27 {R : Type} (N : Nat) : FuncId → List AV → (AV → Option R) → Option R := gNil
theorem gok27 {R : Type} (N : Nat) : GOK Try.prog (G27 (R := R) N) := gNil_ok
noncomputable def live27 : List (Nat × List Nat) := [(8, [1, 2, 4, 5, 6, 7])]
noncomputable def ad27 : Ad (Vec 4 × Int × Unit) := aC (cVec .u64 4) (aC (cInt .i64) (a0))
noncomputable def rd27 : Rd (Vec 4) := r1 (cVec .u64 4)
noncomputable def st27_0 (v0 : Int) (v1 : Int) (v2 : Int) (v3 : Vec 4) (v4 : Vec 4) (v5 : Vec 4) : St := ⟨[AV.none, AV.v (.int .i64 v0), AV.ptr 2 0, AV.none, AV.ptr 4 0, AV.ptr 5 0, AV.v (.int .i64 v1), AV.v (.int .i64 v2), AV.none, AV.none, AV.none, AV.none, AV.none, AV.none, AV.none, AV.none, AV.none, AV.none, AV.none, AV.none, AV.none, AV.none, AV.none, AV.none, AV.none, AV.none, AV.none, AV.none, AV.none, AV.none, AV.none, AV.none, AV.none, AV.none, AV.none, AV.none, AV.none, AV.none, AV.none, AV.none, AV.none, AV.none, AV.none, AV.none, AV.none, AV.none, AV.none, AV.none, AV.none, AV.none], [none, none, some (OB.arr .u64 4 v3), none, some (OB.arr .u64 4 v4), some (OB.arr .u64 4 v5), none, none, none, none, none, none, none, none, none, none, none, none, none, none, none, none, none, none, none, none, none, none, none, none, none, none, none, none, none, none, none, none, none, none, none, none, none, none, none, none, none, none, none, none]⟩
noncomputable def raw27_0 (N : Nat) (n : Nat) (v0 : Int) (v1 : Int) (v2 : Int) (v3 : Vec 4) (v4 : Vec 4) (v5 : Vec 4) : Option (Vec 4) := loopN (lookN live27 8) (exec T27 (G27 N) N live27 (cL (cL (cR (cL (cR (cR (cR (cR (cR c27)))))))))) n (st27_0 v0 v1 v2 v3 v4 v5) (blockK 0 (seqK (exec T27 (G27 N) N live27 (cR (cR (cR (cR (cR (cR c27))))))) (retK T27 Try.f27.results.toList (rd27).dec)))
noncomputable def s27_0 (N : Nat) (Ln0 : Int → Int → Int → Vec 4 → Vec 4 → Vec 4 → Option (Vec 4)) (v0 : Int) (v1 : Int) (v2 : Int) (v3 : Vec 4) (v4 : Vec 4) (v5 : Vec 4) : Option (Vec 4) :=
  cond (leI v1 v2)
   (cond (leI 0 (subI .i64 v2 v1))
    (cond (ltI (subI .i64 v2 v1) 4)
     (cond (ltI (remI .i64 v0 64) 0)
      (none)
      (cond (leI 0 v2)
       (cond (ltI v2 4)
        (cond (ltI v1 v2)
         (cond (leI 0 v2)
          (cond (ltI v2 4)
           (cond (leI 0 (subI .i64 (subI .i64 v2 v1) 1))
            (cond (ltI (subI .i64 (subI .i64 v2 v1) 1) 4)
             (cond (ltI (subI .i64 64 (remI .i64 v0 64)) 0)
              (none)
              (cond (leI 0 v2)
               (cond (ltI v2 4)
                (Ln0 v0 v1 (subI .i64 v2 1) v3 v4 (Vec.st (Vec.st v5 v2 (shlI .u64 (Vec.rd v3 (subI .i64 v2 v1)) (remI .i64 v0 64))) v2 (orI .u64 (Vec.rd (Vec.st v5 v2 (shlI .u64 (Vec.rd v3 (subI .i64 v2 v1)) (remI .i64 v0 64))) v2) (shrI .u64 (Vec.rd v3 (subI .i64 (subI .i64 v2 v1) 1)) (subI .i64 64 (remI .i64 v0 64))))))
                (none))
               (none)))
             (none))
            (none))
           (none))
          (none))
         (Ln0 v0 v1 (subI .i64 v2 1) v3 v4 (Vec.st v5 v2 (shlI .u64 (Vec.rd v3 (subI .i64 v2 v1)) (remI .i64 v0 64)))))
        (none))
       (none)))
     (none))
    (none))
   (some v5)
theorem step27_0 (N : Nat) (n : Nat) (v0 : Int) (v1 : Int) (v2 : Int) (v3 : Vec 4) (v4 : Vec 4) (v5 : Vec 4) : raw27_0 N  (n + 1) v0 v1 v2 v3 v4 v5 = s27_0 N (raw27_0 N  n) v0 v1 v2 v3 v4 v5 := by kernel_rfl
noncomputable def l27_0 (N : Nat) : Nat → Int → Int → Int → Vec 4 → Vec 4 → Vec 4 → Option (Vec 4)
  | 0 => fun _ _ _ _ _ _ => none
  | n + 1 => fun v0 v1 v2 v3 v4 v5 => s27_0 N (l27_0 N  n) v0 v1 v2 v3 v4 v5
theorem eq27_0 (N : Nat) : ∀ n, raw27_0 N  n = l27_0 N  n := by
  intro n
  induction n with
  | zero => exact funext fun v0 => funext fun v1 => funext fun v2 => funext fun v3 => funext fun v4 => funext fun v5 => rfl
  | succ n ih => exact funext fun v0 => funext fun v1 => funext fun v2 => funext fun v3 => funext fun v4 => funext fun v5 => by rw [step27_0, ih]; rfl
noncomputable def t27 (N : Nat) (Le0 : Int → Int → Int → Vec 4 → Vec 4 → Vec 4 → Option (Vec 4)) (x0 : Vec 4) (x1 : Int) : Option (Vec 4) :=
  cond (ltI x1 1)
   (some x0)
   (cond (leI 256 x1)
    (some (Vec.zero 4))
    (Le0 x1 (quoI .i64 x1 64) 3 x0 (Vec.zero 4) (Vec.zero 4)))
noncomputable def fn_wide_Shl (N : Nat) (x0 : Vec 4) (x1 : Int) : Option (Vec 4) := t27 N (l27_0 N N) x0 x1
theorem run27 (N : Nat) (x0 : Vec 4) (x1 : Int) : Eng.run T27 (G27 N) N live27 c27 Try.f27.results.toList Try.f27.ntmps ((ad27).enc (x0, x1, ())) (rd27).dec = fn_wide_Shl N x0 x1 := by
  refine Eq.trans (show _ = t27 N (raw27_0 N N) x0 x1 from by kernel_rfl) ?_
  unfold fn_wide_Shl
  rw [eq27_0 N N]
noncomputable def F27 (N : Nat) (a : Vec 4 × Int × Unit) : Option (Vec 4) := fn_wide_Shl N a.1 a.2.1
theorem ok27 (N : Nat) : FnOK Try.prog 27 ad27 rd27 (F27 N) :=
  fn_ok (N := N) (live := live27) (code := c27) (tok T27.rt) mixed (gok27 N) Try.func27 (by kernel_rfl) (by kernel_rfl) (by kernel_rfl) fun a p h => by rw [← h]; exact run27 N a.1 a.2.1

/-! ### tiller/wide.Of: function 20 -/
noncomputable def c20 : Code := (Try.f20.body).getD .skip
noncomputable def T20 : Tb := ⟨tyOf tys, []⟩
noncomputable def G20 {R : Type} (N : Nat) : FuncId → List AV → (AV → Option R) → Option R := gNil
theorem gok20 {R : Type} (N : Nat) : GOK Try.prog (G20 (R := R) N) := gNil_ok
noncomputable def live20 : List (Nat × List Nat) := []
noncomputable def ad20 : Ad (Int × Unit) := aC (cInt .u64) (a0)
noncomputable def rd20 : Rd (Vec 4) := r1 (cVec .u64 4)
noncomputable def fn_wide_Of (N : Nat) (x0 : Int) : Option (Vec 4) :=
  some (Vec.st (Vec.zero 4) 0 x0)
theorem run20 (N : Nat) (x0 : Int) : Eng.run T20 (G20 N) N live20 c20 Try.f20.results.toList Try.f20.ntmps ((ad20).enc (x0, ())) (rd20).dec = fn_wide_Of N x0 := by kernel_rfl
noncomputable def F20 (N : Nat) (a : Int × Unit) : Option (Vec 4) := fn_wide_Of N a.1
theorem ok20 (N : Nat) : FnOK Try.prog 20 ad20 rd20 (F20 N) :=
  fn_ok (N := N) (live := live20) (code := c20) (tok T20.rt) mixed (gok20 N) Try.func20 (by kernel_rfl) (by kernel_rfl) (by kernel_rfl) fun a p h => by rw [← h]; exact run20 N a.1

/-! ### tiller/wide.Add: function 21 -/
noncomputable def c21 : Code := (Try.f21.body).getD .skip
noncomputable def T21 : Tb := ⟨tyOf tys, [(14, 2), (17, 3), (23, 2)]⟩
noncomputable def G21 {R : Type} (N : Nat) : FuncId → List AV → (AV → Option R) → Option R := gCons 34 (gOf (aI3 .u64) (r2 (cInt .u64) (cInt .u64)) (fun a => add64 a.1 a.2.1 a.2.2.1)) (gNil)
theorem gok21 {R : Type} (N : Nat) : GOK Try.prog (G21 (R := R) N) := gCons_ok (add64_ok Try.func34 (by kernel_rfl) (by kernel_rfl) (by kernel_rfl) (by kernel_rfl)) (gNil_ok)
noncomputable def live21 : List (Nat × List Nat) := [(3, [2, 3, 4, 6, 8])]
noncomputable def ad21 : Ad (Vec 4 × Vec 4 × Unit) := aC (cVec .u64 4) (aC (cVec .u64 4) (a0))
noncomputable def rd21 : Rd (Vec 4 × Bool) := r2 (cVec .u64 4) (cBool)
noncomputable def st21_0 (v0 : Int) (v1 : Int) (v2 : Vec 4) (v3 : Vec 4) (v4 : Vec 4) : St := ⟨[AV.none, AV.none, AV.ptr 2 0, AV.ptr 3 0, AV.ptr 4 0, AV.none, AV.v (.int .u64 v0), AV.none, AV.v (.int .i64 v1), AV.none, AV.none, AV.none, AV.none, AV.none, AV.none, AV.none, AV.none, AV.none, AV.none, AV.none, AV.none, AV.none, AV.none, AV.none, AV.none, AV.none, AV.none, AV.none], [none, none, some (OB.arr .u64 4 v2), some (OB.arr .u64 4 v3), some (OB.arr .u64 4 v4), none, none, none, none, none, none, none, none, none, none, none, none, none, none, none, none, none, none, none, none, none, none, none]⟩
noncomputable def raw21_0 (N : Nat) (n : Nat) (v0 : Int) (v1 : Int) (v2 : Vec 4) (v3 : Vec 4) (v4 : Vec 4) : Option (Vec 4 × Bool) := loopN (lookN live21 3) (exec T21 (G21 N) N live21 (cL (cL (cR (cL (cR (cR c21))))))) n (st21_0 v0 v1 v2 v3 v4) (blockK 0 (seqK (exec T21 (G21 N) N live21 (cR (cR (cR c21)))) (retK T21 Try.f21.results.toList (rd21).dec)))
noncomputable def s21_0 (N : Nat) (Ln0 : Int → Int → Vec 4 → Vec 4 → Vec 4 → Option (Vec 4 × Bool)) (v0 : Int) (v1 : Int) (v2 : Vec 4) (v3 : Vec 4) (v4 : Vec 4) : Option (Vec 4 × Bool) :=
  cond (ltI v1 4)
   (cond (leI 0 v1)
    (cond (ltI v1 4)
     (cond (leI 0 v1)
      (cond (ltI v1 4)
       ((add64 (Vec.rd v2 v1) (Vec.rd v3 v1) v0).bind fun r1 =>
        cond (leI 0 v1)
         (cond (ltI v1 4)
          (Ln0 r1.2 (addI .i64 v1 1) (Vec.st v2 v1 r1.1) v3 v4)
          (none))
         (none))
       (none))
      (none))
     (none))
    (none))
   (some (v2, !(eqI v0 0)))
theorem step21_0 (N : Nat) (n : Nat) (v0 : Int) (v1 : Int) (v2 : Vec 4) (v3 : Vec 4) (v4 : Vec 4) : raw21_0 N  (n + 1) v0 v1 v2 v3 v4 = s21_0 N (raw21_0 N  n) v0 v1 v2 v3 v4 := by kernel_rfl
noncomputable def l21_0 (N : Nat) : Nat → Int → Int → Vec 4 → Vec 4 → Vec 4 → Option (Vec 4 × Bool)
  | 0 => fun _ _ _ _ _ => none
  | n + 1 => fun v0 v1 v2 v3 v4 => s21_0 N (l21_0 N  n) v0 v1 v2 v3 v4
theorem eq21_0 (N : Nat) : ∀ n, raw21_0 N  n = l21_0 N  n := by
  intro n
  induction n with
  | zero => exact funext fun v0 => funext fun v1 => funext fun v2 => funext fun v3 => funext fun v4 => rfl
  | succ n ih => exact funext fun v0 => funext fun v1 => funext fun v2 => funext fun v3 => funext fun v4 => by rw [step21_0, ih]; rfl
noncomputable def t21 (N : Nat) (Le0 : Int → Int → Vec 4 → Vec 4 → Vec 4 → Option (Vec 4 × Bool)) (x0 : Vec 4) (x1 : Vec 4) : Option (Vec 4 × Bool) :=
  Le0 0 0 x0 x1 (Vec.zero 4)
noncomputable def fn_wide_Add (N : Nat) (x0 : Vec 4) (x1 : Vec 4) : Option (Vec 4 × Bool) := t21 N (l21_0 N N) x0 x1
theorem run21 (N : Nat) (x0 : Vec 4) (x1 : Vec 4) : Eng.run T21 (G21 N) N live21 c21 Try.f21.results.toList Try.f21.ntmps ((ad21).enc (x0, x1, ())) (rd21).dec = fn_wide_Add N x0 x1 := by
  refine Eq.trans (show _ = t21 N (raw21_0 N N) x0 x1 from by kernel_rfl) ?_
  unfold fn_wide_Add
  rw [eq21_0 N N]
noncomputable def F21 (N : Nat) (a : Vec 4 × Vec 4 × Unit) : Option (Vec 4 × Bool) := fn_wide_Add N a.1 a.2.1
theorem ok21 (N : Nat) : FnOK Try.prog 21 ad21 rd21 (F21 N) :=
  fn_ok (N := N) (live := live21) (code := c21) (tok T21.rt) mixed (gok21 N) Try.func21 (by kernel_rfl) (by kernel_rfl) (by kernel_rfl) fun a p h => by rw [← h]; exact run21 N a.1 a.2.1

/-! ### tiller/wide.Sub: function 22 -/
noncomputable def c22 : Code := (Try.f22.body).getD .skip
noncomputable def T22 : Tb := ⟨tyOf tys, [(14, 2), (17, 3), (23, 2)]⟩
noncomputable def G22 {R : Type} (N : Nat) : FuncId → List AV → (AV → Option R) → Option R := gCons 35 (gOf (aI3 .u64) (r2 (cInt .u64) (cInt .u64)) (fun a => sub64 a.1 a.2.1 a.2.2.1)) (gNil)
theorem gok22 {R : Type} (N : Nat) : GOK Try.prog (G22 (R := R) N) := gCons_ok (sub64_ok Try.func35 (by kernel_rfl) (by kernel_rfl) (by kernel_rfl) (by kernel_rfl)) (gNil_ok)
noncomputable def live22 : List (Nat × List Nat) := [(3, [2, 3, 4, 6, 8])]
noncomputable def ad22 : Ad (Vec 4 × Vec 4 × Unit) := aC (cVec .u64 4) (aC (cVec .u64 4) (a0))
noncomputable def rd22 : Rd (Vec 4 × Bool) := r2 (cVec .u64 4) (cBool)
noncomputable def st22_0 (v0 : Int) (v1 : Int) (v2 : Vec 4) (v3 : Vec 4) (v4 : Vec 4) : St := ⟨[AV.none, AV.none, AV.ptr 2 0, AV.ptr 3 0, AV.ptr 4 0, AV.none, AV.v (.int .u64 v0), AV.none, AV.v (.int .i64 v1), AV.none, AV.none, AV.none, AV.none, AV.none, AV.none, AV.none, AV.none, AV.none, AV.none, AV.none, AV.none, AV.none, AV.none, AV.none, AV.none, AV.none, AV.none, AV.none], [none, none, some (OB.arr .u64 4 v2), some (OB.arr .u64 4 v3), some (OB.arr .u64 4 v4), none, none, none, none, none, none, none, none, none, none, none, none, none, none, none, none, none, none, none, none, none, none, none]⟩
noncomputable def raw22_0 (N : Nat) (n : Nat) (v0 : Int) (v1 : Int) (v2 : Vec 4) (v3 : Vec 4) (v4 : Vec 4) : Option (Vec 4 × Bool) := loopN (lookN live22 3) (exec T22 (G22 N) N live22 (cL (cL (cR (cL (cR (cR c22))))))) n (st22_0 v0 v1 v2 v3 v4) (blockK 0 (seqK (exec T22 (G22 N) N live22 (cR (cR (cR c22)))) (retK T22 Try.f22.results.toList (rd22).dec)))
noncomputable def s22_0 (N : Nat) (Ln0 : Int → Int → Vec 4 → Vec 4 → Vec 4 → Option (Vec 4 × Bool)) (v0 : Int) (v1 : Int) (v2 : Vec 4) (v3 : Vec 4) (v4 : Vec 4) : Option (Vec 4 × Bool) :=
  cond (ltI v1 4)
   (cond (leI 0 v1)
    (cond (ltI v1 4)
     (cond (leI 0 v1)
      (cond (ltI v1 4)
       ((sub64 (Vec.rd v2 v1) (Vec.rd v3 v1) v0).bind fun r1 =>
        cond (leI 0 v1)
         (cond (ltI v1 4)
          (Ln0 r1.2 (addI .i64 v1 1) (Vec.st v2 v1 r1.1) v3 v4)
          (none))
         (none))
       (none))
      (none))
     (none))
    (none))
   (some (v2, !(eqI v0 0)))
theorem step22_0 (N : Nat) (n : Nat) (v0 : Int) (v1 : Int) (v2 : Vec 4) (v3 : Vec 4) (v4 : Vec 4) : raw22_0 N  (n + 1) v0 v1 v2 v3 v4 = s22_0 N (raw22_0 N  n) v0 v1 v2 v3 v4 := by kernel_rfl
noncomputable def l22_0 (N : Nat) : Nat → Int → Int → Vec 4 → Vec 4 → Vec 4 → Option (Vec 4 × Bool)
  | 0 => fun _ _ _ _ _ => none
  | n + 1 => fun v0 v1 v2 v3 v4 => s22_0 N (l22_0 N  n) v0 v1 v2 v3 v4
theorem eq22_0 (N : Nat) : ∀ n, raw22_0 N  n = l22_0 N  n := by
  intro n
  induction n with
  | zero => exact funext fun v0 => funext fun v1 => funext fun v2 => funext fun v3 => funext fun v4 => rfl
  | succ n ih => exact funext fun v0 => funext fun v1 => funext fun v2 => funext fun v3 => funext fun v4 => by rw [step22_0, ih]; rfl
noncomputable def t22 (N : Nat) (Le0 : Int → Int → Vec 4 → Vec 4 → Vec 4 → Option (Vec 4 × Bool)) (x0 : Vec 4) (x1 : Vec 4) : Option (Vec 4 × Bool) :=
  Le0 0 0 x0 x1 (Vec.zero 4)
noncomputable def fn_wide_Sub (N : Nat) (x0 : Vec 4) (x1 : Vec 4) : Option (Vec 4 × Bool) := t22 N (l22_0 N N) x0 x1
theorem run22 (N : Nat) (x0 : Vec 4) (x1 : Vec 4) : Eng.run T22 (G22 N) N live22 c22 Try.f22.results.toList Try.f22.ntmps ((ad22).enc (x0, x1, ())) (rd22).dec = fn_wide_Sub N x0 x1 := by
  refine Eq.trans (show _ = t22 N (raw22_0 N N) x0 x1 from by kernel_rfl) ?_
  unfold fn_wide_Sub
  rw [eq22_0 N N]
noncomputable def F22 (N : Nat) (a : Vec 4 × Vec 4 × Unit) : Option (Vec 4 × Bool) := fn_wide_Sub N a.1 a.2.1
theorem ok22 (N : Nat) : FnOK Try.prog 22 ad22 rd22 (F22 N) :=
  fn_ok (N := N) (live := live22) (code := c22) (tok T22.rt) mixed (gok22 N) Try.func22 (by kernel_rfl) (by kernel_rfl) (by kernel_rfl) fun a p h => by rw [← h]; exact run22 N a.1 a.2.1

/-! ### tiller/wide.Sqrt: function 11 -/
noncomputable def c11 : Code := (Try.f11.body).getD .skip
noncomputable def T11 : Tb := ⟨tyOf tys, [(45, 4), (51, 4)]⟩
noncomputable def G11 {R : Type} (N : Nat) : FuncId → List AV → (AV → Option R) → Option R := gCons 16 (gOf ad16 rd16 (F16 N)) (gCons 27 (gOf ad27 rd27 (F27 N)) (gCons 20 (gOf ad20 rd20 (F20 N)) (gCons 21 (gOf ad21 rd21 (F21 N)) (gCons 22 (gOf ad22 rd22 (F22 N)) (gNil)))))
theorem gok11 {R : Type} (N : Nat) : GOK Try.prog (G11 (R := R) N) := gCons_ok (ok16 N) (gCons_ok (ok27 N) (gCons_ok (ok20 N) (gCons_ok (ok21 N) (gCons_ok (ok22 N) (gNil_ok)))))
noncomputable def live11 : List (Nat × List Nat) := [(4, [2, 3, 4, 5, 6])]
noncomputable def ad11 : Ad (Vec 4 × Unit) := aC (cVec .u64 4) (a0)
noncomputable def rd11 : Rd (Vec 4 × Vec 4) := r2 (cVec .u64 4) (cVec .u64 4)
noncomputable def st11_0 (v0 : Int) (v1 : Vec 4) (v2 : Vec 4) (v3 : Vec 4) (v4 : Vec 4) : St := ⟨[AV.none, AV.none, AV.ptr 2 0, AV.ptr 3 0, AV.ptr 4 0, AV.ptr 5 0, AV.v (.int .i64 v0), AV.none, AV.none, AV.none, AV.none, AV.none, AV.none, AV.none, AV.none, AV.none, AV.none, AV.none, AV.none, AV.none, AV.none, AV.none, AV.none, AV.none, AV.none, AV.none, AV.none, AV.none, AV.none, AV.none, AV.none, AV.none, AV.none, AV.none, AV.none, AV.none, AV.none, AV.none, AV.none, AV.none, AV.none, AV.none, AV.none, AV.none, AV.none, AV.none, AV.none, AV.none, AV.none, AV.none, AV.none, AV.none, AV.none, AV.none], [none, none, some (OB.arr .u64 4 v1), some (OB.arr .u64 4 v2), some (OB.arr .u64 4 v3), some (OB.arr .u64 4 v4), none, none, none, none, none, none, none, none, none, none, none, none, none, none, none, none, none, none, none, none, none, none, none, none, none, none, none, none, none, none, none, none, none, none, none, none, none, none, none, none, none, none, none, none, none, none, none, none]⟩
noncomputable def raw11_0 (N : Nat) (n : Nat) (v0 : Int) (v1 : Vec 4) (v2 : Vec 4) (v3 : Vec 4) (v4 : Vec 4) : Option (Vec 4 × Vec 4) := loopN (lookN live11 4) (exec T11 (G11 N) N live11 (cL (cL (cR (cL (cR (cR (cR c11)))))))) n (st11_0 v0 v1 v2 v3 v4) (blockK 0 (seqK (exec T11 (G11 N) N live11 (cR (cR (cR (cR c11))))) (retK T11 Try.f11.results.toList (rd11).dec)))
noncomputable def s11_0 (N : Nat) (Ln0 : Int → Vec 4 → Vec 4 → Vec 4 → Vec 4 → Option (Vec 4 × Vec 4)) (v0 : Int) (v1 : Vec 4) (v2 : Vec 4) (v3 : Vec 4) (v4 : Vec 4) : Option (Vec 4 × Vec 4) :=
  cond (leI 0 v0)
   ((fn_wide_Shl N v3 (addI .i64 v0 1)).bind fun r2 =>
    (fn_wide_Of N 1).bind fun r3 =>
     (fn_wide_Shl N r3 (mulI .i64 2 v0)).bind fun r4 =>
      (fn_wide_Add N r2 r4).bind fun r5 =>
       (fn_wide_Sub N v4 r5.1).bind fun r6 =>
        cond (!(r6.2))
         (cond (leI 0 (quoI .i64 v0 64))
          (cond (ltI (quoI .i64 v0 64) 4)
           (cond (ltI (remI .i64 v0 64) 0)
            (none)
            (cond (leI 0 (quoI .i64 v0 64))
             (cond (ltI (quoI .i64 v0 64) 4)
              (Ln0 (subI .i64 v0 1) v1 v2 (Vec.st v3 (quoI .i64 v0 64) (orI .u64 (Vec.rd v3 (quoI .i64 v0 64)) (shlI .u64 1 (remI .i64 v0 64)))) r6.1)
              (none))
             (none)))
           (none))
          (none))
         (Ln0 (subI .i64 v0 1) v1 v2 v3 v4))
   (some (v3, v4))
theorem step11_0 (N : Nat) (n : Nat) (v0 : Int) (v1 : Vec 4) (v2 : Vec 4) (v3 : Vec 4) (v4 : Vec 4) : raw11_0 N  (n + 1) v0 v1 v2 v3 v4 = s11_0 N (raw11_0 N  n) v0 v1 v2 v3 v4 := by kernel_rfl
noncomputable def l11_0 (N : Nat) : Nat → Int → Vec 4 → Vec 4 → Vec 4 → Vec 4 → Option (Vec 4 × Vec 4)
  | 0 => fun _ _ _ _ _ => none
  | n + 1 => fun v0 v1 v2 v3 v4 => s11_0 N (l11_0 N  n) v0 v1 v2 v3 v4
theorem eq11_0 (N : Nat) : ∀ n, raw11_0 N  n = l11_0 N  n := by
  intro n
  induction n with
  | zero => exact funext fun v0 => funext fun v1 => funext fun v2 => funext fun v3 => funext fun v4 => rfl
  | succ n ih => exact funext fun v0 => funext fun v1 => funext fun v2 => funext fun v3 => funext fun v4 => by rw [step11_0, ih]; rfl
noncomputable def t11 (N : Nat) (Le0 : Int → Vec 4 → Vec 4 → Vec 4 → Vec 4 → Option (Vec 4 × Vec 4)) (x0 : Vec 4) : Option (Vec 4 × Vec 4) :=
  (fn_wide_Len N x0).bind fun r1 =>
   Le0 (quoI .i64 (subI .i64 r1 1) 2) (Vec.zero 4) (Vec.zero 4) (Vec.zero 4) x0
noncomputable def fn_wide_Sqrt (N : Nat) (x0 : Vec 4) : Option (Vec 4 × Vec 4) := t11 N (l11_0 N N) x0
theorem run11 (N : Nat) (x0 : Vec 4) : Eng.run T11 (G11 N) N live11 c11 Try.f11.results.toList Try.f11.ntmps ((ad11).enc (x0, ())) (rd11).dec = fn_wide_Sqrt N x0 := by
  refine Eq.trans (show _ = t11 N (raw11_0 N N) x0 from by kernel_rfl) ?_
  unfold fn_wide_Sqrt
  rw [eq11_0 N N]
noncomputable def F11 (N : Nat) (a : Vec 4 × Unit) : Option (Vec 4 × Vec 4) := fn_wide_Sqrt N a.1
theorem ok11 (N : Nat) : FnOK Try.prog 11 ad11 rd11 (F11 N) :=
  fn_ok (N := N) (live := live11) (code := c11) (tok T11.rt) mixed (gok11 N) Try.func11 (by kernel_rfl) (by kernel_rfl) (by kernel_rfl) fun a p h => by rw [← h]; exact run11 N a.1

/-! ### tiller/tillerref01.Mul: function 12 -/
noncomputable def c12 : Code := (Try.f12.body).getD .skip
noncomputable def T12 : Tb := ⟨tyOf tys, [(23, 2), (32, 3), (39, 6), (40, 7), (55, 9), (58, 6), (61, 7), (65, 9), (72, 9), (79, 12), (88, 12), (91, 12), (93, 12), (95, 12), (97, 12), (100, 12), (102, 12), (104, 12), (106, 12)]⟩
noncomputable def G12 {R : Type} (N : Nat) : FuncId → List AV → (AV → Option R) → Option R := gNil
theorem gok12 {R : Type} (N : Nat) : GOK Try.prog (G12 (R := R) N) := gNil_ok
noncomputable def live12 : List (Nat × List Nat) := [(3, [2, 3, 4, 5, 6, 7, 8]), (8, [4, 5, 6, 7, 9, 10]), (11, [4, 5, 6, 7, 9, 10, 11]), (17, [4, 5, 9, 12, 13, 14])]
noncomputable def ad12 : Ad (Vec 4 × Vec 4 × Unit) := aC (cVec .u64 4) (aC (cVec .u64 4) (a0))
noncomputable def rd12 : Rd (Vec 4 × Vec 4) := r2 (cVec .u64 4) (cVec .u64 4)
noncomputable def st12_0 (v0 : Int) (v1 : Vec 4) (v2 : Vec 4) (v3 : Vec 4) (v4 : Vec 4) (v5 : Vec 16) (v6 : Vec 16) : St := ⟨[AV.none, AV.none, AV.ptr 2 0, AV.ptr 3 0, AV.ptr 4 0, AV.ptr 5 0, AV.ptr 6 0, AV.ptr 7 0, AV.v (.int .i64 v0), AV.none, AV.none, AV.none, AV.none, AV.none, AV.none, AV.none, AV.none, AV.none, AV.none, AV.none, AV.none, AV.none, AV.none, AV.none, AV.none, AV.none, AV.none, AV.none, AV.none, AV.none, AV.none, AV.none, AV.none, AV.none, AV.none, AV.none, AV.none, AV.none, AV.none, AV.none, AV.none, AV.none, AV.none, AV.none, AV.none, AV.none, AV.none, AV.none, AV.none, AV.none, AV.none, AV.none, AV.none, AV.none, AV.none, AV.none, AV.none, AV.none, AV.none, AV.none, AV.none, AV.none, AV.none, AV.none, AV.none, AV.none, AV.none, AV.none, AV.none, AV.none, AV.none, AV.none, AV.none, AV.none, AV.none, AV.none, AV.none, AV.none, AV.none, AV.none, AV.none, AV.none, AV.none, AV.none, AV.none, AV.none, AV.none, AV.none, AV.none, AV.none, AV.none, AV.none, AV.none, AV.none, AV.none, AV.none, AV.none, AV.none, AV.none, AV.none, AV.none, AV.none, AV.none, AV.none, AV.none, AV.none, AV.none, AV.none, AV.none], [none, none, some (OB.arr .u64 4 v1), some (OB.arr .u64 4 v2), some (OB.arr .u64 4 v3), some (OB.arr .u64 4 v4), some (OB.arr .u64 16 v5), some (OB.arr .u64 16 v6), none, none, none, none, none, none, none, none, none, none, none, none, none, none, none, none, none, none, none, none, none, none, none, none, none, none, none, none, none, none, none, none, none, none, none, none, none, none, none, none, none, none, none, none, none, none, none, none, none, none, none, none, none, none, none, none, none, none, none, none, none, none, none, none, none, none, none, none, none, none, none, none, none, none, none, none, none, none, none, none, none, none, none, none, none, none, none, none, none, none, none, none, none, none, none, none, none, none, none, none, none]⟩
noncomputable def raw12_0 (N : Nat) (n : Nat) (v0 : Int) (v1 : Vec 4) (v2 : Vec 4) (v3 : Vec 4) (v4 : Vec 4) (v5 : Vec 16) (v6 : Vec 16) : Option (Vec 4 × Vec 4) := loopN (lookN live12 3) (exec T12 (G12 N) N live12 (cL (cL (cR (cL (cR (cR c12))))))) n (st12_0 v0 v1 v2 v3 v4 v5 v6) (blockK 0 (seqK (exec T12 (G12 N) N live12 (cR (cR (cR c12)))) (retK T12 Try.f12.results.toList (rd12).dec)))
noncomputable def st12_1 (v0 : Int) (v1 : Vec 4) (v2 : Vec 4) (v3 : Vec 16) (v4 : Vec 16) (v5 : Vec 33) : St := ⟨[AV.none, AV.none, AV.none, AV.none, AV.ptr 4 0, AV.ptr 5 0, AV.ptr 6 0, AV.ptr 7 0, AV.none, AV.ptr 9 0, AV.v (.int .i64 v0), AV.none, AV.none, AV.none, AV.none, AV.none, AV.none, AV.none, AV.none, AV.none, AV.none, AV.none, AV.none, AV.none, AV.none, AV.none, AV.none, AV.none, AV.none, AV.none, AV.none, AV.none, AV.none, AV.none, AV.none, AV.none, AV.none, AV.none, AV.none, AV.none, AV.none, AV.none, AV.none, AV.none, AV.none, AV.none, AV.none, AV.none, AV.none, AV.none, AV.none, AV.none, AV.none, AV.none, AV.none, AV.none, AV.none, AV.none, AV.none, AV.none, AV.none, AV.none, AV.none, AV.none, AV.none, AV.none, AV.none, AV.none, AV.none, AV.none, AV.none, AV.none, AV.none, AV.none, AV.none, AV.none, AV.none, AV.none, AV.none, AV.none, AV.none, AV.none, AV.none, AV.none, AV.none, AV.none, AV.none, AV.none, AV.none, AV.none, AV.none, AV.none, AV.none, AV.none, AV.none, AV.none, AV.none, AV.none, AV.none, AV.none, AV.none, AV.none, AV.none, AV.none, AV.none, AV.none, AV.none, AV.none, AV.none], [none, none, none, none, some (OB.arr .u64 4 v1), some (OB.arr .u64 4 v2), some (OB.arr .u64 16 v3), some (OB.arr .u64 16 v4), none, some (OB.arr .u64 33 v5), none, none, none, none, none, none, none, none, none, none, none, none, none, none, none, none, none, none, none, none, none, none, none, none, none, none, none, none, none, none, none, none, none, none, none, none, none, none, none, none, none, none, none, none, none, none, none, none, none, none, none, none, none, none, none, none, none, none, none, none, none, none, none, none, none, none, none, none, none, none, none, none, none, none, none, none, none, none, none, none, none, none, none, none, none, none, none, none, none, none, none, none, none, none, none, none, none, none, none]⟩
noncomputable def raw12_1 (N : Nat) (n : Nat) (v0 : Int) (v1 : Vec 4) (v2 : Vec 4) (v3 : Vec 16) (v4 : Vec 16) (v5 : Vec 33) : Option (Vec 4 × Vec 4) := loopN (lookN live12 8) (exec T12 (G12 N) N live12 (cL (cL (cR (cL (cR (cR (cR (cR c12))))))))) n (st12_1 v0 v1 v2 v3 v4 v5) (blockK 2 (seqK (exec T12 (G12 N) N live12 (cR (cR (cR (cR (cR c12)))))) (retK T12 Try.f12.results.toList (rd12).dec)))
noncomputable def st12_2 (v0 : Int) (v1 : Int) (v2 : Vec 4) (v3 : Vec 4) (v4 : Vec 16) (v5 : Vec 16) (v6 : Vec 33) : St := ⟨[AV.none, AV.none, AV.none, AV.none, AV.ptr 4 0, AV.ptr 5 0, AV.ptr 6 0, AV.ptr 7 0, AV.none, AV.ptr 9 0, AV.v (.int .i64 v0), AV.v (.int .i64 v1), AV.none, AV.none, AV.none, AV.none, AV.none, AV.none, AV.none, AV.none, AV.none, AV.none, AV.none, AV.none, AV.none, AV.none, AV.none, AV.none, AV.none, AV.none, AV.none, AV.none, AV.none, AV.none, AV.none, AV.none, AV.none, AV.none, AV.none, AV.none, AV.none, AV.none, AV.none, AV.none, AV.none, AV.none, AV.none, AV.none, AV.none, AV.none, AV.none, AV.none, AV.none, AV.none, AV.none, AV.none, AV.none, AV.none, AV.none, AV.none, AV.none, AV.none, AV.none, AV.none, AV.none, AV.none, AV.none, AV.none, AV.none, AV.none, AV.none, AV.none, AV.none, AV.none, AV.none, AV.none, AV.none, AV.none, AV.none, AV.none, AV.none, AV.none, AV.none, AV.none, AV.none, AV.none, AV.none, AV.none, AV.none, AV.none, AV.none, AV.none, AV.none, AV.none, AV.none, AV.none, AV.none, AV.none, AV.none, AV.none, AV.none, AV.none, AV.none, AV.none, AV.none, AV.none, AV.none, AV.none, AV.none], [none, none, none, none, some (OB.arr .u64 4 v2), some (OB.arr .u64 4 v3), some (OB.arr .u64 16 v4), some (OB.arr .u64 16 v5), none, some (OB.arr .u64 33 v6), none, none, none, none, none, none, none, none, none, none, none, none, none, none, none, none, none, none, none, none, none, none, none, none, none, none, none, none, none, none, none, none, none, none, none, none, none, none, none, none, none, none, none, none, none, none, none, none, none, none, none, none, none, none, none, none, none, none, none, none, none, none, none, none, none, none, none, none, none, none, none, none, none, none, none, none, none, none, none, none, none, none, none, none, none, none, none, none, none, none, none, none, none, none, none, none, none, none, none]⟩
noncomputable def raw12_2 (N : Nat) (m1 : Nat) (n : Nat) (v0 : Int) (v1 : Int) (v2 : Vec 4) (v3 : Vec 4) (v4 : Vec 16) (v5 : Vec 16) (v6 : Vec 33) : Option (Vec 4 × Vec 4) := loopN (lookN live12 11) (exec T12 (G12 N) N live12 (cL (cL (cR (cL (cL (cR (cL (cL (cR (cL (cR (cR (cR (cR c12))))))))))))))) n (st12_2 v0 v1 v2 v3 v4 v5 v6) (blockK 4 (blockK 3 (seqK (exec T12 (G12 N) N live12 (cR (cR (cL (cL (cR (cL (cR (cR (cR (cR c12))))))))))) (roundK (fun s => loopN (lookN live12 8) (exec T12 (G12 N) N live12 (cL (cL (cR (cL (cR (cR (cR (cR c12))))))))) m1 s (blockK 2 (seqK (exec T12 (G12 N) N live12 (cR (cR (cR (cR (cR c12)))))) (retK T12 Try.f12.results.toList (rd12).dec)))) (lookN live12 8) (blockK 2 (seqK (exec T12 (G12 N) N live12 (cR (cR (cR (cR (cR c12)))))) (retK T12 Try.f12.results.toList (rd12).dec)))))))
noncomputable def st12_3 (v0 : Int) (v1 : Int) (v2 : Vec 4) (v3 : Vec 4) (v4 : Vec 33) (v5 : Vec 8) : St := ⟨[AV.none, AV.none, AV.none, AV.none, AV.ptr 4 0, AV.ptr 5 0, AV.none, AV.none, AV.none, AV.ptr 9 0, AV.none, AV.none, AV.ptr 12 0, AV.v (.int .u64 v0), AV.v (.int .i64 v1), AV.none, AV.none, AV.none, AV.none, AV.none, AV.none, AV.none, AV.none, AV.none, AV.none, AV.none, AV.none, AV.none, AV.none, AV.none, AV.none, AV.none, AV.none, AV.none, AV.none, AV.none, AV.none, AV.none, AV.none, AV.none, AV.none, AV.none, AV.none, AV.none, AV.none, AV.none, AV.none, AV.none, AV.none, AV.none, AV.none, AV.none, AV.none, AV.none, AV.none, AV.none, AV.none, AV.none, AV.none, AV.none, AV.none, AV.none, AV.none, AV.none, AV.none, AV.none, AV.none, AV.none, AV.none, AV.none, AV.none, AV.none, AV.none, AV.none, AV.none, AV.none, AV.none, AV.none, AV.none, AV.none, AV.none, AV.none, AV.none, AV.none, AV.none, AV.none, AV.none, AV.none, AV.none, AV.none, AV.none, AV.none, AV.none, AV.none, AV.none, AV.none, AV.none, AV.none, AV.none, AV.none, AV.none, AV.none, AV.none, AV.none, AV.none, AV.none, AV.none, AV.none, AV.none], [none, none, none, none, some (OB.arr .u64 4 v2), some (OB.arr .u64 4 v3), none, none, none, some (OB.arr .u64 33 v4), none, none, some (OB.arr .u64 8 v5), none, none, none, none, none, none, none, none, none, none, none, none, none, none, none, none, none, none, none, none, none, none, none, none, none, none, none, none, none, none, none, none, none, none, none, none, none, none, none, none, none, none, none, none, none, none, none, none, none, none, none, none, none, none, none, none, none, none, none, none, none, none, none, none, none, none, none, none, none, none, none, none, none, none, none, none, none, none, none, none, none, none, none, none, none, none, none, none, none, none, none, none, none, none, none, none]⟩
noncomputable def raw12_3 (N : Nat) (n : Nat) (v0 : Int) (v1 : Int) (v2 : Vec 4) (v3 : Vec 4) (v4 : Vec 33) (v5 : Vec 8) : Option (Vec 4 × Vec 4) := loopN (lookN live12 17) (exec T12 (G12 N) N live12 (cL (cL (cR (cL (cR (cR (cR (cR (cR (cR (cR c12)))))))))))) n (st12_3 v0 v1 v2 v3 v4 v5) (blockK 6 (seqK (exec T12 (G12 N) N live12 (cR (cR (cR (cR (cR (cR (cR (cR c12))))))))) (retK T12 Try.f12.results.toList (rd12).dec)))
noncomputable def s12_2 (N : Nat) (Ln2 : Int → Int → Vec 4 → Vec 4 → Vec 16 → Vec 16 → Vec 33 → Option (Vec 4 × Vec 4)) (Ln1 : Int → Vec 4 → Vec 4 → Vec 16 → Vec 16 → Vec 33 → Option (Vec 4 × Vec 4)) (v0 : Int) (v1 : Int) (v2 : Vec 4) (v3 : Vec 4) (v4 : Vec 16) (v5 : Vec 16) (v6 : Vec 33) : Option (Vec 4 × Vec 4) :=
  cond (ltI v1 16)
   (cond (leI 0 (addI .i64 v0 v1))
    (cond (ltI (addI .i64 v0 v1) 33)
     (cond (leI 0 v0)
      (cond (ltI v0 16)
       (cond (leI 0 v1)
        (cond (ltI v1 16)
         (cond (leI 0 (addI .i64 v0 v1))
          (cond (ltI (addI .i64 v0 v1) 33)
           (Ln2 v0 (addI .i64 v1 1) v2 v3 v4 v5 (Vec.st v6 (addI .i64 v0 v1) (addI .u64 (Vec.rd v6 (addI .i64 v0 v1)) (mulI .u64 (Vec.rd v4 v0) (Vec.rd v5 v1)))))
           (none))
          (none))
         (none))
        (none))
       (none))
      (none))
     (none))
    (none))
   (Ln1 (addI .i64 v0 1) v2 v3 v4 v5 v6)
theorem step12_2 (N : Nat) (m1 : Nat) (n : Nat) (v0 : Int) (v1 : Int) (v2 : Vec 4) (v3 : Vec 4) (v4 : Vec 16) (v5 : Vec 16) (v6 : Vec 33) : raw12_2 N m1 (n + 1) v0 v1 v2 v3 v4 v5 v6 = s12_2 N (raw12_2 N m1 n) (raw12_1 N  m1) v0 v1 v2 v3 v4 v5 v6 := by kernel_rfl
noncomputable def l12_2 (N : Nat) (E1 : Int → Vec 4 → Vec 4 → Vec 16 → Vec 16 → Vec 33 → Option (Vec 4 × Vec 4)) : Nat → Int → Int → Vec 4 → Vec 4 → Vec 16 → Vec 16 → Vec 33 → Option (Vec 4 × Vec 4)
  | 0 => fun _ _ _ _ _ _ _ => none
  | n + 1 => fun v0 v1 v2 v3 v4 v5 v6 => s12_2 N (l12_2 N E1 n) E1 v0 v1 v2 v3 v4 v5 v6
theorem eq12_2 (N : Nat) (m1 : Nat) : ∀ n, raw12_2 N m1 n = l12_2 N (raw12_1 N  m1) n := by
  intro n
  induction n with
  | zero => exact funext fun v0 => funext fun v1 => funext fun v2 => funext fun v3 => funext fun v4 => funext fun v5 => funext fun v6 => rfl
  | succ n ih => exact funext fun v0 => funext fun v1 => funext fun v2 => funext fun v3 => funext fun v4 => funext fun v5 => funext fun v6 => by rw [step12_2, ih]; rfl
noncomputable def s12_3 (N : Nat) (Ln3 : Int → Int → Vec 4 → Vec 4 → Vec 33 → Vec 8 → Option (Vec 4 × Vec 4)) (v0 : Int) (v1 : Int) (v2 : Vec 4) (v3 : Vec 4) (v4 : Vec 33) (v5 : Vec 8) : Option (Vec 4 × Vec 4) :=
  cond (ltI v1 32)
   (cond (leI 0 v1)
    (cond (ltI v1 33)
     (cond (leI 0 (quoI .i64 v1 4))
      (cond (ltI (quoI .i64 v1 4) 8)
       (cond (ltI (mulI .i64 16 (remI .i64 v1 4)) 0)
        (none)
        (cond (leI 0 (quoI .i64 v1 4))
         (cond (ltI (quoI .i64 v1 4) 8)
          (Ln3 (quoI .u64 (addI .u64 v0 (Vec.rd v4 v1)) 65536) (addI .i64 v1 1) v2 v3 v4 (Vec.st v5 (quoI .i64 v1 4) (addI .u64 (Vec.rd v5 (quoI .i64 v1 4)) (shlI .u64 (remI .u64 (addI .u64 v0 (Vec.rd v4 v1)) 65536) (mulI .i64 16 (remI .i64 v1 4))))))
          (none))
         (none)))
       (none))
      (none))
     (none))
    (none))
   (some (Vec.st (Vec.st (Vec.st (Vec.st (Vec.zero 4) 0 (Vec.rd v5 0)) 1 (Vec.rd v5 1)) 2 (Vec.rd v5 2)) 3 (Vec.rd v5 3), Vec.st (Vec.st (Vec.st (Vec.st (Vec.zero 4) 0 (Vec.rd v5 4)) 1 (Vec.rd v5 5)) 2 (Vec.rd v5 6)) 3 (Vec.rd v5 7)))
theorem step12_3 (N : Nat) (n : Nat) (v0 : Int) (v1 : Int) (v2 : Vec 4) (v3 : Vec 4) (v4 : Vec 33) (v5 : Vec 8) : raw12_3 N  (n + 1) v0 v1 v2 v3 v4 v5 = s12_3 N (raw12_3 N  n) v0 v1 v2 v3 v4 v5 := by kernel_rfl
noncomputable def l12_3 (N : Nat) : Nat → Int → Int → Vec 4 → Vec 4 → Vec 33 → Vec 8 → Option (Vec 4 × Vec 4)
  | 0 => fun _ _ _ _ _ _ => none
  | n + 1 => fun v0 v1 v2 v3 v4 v5 => s12_3 N (l12_3 N  n) v0 v1 v2 v3 v4 v5
theorem eq12_3 (N : Nat) : ∀ n, raw12_3 N  n = l12_3 N  n := by
  intro n
  induction n with
  | zero => exact funext fun v0 => funext fun v1 => funext fun v2 => funext fun v3 => funext fun v4 => funext fun v5 => rfl
  | succ n ih => exact funext fun v0 => funext fun v1 => funext fun v2 => funext fun v3 => funext fun v4 => funext fun v5 => by rw [step12_3, ih]; rfl
noncomputable def s12_1 (N : Nat) (Le2 : Int → Int → Vec 4 → Vec 4 → Vec 16 → Vec 16 → Vec 33 → Option (Vec 4 × Vec 4)) (Le3 : Int → Int → Vec 4 → Vec 4 → Vec 33 → Vec 8 → Option (Vec 4 × Vec 4)) (v0 : Int) (v1 : Vec 4) (v2 : Vec 4) (v3 : Vec 16) (v4 : Vec 16) (v5 : Vec 33) : Option (Vec 4 × Vec 4) :=
  cond (ltI v0 16)
   (Le2 v0 0 v1 v2 v3 v4 v5)
   (Le3 0 0 v1 v2 v5 (Vec.zero 8))
theorem step12_1 (N : Nat) (n : Nat) (v0 : Int) (v1 : Vec 4) (v2 : Vec 4) (v3 : Vec 16) (v4 : Vec 16) (v5 : Vec 33) : raw12_1 N  (n + 1) v0 v1 v2 v3 v4 v5 = s12_1 N (raw12_2 N n N) (raw12_3 N  N) v0 v1 v2 v3 v4 v5 := by kernel_rfl
noncomputable def l12_1 (N : Nat) : Nat → Int → Vec 4 → Vec 4 → Vec 16 → Vec 16 → Vec 33 → Option (Vec 4 × Vec 4)
  | 0 => fun _ _ _ _ _ _ => none
  | n + 1 => fun v0 v1 v2 v3 v4 v5 => s12_1 N (l12_2 N (l12_1 N  n) N) (l12_3 N  N) v0 v1 v2 v3 v4 v5
theorem eq12_1 (N : Nat) : ∀ n, raw12_1 N  n = l12_1 N  n := by
  intro n
  induction n with
  | zero => exact funext fun v0 => funext fun v1 => funext fun v2 => funext fun v3 => funext fun v4 => funext fun v5 => rfl
  | succ n ih => exact funext fun v0 => funext fun v1 => funext fun v2 => funext fun v3 => funext fun v4 => funext fun v5 => by rw [step12_1, eq12_2 N n N, eq12_3 N  N, ih]; rfl
noncomputable def s12_0 (N : Nat) (Ln0 : Int → Vec 4 → Vec 4 → Vec 4 → Vec 4 → Vec 16 → Vec 16 → Option (Vec 4 × Vec 4)) (Le1 : Int → Vec 4 → Vec 4 → Vec 16 → Vec 16 → Vec 33 → Option (Vec 4 × Vec 4)) (v0 : Int) (v1 : Vec 4) (v2 : Vec 4) (v3 : Vec 4) (v4 : Vec 4) (v5 : Vec 16) (v6 : Vec 16) : Option (Vec 4 × Vec 4) :=
  cond (ltI v0 16)
   (cond (leI 0 (quoI .i64 v0 4))
    (cond (ltI (quoI .i64 v0 4) 4)
     (cond (ltI (mulI .i64 16 (remI .i64 v0 4)) 0)
      (none)
      (cond (leI 0 (quoI .i64 v0 4))
       (cond (ltI (quoI .i64 v0 4) 4)
        (cond (ltI (mulI .i64 16 (remI .i64 v0 4)) 0)
         (none)
         (cond (leI 0 v0)
          (cond (ltI v0 16)
           (cond (leI 0 v0)
            (cond (ltI v0 16)
             (Ln0 (addI .i64 v0 1) v1 v2 v3 v4 (Vec.st v5 v0 (remI .u64 (shrI .u64 (Vec.rd v1 (quoI .i64 v0 4)) (mulI .i64 16 (remI .i64 v0 4))) 65536)) (Vec.st v6 v0 (remI .u64 (shrI .u64 (Vec.rd v2 (quoI .i64 v0 4)) (mulI .i64 16 (remI .i64 v0 4))) 65536)))
             (none))
            (none))
           (none))
          (none)))
        (none))
       (none)))
     (none))
    (none))
   (Le1 0 v3 v4 v5 v6 (Vec.zero 33))
theorem step12_0 (N : Nat) (n : Nat) (v0 : Int) (v1 : Vec 4) (v2 : Vec 4) (v3 : Vec 4) (v4 : Vec 4) (v5 : Vec 16) (v6 : Vec 16) : raw12_0 N  (n + 1) v0 v1 v2 v3 v4 v5 v6 = s12_0 N (raw12_0 N  n) (raw12_1 N  N) v0 v1 v2 v3 v4 v5 v6 := by kernel_rfl
noncomputable def l12_0 (N : Nat) : Nat → Int → Vec 4 → Vec 4 → Vec 4 → Vec 4 → Vec 16 → Vec 16 → Option (Vec 4 × Vec 4)
  | 0 => fun _ _ _ _ _ _ _ => none
  | n + 1 => fun v0 v1 v2 v3 v4 v5 v6 => s12_0 N (l12_0 N  n) (l12_1 N  N) v0 v1 v2 v3 v4 v5 v6
theorem eq12_0 (N : Nat) : ∀ n, raw12_0 N  n = l12_0 N  n := by
  intro n
  induction n with
  | zero => exact funext fun v0 => funext fun v1 => funext fun v2 => funext fun v3 => funext fun v4 => funext fun v5 => funext fun v6 => rfl
  | succ n ih => exact funext fun v0 => funext fun v1 => funext fun v2 => funext fun v3 => funext fun v4 => funext fun v5 => funext fun v6 => by rw [step12_0, eq12_1 N  N, ih]; rfl
noncomputable def t12 (N : Nat) (Le0 : Int → Vec 4 → Vec 4 → Vec 4 → Vec 4 → Vec 16 → Vec 16 → Option (Vec 4 × Vec 4)) (x0 : Vec 4) (x1 : Vec 4) : Option (Vec 4 × Vec 4) :=
  Le0 0 x0 x1 (Vec.zero 4) (Vec.zero 4) (Vec.zero 16) (Vec.zero 16)
noncomputable def fn_tillerref01_Mul (N : Nat) (x0 : Vec 4) (x1 : Vec 4) : Option (Vec 4 × Vec 4) := t12 N (l12_0 N N) x0 x1
theorem run12 (N : Nat) (x0 : Vec 4) (x1 : Vec 4) : Eng.run T12 (G12 N) N live12 c12 Try.f12.results.toList Try.f12.ntmps ((ad12).enc (x0, x1, ())) (rd12).dec = fn_tillerref01_Mul N x0 x1 := by
  refine Eq.trans (show _ = t12 N (raw12_0 N N) x0 x1 from by kernel_rfl) ?_
  unfold fn_tillerref01_Mul
  rw [eq12_0 N N]
noncomputable def F12 (N : Nat) (a : Vec 4 × Vec 4 × Unit) : Option (Vec 4 × Vec 4) := fn_tillerref01_Mul N a.1 a.2.1
theorem ok12 (N : Nat) : FnOK Try.prog 12 ad12 rd12 (F12 N) :=
  fn_ok (N := N) (live := live12) (code := c12) (tok T12.rt) mixed (gok12 N) Try.func12 (by kernel_rfl) (by kernel_rfl) (by kernel_rfl) fun a p h => by rw [← h]; exact run12 N a.1 a.2.1

/-! ### tiller/tillerref01.bitsOf: function 30 -/
noncomputable def c30 : Code := (Try.f30.body).getD .skip
noncomputable def T30 : Tb := ⟨tyOf tys, [(12, 1), (25, 3)]⟩
noncomputable def G30 {R : Type} (N : Nat) : FuncId → List AV → (AV → Option R) → Option R := gNil
theorem gok30 {R : Type} (N : Nat) : GOK Try.prog (G30 (R := R) N) := gNil_ok
noncomputable def live30 : List (Nat × List Nat) := [(3, [1, 2, 3, 4]), (7, [1, 2, 3, 4, 5, 6])]
noncomputable def ad30 : Ad (Vec 4 × Unit) := aC (cVec .u64 4) (a0)
noncomputable def rd30 : Rd (Vec 256) := r1 (cVec .i64 256)
noncomputable def st30_0 (v0 : Int) (v1 : Vec 4) (v2 : Vec 256) (v3 : Vec 256) : St := ⟨[AV.none, AV.ptr 1 0, AV.ptr 2 0, AV.ptr 3 0, AV.v (.int .i64 v0), AV.none, AV.none, AV.none, AV.none, AV.none, AV.none, AV.none, AV.none, AV.none, AV.none, AV.none, AV.none, AV.none, AV.none, AV.none, AV.none, AV.none, AV.none, AV.none, AV.none, AV.none, AV.none, AV.none, AV.none], [none, some (OB.arr .u64 4 v1), some (OB.arr .i64 256 v2), some (OB.arr .i64 256 v3), none, none, none, none, none, none, none, none, none, none, none, none, none, none, none, none, none, none, none, none, none, none, none, none, none]⟩
noncomputable def raw30_0 (N : Nat) (n : Nat) (v0 : Int) (v1 : Vec 4) (v2 : Vec 256) (v3 : Vec 256) : Option (Vec 256) := loopN (lookN live30 3) (exec T30 (G30 N) N live30 (cL (cL (cR (cL (cR (cR c30))))))) n (st30_0 v0 v1 v2 v3) (blockK 0 (seqK (exec T30 (G30 N) N live30 (cR (cR (cR c30)))) (retK T30 Try.f30.results.toList (rd30).dec)))
noncomputable def st30_1 (v0 : Int) (v1 : Int) (v2 : Int) (v3 : Vec 4) (v4 : Vec 256) (v5 : Vec 256) : St := ⟨[AV.none, AV.ptr 1 0, AV.ptr 2 0, AV.ptr 3 0, AV.v (.int .i64 v0), AV.v (.int .u64 v1), AV.v (.int .i64 v2), AV.none, AV.none, AV.none, AV.none, AV.none, AV.none, AV.none, AV.none, AV.none, AV.none, AV.none, AV.none, AV.none, AV.none, AV.none, AV.none, AV.none, AV.none, AV.none, AV.none, AV.none, AV.none], [none, some (OB.arr .u64 4 v3), some (OB.arr .i64 256 v4), some (OB.arr .i64 256 v5), none, none, none, none, none, none, none, none, none, none, none, none, none, none, none, none, none, none, none, none, none, none, none, none, none]⟩
noncomputable def raw30_1 (N : Nat) (m0 : Nat) (n : Nat) (v0 : Int) (v1 : Int) (v2 : Int) (v3 : Vec 4) (v4 : Vec 256) (v5 : Vec 256) : Option (Vec 256) := loopN (lookN live30 7) (exec T30 (G30 N) N live30 (cL (cL (cR (cR (cL (cL (cR (cL (cL (cR (cL (cR (cR c30)))))))))))))) n (st30_1 v0 v1 v2 v3 v4 v5) (blockK 2 (blockK 1 (seqK (exec T30 (G30 N) N live30 (cR (cR (cL (cL (cR (cL (cR (cR c30))))))))) (roundK (fun s => loopN (lookN live30 3) (exec T30 (G30 N) N live30 (cL (cL (cR (cL (cR (cR c30))))))) m0 s (blockK 0 (seqK (exec T30 (G30 N) N live30 (cR (cR (cR c30)))) (retK T30 Try.f30.results.toList (rd30).dec)))) (lookN live30 3) (blockK 0 (seqK (exec T30 (G30 N) N live30 (cR (cR (cR c30)))) (retK T30 Try.f30.results.toList (rd30).dec)))))))
noncomputable def s30_1 (N : Nat) (Ln1 : Int → Int → Int → Vec 4 → Vec 256 → Vec 256 → Option (Vec 256)) (Ln0 : Int → Vec 4 → Vec 256 → Vec 256 → Option (Vec 256)) (v0 : Int) (v1 : Int) (v2 : Int) (v3 : Vec 4) (v4 : Vec 256) (v5 : Vec 256) : Option (Vec 256) :=
  cond (ltI v2 64)
   (cond (leI 0 (addI .i64 (mulI .i64 64 v0) v2))
    (cond (ltI (addI .i64 (mulI .i64 64 v0) v2) 256)
     (Ln1 v0 (quoI .u64 v1 2) (addI .i64 v2 1) v3 v4 (Vec.st v5 (addI .i64 (mulI .i64 64 v0) v2) (cvI .i64 (remI .u64 v1 2))))
     (none))
    (none))
   (Ln0 (addI .i64 v0 1) v3 v4 v5)
theorem step30_1 (N : Nat) (m0 : Nat) (n : Nat) (v0 : Int) (v1 : Int) (v2 : Int) (v3 : Vec 4) (v4 : Vec 256) (v5 : Vec 256) : raw30_1 N m0 (n + 1) v0 v1 v2 v3 v4 v5 = s30_1 N (raw30_1 N m0 n) (raw30_0 N  m0) v0 v1 v2 v3 v4 v5 := by kernel_rfl
noncomputable def l30_1 (N : Nat) (E0 : Int → Vec 4 → Vec 256 → Vec 256 → Option (Vec 256)) : Nat → Int → Int → Int → Vec 4 → Vec 256 → Vec 256 → Option (Vec 256)
  | 0 => fun _ _ _ _ _ _ => none
  | n + 1 => fun v0 v1 v2 v3 v4 v5 => s30_1 N (l30_1 N E0 n) E0 v0 v1 v2 v3 v4 v5
theorem eq30_1 (N : Nat) (m0 : Nat) : ∀ n, raw30_1 N m0 n = l30_1 N (raw30_0 N  m0) n := by
  intro n
  induction n with
  | zero => exact funext fun v0 => funext fun v1 => funext fun v2 => funext fun v3 => funext fun v4 => funext fun v5 => rfl
  | succ n ih => exact funext fun v0 => funext fun v1 => funext fun v2 => funext fun v3 => funext fun v4 => funext fun v5 => by rw [step30_1, ih]; rfl
noncomputable def s30_0 (N : Nat) (Le1 : Int → Int → Int → Vec 4 → Vec 256 → Vec 256 → Option (Vec 256)) (v0 : Int) (v1 : Vec 4) (v2 : Vec 256) (v3 : Vec 256) : Option (Vec 256) :=
  cond (ltI v0 4)
   (cond (leI 0 v0)
    (cond (ltI v0 4)
     (Le1 v0 (Vec.rd v1 v0) 0 v1 v2 v3)
     (none))
    (none))
   (some v3)
theorem step30_0 (N : Nat) (n : Nat) (v0 : Int) (v1 : Vec 4) (v2 : Vec 256) (v3 : Vec 256) : raw30_0 N  (n + 1) v0 v1 v2 v3 = s30_0 N (raw30_1 N n N) v0 v1 v2 v3 := by kernel_rfl
noncomputable def l30_0 (N : Nat) : Nat → Int → Vec 4 → Vec 256 → Vec 256 → Option (Vec 256)
  | 0 => fun _ _ _ _ => none
  | n + 1 => fun v0 v1 v2 v3 => s30_0 N (l30_1 N (l30_0 N  n) N) v0 v1 v2 v3
theorem eq30_0 (N : Nat) : ∀ n, raw30_0 N  n = l30_0 N  n := by
  intro n
  induction n with
  | zero => exact funext fun v0 => funext fun v1 => funext fun v2 => funext fun v3 => rfl
  | succ n ih => exact funext fun v0 => funext fun v1 => funext fun v2 => funext fun v3 => by rw [step30_0, eq30_1 N n N, ih]; rfl
noncomputable def t30 (N : Nat) (Le0 : Int → Vec 4 → Vec 256 → Vec 256 → Option (Vec 256)) (x0 : Vec 4) : Option (Vec 256) :=
  Le0 0 x0 (Vec.zero 256) (Vec.zero 256)
noncomputable def fn_tillerref01_bitsOf (N : Nat) (x0 : Vec 4) : Option (Vec 256) := t30 N (l30_0 N N) x0
theorem run30 (N : Nat) (x0 : Vec 4) : Eng.run T30 (G30 N) N live30 c30 Try.f30.results.toList Try.f30.ntmps ((ad30).enc (x0, ())) (rd30).dec = fn_tillerref01_bitsOf N x0 := by
  refine Eq.trans (show _ = t30 N (raw30_0 N N) x0 from by kernel_rfl) ?_
  unfold fn_tillerref01_bitsOf
  rw [eq30_0 N N]
noncomputable def F30 (N : Nat) (a : Vec 4 × Unit) : Option (Vec 256) := fn_tillerref01_bitsOf N a.1
theorem ok30 (N : Nat) : FnOK Try.prog 30 ad30 rd30 (F30 N) :=
  fn_ok (N := N) (live := live30) (code := c30) (tok T30.rt) mixed (gok30 N) Try.func30 (by kernel_rfl) (by kernel_rfl) (by kernel_rfl) fun a p h => by rw [← h]; exact run30 N a.1

/-! ### tiller/tillerref01.of: function 31 -/
noncomputable def c31 : Code := (Try.f31.body).getD .skip
noncomputable def T31 : Tb := ⟨tyOf tys, [(28, 3)]⟩
noncomputable def G31 {R : Type} (N : Nat) : FuncId → List AV → (AV → Option R) → Option R := gNil
theorem gok31 {R : Type} (N : Nat) : GOK Try.prog (G31 (R := R) N) := gNil_ok
noncomputable def live31 : List (Nat × List Nat) := [(3, [0, 2, 3, 4]), (7, [0, 2, 3, 4, 5, 6])]
noncomputable def ad31 : Ad (List Int × Unit) := aC (cLi .i64) (a0)
noncomputable def rd31 : Rd (Vec 4) := r1 (cVec .u64 4)
noncomputable def st31_0 (v0 : List Int) (v1 : Int) (v2 : Vec 4) (v3 : Vec 4) : St := ⟨[AV.li .i64 v0, AV.none, AV.ptr 2 0, AV.ptr 3 0, AV.v (.int .i64 v1), AV.none, AV.none, AV.none, AV.none, AV.none, AV.none, AV.none, AV.none, AV.none, AV.none, AV.none, AV.none, AV.none, AV.none, AV.none, AV.none, AV.none, AV.none, AV.none, AV.none, AV.none, AV.none, AV.none, AV.none, AV.none], [none, none, some (OB.arr .u64 4 v2), some (OB.arr .u64 4 v3), none, none, none, none, none, none, none, none, none, none, none, none, none, none, none, none, none, none, none, none, none, none, none, none, none, none]⟩
noncomputable def raw31_0 (N : Nat) (n : Nat) (v0 : List Int) (v1 : Int) (v2 : Vec 4) (v3 : Vec 4) : Option (Vec 4) := loopN (lookN live31 3) (exec T31 (G31 N) N live31 (cL (cL (cR (cL (cR (cR c31))))))) n (st31_0 v0 v1 v2 v3) (blockK 0 (seqK (exec T31 (G31 N) N live31 (cR (cR (cR c31)))) (retK T31 Try.f31.results.toList (rd31).dec)))
noncomputable def st31_1 (v0 : List Int) (v1 : Int) (v2 : Int) (v3 : Int) (v4 : Vec 4) (v5 : Vec 4) : St := ⟨[AV.li .i64 v0, AV.none, AV.ptr 2 0, AV.ptr 3 0, AV.v (.int .i64 v1), AV.v (.int .u64 v2), AV.v (.int .i64 v3), AV.none, AV.none, AV.none, AV.none, AV.none, AV.none, AV.none, AV.none, AV.none, AV.none, AV.none, AV.none, AV.none, AV.none, AV.none, AV.none, AV.none, AV.none, AV.none, AV.none, AV.none, AV.none, AV.none], [none, none, some (OB.arr .u64 4 v4), some (OB.arr .u64 4 v5), none, none, none, none, none, none, none, none, none, none, none, none, none, none, none, none, none, none, none, none, none, none, none, none, none, none]⟩
noncomputable def raw31_1 (N : Nat) (m0 : Nat) (n : Nat) (v0 : List Int) (v1 : Int) (v2 : Int) (v3 : Int) (v4 : Vec 4) (v5 : Vec 4) : Option (Vec 4) := loopN (lookN live31 7) (exec T31 (G31 N) N live31 (cL (cL (cR (cL (cR (cL (cL (cR (cL (cL (cR (cL (cR (cR c31))))))))))))))) n (st31_1 v0 v1 v2 v3 v4 v5) (blockK 2 (seqK (exec T31 (G31 N) N live31 (cR (cR (cL (cL (cR (cL (cL (cR (cL (cR (cR c31)))))))))))) (blockK 1 (seqK (exec T31 (G31 N) N live31 (cR (cR (cL (cL (cR (cL (cR (cR c31))))))))) (roundK (fun s => loopN (lookN live31 3) (exec T31 (G31 N) N live31 (cL (cL (cR (cL (cR (cR c31))))))) m0 s (blockK 0 (seqK (exec T31 (G31 N) N live31 (cR (cR (cR c31)))) (retK T31 Try.f31.results.toList (rd31).dec)))) (lookN live31 3) (blockK 0 (seqK (exec T31 (G31 N) N live31 (cR (cR (cR c31)))) (retK T31 Try.f31.results.toList (rd31).dec))))))))
noncomputable def s31_1 (N : Nat) (Ln1 : List Int → Int → Int → Int → Vec 4 → Vec 4 → Option (Vec 4)) (Ln0 : List Int → Int → Vec 4 → Vec 4 → Option (Vec 4)) (v0 : List Int) (v1 : Int) (v2 : Int) (v3 : Int) (v4 : Vec 4) (v5 : Vec 4) : Option (Vec 4) :=
  cond (leI 0 v3)
   (cond (leI 0 (addI .i64 (mulI .i64 64 v1) v3))
    (cond (ltI (addI .i64 (mulI .i64 64 v1) v3) (v0.length : Int))
     (Ln1 v0 v1 (addI .u64 (mulI .u64 2 v2) (cvI .u64 (lrd v0 (addI .i64 (mulI .i64 64 v1) v3)))) (subI .i64 v3 1) v4 v5)
     (none))
    (none))
   (cond (leI 0 v1)
    (cond (ltI v1 4)
     (Ln0 v0 (addI .i64 v1 1) v4 (Vec.st v5 v1 v2))
     (none))
    (none))
theorem step31_1 (N : Nat) (m0 : Nat) (n : Nat) (v0 : List Int) (v1 : Int) (v2 : Int) (v3 : Int) (v4 : Vec 4) (v5 : Vec 4) : raw31_1 N m0 (n + 1) v0 v1 v2 v3 v4 v5 = s31_1 N (raw31_1 N m0 n) (raw31_0 N  m0) v0 v1 v2 v3 v4 v5 := by kernel_rfl
noncomputable def l31_1 (N : Nat) (E0 : List Int → Int → Vec 4 → Vec 4 → Option (Vec 4)) : Nat → List Int → Int → Int → Int → Vec 4 → Vec 4 → Option (Vec 4)
  | 0 => fun _ _ _ _ _ _ => none
  | n + 1 => fun v0 v1 v2 v3 v4 v5 => s31_1 N (l31_1 N E0 n) E0 v0 v1 v2 v3 v4 v5
theorem eq31_1 (N : Nat) (m0 : Nat) : ∀ n, raw31_1 N m0 n = l31_1 N (raw31_0 N  m0) n := by
  intro n
  induction n with
  | zero => exact funext fun v0 => funext fun v1 => funext fun v2 => funext fun v3 => funext fun v4 => funext fun v5 => rfl
  | succ n ih => exact funext fun v0 => funext fun v1 => funext fun v2 => funext fun v3 => funext fun v4 => funext fun v5 => by rw [step31_1, ih]; rfl
noncomputable def s31_0 (N : Nat) (Le1 : List Int → Int → Int → Int → Vec 4 → Vec 4 → Option (Vec 4)) (v0 : List Int) (v1 : Int) (v2 : Vec 4) (v3 : Vec 4) : Option (Vec 4) :=
  cond (ltI v1 4)
   (Le1 v0 v1 0 63 v2 v3)
   (some v3)
theorem step31_0 (N : Nat) (n : Nat) (v0 : List Int) (v1 : Int) (v2 : Vec 4) (v3 : Vec 4) : raw31_0 N  (n + 1) v0 v1 v2 v3 = s31_0 N (raw31_1 N n N) v0 v1 v2 v3 := by kernel_rfl
noncomputable def l31_0 (N : Nat) : Nat → List Int → Int → Vec 4 → Vec 4 → Option (Vec 4)
  | 0 => fun _ _ _ _ => none
  | n + 1 => fun v0 v1 v2 v3 => s31_0 N (l31_1 N (l31_0 N  n) N) v0 v1 v2 v3
theorem eq31_0 (N : Nat) : ∀ n, raw31_0 N  n = l31_0 N  n := by
  intro n
  induction n with
  | zero => exact funext fun v0 => funext fun v1 => funext fun v2 => funext fun v3 => rfl
  | succ n ih => exact funext fun v0 => funext fun v1 => funext fun v2 => funext fun v3 => by rw [step31_0, eq31_1 N n N, ih]; rfl
noncomputable def t31 (N : Nat) (Le0 : List Int → Int → Vec 4 → Vec 4 → Option (Vec 4)) (x0 : List Int) : Option (Vec 4) :=
  Le0 x0 0 (Vec.zero 4) (Vec.zero 4)
noncomputable def fn_tillerref01_of (N : Nat) (x0 : List Int) : Option (Vec 4) := t31 N (l31_0 N N) x0
theorem run31 (N : Nat) (x0 : List Int) : Eng.run T31 (G31 N) N live31 c31 Try.f31.results.toList Try.f31.ntmps ((ad31).enc (x0, ())) (rd31).dec = fn_tillerref01_of N x0 := by
  refine Eq.trans (show _ = t31 N (raw31_0 N N) x0 from by kernel_rfl) ?_
  unfold fn_tillerref01_of
  rw [eq31_0 N N]
noncomputable def F31 (N : Nat) (a : List Int × Unit) : Option (Vec 4) := fn_tillerref01_of N a.1
theorem ok31 (N : Nat) : FnOK Try.prog 31 ad31 rd31 (F31 N) :=
  fn_ok (N := N) (live := live31) (code := c31) (tok T31.rt) mixed (gok31 N) Try.func31 (by kernel_rfl) (by kernel_rfl) (by kernel_rfl) fun a p h => by rw [← h]; exact run31 N a.1

/-! ### tiller/tillerref01.Add: function 13 -/
noncomputable def c13 : Code := (Try.f13.body).getD .skip
noncomputable def T13 : Tb := ⟨tyOf tys, [(20, 6), (23, 7), (33, 6)]⟩
noncomputable def G13 {R : Type} (N : Nat) : FuncId → List AV → (AV → Option R) → Option R := gCons 30 (gOf ad30 rd30 (F30 N)) (gCons 31 (gOf ad31 rd31 (F31 N)) (gNil))
theorem gok13 {R : Type} (N : Nat) : GOK Try.prog (G13 (R := R) N) := gCons_ok (ok30 N) (gCons_ok (ok31 N) (gNil_ok))
noncomputable def live13 : List (Nat × List Nat) := [(4, [4, 6, 7, 8, 9])]
noncomputable def ad13 : Ad (Vec 4 × Vec 4 × Unit) := aC (cVec .u64 4) (aC (cVec .u64 4) (a0))
noncomputable def rd13 : Rd (Vec 4 × Bool) := r2 (cVec .u64 4) (cBool)
noncomputable def st13_0 (v0 : Int) (v1 : Int) (v2 : Vec 4) (v3 : Vec 256) (v4 : Vec 256) : St := ⟨[AV.none, AV.none, AV.none, AV.none, AV.ptr 4 0, AV.none, AV.ptr 6 0, AV.ptr 7 0, AV.v (.int .i64 v0), AV.v (.int .i64 v1), AV.none, AV.none, AV.none, AV.none, AV.none, AV.none, AV.none, AV.none, AV.none, AV.none, AV.none, AV.none, AV.none, AV.none, AV.none, AV.none, AV.none, AV.none, AV.none, AV.none, AV.none, AV.none, AV.none, AV.none, AV.none, AV.none, AV.none, AV.none], [none, none, none, none, some (OB.arr .u64 4 v2), none, some (OB.arr .i64 256 v3), some (OB.arr .i64 256 v4), none, none, none, none, none, none, none, none, none, none, none, none, none, none, none, none, none, none, none, none, none, none, none, none, none, none, none, none, none, none]⟩
noncomputable def raw13_0 (N : Nat) (n : Nat) (v0 : Int) (v1 : Int) (v2 : Vec 4) (v3 : Vec 256) (v4 : Vec 256) : Option (Vec 4 × Bool) := loopN (lookN live13 4) (exec T13 (G13 N) N live13 (cL (cL (cR (cL (cR (cR (cR c13)))))))) n (st13_0 v0 v1 v2 v3 v4) (blockK 0 (seqK (exec T13 (G13 N) N live13 (cR (cR (cR (cR c13))))) (retK T13 Try.f13.results.toList (rd13).dec)))
noncomputable def s13_0 (N : Nat) (Ln0 : Int → Int → Vec 4 → Vec 256 → Vec 256 → Option (Vec 4 × Bool)) (v0 : Int) (v1 : Int) (v2 : Vec 4) (v3 : Vec 256) (v4 : Vec 256) : Option (Vec 4 × Bool) :=
  cond (ltI v1 256)
   (cond (leI 0 v1)
    (cond (ltI v1 256)
     (cond (leI 0 v1)
      (cond (ltI v1 256)
       (cond (leI 0 v1)
        (cond (ltI v1 256)
         (Ln0 (quoI .i64 (addI .i64 (addI .i64 (Vec.rd v3 v1) (Vec.rd v4 v1)) v0) 2) (addI .i64 v1 1) v2 (Vec.st v3 v1 (remI .i64 (addI .i64 (addI .i64 (Vec.rd v3 v1) (Vec.rd v4 v1)) v0) 2)) v4)
         (none))
        (none))
       (none))
      (none))
     (none))
    (none))
   ((fn_tillerref01_of N (Vec.cut v3 0 256)).bind fun r3 =>
    some (r3, eqI v0 1))
theorem step13_0 (N : Nat) (n : Nat) (v0 : Int) (v1 : Int) (v2 : Vec 4) (v3 : Vec 256) (v4 : Vec 256) : raw13_0 N  (n + 1) v0 v1 v2 v3 v4 = s13_0 N (raw13_0 N  n) v0 v1 v2 v3 v4 := by kernel_rfl
noncomputable def l13_0 (N : Nat) : Nat → Int → Int → Vec 4 → Vec 256 → Vec 256 → Option (Vec 4 × Bool)
  | 0 => fun _ _ _ _ _ => none
  | n + 1 => fun v0 v1 v2 v3 v4 => s13_0 N (l13_0 N  n) v0 v1 v2 v3 v4
theorem eq13_0 (N : Nat) : ∀ n, raw13_0 N  n = l13_0 N  n := by
  intro n
  induction n with
  | zero => exact funext fun v0 => funext fun v1 => funext fun v2 => funext fun v3 => funext fun v4 => rfl
  | succ n ih => exact funext fun v0 => funext fun v1 => funext fun v2 => funext fun v3 => funext fun v4 => by rw [step13_0, ih]; rfl
noncomputable def t13 (N : Nat) (Le0 : Int → Int → Vec 4 → Vec 256 → Vec 256 → Option (Vec 4 × Bool)) (x0 : Vec 4) (x1 : Vec 4) : Option (Vec 4 × Bool) :=
  (fn_tillerref01_bitsOf N x0).bind fun r1 =>
   (fn_tillerref01_bitsOf N x1).bind fun r2 =>
    Le0 0 0 (Vec.zero 4) r1 r2
noncomputable def fn_tillerref01_Add (N : Nat) (x0 : Vec 4) (x1 : Vec 4) : Option (Vec 4 × Bool) := t13 N (l13_0 N N) x0 x1
theorem run13 (N : Nat) (x0 : Vec 4) (x1 : Vec 4) : Eng.run T13 (G13 N) N live13 c13 Try.f13.results.toList Try.f13.ntmps ((ad13).enc (x0, x1, ())) (rd13).dec = fn_tillerref01_Add N x0 x1 := by
  refine Eq.trans (show _ = t13 N (raw13_0 N N) x0 x1 from by kernel_rfl) ?_
  unfold fn_tillerref01_Add
  rw [eq13_0 N N]
noncomputable def F13 (N : Nat) (a : Vec 4 × Vec 4 × Unit) : Option (Vec 4 × Bool) := fn_tillerref01_Add N a.1 a.2.1
theorem ok13 (N : Nat) : FnOK Try.prog 13 ad13 rd13 (F13 N) :=
  fn_ok (N := N) (live := live13) (code := c13) (tok T13.rt) mixed (gok13 N) Try.func13 (by kernel_rfl) (by kernel_rfl) (by kernel_rfl) fun a p h => by rw [← h]; exact run13 N a.1 a.2.1

/-! ### tiller/tillerref01.Bit: function 19 -/
noncomputable def c19 : Code := (Try.f19.body).getD .skip
noncomputable def T19 : Tb := ⟨tyOf tys, [(15, 2)]⟩
noncomputable def G19 {R : Type} (N : Nat) : FuncId → List AV → (AV → Option R) → Option R := gNil
theorem gok19 {R : Type} (N : Nat) : GOK Try.prog (G19 (R := R) N) := gNil_ok
noncomputable def live19 : List (Nat × List Nat) := [(5, [1, 5, 6])]
noncomputable def ad19 : Ad (Vec 4 × Int × Unit) := aC (cVec .u64 4) (aC (cInt .i64) (a0))
noncomputable def rd19 : Rd (Int) := r1 (cInt .i64)
noncomputable def st19_0 (v0 : Int) (v1 : Int) (v2 : Int) : St := ⟨[AV.none, AV.v (.int .i64 v0), AV.none, AV.none, AV.none, AV.v (.int .u64 v1), AV.v (.int .i64 v2), AV.none, AV.none, AV.none, AV.none, AV.none, AV.none, AV.none, AV.none, AV.none, AV.none, AV.none, AV.none, AV.none, AV.none, AV.none, AV.none, AV.none, AV.none, AV.none, AV.none, AV.none], [none, none, none, none, none, none, none, none, none, none, none, none, none, none, none, none, none, none, none, none, none, none, none, none, none, none, none, none]⟩
noncomputable def raw19_0 (N : Nat) (n : Nat) (v0 : Int) (v1 : Int) (v2 : Int) : Option (Int) := loopN (lookN live19 5) (exec T19 (G19 N) N live19 (cL (cL (cR (cL (cR (cR (cR c19)))))))) n (st19_0 v0 v1 v2) (blockK 0 (seqK (exec T19 (G19 N) N live19 (cR (cR (cR (cR c19))))) (retK T19 Try.f19.results.toList (rd19).dec)))
noncomputable def s19_0 (N : Nat) (Ln0 : Int → Int → Int → Option (Int)) (v0 : Int) (v1 : Int) (v2 : Int) : Option (Int) :=
  cond (ltI v2 (remI .i64 v0 64))
   (Ln0 v0 (quoI .u64 v1 2) (addI .i64 v2 1))
   (some (cvI .i64 (remI .u64 v1 2)))
theorem step19_0 (N : Nat) (n : Nat) (v0 : Int) (v1 : Int) (v2 : Int) : raw19_0 N  (n + 1) v0 v1 v2 = s19_0 N (raw19_0 N  n) v0 v1 v2 := by kernel_rfl
noncomputable def l19_0 (N : Nat) : Nat → Int → Int → Int → Option (Int)
  | 0 => fun _ _ _ => none
  | n + 1 => fun v0 v1 v2 => s19_0 N (l19_0 N  n) v0 v1 v2
theorem eq19_0 (N : Nat) : ∀ n, raw19_0 N  n = l19_0 N  n := by
  intro n
  induction n with
  | zero => exact funext fun v0 => funext fun v1 => funext fun v2 => rfl
  | succ n ih => exact funext fun v0 => funext fun v1 => funext fun v2 => by rw [step19_0, ih]; rfl
noncomputable def t19 (N : Nat) (Le0 : Int → Int → Int → Option (Int)) (x0 : Vec 4) (x1 : Int) : Option (Int) :=
  cond (ltI x1 0)
   (some 0)
   (cond (ltI 255 x1)
    (some 0)
    (cond (leI 0 (quoI .i64 x1 64))
     (cond (ltI (quoI .i64 x1 64) 4)
      (Le0 x1 (Vec.rd x0 (quoI .i64 x1 64)) 0)
      (none))
     (none)))
noncomputable def fn_tillerref01_Bit (N : Nat) (x0 : Vec 4) (x1 : Int) : Option (Int) := t19 N (l19_0 N N) x0 x1
theorem run19 (N : Nat) (x0 : Vec 4) (x1 : Int) : Eng.run T19 (G19 N) N live19 c19 Try.f19.results.toList Try.f19.ntmps ((ad19).enc (x0, x1, ())) (rd19).dec = fn_tillerref01_Bit N x0 x1 := by
  refine Eq.trans (show _ = t19 N (raw19_0 N N) x0 x1 from by kernel_rfl) ?_
  unfold fn_tillerref01_Bit
  rw [eq19_0 N N]
noncomputable def F19 (N : Nat) (a : Vec 4 × Int × Unit) : Option (Int) := fn_tillerref01_Bit N a.1 a.2.1
theorem ok19 (N : Nat) : FnOK Try.prog 19 ad19 rd19 (F19 N) :=
  fn_ok (N := N) (live := live19) (code := c19) (tok T19.rt) mixed (gok19 N) Try.func19 (by kernel_rfl) (by kernel_rfl) (by kernel_rfl) fun a p h => by rw [← h]; exact run19 N a.1 a.2.1

/-! ### tiller/tillerref01.Cmp: function 14 -/
noncomputable def c14 : Code := (Try.f14.body).getD .skip
noncomputable def T14 : Tb := ⟨tyOf tys, []⟩
noncomputable def G14 {R : Type} (N : Nat) : FuncId → List AV → (AV → Option R) → Option R := gCons 19 (gOf ad19 rd19 (F19 N)) (gNil)
theorem gok14 {R : Type} (N : Nat) : GOK Try.prog (G14 (R := R) N) := gCons_ok (ok19 N) (gNil_ok)
noncomputable def live14 : List (Nat × List Nat) := [(2, [2, 3, 5])]
noncomputable def ad14 : Ad (Vec 4 × Vec 4 × Unit) := aC (cVec .u64 4) (aC (cVec .u64 4) (a0))
noncomputable def rd14 : Rd (Int) := r1 (cInt .i64)
noncomputable def st14_0 (v0 : Int) (v1 : Vec 4) (v2 : Vec 4) : St := ⟨[AV.none, AV.none, AV.ptr 2 0, AV.ptr 3 0, AV.none, AV.v (.int .i64 v0), AV.none, AV.none, AV.none, AV.none, AV.none, AV.none, AV.none, AV.none, AV.none, AV.none, AV.none, AV.none, AV.none, AV.none, AV.none, AV.none, AV.none, AV.none], [none, none, some (OB.arr .u64 4 v1), some (OB.arr .u64 4 v2), none, none, none, none, none, none, none, none, none, none, none, none, none, none, none, none, none, none, none, none]⟩
noncomputable def raw14_0 (N : Nat) (n : Nat) (v0 : Int) (v1 : Vec 4) (v2 : Vec 4) : Option (Int) := loopN (lookN live14 2) (exec T14 (G14 N) N live14 (cL (cL (cR (cL (cR c14)))))) n (st14_0 v0 v1 v2) (blockK 0 (seqK (exec T14 (G14 N) N live14 (cR (cR c14))) (retK T14 Try.f14.results.toList (rd14).dec)))
noncomputable def s14_0 (N : Nat) (Ln0 : Int → Vec 4 → Vec 4 → Option (Int)) (v0 : Int) (v1 : Vec 4) (v2 : Vec 4) : Option (Int) :=
  cond (leI 0 v0)
   ((fn_tillerref01_Bit N v1 v0).bind fun r1 =>
    (fn_tillerref01_Bit N v2 v0).bind fun r2 =>
     cond (!(eqI r1 r2))
      ((fn_tillerref01_Bit N v1 v0).bind fun r3 =>
       (fn_tillerref01_Bit N v2 v0).bind fun r4 =>
        some (subI .i64 r3 r4))
      (Ln0 (subI .i64 v0 1) v1 v2))
   (some 0)
theorem step14_0 (N : Nat) (n : Nat) (v0 : Int) (v1 : Vec 4) (v2 : Vec 4) : raw14_0 N  (n + 1) v0 v1 v2 = s14_0 N (raw14_0 N  n) v0 v1 v2 := by kernel_rfl
noncomputable def l14_0 (N : Nat) : Nat → Int → Vec 4 → Vec 4 → Option (Int)
  | 0 => fun _ _ _ => none
  | n + 1 => fun v0 v1 v2 => s14_0 N (l14_0 N  n) v0 v1 v2
theorem eq14_0 (N : Nat) : ∀ n, raw14_0 N  n = l14_0 N  n := by
  intro n
  induction n with
  | zero => exact funext fun v0 => funext fun v1 => funext fun v2 => rfl
  | succ n ih => exact funext fun v0 => funext fun v1 => funext fun v2 => by rw [step14_0, ih]; rfl
noncomputable def t14 (N : Nat) (Le0 : Int → Vec 4 → Vec 4 → Option (Int)) (x0 : Vec 4) (x1 : Vec 4) : Option (Int) :=
  Le0 255 x0 x1
noncomputable def fn_tillerref01_Cmp (N : Nat) (x0 : Vec 4) (x1 : Vec 4) : Option (Int) := t14 N (l14_0 N N) x0 x1
theorem run14 (N : Nat) (x0 : Vec 4) (x1 : Vec 4) : Eng.run T14 (G14 N) N live14 c14 Try.f14.results.toList Try.f14.ntmps ((ad14).enc (x0, x1, ())) (rd14).dec = fn_tillerref01_Cmp N x0 x1 := by
  refine Eq.trans (show _ = t14 N (raw14_0 N N) x0 x1 from by kernel_rfl) ?_
  unfold fn_tillerref01_Cmp
  rw [eq14_0 N N]
noncomputable def F14 (N : Nat) (a : Vec 4 × Vec 4 × Unit) : Option (Int) := fn_tillerref01_Cmp N a.1 a.2.1
theorem ok14 (N : Nat) : FnOK Try.prog 14 ad14 rd14 (F14 N) :=
  fn_ok (N := N) (live := live14) (code := c14) (tok T14.rt) mixed (gok14 N) Try.func14 (by kernel_rfl) (by kernel_rfl) (by kernel_rfl) fun a p h => by rw [← h]; exact run14 N a.1 a.2.1

/-! ### tiller/wide.DivMod: function 32 -/
noncomputable def c32 : Code := (Try.f32.body).getD .skip
noncomputable def T32 : Tb := ⟨tyOf tys, [(39, 7), (45, 7)]⟩
noncomputable def G32 {R : Type} (N : Nat) : FuncId → List AV → (AV → Option R) → Option R := gCons 16 (gOf ad16 rd16 (F16 N)) (gCons 27 (gOf ad27 rd27 (F27 N)) (gCons 22 (gOf ad22 rd22 (F22 N)) (gNil)))
theorem gok32 {R : Type} (N : Nat) : GOK Try.prog (G32 (R := R) N) := gCons_ok (ok16 N) (gCons_ok (ok27 N) (gCons_ok (ok22 N) (gNil_ok)))
noncomputable def live32 : List (Nat × List Nat) := [(5, [2, 3, 4, 5, 7, 8])]
noncomputable def ad32 : Ad (Vec 4 × Vec 4 × Unit) := aC (cVec .u64 4) (aC (cVec .u64 4) (a0))
noncomputable def rd32 : Rd (Vec 4 × Vec 4 × Option Int) := r3 (cVec .u64 4) (cVec .u64 4) (cErr 69)
noncomputable def st32_0 (v0 : Int) (v1 : Vec 4) (v2 : Vec 4) (v3 : Vec 4) (v4 : Vec 4) (v5 : Vec 4) : St := ⟨[AV.none, AV.none, AV.ptr 2 0, AV.ptr 3 0, AV.ptr 4 0, AV.ptr 5 0, AV.none, AV.ptr 7 0, AV.v (.int .i64 v0), AV.none, AV.none, AV.none, AV.none, AV.none, AV.none, AV.none, AV.none, AV.none, AV.none, AV.none, AV.none, AV.none, AV.none, AV.none, AV.none, AV.none, AV.none, AV.none, AV.none, AV.none, AV.none, AV.none, AV.none, AV.none, AV.none, AV.none, AV.none, AV.none, AV.none, AV.none, AV.none, AV.none, AV.none, AV.none, AV.none, AV.none, AV.none, AV.none], [none, none, some (OB.arr .u64 4 v1), some (OB.arr .u64 4 v2), some (OB.arr .u64 4 v3), some (OB.arr .u64 4 v4), none, some (OB.arr .u64 4 v5), none, none, none, none, none, none, none, none, none, none, none, none, none, none, none, none, none, none, none, none, none, none, none, none, none, none, none, none, none, none, none, none, none, none, none, none, none, none, none, none]⟩
noncomputable def raw32_0 (N : Nat) (n : Nat) (v0 : Int) (v1 : Vec 4) (v2 : Vec 4) (v3 : Vec 4) (v4 : Vec 4) (v5 : Vec 4) : Option (Vec 4 × Vec 4 × Option Int) := loopN (lookN live32 5) (exec T32 (G32 N) N live32 (cL (cL (cR (cL (cR (cR (cR c32)))))))) n (st32_0 v0 v1 v2 v3 v4 v5) (blockK 0 (seqK (exec T32 (G32 N) N live32 (cR (cR (cR (cR c32))))) (retK T32 Try.f32.results.toList (rd32).dec)))
noncomputable def s32_0 (N : Nat) (Ln0 : Int → Vec 4 → Vec 4 → Vec 4 → Vec 4 → Vec 4 → Option (Vec 4 × Vec 4 × Option Int)) (v0 : Int) (v1 : Vec 4) (v2 : Vec 4) (v3 : Vec 4) (v4 : Vec 4) (v5 : Vec 4) : Option (Vec 4 × Vec 4 × Option Int) :=
  cond (leI 0 v0)
   ((fn_wide_Shl N v2 v0).bind fun r3 =>
    (fn_wide_Sub N v1 r3).bind fun r4 =>
     cond (!(r4.2))
      (cond (leI 0 (quoI .i64 v0 64))
       (cond (ltI (quoI .i64 v0 64) 4)
        (cond (ltI (remI .i64 v0 64) 0)
         (none)
         (cond (leI 0 (quoI .i64 v0 64))
          (cond (ltI (quoI .i64 v0 64) 4)
           (Ln0 (subI .i64 v0 1) r4.1 v2 v3 v4 (Vec.st v5 (quoI .i64 v0 64) (orI .u64 (Vec.rd v5 (quoI .i64 v0 64)) (shlI .u64 1 (remI .i64 v0 64)))))
           (none))
          (none)))
        (none))
       (none))
      (Ln0 (subI .i64 v0 1) v1 v2 v3 v4 v5))
   (some (v5, v1, none))
theorem step32_0 (N : Nat) (n : Nat) (v0 : Int) (v1 : Vec 4) (v2 : Vec 4) (v3 : Vec 4) (v4 : Vec 4) (v5 : Vec 4) : raw32_0 N  (n + 1) v0 v1 v2 v3 v4 v5 = s32_0 N (raw32_0 N  n) v0 v1 v2 v3 v4 v5 := by kernel_rfl
noncomputable def l32_0 (N : Nat) : Nat → Int → Vec 4 → Vec 4 → Vec 4 → Vec 4 → Vec 4 → Option (Vec 4 × Vec 4 × Option Int)
  | 0 => fun _ _ _ _ _ _ => none
  | n + 1 => fun v0 v1 v2 v3 v4 v5 => s32_0 N (l32_0 N  n) v0 v1 v2 v3 v4 v5
theorem eq32_0 (N : Nat) : ∀ n, raw32_0 N  n = l32_0 N  n := by
  intro n
  induction n with
  | zero => exact funext fun v0 => funext fun v1 => funext fun v2 => funext fun v3 => funext fun v4 => funext fun v5 => rfl
  | succ n ih => exact funext fun v0 => funext fun v1 => funext fun v2 => funext fun v3 => funext fun v4 => funext fun v5 => by rw [step32_0, ih]; rfl
noncomputable def t32 (N : Nat) (Le0 : Int → Vec 4 → Vec 4 → Vec 4 → Vec 4 → Vec 4 → Option (Vec 4 × Vec 4 × Option Int)) (x0 : Vec 4) (x1 : Vec 4) : Option (Vec 4 × Vec 4 × Option Int) :=
  cond (eqL x1.1 (Vec.zero 4).1)
   (some (Vec.zero 4, Vec.zero 4, some 5))
   ((fn_wide_Len N x0).bind fun r1 =>
    (fn_wide_Len N x1).bind fun r2 =>
     Le0 (subI .i64 r1 r2) x0 x1 (Vec.zero 4) (Vec.zero 4) (Vec.zero 4))
noncomputable def fn_wide_DivMod (N : Nat) (x0 : Vec 4) (x1 : Vec 4) : Option (Vec 4 × Vec 4 × Option Int) := t32 N (l32_0 N N) x0 x1
theorem run32 (N : Nat) (x0 : Vec 4) (x1 : Vec 4) : Eng.run T32 (G32 N) N live32 c32 Try.f32.results.toList Try.f32.ntmps ((ad32).enc (x0, x1, ())) (rd32).dec = fn_wide_DivMod N x0 x1 := by
  refine Eq.trans (show _ = t32 N (raw32_0 N N) x0 x1 from by kernel_rfl) ?_
  unfold fn_wide_DivMod
  rw [eq32_0 N N]
noncomputable def F32 (N : Nat) (a : Vec 4 × Vec 4 × Unit) : Option (Vec 4 × Vec 4 × Option Int) := fn_wide_DivMod N a.1 a.2.1
theorem ok32 (N : Nat) : FnOK Try.prog 32 ad32 rd32 (F32 N) :=
  fn_ok (N := N) (live := live32) (code := c32) (tok T32.rt) mixed (gok32 N) Try.func32 (by kernel_rfl) (by kernel_rfl) (by kernel_rfl) fun a p h => by rw [← h]; exact run32 N a.1 a.2.1

/-! ### tiller/tillerlaw01.sure: function 15 -/
noncomputable def c15 : Code := (Try.f15.body).getD .skip
noncomputable def T15 : Tb := ⟨tyOf tys, []⟩
noncomputable def G15 {R : Type} (N : Nat) : FuncId → List AV → (AV → Option R) → Option R := gCons 20 (gOf ad20 rd20 (F20 N)) (gCons 27 (gOf ad27 rd27 (F27 N)) (gCons 32 (gOf ad32 rd32 (F32 N)) (gCons 11 (gOf ad11 rd11 (F11 N)) (gNil))))
theorem gok15 {R : Type} (N : Nat) : GOK Try.prog (G15 (R := R) N) := gCons_ok (ok20 N) (gCons_ok (ok27 N) (gCons_ok (ok32 N) (gCons_ok (ok11 N) (gNil_ok))))
noncomputable def live15 : List (Nat × List Nat) := []
noncomputable def ad15 : Ad (Unit) := a0
noncomputable def rd15 : Rd (Bool) := r1 (cBool)
noncomputable def fn_tillerlaw01_sure (N : Nat)  : Option (Bool) :=
  (fn_wide_Of N 1).bind fun r1 =>
   (fn_wide_Shl N r1 200).bind fun r2 =>
    (fn_wide_Of N 3).bind fun r3 =>
     (fn_wide_DivMod N r2 r3).bind fun r4 =>
      (fn_wide_Of N 10).bind fun r5 =>
       (fn_wide_Sqrt N r5).bind fun r6 =>
        cond (isNoneI r4.2.2)
         ((fn_wide_Of N 1).bind fun r7 =>
          cond (eqL r4.2.1.1 r7.1)
           (cond (!(eqL r4.1.1 (Vec.zero 4).1))
            ((fn_wide_Of N 3).bind fun r8 =>
             cond (eqL r6.1.1 r8.1)
              ((fn_wide_Of N 1).bind fun r9 =>
               some (eqL r6.2.1 r9.1))
              (some false))
            (some false))
           (some false))
         (some false)
theorem run15 (N : Nat)  : Eng.run T15 (G15 N) N live15 c15 Try.f15.results.toList Try.f15.ntmps ((ad15).enc (())) (rd15).dec = fn_tillerlaw01_sure N  := by kernel_rfl
noncomputable def F15 (N : Nat) (a : Unit) : Option (Bool) := fn_tillerlaw01_sure N 
theorem ok15 (N : Nat) : FnOK Try.prog 15 ad15 rd15 (F15 N) :=
  fn_ok (N := N) (live := live15) (code := c15) (tok T15.rt) mixed (gok15 N) Try.func15 (by kernel_rfl) (by kernel_rfl) (by kernel_rfl) fun a p h => by rw [← h]; exact run15 N 

/-! ### tiller/tillerref01.Len: function 17 -/
noncomputable def c17 : Code := (Try.f17.body).getD .skip
noncomputable def T17 : Tb := ⟨tyOf tys, [(12, 3)]⟩
noncomputable def G17 {R : Type} (N : Nat) : FuncId → List AV → (AV → Option R) → Option R := gCons 30 (gOf ad30 rd30 (F30 N)) (gNil)
theorem gok17 {R : Type} (N : Nat) : GOK Try.prog (G17 (R := R) N) := gCons_ok (ok30 N) (gNil_ok)
noncomputable def live17 : List (Nat × List Nat) := [(3, [3, 4])]
noncomputable def ad17 : Ad (Vec 4 × Unit) := aC (cVec .u64 4) (a0)
noncomputable def rd17 : Rd (Int) := r1 (cInt .i64)
noncomputable def st17_0 (v0 : Int) (v1 : Vec 256) : St := ⟨[AV.none, AV.none, AV.none, AV.ptr 3 0, AV.v (.int .i64 v0), AV.none, AV.none, AV.none, AV.none, AV.none, AV.none, AV.none, AV.none, AV.none, AV.none, AV.none, AV.none, AV.none, AV.none], [none, none, none, some (OB.arr .i64 256 v1), none, none, none, none, none, none, none, none, none, none, none, none, none, none, none]⟩
noncomputable def raw17_0 (N : Nat) (n : Nat) (v0 : Int) (v1 : Vec 256) : Option (Int) := loopN (lookN live17 3) (exec T17 (G17 N) N live17 (cL (cL (cL (cR (cR (cR c17))))))) n (st17_0 v0 v1) (blockK 0 (seqK (exec T17 (G17 N) N live17 (cR (cR (cR (cR c17))))) (retK T17 Try.f17.results.toList (rd17).dec)))
noncomputable def s17_0 (N : Nat) (Ln0 : Int → Vec 256 → Option (Int)) (v0 : Int) (v1 : Vec 256) : Option (Int) :=
  cond (ltI 0 v0)
   (cond (leI 0 (subI .i64 v0 1))
    (cond (ltI (subI .i64 v0 1) 256)
     (cond (eqI (Vec.rd v1 (subI .i64 v0 1)) 0)
      (Ln0 (subI .i64 v0 1) v1)
      (some v0))
     (none))
    (none))
   (some v0)
theorem step17_0 (N : Nat) (n : Nat) (v0 : Int) (v1 : Vec 256) : raw17_0 N  (n + 1) v0 v1 = s17_0 N (raw17_0 N  n) v0 v1 := by kernel_rfl
noncomputable def l17_0 (N : Nat) : Nat → Int → Vec 256 → Option (Int)
  | 0 => fun _ _ => none
  | n + 1 => fun v0 v1 => s17_0 N (l17_0 N  n) v0 v1
theorem eq17_0 (N : Nat) : ∀ n, raw17_0 N  n = l17_0 N  n := by
  intro n
  induction n with
  | zero => exact funext fun v0 => funext fun v1 => rfl
  | succ n ih => exact funext fun v0 => funext fun v1 => by rw [step17_0, ih]; rfl
noncomputable def t17 (N : Nat) (Le0 : Int → Vec 256 → Option (Int)) (x0 : Vec 4) : Option (Int) :=
  (fn_tillerref01_bitsOf N x0).bind fun r1 =>
   Le0 256 r1
noncomputable def fn_tillerref01_Len (N : Nat) (x0 : Vec 4) : Option (Int) := t17 N (l17_0 N N) x0
theorem run17 (N : Nat) (x0 : Vec 4) : Eng.run T17 (G17 N) N live17 c17 Try.f17.results.toList Try.f17.ntmps ((ad17).enc (x0, ())) (rd17).dec = fn_tillerref01_Len N x0 := by
  refine Eq.trans (show _ = t17 N (raw17_0 N N) x0 from by kernel_rfl) ?_
  unfold fn_tillerref01_Len
  rw [eq17_0 N N]
noncomputable def F17 (N : Nat) (a : Vec 4 × Unit) : Option (Int) := fn_tillerref01_Len N a.1
theorem ok17 (N : Nat) : FnOK Try.prog 17 ad17 rd17 (F17 N) :=
  fn_ok (N := N) (live := live17) (code := c17) (tok T17.rt) mixed (gok17 N) Try.func17 (by kernel_rfl) (by kernel_rfl) (by kernel_rfl) fun a p h => by rw [← h]; exact run17 N a.1

/-! ### tiller/wide.Bit: function 18 -/
noncomputable def c18 : Code := (Try.f18.body).getD .skip
noncomputable def T18 : Tb := ⟨tyOf tys, [(13, 2)]⟩
noncomputable def G18 {R : Type} (N : Nat) : FuncId → List AV → (AV → Option R) → Option R := gNil
theorem gok18 {R : Type} (N : Nat) : GOK Try.prog (G18 (R := R) N) := gNil_ok
noncomputable def live18 : List (Nat × List Nat) := []
noncomputable def ad18 : Ad (Vec 4 × Int × Unit) := aC (cVec .u64 4) (aC (cInt .i64) (a0))
noncomputable def rd18 : Rd (Int) := r1 (cInt .u64)
noncomputable def fn_wide_Bit (N : Nat) (x0 : Vec 4) (x1 : Int) : Option (Int) :=
  cond (ltI x1 0)
   (some 0)
   (cond (leI 256 x1)
    (some 0)
    (cond (leI 0 (quoI .i64 x1 64))
     (cond (ltI (quoI .i64 x1 64) 4)
      (cond (ltI (remI .i64 x1 64) 0)
       (none)
       (some (andI .u64 (shrI .u64 (Vec.rd x0 (quoI .i64 x1 64)) (remI .i64 x1 64)) 1)))
      (none))
     (none)))
theorem run18 (N : Nat) (x0 : Vec 4) (x1 : Int) : Eng.run T18 (G18 N) N live18 c18 Try.f18.results.toList Try.f18.ntmps ((ad18).enc (x0, x1, ())) (rd18).dec = fn_wide_Bit N x0 x1 := by kernel_rfl
noncomputable def F18 (N : Nat) (a : Vec 4 × Int × Unit) : Option (Int) := fn_wide_Bit N a.1 a.2.1
theorem ok18 (N : Nat) : FnOK Try.prog 18 ad18 rd18 (F18 N) :=
  fn_ok (N := N) (live := live18) (code := c18) (tok T18.rt) mixed (gok18 N) Try.func18 (by kernel_rfl) (by kernel_rfl) (by kernel_rfl) fun a p h => by rw [← h]; exact run18 N a.1 a.2.1

/-! ### tiller/tillerref01.Sub: function 23 -/
noncomputable def c23 : Code := (Try.f23.body).getD .skip
noncomputable def T23 : Tb := ⟨tyOf tys, [(20, 6), (24, 7), (35, 6)]⟩
noncomputable def G23 {R : Type} (N : Nat) : FuncId → List AV → (AV → Option R) → Option R := gCons 30 (gOf ad30 rd30 (F30 N)) (gCons 31 (gOf ad31 rd31 (F31 N)) (gNil))
theorem gok23 {R : Type} (N : Nat) : GOK Try.prog (G23 (R := R) N) := gCons_ok (ok30 N) (gCons_ok (ok31 N) (gNil_ok))
noncomputable def live23 : List (Nat × List Nat) := [(4, [4, 6, 7, 8, 9])]
noncomputable def ad23 : Ad (Vec 4 × Vec 4 × Unit) := aC (cVec .u64 4) (aC (cVec .u64 4) (a0))
noncomputable def rd23 : Rd (Vec 4 × Bool) := r2 (cVec .u64 4) (cBool)
noncomputable def st23_0 (v0 : Int) (v1 : Int) (v2 : Vec 4) (v3 : Vec 256) (v4 : Vec 256) : St := ⟨[AV.none, AV.none, AV.none, AV.none, AV.ptr 4 0, AV.none, AV.ptr 6 0, AV.ptr 7 0, AV.v (.int .i64 v0), AV.v (.int .i64 v1), AV.none, AV.none, AV.none, AV.none, AV.none, AV.none, AV.none, AV.none, AV.none, AV.none, AV.none, AV.none, AV.none, AV.none, AV.none, AV.none, AV.none, AV.none, AV.none, AV.none, AV.none, AV.none, AV.none, AV.none, AV.none, AV.none, AV.none, AV.none, AV.none, AV.none], [none, none, none, none, some (OB.arr .u64 4 v2), none, some (OB.arr .i64 256 v3), some (OB.arr .i64 256 v4), none, none, none, none, none, none, none, none, none, none, none, none, none, none, none, none, none, none, none, none, none, none, none, none, none, none, none, none, none, none, none, none]⟩
noncomputable def raw23_0 (N : Nat) (n : Nat) (v0 : Int) (v1 : Int) (v2 : Vec 4) (v3 : Vec 256) (v4 : Vec 256) : Option (Vec 4 × Bool) := loopN (lookN live23 4) (exec T23 (G23 N) N live23 (cL (cL (cR (cL (cR (cR (cR c23)))))))) n (st23_0 v0 v1 v2 v3 v4) (blockK 0 (seqK (exec T23 (G23 N) N live23 (cR (cR (cR (cR c23))))) (retK T23 Try.f23.results.toList (rd23).dec)))
noncomputable def s23_0 (N : Nat) (Ln0 : Int → Int → Vec 4 → Vec 256 → Vec 256 → Option (Vec 4 × Bool)) (v0 : Int) (v1 : Int) (v2 : Vec 4) (v3 : Vec 256) (v4 : Vec 256) : Option (Vec 4 × Bool) :=
  cond (ltI v1 256)
   (cond (leI 0 v1)
    (cond (ltI v1 256)
     (cond (leI 0 v1)
      (cond (ltI v1 256)
       (cond (leI 0 v1)
        (cond (ltI v1 256)
         (Ln0 (subI .i64 1 (quoI .i64 (subI .i64 (subI .i64 (addI .i64 2 (Vec.rd v3 v1)) (Vec.rd v4 v1)) v0) 2)) (addI .i64 v1 1) v2 (Vec.st v3 v1 (remI .i64 (subI .i64 (subI .i64 (addI .i64 2 (Vec.rd v3 v1)) (Vec.rd v4 v1)) v0) 2)) v4)
         (none))
        (none))
       (none))
      (none))
     (none))
    (none))
   ((fn_tillerref01_of N (Vec.cut v3 0 256)).bind fun r3 =>
    some (r3, eqI v0 1))
theorem step23_0 (N : Nat) (n : Nat) (v0 : Int) (v1 : Int) (v2 : Vec 4) (v3 : Vec 256) (v4 : Vec 256) : raw23_0 N  (n + 1) v0 v1 v2 v3 v4 = s23_0 N (raw23_0 N  n) v0 v1 v2 v3 v4 := by kernel_rfl
noncomputable def l23_0 (N : Nat) : Nat → Int → Int → Vec 4 → Vec 256 → Vec 256 → Option (Vec 4 × Bool)
  | 0 => fun _ _ _ _ _ => none
  | n + 1 => fun v0 v1 v2 v3 v4 => s23_0 N (l23_0 N  n) v0 v1 v2 v3 v4
theorem eq23_0 (N : Nat) : ∀ n, raw23_0 N  n = l23_0 N  n := by
  intro n
  induction n with
  | zero => exact funext fun v0 => funext fun v1 => funext fun v2 => funext fun v3 => funext fun v4 => rfl
  | succ n ih => exact funext fun v0 => funext fun v1 => funext fun v2 => funext fun v3 => funext fun v4 => by rw [step23_0, ih]; rfl
noncomputable def t23 (N : Nat) (Le0 : Int → Int → Vec 4 → Vec 256 → Vec 256 → Option (Vec 4 × Bool)) (x0 : Vec 4) (x1 : Vec 4) : Option (Vec 4 × Bool) :=
  (fn_tillerref01_bitsOf N x0).bind fun r1 =>
   (fn_tillerref01_bitsOf N x1).bind fun r2 =>
    Le0 0 0 (Vec.zero 4) r1 r2
noncomputable def fn_tillerref01_Sub (N : Nat) (x0 : Vec 4) (x1 : Vec 4) : Option (Vec 4 × Bool) := t23 N (l23_0 N N) x0 x1
theorem run23 (N : Nat) (x0 : Vec 4) (x1 : Vec 4) : Eng.run T23 (G23 N) N live23 c23 Try.f23.results.toList Try.f23.ntmps ((ad23).enc (x0, x1, ())) (rd23).dec = fn_tillerref01_Sub N x0 x1 := by
  refine Eq.trans (show _ = t23 N (raw23_0 N N) x0 x1 from by kernel_rfl) ?_
  unfold fn_tillerref01_Sub
  rw [eq23_0 N N]
noncomputable def F23 (N : Nat) (a : Vec 4 × Vec 4 × Unit) : Option (Vec 4 × Bool) := fn_tillerref01_Sub N a.1 a.2.1
theorem ok23 (N : Nat) : FnOK Try.prog 23 ad23 rd23 (F23 N) :=
  fn_ok (N := N) (live := live23) (code := c23) (tok T23.rt) mixed (gok23 N) Try.func23 (by kernel_rfl) (by kernel_rfl) (by kernel_rfl) fun a p h => by rw [← h]; exact run23 N a.1 a.2.1

/-! ### tiller/wide.Cmp: function 24 -/
noncomputable def c24 : Code := (Try.f24.body).getD .skip
noncomputable def T24 : Tb := ⟨tyOf tys, [(12, 2), (15, 3), (20, 2), (23, 3)]⟩
noncomputable def G24 {R : Type} (N : Nat) : FuncId → List AV → (AV → Option R) → Option R := gNil
theorem gok24 {R : Type} (N : Nat) : GOK Try.prog (G24 (R := R) N) := gNil_ok
noncomputable def live24 : List (Nat × List Nat) := [(2, [2, 3, 5])]
noncomputable def ad24 : Ad (Vec 4 × Vec 4 × Unit) := aC (cVec .u64 4) (aC (cVec .u64 4) (a0))
noncomputable def rd24 : Rd (Int) := r1 (cInt .i64)
noncomputable def st24_0 (v0 : Int) (v1 : Vec 4) (v2 : Vec 4) : St := ⟨[AV.none, AV.none, AV.ptr 2 0, AV.ptr 3 0, AV.none, AV.v (.int .i64 v0), AV.none, AV.none, AV.none, AV.none, AV.none, AV.none, AV.none, AV.none, AV.none, AV.none, AV.none, AV.none, AV.none, AV.none, AV.none, AV.none, AV.none, AV.none, AV.none, AV.none], [none, none, some (OB.arr .u64 4 v1), some (OB.arr .u64 4 v2), none, none, none, none, none, none, none, none, none, none, none, none, none, none, none, none, none, none, none, none, none, none]⟩
noncomputable def raw24_0 (N : Nat) (n : Nat) (v0 : Int) (v1 : Vec 4) (v2 : Vec 4) : Option (Int) := loopN (lookN live24 2) (exec T24 (G24 N) N live24 (cL (cL (cR (cL (cR c24)))))) n (st24_0 v0 v1 v2) (blockK 0 (seqK (exec T24 (G24 N) N live24 (cR (cR c24))) (retK T24 Try.f24.results.toList (rd24).dec)))
noncomputable def s24_0 (N : Nat) (Ln0 : Int → Vec 4 → Vec 4 → Option (Int)) (v0 : Int) (v1 : Vec 4) (v2 : Vec 4) : Option (Int) :=
  cond (leI 0 v0)
   (cond (leI 0 v0)
    (cond (ltI v0 4)
     (cond (leI 0 v0)
      (cond (ltI v0 4)
       (cond (ltI (Vec.rd v1 v0) (Vec.rd v2 v0))
        (some (-1))
        (cond (leI 0 v0)
         (cond (ltI v0 4)
          (cond (leI 0 v0)
           (cond (ltI v0 4)
            (cond (ltI (Vec.rd v2 v0) (Vec.rd v1 v0))
             (some 1)
             (Ln0 (subI .i64 v0 1) v1 v2))
            (none))
           (none))
          (none))
         (none)))
       (none))
      (none))
     (none))
    (none))
   (some 0)
theorem step24_0 (N : Nat) (n : Nat) (v0 : Int) (v1 : Vec 4) (v2 : Vec 4) : raw24_0 N  (n + 1) v0 v1 v2 = s24_0 N (raw24_0 N  n) v0 v1 v2 := by kernel_rfl
noncomputable def l24_0 (N : Nat) : Nat → Int → Vec 4 → Vec 4 → Option (Int)
  | 0 => fun _ _ _ => none
  | n + 1 => fun v0 v1 v2 => s24_0 N (l24_0 N  n) v0 v1 v2
theorem eq24_0 (N : Nat) : ∀ n, raw24_0 N  n = l24_0 N  n := by
  intro n
  induction n with
  | zero => exact funext fun v0 => funext fun v1 => funext fun v2 => rfl
  | succ n ih => exact funext fun v0 => funext fun v1 => funext fun v2 => by rw [step24_0, ih]; rfl
noncomputable def t24 (N : Nat) (Le0 : Int → Vec 4 → Vec 4 → Option (Int)) (x0 : Vec 4) (x1 : Vec 4) : Option (Int) :=
  Le0 3 x0 x1
noncomputable def fn_wide_Cmp (N : Nat) (x0 : Vec 4) (x1 : Vec 4) : Option (Int) := t24 N (l24_0 N N) x0 x1
theorem run24 (N : Nat) (x0 : Vec 4) (x1 : Vec 4) : Eng.run T24 (G24 N) N live24 c24 Try.f24.results.toList Try.f24.ntmps ((ad24).enc (x0, x1, ())) (rd24).dec = fn_wide_Cmp N x0 x1 := by
  refine Eq.trans (show _ = t24 N (raw24_0 N N) x0 x1 from by kernel_rfl) ?_
  unfold fn_wide_Cmp
  rw [eq24_0 N N]
noncomputable def F24 (N : Nat) (a : Vec 4 × Vec 4 × Unit) : Option (Int) := fn_wide_Cmp N a.1 a.2.1
theorem ok24 (N : Nat) : FnOK Try.prog 24 ad24 rd24 (F24 N) :=
  fn_ok (N := N) (live := live24) (code := c24) (tok T24.rt) mixed (gok24 N) Try.func24 (by kernel_rfl) (by kernel_rfl) (by kernel_rfl) fun a p h => by rw [← h]; exact run24 N a.1 a.2.1

/-! ### tiller/wide.Shr: function 25 -/
noncomputable def c25 : Code := (Try.f25.body).getD .skip
noncomputable def T25 : Tb := ⟨tyOf tys, [(29, 2), (34, 6), (41, 6), (47, 2), (54, 6)]⟩
noncomputable def G25 {R : Type} (N : Nat) : FuncId → List AV → (AV → Option R) → Option R := gCons 27 (gOf ad27 rd27 (F27 N)) (gNil)
theorem gok25 {R : Type} (N : Nat) : GOK Try.prog (G25 (R := R) N) := gCons_ok (ok27 N) (gNil_ok)
noncomputable def live25 : List (Nat × List Nat) := [(8, [1, 2, 4, 6, 7, 21, 22])]
noncomputable def ad25 : Ad (Vec 4 × Int × Unit) := aC (cVec .u64 4) (aC (cInt .i64) (a0))
noncomputable def rd25 : Rd (Vec 4 × Bool) := r2 (cVec .u64 4) (cBool)
noncomputable def st25_0 (v0 : Int) (v1 : Int) (v2 : Int) (v3 : Int) (v4 : Vec 4) (v5 : Vec 4) (v6 : Vec 4) : St := ⟨[AV.none, AV.v (.int .i64 v0), AV.ptr 2 0, AV.none, AV.ptr 4 0, AV.none, AV.ptr 6 0, AV.v (.int .i64 v1), AV.none, AV.none, AV.none, AV.none, AV.none, AV.none, AV.none, AV.none, AV.none, AV.none, AV.none, AV.none, AV.none, AV.v (.int .i64 v2), AV.v (.int .i64 v3), AV.none, AV.none, AV.none, AV.none, AV.none, AV.none, AV.none, AV.none, AV.none, AV.none, AV.none, AV.none, AV.none, AV.none, AV.none, AV.none, AV.none, AV.none, AV.none, AV.none, AV.none, AV.none, AV.none, AV.none, AV.none, AV.none, AV.none, AV.none, AV.none, AV.none, AV.none, AV.none, AV.none, AV.none, AV.none, AV.none, AV.none, AV.none, AV.none], [none, none, some (OB.arr .u64 4 v4), none, some (OB.arr .u64 4 v5), none, some (OB.arr .u64 4 v6), none, none, none, none, none, none, none, none, none, none, none, none, none, none, none, none, none, none, none, none, none, none, none, none, none, none, none, none, none, none, none, none, none, none, none, none, none, none, none, none, none, none, none, none, none, none, none, none, none, none, none, none, none, none, none]⟩
noncomputable def raw25_0 (N : Nat) (n : Nat) (v0 : Int) (v1 : Int) (v2 : Int) (v3 : Int) (v4 : Vec 4) (v5 : Vec 4) (v6 : Vec 4) : Option (Vec 4 × Bool) := loopN (lookN live25 8) (exec T25 (G25 N) N live25 (cL (cL (cR (cL (cR (cR (cR (cR (cR c25)))))))))) n (st25_0 v0 v1 v2 v3 v4 v5 v6) (blockK 0 (seqK (exec T25 (G25 N) N live25 (cR (cR (cR (cR (cR (cR c25))))))) (retK T25 Try.f25.results.toList (rd25).dec)))
noncomputable def s25_0 (N : Nat) (Ln0 : Int → Int → Int → Int → Vec 4 → Vec 4 → Vec 4 → Option (Vec 4 × Bool)) (v0 : Int) (v1 : Int) (v2 : Int) (v3 : Int) (v4 : Vec 4) (v5 : Vec 4) (v6 : Vec 4) : Option (Vec 4 × Bool) :=
  cond (ltI v3 v2)
   (cond (leI 0 (addI .i64 v3 v1))
    (cond (ltI (addI .i64 v3 v1) 4)
     (cond (ltI (remI .i64 v0 64) 0)
      (none)
      (cond (leI 0 v3)
       (cond (ltI v3 4)
        (cond (ltI (addI .i64 (addI .i64 v3 v1) 1) 4)
         (cond (leI 0 v3)
          (cond (ltI v3 4)
           (cond (leI 0 (addI .i64 (addI .i64 v3 v1) 1))
            (cond (ltI (addI .i64 (addI .i64 v3 v1) 1) 4)
             (cond (ltI (subI .i64 64 (remI .i64 v0 64)) 0)
              (none)
              (cond (leI 0 v3)
               (cond (ltI v3 4)
                (Ln0 v0 v1 v2 (addI .i64 v3 1) v4 v5 (Vec.st (Vec.st v6 v3 (shrI .u64 (Vec.rd v4 (addI .i64 v3 v1)) (remI .i64 v0 64))) v3 (orI .u64 (Vec.rd (Vec.st v6 v3 (shrI .u64 (Vec.rd v4 (addI .i64 v3 v1)) (remI .i64 v0 64))) v3) (shlI .u64 (Vec.rd v4 (addI .i64 (addI .i64 v3 v1) 1)) (subI .i64 64 (remI .i64 v0 64))))))
                (none))
               (none)))
             (none))
            (none))
           (none))
          (none))
         (Ln0 v0 v1 v2 (addI .i64 v3 1) v4 v5 (Vec.st v6 v3 (shrI .u64 (Vec.rd v4 (addI .i64 v3 v1)) (remI .i64 v0 64)))))
        (none))
       (none)))
     (none))
    (none))
   ((fn_wide_Shl N v6 v0).bind fun r1 =>
    some (v6, !(eqL r1.1 v4.1)))
theorem step25_0 (N : Nat) (n : Nat) (v0 : Int) (v1 : Int) (v2 : Int) (v3 : Int) (v4 : Vec 4) (v5 : Vec 4) (v6 : Vec 4) : raw25_0 N  (n + 1) v0 v1 v2 v3 v4 v5 v6 = s25_0 N (raw25_0 N  n) v0 v1 v2 v3 v4 v5 v6 := by kernel_rfl
noncomputable def l25_0 (N : Nat) : Nat → Int → Int → Int → Int → Vec 4 → Vec 4 → Vec 4 → Option (Vec 4 × Bool)
  | 0 => fun _ _ _ _ _ _ _ => none
  | n + 1 => fun v0 v1 v2 v3 v4 v5 v6 => s25_0 N (l25_0 N  n) v0 v1 v2 v3 v4 v5 v6
theorem eq25_0 (N : Nat) : ∀ n, raw25_0 N  n = l25_0 N  n := by
  intro n
  induction n with
  | zero => exact funext fun v0 => funext fun v1 => funext fun v2 => funext fun v3 => funext fun v4 => funext fun v5 => funext fun v6 => rfl
  | succ n ih => exact funext fun v0 => funext fun v1 => funext fun v2 => funext fun v3 => funext fun v4 => funext fun v5 => funext fun v6 => by rw [step25_0, ih]; rfl
noncomputable def t25 (N : Nat) (Le0 : Int → Int → Int → Int → Vec 4 → Vec 4 → Vec 4 → Option (Vec 4 × Bool)) (x0 : Vec 4) (x1 : Int) : Option (Vec 4 × Bool) :=
  cond (ltI x1 1)
   (some (x0, false))
   (cond (leI 256 x1)
    (some (Vec.zero 4, !(eqL x0.1 (Vec.zero 4).1)))
    (Le0 x1 (quoI .i64 x1 64) (subI .i64 4 (quoI .i64 x1 64)) 0 x0 (Vec.zero 4) (Vec.zero 4)))
noncomputable def fn_wide_Shr (N : Nat) (x0 : Vec 4) (x1 : Int) : Option (Vec 4 × Bool) := t25 N (l25_0 N N) x0 x1
theorem run25 (N : Nat) (x0 : Vec 4) (x1 : Int) : Eng.run T25 (G25 N) N live25 c25 Try.f25.results.toList Try.f25.ntmps ((ad25).enc (x0, x1, ())) (rd25).dec = fn_wide_Shr N x0 x1 := by
  refine Eq.trans (show _ = t25 N (raw25_0 N N) x0 x1 from by kernel_rfl) ?_
  unfold fn_wide_Shr
  rw [eq25_0 N N]
noncomputable def F25 (N : Nat) (a : Vec 4 × Int × Unit) : Option (Vec 4 × Bool) := fn_wide_Shr N a.1 a.2.1
theorem ok25 (N : Nat) : FnOK Try.prog 25 ad25 rd25 (F25 N) :=
  fn_ok (N := N) (live := live25) (code := c25) (tok T25.rt) mixed (gok25 N) Try.func25 (by kernel_rfl) (by kernel_rfl) (by kernel_rfl) fun a p h => by rw [← h]; exact run25 N a.1 a.2.1

/-! ### tiller/tillerref01.Shr: function 26 -/
noncomputable def c26 : Code := (Try.f26.body).getD .skip
noncomputable def T26 : Tb := ⟨tyOf tys, [(25, 6), (33, 6), (35, 7)]⟩
noncomputable def G26 {R : Type} (N : Nat) : FuncId → List AV → (AV → Option R) → Option R := gCons 30 (gOf ad30 rd30 (F30 N)) (gCons 31 (gOf ad31 rd31 (F31 N)) (gNil))
theorem gok26 {R : Type} (N : Nat) : GOK Try.prog (G26 (R := R) N) := gCons_ok (ok30 N) (gCons_ok (ok31 N) (gNil_ok))
noncomputable def live26 : List (Nat × List Nat) := [(7, [1, 4, 6, 7, 8, 9])]
noncomputable def ad26 : Ad (Vec 4 × Int × Unit) := aC (cVec .u64 4) (aC (cInt .i64) (a0))
noncomputable def rd26 : Rd (Vec 4 × Bool) := r2 (cVec .u64 4) (cBool)
noncomputable def st26_0 (v0 : Int) (v1 : Bool) (v2 : Int) (v3 : Vec 4) (v4 : Vec 256) (v5 : Vec 256) : St := ⟨[AV.none, AV.v (.int .i64 v0), AV.none, AV.none, AV.ptr 4 0, AV.none, AV.ptr 6 0, AV.ptr 7 0, AV.v (.bool v1), AV.v (.int .i64 v2), AV.none, AV.none, AV.none, AV.none, AV.none, AV.none, AV.none, AV.none, AV.none, AV.none, AV.none, AV.none, AV.none, AV.none, AV.none, AV.none, AV.none, AV.none, AV.none, AV.none, AV.none, AV.none, AV.none, AV.none, AV.none, AV.none, AV.none, AV.none, AV.none], [none, none, none, none, some (OB.arr .u64 4 v3), none, some (OB.arr .i64 256 v4), some (OB.arr .i64 256 v5), none, none, none, none, none, none, none, none, none, none, none, none, none, none, none, none, none, none, none, none, none, none, none, none, none, none, none, none, none, none, none]⟩
noncomputable def raw26_0 (N : Nat) (n : Nat) (v0 : Int) (v1 : Bool) (v2 : Int) (v3 : Vec 4) (v4 : Vec 256) (v5 : Vec 256) : Option (Vec 4 × Bool) := loopN (lookN live26 7) (exec T26 (G26 N) N live26 (cL (cL (cR (cL (cR (cR (cR (cR (cR c26)))))))))) n (st26_0 v0 v1 v2 v3 v4 v5) (blockK 0 (seqK (exec T26 (G26 N) N live26 (cR (cR (cR (cR (cR (cR c26))))))) (retK T26 Try.f26.results.toList (rd26).dec)))
noncomputable def s26_0 (N : Nat) (Ln0 : Int → Bool → Int → Vec 4 → Vec 256 → Vec 256 → Option (Vec 4 × Bool)) (v0 : Int) (v1 : Bool) (v2 : Int) (v3 : Vec 4) (v4 : Vec 256) (v5 : Vec 256) : Option (Vec 4 × Bool) :=
  cond (ltI v2 256)
   (cond (ltI v2 v0)
    (cond v1
     (Ln0 v0 true (addI .i64 v2 1) v3 v4 v5)
     (cond (leI 0 v2)
      (cond (ltI v2 256)
       (Ln0 v0 (eqI (Vec.rd v4 v2) 1) (addI .i64 v2 1) v3 v4 v5)
       (none))
      (none)))
    (cond (leI 0 v2)
     (cond (ltI v2 256)
      (cond (leI 0 (subI .i64 v2 v0))
       (cond (ltI (subI .i64 v2 v0) 256)
        (Ln0 v0 v1 (addI .i64 v2 1) v3 v4 (Vec.st v5 (subI .i64 v2 v0) (Vec.rd v4 v2)))
        (none))
       (none))
      (none))
     (none)))
   ((fn_tillerref01_of N (Vec.cut v5 0 256)).bind fun r2 =>
    some (r2, v1))
theorem step26_0 (N : Nat) (n : Nat) (v0 : Int) (v1 : Bool) (v2 : Int) (v3 : Vec 4) (v4 : Vec 256) (v5 : Vec 256) : raw26_0 N  (n + 1) v0 v1 v2 v3 v4 v5 = s26_0 N (raw26_0 N  n) v0 v1 v2 v3 v4 v5 := by kernel_rfl
noncomputable def l26_0 (N : Nat) : Nat → Int → Bool → Int → Vec 4 → Vec 256 → Vec 256 → Option (Vec 4 × Bool)
  | 0 => fun _ _ _ _ _ _ => none
  | n + 1 => fun v0 v1 v2 v3 v4 v5 => s26_0 N (l26_0 N  n) v0 v1 v2 v3 v4 v5
theorem eq26_0 (N : Nat) : ∀ n, raw26_0 N  n = l26_0 N  n := by
  intro n
  induction n with
  | zero => exact funext fun v0 => funext fun v1 => funext fun v2 => funext fun v3 => funext fun v4 => funext fun v5 => rfl
  | succ n ih => exact funext fun v0 => funext fun v1 => funext fun v2 => funext fun v3 => funext fun v4 => funext fun v5 => by rw [step26_0, ih]; rfl
noncomputable def t26 (N : Nat) (Le0 : Int → Bool → Int → Vec 4 → Vec 256 → Vec 256 → Option (Vec 4 × Bool)) (x0 : Vec 4) (x1 : Int) : Option (Vec 4 × Bool) :=
  cond (ltI x1 1)
   (some (x0, false))
   ((fn_tillerref01_bitsOf N x0).bind fun r1 =>
    Le0 x1 false 0 (Vec.zero 4) r1 (Vec.zero 256))
noncomputable def fn_tillerref01_Shr (N : Nat) (x0 : Vec 4) (x1 : Int) : Option (Vec 4 × Bool) := t26 N (l26_0 N N) x0 x1
theorem run26 (N : Nat) (x0 : Vec 4) (x1 : Int) : Eng.run T26 (G26 N) N live26 c26 Try.f26.results.toList Try.f26.ntmps ((ad26).enc (x0, x1, ())) (rd26).dec = fn_tillerref01_Shr N x0 x1 := by
  refine Eq.trans (show _ = t26 N (raw26_0 N N) x0 x1 from by kernel_rfl) ?_
  unfold fn_tillerref01_Shr
  rw [eq26_0 N N]
noncomputable def F26 (N : Nat) (a : Vec 4 × Int × Unit) : Option (Vec 4 × Bool) := fn_tillerref01_Shr N a.1 a.2.1
theorem ok26 (N : Nat) : FnOK Try.prog 26 ad26 rd26 (F26 N) :=
  fn_ok (N := N) (live := live26) (code := c26) (tok T26.rt) mixed (gok26 N) Try.func26 (by kernel_rfl) (by kernel_rfl) (by kernel_rfl) fun a p h => by rw [← h]; exact run26 N a.1 a.2.1

/-! ### tiller/tillerref01.Shl: function 28 -/
noncomputable def c28 : Code := (Try.f28.body).getD .skip
noncomputable def T28 : Tb := ⟨tyOf tys, [(25, 5), (27, 6)]⟩
noncomputable def G28 {R : Type} (N : Nat) : FuncId → List AV → (AV → Option R) → Option R := gCons 30 (gOf ad30 rd30 (F30 N)) (gCons 31 (gOf ad31 rd31 (F31 N)) (gNil))
theorem gok28 {R : Type} (N : Nat) : GOK Try.prog (G28 (R := R) N) := gCons_ok (ok30 N) (gCons_ok (ok31 N) (gNil_ok))
noncomputable def live28 : List (Nat × List Nat) := [(8, [1, 4, 5, 6, 7])]
noncomputable def ad28 : Ad (Vec 4 × Int × Unit) := aC (cVec .u64 4) (aC (cInt .i64) (a0))
noncomputable def rd28 : Rd (Vec 4) := r1 (cVec .u64 4)
noncomputable def st28_0 (v0 : Int) (v1 : Int) (v2 : Vec 4) (v3 : Vec 256) (v4 : Vec 256) : St := ⟨[AV.none, AV.v (.int .i64 v0), AV.none, AV.none, AV.ptr 4 0, AV.ptr 5 0, AV.ptr 6 0, AV.v (.int .i64 v1), AV.none, AV.none, AV.none, AV.none, AV.none, AV.none, AV.none, AV.none, AV.none, AV.none, AV.none, AV.none, AV.none, AV.none, AV.none, AV.none, AV.none, AV.none, AV.none, AV.none, AV.none, AV.none], [none, none, none, none, some (OB.arr .u64 4 v2), some (OB.arr .i64 256 v3), some (OB.arr .i64 256 v4), none, none, none, none, none, none, none, none, none, none, none, none, none, none, none, none, none, none, none, none, none, none, none]⟩
noncomputable def raw28_0 (N : Nat) (n : Nat) (v0 : Int) (v1 : Int) (v2 : Vec 4) (v3 : Vec 256) (v4 : Vec 256) : Option (Vec 4) := loopN (lookN live28 8) (exec T28 (G28 N) N live28 (cL (cL (cR (cL (cR (cR (cR (cR (cR c28)))))))))) n (st28_0 v0 v1 v2 v3 v4) (blockK 0 (seqK (exec T28 (G28 N) N live28 (cR (cR (cR (cR (cR (cR c28))))))) (retK T28 Try.f28.results.toList (rd28).dec)))
noncomputable def s28_0 (N : Nat) (Ln0 : Int → Int → Vec 4 → Vec 256 → Vec 256 → Option (Vec 4)) (v0 : Int) (v1 : Int) (v2 : Vec 4) (v3 : Vec 256) (v4 : Vec 256) : Option (Vec 4) :=
  cond (ltI v1 256)
   (cond (leI 0 (subI .i64 v1 v0))
    (cond (ltI (subI .i64 v1 v0) 256)
     (cond (leI 0 v1)
      (cond (ltI v1 256)
       (Ln0 v0 (addI .i64 v1 1) v2 v3 (Vec.st v4 v1 (Vec.rd v3 (subI .i64 v1 v0))))
       (none))
      (none))
     (none))
    (none))
   ((fn_tillerref01_of N (Vec.cut v4 0 256)).bind fun r2 =>
    some r2)
theorem step28_0 (N : Nat) (n : Nat) (v0 : Int) (v1 : Int) (v2 : Vec 4) (v3 : Vec 256) (v4 : Vec 256) : raw28_0 N  (n + 1) v0 v1 v2 v3 v4 = s28_0 N (raw28_0 N  n) v0 v1 v2 v3 v4 := by kernel_rfl
noncomputable def l28_0 (N : Nat) : Nat → Int → Int → Vec 4 → Vec 256 → Vec 256 → Option (Vec 4)
  | 0 => fun _ _ _ _ _ => none
  | n + 1 => fun v0 v1 v2 v3 v4 => s28_0 N (l28_0 N  n) v0 v1 v2 v3 v4
theorem eq28_0 (N : Nat) : ∀ n, raw28_0 N  n = l28_0 N  n := by
  intro n
  induction n with
  | zero => exact funext fun v0 => funext fun v1 => funext fun v2 => funext fun v3 => funext fun v4 => rfl
  | succ n ih => exact funext fun v0 => funext fun v1 => funext fun v2 => funext fun v3 => funext fun v4 => by rw [step28_0, ih]; rfl
noncomputable def t28 (N : Nat) (Le0 : Int → Int → Vec 4 → Vec 256 → Vec 256 → Option (Vec 4)) (x0 : Vec 4) (x1 : Int) : Option (Vec 4) :=
  cond (ltI x1 1)
   (some x0)
   (cond (ltI 255 x1)
    (some (Vec.zero 4))
    ((fn_tillerref01_bitsOf N x0).bind fun r1 =>
     Le0 x1 x1 (Vec.zero 4) r1 (Vec.zero 256)))
noncomputable def fn_tillerref01_Shl (N : Nat) (x0 : Vec 4) (x1 : Int) : Option (Vec 4) := t28 N (l28_0 N N) x0 x1
theorem run28 (N : Nat) (x0 : Vec 4) (x1 : Int) : Eng.run T28 (G28 N) N live28 c28 Try.f28.results.toList Try.f28.ntmps ((ad28).enc (x0, x1, ())) (rd28).dec = fn_tillerref01_Shl N x0 x1 := by
  refine Eq.trans (show _ = t28 N (raw28_0 N N) x0 x1 from by kernel_rfl) ?_
  unfold fn_tillerref01_Shl
  rw [eq28_0 N N]
noncomputable def F28 (N : Nat) (a : Vec 4 × Int × Unit) : Option (Vec 4) := fn_tillerref01_Shl N a.1 a.2.1
theorem ok28 (N : Nat) : FnOK Try.prog 28 ad28 rd28 (F28 N) :=
  fn_ok (N := N) (live := live28) (code := c28) (tok T28.rt) mixed (gok28 N) Try.func28 (by kernel_rfl) (by kernel_rfl) (by kernel_rfl) fun a p h => by rw [← h]; exact run28 N a.1 a.2.1

/-! ### math/bits.Mul64: function 36 -/
noncomputable def c36 : Code := (Try.f36.body).getD .skip
noncomputable def T36 : Tb := ⟨tyOf tys, []⟩
noncomputable def G36 {R : Type} (N : Nat) : FuncId → List AV → (AV → Option R) → Option R := gNil
theorem gok36 {R : Type} (N : Nat) : GOK Try.prog (G36 (R := R) N) := gNil_ok
noncomputable def live36 : List (Nat × List Nat) := []
noncomputable def ad36 : Ad (Int × Int × Unit) := aC (cInt .u64) (aC (cInt .u64) (a0))
noncomputable def rd36 : Rd (Int × Int) := r2 (cInt .u64) (cInt .u64)
noncomputable def fn_bits_Mul64 (N : Nat) (x0 : Int) (x1 : Int) : Option (Int × Int) :=
  some (addI .u64 (addI .u64 (mulI .u64 (shrI .u64 x0 32) (shrI .u64 x1 32)) (shrI .u64 (addI .u64 (mulI .u64 (shrI .u64 x0 32) (andI .u64 x1 4294967295)) (shrI .u64 (mulI .u64 (andI .u64 x0 4294967295) (andI .u64 x1 4294967295)) 32)) 32)) (shrI .u64 (addI .u64 (andI .u64 (addI .u64 (mulI .u64 (shrI .u64 x0 32) (andI .u64 x1 4294967295)) (shrI .u64 (mulI .u64 (andI .u64 x0 4294967295) (andI .u64 x1 4294967295)) 32)) 4294967295) (mulI .u64 (andI .u64 x0 4294967295) (shrI .u64 x1 32))) 32), mulI .u64 x0 x1)
theorem run36 (N : Nat) (x0 : Int) (x1 : Int) : Eng.run T36 (G36 N) N live36 c36 Try.f36.results.toList Try.f36.ntmps ((ad36).enc (x0, x1, ())) (rd36).dec = fn_bits_Mul64 N x0 x1 := by kernel_rfl
noncomputable def F36 (N : Nat) (a : Int × Int × Unit) : Option (Int × Int) := fn_bits_Mul64 N a.1 a.2.1
theorem ok36 (N : Nat) : FnOK Try.prog 36 ad36 rd36 (F36 N) :=
  fn_ok (N := N) (live := live36) (code := c36) (tok T36.rt) mixed (gok36 N) Try.func36 (by kernel_rfl) (by kernel_rfl) (by kernel_rfl) fun a p h => by rw [← h]; exact run36 N a.1 a.2.1

/-! ### tiller/wide.Mul: function 29 -/
noncomputable def c29 : Code := (Try.f29.body).getD .skip
noncomputable def T29 : Tb := ⟨tyOf tys, [(47, 6), (53, 6), (61, 6), (64, 6), (67, 6)]⟩
noncomputable def G29 {R : Type} (N : Nat) : FuncId → List AV → (AV → Option R) → Option R := gCons 36 (gOf ad36 rd36 (F36 N)) (gCons 34 (gOf (aI3 .u64) (r2 (cInt .u64) (cInt .u64)) (fun a => add64 a.1 a.2.1 a.2.2.1)) (gNil))
theorem gok29 {R : Type} (N : Nat) : GOK Try.prog (G29 (R := R) N) := gCons_ok (ok36 N) (gCons_ok (add64_ok Try.func34 (by kernel_rfl) (by kernel_rfl) (by kernel_rfl) (by kernel_rfl)) (gNil_ok))
noncomputable def live29 : List (Nat × List Nat) := [(3, [3, 4, 5, 6, 15, 16]), (7, [3, 4, 5, 6, 7, 8, 9, 15, 16, 20, 21])]
noncomputable def ad29 : Ad (Vec 4 × Vec 4 × Unit) := aC (cVec .u64 4) (aC (cVec .u64 4) (a0))
noncomputable def rd29 : Rd (Vec 4 × Vec 4) := r2 (cVec .u64 4) (cVec .u64 4)
noncomputable def st29_0 (v0 : Vec 4) (v1 : Int) (v2 : Vec 4) (v3 : Vec 4) (v4 : Vec 4) (v5 : Vec 8) : St := ⟨[AV.none, AV.none, AV.none, AV.ptr 3 0, AV.ptr 4 0, AV.ptr 5 0, AV.ptr 6 0, AV.none, AV.none, AV.none, AV.none, AV.none, AV.none, AV.none, AV.none, AV.arr .u64 4 v0, AV.v (.int .i64 v1), AV.none, AV.none, AV.none, AV.none, AV.none, AV.none, AV.none, AV.none, AV.none, AV.none, AV.none, AV.none, AV.none, AV.none, AV.none, AV.none, AV.none, AV.none, AV.none, AV.none, AV.none, AV.none, AV.none, AV.none, AV.none, AV.none, AV.none, AV.none, AV.none, AV.none, AV.none, AV.none, AV.none, AV.none, AV.none, AV.none, AV.none, AV.none, AV.none, AV.none, AV.none, AV.none, AV.none, AV.none, AV.none, AV.none, AV.none, AV.none, AV.none, AV.none, AV.none, AV.none], [none, none, none, some (OB.arr .u64 4 v2), some (OB.arr .u64 4 v3), some (OB.arr .u64 4 v4), some (OB.arr .u64 8 v5), none, none, none, none, none, none, none, none, none, none, none, none, none, none, none, none, none, none, none, none, none, none, none, none, none, none, none, none, none, none, none, none, none, none, none, none, none, none, none, none, none, none, none, none, none, none, none, none, none, none, none, none, none, none, none, none, none, none, none, none, none, none]⟩
noncomputable def raw29_0 (N : Nat) (n : Nat) (v0 : Vec 4) (v1 : Int) (v2 : Vec 4) (v3 : Vec 4) (v4 : Vec 4) (v5 : Vec 8) : Option (Vec 4 × Vec 4) := loopN (lookN live29 3) (exec T29 (G29 N) N live29 (cL (cL (cR (cL (cR (cR c29))))))) n (st29_0 v0 v1 v2 v3 v4 v5) (blockK 0 (seqK (exec T29 (G29 N) N live29 (cR (cR (cR c29)))) (retK T29 Try.f29.results.toList (rd29).dec)))
noncomputable def st29_1 (v0 : Int) (v1 : Int) (v2 : Int) (v3 : Vec 4) (v4 : Int) (v5 : Vec 4) (v6 : Int) (v7 : Vec 4) (v8 : Vec 4) (v9 : Vec 4) (v10 : Vec 8) : St := ⟨[AV.none, AV.none, AV.none, AV.ptr 3 0, AV.ptr 4 0, AV.ptr 5 0, AV.ptr 6 0, AV.v (.int .i64 v0), AV.v (.int .u64 v1), AV.v (.int .u64 v2), AV.none, AV.none, AV.none, AV.none, AV.none, AV.arr .u64 4 v3, AV.v (.int .i64 v4), AV.none, AV.none, AV.none, AV.arr .u64 4 v5, AV.v (.int .i64 v6), AV.none, AV.none, AV.none, AV.none, AV.none, AV.none, AV.none, AV.none, AV.none, AV.none, AV.none, AV.none, AV.none, AV.none, AV.none, AV.none, AV.none, AV.none, AV.none, AV.none, AV.none, AV.none, AV.none, AV.none, AV.none, AV.none, AV.none, AV.none, AV.none, AV.none, AV.none, AV.none, AV.none, AV.none, AV.none, AV.none, AV.none, AV.none, AV.none, AV.none, AV.none, AV.none, AV.none, AV.none, AV.none, AV.none, AV.none], [none, none, none, some (OB.arr .u64 4 v7), some (OB.arr .u64 4 v8), some (OB.arr .u64 4 v9), some (OB.arr .u64 8 v10), none, none, none, none, none, none, none, none, none, none, none, none, none, none, none, none, none, none, none, none, none, none, none, none, none, none, none, none, none, none, none, none, none, none, none, none, none, none, none, none, none, none, none, none, none, none, none, none, none, none, none, none, none, none, none, none, none, none, none, none, none, none]⟩
noncomputable def raw29_1 (N : Nat) (m0 : Nat) (n : Nat) (v0 : Int) (v1 : Int) (v2 : Int) (v3 : Vec 4) (v4 : Int) (v5 : Vec 4) (v6 : Int) (v7 : Vec 4) (v8 : Vec 4) (v9 : Vec 4) (v10 : Vec 8) : Option (Vec 4 × Vec 4) := loopN (lookN live29 7) (exec T29 (G29 N) N live29 (cL (cL (cR (cL (cR (cR (cL (cL (cR (cR (cL (cL (cR (cL (cR (cR c29))))))))))))))))) n (st29_1 v0 v1 v2 v3 v4 v5 v6 v7 v8 v9 v10) (blockK 2 (seqK (exec T29 (G29 N) N live29 (cR (cR (cR (cL (cL (cR (cR (cL (cL (cR (cL (cR (cR c29)))))))))))))) (blockK 1 (seqK (exec T29 (G29 N) N live29 (cR (cR (cR (cL (cL (cR (cL (cR (cR c29)))))))))) (roundK (fun s => loopN (lookN live29 3) (exec T29 (G29 N) N live29 (cL (cL (cR (cL (cR (cR c29))))))) m0 s (blockK 0 (seqK (exec T29 (G29 N) N live29 (cR (cR (cR c29)))) (retK T29 Try.f29.results.toList (rd29).dec)))) (lookN live29 3) (blockK 0 (seqK (exec T29 (G29 N) N live29 (cR (cR (cR c29)))) (retK T29 Try.f29.results.toList (rd29).dec))))))))
noncomputable def s29_1 (N : Nat) (Ln1 : Int → Int → Int → Vec 4 → Int → Vec 4 → Int → Vec 4 → Vec 4 → Vec 4 → Vec 8 → Option (Vec 4 × Vec 4)) (Ln0 : Vec 4 → Int → Vec 4 → Vec 4 → Vec 4 → Vec 8 → Option (Vec 4 × Vec 4)) (v0 : Int) (v1 : Int) (v2 : Int) (v3 : Vec 4) (v4 : Int) (v5 : Vec 4) (v6 : Int) (v7 : Vec 4) (v8 : Vec 4) (v9 : Vec 4) (v10 : Vec 8) : Option (Vec 4 × Vec 4) :=
  cond (ltI v6 4)
   (cond (leI 0 v6)
    (cond (ltI v6 4)
     ((fn_bits_Mul64 N v1 (Vec.rd v5 v6)).bind fun r1 =>
      (add64 r1.2 v2 0).bind fun r2 =>
       cond (leI 0 (addI .i64 v0 v6))
        (cond (ltI (addI .i64 v0 v6) 8)
         ((add64 (Vec.rd v10 (addI .i64 v0 v6)) r2.1 0).bind fun r3 =>
          cond (leI 0 (addI .i64 v0 v6))
           (cond (ltI (addI .i64 v0 v6) 8)
            (Ln1 v0 v1 (addI .u64 (addI .u64 r1.1 r2.2) r3.2) v3 v4 v5 (addI .i64 v6 1) v7 v8 v9 (Vec.st v10 (addI .i64 v0 v6) r3.1))
            (none))
           (none))
         (none))
        (none))
     (none))
    (none))
   (cond (leI 0 (addI .i64 v0 4))
    (cond (ltI (addI .i64 v0 4) 8)
     (Ln0 v3 (addI .i64 v4 1) v7 v8 v9 (Vec.st v10 (addI .i64 v0 4) v2))
     (none))
    (none))
theorem step29_1 (N : Nat) (m0 : Nat) (n : Nat) (v0 : Int) (v1 : Int) (v2 : Int) (v3 : Vec 4) (v4 : Int) (v5 : Vec 4) (v6 : Int) (v7 : Vec 4) (v8 : Vec 4) (v9 : Vec 4) (v10 : Vec 8) : raw29_1 N m0 (n + 1) v0 v1 v2 v3 v4 v5 v6 v7 v8 v9 v10 = s29_1 N (raw29_1 N m0 n) (raw29_0 N  m0) v0 v1 v2 v3 v4 v5 v6 v7 v8 v9 v10 := by kernel_rfl
noncomputable def l29_1 (N : Nat) (E0 : Vec 4 → Int → Vec 4 → Vec 4 → Vec 4 → Vec 8 → Option (Vec 4 × Vec 4)) : Nat → Int → Int → Int → Vec 4 → Int → Vec 4 → Int → Vec 4 → Vec 4 → Vec 4 → Vec 8 → Option (Vec 4 × Vec 4)
  | 0 => fun _ _ _ _ _ _ _ _ _ _ _ => none
  | n + 1 => fun v0 v1 v2 v3 v4 v5 v6 v7 v8 v9 v10 => s29_1 N (l29_1 N E0 n) E0 v0 v1 v2 v3 v4 v5 v6 v7 v8 v9 v10
theorem eq29_1 (N : Nat) (m0 : Nat) : ∀ n, raw29_1 N m0 n = l29_1 N (raw29_0 N  m0) n := by
  intro n
  induction n with
  | zero => exact funext fun v0 => funext fun v1 => funext fun v2 => funext fun v3 => funext fun v4 => funext fun v5 => funext fun v6 => funext fun v7 => funext fun v8 => funext fun v9 => funext fun v10 => rfl
  | succ n ih => exact funext fun v0 => funext fun v1 => funext fun v2 => funext fun v3 => funext fun v4 => funext fun v5 => funext fun v6 => funext fun v7 => funext fun v8 => funext fun v9 => funext fun v10 => by rw [step29_1, ih]; rfl
noncomputable def s29_0 (N : Nat) (Le1 : Int → Int → Int → Vec 4 → Int → Vec 4 → Int → Vec 4 → Vec 4 → Vec 4 → Vec 8 → Option (Vec 4 × Vec 4)) (v0 : Vec 4) (v1 : Int) (v2 : Vec 4) (v3 : Vec 4) (v4 : Vec 4) (v5 : Vec 8) : Option (Vec 4 × Vec 4) :=
  cond (ltI v1 4)
   (cond (leI 0 v1)
    (cond (ltI v1 4)
     (Le1 v1 (Vec.rd v0 v1) 0 v0 v1 v2 0 v2 v3 v4 v5)
     (none))
    (none))
   (some (v5.sub 0 4 (by decide), v5.sub 4 4 (by decide)))
theorem step29_0 (N : Nat) (n : Nat) (v0 : Vec 4) (v1 : Int) (v2 : Vec 4) (v3 : Vec 4) (v4 : Vec 4) (v5 : Vec 8) : raw29_0 N  (n + 1) v0 v1 v2 v3 v4 v5 = s29_0 N (raw29_1 N n N) v0 v1 v2 v3 v4 v5 := by kernel_rfl
noncomputable def l29_0 (N : Nat) : Nat → Vec 4 → Int → Vec 4 → Vec 4 → Vec 4 → Vec 8 → Option (Vec 4 × Vec 4)
  | 0 => fun _ _ _ _ _ _ => none
  | n + 1 => fun v0 v1 v2 v3 v4 v5 => s29_0 N (l29_1 N (l29_0 N  n) N) v0 v1 v2 v3 v4 v5
theorem eq29_0 (N : Nat) : ∀ n, raw29_0 N  n = l29_0 N  n := by
  intro n
  induction n with
  | zero => exact funext fun v0 => funext fun v1 => funext fun v2 => funext fun v3 => funext fun v4 => funext fun v5 => rfl
  | succ n ih => exact funext fun v0 => funext fun v1 => funext fun v2 => funext fun v3 => funext fun v4 => funext fun v5 => by rw [step29_0, eq29_1 N n N, ih]; rfl
noncomputable def t29 (N : Nat) (Le0 : Vec 4 → Int → Vec 4 → Vec 4 → Vec 4 → Vec 8 → Option (Vec 4 × Vec 4)) (x0 : Vec 4) (x1 : Vec 4) : Option (Vec 4 × Vec 4) :=
  Le0 x0 0 x1 (Vec.zero 4) (Vec.zero 4) (Vec.zero 8)
noncomputable def fn_wide_Mul (N : Nat) (x0 : Vec 4) (x1 : Vec 4) : Option (Vec 4 × Vec 4) := t29 N (l29_0 N N) x0 x1
theorem run29 (N : Nat) (x0 : Vec 4) (x1 : Vec 4) : Eng.run T29 (G29 N) N live29 c29 Try.f29.results.toList Try.f29.ntmps ((ad29).enc (x0, x1, ())) (rd29).dec = fn_wide_Mul N x0 x1 := by
  refine Eq.trans (show _ = t29 N (raw29_0 N N) x0 x1 from by kernel_rfl) ?_
  unfold fn_wide_Mul
  rw [eq29_0 N N]
noncomputable def F29 (N : Nat) (a : Vec 4 × Vec 4 × Unit) : Option (Vec 4 × Vec 4) := fn_wide_Mul N a.1 a.2.1
theorem ok29 (N : Nat) : FnOK Try.prog 29 ad29 rd29 (F29 N) :=
  fn_ok (N := N) (live := live29) (code := c29) (tok T29.rt) mixed (gok29 N) Try.func29 (by kernel_rfl) (by kernel_rfl) (by kernel_rfl) fun a p h => by rw [← h]; exact run29 N a.1 a.2.1
end Go.Proofs.Ytpppedolgipikaa.Fns

/- Go functions as plain Lean functions, and the engine's run of each. No statement is proved here. Laid by eng.py. -/
import Derived.Test.YtbdfjjgkjpnahaaDoorFn0
namespace Go.Proofs.YtbdfjjgkjpnahaaDoor.Fns
open Go Go.RowKit Go.Proofs Go.Proofs.YtbdfjjgkjpnahaaDoor.Eng Go.Proofs.YtbdfjjgkjpnahaaDoor.Num
set_option linter.unusedVariables false
set_option maxRecDepth 100000
/-! ### math/bits.Len64: function 19 -/
noncomputable def c19 : Code := (Tryd.f19.body).getD .skip
noncomputable def T19 : Tb := ⟨tyOf tys, [], []⟩
noncomputable def G19 {R : Type} (N : Nat) : FuncId → List AV → (AV → Option R) → Option R := gNil
theorem gok19 {R : Type} (N : Nat) : GOK Tryd.prog (G19 (R := R) N) := gNil_ok
noncomputable def live19 : List (Nat × List (Nat × HK)) := []
noncomputable def ad19 : Ad (Int × Unit) := aC (cInt .u64) (a0)
noncomputable def rd19 : Rd (Int) := r1 (cInt .i64)
noncomputable def fn_bits_Len64 (N : Nat) (x0 : Int) : Option (Int) :=
  cond (leI 4294967296 x0)
   (cond (leI 65536 (shrI .u64 x0 32))
    (cond (leI 256 (shrI .u64 (shrI .u64 x0 32) 16))
     (cond (leI 0 (cvI .u8 (shrI .u64 (shrI .u64 (shrI .u64 x0 32) 16) 8)))
      (cond (ltI (cvI .u8 (shrI .u64 (shrI .u64 (shrI .u64 x0 32) 16) 8)) (str0.size : Int))
       (some (addI .i64 (addI .i64 (addI .i64 32 16) 8) (cvI .i64 (sAt str0 (cvI .u8 (shrI .u64 (shrI .u64 (shrI .u64 x0 32) 16) 8))))))
       (none))
      (none))
     (cond (leI 0 (cvI .u8 (shrI .u64 (shrI .u64 x0 32) 16)))
      (cond (ltI (cvI .u8 (shrI .u64 (shrI .u64 x0 32) 16)) (str0.size : Int))
       (some (addI .i64 (addI .i64 32 16) (cvI .i64 (sAt str0 (cvI .u8 (shrI .u64 (shrI .u64 x0 32) 16))))))
       (none))
      (none)))
    (cond (leI 256 (shrI .u64 x0 32))
     (cond (leI 0 (cvI .u8 (shrI .u64 (shrI .u64 x0 32) 8)))
      (cond (ltI (cvI .u8 (shrI .u64 (shrI .u64 x0 32) 8)) (str0.size : Int))
       (some (addI .i64 (addI .i64 32 8) (cvI .i64 (sAt str0 (cvI .u8 (shrI .u64 (shrI .u64 x0 32) 8))))))
       (none))
      (none))
     (cond (leI 0 (cvI .u8 (shrI .u64 x0 32)))
      (cond (ltI (cvI .u8 (shrI .u64 x0 32)) (str0.size : Int))
       (some (addI .i64 32 (cvI .i64 (sAt str0 (cvI .u8 (shrI .u64 x0 32))))))
       (none))
      (none))))
   (cond (leI 65536 x0)
    (cond (leI 256 (shrI .u64 x0 16))
     (cond (leI 0 (cvI .u8 (shrI .u64 (shrI .u64 x0 16) 8)))
      (cond (ltI (cvI .u8 (shrI .u64 (shrI .u64 x0 16) 8)) (str0.size : Int))
       (some (addI .i64 (addI .i64 (addI .i64 0 16) 8) (cvI .i64 (sAt str0 (cvI .u8 (shrI .u64 (shrI .u64 x0 16) 8))))))
       (none))
      (none))
     (cond (leI 0 (cvI .u8 (shrI .u64 x0 16)))
      (cond (ltI (cvI .u8 (shrI .u64 x0 16)) (str0.size : Int))
       (some (addI .i64 (addI .i64 0 16) (cvI .i64 (sAt str0 (cvI .u8 (shrI .u64 x0 16))))))
       (none))
      (none)))
    (cond (leI 256 x0)
     (cond (leI 0 (cvI .u8 (shrI .u64 x0 8)))
      (cond (ltI (cvI .u8 (shrI .u64 x0 8)) (str0.size : Int))
       (some (addI .i64 (addI .i64 0 8) (cvI .i64 (sAt str0 (cvI .u8 (shrI .u64 x0 8))))))
       (none))
      (none))
     (cond (leI 0 (cvI .u8 x0))
      (cond (ltI (cvI .u8 x0) (str0.size : Int))
       (some (addI .i64 0 (cvI .i64 (sAt str0 (cvI .u8 x0)))))
       (none))
      (none))))
theorem run19 (N : Nat) (x0 : Int) : Eng.run T19 (G19 N) N live19 c19 Tryd.f19.results.toList Tryd.f19.ntmps ((ad19).enc (x0, ())) (rd19).dec = fn_bits_Len64 N x0 := by kernel_rfl
noncomputable def F19 (N : Nat) (a : Int × Unit) : Option (Int) := fn_bits_Len64 N a.1
theorem ok19 (N : Nat) : FnOK Tryd.prog 19 ad19 rd19 (F19 N) :=
  fn_ok (N := N) (live := live19) (code := c19) (tok T19.rt T19.kl) mixed (gok19 N) Tryd.func19 (by kernel_rfl) (by kernel_rfl) (by kernel_rfl) fun a p h => by rw [← h]; exact run19 N a.1

/-! ### tiller/wide.Len: function 10 -/
noncomputable def c10 : Code := (Tryd.f10.body).getD .skip
noncomputable def T10 : Tb := ⟨tyOf tys, [(9, 1), (15, 1)], []⟩
noncomputable def G10 {R : Type} (N : Nat) : FuncId → List AV → (AV → Option R) → Option R := gCons 19 (gOf ad19 rd19 (F19 N)) (gNil)
theorem gok10 {R : Type} (N : Nat) : GOK Tryd.prog (G10 (R := R) N) := gCons_ok (ok19 N) (gNil_ok)
noncomputable def live10 : List (Nat × List (Nat × HK)) := [(2, [(1, .keep), (3, .keep)])]
noncomputable def ad10 : Ad (Vec 4 × Unit) := aC (cVec .u64 4) (a0)
noncomputable def rd10 : Rd (Int) := r1 (cInt .i64)
noncomputable def st10_0 (v0 : Int) (v1 : Vec 4) : St := ⟨[AV.none, AV.ptr 1 0, AV.none, AV.v (.int .i64 v0), AV.none, AV.none, AV.none, AV.none, AV.none, AV.none, AV.none, AV.none, AV.none, AV.none, AV.none, AV.none, AV.none, AV.none, AV.none], [none, some (OB.arr .u64 4 v1), none, none, none, none, none, none, none, none, none, none, none, none, none, none, none, none, none]⟩
noncomputable def raw10_0 (N : Nat) (n : Nat) (v0 : Int) (v1 : Vec 4) : Option (Int) := loopN (lookN live10 2) (exec T10 (G10 N) N live10 (cL (cL (cR (cL (cR c10)))))) n (st10_0 v0 v1) (blockK 0 (seqK (exec T10 (G10 N) N live10 (cR (cR c10))) (retK T10 Tryd.f10.results.toList (rd10).dec)))
noncomputable def s10_0 (N : Nat) (Ln0 : Int → Vec 4 → Option (Int)) (v0 : Int) (v1 : Vec 4) : Option (Int) :=
  cond (leI 0 v0)
   (cond (leI 0 v0)
    (cond (ltI v0 4)
     (cond (!(eqI (Vec.rd v1 v0) 0))
      (cond (leI 0 v0)
       (cond (ltI v0 4)
        ((fn_bits_Len64 N (Vec.rd v1 v0)).bind fun r1 =>
         some (addI .i64 (mulI .i64 64 v0) r1))
        (none))
       (none))
      (Ln0 (subI .i64 v0 1) v1))
     (none))
    (none))
   (some 0)
theorem step10_0 (N : Nat) (n : Nat) (v0 : Int) (v1 : Vec 4) : raw10_0 N  (n + 1) v0 v1 = s10_0 N (raw10_0 N  n) v0 v1 := by kernel_rfl
noncomputable def l10_0 (N : Nat) : Nat → Int → Vec 4 → Option (Int)
  | 0 => fun _ _ => none
  | n + 1 => fun v0 v1 => s10_0 N (l10_0 N  n) v0 v1
theorem eq10_0 (N : Nat) : ∀ n, raw10_0 N  n = l10_0 N  n := by
  intro n
  induction n with
  | zero => exact funext fun v0 => funext fun v1 => rfl
  | succ n ih => exact funext fun v0 => funext fun v1 => by rw [step10_0, ih]; rfl
noncomputable def t10 (N : Nat) (Le0 : Int → Vec 4 → Option (Int)) (x0 : Vec 4) : Option (Int) :=
  Le0 3 x0
noncomputable def fn_wide_Len (N : Nat) (x0 : Vec 4) : Option (Int) := t10 N (l10_0 N N) x0
theorem run10 (N : Nat) (x0 : Vec 4) : Eng.run T10 (G10 N) N live10 c10 Tryd.f10.results.toList Tryd.f10.ntmps ((ad10).enc (x0, ())) (rd10).dec = fn_wide_Len N x0 := by
  refine Eq.trans (show _ = t10 N (raw10_0 N N) x0 from by kernel_rfl) ?_
  unfold fn_wide_Len
  rw [eq10_0 N N]
noncomputable def F10 (N : Nat) (a : Vec 4 × Unit) : Option (Int) := fn_wide_Len N a.1
theorem ok10 (N : Nat) : FnOK Tryd.prog 10 ad10 rd10 (F10 N) :=
  fn_ok (N := N) (live := live10) (code := c10) (tok T10.rt T10.kl) mixed (gok10 N) Tryd.func10 (by kernel_rfl) (by kernel_rfl) (by kernel_rfl) fun a p h => by rw [← h]; exact run10 N a.1

/-! ### tiller/wide.Shl: function 12 -/
noncomputable def c12 : Code := (Tryd.f12.body).getD .skip
noncomputable def T12 : Tb := ⟨tyOf tys, [(25, 2), (30, 5), (35, 5), (41, 2), (48, 5)], []⟩
noncomputable def G12 {R : Type} (N : Nat) : FuncId → List AV → (AV → Option R) → Option R := gNil
theorem gok12 {R : Type} (N : Nat) : GOK Tryd.prog (G12 (R := R) N) := gNil_ok
noncomputable def live12 : List (Nat × List (Nat × HK)) := [(8, [(1, .keep), (2, .keep), (4, .keep), (5, .keep), (6, .keep), (7, .keep)])]
noncomputable def ad12 : Ad (Vec 4 × Int × Unit) := aC (cVec .u64 4) (aC (cInt .i64) (a0))
noncomputable def rd12 : Rd (Vec 4) := r1 (cVec .u64 4)
noncomputable def st12_0 (v0 : Int) (v1 : Int) (v2 : Int) (v3 : Vec 4) (v4 : Vec 4) (v5 : Vec 4) : St := ⟨[AV.none, AV.v (.int .i64 v0), AV.ptr 2 0, AV.none, AV.ptr 4 0, AV.ptr 5 0, AV.v (.int .i64 v1), AV.v (.int .i64 v2), AV.none, AV.none, AV.none, AV.none, AV.none, AV.none, AV.none, AV.none, AV.none, AV.none, AV.none, AV.none, AV.none, AV.none, AV.none, AV.none, AV.none, AV.none, AV.none, AV.none, AV.none, AV.none, AV.none, AV.none, AV.none, AV.none, AV.none, AV.none, AV.none, AV.none, AV.none, AV.none, AV.none, AV.none, AV.none, AV.none, AV.none, AV.none, AV.none, AV.none, AV.none, AV.none], [none, none, some (OB.arr .u64 4 v3), none, some (OB.arr .u64 4 v4), some (OB.arr .u64 4 v5), none, none, none, none, none, none, none, none, none, none, none, none, none, none, none, none, none, none, none, none, none, none, none, none, none, none, none, none, none, none, none, none, none, none, none, none, none, none, none, none, none, none, none, none]⟩
noncomputable def raw12_0 (N : Nat) (n : Nat) (v0 : Int) (v1 : Int) (v2 : Int) (v3 : Vec 4) (v4 : Vec 4) (v5 : Vec 4) : Option (Vec 4) := loopN (lookN live12 8) (exec T12 (G12 N) N live12 (cL (cL (cR (cL (cR (cR (cR (cR (cR c12)))))))))) n (st12_0 v0 v1 v2 v3 v4 v5) (blockK 0 (seqK (exec T12 (G12 N) N live12 (cR (cR (cR (cR (cR (cR c12))))))) (retK T12 Tryd.f12.results.toList (rd12).dec)))
noncomputable def s12_0 (N : Nat) (Ln0 : Int → Int → Int → Vec 4 → Vec 4 → Vec 4 → Option (Vec 4)) (v0 : Int) (v1 : Int) (v2 : Int) (v3 : Vec 4) (v4 : Vec 4) (v5 : Vec 4) : Option (Vec 4) :=
  cond (leI v1 v2)
   (cond (leI 0 (subI .i64 v2 v1))
    (cond (ltI (subI .i64 v2 v1) 4)
     (cond (ltI (remI .i64 v0 64) 0)
      (none)
      (cond (leI 0 v2)
       (cond (ltI v2 4)
        (cond (ltI v1 v2)
         (cond (leI 0 v2)
          (cond (ltI v2 4)
           (cond (leI 0 (subI .i64 (subI .i64 v2 v1) 1))
            (cond (ltI (subI .i64 (subI .i64 v2 v1) 1) 4)
             (cond (ltI (subI .i64 64 (remI .i64 v0 64)) 0)
              (none)
              (cond (leI 0 v2)
               (cond (ltI v2 4)
                (Ln0 v0 v1 (subI .i64 v2 1) v3 v4 (Vec.st (Vec.st v5 v2 (shlI .u64 (Vec.rd v3 (subI .i64 v2 v1)) (remI .i64 v0 64))) v2 (orI .u64 (Vec.rd (Vec.st v5 v2 (shlI .u64 (Vec.rd v3 (subI .i64 v2 v1)) (remI .i64 v0 64))) v2) (shrI .u64 (Vec.rd v3 (subI .i64 (subI .i64 v2 v1) 1)) (subI .i64 64 (remI .i64 v0 64))))))
                (none))
               (none)))
             (none))
            (none))
           (none))
          (none))
         (Ln0 v0 v1 (subI .i64 v2 1) v3 v4 (Vec.st v5 v2 (shlI .u64 (Vec.rd v3 (subI .i64 v2 v1)) (remI .i64 v0 64)))))
        (none))
       (none)))
     (none))
    (none))
   (some v5)
theorem step12_0 (N : Nat) (n : Nat) (v0 : Int) (v1 : Int) (v2 : Int) (v3 : Vec 4) (v4 : Vec 4) (v5 : Vec 4) : raw12_0 N  (n + 1) v0 v1 v2 v3 v4 v5 = s12_0 N (raw12_0 N  n) v0 v1 v2 v3 v4 v5 := by kernel_rfl
noncomputable def l12_0 (N : Nat) : Nat → Int → Int → Int → Vec 4 → Vec 4 → Vec 4 → Option (Vec 4)
  | 0 => fun _ _ _ _ _ _ => none
  | n + 1 => fun v0 v1 v2 v3 v4 v5 => s12_0 N (l12_0 N  n) v0 v1 v2 v3 v4 v5
theorem eq12_0 (N : Nat) : ∀ n, raw12_0 N  n = l12_0 N  n := by
  intro n
  induction n with
  | zero => exact funext fun v0 => funext fun v1 => funext fun v2 => funext fun v3 => funext fun v4 => funext fun v5 => rfl
  | succ n ih => exact funext fun v0 => funext fun v1 => funext fun v2 => funext fun v3 => funext fun v4 => funext fun v5 => by rw [step12_0, ih]; rfl
noncomputable def t12 (N : Nat) (Le0 : Int → Int → Int → Vec 4 → Vec 4 → Vec 4 → Option (Vec 4)) (x0 : Vec 4) (x1 : Int) : Option (Vec 4) :=
  cond (ltI x1 1)
   (some x0)
   (cond (leI 256 x1)
    (some (Vec.zero 4))
    (Le0 x1 (quoI .i64 x1 64) 3 x0 (Vec.zero 4) (Vec.zero 4)))
noncomputable def fn_wide_Shl (N : Nat) (x0 : Vec 4) (x1 : Int) : Option (Vec 4) := t12 N (l12_0 N N) x0 x1
theorem run12 (N : Nat) (x0 : Vec 4) (x1 : Int) : Eng.run T12 (G12 N) N live12 c12 Tryd.f12.results.toList Tryd.f12.ntmps ((ad12).enc (x0, x1, ())) (rd12).dec = fn_wide_Shl N x0 x1 := by
  refine Eq.trans (show _ = t12 N (raw12_0 N N) x0 x1 from by kernel_rfl) ?_
  unfold fn_wide_Shl
  rw [eq12_0 N N]
noncomputable def F12 (N : Nat) (a : Vec 4 × Int × Unit) : Option (Vec 4) := fn_wide_Shl N a.1 a.2.1
theorem ok12 (N : Nat) : FnOK Tryd.prog 12 ad12 rd12 (F12 N) :=
  fn_ok (N := N) (live := live12) (code := c12) (tok T12.rt T12.kl) mixed (gok12 N) Tryd.func12 (by kernel_rfl) (by kernel_rfl) (by kernel_rfl) fun a p h => by rw [← h]; exact run12 N a.1 a.2.1

/-! ### tiller/wide.Sub: function 11 -/
noncomputable def c11 : Code := (Tryd.f11.body).getD .skip
noncomputable def T11 : Tb := ⟨tyOf tys, [(14, 2), (17, 3), (23, 2)], []⟩
noncomputable def G11 {R : Type} (N : Nat) : FuncId → List AV → (AV → Option R) → Option R := gCons 20 (gOf (aI3 .u64) (r2 (cInt .u64) (cInt .u64)) (fun a => sub64 a.1 a.2.1 a.2.2.1)) (gNil)
theorem gok11 {R : Type} (N : Nat) : GOK Tryd.prog (G11 (R := R) N) := gCons_ok (sub64_ok Tryd.func20 (by kernel_rfl) (by kernel_rfl) (by kernel_rfl) (by kernel_rfl)) (gNil_ok)
noncomputable def live11 : List (Nat × List (Nat × HK)) := [(3, [(2, .keep), (3, .keep), (4, .keep), (6, .keep), (8, .keep)])]
noncomputable def ad11 : Ad (Vec 4 × Vec 4 × Unit) := aC (cVec .u64 4) (aC (cVec .u64 4) (a0))
noncomputable def rd11 : Rd (Vec 4 × Bool) := r2 (cVec .u64 4) (cBool)
noncomputable def st11_0 (v0 : Int) (v1 : Int) (v2 : Vec 4) (v3 : Vec 4) (v4 : Vec 4) : St := ⟨[AV.none, AV.none, AV.ptr 2 0, AV.ptr 3 0, AV.ptr 4 0, AV.none, AV.v (.int .u64 v0), AV.none, AV.v (.int .i64 v1), AV.none, AV.none, AV.none, AV.none, AV.none, AV.none, AV.none, AV.none, AV.none, AV.none, AV.none, AV.none, AV.none, AV.none, AV.none, AV.none, AV.none, AV.none, AV.none], [none, none, some (OB.arr .u64 4 v2), some (OB.arr .u64 4 v3), some (OB.arr .u64 4 v4), none, none, none, none, none, none, none, none, none, none, none, none, none, none, none, none, none, none, none, none, none, none, none]⟩
noncomputable def raw11_0 (N : Nat) (n : Nat) (v0 : Int) (v1 : Int) (v2 : Vec 4) (v3 : Vec 4) (v4 : Vec 4) : Option (Vec 4 × Bool) := loopN (lookN live11 3) (exec T11 (G11 N) N live11 (cL (cL (cR (cL (cR (cR c11))))))) n (st11_0 v0 v1 v2 v3 v4) (blockK 0 (seqK (exec T11 (G11 N) N live11 (cR (cR (cR c11)))) (retK T11 Tryd.f11.results.toList (rd11).dec)))
noncomputable def s11_0 (N : Nat) (Ln0 : Int → Int → Vec 4 → Vec 4 → Vec 4 → Option (Vec 4 × Bool)) (v0 : Int) (v1 : Int) (v2 : Vec 4) (v3 : Vec 4) (v4 : Vec 4) : Option (Vec 4 × Bool) :=
  cond (ltI v1 4)
   (cond (leI 0 v1)
    (cond (ltI v1 4)
     (cond (leI 0 v1)
      (cond (ltI v1 4)
       ((sub64 (Vec.rd v2 v1) (Vec.rd v3 v1) v0).bind fun r1 =>
        cond (leI 0 v1)
         (cond (ltI v1 4)
          (Ln0 r1.2 (addI .i64 v1 1) (Vec.st v2 v1 r1.1) v3 v4)
          (none))
         (none))
       (none))
      (none))
     (none))
    (none))
   (some (v2, !(eqI v0 0)))
theorem step11_0 (N : Nat) (n : Nat) (v0 : Int) (v1 : Int) (v2 : Vec 4) (v3 : Vec 4) (v4 : Vec 4) : raw11_0 N  (n + 1) v0 v1 v2 v3 v4 = s11_0 N (raw11_0 N  n) v0 v1 v2 v3 v4 := by kernel_rfl
noncomputable def l11_0 (N : Nat) : Nat → Int → Int → Vec 4 → Vec 4 → Vec 4 → Option (Vec 4 × Bool)
  | 0 => fun _ _ _ _ _ => none
  | n + 1 => fun v0 v1 v2 v3 v4 => s11_0 N (l11_0 N  n) v0 v1 v2 v3 v4
theorem eq11_0 (N : Nat) : ∀ n, raw11_0 N  n = l11_0 N  n := by
  intro n
  induction n with
  | zero => exact funext fun v0 => funext fun v1 => funext fun v2 => funext fun v3 => funext fun v4 => rfl
  | succ n ih => exact funext fun v0 => funext fun v1 => funext fun v2 => funext fun v3 => funext fun v4 => by rw [step11_0, ih]; rfl
noncomputable def t11 (N : Nat) (Le0 : Int → Int → Vec 4 → Vec 4 → Vec 4 → Option (Vec 4 × Bool)) (x0 : Vec 4) (x1 : Vec 4) : Option (Vec 4 × Bool) :=
  Le0 0 0 x0 x1 (Vec.zero 4)
noncomputable def fn_wide_Sub (N : Nat) (x0 : Vec 4) (x1 : Vec 4) : Option (Vec 4 × Bool) := t11 N (l11_0 N N) x0 x1
theorem run11 (N : Nat) (x0 : Vec 4) (x1 : Vec 4) : Eng.run T11 (G11 N) N live11 c11 Tryd.f11.results.toList Tryd.f11.ntmps ((ad11).enc (x0, x1, ())) (rd11).dec = fn_wide_Sub N x0 x1 := by
  refine Eq.trans (show _ = t11 N (raw11_0 N N) x0 x1 from by kernel_rfl) ?_
  unfold fn_wide_Sub
  rw [eq11_0 N N]
noncomputable def F11 (N : Nat) (a : Vec 4 × Vec 4 × Unit) : Option (Vec 4 × Bool) := fn_wide_Sub N a.1 a.2.1
theorem ok11 (N : Nat) : FnOK Tryd.prog 11 ad11 rd11 (F11 N) :=
  fn_ok (N := N) (live := live11) (code := c11) (tok T11.rt T11.kl) mixed (gok11 N) Tryd.func11 (by kernel_rfl) (by kernel_rfl) (by kernel_rfl) fun a p h => by rw [← h]; exact run11 N a.1 a.2.1

/-! ### tiller/wide.DivMod: function 4 -/
noncomputable def c4 : Code := (Tryd.f4.body).getD .skip
noncomputable def T4 : Tb := ⟨tyOf tys, [(39, 7), (45, 7)], []⟩
noncomputable def G4 {R : Type} (N : Nat) : FuncId → List AV → (AV → Option R) → Option R := gCons 10 (gOf ad10 rd10 (F10 N)) (gCons 12 (gOf ad12 rd12 (F12 N)) (gCons 11 (gOf ad11 rd11 (F11 N)) (gNil)))
theorem gok4 {R : Type} (N : Nat) : GOK Tryd.prog (G4 (R := R) N) := gCons_ok (ok10 N) (gCons_ok (ok12 N) (gCons_ok (ok11 N) (gNil_ok)))
noncomputable def live4 : List (Nat × List (Nat × HK)) := [(5, [(2, .keep), (3, .keep), (4, .keep), (5, .keep), (7, .keep), (8, .keep)])]
noncomputable def ad4 : Ad (Vec 4 × Vec 4 × Unit) := aC (cVec .u64 4) (aC (cVec .u64 4) (a0))
noncomputable def rd4 : Rd (Vec 4 × Vec 4 × Option Int) := r3 (cVec .u64 4) (cVec .u64 4) (cErr 38)
noncomputable def st4_0 (v0 : Int) (v1 : Vec 4) (v2 : Vec 4) (v3 : Vec 4) (v4 : Vec 4) (v5 : Vec 4) : St := ⟨[AV.none, AV.none, AV.ptr 2 0, AV.ptr 3 0, AV.ptr 4 0, AV.ptr 5 0, AV.none, AV.ptr 7 0, AV.v (.int .i64 v0), AV.none, AV.none, AV.none, AV.none, AV.none, AV.none, AV.none, AV.none, AV.none, AV.none, AV.none, AV.none, AV.none, AV.none, AV.none, AV.none, AV.none, AV.none, AV.none, AV.none, AV.none, AV.none, AV.none, AV.none, AV.none, AV.none, AV.none, AV.none, AV.none, AV.none, AV.none, AV.none, AV.none, AV.none, AV.none, AV.none, AV.none, AV.none, AV.none], [none, none, some (OB.arr .u64 4 v1), some (OB.arr .u64 4 v2), some (OB.arr .u64 4 v3), some (OB.arr .u64 4 v4), none, some (OB.arr .u64 4 v5), none, none, none, none, none, none, none, none, none, none, none, none, none, none, none, none, none, none, none, none, none, none, none, none, none, none, none, none, none, none, none, none, none, none, none, none, none, none, none, none]⟩
noncomputable def raw4_0 (N : Nat) (n : Nat) (v0 : Int) (v1 : Vec 4) (v2 : Vec 4) (v3 : Vec 4) (v4 : Vec 4) (v5 : Vec 4) : Option (Vec 4 × Vec 4 × Option Int) := loopN (lookN live4 5) (exec T4 (G4 N) N live4 (cL (cL (cR (cL (cR (cR (cR c4)))))))) n (st4_0 v0 v1 v2 v3 v4 v5) (blockK 0 (seqK (exec T4 (G4 N) N live4 (cR (cR (cR (cR c4))))) (retK T4 Tryd.f4.results.toList (rd4).dec)))
noncomputable def s4_0 (N : Nat) (Ln0 : Int → Vec 4 → Vec 4 → Vec 4 → Vec 4 → Vec 4 → Option (Vec 4 × Vec 4 × Option Int)) (v0 : Int) (v1 : Vec 4) (v2 : Vec 4) (v3 : Vec 4) (v4 : Vec 4) (v5 : Vec 4) : Option (Vec 4 × Vec 4 × Option Int) :=
  cond (leI 0 v0)
   ((fn_wide_Shl N v2 v0).bind fun r3 =>
    (fn_wide_Sub N v1 r3).bind fun r4 =>
     cond (!(r4.2))
      (cond (leI 0 (quoI .i64 v0 64))
       (cond (ltI (quoI .i64 v0 64) 4)
        (cond (ltI (remI .i64 v0 64) 0)
         (none)
         (cond (leI 0 (quoI .i64 v0 64))
          (cond (ltI (quoI .i64 v0 64) 4)
           (Ln0 (subI .i64 v0 1) r4.1 v2 v3 v4 (Vec.st v5 (quoI .i64 v0 64) (orI .u64 (Vec.rd v5 (quoI .i64 v0 64)) (shlI .u64 1 (remI .i64 v0 64)))))
           (none))
          (none)))
        (none))
       (none))
      (Ln0 (subI .i64 v0 1) v1 v2 v3 v4 v5))
   (some (v5, v1, none))
theorem step4_0 (N : Nat) (n : Nat) (v0 : Int) (v1 : Vec 4) (v2 : Vec 4) (v3 : Vec 4) (v4 : Vec 4) (v5 : Vec 4) : raw4_0 N  (n + 1) v0 v1 v2 v3 v4 v5 = s4_0 N (raw4_0 N  n) v0 v1 v2 v3 v4 v5 := by kernel_rfl
noncomputable def l4_0 (N : Nat) : Nat → Int → Vec 4 → Vec 4 → Vec 4 → Vec 4 → Vec 4 → Option (Vec 4 × Vec 4 × Option Int)
  | 0 => fun _ _ _ _ _ _ => none
  | n + 1 => fun v0 v1 v2 v3 v4 v5 => s4_0 N (l4_0 N  n) v0 v1 v2 v3 v4 v5
theorem eq4_0 (N : Nat) : ∀ n, raw4_0 N  n = l4_0 N  n := by
  intro n
  induction n with
  | zero => exact funext fun v0 => funext fun v1 => funext fun v2 => funext fun v3 => funext fun v4 => funext fun v5 => rfl
  | succ n ih => exact funext fun v0 => funext fun v1 => funext fun v2 => funext fun v3 => funext fun v4 => funext fun v5 => by rw [step4_0, ih]; rfl
noncomputable def t4 (N : Nat) (Le0 : Int → Vec 4 → Vec 4 → Vec 4 → Vec 4 → Vec 4 → Option (Vec 4 × Vec 4 × Option Int)) (x0 : Vec 4) (x1 : Vec 4) : Option (Vec 4 × Vec 4 × Option Int) :=
  cond (eqL x1.1 (Vec.zero 4).1)
   (some (Vec.zero 4, Vec.zero 4, some 5))
   ((fn_wide_Len N x0).bind fun r1 =>
    (fn_wide_Len N x1).bind fun r2 =>
     Le0 (subI .i64 r1 r2) x0 x1 (Vec.zero 4) (Vec.zero 4) (Vec.zero 4))
noncomputable def fn_wide_DivMod (N : Nat) (x0 : Vec 4) (x1 : Vec 4) : Option (Vec 4 × Vec 4 × Option Int) := t4 N (l4_0 N N) x0 x1
theorem run4 (N : Nat) (x0 : Vec 4) (x1 : Vec 4) : Eng.run T4 (G4 N) N live4 c4 Tryd.f4.results.toList Tryd.f4.ntmps ((ad4).enc (x0, x1, ())) (rd4).dec = fn_wide_DivMod N x0 x1 := by
  refine Eq.trans (show _ = t4 N (raw4_0 N N) x0 x1 from by kernel_rfl) ?_
  unfold fn_wide_DivMod
  rw [eq4_0 N N]
noncomputable def F4 (N : Nat) (a : Vec 4 × Vec 4 × Unit) : Option (Vec 4 × Vec 4 × Option Int) := fn_wide_DivMod N a.1 a.2.1
theorem ok4 (N : Nat) : FnOK Tryd.prog 4 ad4 rd4 (F4 N) :=
  fn_ok (N := N) (live := live4) (code := c4) (tok T4.rt T4.kl) mixed (gok4 N) Tryd.func4 (by kernel_rfl) (by kernel_rfl) (by kernel_rfl) fun a p h => by rw [← h]; exact run4 N a.1 a.2.1

/-! ### tiller/wide.Of: function 14 -/
noncomputable def c14 : Code := (Tryd.f14.body).getD .skip
noncomputable def T14 : Tb := ⟨tyOf tys, [], []⟩
noncomputable def G14 {R : Type} (N : Nat) : FuncId → List AV → (AV → Option R) → Option R := gNil
theorem gok14 {R : Type} (N : Nat) : GOK Tryd.prog (G14 (R := R) N) := gNil_ok
noncomputable def live14 : List (Nat × List (Nat × HK)) := []
noncomputable def ad14 : Ad (Int × Unit) := aC (cInt .u64) (a0)
noncomputable def rd14 : Rd (Vec 4) := r1 (cVec .u64 4)
noncomputable def fn_wide_Of (N : Nat) (x0 : Int) : Option (Vec 4) :=
  some (Vec.st (Vec.zero 4) 0 x0)
theorem run14 (N : Nat) (x0 : Int) : Eng.run T14 (G14 N) N live14 c14 Tryd.f14.results.toList Tryd.f14.ntmps ((ad14).enc (x0, ())) (rd14).dec = fn_wide_Of N x0 := by kernel_rfl
noncomputable def F14 (N : Nat) (a : Int × Unit) : Option (Vec 4) := fn_wide_Of N a.1
theorem ok14 (N : Nat) : FnOK Tryd.prog 14 ad14 rd14 (F14 N) :=
  fn_ok (N := N) (live := live14) (code := c14) (tok T14.rt T14.kl) mixed (gok14 N) Tryd.func14 (by kernel_rfl) (by kernel_rfl) (by kernel_rfl) fun a p h => by rw [← h]; exact run14 N a.1

/-! ### tiller/wide.Add: function 25 -/
noncomputable def c25 : Code := (Tryd.f25.body).getD .skip
noncomputable def T25 : Tb := ⟨tyOf tys, [(14, 2), (17, 3), (23, 2)], []⟩
noncomputable def G25 {R : Type} (N : Nat) : FuncId → List AV → (AV → Option R) → Option R := gCons 29 (gOf (aI3 .u64) (r2 (cInt .u64) (cInt .u64)) (fun a => add64 a.1 a.2.1 a.2.2.1)) (gNil)
theorem gok25 {R : Type} (N : Nat) : GOK Tryd.prog (G25 (R := R) N) := gCons_ok (add64_ok Tryd.func29 (by kernel_rfl) (by kernel_rfl) (by kernel_rfl) (by kernel_rfl)) (gNil_ok)
noncomputable def live25 : List (Nat × List (Nat × HK)) := [(3, [(2, .keep), (3, .keep), (4, .keep), (6, .keep), (8, .keep)])]
noncomputable def ad25 : Ad (Vec 4 × Vec 4 × Unit) := aC (cVec .u64 4) (aC (cVec .u64 4) (a0))
noncomputable def rd25 : Rd (Vec 4 × Bool) := r2 (cVec .u64 4) (cBool)
noncomputable def st25_0 (v0 : Int) (v1 : Int) (v2 : Vec 4) (v3 : Vec 4) (v4 : Vec 4) : St := ⟨[AV.none, AV.none, AV.ptr 2 0, AV.ptr 3 0, AV.ptr 4 0, AV.none, AV.v (.int .u64 v0), AV.none, AV.v (.int .i64 v1), AV.none, AV.none, AV.none, AV.none, AV.none, AV.none, AV.none, AV.none, AV.none, AV.none, AV.none, AV.none, AV.none, AV.none, AV.none, AV.none, AV.none, AV.none, AV.none], [none, none, some (OB.arr .u64 4 v2), some (OB.arr .u64 4 v3), some (OB.arr .u64 4 v4), none, none, none, none, none, none, none, none, none, none, none, none, none, none, none, none, none, none, none, none, none, none, none]⟩
noncomputable def raw25_0 (N : Nat) (n : Nat) (v0 : Int) (v1 : Int) (v2 : Vec 4) (v3 : Vec 4) (v4 : Vec 4) : Option (Vec 4 × Bool) := loopN (lookN live25 3) (exec T25 (G25 N) N live25 (cL (cL (cR (cL (cR (cR c25))))))) n (st25_0 v0 v1 v2 v3 v4) (blockK 0 (seqK (exec T25 (G25 N) N live25 (cR (cR (cR c25)))) (retK T25 Tryd.f25.results.toList (rd25).dec)))
noncomputable def s25_0 (N : Nat) (Ln0 : Int → Int → Vec 4 → Vec 4 → Vec 4 → Option (Vec 4 × Bool)) (v0 : Int) (v1 : Int) (v2 : Vec 4) (v3 : Vec 4) (v4 : Vec 4) : Option (Vec 4 × Bool) :=
  cond (ltI v1 4)
   (cond (leI 0 v1)
    (cond (ltI v1 4)
     (cond (leI 0 v1)
      (cond (ltI v1 4)
       ((add64 (Vec.rd v2 v1) (Vec.rd v3 v1) v0).bind fun r1 =>
        cond (leI 0 v1)
         (cond (ltI v1 4)
          (Ln0 r1.2 (addI .i64 v1 1) (Vec.st v2 v1 r1.1) v3 v4)
          (none))
         (none))
       (none))
      (none))
     (none))
    (none))
   (some (v2, !(eqI v0 0)))
theorem step25_0 (N : Nat) (n : Nat) (v0 : Int) (v1 : Int) (v2 : Vec 4) (v3 : Vec 4) (v4 : Vec 4) : raw25_0 N  (n + 1) v0 v1 v2 v3 v4 = s25_0 N (raw25_0 N  n) v0 v1 v2 v3 v4 := by kernel_rfl
noncomputable def l25_0 (N : Nat) : Nat → Int → Int → Vec 4 → Vec 4 → Vec 4 → Option (Vec 4 × Bool)
  | 0 => fun _ _ _ _ _ => none
  | n + 1 => fun v0 v1 v2 v3 v4 => s25_0 N (l25_0 N  n) v0 v1 v2 v3 v4
theorem eq25_0 (N : Nat) : ∀ n, raw25_0 N  n = l25_0 N  n := by
  intro n
  induction n with
  | zero => exact funext fun v0 => funext fun v1 => funext fun v2 => funext fun v3 => funext fun v4 => rfl
  | succ n ih => exact funext fun v0 => funext fun v1 => funext fun v2 => funext fun v3 => funext fun v4 => by rw [step25_0, ih]; rfl
noncomputable def t25 (N : Nat) (Le0 : Int → Int → Vec 4 → Vec 4 → Vec 4 → Option (Vec 4 × Bool)) (x0 : Vec 4) (x1 : Vec 4) : Option (Vec 4 × Bool) :=
  Le0 0 0 x0 x1 (Vec.zero 4)
noncomputable def fn_wide_Add (N : Nat) (x0 : Vec 4) (x1 : Vec 4) : Option (Vec 4 × Bool) := t25 N (l25_0 N N) x0 x1
theorem run25 (N : Nat) (x0 : Vec 4) (x1 : Vec 4) : Eng.run T25 (G25 N) N live25 c25 Tryd.f25.results.toList Tryd.f25.ntmps ((ad25).enc (x0, x1, ())) (rd25).dec = fn_wide_Add N x0 x1 := by
  refine Eq.trans (show _ = t25 N (raw25_0 N N) x0 x1 from by kernel_rfl) ?_
  unfold fn_wide_Add
  rw [eq25_0 N N]
noncomputable def F25 (N : Nat) (a : Vec 4 × Vec 4 × Unit) : Option (Vec 4 × Bool) := fn_wide_Add N a.1 a.2.1
theorem ok25 (N : Nat) : FnOK Tryd.prog 25 ad25 rd25 (F25 N) :=
  fn_ok (N := N) (live := live25) (code := c25) (tok T25.rt T25.kl) mixed (gok25 N) Tryd.func25 (by kernel_rfl) (by kernel_rfl) (by kernel_rfl) fun a p h => by rw [← h]; exact run25 N a.1 a.2.1

/-! ### tiller/wide.Sqrt: function 15 -/
noncomputable def c15 : Code := (Tryd.f15.body).getD .skip
noncomputable def T15 : Tb := ⟨tyOf tys, [(45, 4), (51, 4)], []⟩
noncomputable def G15 {R : Type} (N : Nat) : FuncId → List AV → (AV → Option R) → Option R := gCons 10 (gOf ad10 rd10 (F10 N)) (gCons 12 (gOf ad12 rd12 (F12 N)) (gCons 14 (gOf ad14 rd14 (F14 N)) (gCons 25 (gOf ad25 rd25 (F25 N)) (gCons 11 (gOf ad11 rd11 (F11 N)) (gNil)))))
theorem gok15 {R : Type} (N : Nat) : GOK Tryd.prog (G15 (R := R) N) := gCons_ok (ok10 N) (gCons_ok (ok12 N) (gCons_ok (ok14 N) (gCons_ok (ok25 N) (gCons_ok (ok11 N) (gNil_ok)))))
noncomputable def live15 : List (Nat × List (Nat × HK)) := [(4, [(2, .keep), (3, .keep), (4, .keep), (5, .keep), (6, .keep)])]
noncomputable def ad15 : Ad (Vec 4 × Unit) := aC (cVec .u64 4) (a0)
noncomputable def rd15 : Rd (Vec 4 × Vec 4) := r2 (cVec .u64 4) (cVec .u64 4)
noncomputable def st15_0 (v0 : Int) (v1 : Vec 4) (v2 : Vec 4) (v3 : Vec 4) (v4 : Vec 4) : St := ⟨[AV.none, AV.none, AV.ptr 2 0, AV.ptr 3 0, AV.ptr 4 0, AV.ptr 5 0, AV.v (.int .i64 v0), AV.none, AV.none, AV.none, AV.none, AV.none, AV.none, AV.none, AV.none, AV.none, AV.none, AV.none, AV.none, AV.none, AV.none, AV.none, AV.none, AV.none, AV.none, AV.none, AV.none, AV.none, AV.none, AV.none, AV.none, AV.none, AV.none, AV.none, AV.none, AV.none, AV.none, AV.none, AV.none, AV.none, AV.none, AV.none, AV.none, AV.none, AV.none, AV.none, AV.none, AV.none, AV.none, AV.none, AV.none, AV.none, AV.none, AV.none], [none, none, some (OB.arr .u64 4 v1), some (OB.arr .u64 4 v2), some (OB.arr .u64 4 v3), some (OB.arr .u64 4 v4), none, none, none, none, none, none, none, none, none, none, none, none, none, none, none, none, none, none, none, none, none, none, none, none, none, none, none, none, none, none, none, none, none, none, none, none, none, none, none, none, none, none, none, none, none, none, none, none]⟩
noncomputable def raw15_0 (N : Nat) (n : Nat) (v0 : Int) (v1 : Vec 4) (v2 : Vec 4) (v3 : Vec 4) (v4 : Vec 4) : Option (Vec 4 × Vec 4) := loopN (lookN live15 4) (exec T15 (G15 N) N live15 (cL (cL (cR (cL (cR (cR (cR c15)))))))) n (st15_0 v0 v1 v2 v3 v4) (blockK 0 (seqK (exec T15 (G15 N) N live15 (cR (cR (cR (cR c15))))) (retK T15 Tryd.f15.results.toList (rd15).dec)))
noncomputable def s15_0 (N : Nat) (Ln0 : Int → Vec 4 → Vec 4 → Vec 4 → Vec 4 → Option (Vec 4 × Vec 4)) (v0 : Int) (v1 : Vec 4) (v2 : Vec 4) (v3 : Vec 4) (v4 : Vec 4) : Option (Vec 4 × Vec 4) :=
  cond (leI 0 v0)
   ((fn_wide_Shl N v3 (addI .i64 v0 1)).bind fun r2 =>
    (fn_wide_Of N 1).bind fun r3 =>
     (fn_wide_Shl N r3 (mulI .i64 2 v0)).bind fun r4 =>
      (fn_wide_Add N r2 r4).bind fun r5 =>
       (fn_wide_Sub N v4 r5.1).bind fun r6 =>
        cond (!(r6.2))
         (cond (leI 0 (quoI .i64 v0 64))
          (cond (ltI (quoI .i64 v0 64) 4)
           (cond (ltI (remI .i64 v0 64) 0)
            (none)
            (cond (leI 0 (quoI .i64 v0 64))
             (cond (ltI (quoI .i64 v0 64) 4)
              (Ln0 (subI .i64 v0 1) v1 v2 (Vec.st v3 (quoI .i64 v0 64) (orI .u64 (Vec.rd v3 (quoI .i64 v0 64)) (shlI .u64 1 (remI .i64 v0 64)))) r6.1)
              (none))
             (none)))
           (none))
          (none))
         (Ln0 (subI .i64 v0 1) v1 v2 v3 v4))
   (some (v3, v4))
theorem step15_0 (N : Nat) (n : Nat) (v0 : Int) (v1 : Vec 4) (v2 : Vec 4) (v3 : Vec 4) (v4 : Vec 4) : raw15_0 N  (n + 1) v0 v1 v2 v3 v4 = s15_0 N (raw15_0 N  n) v0 v1 v2 v3 v4 := by kernel_rfl
noncomputable def l15_0 (N : Nat) : Nat → Int → Vec 4 → Vec 4 → Vec 4 → Vec 4 → Option (Vec 4 × Vec 4)
  | 0 => fun _ _ _ _ _ => none
  | n + 1 => fun v0 v1 v2 v3 v4 => s15_0 N (l15_0 N  n) v0 v1 v2 v3 v4
theorem eq15_0 (N : Nat) : ∀ n, raw15_0 N  n = l15_0 N  n := by
  intro n
  induction n with
  | zero => exact funext fun v0 => funext fun v1 => funext fun v2 => funext fun v3 => funext fun v4 => rfl
  | succ n ih => exact funext fun v0 => funext fun v1 => funext fun v2 => funext fun v3 => funext fun v4 => by rw [step15_0, ih]; rfl
noncomputable def t15 (N : Nat) (Le0 : Int → Vec 4 → Vec 4 → Vec 4 → Vec 4 → Option (Vec 4 × Vec 4)) (x0 : Vec 4) : Option (Vec 4 × Vec 4) :=
  (fn_wide_Len N x0).bind fun r1 =>
   Le0 (quoI .i64 (subI .i64 r1 1) 2) (Vec.zero 4) (Vec.zero 4) (Vec.zero 4) x0
noncomputable def fn_wide_Sqrt (N : Nat) (x0 : Vec 4) : Option (Vec 4 × Vec 4) := t15 N (l15_0 N N) x0
theorem run15 (N : Nat) (x0 : Vec 4) : Eng.run T15 (G15 N) N live15 c15 Tryd.f15.results.toList Tryd.f15.ntmps ((ad15).enc (x0, ())) (rd15).dec = fn_wide_Sqrt N x0 := by
  refine Eq.trans (show _ = t15 N (raw15_0 N N) x0 from by kernel_rfl) ?_
  unfold fn_wide_Sqrt
  rw [eq15_0 N N]
noncomputable def F15 (N : Nat) (a : Vec 4 × Unit) : Option (Vec 4 × Vec 4) := fn_wide_Sqrt N a.1
theorem ok15 (N : Nat) : FnOK Tryd.prog 15 ad15 rd15 (F15 N) :=
  fn_ok (N := N) (live := live15) (code := c15) (tok T15.rt T15.kl) mixed (gok15 N) Tryd.func15 (by kernel_rfl) (by kernel_rfl) (by kernel_rfl) fun a p h => by rw [← h]; exact run15 N a.1

/-! ### tiller/tillerlaw01.sure: function 6 -/
noncomputable def c6 : Code := (Tryd.f6.body).getD .skip
noncomputable def T6 : Tb := ⟨tyOf tys, [], []⟩
noncomputable def G6 {R : Type} (N : Nat) : FuncId → List AV → (AV → Option R) → Option R := gCons 14 (gOf ad14 rd14 (F14 N)) (gCons 12 (gOf ad12 rd12 (F12 N)) (gCons 4 (gOf ad4 rd4 (F4 N)) (gCons 15 (gOf ad15 rd15 (F15 N)) (gNil))))
theorem gok6 {R : Type} (N : Nat) : GOK Tryd.prog (G6 (R := R) N) := gCons_ok (ok14 N) (gCons_ok (ok12 N) (gCons_ok (ok4 N) (gCons_ok (ok15 N) (gNil_ok))))
noncomputable def live6 : List (Nat × List (Nat × HK)) := []
noncomputable def ad6 : Ad (Unit) := a0
noncomputable def rd6 : Rd (Bool) := r1 (cBool)
noncomputable def fn_tillerlaw01_sure (N : Nat)  : Option (Bool) :=
  (fn_wide_Of N 1).bind fun r1 =>
   (fn_wide_Shl N r1 200).bind fun r2 =>
    (fn_wide_Of N 3).bind fun r3 =>
     (fn_wide_DivMod N r2 r3).bind fun r4 =>
      (fn_wide_Of N 10).bind fun r5 =>
       (fn_wide_Sqrt N r5).bind fun r6 =>
        cond (isNoneI r4.2.2)
         ((fn_wide_Of N 1).bind fun r7 =>
          cond (eqL r4.2.1.1 r7.1)
           (cond (!(eqL r4.1.1 (Vec.zero 4).1))
            ((fn_wide_Of N 3).bind fun r8 =>
             cond (eqL r6.1.1 r8.1)
              ((fn_wide_Of N 1).bind fun r9 =>
               some (eqL r6.2.1 r9.1))
              (some false))
            (some false))
           (some false))
         (some false)
theorem run6 (N : Nat)  : Eng.run T6 (G6 N) N live6 c6 Tryd.f6.results.toList Tryd.f6.ntmps ((ad6).enc (())) (rd6).dec = fn_tillerlaw01_sure N  := by kernel_rfl
noncomputable def F6 (N : Nat) (a : Unit) : Option (Bool) := fn_tillerlaw01_sure N 
theorem ok6 (N : Nat) : FnOK Tryd.prog 6 ad6 rd6 (F6 N) :=
  fn_ok (N := N) (live := live6) (code := c6) (tok T6.rt T6.kl) mixed (gok6 N) Tryd.func6 (by kernel_rfl) (by kernel_rfl) (by kernel_rfl) fun a p h => by rw [← h]; exact run6 N 

/-! ### tiller/tillerref01.Mul: function 7 -/
noncomputable def c7 : Code := (Tryd.f7.body).getD .skip
noncomputable def T7 : Tb := ⟨tyOf tys, [(23, 2), (32, 3), (39, 6), (40, 7), (55, 9), (58, 6), (61, 7), (65, 9), (72, 9), (79, 12), (88, 12), (91, 12), (93, 12), (95, 12), (97, 12), (100, 12), (102, 12), (104, 12), (106, 12)], []⟩
noncomputable def G7 {R : Type} (N : Nat) : FuncId → List AV → (AV → Option R) → Option R := gNil
theorem gok7 {R : Type} (N : Nat) : GOK Tryd.prog (G7 (R := R) N) := gNil_ok
noncomputable def live7 : List (Nat × List (Nat × HK)) := [(3, [(2, .keep), (3, .keep), (4, .keep), (5, .keep), (6, .keep), (7, .keep), (8, .keep)]), (8, [(4, .keep), (5, .keep), (6, .keep), (7, .keep), (9, .keep), (10, .keep)]), (11, [(4, .keep), (5, .keep), (6, .keep), (7, .keep), (9, .keep), (10, .keep), (11, .keep)]), (17, [(4, .keep), (5, .keep), (9, .keep), (12, .keep), (13, .keep), (14, .keep)])]
noncomputable def ad7 : Ad (Vec 4 × Vec 4 × Unit) := aC (cVec .u64 4) (aC (cVec .u64 4) (a0))
noncomputable def rd7 : Rd (Vec 4 × Vec 4) := r2 (cVec .u64 4) (cVec .u64 4)
noncomputable def st7_0 (v0 : Int) (v1 : Vec 4) (v2 : Vec 4) (v3 : Vec 4) (v4 : Vec 4) (v5 : Vec 16) (v6 : Vec 16) : St := ⟨[AV.none, AV.none, AV.ptr 2 0, AV.ptr 3 0, AV.ptr 4 0, AV.ptr 5 0, AV.ptr 6 0, AV.ptr 7 0, AV.v (.int .i64 v0), AV.none, AV.none, AV.none, AV.none, AV.none, AV.none, AV.none, AV.none, AV.none, AV.none, AV.none, AV.none, AV.none, AV.none, AV.none, AV.none, AV.none, AV.none, AV.none, AV.none, AV.none, AV.none, AV.none, AV.none, AV.none, AV.none, AV.none, AV.none, AV.none, AV.none, AV.none, AV.none, AV.none, AV.none, AV.none, AV.none, AV.none, AV.none, AV.none, AV.none, AV.none, AV.none, AV.none, AV.none, AV.none, AV.none, AV.none, AV.none, AV.none, AV.none, AV.none, AV.none, AV.none, AV.none, AV.none, AV.none, AV.none, AV.none, AV.none, AV.none, AV.none, AV.none, AV.none, AV.none, AV.none, AV.none, AV.none, AV.none, AV.none, AV.none, AV.none, AV.none, AV.none, AV.none, AV.none, AV.none, AV.none, AV.none, AV.none, AV.none, AV.none, AV.none, AV.none, AV.none, AV.none, AV.none, AV.none, AV.none, AV.none, AV.none, AV.none, AV.none, AV.none, AV.none, AV.none, AV.none, AV.none, AV.none, AV.none, AV.none], [none, none, some (OB.arr .u64 4 v1), some (OB.arr .u64 4 v2), some (OB.arr .u64 4 v3), some (OB.arr .u64 4 v4), some (OB.arr .u64 16 v5), some (OB.arr .u64 16 v6), none, none, none, none, none, none, none, none, none, none, none, none, none, none, none, none, none, none, none, none, none, none, none, none, none, none, none, none, none, none, none, none, none, none, none, none, none, none, none, none, none, none, none, none, none, none, none, none, none, none, none, none, none, none, none, none, none, none, none, none, none, none, none, none, none, none, none, none, none, none, none, none, none, none, none, none, none, none, none, none, none, none, none, none, none, none, none, none, none, none, none, none, none, none, none, none, none, none, none, none, none]⟩
noncomputable def raw7_0 (N : Nat) (n : Nat) (v0 : Int) (v1 : Vec 4) (v2 : Vec 4) (v3 : Vec 4) (v4 : Vec 4) (v5 : Vec 16) (v6 : Vec 16) : Option (Vec 4 × Vec 4) := loopN (lookN live7 3) (exec T7 (G7 N) N live7 (cL (cL (cR (cL (cR (cR c7))))))) n (st7_0 v0 v1 v2 v3 v4 v5 v6) (blockK 0 (seqK (exec T7 (G7 N) N live7 (cR (cR (cR c7)))) (retK T7 Tryd.f7.results.toList (rd7).dec)))
noncomputable def st7_1 (v0 : Int) (v1 : Vec 4) (v2 : Vec 4) (v3 : Vec 16) (v4 : Vec 16) (v5 : Vec 33) : St := ⟨[AV.none, AV.none, AV.none, AV.none, AV.ptr 4 0, AV.ptr 5 0, AV.ptr 6 0, AV.ptr 7 0, AV.none, AV.ptr 9 0, AV.v (.int .i64 v0), AV.none, AV.none, AV.none, AV.none, AV.none, AV.none, AV.none, AV.none, AV.none, AV.none, AV.none, AV.none, AV.none, AV.none, AV.none, AV.none, AV.none, AV.none, AV.none, AV.none, AV.none, AV.none, AV.none, AV.none, AV.none, AV.none, AV.none, AV.none, AV.none, AV.none, AV.none, AV.none, AV.none, AV.none, AV.none, AV.none, AV.none, AV.none, AV.none, AV.none, AV.none, AV.none, AV.none, AV.none, AV.none, AV.none, AV.none, AV.none, AV.none, AV.none, AV.none, AV.none, AV.none, AV.none, AV.none, AV.none, AV.none, AV.none, AV.none, AV.none, AV.none, AV.none, AV.none, AV.none, AV.none, AV.none, AV.none, AV.none, AV.none, AV.none, AV.none, AV.none, AV.none, AV.none, AV.none, AV.none, AV.none, AV.none, AV.none, AV.none, AV.none, AV.none, AV.none, AV.none, AV.none, AV.none, AV.none, AV.none, AV.none, AV.none, AV.none, AV.none, AV.none, AV.none, AV.none, AV.none, AV.none, AV.none], [none, none, none, none, some (OB.arr .u64 4 v1), some (OB.arr .u64 4 v2), some (OB.arr .u64 16 v3), some (OB.arr .u64 16 v4), none, some (OB.arr .u64 33 v5), none, none, none, none, none, none, none, none, none, none, none, none, none, none, none, none, none, none, none, none, none, none, none, none, none, none, none, none, none, none, none, none, none, none, none, none, none, none, none, none, none, none, none, none, none, none, none, none, none, none, none, none, none, none, none, none, none, none, none, none, none, none, none, none, none, none, none, none, none, none, none, none, none, none, none, none, none, none, none, none, none, none, none, none, none, none, none, none, none, none, none, none, none, none, none, none, none, none, none]⟩
noncomputable def raw7_1 (N : Nat) (n : Nat) (v0 : Int) (v1 : Vec 4) (v2 : Vec 4) (v3 : Vec 16) (v4 : Vec 16) (v5 : Vec 33) : Option (Vec 4 × Vec 4) := loopN (lookN live7 8) (exec T7 (G7 N) N live7 (cL (cL (cR (cL (cR (cR (cR (cR c7))))))))) n (st7_1 v0 v1 v2 v3 v4 v5) (blockK 2 (seqK (exec T7 (G7 N) N live7 (cR (cR (cR (cR (cR c7)))))) (retK T7 Tryd.f7.results.toList (rd7).dec)))
noncomputable def st7_2 (v0 : Int) (v1 : Int) (v2 : Vec 4) (v3 : Vec 4) (v4 : Vec 16) (v5 : Vec 16) (v6 : Vec 33) : St := ⟨[AV.none, AV.none, AV.none, AV.none, AV.ptr 4 0, AV.ptr 5 0, AV.ptr 6 0, AV.ptr 7 0, AV.none, AV.ptr 9 0, AV.v (.int .i64 v0), AV.v (.int .i64 v1), AV.none, AV.none, AV.none, AV.none, AV.none, AV.none, AV.none, AV.none, AV.none, AV.none, AV.none, AV.none, AV.none, AV.none, AV.none, AV.none, AV.none, AV.none, AV.none, AV.none, AV.none, AV.none, AV.none, AV.none, AV.none, AV.none, AV.none, AV.none, AV.none, AV.none, AV.none, AV.none, AV.none, AV.none, AV.none, AV.none, AV.none, AV.none, AV.none, AV.none, AV.none, AV.none, AV.none, AV.none, AV.none, AV.none, AV.none, AV.none, AV.none, AV.none, AV.none, AV.none, AV.none, AV.none, AV.none, AV.none, AV.none, AV.none, AV.none, AV.none, AV.none, AV.none, AV.none, AV.none, AV.none, AV.none, AV.none, AV.none, AV.none, AV.none, AV.none, AV.none, AV.none, AV.none, AV.none, AV.none, AV.none, AV.none, AV.none, AV.none, AV.none, AV.none, AV.none, AV.none, AV.none, AV.none, AV.none, AV.none, AV.none, AV.none, AV.none, AV.none, AV.none, AV.none, AV.none, AV.none, AV.none], [none, none, none, none, some (OB.arr .u64 4 v2), some (OB.arr .u64 4 v3), some (OB.arr .u64 16 v4), some (OB.arr .u64 16 v5), none, some (OB.arr .u64 33 v6), none, none, none, none, none, none, none, none, none, none, none, none, none, none, none, none, none, none, none, none, none, none, none, none, none, none, none, none, none, none, none, none, none, none, none, none, none, none, none, none, none, none, none, none, none, none, none, none, none, none, none, none, none, none, none, none, none, none, none, none, none, none, none, none, none, none, none, none, none, none, none, none, none, none, none, none, none, none, none, none, none, none, none, none, none, none, none, none, none, none, none, none, none, none, none, none, none, none, none]⟩
noncomputable def raw7_2 (N : Nat) (m1 : Nat) (n : Nat) (v0 : Int) (v1 : Int) (v2 : Vec 4) (v3 : Vec 4) (v4 : Vec 16) (v5 : Vec 16) (v6 : Vec 33) : Option (Vec 4 × Vec 4) := loopN (lookN live7 11) (exec T7 (G7 N) N live7 (cL (cL (cR (cL (cL (cR (cL (cL (cR (cL (cR (cR (cR (cR c7))))))))))))))) n (st7_2 v0 v1 v2 v3 v4 v5 v6) (blockK 4 (blockK 3 (seqK (exec T7 (G7 N) N live7 (cR (cR (cL (cL (cR (cL (cR (cR (cR (cR c7))))))))))) (roundK (fun s => loopN (lookN live7 8) (exec T7 (G7 N) N live7 (cL (cL (cR (cL (cR (cR (cR (cR c7))))))))) m1 s (blockK 2 (seqK (exec T7 (G7 N) N live7 (cR (cR (cR (cR (cR c7)))))) (retK T7 Tryd.f7.results.toList (rd7).dec)))) (lookN live7 8) (blockK 2 (seqK (exec T7 (G7 N) N live7 (cR (cR (cR (cR (cR c7)))))) (retK T7 Tryd.f7.results.toList (rd7).dec)))))))
noncomputable def st7_3 (v0 : Int) (v1 : Int) (v2 : Vec 4) (v3 : Vec 4) (v4 : Vec 33) (v5 : Vec 8) : St := ⟨[AV.none, AV.none, AV.none, AV.none, AV.ptr 4 0, AV.ptr 5 0, AV.none, AV.none, AV.none, AV.ptr 9 0, AV.none, AV.none, AV.ptr 12 0, AV.v (.int .u64 v0), AV.v (.int .i64 v1), AV.none, AV.none, AV.none, AV.none, AV.none, AV.none, AV.none, AV.none, AV.none, AV.none, AV.none, AV.none, AV.none, AV.none, AV.none, AV.none, AV.none, AV.none, AV.none, AV.none, AV.none, AV.none, AV.none, AV.none, AV.none, AV.none, AV.none, AV.none, AV.none, AV.none, AV.none, AV.none, AV.none, AV.none, AV.none, AV.none, AV.none, AV.none, AV.none, AV.none, AV.none, AV.none, AV.none, AV.none, AV.none, AV.none, AV.none, AV.none, AV.none, AV.none, AV.none, AV.none, AV.none, AV.none, AV.none, AV.none, AV.none, AV.none, AV.none, AV.none, AV.none, AV.none, AV.none, AV.none, AV.none, AV.none, AV.none, AV.none, AV.none, AV.none, AV.none, AV.none, AV.none, AV.none, AV.none, AV.none, AV.none, AV.none, AV.none, AV.none, AV.none, AV.none, AV.none, AV.none, AV.none, AV.none, AV.none, AV.none, AV.none, AV.none, AV.none, AV.none, AV.none, AV.none], [none, none, none, none, some (OB.arr .u64 4 v2), some (OB.arr .u64 4 v3), none, none, none, some (OB.arr .u64 33 v4), none, none, some (OB.arr .u64 8 v5), none, none, none, none, none, none, none, none, none, none, none, none, none, none, none, none, none, none, none, none, none, none, none, none, none, none, none, none, none, none, none, none, none, none, none, none, none, none, none, none, none, none, none, none, none, none, none, none, none, none, none, none, none, none, none, none, none, none, none, none, none, none, none, none, none, none, none, none, none, none, none, none, none, none, none, none, none, none, none, none, none, none, none, none, none, none, none, none, none, none, none, none, none, none, none, none]⟩
noncomputable def raw7_3 (N : Nat) (n : Nat) (v0 : Int) (v1 : Int) (v2 : Vec 4) (v3 : Vec 4) (v4 : Vec 33) (v5 : Vec 8) : Option (Vec 4 × Vec 4) := loopN (lookN live7 17) (exec T7 (G7 N) N live7 (cL (cL (cR (cL (cR (cR (cR (cR (cR (cR (cR c7)))))))))))) n (st7_3 v0 v1 v2 v3 v4 v5) (blockK 6 (seqK (exec T7 (G7 N) N live7 (cR (cR (cR (cR (cR (cR (cR (cR c7))))))))) (retK T7 Tryd.f7.results.toList (rd7).dec)))
noncomputable def s7_2 (N : Nat) (Ln2 : Int → Int → Vec 4 → Vec 4 → Vec 16 → Vec 16 → Vec 33 → Option (Vec 4 × Vec 4)) (Ln1 : Int → Vec 4 → Vec 4 → Vec 16 → Vec 16 → Vec 33 → Option (Vec 4 × Vec 4)) (v0 : Int) (v1 : Int) (v2 : Vec 4) (v3 : Vec 4) (v4 : Vec 16) (v5 : Vec 16) (v6 : Vec 33) : Option (Vec 4 × Vec 4) :=
  cond (ltI v1 16)
   (cond (leI 0 (addI .i64 v0 v1))
    (cond (ltI (addI .i64 v0 v1) 33)
     (cond (leI 0 v0)
      (cond (ltI v0 16)
       (cond (leI 0 v1)
        (cond (ltI v1 16)
         (cond (leI 0 (addI .i64 v0 v1))
          (cond (ltI (addI .i64 v0 v1) 33)
           (Ln2 v0 (addI .i64 v1 1) v2 v3 v4 v5 (Vec.st v6 (addI .i64 v0 v1) (addI .u64 (Vec.rd v6 (addI .i64 v0 v1)) (mulI .u64 (Vec.rd v4 v0) (Vec.rd v5 v1)))))
           (none))
          (none))
         (none))
        (none))
       (none))
      (none))
     (none))
    (none))
   (Ln1 (addI .i64 v0 1) v2 v3 v4 v5 v6)
theorem step7_2 (N : Nat) (m1 : Nat) (n : Nat) (v0 : Int) (v1 : Int) (v2 : Vec 4) (v3 : Vec 4) (v4 : Vec 16) (v5 : Vec 16) (v6 : Vec 33) : raw7_2 N m1 (n + 1) v0 v1 v2 v3 v4 v5 v6 = s7_2 N (raw7_2 N m1 n) (raw7_1 N  m1) v0 v1 v2 v3 v4 v5 v6 := by kernel_rfl
noncomputable def l7_2 (N : Nat) (E1 : Int → Vec 4 → Vec 4 → Vec 16 → Vec 16 → Vec 33 → Option (Vec 4 × Vec 4)) : Nat → Int → Int → Vec 4 → Vec 4 → Vec 16 → Vec 16 → Vec 33 → Option (Vec 4 × Vec 4)
  | 0 => fun _ _ _ _ _ _ _ => none
  | n + 1 => fun v0 v1 v2 v3 v4 v5 v6 => s7_2 N (l7_2 N E1 n) E1 v0 v1 v2 v3 v4 v5 v6
theorem eq7_2 (N : Nat) (m1 : Nat) : ∀ n, raw7_2 N m1 n = l7_2 N (raw7_1 N  m1) n := by
  intro n
  induction n with
  | zero => exact funext fun v0 => funext fun v1 => funext fun v2 => funext fun v3 => funext fun v4 => funext fun v5 => funext fun v6 => rfl
  | succ n ih => exact funext fun v0 => funext fun v1 => funext fun v2 => funext fun v3 => funext fun v4 => funext fun v5 => funext fun v6 => by rw [step7_2, ih]; rfl
noncomputable def s7_3 (N : Nat) (Ln3 : Int → Int → Vec 4 → Vec 4 → Vec 33 → Vec 8 → Option (Vec 4 × Vec 4)) (v0 : Int) (v1 : Int) (v2 : Vec 4) (v3 : Vec 4) (v4 : Vec 33) (v5 : Vec 8) : Option (Vec 4 × Vec 4) :=
  cond (ltI v1 32)
   (cond (leI 0 v1)
    (cond (ltI v1 33)
     (cond (leI 0 (quoI .i64 v1 4))
      (cond (ltI (quoI .i64 v1 4) 8)
       (cond (ltI (mulI .i64 16 (remI .i64 v1 4)) 0)
        (none)
        (cond (leI 0 (quoI .i64 v1 4))
         (cond (ltI (quoI .i64 v1 4) 8)
          (Ln3 (quoI .u64 (addI .u64 v0 (Vec.rd v4 v1)) 65536) (addI .i64 v1 1) v2 v3 v4 (Vec.st v5 (quoI .i64 v1 4) (addI .u64 (Vec.rd v5 (quoI .i64 v1 4)) (shlI .u64 (remI .u64 (addI .u64 v0 (Vec.rd v4 v1)) 65536) (mulI .i64 16 (remI .i64 v1 4))))))
          (none))
         (none)))
       (none))
      (none))
     (none))
    (none))
   (some (Vec.st (Vec.st (Vec.st (Vec.st (Vec.zero 4) 0 (Vec.rd v5 0)) 1 (Vec.rd v5 1)) 2 (Vec.rd v5 2)) 3 (Vec.rd v5 3), Vec.st (Vec.st (Vec.st (Vec.st (Vec.zero 4) 0 (Vec.rd v5 4)) 1 (Vec.rd v5 5)) 2 (Vec.rd v5 6)) 3 (Vec.rd v5 7)))
theorem step7_3 (N : Nat) (n : Nat) (v0 : Int) (v1 : Int) (v2 : Vec 4) (v3 : Vec 4) (v4 : Vec 33) (v5 : Vec 8) : raw7_3 N  (n + 1) v0 v1 v2 v3 v4 v5 = s7_3 N (raw7_3 N  n) v0 v1 v2 v3 v4 v5 := by kernel_rfl
noncomputable def l7_3 (N : Nat) : Nat → Int → Int → Vec 4 → Vec 4 → Vec 33 → Vec 8 → Option (Vec 4 × Vec 4)
  | 0 => fun _ _ _ _ _ _ => none
  | n + 1 => fun v0 v1 v2 v3 v4 v5 => s7_3 N (l7_3 N  n) v0 v1 v2 v3 v4 v5
theorem eq7_3 (N : Nat) : ∀ n, raw7_3 N  n = l7_3 N  n := by
  intro n
  induction n with
  | zero => exact funext fun v0 => funext fun v1 => funext fun v2 => funext fun v3 => funext fun v4 => funext fun v5 => rfl
  | succ n ih => exact funext fun v0 => funext fun v1 => funext fun v2 => funext fun v3 => funext fun v4 => funext fun v5 => by rw [step7_3, ih]; rfl
noncomputable def s7_1 (N : Nat) (Le2 : Int → Int → Vec 4 → Vec 4 → Vec 16 → Vec 16 → Vec 33 → Option (Vec 4 × Vec 4)) (Le3 : Int → Int → Vec 4 → Vec 4 → Vec 33 → Vec 8 → Option (Vec 4 × Vec 4)) (v0 : Int) (v1 : Vec 4) (v2 : Vec 4) (v3 : Vec 16) (v4 : Vec 16) (v5 : Vec 33) : Option (Vec 4 × Vec 4) :=
  cond (ltI v0 16)
   (Le2 v0 0 v1 v2 v3 v4 v5)
   (Le3 0 0 v1 v2 v5 (Vec.zero 8))
theorem step7_1 (N : Nat) (n : Nat) (v0 : Int) (v1 : Vec 4) (v2 : Vec 4) (v3 : Vec 16) (v4 : Vec 16) (v5 : Vec 33) : raw7_1 N  (n + 1) v0 v1 v2 v3 v4 v5 = s7_1 N (raw7_2 N n N) (raw7_3 N  N) v0 v1 v2 v3 v4 v5 := by kernel_rfl
noncomputable def l7_1 (N : Nat) : Nat → Int → Vec 4 → Vec 4 → Vec 16 → Vec 16 → Vec 33 → Option (Vec 4 × Vec 4)
  | 0 => fun _ _ _ _ _ _ => none
  | n + 1 => fun v0 v1 v2 v3 v4 v5 => s7_1 N (l7_2 N (l7_1 N  n) N) (l7_3 N  N) v0 v1 v2 v3 v4 v5
theorem eq7_1 (N : Nat) : ∀ n, raw7_1 N  n = l7_1 N  n := by
  intro n
  induction n with
  | zero => exact funext fun v0 => funext fun v1 => funext fun v2 => funext fun v3 => funext fun v4 => funext fun v5 => rfl
  | succ n ih => exact funext fun v0 => funext fun v1 => funext fun v2 => funext fun v3 => funext fun v4 => funext fun v5 => by rw [step7_1, eq7_2 N n N, eq7_3 N  N, ih]; rfl
noncomputable def s7_0 (N : Nat) (Ln0 : Int → Vec 4 → Vec 4 → Vec 4 → Vec 4 → Vec 16 → Vec 16 → Option (Vec 4 × Vec 4)) (Le1 : Int → Vec 4 → Vec 4 → Vec 16 → Vec 16 → Vec 33 → Option (Vec 4 × Vec 4)) (v0 : Int) (v1 : Vec 4) (v2 : Vec 4) (v3 : Vec 4) (v4 : Vec 4) (v5 : Vec 16) (v6 : Vec 16) : Option (Vec 4 × Vec 4) :=
  cond (ltI v0 16)
   (cond (leI 0 (quoI .i64 v0 4))
    (cond (ltI (quoI .i64 v0 4) 4)
     (cond (ltI (mulI .i64 16 (remI .i64 v0 4)) 0)
      (none)
      (cond (leI 0 (quoI .i64 v0 4))
       (cond (ltI (quoI .i64 v0 4) 4)
        (cond (ltI (mulI .i64 16 (remI .i64 v0 4)) 0)
         (none)
         (cond (leI 0 v0)
          (cond (ltI v0 16)
           (cond (leI 0 v0)
            (cond (ltI v0 16)
             (Ln0 (addI .i64 v0 1) v1 v2 v3 v4 (Vec.st v5 v0 (remI .u64 (shrI .u64 (Vec.rd v1 (quoI .i64 v0 4)) (mulI .i64 16 (remI .i64 v0 4))) 65536)) (Vec.st v6 v0 (remI .u64 (shrI .u64 (Vec.rd v2 (quoI .i64 v0 4)) (mulI .i64 16 (remI .i64 v0 4))) 65536)))
             (none))
            (none))
           (none))
          (none)))
        (none))
       (none)))
     (none))
    (none))
   (Le1 0 v3 v4 v5 v6 (Vec.zero 33))
theorem step7_0 (N : Nat) (n : Nat) (v0 : Int) (v1 : Vec 4) (v2 : Vec 4) (v3 : Vec 4) (v4 : Vec 4) (v5 : Vec 16) (v6 : Vec 16) : raw7_0 N  (n + 1) v0 v1 v2 v3 v4 v5 v6 = s7_0 N (raw7_0 N  n) (raw7_1 N  N) v0 v1 v2 v3 v4 v5 v6 := by kernel_rfl
noncomputable def l7_0 (N : Nat) : Nat → Int → Vec 4 → Vec 4 → Vec 4 → Vec 4 → Vec 16 → Vec 16 → Option (Vec 4 × Vec 4)
  | 0 => fun _ _ _ _ _ _ _ => none
  | n + 1 => fun v0 v1 v2 v3 v4 v5 v6 => s7_0 N (l7_0 N  n) (l7_1 N  N) v0 v1 v2 v3 v4 v5 v6
theorem eq7_0 (N : Nat) : ∀ n, raw7_0 N  n = l7_0 N  n := by
  intro n
  induction n with
  | zero => exact funext fun v0 => funext fun v1 => funext fun v2 => funext fun v3 => funext fun v4 => funext fun v5 => funext fun v6 => rfl
  | succ n ih => exact funext fun v0 => funext fun v1 => funext fun v2 => funext fun v3 => funext fun v4 => funext fun v5 => funext fun v6 => by rw [step7_0, eq7_1 N  N, ih]; rfl
noncomputable def t7 (N : Nat) (Le0 : Int → Vec 4 → Vec 4 → Vec 4 → Vec 4 → Vec 16 → Vec 16 → Option (Vec 4 × Vec 4)) (x0 : Vec 4) (x1 : Vec 4) : Option (Vec 4 × Vec 4) :=
  Le0 0 x0 x1 (Vec.zero 4) (Vec.zero 4) (Vec.zero 16) (Vec.zero 16)
noncomputable def fn_tillerref01_Mul (N : Nat) (x0 : Vec 4) (x1 : Vec 4) : Option (Vec 4 × Vec 4) := t7 N (l7_0 N N) x0 x1
theorem run7 (N : Nat) (x0 : Vec 4) (x1 : Vec 4) : Eng.run T7 (G7 N) N live7 c7 Tryd.f7.results.toList Tryd.f7.ntmps ((ad7).enc (x0, x1, ())) (rd7).dec = fn_tillerref01_Mul N x0 x1 := by
  refine Eq.trans (show _ = t7 N (raw7_0 N N) x0 x1 from by kernel_rfl) ?_
  unfold fn_tillerref01_Mul
  rw [eq7_0 N N]
noncomputable def F7 (N : Nat) (a : Vec 4 × Vec 4 × Unit) : Option (Vec 4 × Vec 4) := fn_tillerref01_Mul N a.1 a.2.1
theorem ok7 (N : Nat) : FnOK Tryd.prog 7 ad7 rd7 (F7 N) :=
  fn_ok (N := N) (live := live7) (code := c7) (tok T7.rt T7.kl) mixed (gok7 N) Tryd.func7 (by kernel_rfl) (by kernel_rfl) (by kernel_rfl) fun a p h => by rw [← h]; exact run7 N a.1 a.2.1

/-! ### tiller/tillerref01.bitsOf: function 16 -/
noncomputable def c16 : Code := (Tryd.f16.body).getD .skip
noncomputable def T16 : Tb := ⟨tyOf tys, [(12, 1), (25, 3)], []⟩
noncomputable def G16 {R : Type} (N : Nat) : FuncId → List AV → (AV → Option R) → Option R := gNil
theorem gok16 {R : Type} (N : Nat) : GOK Tryd.prog (G16 (R := R) N) := gNil_ok
noncomputable def live16 : List (Nat × List (Nat × HK)) := [(3, [(1, .keep), (2, .keep), (3, .keep), (4, .keep)]), (7, [(1, .keep), (2, .keep), (3, .keep), (4, .keep), (5, .keep), (6, .keep)])]
noncomputable def ad16 : Ad (Vec 4 × Unit) := aC (cVec .u64 4) (a0)
noncomputable def rd16 : Rd (Vec 256) := r1 (cVec .i64 256)
noncomputable def st16_0 (v0 : Int) (v1 : Vec 4) (v2 : Vec 256) (v3 : Vec 256) : St := ⟨[AV.none, AV.ptr 1 0, AV.ptr 2 0, AV.ptr 3 0, AV.v (.int .i64 v0), AV.none, AV.none, AV.none, AV.none, AV.none, AV.none, AV.none, AV.none, AV.none, AV.none, AV.none, AV.none, AV.none, AV.none, AV.none, AV.none, AV.none, AV.none, AV.none, AV.none, AV.none, AV.none, AV.none, AV.none], [none, some (OB.arr .u64 4 v1), some (OB.arr .i64 256 v2), some (OB.arr .i64 256 v3), none, none, none, none, none, none, none, none, none, none, none, none, none, none, none, none, none, none, none, none, none, none, none, none, none]⟩
noncomputable def raw16_0 (N : Nat) (n : Nat) (v0 : Int) (v1 : Vec 4) (v2 : Vec 256) (v3 : Vec 256) : Option (Vec 256) := loopN (lookN live16 3) (exec T16 (G16 N) N live16 (cL (cL (cR (cL (cR (cR c16))))))) n (st16_0 v0 v1 v2 v3) (blockK 0 (seqK (exec T16 (G16 N) N live16 (cR (cR (cR c16)))) (retK T16 Tryd.f16.results.toList (rd16).dec)))
noncomputable def st16_1 (v0 : Int) (v1 : Int) (v2 : Int) (v3 : Vec 4) (v4 : Vec 256) (v5 : Vec 256) : St := ⟨[AV.none, AV.ptr 1 0, AV.ptr 2 0, AV.ptr 3 0, AV.v (.int .i64 v0), AV.v (.int .u64 v1), AV.v (.int .i64 v2), AV.none, AV.none, AV.none, AV.none, AV.none, AV.none, AV.none, AV.none, AV.none, AV.none, AV.none, AV.none, AV.none, AV.none, AV.none, AV.none, AV.none, AV.none, AV.none, AV.none, AV.none, AV.none], [none, some (OB.arr .u64 4 v3), some (OB.arr .i64 256 v4), some (OB.arr .i64 256 v5), none, none, none, none, none, none, none, none, none, none, none, none, none, none, none, none, none, none, none, none, none, none, none, none, none]⟩
noncomputable def raw16_1 (N : Nat) (m0 : Nat) (n : Nat) (v0 : Int) (v1 : Int) (v2 : Int) (v3 : Vec 4) (v4 : Vec 256) (v5 : Vec 256) : Option (Vec 256) := loopN (lookN live16 7) (exec T16 (G16 N) N live16 (cL (cL (cR (cR (cL (cL (cR (cL (cL (cR (cL (cR (cR c16)))))))))))))) n (st16_1 v0 v1 v2 v3 v4 v5) (blockK 2 (blockK 1 (seqK (exec T16 (G16 N) N live16 (cR (cR (cL (cL (cR (cL (cR (cR c16))))))))) (roundK (fun s => loopN (lookN live16 3) (exec T16 (G16 N) N live16 (cL (cL (cR (cL (cR (cR c16))))))) m0 s (blockK 0 (seqK (exec T16 (G16 N) N live16 (cR (cR (cR c16)))) (retK T16 Tryd.f16.results.toList (rd16).dec)))) (lookN live16 3) (blockK 0 (seqK (exec T16 (G16 N) N live16 (cR (cR (cR c16)))) (retK T16 Tryd.f16.results.toList (rd16).dec)))))))
noncomputable def s16_1 (N : Nat) (Ln1 : Int → Int → Int → Vec 4 → Vec 256 → Vec 256 → Option (Vec 256)) (Ln0 : Int → Vec 4 → Vec 256 → Vec 256 → Option (Vec 256)) (v0 : Int) (v1 : Int) (v2 : Int) (v3 : Vec 4) (v4 : Vec 256) (v5 : Vec 256) : Option (Vec 256) :=
  cond (ltI v2 64)
   (cond (leI 0 (addI .i64 (mulI .i64 64 v0) v2))
    (cond (ltI (addI .i64 (mulI .i64 64 v0) v2) 256)
     (Ln1 v0 (quoI .u64 v1 2) (addI .i64 v2 1) v3 v4 (Vec.st v5 (addI .i64 (mulI .i64 64 v0) v2) (cvI .i64 (remI .u64 v1 2))))
     (none))
    (none))
   (Ln0 (addI .i64 v0 1) v3 v4 v5)
theorem step16_1 (N : Nat) (m0 : Nat) (n : Nat) (v0 : Int) (v1 : Int) (v2 : Int) (v3 : Vec 4) (v4 : Vec 256) (v5 : Vec 256) : raw16_1 N m0 (n + 1) v0 v1 v2 v3 v4 v5 = s16_1 N (raw16_1 N m0 n) (raw16_0 N  m0) v0 v1 v2 v3 v4 v5 := by kernel_rfl
noncomputable def l16_1 (N : Nat) (E0 : Int → Vec 4 → Vec 256 → Vec 256 → Option (Vec 256)) : Nat → Int → Int → Int → Vec 4 → Vec 256 → Vec 256 → Option (Vec 256)
  | 0 => fun _ _ _ _ _ _ => none
  | n + 1 => fun v0 v1 v2 v3 v4 v5 => s16_1 N (l16_1 N E0 n) E0 v0 v1 v2 v3 v4 v5
theorem eq16_1 (N : Nat) (m0 : Nat) : ∀ n, raw16_1 N m0 n = l16_1 N (raw16_0 N  m0) n := by
  intro n
  induction n with
  | zero => exact funext fun v0 => funext fun v1 => funext fun v2 => funext fun v3 => funext fun v4 => funext fun v5 => rfl
  | succ n ih => exact funext fun v0 => funext fun v1 => funext fun v2 => funext fun v3 => funext fun v4 => funext fun v5 => by rw [step16_1, ih]; rfl
noncomputable def s16_0 (N : Nat) (Le1 : Int → Int → Int → Vec 4 → Vec 256 → Vec 256 → Option (Vec 256)) (v0 : Int) (v1 : Vec 4) (v2 : Vec 256) (v3 : Vec 256) : Option (Vec 256) :=
  cond (ltI v0 4)
   (cond (leI 0 v0)
    (cond (ltI v0 4)
     (Le1 v0 (Vec.rd v1 v0) 0 v1 v2 v3)
     (none))
    (none))
   (some v3)
theorem step16_0 (N : Nat) (n : Nat) (v0 : Int) (v1 : Vec 4) (v2 : Vec 256) (v3 : Vec 256) : raw16_0 N  (n + 1) v0 v1 v2 v3 = s16_0 N (raw16_1 N n N) v0 v1 v2 v3 := by kernel_rfl
noncomputable def l16_0 (N : Nat) : Nat → Int → Vec 4 → Vec 256 → Vec 256 → Option (Vec 256)
  | 0 => fun _ _ _ _ => none
  | n + 1 => fun v0 v1 v2 v3 => s16_0 N (l16_1 N (l16_0 N  n) N) v0 v1 v2 v3
theorem eq16_0 (N : Nat) : ∀ n, raw16_0 N  n = l16_0 N  n := by
  intro n
  induction n with
  | zero => exact funext fun v0 => funext fun v1 => funext fun v2 => funext fun v3 => rfl
  | succ n ih => exact funext fun v0 => funext fun v1 => funext fun v2 => funext fun v3 => by rw [step16_0, eq16_1 N n N, ih]; rfl
noncomputable def t16 (N : Nat) (Le0 : Int → Vec 4 → Vec 256 → Vec 256 → Option (Vec 256)) (x0 : Vec 4) : Option (Vec 256) :=
  Le0 0 x0 (Vec.zero 256) (Vec.zero 256)
noncomputable def fn_tillerref01_bitsOf (N : Nat) (x0 : Vec 4) : Option (Vec 256) := t16 N (l16_0 N N) x0
theorem run16 (N : Nat) (x0 : Vec 4) : Eng.run T16 (G16 N) N live16 c16 Tryd.f16.results.toList Tryd.f16.ntmps ((ad16).enc (x0, ())) (rd16).dec = fn_tillerref01_bitsOf N x0 := by
  refine Eq.trans (show _ = t16 N (raw16_0 N N) x0 from by kernel_rfl) ?_
  unfold fn_tillerref01_bitsOf
  rw [eq16_0 N N]
noncomputable def F16 (N : Nat) (a : Vec 4 × Unit) : Option (Vec 256) := fn_tillerref01_bitsOf N a.1
theorem ok16 (N : Nat) : FnOK Tryd.prog 16 ad16 rd16 (F16 N) :=
  fn_ok (N := N) (live := live16) (code := c16) (tok T16.rt T16.kl) mixed (gok16 N) Tryd.func16 (by kernel_rfl) (by kernel_rfl) (by kernel_rfl) fun a p h => by rw [← h]; exact run16 N a.1

/-! ### tiller/tillerref01.of: function 17 -/
noncomputable def c17 : Code := (Tryd.f17.body).getD .skip
noncomputable def T17 : Tb := ⟨tyOf tys, [(28, 3)], []⟩
noncomputable def G17 {R : Type} (N : Nat) : FuncId → List AV → (AV → Option R) → Option R := gNil
theorem gok17 {R : Type} (N : Nat) : GOK Tryd.prog (G17 (R := R) N) := gNil_ok
noncomputable def live17 : List (Nat × List (Nat × HK)) := [(3, [(0, .keep), (2, .keep), (3, .keep), (4, .keep)]), (7, [(0, .keep), (2, .keep), (3, .keep), (4, .keep), (5, .keep), (6, .keep)])]
noncomputable def ad17 : Ad (List Int × Unit) := aC (cLi .i64) (a0)
noncomputable def rd17 : Rd (Vec 4) := r1 (cVec .u64 4)
noncomputable def st17_0 (v0 : List Int) (v1 : Int) (v2 : Vec 4) (v3 : Vec 4) : St := ⟨[AV.li .i64 v0, AV.none, AV.ptr 2 0, AV.ptr 3 0, AV.v (.int .i64 v1), AV.none, AV.none, AV.none, AV.none, AV.none, AV.none, AV.none, AV.none, AV.none, AV.none, AV.none, AV.none, AV.none, AV.none, AV.none, AV.none, AV.none, AV.none, AV.none, AV.none, AV.none, AV.none, AV.none, AV.none, AV.none], [none, none, some (OB.arr .u64 4 v2), some (OB.arr .u64 4 v3), none, none, none, none, none, none, none, none, none, none, none, none, none, none, none, none, none, none, none, none, none, none, none, none, none, none]⟩
noncomputable def raw17_0 (N : Nat) (n : Nat) (v0 : List Int) (v1 : Int) (v2 : Vec 4) (v3 : Vec 4) : Option (Vec 4) := loopN (lookN live17 3) (exec T17 (G17 N) N live17 (cL (cL (cR (cL (cR (cR c17))))))) n (st17_0 v0 v1 v2 v3) (blockK 0 (seqK (exec T17 (G17 N) N live17 (cR (cR (cR c17)))) (retK T17 Tryd.f17.results.toList (rd17).dec)))
noncomputable def st17_1 (v0 : List Int) (v1 : Int) (v2 : Int) (v3 : Int) (v4 : Vec 4) (v5 : Vec 4) : St := ⟨[AV.li .i64 v0, AV.none, AV.ptr 2 0, AV.ptr 3 0, AV.v (.int .i64 v1), AV.v (.int .u64 v2), AV.v (.int .i64 v3), AV.none, AV.none, AV.none, AV.none, AV.none, AV.none, AV.none, AV.none, AV.none, AV.none, AV.none, AV.none, AV.none, AV.none, AV.none, AV.none, AV.none, AV.none, AV.none, AV.none, AV.none, AV.none, AV.none], [none, none, some (OB.arr .u64 4 v4), some (OB.arr .u64 4 v5), none, none, none, none, none, none, none, none, none, none, none, none, none, none, none, none, none, none, none, none, none, none, none, none, none, none]⟩
noncomputable def raw17_1 (N : Nat) (m0 : Nat) (n : Nat) (v0 : List Int) (v1 : Int) (v2 : Int) (v3 : Int) (v4 : Vec 4) (v5 : Vec 4) : Option (Vec 4) := loopN (lookN live17 7) (exec T17 (G17 N) N live17 (cL (cL (cR (cL (cR (cL (cL (cR (cL (cL (cR (cL (cR (cR c17))))))))))))))) n (st17_1 v0 v1 v2 v3 v4 v5) (blockK 2 (seqK (exec T17 (G17 N) N live17 (cR (cR (cL (cL (cR (cL (cL (cR (cL (cR (cR c17)))))))))))) (blockK 1 (seqK (exec T17 (G17 N) N live17 (cR (cR (cL (cL (cR (cL (cR (cR c17))))))))) (roundK (fun s => loopN (lookN live17 3) (exec T17 (G17 N) N live17 (cL (cL (cR (cL (cR (cR c17))))))) m0 s (blockK 0 (seqK (exec T17 (G17 N) N live17 (cR (cR (cR c17)))) (retK T17 Tryd.f17.results.toList (rd17).dec)))) (lookN live17 3) (blockK 0 (seqK (exec T17 (G17 N) N live17 (cR (cR (cR c17)))) (retK T17 Tryd.f17.results.toList (rd17).dec))))))))
noncomputable def s17_1 (N : Nat) (Ln1 : List Int → Int → Int → Int → Vec 4 → Vec 4 → Option (Vec 4)) (Ln0 : List Int → Int → Vec 4 → Vec 4 → Option (Vec 4)) (v0 : List Int) (v1 : Int) (v2 : Int) (v3 : Int) (v4 : Vec 4) (v5 : Vec 4) : Option (Vec 4) :=
  cond (leI 0 v3)
   (cond (leI 0 (addI .i64 (mulI .i64 64 v1) v3))
    (cond (ltI (addI .i64 (mulI .i64 64 v1) v3) (v0.length : Int))
     (Ln1 v0 v1 (addI .u64 (mulI .u64 2 v2) (cvI .u64 (lrd v0 (addI .i64 (mulI .i64 64 v1) v3)))) (subI .i64 v3 1) v4 v5)
     (none))
    (none))
   (cond (leI 0 v1)
    (cond (ltI v1 4)
     (Ln0 v0 (addI .i64 v1 1) v4 (Vec.st v5 v1 v2))
     (none))
    (none))
theorem step17_1 (N : Nat) (m0 : Nat) (n : Nat) (v0 : List Int) (v1 : Int) (v2 : Int) (v3 : Int) (v4 : Vec 4) (v5 : Vec 4) : raw17_1 N m0 (n + 1) v0 v1 v2 v3 v4 v5 = s17_1 N (raw17_1 N m0 n) (raw17_0 N  m0) v0 v1 v2 v3 v4 v5 := by kernel_rfl
noncomputable def l17_1 (N : Nat) (E0 : List Int → Int → Vec 4 → Vec 4 → Option (Vec 4)) : Nat → List Int → Int → Int → Int → Vec 4 → Vec 4 → Option (Vec 4)
  | 0 => fun _ _ _ _ _ _ => none
  | n + 1 => fun v0 v1 v2 v3 v4 v5 => s17_1 N (l17_1 N E0 n) E0 v0 v1 v2 v3 v4 v5
theorem eq17_1 (N : Nat) (m0 : Nat) : ∀ n, raw17_1 N m0 n = l17_1 N (raw17_0 N  m0) n := by
  intro n
  induction n with
  | zero => exact funext fun v0 => funext fun v1 => funext fun v2 => funext fun v3 => funext fun v4 => funext fun v5 => rfl
  | succ n ih => exact funext fun v0 => funext fun v1 => funext fun v2 => funext fun v3 => funext fun v4 => funext fun v5 => by rw [step17_1, ih]; rfl
noncomputable def s17_0 (N : Nat) (Le1 : List Int → Int → Int → Int → Vec 4 → Vec 4 → Option (Vec 4)) (v0 : List Int) (v1 : Int) (v2 : Vec 4) (v3 : Vec 4) : Option (Vec 4) :=
  cond (ltI v1 4)
   (Le1 v0 v1 0 63 v2 v3)
   (some v3)
theorem step17_0 (N : Nat) (n : Nat) (v0 : List Int) (v1 : Int) (v2 : Vec 4) (v3 : Vec 4) : raw17_0 N  (n + 1) v0 v1 v2 v3 = s17_0 N (raw17_1 N n N) v0 v1 v2 v3 := by kernel_rfl
noncomputable def l17_0 (N : Nat) : Nat → List Int → Int → Vec 4 → Vec 4 → Option (Vec 4)
  | 0 => fun _ _ _ _ => none
  | n + 1 => fun v0 v1 v2 v3 => s17_0 N (l17_1 N (l17_0 N  n) N) v0 v1 v2 v3
theorem eq17_0 (N : Nat) : ∀ n, raw17_0 N  n = l17_0 N  n := by
  intro n
  induction n with
  | zero => exact funext fun v0 => funext fun v1 => funext fun v2 => funext fun v3 => rfl
  | succ n ih => exact funext fun v0 => funext fun v1 => funext fun v2 => funext fun v3 => by rw [step17_0, eq17_1 N n N, ih]; rfl
noncomputable def t17 (N : Nat) (Le0 : List Int → Int → Vec 4 → Vec 4 → Option (Vec 4)) (x0 : List Int) : Option (Vec 4) :=
  Le0 x0 0 (Vec.zero 4) (Vec.zero 4)
noncomputable def fn_tillerref01_of (N : Nat) (x0 : List Int) : Option (Vec 4) := t17 N (l17_0 N N) x0
theorem run17 (N : Nat) (x0 : List Int) : Eng.run T17 (G17 N) N live17 c17 Tryd.f17.results.toList Tryd.f17.ntmps ((ad17).enc (x0, ())) (rd17).dec = fn_tillerref01_of N x0 := by
  refine Eq.trans (show _ = t17 N (raw17_0 N N) x0 from by kernel_rfl) ?_
  unfold fn_tillerref01_of
  rw [eq17_0 N N]
noncomputable def F17 (N : Nat) (a : List Int × Unit) : Option (Vec 4) := fn_tillerref01_of N a.1
theorem ok17 (N : Nat) : FnOK Tryd.prog 17 ad17 rd17 (F17 N) :=
  fn_ok (N := N) (live := live17) (code := c17) (tok T17.rt T17.kl) mixed (gok17 N) Tryd.func17 (by kernel_rfl) (by kernel_rfl) (by kernel_rfl) fun a p h => by rw [← h]; exact run17 N a.1

/-! ### tiller/tillerref01.Add: function 8 -/
noncomputable def c8 : Code := (Tryd.f8.body).getD .skip
noncomputable def T8 : Tb := ⟨tyOf tys, [(20, 6), (23, 7), (33, 6)], []⟩
noncomputable def G8 {R : Type} (N : Nat) : FuncId → List AV → (AV → Option R) → Option R := gCons 16 (gOf ad16 rd16 (F16 N)) (gCons 17 (gOf ad17 rd17 (F17 N)) (gNil))
theorem gok8 {R : Type} (N : Nat) : GOK Tryd.prog (G8 (R := R) N) := gCons_ok (ok16 N) (gCons_ok (ok17 N) (gNil_ok))
noncomputable def live8 : List (Nat × List (Nat × HK)) := [(4, [(4, .keep), (6, .keep), (7, .keep), (8, .keep), (9, .keep)])]
noncomputable def ad8 : Ad (Vec 4 × Vec 4 × Unit) := aC (cVec .u64 4) (aC (cVec .u64 4) (a0))
noncomputable def rd8 : Rd (Vec 4 × Bool) := r2 (cVec .u64 4) (cBool)
noncomputable def st8_0 (v0 : Int) (v1 : Int) (v2 : Vec 4) (v3 : Vec 256) (v4 : Vec 256) : St := ⟨[AV.none, AV.none, AV.none, AV.none, AV.ptr 4 0, AV.none, AV.ptr 6 0, AV.ptr 7 0, AV.v (.int .i64 v0), AV.v (.int .i64 v1), AV.none, AV.none, AV.none, AV.none, AV.none, AV.none, AV.none, AV.none, AV.none, AV.none, AV.none, AV.none, AV.none, AV.none, AV.none, AV.none, AV.none, AV.none, AV.none, AV.none, AV.none, AV.none, AV.none, AV.none, AV.none, AV.none, AV.none, AV.none], [none, none, none, none, some (OB.arr .u64 4 v2), none, some (OB.arr .i64 256 v3), some (OB.arr .i64 256 v4), none, none, none, none, none, none, none, none, none, none, none, none, none, none, none, none, none, none, none, none, none, none, none, none, none, none, none, none, none, none]⟩
noncomputable def raw8_0 (N : Nat) (n : Nat) (v0 : Int) (v1 : Int) (v2 : Vec 4) (v3 : Vec 256) (v4 : Vec 256) : Option (Vec 4 × Bool) := loopN (lookN live8 4) (exec T8 (G8 N) N live8 (cL (cL (cR (cL (cR (cR (cR c8)))))))) n (st8_0 v0 v1 v2 v3 v4) (blockK 0 (seqK (exec T8 (G8 N) N live8 (cR (cR (cR (cR c8))))) (retK T8 Tryd.f8.results.toList (rd8).dec)))
noncomputable def s8_0 (N : Nat) (Ln0 : Int → Int → Vec 4 → Vec 256 → Vec 256 → Option (Vec 4 × Bool)) (v0 : Int) (v1 : Int) (v2 : Vec 4) (v3 : Vec 256) (v4 : Vec 256) : Option (Vec 4 × Bool) :=
  cond (ltI v1 256)
   (cond (leI 0 v1)
    (cond (ltI v1 256)
     (cond (leI 0 v1)
      (cond (ltI v1 256)
       (cond (leI 0 v1)
        (cond (ltI v1 256)
         (Ln0 (quoI .i64 (addI .i64 (addI .i64 (Vec.rd v3 v1) (Vec.rd v4 v1)) v0) 2) (addI .i64 v1 1) v2 (Vec.st v3 v1 (remI .i64 (addI .i64 (addI .i64 (Vec.rd v3 v1) (Vec.rd v4 v1)) v0) 2)) v4)
         (none))
        (none))
       (none))
      (none))
     (none))
    (none))
   ((fn_tillerref01_of N (Vec.cut v3 0 256)).bind fun r3 =>
    some (r3, eqI v0 1))
theorem step8_0 (N : Nat) (n : Nat) (v0 : Int) (v1 : Int) (v2 : Vec 4) (v3 : Vec 256) (v4 : Vec 256) : raw8_0 N  (n + 1) v0 v1 v2 v3 v4 = s8_0 N (raw8_0 N  n) v0 v1 v2 v3 v4 := by kernel_rfl
noncomputable def l8_0 (N : Nat) : Nat → Int → Int → Vec 4 → Vec 256 → Vec 256 → Option (Vec 4 × Bool)
  | 0 => fun _ _ _ _ _ => none
  | n + 1 => fun v0 v1 v2 v3 v4 => s8_0 N (l8_0 N  n) v0 v1 v2 v3 v4
theorem eq8_0 (N : Nat) : ∀ n, raw8_0 N  n = l8_0 N  n := by
  intro n
  induction n with
  | zero => exact funext fun v0 => funext fun v1 => funext fun v2 => funext fun v3 => funext fun v4 => rfl
  | succ n ih => exact funext fun v0 => funext fun v1 => funext fun v2 => funext fun v3 => funext fun v4 => by rw [step8_0, ih]; rfl
noncomputable def t8 (N : Nat) (Le0 : Int → Int → Vec 4 → Vec 256 → Vec 256 → Option (Vec 4 × Bool)) (x0 : Vec 4) (x1 : Vec 4) : Option (Vec 4 × Bool) :=
  (fn_tillerref01_bitsOf N x0).bind fun r1 =>
   (fn_tillerref01_bitsOf N x1).bind fun r2 =>
    Le0 0 0 (Vec.zero 4) r1 r2
noncomputable def fn_tillerref01_Add (N : Nat) (x0 : Vec 4) (x1 : Vec 4) : Option (Vec 4 × Bool) := t8 N (l8_0 N N) x0 x1
theorem run8 (N : Nat) (x0 : Vec 4) (x1 : Vec 4) : Eng.run T8 (G8 N) N live8 c8 Tryd.f8.results.toList Tryd.f8.ntmps ((ad8).enc (x0, x1, ())) (rd8).dec = fn_tillerref01_Add N x0 x1 := by
  refine Eq.trans (show _ = t8 N (raw8_0 N N) x0 x1 from by kernel_rfl) ?_
  unfold fn_tillerref01_Add
  rw [eq8_0 N N]
noncomputable def F8 (N : Nat) (a : Vec 4 × Vec 4 × Unit) : Option (Vec 4 × Bool) := fn_tillerref01_Add N a.1 a.2.1
theorem ok8 (N : Nat) : FnOK Tryd.prog 8 ad8 rd8 (F8 N) :=
  fn_ok (N := N) (live := live8) (code := c8) (tok T8.rt T8.kl) mixed (gok8 N) Tryd.func8 (by kernel_rfl) (by kernel_rfl) (by kernel_rfl) fun a p h => by rw [← h]; exact run8 N a.1 a.2.1

/-! ### tiller/tillerref01.Bit: function 18 -/
noncomputable def c18 : Code := (Tryd.f18.body).getD .skip
noncomputable def T18 : Tb := ⟨tyOf tys, [(15, 2)], []⟩
noncomputable def G18 {R : Type} (N : Nat) : FuncId → List AV → (AV → Option R) → Option R := gNil
theorem gok18 {R : Type} (N : Nat) : GOK Tryd.prog (G18 (R := R) N) := gNil_ok
noncomputable def live18 : List (Nat × List (Nat × HK)) := [(5, [(1, .keep), (5, .keep), (6, .keep)])]
noncomputable def ad18 : Ad (Vec 4 × Int × Unit) := aC (cVec .u64 4) (aC (cInt .i64) (a0))
noncomputable def rd18 : Rd (Int) := r1 (cInt .i64)
noncomputable def st18_0 (v0 : Int) (v1 : Int) (v2 : Int) : St := ⟨[AV.none, AV.v (.int .i64 v0), AV.none, AV.none, AV.none, AV.v (.int .u64 v1), AV.v (.int .i64 v2), AV.none, AV.none, AV.none, AV.none, AV.none, AV.none, AV.none, AV.none, AV.none, AV.none, AV.none, AV.none, AV.none, AV.none, AV.none, AV.none, AV.none, AV.none, AV.none, AV.none, AV.none], [none, none, none, none, none, none, none, none, none, none, none, none, none, none, none, none, none, none, none, none, none, none, none, none, none, none, none, none]⟩
noncomputable def raw18_0 (N : Nat) (n : Nat) (v0 : Int) (v1 : Int) (v2 : Int) : Option (Int) := loopN (lookN live18 5) (exec T18 (G18 N) N live18 (cL (cL (cR (cL (cR (cR (cR c18)))))))) n (st18_0 v0 v1 v2) (blockK 0 (seqK (exec T18 (G18 N) N live18 (cR (cR (cR (cR c18))))) (retK T18 Tryd.f18.results.toList (rd18).dec)))
noncomputable def s18_0 (N : Nat) (Ln0 : Int → Int → Int → Option (Int)) (v0 : Int) (v1 : Int) (v2 : Int) : Option (Int) :=
  cond (ltI v2 (remI .i64 v0 64))
   (Ln0 v0 (quoI .u64 v1 2) (addI .i64 v2 1))
   (some (cvI .i64 (remI .u64 v1 2)))
theorem step18_0 (N : Nat) (n : Nat) (v0 : Int) (v1 : Int) (v2 : Int) : raw18_0 N  (n + 1) v0 v1 v2 = s18_0 N (raw18_0 N  n) v0 v1 v2 := by kernel_rfl
noncomputable def l18_0 (N : Nat) : Nat → Int → Int → Int → Option (Int)
  | 0 => fun _ _ _ => none
  | n + 1 => fun v0 v1 v2 => s18_0 N (l18_0 N  n) v0 v1 v2
theorem eq18_0 (N : Nat) : ∀ n, raw18_0 N  n = l18_0 N  n := by
  intro n
  induction n with
  | zero => exact funext fun v0 => funext fun v1 => funext fun v2 => rfl
  | succ n ih => exact funext fun v0 => funext fun v1 => funext fun v2 => by rw [step18_0, ih]; rfl
noncomputable def t18 (N : Nat) (Le0 : Int → Int → Int → Option (Int)) (x0 : Vec 4) (x1 : Int) : Option (Int) :=
  cond (ltI x1 0)
   (some 0)
   (cond (ltI 255 x1)
    (some 0)
    (cond (leI 0 (quoI .i64 x1 64))
     (cond (ltI (quoI .i64 x1 64) 4)
      (Le0 x1 (Vec.rd x0 (quoI .i64 x1 64)) 0)
      (none))
     (none)))
noncomputable def fn_tillerref01_Bit (N : Nat) (x0 : Vec 4) (x1 : Int) : Option (Int) := t18 N (l18_0 N N) x0 x1
theorem run18 (N : Nat) (x0 : Vec 4) (x1 : Int) : Eng.run T18 (G18 N) N live18 c18 Tryd.f18.results.toList Tryd.f18.ntmps ((ad18).enc (x0, x1, ())) (rd18).dec = fn_tillerref01_Bit N x0 x1 := by
  refine Eq.trans (show _ = t18 N (raw18_0 N N) x0 x1 from by kernel_rfl) ?_
  unfold fn_tillerref01_Bit
  rw [eq18_0 N N]
noncomputable def F18 (N : Nat) (a : Vec 4 × Int × Unit) : Option (Int) := fn_tillerref01_Bit N a.1 a.2.1
theorem ok18 (N : Nat) : FnOK Tryd.prog 18 ad18 rd18 (F18 N) :=
  fn_ok (N := N) (live := live18) (code := c18) (tok T18.rt T18.kl) mixed (gok18 N) Tryd.func18 (by kernel_rfl) (by kernel_rfl) (by kernel_rfl) fun a p h => by rw [← h]; exact run18 N a.1 a.2.1

/-! ### tiller/tillerref01.Cmp: function 9 -/
noncomputable def c9 : Code := (Tryd.f9.body).getD .skip
noncomputable def T9 : Tb := ⟨tyOf tys, [], []⟩
noncomputable def G9 {R : Type} (N : Nat) : FuncId → List AV → (AV → Option R) → Option R := gCons 18 (gOf ad18 rd18 (F18 N)) (gNil)
theorem gok9 {R : Type} (N : Nat) : GOK Tryd.prog (G9 (R := R) N) := gCons_ok (ok18 N) (gNil_ok)
noncomputable def live9 : List (Nat × List (Nat × HK)) := [(2, [(2, .keep), (3, .keep), (5, .keep)])]
noncomputable def ad9 : Ad (Vec 4 × Vec 4 × Unit) := aC (cVec .u64 4) (aC (cVec .u64 4) (a0))
noncomputable def rd9 : Rd (Int) := r1 (cInt .i64)
noncomputable def st9_0 (v0 : Int) (v1 : Vec 4) (v2 : Vec 4) : St := ⟨[AV.none, AV.none, AV.ptr 2 0, AV.ptr 3 0, AV.none, AV.v (.int .i64 v0), AV.none, AV.none, AV.none, AV.none, AV.none, AV.none, AV.none, AV.none, AV.none, AV.none, AV.none, AV.none, AV.none, AV.none, AV.none, AV.none, AV.none, AV.none], [none, none, some (OB.arr .u64 4 v1), some (OB.arr .u64 4 v2), none, none, none, none, none, none, none, none, none, none, none, none, none, none, none, none, none, none, none, none]⟩
noncomputable def raw9_0 (N : Nat) (n : Nat) (v0 : Int) (v1 : Vec 4) (v2 : Vec 4) : Option (Int) := loopN (lookN live9 2) (exec T9 (G9 N) N live9 (cL (cL (cR (cL (cR c9)))))) n (st9_0 v0 v1 v2) (blockK 0 (seqK (exec T9 (G9 N) N live9 (cR (cR c9))) (retK T9 Tryd.f9.results.toList (rd9).dec)))
noncomputable def s9_0 (N : Nat) (Ln0 : Int → Vec 4 → Vec 4 → Option (Int)) (v0 : Int) (v1 : Vec 4) (v2 : Vec 4) : Option (Int) :=
  cond (leI 0 v0)
   ((fn_tillerref01_Bit N v1 v0).bind fun r1 =>
    (fn_tillerref01_Bit N v2 v0).bind fun r2 =>
     cond (!(eqI r1 r2))
      ((fn_tillerref01_Bit N v1 v0).bind fun r3 =>
       (fn_tillerref01_Bit N v2 v0).bind fun r4 =>
        some (subI .i64 r3 r4))
      (Ln0 (subI .i64 v0 1) v1 v2))
   (some 0)
theorem step9_0 (N : Nat) (n : Nat) (v0 : Int) (v1 : Vec 4) (v2 : Vec 4) : raw9_0 N  (n + 1) v0 v1 v2 = s9_0 N (raw9_0 N  n) v0 v1 v2 := by kernel_rfl
noncomputable def l9_0 (N : Nat) : Nat → Int → Vec 4 → Vec 4 → Option (Int)
  | 0 => fun _ _ _ => none
  | n + 1 => fun v0 v1 v2 => s9_0 N (l9_0 N  n) v0 v1 v2
theorem eq9_0 (N : Nat) : ∀ n, raw9_0 N  n = l9_0 N  n := by
  intro n
  induction n with
  | zero => exact funext fun v0 => funext fun v1 => funext fun v2 => rfl
  | succ n ih => exact funext fun v0 => funext fun v1 => funext fun v2 => by rw [step9_0, ih]; rfl
noncomputable def t9 (N : Nat) (Le0 : Int → Vec 4 → Vec 4 → Option (Int)) (x0 : Vec 4) (x1 : Vec 4) : Option (Int) :=
  Le0 255 x0 x1
noncomputable def fn_tillerref01_Cmp (N : Nat) (x0 : Vec 4) (x1 : Vec 4) : Option (Int) := t9 N (l9_0 N N) x0 x1
theorem run9 (N : Nat) (x0 : Vec 4) (x1 : Vec 4) : Eng.run T9 (G9 N) N live9 c9 Tryd.f9.results.toList Tryd.f9.ntmps ((ad9).enc (x0, x1, ())) (rd9).dec = fn_tillerref01_Cmp N x0 x1 := by
  refine Eq.trans (show _ = t9 N (raw9_0 N N) x0 x1 from by kernel_rfl) ?_
  unfold fn_tillerref01_Cmp
  rw [eq9_0 N N]
noncomputable def F9 (N : Nat) (a : Vec 4 × Vec 4 × Unit) : Option (Int) := fn_tillerref01_Cmp N a.1 a.2.1
theorem ok9 (N : Nat) : FnOK Tryd.prog 9 ad9 rd9 (F9 N) :=
  fn_ok (N := N) (live := live9) (code := c9) (tok T9.rt T9.kl) mixed (gok9 N) Tryd.func9 (by kernel_rfl) (by kernel_rfl) (by kernel_rfl) fun a p h => by rw [← h]; exact run9 N a.1 a.2.1
end Go.Proofs.YtbdfjjgkjpnahaaDoor.Fns

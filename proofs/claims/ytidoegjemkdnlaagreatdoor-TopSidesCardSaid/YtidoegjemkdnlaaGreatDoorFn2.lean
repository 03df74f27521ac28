/- Go functions as plain Lean functions, and the engine's run of each. No statement is proved here. Laid by eng.py. -/
import Derived.Test.YtidoegjemkdnlaaGreatDoorFn1
namespace Go.Proofs.YtidoegjemkdnlaaGreatDoor.Fns
open Go Go.RowKit Go.Proofs Go.Proofs.YtidoegjemkdnlaaGreatDoor.Eng Go.Proofs.YtidoegjemkdnlaaGreatDoor.Num Go.Proofs.YtidoegjemkdnlaaGreatDoor.Slc
set_option linter.unusedVariables false
set_option maxRecDepth 100000
/-! ### math/bits.LeadingZeros32: function 129 -/
noncomputable def c129 : Code := (Tryz.f129.body).getD .skip
noncomputable def T129 : Tb := ⟨tyOf tys, [], [], wrNil⟩
noncomputable def G129 {R : Type} (N : Nat) : FuncId → List AV → (AV → Option R) → Option R := gCons 95 (gOf ad95 rd95 (F95 N)) (gNil)
theorem gok129 {R : Type} (N : Nat) : GOK Tryz.prog (G129 (R := R) N) := gCons_ok (ok95 N) (gNil_ok)
noncomputable def live129 : List (Nat × List (Nat × HK)) := []
noncomputable def ad129 : Ad (Int × Unit) := aC (cInt .u32) (a0)
noncomputable def rd129 : Rd (Int) := r1 (cInt .i64)
noncomputable def fn_bits_LeadingZeros32 (N : Nat) (x0 : Int) : Option (Int) :=
  (fn_bits_Len32 N x0).bind fun r1 =>
   some (subI .i64 32 r1)
theorem run129 (N : Nat) (x0 : Int) : Eng.run T129 (G129 N) N live129 c129 Tryz.f129.results.toList Tryz.f129.ntmps ((ad129).enc (x0, ())) (rd129).dec = fn_bits_LeadingZeros32 N x0 := by kernel_rfl
noncomputable def F129 (N : Nat) (a : Int × Unit) : Option (Int) := fn_bits_LeadingZeros32 N a.1
theorem ok129 (N : Nat) : FnOK Tryz.prog 129 ad129 rd129 (F129 N) :=
  fn_ok (N := N) (live := live129) (code := c129) (tok T129.rt T129.kl (wrNil_ok)) mixed (gok129 N) Tryz.func129 (by kernel_rfl) (by kernel_rfl) (by kernel_rfl) fun a p h => by rw [← h]; exact run129 N a.1

/-! ### tiller/nat.guess: function 130 -/
noncomputable def c130 : Code := (Tryz.f130.body).getD .skip
noncomputable def T130 : Tb := ⟨tyOf tys, [(8, 2), (12, 2), (17, 3), (22, 3), (30, 3), (36, 2), (45, 3)], [], wrNil⟩
noncomputable def G130 {R : Type} (N : Nat) : FuncId → List AV → (AV → Option R) → Option R := gNil
theorem gok130 {R : Type} (N : Nat) : GOK Tryz.prog (G130 (R := R) N) := gNil_ok
noncomputable def live130 : List (Nat × List (Nat × HK)) := [(3, [(2, .keep), (3, .keep), (6, .keep), (7, .keep)])]
noncomputable def ad130 : Ad (Vec 3 × Vec 2 × Unit) := aC (cVec .u32 3) (aC (cVec .u32 2) (a0))
noncomputable def rd130 : Rd (Int) := r1 (cInt .u64)
noncomputable def st130_0 (v0 : Int) (v1 : Int) (v2 : Vec 3) (v3 : Vec 2) : St := ⟨[AV.none, AV.none, AV.ptr 2 0, AV.ptr 3 0, AV.none, AV.none, AV.v (.int .u64 v0), AV.v (.int .u64 v1), AV.none, AV.none, AV.none, AV.none, AV.none, AV.none, AV.none, AV.none, AV.none, AV.none, AV.none, AV.none, AV.none, AV.none, AV.none, AV.none, AV.none, AV.none, AV.none, AV.none, AV.none, AV.none, AV.none, AV.none, AV.none, AV.none, AV.none, AV.none, AV.none, AV.none, AV.none, AV.none, AV.none, AV.none, AV.none, AV.none, AV.none, AV.none, AV.none, AV.none, AV.none, AV.none, AV.none, AV.none], [none, none, some (OB.arr .u32 3 v2), some (OB.arr .u32 2 v3), none, none, none, none, none, none, none, none, none, none, none, none, none, none, none, none, none, none, none, none, none, none, none, none, none, none, none, none, none, none, none, none, none, none, none, none, none, none, none, none, none, none, none, none, none, none, none, none]⟩
noncomputable def raw130_0 (N : Nat) (n : Nat) (v0 : Int) (v1 : Int) (v2 : Vec 3) (v3 : Vec 2) : Option (Int) := loopN (lookN live130 3) (exec T130 (G130 N) N live130 (cL (cL (cL (cR (cR (cR c130))))))) n (st130_0 v0 v1 v2 v3) (blockK 0 (seqK (exec T130 (G130 N) N live130 (cR (cR (cR (cR c130))))) (retK T130 Tryz.f130.results.toList (rd130).dec)))
noncomputable def s130_0 (N : Nat) (Ln0 : Int → Int → Vec 3 → Vec 2 → Option (Int)) (v0 : Int) (v1 : Int) (v2 : Vec 3) (v3 : Vec 2) : Option (Int) :=
  cond (leI 4294967296 v0)
   (cond (leI 4294967296 (addI .u64 v1 (cvI .u64 (Vec.rd v3 0))))
    (some (subI .u64 v0 1))
    (Ln0 (subI .u64 v0 1) (addI .u64 v1 (cvI .u64 (Vec.rd v3 0))) v2 v3))
   (cond (ltI (orI .u64 (shlI .u64 v1 32) (cvI .u64 (Vec.rd v2 2))) (mulI .u64 v0 (cvI .u64 (Vec.rd v3 1))))
    (cond (leI 4294967296 (addI .u64 v1 (cvI .u64 (Vec.rd v3 0))))
     (some (subI .u64 v0 1))
     (Ln0 (subI .u64 v0 1) (addI .u64 v1 (cvI .u64 (Vec.rd v3 0))) v2 v3))
    (some v0))
theorem step130_0 (N : Nat) (n : Nat) (v0 : Int) (v1 : Int) (v2 : Vec 3) (v3 : Vec 2) : raw130_0 N  (n + 1) v0 v1 v2 v3 = s130_0 N (raw130_0 N  n) v0 v1 v2 v3 := by kernel_rfl
noncomputable def l130_0 (N : Nat) : Nat → Int → Int → Vec 3 → Vec 2 → Option (Int)
  | 0 => fun _ _ _ _ => none
  | n + 1 => fun v0 v1 v2 v3 => s130_0 N (l130_0 N  n) v0 v1 v2 v3
theorem eq130_0 (N : Nat) : ∀ n, raw130_0 N  n = l130_0 N  n := by
  intro n
  induction n with
  | zero => exact funext fun v0 => funext fun v1 => funext fun v2 => funext fun v3 => rfl
  | succ n ih => exact funext fun v0 => funext fun v1 => funext fun v2 => funext fun v3 => by rw [step130_0, ih]; rfl
noncomputable def t130 (N : Nat) (Le0 : Int → Int → Vec 3 → Vec 2 → Option (Int)) (x0 : Vec 3) (x1 : Vec 2) : Option (Int) :=
  cond (eqI (cvI .u64 (Vec.rd x1 0)) 0)
   (none)
   (cond (eqI (cvI .u64 (Vec.rd x1 0)) 0)
    (none)
    (Le0 (quoI .u64 (orI .u64 (shlI .u64 (cvI .u64 (Vec.rd x0 0)) 32) (cvI .u64 (Vec.rd x0 1))) (cvI .u64 (Vec.rd x1 0))) (remI .u64 (orI .u64 (shlI .u64 (cvI .u64 (Vec.rd x0 0)) 32) (cvI .u64 (Vec.rd x0 1))) (cvI .u64 (Vec.rd x1 0))) x0 x1))
noncomputable def fn_nat_guess (N : Nat) (x0 : Vec 3) (x1 : Vec 2) : Option (Int) := t130 N (l130_0 N N) x0 x1
theorem run130 (N : Nat) (x0 : Vec 3) (x1 : Vec 2) : Eng.run T130 (G130 N) N live130 c130 Tryz.f130.results.toList Tryz.f130.ntmps ((ad130).enc (x0, x1, ())) (rd130).dec = fn_nat_guess N x0 x1 := by
  refine Eq.trans (show _ = t130 N (raw130_0 N N) x0 x1 from by kernel_rfl) ?_
  unfold fn_nat_guess
  rw [eq130_0 N N]
noncomputable def F130 (N : Nat) (a : Vec 3 × Vec 2 × Unit) : Option (Int) := fn_nat_guess N a.1 a.2.1
theorem ok130 (N : Nat) : FnOK Tryz.prog 130 ad130 rd130 (F130 N) :=
  fn_ok (N := N) (live := live130) (code := c130) (tok T130.rt T130.kl (wrNil_ok)) mixed (gok130 N) Tryz.func130 (by kernel_rfl) (by kernel_rfl) (by kernel_rfl) fun a p h => by rw [← h]; exact run130 N a.1 a.2.1

/-! ### (tiller/nat.N).at: function 116 -/
noncomputable def c116 : Code := (Tryz.f116.body).getD .skip
noncomputable def T116 : Tb := ⟨tyOf tys, [], [], wrNil⟩
noncomputable def G116 {R : Type} (N : Nat) : FuncId → List AV → (AV → Option R) → Option R := gNil
theorem gok116 {R : Type} (N : Nat) : GOK Tryz.prog (G116 (R := R) N) := gNil_ok
noncomputable def live116 : List (Nat × List (Nat × HK)) := []
noncomputable def ad116 : Ad (List Int × Int × Unit) := aC (cLi .u32) (aC (cInt .i64) (a0))
noncomputable def rd116 : Rd (Int) := r1 (cInt .u64)
noncomputable def fn_nat_N_at (N : Nat) (x0 : List Int) (x1 : Int) : Option (Int) :=
  cond (ltI x1 (x0.length : Int))
   (cond (leI 0 x1)
    (cond (ltI x1 (x0.length : Int))
     (some (cvI .u64 (lrd x0 x1)))
     (none))
    (none))
   (some 0)
theorem run116 (N : Nat) (x0 : List Int) (x1 : Int) : Eng.run T116 (G116 N) N live116 c116 Tryz.f116.results.toList Tryz.f116.ntmps ((ad116).enc (x0, x1, ())) (rd116).dec = fn_nat_N_at N x0 x1 := by kernel_rfl
noncomputable def F116 (N : Nat) (a : List Int × Int × Unit) : Option (Int) := fn_nat_N_at N a.1 a.2.1
theorem ok116 (N : Nat) : FnOK Tryz.prog 116 ad116 rd116 (F116 N) :=
  fn_ok (N := N) (live := live116) (code := c116) (tok T116.rt T116.kl (wrNil_ok)) mixed (gok116 N) Tryz.func116 (by kernel_rfl) (by kernel_rfl) (by kernel_rfl) fun a p h => by rw [← h]; exact run116 N a.1 a.2.1

/-! ### tiller/nat.take: function 131 -/
noncomputable def c131 : Code := (Tryz.f131.body).getD .skip
noncomputable def T131 : Tb := ⟨tyOf tys, [(31, 0), (45, 0), (64, 0), (78, 0)], [], wrNil⟩
noncomputable def G131 {R : Type} (N : Nat) : FuncId → List AV → (AV → Option R) → Option R := gCons 116 (gOf ad116 rd116 (F116 N)) (gNil)
theorem gok131 {R : Type} (N : Nat) : GOK Tryz.prog (G131 (R := R) N) := gCons_ok (ok116 N) (gNil_ok)
noncomputable def live131 : List (Nat × List (Nat × HK)) := [(3, [(0, .row .u32 142), (1, .keep), (2, .keep), (3, .keep), (9, .keep), (10, .keep), (16, .keep), (17, .keep)]), (14, [(0, .row .u32 142), (1, .keep), (2, .keep), (9, .keep), (55, .keep), (56, .keep)])]
noncomputable def ad131 : Ad (List Int × Int × Int × Unit) := aC (cLi .u32) (aC (cInt .i64) (aC (cInt .u64) (a0)))
noncomputable def rd131 : Rd (Bool) := r1 (cBool)
noncomputable def st131_0 (v0 : List Int) (v1 : Int) (v2 : Int) (v3 : Int) (v4 : Int) (v5 : Int) (v6 : Int) (v7 : List Int) : St := ⟨[AV.own 0, AV.li .u32 v0, AV.v (.int .i64 v1), AV.v (.int .u64 v2), AV.none, AV.none, AV.none, AV.none, AV.none, AV.v (.int .u64 v3), AV.v (.int .u64 v4), AV.none, AV.none, AV.none, AV.none, AV.none, AV.v (.int .i64 v5), AV.v (.int .i64 v6), AV.none, AV.none, AV.none, AV.none, AV.none, AV.none, AV.none, AV.none, AV.none, AV.none, AV.none, AV.none, AV.none, AV.none, AV.none, AV.none, AV.none, AV.none, AV.none, AV.none, AV.none, AV.none, AV.none, AV.none, AV.none, AV.none, AV.none, AV.none, AV.none, AV.none, AV.none, AV.none, AV.none, AV.none, AV.none, AV.none, AV.none, AV.none, AV.none, AV.none, AV.none, AV.none, AV.none, AV.none, AV.none, AV.none, AV.none, AV.none, AV.none, AV.none, AV.none, AV.none, AV.none, AV.none, AV.none, AV.none, AV.none, AV.none, AV.none, AV.none, AV.none, AV.none, AV.none, AV.none], [some (OB.row .u32 142 v7), none, none, none, none, none, none, none, none, none, none, none, none, none, none, none, none, none, none, none, none, none, none, none, none, none, none, none, none, none, none, none, none, none, none, none, none, none, none, none, none, none, none, none, none, none, none, none, none, none, none, none, none, none, none, none, none, none, none, none, none, none, none, none, none, none, none, none, none, none, none, none, none, none, none, none, none, none, none, none, none, none]⟩
noncomputable def raw131_0 (N xl : Nat) (n : Nat) (v0 : List Int) (v1 : Int) (v2 : Int) (v3 : Int) (v4 : Int) (v5 : Int) (v6 : Int) (v7 : List Int) : Option (List Int × (Bool)) := loopN (lookN live131 3) (exec T131 (G131 N) N live131 (cL (cL (cR (cL (cR (cR c131))))))) n (st131_0 v0 v1 v2 v3 v4 v5 v6 v7) (blockK 0 (seqK (exec T131 (G131 N) N live131 (cR (cR (cR c131)))) (retKW T131 Tryz.f131.results.toList .u32 142 xl (kW rd131))))
noncomputable def st131_1 (v0 : List Int) (v1 : Int) (v2 : Int) (v3 : Int) (v4 : Int) (v5 : List Int) : St := ⟨[AV.own 0, AV.li .u32 v0, AV.v (.int .i64 v1), AV.none, AV.none, AV.none, AV.none, AV.none, AV.none, AV.v (.int .u64 v2), AV.none, AV.none, AV.none, AV.none, AV.none, AV.none, AV.none, AV.none, AV.none, AV.none, AV.none, AV.none, AV.none, AV.none, AV.none, AV.none, AV.none, AV.none, AV.none, AV.none, AV.none, AV.none, AV.none, AV.none, AV.none, AV.none, AV.none, AV.none, AV.none, AV.none, AV.none, AV.none, AV.none, AV.none, AV.none, AV.none, AV.none, AV.none, AV.none, AV.none, AV.none, AV.none, AV.none, AV.none, AV.none, AV.v (.int .i64 v3), AV.v (.int .i64 v4), AV.none, AV.none, AV.none, AV.none, AV.none, AV.none, AV.none, AV.none, AV.none, AV.none, AV.none, AV.none, AV.none, AV.none, AV.none, AV.none, AV.none, AV.none, AV.none, AV.none, AV.none, AV.none, AV.none, AV.none, AV.none], [some (OB.row .u32 142 v5), none, none, none, none, none, none, none, none, none, none, none, none, none, none, none, none, none, none, none, none, none, none, none, none, none, none, none, none, none, none, none, none, none, none, none, none, none, none, none, none, none, none, none, none, none, none, none, none, none, none, none, none, none, none, none, none, none, none, none, none, none, none, none, none, none, none, none, none, none, none, none, none, none, none, none, none, none, none, none, none, none]⟩
noncomputable def raw131_1 (N xl : Nat) (n : Nat) (v0 : List Int) (v1 : Int) (v2 : Int) (v3 : Int) (v4 : Int) (v5 : List Int) : Option (List Int × (Bool)) := loopN (lookN live131 14) (exec T131 (G131 N) N live131 (cL (cL (cR (cL (cR (cR (cR (cR (cR c131)))))))))) n (st131_1 v0 v1 v2 v3 v4 v5) (blockK 2 (seqK (exec T131 (G131 N) N live131 (cR (cR (cR (cR (cR (cR c131))))))) (retKW T131 Tryz.f131.results.toList .u32 142 xl (kW rd131))))
noncomputable def s131_1 (N xl : Nat) (Ln1 : List Int → Int → Int → Int → Int → List Int → Option (List Int × (Bool))) (v0 : List Int) (v1 : Int) (v2 : Int) (v3 : Int) (v4 : Int) (v5 : List Int) : Option (List Int × (Bool)) :=
  cond (ltI v4 v3)
   (cond (leI 0 (addI .i64 v1 v4))
    (cond (ltI (addI .i64 v1 v4) (v5.length : Int))
     ((fn_nat_N_at N v0 v4).bind fun r2 =>
      cond (leI 0 (addI .i64 v1 v4))
       (cond (ltI (addI .i64 v1 v4) (v5.length : Int))
        (Ln1 v0 v1 (shrI .u64 (addI .u64 v2 (addI .u64 (cvI .u64 (lrd v5 (addI .i64 v1 v4))) r2)) 32) v3 (addI .i64 v4 1) (v5.set ((addI .i64 v1 v4).toNat) (cvI .u32 (addI .u64 v2 (addI .u64 (cvI .u64 (lrd v5 (addI .i64 v1 v4))) r2)))))
        (none))
       (none))
     (none))
    (none))
   (cond (Nat.beq v5.length xl)
    (some (v5, true))
    (none))
theorem step131_1 (N xl : Nat) (n : Nat) (v0 : List Int) (v1 : Int) (v2 : Int) (v3 : Int) (v4 : Int) (v5 : List Int) : raw131_1 N xl  (n + 1) v0 v1 v2 v3 v4 v5 = s131_1 N xl (raw131_1 N xl  n) v0 v1 v2 v3 v4 v5 := by kernel_rfl
noncomputable def l131_1 (N xl : Nat) : Nat → List Int → Int → Int → Int → Int → List Int → Option (List Int × (Bool))
  | 0 => fun _ _ _ _ _ _ => none
  | n + 1 => fun v0 v1 v2 v3 v4 v5 => s131_1 N xl (l131_1 N xl  n) v0 v1 v2 v3 v4 v5
theorem eq131_1 (N xl : Nat) : ∀ n, raw131_1 N xl  n = l131_1 N xl  n := by
  intro n
  induction n with
  | zero => exact funext fun v0 => funext fun v1 => funext fun v2 => funext fun v3 => funext fun v4 => funext fun v5 => rfl
  | succ n ih => exact funext fun v0 => funext fun v1 => funext fun v2 => funext fun v3 => funext fun v4 => funext fun v5 => by rw [step131_1, ih]; rfl
noncomputable def s131_0 (N xl : Nat) (Ln0 : List Int → Int → Int → Int → Int → Int → Int → List Int → Option (List Int × (Bool))) (Le1 : List Int → Int → Int → Int → Int → List Int → Option (List Int × (Bool))) (v0 : List Int) (v1 : Int) (v2 : Int) (v3 : Int) (v4 : Int) (v5 : Int) (v6 : Int) (v7 : List Int) : Option (List Int × (Bool)) :=
  cond (ltI v6 v5)
   ((fn_nat_N_at N v0 v6).bind fun r1 =>
    cond (leI 0 (addI .i64 v1 v6))
     (cond (ltI (addI .i64 v1 v6) (v7.length : Int))
      (cond (leI 0 (addI .i64 v1 v6))
       (cond (ltI (addI .i64 v1 v6) (v7.length : Int))
        (Ln0 v0 v1 v2 (shrI .u64 (subI .u64 (subI .u64 (cvI .u64 (lrd v7 (addI .i64 v1 v6))) (andI .u64 (addI .u64 v4 (mulI .u64 v2 r1)) 4294967295)) v3) 63) (shrI .u64 (addI .u64 v4 (mulI .u64 v2 r1)) 32) v5 (addI .i64 v6 1) (v7.set ((addI .i64 v1 v6).toNat) (cvI .u32 (subI .u64 (subI .u64 (cvI .u64 (lrd v7 (addI .i64 v1 v6))) (andI .u64 (addI .u64 v4 (mulI .u64 v2 r1)) 4294967295)) v3))))
        (none))
       (none))
      (none))
     (none))
   (cond (eqI v3 0)
    (cond (Nat.beq v7.length xl)
     (some (v7, false))
     (none))
    (Le1 v0 v1 0 (addI .i64 (v0.length : Int) 1) 0 v7))
theorem step131_0 (N xl : Nat) (n : Nat) (v0 : List Int) (v1 : Int) (v2 : Int) (v3 : Int) (v4 : Int) (v5 : Int) (v6 : Int) (v7 : List Int) : raw131_0 N xl  (n + 1) v0 v1 v2 v3 v4 v5 v6 v7 = s131_0 N xl (raw131_0 N xl  n) (raw131_1 N xl  N) v0 v1 v2 v3 v4 v5 v6 v7 := by kernel_rfl
noncomputable def l131_0 (N xl : Nat) : Nat → List Int → Int → Int → Int → Int → Int → Int → List Int → Option (List Int × (Bool))
  | 0 => fun _ _ _ _ _ _ _ _ => none
  | n + 1 => fun v0 v1 v2 v3 v4 v5 v6 v7 => s131_0 N xl (l131_0 N xl  n) (l131_1 N xl  N) v0 v1 v2 v3 v4 v5 v6 v7
theorem eq131_0 (N xl : Nat) : ∀ n, raw131_0 N xl  n = l131_0 N xl  n := by
  intro n
  induction n with
  | zero => exact funext fun v0 => funext fun v1 => funext fun v2 => funext fun v3 => funext fun v4 => funext fun v5 => funext fun v6 => funext fun v7 => rfl
  | succ n ih => exact funext fun v0 => funext fun v1 => funext fun v2 => funext fun v3 => funext fun v4 => funext fun v5 => funext fun v6 => funext fun v7 => by rw [step131_0, eq131_1 N xl  N, ih]; rfl
noncomputable def t131 (N xl : Nat) (Le0 : List Int → Int → Int → Int → Int → Int → Int → List Int → Option (List Int × (Bool))) (x0 : List Int) (x1 : List Int) (x2 : Int) (x3 : Int) : Option (List Int × (Bool)) :=
  Le0 x1 x2 x3 0 0 (addI .i64 (x1.length : Int) 1) 0 x0
noncomputable def fn_nat_take (N : Nat) (x0 : List Int) (x1 : List Int) (x2 : Int) (x3 : Int) : Option (List Int × (Bool)) := t131 N x0.length (l131_0 N x0.length N) x0 x1 x2 x3
theorem run131 (N : Nat) (x0 : List Int) (x1 : List Int) (x2 : Int) (x3 : Int) : Eng.runW T131 (G131 N) N live131 c131 Tryz.f131.results.toList Tryz.f131.ntmps .u32 142 x0 ((ad131).enc (x1, x2, x3, ())) (kW rd131) = fn_nat_take N x0 x1 x2 x3 := by
  refine Eq.trans (show _ = t131 N x0.length (raw131_0 N x0.length N) x0 x1 x2 x3 from by kernel_rfl) ?_
  unfold fn_nat_take
  rw [eq131_0 N x0.length N]
noncomputable def F131 (N : Nat) (x0 : List Int) (a : List Int × Int × Int × Unit) : Option (List Int × (Bool)) := fn_nat_take N x0 a.1 a.2.1 a.2.2.1
theorem okw131 (N : Nat) : FnwOK Tryz.prog 131 .u32 142 ad131 rd131 (F131 N) :=
  fnw_ok (N := N) (live := live131) (code := c131) (tok T131.rt T131.kl (wrNil_ok)) mixed (gok131 N) Tryz.func131 (by kernel_rfl) (by kernel_rfl) (by kernel_rfl) (by kernel_rfl) (by kernel_rfl) fun x0 a p h => by rw [← h]; exact run131 N x0 a.1 a.2.1 a.2.2.1

/-! ### tiller/nat.down: function 132 -/
noncomputable def c132 : Code := (Tryz.f132.body).getD .skip
noncomputable def T132 : Tb := ⟨tyOf tys, [(29, 5)], [32], wrNil⟩
noncomputable def G132 {R : Type} (N : Nat) : FuncId → List AV → (AV → Option R) → Option R := gCons 116 (gOf ad116 rd116 (F116 N)) (gCons 93 (gOf ad93 rd93 (F93 N)) (gNil))
theorem gok132 {R : Type} (N : Nat) : GOK Tryz.prog (G132 (R := R) N) := gCons_ok (ok116 N) (gCons_ok (ok93 N) (gNil_ok))
noncomputable def live132 : List (Nat × List (Nat × HK)) := [(3, [(0, .keep), (1, .keep), (5, .row .u32 142), (11, .keep), (12, .keep)])]
noncomputable def ad132 : Ad (List Int × Int × Unit) := aC (cLi .u32) (aC (cInt .i64) (a0))
noncomputable def rd132 : Rd (List Int) := r1 (cLi .u32)
noncomputable def st132_0 (v0 : List Int) (v1 : Int) (v2 : Int) (v3 : Int) (v4 : List Int) : St := ⟨[AV.li .u32 v0, AV.v (.int .i64 v1), AV.none, AV.none, AV.none, AV.own 5, AV.none, AV.none, AV.none, AV.none, AV.none, AV.v (.int .i64 v2), AV.v (.int .i64 v3), AV.none, AV.none, AV.none, AV.none, AV.none, AV.none, AV.none, AV.none, AV.none, AV.none, AV.none, AV.none, AV.none, AV.none, AV.none, AV.none, AV.none, AV.none, AV.none, AV.none], [none, none, none, none, none, some (OB.row .u32 142 v4), none, none, none, none, none, none, none, none, none, none, none, none, none, none, none, none, none, none, none, none, none, none, none, none, none, none, none]⟩
noncomputable def raw132_0 (N : Nat) (n : Nat) (v0 : List Int) (v1 : Int) (v2 : Int) (v3 : Int) (v4 : List Int) : Option (List Int) := loopN (lookN live132 3) (exec T132 (G132 N) N live132 (cL (cL (cR (cL (cR (cR c132))))))) n (st132_0 v0 v1 v2 v3 v4) (blockK 0 (seqK (exec T132 (G132 N) N live132 (cR (cR (cR c132)))) (retK T132 Tryz.f132.results.toList (rd132).dec)))
noncomputable def s132_0 (N : Nat) (Ln0 : List Int → Int → Int → Int → List Int → Option (List Int)) (v0 : List Int) (v1 : Int) (v2 : Int) (v3 : Int) (v4 : List Int) : Option (List Int) :=
  cond (ltI v3 v2)
   ((fn_nat_N_at N v0 v3).bind fun r1 =>
    (fn_nat_N_at N v0 (addI .i64 v3 1)).bind fun r2 =>
     cond (ltI v1 0)
      (none)
      (cond (leI 0 v3)
       (cond (ltI v3 (v4.length : Int))
        (Ln0 v0 v1 v2 (addI .i64 v3 1) (v4.set v3.toNat (cvI .u32 (shrI .u64 (orI .u64 r1 (shlI .u64 r2 32)) v1))))
        (none))
       (none)))
   ((fn_nat_trim N v4).bind fun r3 =>
    some r3)
theorem step132_0 (N : Nat) (n : Nat) (v0 : List Int) (v1 : Int) (v2 : Int) (v3 : Int) (v4 : List Int) : raw132_0 N  (n + 1) v0 v1 v2 v3 v4 = s132_0 N (raw132_0 N  n) v0 v1 v2 v3 v4 := by kernel_rfl
noncomputable def l132_0 (N : Nat) : Nat → List Int → Int → Int → Int → List Int → Option (List Int)
  | 0 => fun _ _ _ _ _ => none
  | n + 1 => fun v0 v1 v2 v3 v4 => s132_0 N (l132_0 N  n) v0 v1 v2 v3 v4
theorem eq132_0 (N : Nat) : ∀ n, raw132_0 N  n = l132_0 N  n := by
  intro n
  induction n with
  | zero => exact funext fun v0 => funext fun v1 => funext fun v2 => funext fun v3 => funext fun v4 => rfl
  | succ n ih => exact funext fun v0 => funext fun v1 => funext fun v2 => funext fun v3 => funext fun v4 => by rw [step132_0, ih]; rfl
noncomputable def t132 (N : Nat) (Le0 : List Int → Int → Int → Int → List Int → Option (List Int)) (x0 : List Int) (x1 : Int) : Option (List Int) :=
  cond (leI 0 (x0.length : Int))
   (cond (leI (x0.length : Int) 17592186044416)
    (Le0 x0 x1 ((List.replicate ((x0.length : Int).toNat) (0 : Int)).length : Int) 0 (List.replicate ((x0.length : Int).toNat) (0 : Int)))
    (none))
   (none)
noncomputable def fn_nat_down (N : Nat) (x0 : List Int) (x1 : Int) : Option (List Int) := t132 N (l132_0 N N) x0 x1
theorem run132 (N : Nat) (x0 : List Int) (x1 : Int) : Eng.run T132 (G132 N) N live132 c132 Tryz.f132.results.toList Tryz.f132.ntmps ((ad132).enc (x0, x1, ())) (rd132).dec = fn_nat_down N x0 x1 := by
  refine Eq.trans (show _ = t132 N (raw132_0 N N) x0 x1 from by kernel_rfl) ?_
  unfold fn_nat_down
  rw [eq132_0 N N]
noncomputable def F132 (N : Nat) (a : List Int × Int × Unit) : Option (List Int) := fn_nat_down N a.1 a.2.1
theorem ok132 (N : Nat) : FnOK Tryz.prog 132 ad132 rd132 (F132 N) :=
  fn_ok (N := N) (live := live132) (code := c132) (tok T132.rt T132.kl (wrNil_ok)) mixed (gok132 N) Tryz.func132 (by kernel_rfl) (by kernel_rfl) (by kernel_rfl) fun a p h => by rw [← h]; exact run132 N a.1 a.2.1

/-! ### tiller/nat.parts: function 115 -/
noncomputable def c115 : Code := (Tryz.f115.body).getD .skip
noncomputable def T115 (N : Nat) : Tb := ⟨tyOf tys, [(75, 10), (82, 10), (89, 10), (115, 12)], [117, 119], wrCons 131 (wOf .u32 142 ad131 rd131 (F131 N)) (wrNil)⟩
noncomputable def G115 {R : Type} (N : Nat) : FuncId → List AV → (AV → Option R) → Option R := gCons 114 (gOf ad114 rd114 (F114 N)) (gCons 117 (gOf (aC (cLi .u32) a0) (r1 (cLi .u32)) (fun a => fn_slices_Clone N a.1)) (gCons 118 (gOf ad118 rd118 (F118 N)) (gCons 66 (gOf ad66 rd66 (F66 N)) (gCons 129 (gOf ad129 rd129 (F129 N)) (gCons 112 (gOf ad112 rd112 (F112 N)) (gCons 130 (gOf ad130 rd130 (F130 N)) (gCons 93 (gOf ad93 rd93 (F93 N)) (gCons 132 (gOf ad132 rd132 (F132 N)) (gNil)))))))))
theorem gok115 {R : Type} (N : Nat) : GOK Tryz.prog (G115 (R := R) N) := gCons_ok (ok114 N) (gCons_ok (clone_ok N) (gCons_ok (ok118 N) (gCons_ok (ok66 N) (gCons_ok (ok129 N) (gCons_ok (ok112 N) (gCons_ok (ok130 N) (gCons_ok (ok93 N) (gCons_ok (ok132 N) (gNil_ok)))))))))
noncomputable def live115 : List (Nat × List (Nat × HK)) := [(13, [(8, .keep), (9, .keep), (10, .row .u32 142), (11, .keep), (12, .row .u32 142), (13, .keep)])]
noncomputable def ad115 : Ad (List Int × List Int × Unit) := aC (cLi .u32) (aC (cLi .u32) (a0))
noncomputable def rd115 : Rd (List Int × List Int) := r2 (cLi .u32) (cLi .u32)
noncomputable def st115_0 (v0 : Int) (v1 : List Int) (v2 : Int) (v3 : Int) (v4 : List Int) (v5 : List Int) : St := ⟨[AV.none, AV.none, AV.none, AV.none, AV.none, AV.none, AV.none, AV.none, AV.v (.int .i64 v0), AV.li .u32 v1, AV.own 10, AV.v (.int .i64 v2), AV.own 12, AV.v (.int .i64 v3), AV.none, AV.none, AV.none, AV.none, AV.none, AV.none, AV.none, AV.none, AV.none, AV.none, AV.none, AV.none, AV.none, AV.none, AV.none, AV.none, AV.none, AV.none, AV.none, AV.none, AV.none, AV.none, AV.none, AV.none, AV.none, AV.none, AV.none, AV.none, AV.none, AV.none, AV.none, AV.none, AV.none, AV.none, AV.none, AV.none, AV.none, AV.none, AV.none, AV.none, AV.none, AV.none, AV.none, AV.none, AV.none, AV.none, AV.none, AV.none, AV.none, AV.none, AV.none, AV.none, AV.none, AV.none, AV.none, AV.none, AV.none, AV.none, AV.none, AV.none, AV.none, AV.none, AV.none, AV.none, AV.none, AV.none, AV.none, AV.none, AV.none, AV.none, AV.none, AV.none, AV.none, AV.none, AV.none, AV.none, AV.none, AV.none, AV.none, AV.none, AV.none, AV.none, AV.none, AV.none, AV.none, AV.none, AV.none, AV.none, AV.none, AV.none, AV.none, AV.none, AV.none, AV.none, AV.none, AV.none, AV.none, AV.none, AV.none, AV.none, AV.none, AV.none, AV.none, AV.none, AV.none, AV.none, AV.none, AV.none], [none, none, none, none, none, none, none, none, none, none, some (OB.row .u32 142 v4), none, some (OB.row .u32 142 v5), none, none, none, none, none, none, none, none, none, none, none, none, none, none, none, none, none, none, none, none, none, none, none, none, none, none, none, none, none, none, none, none, none, none, none, none, none, none, none, none, none, none, none, none, none, none, none, none, none, none, none, none, none, none, none, none, none, none, none, none, none, none, none, none, none, none, none, none, none, none, none, none, none, none, none, none, none, none, none, none, none, none, none, none, none, none, none, none, none, none, none, none, none, none, none, none, none, none, none, none, none, none, none, none, none, none, none, none, none]⟩
noncomputable def raw115_0 (N : Nat) (n : Nat) (v0 : Int) (v1 : List Int) (v2 : Int) (v3 : Int) (v4 : List Int) (v5 : List Int) : Option (List Int × List Int) := loopN (lookN live115 13) (exec (T115 N) (G115 N) N live115 (cL (cL (cR (cL (cR (cR (cR (cR (cR (cR (cR (cR (cR c115)))))))))))))) n (st115_0 v0 v1 v2 v3 v4 v5) (blockK 0 (seqK (exec (T115 N) (G115 N) N live115 (cR (cR (cR (cR (cR (cR (cR (cR (cR (cR c115))))))))))) (retK (T115 N) Tryz.f115.results.toList (rd115).dec)))
noncomputable def s115_0 (N : Nat) (Ln0 : Int → List Int → Int → Int → List Int → List Int → Option (List Int × List Int)) (v0 : Int) (v1 : List Int) (v2 : Int) (v3 : Int) (v4 : List Int) (v5 : List Int) : Option (List Int × List Int) :=
  cond (leI 0 v3)
   (cond (leI 0 (addI .i64 v3 v2))
    (cond (ltI (addI .i64 v3 v2) (v4.length : Int))
     (cond (leI 0 (subI .i64 (addI .i64 v3 v2) 1))
      (cond (ltI (subI .i64 (addI .i64 v3 v2) 1) (v4.length : Int))
       (cond (leI 0 (subI .i64 (addI .i64 v3 v2) 2))
        (cond (ltI (subI .i64 (addI .i64 v3 v2) 2) (v4.length : Int))
         (cond (leI 0 (subI .i64 v2 1))
          (cond (ltI (subI .i64 v2 1) (v1.length : Int))
           (cond (leI 0 (subI .i64 v2 2))
            (cond (ltI (subI .i64 v2 2) (v1.length : Int))
             ((fn_nat_guess N (Vec.st (Vec.st (Vec.st (Vec.zero 3) 0 (lrd v4 (addI .i64 v3 v2))) 1 (lrd v4 (subI .i64 (addI .i64 v3 v2) 1))) 2 (lrd v4 (subI .i64 (addI .i64 v3 v2) 2))) (Vec.st (Vec.st (Vec.zero 2) 0 (lrd v1 (subI .i64 v2 1))) 1 (lrd v1 (subI .i64 v2 2)))).bind fun r8 =>
              (fn_nat_take N v4 v1 v3 r8).bind fun r9 =>
               cond r9.2
                (cond (leI 0 v3)
                 (cond (ltI v3 (v5.length : Int))
                  (Ln0 v0 v1 v2 (subI .i64 v3 1) r9.1 (v5.set v3.toNat (cvI .u32 (subI .u64 r8 1))))
                  (none))
                 (none))
                (cond (leI 0 v3)
                 (cond (ltI v3 (v5.length : Int))
                  (Ln0 v0 v1 v2 (subI .i64 v3 1) r9.1 (v5.set v3.toNat (cvI .u32 r8)))
                  (none))
                 (none)))
             (none))
            (none))
           (none))
          (none))
         (none))
        (none))
       (none))
      (none))
     (none))
    (none))
   ((fn_nat_trim N v5).bind fun r10 =>
    (fn_nat_trim N v4).bind fun r11 =>
     (fn_nat_down N r11 v0).bind fun r12 =>
      some (r10, r12))
theorem step115_0 (N : Nat) (n : Nat) (v0 : Int) (v1 : List Int) (v2 : Int) (v3 : Int) (v4 : List Int) (v5 : List Int) : raw115_0 N  (n + 1) v0 v1 v2 v3 v4 v5 = s115_0 N (raw115_0 N  n) v0 v1 v2 v3 v4 v5 := by kernel_rfl
noncomputable def l115_0 (N : Nat) : Nat → Int → List Int → Int → Int → List Int → List Int → Option (List Int × List Int)
  | 0 => fun _ _ _ _ _ _ => none
  | n + 1 => fun v0 v1 v2 v3 v4 v5 => s115_0 N (l115_0 N  n) v0 v1 v2 v3 v4 v5
theorem eq115_0 (N : Nat) : ∀ n, raw115_0 N  n = l115_0 N  n := by
  intro n
  induction n with
  | zero => exact funext fun v0 => funext fun v1 => funext fun v2 => funext fun v3 => funext fun v4 => funext fun v5 => rfl
  | succ n ih => exact funext fun v0 => funext fun v1 => funext fun v2 => funext fun v3 => funext fun v4 => funext fun v5 => by rw [step115_0, ih]; rfl
noncomputable def t115 (N : Nat) (Le0 : Int → List Int → Int → Int → List Int → List Int → Option (List Int × List Int)) (x0 : List Int) (x1 : List Int) : Option (List Int × List Int) :=
  (fn_nat_compare N x0 x1).bind fun r1 =>
   cond (ltI r1 0)
    ((fn_slices_Clone N x0).bind fun r2 =>
     some ([], r2))
    (cond (eqI (x1.length : Int) 1)
     (cond (ltI 0 (x1.length : Int))
      ((fn_nat_short N x0 (lrd x1 0)).bind fun r3 =>
       (fn_nat_Of N (cvI .u64 r3.2)).bind fun r4 =>
        some (r3.1, r4))
      (none))
     (cond (leI 0 (subI .i64 (x1.length : Int) 1))
      (cond (ltI (subI .i64 (x1.length : Int) 1) (x1.length : Int))
       ((fn_bits_LeadingZeros32 N (lrd x1 (subI .i64 (x1.length : Int) 1))).bind fun r5 =>
        (fn_nat_up N x1 r5).bind fun r6 =>
         cond (leI 0 (addI .i64 (x0.length : Int) 1))
          (cond (leI (addI .i64 (x0.length : Int) 1) 17592186044416)
           ((fn_nat_up N x0 r5).bind fun r7 =>
            cond (leI 0 (addI .i64 (subI .i64 (x0.length : Int) (r6.length : Int)) 1))
             (cond (leI (addI .i64 (subI .i64 (x0.length : Int) (r6.length : Int)) 1) 17592186044416)
              (Le0 r5 r6 (r6.length : Int) (subI .i64 (x0.length : Int) (r6.length : Int)) (cpL (List.replicate ((addI .i64 (x0.length : Int) 1).toNat) (0 : Int)) r7) (List.replicate ((addI .i64 (subI .i64 (x0.length : Int) (r6.length : Int)) 1).toNat) (0 : Int)))
              (none))
             (none))
           (none))
          (none))
       (none))
      (none)))
noncomputable def fn_nat_parts (N : Nat) (x0 : List Int) (x1 : List Int) : Option (List Int × List Int) := t115 N (l115_0 N N) x0 x1
theorem run115 (N : Nat) (x0 : List Int) (x1 : List Int) : Eng.run (T115 N) (G115 N) N live115 c115 Tryz.f115.results.toList Tryz.f115.ntmps ((ad115).enc (x0, x1, ())) (rd115).dec = fn_nat_parts N x0 x1 := by
  refine Eq.trans (show _ = t115 N (raw115_0 N N) x0 x1 from by kernel_rfl) ?_
  unfold fn_nat_parts
  rw [eq115_0 N N]
noncomputable def F115 (N : Nat) (a : List Int × List Int × Unit) : Option (List Int × List Int) := fn_nat_parts N a.1 a.2.1
theorem ok115 (N : Nat) : FnOK Tryz.prog 115 ad115 rd115 (F115 N) :=
  fn_ok (N := N) (live := live115) (code := c115) (tok (T115 N).rt (T115 N).kl (wrCons_ok (wOf_ok (okw131 N)) (wrNil_ok))) mixed (gok115 N) Tryz.func115 (by kernel_rfl) (by kernel_rfl) (by kernel_rfl) fun a p h => by rw [← h]; exact run115 N a.1 a.2.1

/-! ### tiller/nat.DivMod: function 99 -/
noncomputable def c99 : Code := (Tryz.f99.body).getD .skip
noncomputable def T99 : Tb := ⟨tyOf tys, [], [], wrNil⟩
noncomputable def G99 {R : Type} (N : Nat) : FuncId → List AV → (AV → Option R) → Option R := gCons 113 (gOf ad113 rd113 (F113 N)) (gCons 115 (gOf ad115 rd115 (F115 N)) (gNil))
theorem gok99 {R : Type} (N : Nat) : GOK Tryz.prog (G99 (R := R) N) := gCons_ok (ok113 N) (gCons_ok (ok115 N) (gNil_ok))
noncomputable def live99 : List (Nat × List (Nat × HK)) := []
noncomputable def ad99 : Ad (List Int × List Int × Unit) := aC (cLi .u32) (aC (cLi .u32) (a0))
noncomputable def rd99 : Rd (List Int × List Int × Option Int) := r3 (cLi .u32) (cLi .u32) (cErr 83)
noncomputable def fn_nat_DivMod (N : Nat) (x0 : List Int) (x1 : List Int) : Option (List Int × List Int × Option Int) :=
  (fn_nat_both N x0 x1).bind fun r1 =>
   cond (!(isNoneI r1))
    (some ([], [], some 1))
    (cond (eqI (x1.length : Int) 0)
     (some ([], [], some 5))
     ((fn_nat_parts N x0 x1).bind fun r2 =>
      some (r2.1, r2.2, none)))
theorem run99 (N : Nat) (x0 : List Int) (x1 : List Int) : Eng.run T99 (G99 N) N live99 c99 Tryz.f99.results.toList Tryz.f99.ntmps ((ad99).enc (x0, x1, ())) (rd99).dec = fn_nat_DivMod N x0 x1 := by kernel_rfl
noncomputable def F99 (N : Nat) (a : List Int × List Int × Unit) : Option (List Int × List Int × Option Int) := fn_nat_DivMod N a.1 a.2.1
theorem ok99 (N : Nat) : FnOK Tryz.prog 99 ad99 rd99 (F99 N) :=
  fn_ok (N := N) (live := live99) (code := c99) (tok T99.rt T99.kl (wrNil_ok)) mixed (gok99 N) Tryz.func99 (by kernel_rfl) (by kernel_rfl) (by kernel_rfl) fun a p h => by rw [← h]; exact run99 N a.1 a.2.1

/-! ### (tiller/show.number).cut: function 71 -/
noncomputable def c71 : Code := (Tryz.f71.body).getD .skip
noncomputable def T71 : Tb := ⟨tyOf tys, [(11, 1), (13, 1), (24, 1)], [], wrNil⟩
noncomputable def G71 {R : Type} (N : Nat) : FuncId → List AV → (AV → Option R) → Option R := gCons 99 (gOf ad99 rd99 (F99 N)) (gCons 65 (gOf ad65 rd65 (F65 N)) (gCons 98 (gOf ad98 rd98 (F98 N)) (gNil)))
theorem gok71 {R : Type} (N : Nat) : GOK Tryz.prog (G71 (R := R) N) := gCons_ok (ok99 N) (gCons_ok (ok65 N) (gCons_ok (ok98 N) (gNil_ok)))
noncomputable def live71 : List (Nat × List (Nat × HK)) := []
noncomputable def ad71 : Ad ((List Int × List Int) × Unit) := aC (cSt (fC (lLi .u32) (fO (lLi .u32)))) (a0)
noncomputable def rd71 : Rd (List Int × Int × Bool) := r3 (cLi .u32) (cInt .i64) (cBool)
noncomputable def fn_show_number_cut (N : Nat) (x0 : (List Int × List Int)) : Option (List Int × Int × Bool) :=
  (fn_nat_DivMod N x0.1 x0.2).bind fun r1 =>
   cond (!(isNoneI r1.2.2))
    (some ([], 0, false))
    ((fn_show_up N r1.2.1 1).bind fun r2 =>
     (fn_nat_Cmp N r2 x0.2).bind fun r3 =>
      some (r1.1, r3.1, ltI 0 (r1.2.1.length : Int)))
theorem run71 (N : Nat) (x0 : (List Int × List Int)) : Eng.run T71 (G71 N) N live71 c71 Tryz.f71.results.toList Tryz.f71.ntmps ((ad71).enc (x0, ())) (rd71).dec = fn_show_number_cut N x0 := by kernel_rfl
noncomputable def F71 (N : Nat) (a : (List Int × List Int) × Unit) : Option (List Int × Int × Bool) := fn_show_number_cut N a.1
theorem ok71 (N : Nat) : FnOK Tryz.prog 71 ad71 rd71 (F71 N) :=
  fn_ok (N := N) (live := live71) (code := c71) (tok T71.rt T71.kl (wrNil_ok)) mixed (gok71 N) Tryz.func71 (by kernel_rfl) (by kernel_rfl) (by kernel_rfl) fun a p h => by rw [← h]; exact run71 N a.1

/-! ### tiller/nat.Add: function 100 -/
noncomputable def c100 : Code := (Tryz.f100.body).getD .skip
noncomputable def T100 : Tb := ⟨tyOf tys, [(41, 7)], [46], wrNil⟩
noncomputable def G100 {R : Type} (N : Nat) : FuncId → List AV → (AV → Option R) → Option R := gCons 113 (gOf ad113 rd113 (F113 N)) (gCons 116 (gOf ad116 rd116 (F116 N)) (gCons 111 (gOf ad111 rd111 (F111 N)) (gNil)))
theorem gok100 {R : Type} (N : Nat) : GOK Tryz.prog (G100 (R := R) N) := gCons_ok (ok113 N) (gCons_ok (ok116 N) (gCons_ok (ok111 N) (gNil_ok)))
noncomputable def live100 : List (Nat × List (Nat × HK)) := [(7, [(0, .keep), (1, .keep), (7, .row .u32 142), (8, .keep), (24, .keep), (25, .keep)])]
noncomputable def ad100 : Ad (List Int × List Int × Unit) := aC (cLi .u32) (aC (cLi .u32) (a0))
noncomputable def rd100 : Rd (List Int × Option Int) := r2 (cLi .u32) (cErr 83)
noncomputable def st100_0 (v0 : List Int) (v1 : List Int) (v2 : Int) (v3 : Int) (v4 : Int) (v5 : List Int) : St := ⟨[AV.li .u32 v0, AV.li .u32 v1, AV.none, AV.none, AV.none, AV.none, AV.none, AV.own 7, AV.v (.int .u64 v2), AV.none, AV.none, AV.none, AV.none, AV.none, AV.none, AV.none, AV.none, AV.none, AV.none, AV.none, AV.none, AV.none, AV.none, AV.none, AV.v (.int .i64 v3), AV.v (.int .i64 v4), AV.none, AV.none, AV.none, AV.none, AV.none, AV.none, AV.none, AV.none, AV.none, AV.none, AV.none, AV.none, AV.none, AV.none, AV.none, AV.none, AV.none, AV.none, AV.none, AV.none, AV.none, AV.none, AV.none], [none, none, none, none, none, none, none, some (OB.row .u32 142 v5), none, none, none, none, none, none, none, none, none, none, none, none, none, none, none, none, none, none, none, none, none, none, none, none, none, none, none, none, none, none, none, none, none, none, none, none, none, none, none, none, none]⟩
noncomputable def raw100_0 (N : Nat) (n : Nat) (v0 : List Int) (v1 : List Int) (v2 : Int) (v3 : Int) (v4 : Int) (v5 : List Int) : Option (List Int × Option Int) := loopN (lookN live100 7) (exec T100 (G100 N) N live100 (cL (cL (cR (cL (cR (cR (cR (cR c100))))))))) n (st100_0 v0 v1 v2 v3 v4 v5) (blockK 0 (seqK (exec T100 (G100 N) N live100 (cR (cR (cR (cR (cR c100)))))) (retK T100 Tryz.f100.results.toList (rd100).dec)))
noncomputable def s100_0 (N : Nat) (Ln0 : List Int → List Int → Int → Int → Int → List Int → Option (List Int × Option Int)) (v0 : List Int) (v1 : List Int) (v2 : Int) (v3 : Int) (v4 : Int) (v5 : List Int) : Option (List Int × Option Int) :=
  cond (ltI v4 v3)
   ((fn_nat_N_at N v0 v4).bind fun r2 =>
    (fn_nat_N_at N v1 v4).bind fun r3 =>
     cond (leI 0 v4)
      (cond (ltI v4 (v5.length : Int))
       (Ln0 v0 v1 (shrI .u64 (addI .u64 v2 (addI .u64 r2 r3)) 32) v3 (addI .i64 v4 1) (v5.set v4.toNat (cvI .u32 (addI .u64 v2 (addI .u64 r2 r3)))))
       (none))
      (none))
   ((fn_nat_bounded N v5).bind fun r4 =>
    some (r4.1, r4.2))
theorem step100_0 (N : Nat) (n : Nat) (v0 : List Int) (v1 : List Int) (v2 : Int) (v3 : Int) (v4 : Int) (v5 : List Int) : raw100_0 N  (n + 1) v0 v1 v2 v3 v4 v5 = s100_0 N (raw100_0 N  n) v0 v1 v2 v3 v4 v5 := by kernel_rfl
noncomputable def l100_0 (N : Nat) : Nat → List Int → List Int → Int → Int → Int → List Int → Option (List Int × Option Int)
  | 0 => fun _ _ _ _ _ _ => none
  | n + 1 => fun v0 v1 v2 v3 v4 v5 => s100_0 N (l100_0 N  n) v0 v1 v2 v3 v4 v5
theorem eq100_0 (N : Nat) : ∀ n, raw100_0 N  n = l100_0 N  n := by
  intro n
  induction n with
  | zero => exact funext fun v0 => funext fun v1 => funext fun v2 => funext fun v3 => funext fun v4 => funext fun v5 => rfl
  | succ n ih => exact funext fun v0 => funext fun v1 => funext fun v2 => funext fun v3 => funext fun v4 => funext fun v5 => by rw [step100_0, ih]; rfl
noncomputable def t100 (N : Nat) (Le0 : List Int → List Int → Int → Int → Int → List Int → Option (List Int × Option Int)) (x0 : List Int) (x1 : List Int) : Option (List Int × Option Int) :=
  (fn_nat_both N x0 x1).bind fun r1 =>
   cond (!(isNoneI r1))
    (some ([], r1))
    (cond (leI 0 (addI .i64 (maxI (x0.length : Int) (x1.length : Int)) 1))
     (cond (leI (addI .i64 (maxI (x0.length : Int) (x1.length : Int)) 1) 17592186044416)
      (Le0 x0 x1 0 ((List.replicate ((addI .i64 (maxI (x0.length : Int) (x1.length : Int)) 1).toNat) (0 : Int)).length : Int) 0 (List.replicate ((addI .i64 (maxI (x0.length : Int) (x1.length : Int)) 1).toNat) (0 : Int)))
      (none))
     (none))
noncomputable def fn_nat_Add (N : Nat) (x0 : List Int) (x1 : List Int) : Option (List Int × Option Int) := t100 N (l100_0 N N) x0 x1
theorem run100 (N : Nat) (x0 : List Int) (x1 : List Int) : Eng.run T100 (G100 N) N live100 c100 Tryz.f100.results.toList Tryz.f100.ntmps ((ad100).enc (x0, x1, ())) (rd100).dec = fn_nat_Add N x0 x1 := by
  refine Eq.trans (show _ = t100 N (raw100_0 N N) x0 x1 from by kernel_rfl) ?_
  unfold fn_nat_Add
  rw [eq100_0 N N]
noncomputable def F100 (N : Nat) (a : List Int × List Int × Unit) : Option (List Int × Option Int) := fn_nat_Add N a.1 a.2.1
theorem ok100 (N : Nat) : FnOK Tryz.prog 100 ad100 rd100 (F100 N) :=
  fn_ok (N := N) (live := live100) (code := c100) (tok T100.rt T100.kl (wrNil_ok)) mixed (gok100 N) Tryz.func100 (by kernel_rfl) (by kernel_rfl) (by kernel_rfl) fun a p h => by rw [← h]; exact run100 N a.1 a.2.1

/-! ### tiller/show.next: function 72 -/
noncomputable def c72 : Code := (Tryz.f72.body).getD .skip
noncomputable def T72 : Tb := ⟨tyOf tys, [], [], wrNil⟩
noncomputable def G72 {R : Type} (N : Nat) : FuncId → List AV → (AV → Option R) → Option R := gCons 66 (gOf ad66 rd66 (F66 N)) (gCons 100 (gOf ad100 rd100 (F100 N)) (gNil))
theorem gok72 {R : Type} (N : Nat) : GOK Tryz.prog (G72 (R := R) N) := gCons_ok (ok66 N) (gCons_ok (ok100 N) (gNil_ok))
noncomputable def live72 : List (Nat × List (Nat × HK)) := []
noncomputable def ad72 : Ad (List Int × Unit) := aC (cLi .u32) (a0)
noncomputable def rd72 : Rd (List Int) := r1 (cLi .u32)
noncomputable def fn_show_next (N : Nat) (x0 : List Int) : Option (List Int) :=
  (fn_nat_Of N 1).bind fun r1 =>
   (fn_nat_Add N x0 r1).bind fun r2 =>
    cond (!(isNoneI r2.2))
     (some [])
     (some r2.1)
theorem run72 (N : Nat) (x0 : List Int) : Eng.run T72 (G72 N) N live72 c72 Tryz.f72.results.toList Tryz.f72.ntmps ((ad72).enc (x0, ())) (rd72).dec = fn_show_next N x0 := by kernel_rfl
noncomputable def F72 (N : Nat) (a : List Int × Unit) : Option (List Int) := fn_show_next N a.1
theorem ok72 (N : Nat) : FnOK Tryz.prog 72 ad72 rd72 (F72 N) :=
  fn_ok (N := N) (live := live72) (code := c72) (tok T72.rt T72.kl (wrNil_ok)) mixed (gok72 N) Tryz.func72 (by kernel_rfl) (by kernel_rfl) (by kernel_rfl) fun a p h => by rw [← h]; exact run72 N a.1

/-! ### tiller/show.read: function 73 -/
noncomputable def c73 : Code := (Tryz.f73.body).getD .skip
noncomputable def T73 : Tb := ⟨tyOf tys, [], [], wrNil⟩
noncomputable def G73 {R : Type} (N : Nat) : FuncId → List AV → (AV → Option R) → Option R := gCons 69 (gOf ad69 rd69 (F69 N)) (gNil)
theorem gok73 {R : Type} (N : Nat) : GOK Tryz.prog (G73 (R := R) N) := gCons_ok (ok69 N) (gNil_ok)
noncomputable def live73 : List (Nat × List (Nat × HK)) := []
noncomputable def ad73 : Ad (List Int × (List Int × List Int) × (List Int × List Int) × Bool × Unit) := aC (cLi .u32) (aC (cSt (fC (lLi .u32) (fO (lLi .u32)))) (aC (cSt (fC (lLi .u32) (fO (lLi .u32)))) (aC (cBool) (a0))))
noncomputable def rd73 : Rd (Bool) := r1 (cBool)
noncomputable def fn_show_read (N : Nat) (x0 : List Int) (x1 : (List Int × List Int)) (x2 : (List Int × List Int)) (x3 : Bool) : Option (Bool) :=
  (fn_show_number_compare N (x1.1, x1.2) x0).bind fun r1 =>
   (fn_show_number_compare N (x2.1, x2.2) x0).bind fun r2 =>
    cond (ltI r1 0)
     (cond (ltI 0 r2)
      (some true)
      (cond x3
       (cond (eqI r1 0)
        (some true)
        (some (eqI r2 0)))
       (some false)))
     (cond x3
      (cond (eqI r1 0)
       (some true)
       (some (eqI r2 0)))
      (some false))
theorem run73 (N : Nat) (x0 : List Int) (x1 : (List Int × List Int)) (x2 : (List Int × List Int)) (x3 : Bool) : Eng.run T73 (G73 N) N live73 c73 Tryz.f73.results.toList Tryz.f73.ntmps ((ad73).enc (x0, x1, x2, x3, ())) (rd73).dec = fn_show_read N x0 x1 x2 x3 := by kernel_rfl
noncomputable def F73 (N : Nat) (a : List Int × (List Int × List Int) × (List Int × List Int) × Bool × Unit) : Option (Bool) := fn_show_read N a.1 a.2.1 a.2.2.1 a.2.2.2.1
theorem ok73 (N : Nat) : FnOK Tryz.prog 73 ad73 rd73 (F73 N) :=
  fn_ok (N := N) (live := live73) (code := c73) (tok T73.rt T73.kl (wrNil_ok)) mixed (gok73 N) Tryz.func73 (by kernel_rfl) (by kernel_rfl) (by kernel_rfl) fun a p h => by rw [← h]; exact run73 N a.1 a.2.1 a.2.2.1 a.2.2.2.1

/-! ### tiller/show.odd: function 74 -/
noncomputable def c74 : Code := (Tryz.f74.body).getD .skip
noncomputable def T74 : Tb := ⟨tyOf tys, [], [], wrNil⟩
noncomputable def G74 {R : Type} (N : Nat) : FuncId → List AV → (AV → Option R) → Option R := gNil
theorem gok74 {R : Type} (N : Nat) : GOK Tryz.prog (G74 (R := R) N) := gNil_ok
noncomputable def live74 : List (Nat × List (Nat × HK)) := []
noncomputable def ad74 : Ad (List Int × Unit) := aC (cLi .u32) (a0)
noncomputable def rd74 : Rd (Bool) := r1 (cBool)
noncomputable def fn_show_odd (N : Nat) (x0 : List Int) : Option (Bool) :=
  cond (ltI 0 (x0.length : Int))
   (cond (ltI 0 (x0.length : Int))
    (some (eqI (andI .u32 (lrd x0 0) 1) 1))
    (none))
   (some false)
theorem run74 (N : Nat) (x0 : List Int) : Eng.run T74 (G74 N) N live74 c74 Tryz.f74.results.toList Tryz.f74.ntmps ((ad74).enc (x0, ())) (rd74).dec = fn_show_odd N x0 := by kernel_rfl
noncomputable def F74 (N : Nat) (a : List Int × Unit) : Option (Bool) := fn_show_odd N a.1
theorem ok74 (N : Nat) : FnOK Tryz.prog 74 ad74 rd74 (F74 N) :=
  fn_ok (N := N) (live := live74) (code := c74) (tok T74.rt T74.kl (wrNil_ok)) mixed (gok74 N) Tryz.func74 (by kernel_rfl) (by kernel_rfl) (by kernel_rfl) fun a p h => by rw [← h]; exact run74 N a.1

/-! ### tiller/nat.Decimal: function 101 -/
noncomputable def c101 : Code := (Tryz.f101.body).getD .skip
noncomputable def T101 : Tb := ⟨tyOf tys, [(44, 4)], [52], wrCons 119 revW (wrNil)⟩
noncomputable def G101 {R : Type} (N : Nat) : FuncId → List AV → (AV → Option R) → Option R := gCons 94 (gOf ad94 rd94 (F94 N)) (gCons 117 (gOf (aC (cLi .u32) a0) (r1 (cLi .u32)) (fun a => fn_slices_Clone N a.1)) (gCons 118 (gOf ad118 rd118 (F118 N)) (gNil)))
theorem gok101 {R : Type} (N : Nat) : GOK Tryz.prog (G101 (R := R) N) := gCons_ok (ok94 N) (gCons_ok (clone_ok N) (gCons_ok (ok118 N) (gNil_ok)))
noncomputable def live101 : List (Nat × List (Nat × HK)) := [(5, [(4, .row .u8 5), (5, .keep), (40, .keep), (41, .keep), (42, .keep), (43, .keep), (44, .keep), (45, .keep), (46, .keep)]), (8, [(4, .row .u8 5), (6, .keep), (7, .keep), (23, .keep), (40, .keep), (41, .keep), (42, .keep), (43, .keep), (44, .keep), (45, .keep), (46, .keep)]), (13, [(4, .row .u8 5), (40, .keep), (41, .keep), (44, .keep)])]
noncomputable def ad101 : Ad (List Int × Unit) := aC (cLi .u32) (a0)
noncomputable def rd101 : Rd (ByteArray × Option Int) := r2 (cStr) (cErr 83)
noncomputable def st101_0 (v0 : List Int) (v1 : List Int) : St := ⟨[AV.none, AV.none, AV.none, AV.none, AV.own 4, AV.li .u32 v0, AV.none, AV.none, AV.none, AV.none, AV.none, AV.none, AV.none, AV.none, AV.none, AV.none, AV.none, AV.none, AV.none, AV.none, AV.none, AV.none, AV.none, AV.none, AV.none, AV.none, AV.none, AV.none, AV.none, AV.none, AV.none, AV.none, AV.none, AV.none, AV.none, AV.none, AV.none, AV.none, AV.none, AV.none, AV.none, AV.none, AV.none, AV.none, AV.none, AV.none, AV.none, AV.none, AV.none, AV.none, AV.none, AV.none, AV.none, AV.none, AV.none, AV.none, AV.none, AV.none, AV.none, AV.none], [none, none, none, none, some (OB.row .u8 5 v1), none, none, none, none, none, none, none, none, none, none, none, none, none, none, none, none, none, none, none, none, none, none, none, none, none, none, none, none, none, none, none, none, none, none, none, none, none, none, none, none, none, none, none, none, none, none, none, none, none, none, none, none, none, none, none]⟩
noncomputable def raw101_0 (N : Nat) (n : Nat) (v0 : List Int) (v1 : List Int) : Option (ByteArray × Option Int) := loopN (lookN live101 5) (exec T101 (G101 N) N live101 (cL (cL (cR (cL (cR (cR (cR c101)))))))) n (st101_0 v0 v1) (blockK 0 (seqK (exec T101 (G101 N) N live101 (cR (cR (cR (cR c101))))) (retK T101 Tryz.f101.results.toList (rd101).dec)))
noncomputable def st101_1 (v0 : List Int) (v1 : Int) (v2 : Int) (v3 : List Int) : St := ⟨[AV.none, AV.none, AV.none, AV.none, AV.own 4, AV.none, AV.li .u32 v0, AV.v (.int .u32 v1), AV.none, AV.none, AV.none, AV.none, AV.none, AV.none, AV.none, AV.none, AV.none, AV.none, AV.none, AV.none, AV.none, AV.none, AV.none, AV.v (.int .i64 v2), AV.none, AV.none, AV.none, AV.none, AV.none, AV.none, AV.none, AV.none, AV.none, AV.none, AV.none, AV.none, AV.none, AV.none, AV.none, AV.none, AV.none, AV.none, AV.none, AV.none, AV.none, AV.none, AV.none, AV.none, AV.none, AV.none, AV.none, AV.none, AV.none, AV.none, AV.none, AV.none, AV.none, AV.none, AV.none, AV.none], [none, none, none, none, some (OB.row .u8 5 v3), none, none, none, none, none, none, none, none, none, none, none, none, none, none, none, none, none, none, none, none, none, none, none, none, none, none, none, none, none, none, none, none, none, none, none, none, none, none, none, none, none, none, none, none, none, none, none, none, none, none, none, none, none, none, none]⟩
noncomputable def raw101_1 (N : Nat) (m0 : Nat) (n : Nat) (v0 : List Int) (v1 : Int) (v2 : Int) (v3 : List Int) : Option (ByteArray × Option Int) := loopN (lookN live101 8) (exec T101 (G101 N) N live101 (cL (cL (cR (cL (cR (cL (cR (cL (cL (cR (cL (cR (cR (cR c101))))))))))))))) n (st101_1 v0 v1 v2 v3) (blockK 2 (seqK (exec T101 (G101 N) N live101 (cR (cR (cL (cR (cL (cL (cR (cL (cR (cR (cR c101)))))))))))) (blockK 1 (roundK (fun s => loopN (lookN live101 5) (exec T101 (G101 N) N live101 (cL (cL (cR (cL (cR (cR (cR c101)))))))) m0 s (blockK 0 (seqK (exec T101 (G101 N) N live101 (cR (cR (cR (cR c101))))) (retK T101 Tryz.f101.results.toList (rd101).dec)))) (lookN live101 5) (blockK 0 (seqK (exec T101 (G101 N) N live101 (cR (cR (cR (cR c101))))) (retK T101 Tryz.f101.results.toList (rd101).dec)))))))
noncomputable def st101_2 (v0 : List Int) : St := ⟨[AV.none, AV.none, AV.none, AV.none, AV.own 4, AV.none, AV.none, AV.none, AV.none, AV.none, AV.none, AV.none, AV.none, AV.none, AV.none, AV.none, AV.none, AV.none, AV.none, AV.none, AV.none, AV.none, AV.none, AV.none, AV.none, AV.none, AV.none, AV.none, AV.none, AV.none, AV.none, AV.none, AV.none, AV.none, AV.none, AV.none, AV.none, AV.none, AV.none, AV.none, AV.none, AV.none, AV.none, AV.none, AV.none, AV.none, AV.none, AV.none, AV.none, AV.none, AV.none, AV.none, AV.none, AV.none, AV.none, AV.none, AV.none, AV.none, AV.none, AV.none], [none, none, none, none, some (OB.row .u8 5 v0), none, none, none, none, none, none, none, none, none, none, none, none, none, none, none, none, none, none, none, none, none, none, none, none, none, none, none, none, none, none, none, none, none, none, none, none, none, none, none, none, none, none, none, none, none, none, none, none, none, none, none, none, none, none, none]⟩
noncomputable def raw101_2 (N : Nat) (n : Nat) (v0 : List Int) : Option (ByteArray × Option Int) := loopN (lookN live101 13) (exec T101 (G101 N) N live101 (cL (cL (cL (cR (cR (cR (cR c101)))))))) n (st101_2 v0) (blockK 4 (seqK (exec T101 (G101 N) N live101 (cR (cR (cR (cR (cR c101)))))) (retK T101 Tryz.f101.results.toList (rd101).dec)))
noncomputable def s101_1 (N : Nat) (Ln1 : List Int → Int → Int → List Int → Option (ByteArray × Option Int)) (Ln0 : List Int → List Int → Option (ByteArray × Option Int)) (v0 : List Int) (v1 : Int) (v2 : Int) (v3 : List Int) : Option (ByteArray × Option Int) :=
  cond (ltI v2 9)
   (cond (fitL (v3.length + [cvI .u8 (addI .u32 48 (remI .u32 v1 10))].length))
    (Ln1 v0 (quoI .u32 v1 10) (addI .i64 v2 1) (v3 ++ [cvI .u8 (addI .u32 48 (remI .u32 v1 10))]))
    (none))
   (Ln0 v0 v3)
theorem step101_1 (N : Nat) (m0 : Nat) (n : Nat) (v0 : List Int) (v1 : Int) (v2 : Int) (v3 : List Int) : raw101_1 N m0 (n + 1) v0 v1 v2 v3 = s101_1 N (raw101_1 N m0 n) (raw101_0 N  m0) v0 v1 v2 v3 := by kernel_rfl
noncomputable def l101_1 (N : Nat) (E0 : List Int → List Int → Option (ByteArray × Option Int)) : Nat → List Int → Int → Int → List Int → Option (ByteArray × Option Int)
  | 0 => fun _ _ _ _ => none
  | n + 1 => fun v0 v1 v2 v3 => s101_1 N (l101_1 N E0 n) E0 v0 v1 v2 v3
theorem eq101_1 (N : Nat) (m0 : Nat) : ∀ n, raw101_1 N m0 n = l101_1 N (raw101_0 N  m0) n := by
  intro n
  induction n with
  | zero => exact funext fun v0 => funext fun v1 => funext fun v2 => funext fun v3 => rfl
  | succ n ih => exact funext fun v0 => funext fun v1 => funext fun v2 => funext fun v3 => by rw [step101_1, ih]; rfl
noncomputable def s101_2 (N : Nat) (Ln2 : List Int → Option (ByteArray × Option Int)) (v0 : List Int) : Option (ByteArray × Option Int) :=
  cond (ltI 1 (v0.length : Int))
   (cond (leI 0 (subI .i64 (v0.length : Int) 1))
    (cond (ltI (subI .i64 (v0.length : Int) 1) (v0.length : Int))
     (cond (eqI (lrd v0 (subI .i64 (v0.length : Int) 1)) 48)
      (cond ((leI 0 (subI .i64 (v0.length : Int) 1)) && (leI (subI .i64 (v0.length : Int) 1) (v0.length : Int)))
       (Ln2 (v0.take ((subI .i64 (v0.length : Int) 1).toNat)))
       (none))
      (cond (eqI (v0.length : Int) 0)
       (some ((⟨#[48]⟩ : ByteArray), none))
       (some (bstr (List.reverse v0), none))))
     (none))
    (none))
   (cond (eqI (v0.length : Int) 0)
    (some ((⟨#[48]⟩ : ByteArray), none))
    (some (bstr (List.reverse v0), none)))
theorem step101_2 (N : Nat) (n : Nat) (v0 : List Int) : raw101_2 N  (n + 1) v0 = s101_2 N (raw101_2 N  n) v0 := by kernel_rfl
noncomputable def l101_2 (N : Nat) : Nat → List Int → Option (ByteArray × Option Int)
  | 0 => fun _ => none
  | n + 1 => fun v0 => s101_2 N (l101_2 N  n) v0
theorem eq101_2 (N : Nat) : ∀ n, raw101_2 N  n = l101_2 N  n := by
  intro n
  induction n with
  | zero => exact funext fun v0 => rfl
  | succ n ih => exact funext fun v0 => by rw [step101_2, ih]; rfl
noncomputable def s101_0 (N : Nat) (Le1 : List Int → Int → Int → List Int → Option (ByteArray × Option Int)) (Le2 : List Int → Option (ByteArray × Option Int)) (v0 : List Int) (v1 : List Int) : Option (ByteArray × Option Int) :=
  cond (ltI 0 (v0.length : Int))
   ((fn_nat_short N v0 1000000000).bind fun r3 =>
    Le1 r3.1 r3.2 0 v1)
   (Le2 v1)
theorem step101_0 (N : Nat) (n : Nat) (v0 : List Int) (v1 : List Int) : raw101_0 N  (n + 1) v0 v1 = s101_0 N (raw101_1 N n N) (raw101_2 N  N) v0 v1 := by kernel_rfl
noncomputable def l101_0 (N : Nat) : Nat → List Int → List Int → Option (ByteArray × Option Int)
  | 0 => fun _ _ => none
  | n + 1 => fun v0 v1 => s101_0 N (l101_1 N (l101_0 N  n) N) (l101_2 N  N) v0 v1
theorem eq101_0 (N : Nat) : ∀ n, raw101_0 N  n = l101_0 N  n := by
  intro n
  induction n with
  | zero => exact funext fun v0 => funext fun v1 => rfl
  | succ n ih => exact funext fun v0 => funext fun v1 => by rw [step101_0, eq101_1 N n N, eq101_2 N  N, ih]; rfl
noncomputable def t101 (N : Nat) (Le0 : List Int → List Int → Option (ByteArray × Option Int)) (x0 : List Int) : Option (ByteArray × Option Int) :=
  (fn_nat_Check N x0).bind fun r1 =>
   cond (!(isNoneI r1))
    (some ((⟨#[]⟩ : ByteArray), some 1))
    ((fn_slices_Clone N x0).bind fun r2 =>
     Le0 r2 [])
noncomputable def fn_nat_Decimal (N : Nat) (x0 : List Int) : Option (ByteArray × Option Int) := t101 N (l101_0 N N) x0
theorem run101 (N : Nat) (x0 : List Int) : Eng.run T101 (G101 N) N live101 c101 Tryz.f101.results.toList Tryz.f101.ntmps ((ad101).enc (x0, ())) (rd101).dec = fn_nat_Decimal N x0 := by
  refine Eq.trans (show _ = t101 N (raw101_0 N N) x0 from by kernel_rfl) ?_
  unfold fn_nat_Decimal
  rw [eq101_0 N N]
noncomputable def F101 (N : Nat) (a : List Int × Unit) : Option (ByteArray × Option Int) := fn_nat_Decimal N a.1
theorem ok101 (N : Nat) : FnOK Tryz.prog 101 ad101 rd101 (F101 N) :=
  fn_ok (N := N) (live := live101) (code := c101) (tok T101.rt T101.kl (wrCons_ok (rev_ok) (wrNil_ok))) mixed (gok101 N) Tryz.func101 (by kernel_rfl) (by kernel_rfl) (by kernel_rfl) fun a p h => by rw [← h]; exact run101 N a.1

/-! ### math/bits.Mul32: function 133 -/
noncomputable def c133 : Code := (Tryz.f133.body).getD .skip
noncomputable def T133 : Tb := ⟨tyOf tys, [], [], wrNil⟩
noncomputable def G133 {R : Type} (N : Nat) : FuncId → List AV → (AV → Option R) → Option R := gNil
theorem gok133 {R : Type} (N : Nat) : GOK Tryz.prog (G133 (R := R) N) := gNil_ok
noncomputable def live133 : List (Nat × List (Nat × HK)) := []
noncomputable def ad133 : Ad (Int × Int × Unit) := aC (cInt .u32) (aC (cInt .u32) (a0))
noncomputable def rd133 : Rd (Int × Int) := r2 (cInt .u32) (cInt .u32)
noncomputable def fn_bits_Mul32 (N : Nat) (x0 : Int) (x1 : Int) : Option (Int × Int) :=
  some (cvI .u32 (shrI .u64 (mulI .u64 (cvI .u64 x0) (cvI .u64 x1)) 32), cvI .u32 (mulI .u64 (cvI .u64 x0) (cvI .u64 x1)))
theorem run133 (N : Nat) (x0 : Int) (x1 : Int) : Eng.run T133 (G133 N) N live133 c133 Tryz.f133.results.toList Tryz.f133.ntmps ((ad133).enc (x0, x1, ())) (rd133).dec = fn_bits_Mul32 N x0 x1 := by kernel_rfl
noncomputable def F133 (N : Nat) (a : Int × Int × Unit) : Option (Int × Int) := fn_bits_Mul32 N a.1 a.2.1
theorem ok133 (N : Nat) : FnOK Tryz.prog 133 ad133 rd133 (F133 N) :=
  fn_ok (N := N) (live := live133) (code := c133) (tok T133.rt T133.kl (wrNil_ok)) mixed (gok133 N) Tryz.func133 (by kernel_rfl) (by kernel_rfl) (by kernel_rfl) fun a p h => by rw [← h]; exact run133 N a.1 a.2.1

/-! ### math/bits.Mul: function 120 -/
noncomputable def c120 : Code := (Tryz.f120.body).getD .skip
noncomputable def T120 : Tb := ⟨tyOf tys, [], [], wrNil⟩
noncomputable def G120 {R : Type} (N : Nat) : FuncId → List AV → (AV → Option R) → Option R := gCons 87 (gOf ad87 rd87 (F87 N)) (gNil)
theorem gok120 {R : Type} (N : Nat) : GOK Tryz.prog (G120 (R := R) N) := gCons_ok (ok87 N) (gNil_ok)
noncomputable def live120 : List (Nat × List (Nat × HK)) := []
noncomputable def ad120 : Ad (Int × Int × Unit) := aC (cInt .u64) (aC (cInt .u64) (a0))
noncomputable def rd120 : Rd (Int × Int) := r2 (cInt .u64) (cInt .u64)
noncomputable def fn_bits_Mul (N : Nat) (x0 : Int) (x1 : Int) : Option (Int × Int) :=
  (fn_bits_Mul64 N x0 x1).bind fun r1 =>
   some (r1.1, r1.2)
theorem run120 (N : Nat) (x0 : Int) (x1 : Int) : Eng.run T120 (G120 N) N live120 c120 Tryz.f120.results.toList Tryz.f120.ntmps ((ad120).enc (x0, x1, ())) (rd120).dec = fn_bits_Mul N x0 x1 := by kernel_rfl
noncomputable def F120 (N : Nat) (a : Int × Int × Unit) : Option (Int × Int) := fn_bits_Mul N a.1 a.2.1
theorem ok120 (N : Nat) : FnOK Tryz.prog 120 ad120 rd120 (F120 N) :=
  fn_ok (N := N) (live := live120) (code := c120) (tok T120.rt T120.kl (wrNil_ok)) mixed (gok120 N) Tryz.func120 (by kernel_rfl) (by kernel_rfl) (by kernel_rfl) fun a p h => by rw [← h]; exact run120 N a.1 a.2.1

/-! ### internal/stringslite.HasPrefix: function 76 -/
noncomputable def c76 : Code := (Tryz.f76.body).getD .skip
noncomputable def T76 : Tb := ⟨tyOf tys, [], [], wrNil⟩
noncomputable def G76 {R : Type} (N : Nat) : FuncId → List AV → (AV → Option R) → Option R := gNil
theorem gok76 {R : Type} (N : Nat) : GOK Tryz.prog (G76 (R := R) N) := gNil_ok
noncomputable def live76 : List (Nat × List (Nat × HK)) := []
noncomputable def ad76 : Ad (ByteArray × ByteArray × Unit) := aC (cStr) (aC (cStr) (a0))
noncomputable def rd76 : Rd (Bool) := r1 (cBool)
noncomputable def fn_stringslite_HasPrefix (N : Nat) (x0 : ByteArray) (x1 : ByteArray) : Option (Bool) :=
  cond (leI (x1.size : Int) (x0.size : Int))
   (cond (((leI 0 0) && (leI 0 (x1.size : Int))) && (leI (x1.size : Int) (x0.size : Int)))
    (some (eqS (x0.extract ((0 : Int).toNat) ((x1.size : Int).toNat)) x1))
    (none))
   (some false)
theorem run76 (N : Nat) (x0 : ByteArray) (x1 : ByteArray) : Eng.run T76 (G76 N) N live76 c76 Tryz.f76.results.toList Tryz.f76.ntmps ((ad76).enc (x0, x1, ())) (rd76).dec = fn_stringslite_HasPrefix N x0 x1 := by kernel_rfl
noncomputable def F76 (N : Nat) (a : ByteArray × ByteArray × Unit) : Option (Bool) := fn_stringslite_HasPrefix N a.1 a.2.1
theorem ok76 (N : Nat) : FnOK Tryz.prog 76 ad76 rd76 (F76 N) :=
  fn_ok (N := N) (live := live76) (code := c76) (tok T76.rt T76.kl (wrNil_ok)) mixed (gok76 N) Tryz.func76 (by kernel_rfl) (by kernel_rfl) (by kernel_rfl) fun a p h => by rw [← h]; exact run76 N a.1 a.2.1

/-! ### strings.HasPrefix: function 40 -/
noncomputable def c40 : Code := (Tryz.f40.body).getD .skip
noncomputable def T40 : Tb := ⟨tyOf tys, [], [], wrNil⟩
noncomputable def G40 {R : Type} (N : Nat) : FuncId → List AV → (AV → Option R) → Option R := gCons 76 (gOf ad76 rd76 (F76 N)) (gNil)
theorem gok40 {R : Type} (N : Nat) : GOK Tryz.prog (G40 (R := R) N) := gCons_ok (ok76 N) (gNil_ok)
noncomputable def live40 : List (Nat × List (Nat × HK)) := []
noncomputable def ad40 : Ad (ByteArray × ByteArray × Unit) := aC (cStr) (aC (cStr) (a0))
noncomputable def rd40 : Rd (Bool) := r1 (cBool)
noncomputable def fn_strings_HasPrefix (N : Nat) (x0 : ByteArray) (x1 : ByteArray) : Option (Bool) :=
  (fn_stringslite_HasPrefix N x0 x1).bind fun r1 =>
   some r1
theorem run40 (N : Nat) (x0 : ByteArray) (x1 : ByteArray) : Eng.run T40 (G40 N) N live40 c40 Tryz.f40.results.toList Tryz.f40.ntmps ((ad40).enc (x0, x1, ())) (rd40).dec = fn_strings_HasPrefix N x0 x1 := by kernel_rfl
noncomputable def F40 (N : Nat) (a : ByteArray × ByteArray × Unit) : Option (Bool) := fn_strings_HasPrefix N a.1 a.2.1
theorem ok40 (N : Nat) : FnOK Tryz.prog 40 ad40 rd40 (F40 N) :=
  fn_ok (N := N) (live := live40) (code := c40) (tok T40.rt T40.kl (wrNil_ok)) mixed (gok40 N) Tryz.func40 (by kernel_rfl) (by kernel_rfl) (by kernel_rfl) fun a p h => by rw [← h]; exact run40 N a.1 a.2.1

/-! ### tiller/show.laid: function 75 -/
noncomputable def c75 : Code := (Tryz.f75.body).getD .skip
noncomputable def T75 : Tb := ⟨tyOf tys, [], [], wrNil⟩
noncomputable def G75 {R : Type} (N : Nat) : FuncId → List AV → (AV → Option R) → Option R := gCons 101 (gOf ad101 rd101 (F101 N)) (gNil)
theorem gok75 {R : Type} (N : Nat) : GOK Tryz.prog (G75 (R := R) N) := gCons_ok (ok101 N) (gNil_ok)
noncomputable def live75 : List (Nat × List (Nat × HK)) := []
noncomputable def ad75 : Ad (List Int × Int × Int × Unit) := aC (cLi .u32) (aC (cInt .i64) (aC (cInt .i64) (a0)))
noncomputable def rd75 : Rd ((ByteArray × Int)) := r1 (cSt (fC (lStr) (fO (lInt .i64))))
noncomputable def fn_show_laid (N : Nat) (x0 : List Int) (x1 : Int) (x2 : Int) : Option ((ByteArray × Int)) :=
  (fn_nat_Decimal N x0).bind fun r1 =>
   cond (!(isNoneI r1.2))
    (none)
    (cond (ltI (r1.1.size : Int) x1)
     (none)
     (cond (((leI 0 0) && (leI 0 x1)) && (leI x1 (r1.1.size : Int)))
      (some (r1.1.extract ((0 : Int).toNat) x1.toNat, subI .i64 (addI .i64 x2 (r1.1.size : Int)) x1))
      (none)))
theorem run75 (N : Nat) (x0 : List Int) (x1 : Int) (x2 : Int) : Eng.run T75 (G75 N) N live75 c75 Tryz.f75.results.toList Tryz.f75.ntmps ((ad75).enc (x0, x1, x2, ())) (rd75).dec = fn_show_laid N x0 x1 x2 := by kernel_rfl
noncomputable def F75 (N : Nat) (a : List Int × Int × Int × Unit) : Option ((ByteArray × Int)) := fn_show_laid N a.1 a.2.1 a.2.2.1
theorem ok75 (N : Nat) : FnOK Tryz.prog 75 ad75 rd75 (F75 N) :=
  fn_ok (N := N) (live := live75) (code := c75) (tok T75.rt T75.kl (wrNil_ok)) mixed (gok75 N) Tryz.func75 (by kernel_rfl) (by kernel_rfl) (by kernel_rfl) fun a p h => by rw [← h]; exact run75 N a.1 a.2.1 a.2.2.1

/-! ### tiller/show.try: function 39 -/
noncomputable def c39 : Code := (Tryz.f39.body).getD .skip
noncomputable def T39 : Tb := ⟨tyOf tys, [(30, 3), (37, 3), (43, 3), (48, 3), (50, 3)], [], wrNil⟩
noncomputable def G39 {R : Type} (N : Nat) : FuncId → List AV → (AV → Option R) → Option R := gCons 70 (gOf ad70 rd70 (F70 N)) (gCons 37 (gOf ad37 rd37 (F37 N)) (gCons 68 (gOf ad68 rd68 (F68 N)) (gCons 71 (gOf ad71 rd71 (F71 N)) (gCons 72 (gOf ad72 rd72 (F72 N)) (gCons 73 (gOf ad73 rd73 (F73 N)) (gCons 75 (gOf ad75 rd75 (F75 N)) (gCons 74 (gOf ad74 rd74 (F74 N)) (gNil))))))))
theorem gok39 {R : Type} (N : Nat) : GOK Tryz.prog (G39 (R := R) N) := gCons_ok (ok70 N) (gCons_ok (ok37 N) (gCons_ok (ok68 N) (gCons_ok (ok71 N) (gCons_ok (ok72 N) (gCons_ok (ok73 N) (gCons_ok (ok75 N) (gCons_ok (ok74 N) (gNil_ok))))))))
noncomputable def live39 : List (Nat × List (Nat × HK)) := []
noncomputable def ad39 : Ad ((Bool × Int × Int × Int) × Int × Int × Unit) := aC (cSt (fC (lBool) (fC (lInt .i64) (fC (lInt .i64) (fO (lInt .u64)))))) (aC (cInt .i64) (aC (cInt .i64) (a0)))
noncomputable def rd39 : Rd ((ByteArray × Int) × Bool) := r2 (cSt (fC (lStr) (fO (lInt .i64)))) (cBool)
noncomputable def fn_show_try (N : Nat) (x0 : (Bool × Int × Int × Int)) (x1 : Int) (x2 : Int) : Option ((ByteArray × Int) × Bool) :=
  (fn_show_between N (x0.1, x0.2.1, x0.2.2.1, x0.2.2.2)).bind fun r1 =>
   (fn_show_of N r1.1 (subI .i64 x0.2.2.1 2)).bind fun r2 =>
    (fn_show_number_scaled N (r2.1, r2.2) (subI .i64 (subI .i64 x1 1) x2)).bind fun r3 =>
     (fn_show_of N r1.2 (subI .i64 x0.2.2.1 2)).bind fun r4 =>
      (fn_show_number_scaled N (r4.1, r4.2) (subI .i64 (subI .i64 x1 1) x2)).bind fun r5 =>
       (fn_show_of N x0.2.2.2 x0.2.2.1).bind fun r6 =>
        (fn_show_number_scaled N (r6.1, r6.2) (subI .i64 (subI .i64 x1 1) x2)).bind fun r7 =>
         (fn_show_number_cut N (r7.1, r7.2)).bind fun r8 =>
          (fn_show_next N r8.1).bind fun r9 =>
           (fn_show_read N r8.1 (r3.1, r3.2) (r5.1, r5.2) (eqI (andI .u64 x0.2.2.2 1) 0)).bind fun r10 =>
            (fn_show_read N r9 (r3.1, r3.2) (r5.1, r5.2) (eqI (andI .u64 x0.2.2.2 1) 0)).bind fun r11 =>
             cond r10
              (cond (!(r11))
               ((fn_show_laid N r8.1 x1 x2).bind fun r12 =>
                some ((r12.1, r12.2), true))
               (cond (ltI r8.2.1 0)
                ((fn_show_laid N r8.1 x1 x2).bind fun r13 =>
                 some ((r13.1, r13.2), true))
                (cond (eqI r8.2.1 0)
                 ((fn_show_odd N r8.1).bind fun r14 =>
                  cond (!(r14))
                   ((fn_show_laid N r8.1 x1 x2).bind fun r15 =>
                    some ((r15.1, r15.2), true))
                   (cond r11
                    ((fn_show_laid N r9 x1 x2).bind fun r16 =>
                     some ((r16.1, r16.2), true))
                    (some (((⟨#[]⟩ : ByteArray), 0), false))))
                 (cond r11
                  ((fn_show_laid N r9 x1 x2).bind fun r17 =>
                   some ((r17.1, r17.2), true))
                  (some (((⟨#[]⟩ : ByteArray), 0), false))))))
              (cond r11
               ((fn_show_laid N r9 x1 x2).bind fun r18 =>
                some ((r18.1, r18.2), true))
               (some (((⟨#[]⟩ : ByteArray), 0), false)))
theorem run39 (N : Nat) (x0 : (Bool × Int × Int × Int)) (x1 : Int) (x2 : Int) : Eng.run T39 (G39 N) N live39 c39 Tryz.f39.results.toList Tryz.f39.ntmps ((ad39).enc (x0, x1, x2, ())) (rd39).dec = fn_show_try N x0 x1 x2 := by kernel_rfl
noncomputable def F39 (N : Nat) (a : (Bool × Int × Int × Int) × Int × Int × Unit) : Option ((ByteArray × Int) × Bool) := fn_show_try N a.1 a.2.1 a.2.2.1
theorem ok39 (N : Nat) : FnOK Tryz.prog 39 ad39 rd39 (F39 N) :=
  fn_ok (N := N) (live := live39) (code := c39) (tok T39.rt T39.kl (wrNil_ok)) mixed (gok39 N) Tryz.func39 (by kernel_rfl) (by kernel_rfl) (by kernel_rfl) fun a p h => by rw [← h]; exact run39 N a.1 a.2.1 a.2.2.1

/-! ### tiller/show.Short: function 12 -/
noncomputable def c12 : Code := (Tryz.f12.body).getD .skip
noncomputable def T12 : Tb := ⟨tyOf tys, [(21, 5), (24, 5), (27, 5), (29, 5), (45, 8), (47, 8), (49, 5), (58, 10), (60, 10), (62, 5)], [], wrNil⟩
noncomputable def G12 {R : Type} (N : Nat) : FuncId → List AV → (AV → Option R) → Option R := gCons 35 (gOf ad35 rd35 (F35 N)) (gCons 28 (gOf ad28 rd28 (F28 N)) (gCons 36 (gOf (aC cStr (aC (cInt .i64) (aC cBool a0))) (r1 cStr) (fun a => fn_text N a.1 a.2.1 a.2.2.1)) (gCons 37 (gOf ad37 rd37 (F37 N)) (gCons 38 (gOf ad38 rd38 (F38 N)) (gCons 39 (gOf ad39 rd39 (F39 N)) (gNil))))))
theorem gok12 {R : Type} (N : Nat) : GOK Tryz.prog (G12 (R := R) N) := gCons_ok (ok35 N) (gCons_ok (ok28 N) (gCons_ok (text_ok N) (gCons_ok (ok37 N) (gCons_ok (ok38 N) (gCons_ok (ok39 N) (gNil_ok))))))
noncomputable def live12 : List (Nat × List (Nat × HK)) := [(9, [(5, .keep), (6, .keep), (7, .keep)])]
noncomputable def ad12 : Ad (Int × Unit) := aC (cInt .u64) (a0)
noncomputable def rd12 : Rd (ByteArray) := r1 (cStr)
noncomputable def st12_0 (v0 : Int) (v1 : Int) (v2 : Bool) (v3 : Int) (v4 : Int) (v5 : Int) : St := ⟨[AV.none, AV.none, AV.none, AV.none, AV.none, AV.ptr 5 0, AV.v (.int .i64 v0), AV.v (.int .i64 v1), AV.none, AV.none, AV.none, AV.none, AV.none, AV.none, AV.none, AV.none, AV.none, AV.none, AV.none, AV.none, AV.none, AV.none, AV.none, AV.none, AV.none, AV.none, AV.none, AV.none, AV.none, AV.none, AV.none, AV.none, AV.none, AV.none, AV.none, AV.none, AV.none, AV.none, AV.none, AV.none, AV.none, AV.none, AV.none, AV.none, AV.none, AV.none, AV.none, AV.none, AV.none, AV.none, AV.none, AV.none, AV.none, AV.none, AV.none, AV.none, AV.none, AV.none, AV.none, AV.none, AV.none, AV.none, AV.none, AV.none, AV.none], [none, none, none, none, none, some (OB.agg [AV.v (.bool v2), AV.v (.int .i64 v3), AV.v (.int .i64 v4), AV.v (.int .u64 v5)]), none, none, none, none, none, none, none, none, none, none, none, none, none, none, none, none, none, none, none, none, none, none, none, none, none, none, none, none, none, none, none, none, none, none, none, none, none, none, none, none, none, none, none, none, none, none, none, none, none, none, none, none, none, none, none, none, none, none, none]⟩
noncomputable def raw12_0 (N : Nat) (n : Nat) (v0 : Int) (v1 : Int) (v2 : Bool) (v3 : Int) (v4 : Int) (v5 : Int) : Option (ByteArray) := loopN (lookN live12 9) (exec T12 (G12 N) N live12 (cL (cL (cR (cL (cR (cR (cR (cR (cR c12)))))))))) n (st12_0 v0 v1 v2 v3 v4 v5) (blockK 0 (seqK (exec T12 (G12 N) N live12 (cR (cR (cR (cR (cR (cR c12))))))) (retK T12 Tryz.f12.results.toList (rd12).dec)))
noncomputable def s12_0 (N : Nat) (Ln0 : Int → Int → Bool → Int → Int → Int → Option (ByteArray)) (v0 : Int) (v1 : Int) (v2 : Bool) (v3 : Int) (v4 : Int) (v5 : Int) : Option (ByteArray) :=
  cond (ltI v1 17)
   ((fn_show_try N (v2, v3, v4, v5) v1 v0).bind fun r6 =>
    cond r6.2
     ((fn_text N r6.1.1 r6.1.2 v2).bind fun r7 =>
      some r7)
     (Ln0 v0 (addI .i64 v1 1) v2 v3 v4 v5))
   ((fn_show_try N (v2, v3, v4, v5) 17 v0).bind fun r8 =>
    (fn_text N r8.1.1 r8.1.2 v2).bind fun r9 =>
     some r9)
theorem step12_0 (N : Nat) (n : Nat) (v0 : Int) (v1 : Int) (v2 : Bool) (v3 : Int) (v4 : Int) (v5 : Int) : raw12_0 N  (n + 1) v0 v1 v2 v3 v4 v5 = s12_0 N (raw12_0 N  n) v0 v1 v2 v3 v4 v5 := by kernel_rfl
noncomputable def l12_0 (N : Nat) : Nat → Int → Int → Bool → Int → Int → Int → Option (ByteArray)
  | 0 => fun _ _ _ _ _ _ => none
  | n + 1 => fun v0 v1 v2 v3 v4 v5 => s12_0 N (l12_0 N  n) v0 v1 v2 v3 v4 v5
theorem eq12_0 (N : Nat) : ∀ n, raw12_0 N  n = l12_0 N  n := by
  intro n
  induction n with
  | zero => exact funext fun v0 => funext fun v1 => funext fun v2 => funext fun v3 => funext fun v4 => funext fun v5 => rfl
  | succ n ih => exact funext fun v0 => funext fun v1 => funext fun v2 => funext fun v3 => funext fun v4 => funext fun v5 => by rw [step12_0, ih]; rfl
noncomputable def t12 (N : Nat) (Le0 : Int → Int → Bool → Int → Int → Int → Option (ByteArray)) (x0 : Int) : Option (ByteArray) :=
  (fn_show_special N x0).bind fun r1 =>
   cond r1.2
    (some r1.1)
    ((fn_pat_Take N x0).bind fun r2 =>
     cond (eqI r2.2.1 0)
      ((fn_text N (⟨#[48]⟩ : ByteArray) 0 r2.1).bind fun r3 =>
       some r3)
      ((fn_show_of N r2.2.2.2 r2.2.2.1).bind fun r4 =>
       (fn_show_number_first N (r4.1, r4.2)).bind fun r5 =>
        Le0 r5 1 r2.1 r2.2.1 r2.2.2.1 r2.2.2.2))
noncomputable def fn_show_Short (N : Nat) (x0 : Int) : Option (ByteArray) := t12 N (l12_0 N N) x0
theorem run12 (N : Nat) (x0 : Int) : Eng.run T12 (G12 N) N live12 c12 Tryz.f12.results.toList Tryz.f12.ntmps ((ad12).enc (x0, ())) (rd12).dec = fn_show_Short N x0 := by
  refine Eq.trans (show _ = t12 N (raw12_0 N N) x0 from by kernel_rfl) ?_
  unfold fn_show_Short
  rw [eq12_0 N N]
noncomputable def F12 (N : Nat) (a : Int × Unit) : Option (ByteArray) := fn_show_Short N a.1
theorem ok12 (N : Nat) : FnOK Tryz.prog 12 ad12 rd12 (F12 N) :=
  fn_ok (N := N) (live := live12) (code := c12) (tok T12.rt T12.kl (wrNil_ok)) mixed (gok12 N) Tryz.func12 (by kernel_rfl) (by kernel_rfl) (by kernel_rfl) fun a p h => by rw [← h]; exact run12 N a.1

/-! ### internal/stringslite.CutPrefix: function 77 -/
noncomputable def c77 : Code := (Tryz.f77.body).getD .skip
noncomputable def T77 : Tb := ⟨tyOf tys, [], [], wrNil⟩
noncomputable def G77 {R : Type} (N : Nat) : FuncId → List AV → (AV → Option R) → Option R := gCons 76 (gOf ad76 rd76 (F76 N)) (gNil)
theorem gok77 {R : Type} (N : Nat) : GOK Tryz.prog (G77 (R := R) N) := gCons_ok (ok76 N) (gNil_ok)
noncomputable def live77 : List (Nat × List (Nat × HK)) := []
noncomputable def ad77 : Ad (ByteArray × ByteArray × Unit) := aC (cStr) (aC (cStr) (a0))
noncomputable def rd77 : Rd (ByteArray × Bool) := r2 (cStr) (cBool)
noncomputable def fn_stringslite_CutPrefix (N : Nat) (x0 : ByteArray) (x1 : ByteArray) : Option (ByteArray × Bool) :=
  (fn_stringslite_HasPrefix N x0 x1).bind fun r1 =>
   cond (!(r1))
    (some (x0, false))
    (cond (((leI 0 (x1.size : Int)) && (leI (x1.size : Int) (x0.size : Int))) && (leI (x0.size : Int) (x0.size : Int)))
     (some (x0.extract ((x1.size : Int).toNat) ((x0.size : Int).toNat), true))
     (none))
theorem run77 (N : Nat) (x0 : ByteArray) (x1 : ByteArray) : Eng.run T77 (G77 N) N live77 c77 Tryz.f77.results.toList Tryz.f77.ntmps ((ad77).enc (x0, x1, ())) (rd77).dec = fn_stringslite_CutPrefix N x0 x1 := by kernel_rfl
noncomputable def F77 (N : Nat) (a : ByteArray × ByteArray × Unit) : Option (ByteArray × Bool) := fn_stringslite_CutPrefix N a.1 a.2.1
theorem ok77 (N : Nat) : FnOK Tryz.prog 77 ad77 rd77 (F77 N) :=
  fn_ok (N := N) (live := live77) (code := c77) (tok T77.rt T77.kl (wrNil_ok)) mixed (gok77 N) Tryz.func77 (by kernel_rfl) (by kernel_rfl) (by kernel_rfl) fun a p h => by rw [← h]; exact run77 N a.1 a.2.1

/-! ### strings.CutPrefix: function 42 -/
noncomputable def c42 : Code := (Tryz.f42.body).getD .skip
noncomputable def T42 : Tb := ⟨tyOf tys, [], [], wrNil⟩
noncomputable def G42 {R : Type} (N : Nat) : FuncId → List AV → (AV → Option R) → Option R := gCons 77 (gOf ad77 rd77 (F77 N)) (gNil)
theorem gok42 {R : Type} (N : Nat) : GOK Tryz.prog (G42 (R := R) N) := gCons_ok (ok77 N) (gNil_ok)
noncomputable def live42 : List (Nat × List (Nat × HK)) := []
noncomputable def ad42 : Ad (ByteArray × ByteArray × Unit) := aC (cStr) (aC (cStr) (a0))
noncomputable def rd42 : Rd (ByteArray × Bool) := r2 (cStr) (cBool)
noncomputable def fn_strings_CutPrefix (N : Nat) (x0 : ByteArray) (x1 : ByteArray) : Option (ByteArray × Bool) :=
  (fn_stringslite_CutPrefix N x0 x1).bind fun r1 =>
   some (r1.1, r1.2)
theorem run42 (N : Nat) (x0 : ByteArray) (x1 : ByteArray) : Eng.run T42 (G42 N) N live42 c42 Tryz.f42.results.toList Tryz.f42.ntmps ((ad42).enc (x0, x1, ())) (rd42).dec = fn_strings_CutPrefix N x0 x1 := by kernel_rfl
noncomputable def F42 (N : Nat) (a : ByteArray × ByteArray × Unit) : Option (ByteArray × Bool) := fn_strings_CutPrefix N a.1 a.2.1
theorem ok42 (N : Nat) : FnOK Tryz.prog 42 ad42 rd42 (F42 N) :=
  fn_ok (N := N) (live := live42) (code := c42) (tok T42.rt T42.kl (wrNil_ok)) mixed (gok42 N) Tryz.func42 (by kernel_rfl) (by kernel_rfl) (by kernel_rfl) fun a p h => by rw [← h]; exact run42 N a.1 a.2.1

/-! ### tiller/read.of: function 104 -/
noncomputable def c104 : Code := (Tryz.f104.body).getD .skip
noncomputable def T104 : Tb := ⟨tyOf tys, [], [24], wrNil⟩
noncomputable def G104 {R : Type} (N : Nat) : FuncId → List AV → (AV → Option R) → Option R := gCons 66 (gOf ad66 rd66 (F66 N)) (gCons 106 (gOf ad106 rd106 (F106 N)) (gCons 100 (gOf ad100 rd100 (F100 N)) (gNil)))
theorem gok104 {R : Type} (N : Nat) : GOK Tryz.prog (G104 (R := R) N) := gCons_ok (ok66 N) (gCons_ok (ok106 N) (gCons_ok (ok100 N) (gNil_ok)))
noncomputable def live104 : List (Nat × List (Nat × HK)) := [(4, [(6, .li .u32), (7, .keep), (15, .keep), (16, .keep), (17, .keep)])]
noncomputable def ad104 : Ad (List Int × Int × Unit) := aC (cLi .u8) (aC (cInt .u32) (a0))
noncomputable def rd104 : Rd (List Int × Option Int) := r2 (cLi .u32) (cErr 83)
noncomputable def st104_0 (v0 : List Int) (v1 : List Int) (v2 : List Int) (v3 : Int) (v4 : Int) : St := ⟨[AV.none, AV.none, AV.none, AV.none, AV.none, AV.none, AV.li .u32 v0, AV.li .u32 v1, AV.none, AV.none, AV.none, AV.none, AV.none, AV.none, AV.none, AV.li .u8 v2, AV.v (.int .i64 v3), AV.v (.int .i64 v4), AV.none, AV.none, AV.none, AV.none, AV.none, AV.none, AV.none, AV.none, AV.none, AV.none, AV.none, AV.none, AV.none, AV.none, AV.none, AV.none, AV.none, AV.none, AV.none, AV.none, AV.none, AV.none, AV.none, AV.none, AV.none], [none, none, none, none, none, none, none, none, none, none, none, none, none, none, none, none, none, none, none, none, none, none, none, none, none, none, none, none, none, none, none, none, none, none, none, none, none, none, none, none, none, none, none]⟩
noncomputable def raw104_0 (N : Nat) (n : Nat) (v0 : List Int) (v1 : List Int) (v2 : List Int) (v3 : Int) (v4 : Int) : Option (List Int × Option Int) := loopN (lookN live104 4) (exec T104 (G104 N) N live104 (cL (cL (cR (cL (cR (cR (cR c104)))))))) n (st104_0 v0 v1 v2 v3 v4) (blockK 0 (seqK (exec T104 (G104 N) N live104 (cR (cR (cR (cR c104))))) (retK T104 Tryz.f104.results.toList (rd104).dec)))
noncomputable def s104_0 (N : Nat) (Ln0 : List Int → List Int → List Int → Int → Int → Option (List Int × Option Int)) (v0 : List Int) (v1 : List Int) (v2 : List Int) (v3 : Int) (v4 : Int) : Option (List Int × Option Int) :=
  cond (ltI v4 v3)
   (cond (leI 0 v4)
    (cond (ltI v4 (v2.length : Int))
     ((fn_nat_Mul N v0 v1).bind fun r2 =>
      cond (!(isNoneI r2.2))
       (some ([], r2.2))
       ((fn_nat_Of N (cvI .u64 (lrd v2 v4))).bind fun r3 =>
        (fn_nat_Add N r2.1 r3).bind fun r4 =>
         cond (!(isNoneI r4.2))
          (some ([], r4.2))
          (Ln0 r4.1 v1 v2 v3 (addI .i64 v4 1))))
     (none))
    (none))
   (some (v0, none))
theorem step104_0 (N : Nat) (n : Nat) (v0 : List Int) (v1 : List Int) (v2 : List Int) (v3 : Int) (v4 : Int) : raw104_0 N  (n + 1) v0 v1 v2 v3 v4 = s104_0 N (raw104_0 N  n) v0 v1 v2 v3 v4 := by kernel_rfl
noncomputable def l104_0 (N : Nat) : Nat → List Int → List Int → List Int → Int → Int → Option (List Int × Option Int)
  | 0 => fun _ _ _ _ _ => none
  | n + 1 => fun v0 v1 v2 v3 v4 => s104_0 N (l104_0 N  n) v0 v1 v2 v3 v4
theorem eq104_0 (N : Nat) : ∀ n, raw104_0 N  n = l104_0 N  n := by
  intro n
  induction n with
  | zero => exact funext fun v0 => funext fun v1 => funext fun v2 => funext fun v3 => funext fun v4 => rfl
  | succ n ih => exact funext fun v0 => funext fun v1 => funext fun v2 => funext fun v3 => funext fun v4 => by rw [step104_0, ih]; rfl
noncomputable def t104 (N : Nat) (Le0 : List Int → List Int → List Int → Int → Int → Option (List Int × Option Int)) (x0 : List Int) (x1 : Int) : Option (List Int × Option Int) :=
  (fn_nat_Of N (cvI .u64 x1)).bind fun r1 =>
   Le0 [] r1 x0 (x0.length : Int) 0
noncomputable def fn_read_of (N : Nat) (x0 : List Int) (x1 : Int) : Option (List Int × Option Int) := t104 N (l104_0 N N) x0 x1
theorem run104 (N : Nat) (x0 : List Int) (x1 : Int) : Eng.run T104 (G104 N) N live104 c104 Tryz.f104.results.toList Tryz.f104.ntmps ((ad104).enc (x0, x1, ())) (rd104).dec = fn_read_of N x0 x1 := by
  refine Eq.trans (show _ = t104 N (raw104_0 N N) x0 x1 from by kernel_rfl) ?_
  unfold fn_read_of
  rw [eq104_0 N N]
noncomputable def F104 (N : Nat) (a : List Int × Int × Unit) : Option (List Int × Option Int) := fn_read_of N a.1 a.2.1
theorem ok104 (N : Nat) : FnOK Tryz.prog 104 ad104 rd104 (F104 N) :=
  fn_ok (N := N) (live := live104) (code := c104) (tok T104.rt T104.kl (wrNil_ok)) mixed (gok104 N) Tryz.func104 (by kernel_rfl) (by kernel_rfl) (by kernel_rfl) fun a p h => by rw [← h]; exact run104 N a.1 a.2.1

/-! ### tiller/read.cut: function 107 -/
noncomputable def c107 : Code := (Tryz.f107.body).getD .skip
noncomputable def T107 : Tb := ⟨tyOf tys, [(39, 5), (48, 5)], [], wrNil⟩
noncomputable def G107 {R : Type} (N : Nat) : FuncId → List AV → (AV → Option R) → Option R := gNil
theorem gok107 {R : Type} (N : Nat) : GOK Tryz.prog (G107 (R := R) N) := gNil_ok
noncomputable def live107 : List (Nat × List (Nat × HK)) := [(6, [(2, .keep), (5, .keep), (7, .keep), (8, .keep), (19, .keep), (20, .keep), (21, .keep)])]
noncomputable def ad107 : Ad (List Int × Unit) := aC (cLi .u32) (a0)
noncomputable def rd107 : Rd (Vec 4 × Int × Bool) := r3 (cVec .u64 4) (cInt .i64) (cBool)
noncomputable def st107_0 (v0 : Int) (v1 : Bool) (v2 : List Int) (v3 : Int) (v4 : Int) (v5 : Vec 4) (v6 : Vec 4) : St := ⟨[AV.none, AV.none, AV.ptr 2 0, AV.none, AV.none, AV.ptr 5 0, AV.none, AV.v (.int .i64 v0), AV.v (.bool v1), AV.none, AV.none, AV.none, AV.none, AV.none, AV.none, AV.none, AV.none, AV.none, AV.none, AV.li .u32 v2, AV.v (.int .i64 v3), AV.v (.int .i64 v4), AV.none, AV.none, AV.none, AV.none, AV.none, AV.none, AV.none, AV.none, AV.none, AV.none, AV.none, AV.none, AV.none, AV.none, AV.none, AV.none, AV.none, AV.none, AV.none, AV.none, AV.none, AV.none, AV.none, AV.none, AV.none, AV.none, AV.none, AV.none, AV.none, AV.none, AV.none, AV.none], [none, none, some (OB.arr .u64 4 v5), none, none, some (OB.arr .u64 4 v6), none, none, none, none, none, none, none, none, none, none, none, none, none, none, none, none, none, none, none, none, none, none, none, none, none, none, none, none, none, none, none, none, none, none, none, none, none, none, none, none, none, none, none, none, none, none, none, none]⟩
noncomputable def raw107_0 (N : Nat) (n : Nat) (v0 : Int) (v1 : Bool) (v2 : List Int) (v3 : Int) (v4 : Int) (v5 : Vec 4) (v6 : Vec 4) : Option (Vec 4 × Int × Bool) := loopN (lookN live107 6) (exec T107 (G107 N) N live107 (cL (cL (cR (cL (cR (cR (cR (cR (cR c107)))))))))) n (st107_0 v0 v1 v2 v3 v4 v5 v6) (blockK 0 (seqK (exec T107 (G107 N) N live107 (cR (cR (cR (cR (cR (cR c107))))))) (retK T107 Tryz.f107.results.toList (rd107).dec)))
noncomputable def s107_0 (N : Nat) (Ln0 : Int → Bool → List Int → Int → Int → Vec 4 → Vec 4 → Option (Vec 4 × Int × Bool)) (v0 : Int) (v1 : Bool) (v2 : List Int) (v3 : Int) (v4 : Int) (v5 : Vec 4) (v6 : Vec 4) : Option (Vec 4 × Int × Bool) :=
  cond (ltI v4 v3)
   (cond (leI 0 v4)
    (cond (ltI v4 (v2.length : Int))
     (cond (ltI v4 v0)
      (cond v1
       (Ln0 v0 true v2 v3 (addI .i64 v4 1) v5 v6)
       (Ln0 v0 (!(eqI (lrd v2 v4) 0)) v2 v3 (addI .i64 v4 1) v5 v6))
      (cond (leI 0 (quoI .i64 (subI .i64 v4 v0) 2))
       (cond (ltI (quoI .i64 (subI .i64 v4 v0) 2) 4)
        (cond (ltI (mulI .i64 32 (remI .i64 (subI .i64 v4 v0) 2)) 0)
         (none)
         (cond (leI 0 (quoI .i64 (subI .i64 v4 v0) 2))
          (cond (ltI (quoI .i64 (subI .i64 v4 v0) 2) 4)
           (Ln0 v0 v1 v2 v3 (addI .i64 v4 1) v5 (Vec.st v6 (quoI .i64 (subI .i64 v4 v0) 2) (orI .u64 (Vec.rd v6 (quoI .i64 (subI .i64 v4 v0) 2)) (shlI .u64 (cvI .u64 (lrd v2 v4)) (mulI .i64 32 (remI .i64 (subI .i64 v4 v0) 2))))))
           (none))
          (none)))
        (none))
       (none)))
     (none))
    (none))
   (some (v6, mulI .i64 32 v0, v1))
theorem step107_0 (N : Nat) (n : Nat) (v0 : Int) (v1 : Bool) (v2 : List Int) (v3 : Int) (v4 : Int) (v5 : Vec 4) (v6 : Vec 4) : raw107_0 N  (n + 1) v0 v1 v2 v3 v4 v5 v6 = s107_0 N (raw107_0 N  n) v0 v1 v2 v3 v4 v5 v6 := by kernel_rfl
noncomputable def l107_0 (N : Nat) : Nat → Int → Bool → List Int → Int → Int → Vec 4 → Vec 4 → Option (Vec 4 × Int × Bool)
  | 0 => fun _ _ _ _ _ _ _ => none
  | n + 1 => fun v0 v1 v2 v3 v4 v5 v6 => s107_0 N (l107_0 N  n) v0 v1 v2 v3 v4 v5 v6
theorem eq107_0 (N : Nat) : ∀ n, raw107_0 N  n = l107_0 N  n := by
  intro n
  induction n with
  | zero => exact funext fun v0 => funext fun v1 => funext fun v2 => funext fun v3 => funext fun v4 => funext fun v5 => funext fun v6 => rfl
  | succ n ih => exact funext fun v0 => funext fun v1 => funext fun v2 => funext fun v3 => funext fun v4 => funext fun v5 => funext fun v6 => by rw [step107_0, ih]; rfl
noncomputable def t107 (N : Nat) (Le0 : Int → Bool → List Int → Int → Int → Vec 4 → Vec 4 → Option (Vec 4 × Int × Bool)) (x0 : List Int) : Option (Vec 4 × Int × Bool) :=
  Le0 (subI .i64 (x0.length : Int) (minI (x0.length : Int) 7)) false x0 (x0.length : Int) 0 (Vec.zero 4) (Vec.zero 4)
noncomputable def fn_read_cut (N : Nat) (x0 : List Int) : Option (Vec 4 × Int × Bool) := t107 N (l107_0 N N) x0
theorem run107 (N : Nat) (x0 : List Int) : Eng.run T107 (G107 N) N live107 c107 Tryz.f107.results.toList Tryz.f107.ntmps ((ad107).enc (x0, ())) (rd107).dec = fn_read_cut N x0 := by
  refine Eq.trans (show _ = t107 N (raw107_0 N N) x0 from by kernel_rfl) ?_
  unfold fn_read_cut
  rw [eq107_0 N N]
noncomputable def F107 (N : Nat) (a : List Int × Unit) : Option (Vec 4 × Int × Bool) := fn_read_cut N a.1
theorem ok107 (N : Nat) : FnOK Tryz.prog 107 ad107 rd107 (F107 N) :=
  fn_ok (N := N) (live := live107) (code := c107) (tok T107.rt T107.kl (wrNil_ok)) mixed (gok107 N) Tryz.func107 (by kernel_rfl) (by kernel_rfl) (by kernel_rfl) fun a p h => by rw [← h]; exact run107 N a.1

/-! ### (tiller/read.number).ten: function 80 -/
noncomputable def c80 : Code := (Tryz.f80.body).getD .skip
noncomputable def T80 : Tb := ⟨tyOf tys, [(18, 1), (20, 1), (24, 1), (39, 1), (82, 1), (122, 1)], [], wrNil⟩
noncomputable def G80 {R : Type} (N : Nat) : FuncId → List AV → (AV → Option R) → Option R := gCons 32 (gOf ad32 rd32 (F32 N)) (gCons 104 (gOf ad104 rd104 (F104 N)) (gCons 105 (gOf ad105 rd105 (F105 N)) (gCons 106 (gOf ad106 rd106 (F106 N)) (gCons 107 (gOf ad107 rd107 (F107 N)) (gCons 67 (gOf ad67 rd67 (F67 N)) (gCons 92 (gOf ad92 rd92 (F92 N)) (gCons 99 (gOf ad99 rd99 (F99 N)) (gNil))))))))
theorem gok80 {R : Type} (N : Nat) : GOK Tryz.prog (G80 (R := R) N) := gCons_ok (ok32 N) (gCons_ok (ok104 N) (gCons_ok (ok105 N) (gCons_ok (ok106 N) (gCons_ok (ok107 N) (gCons_ok (ok67 N) (gCons_ok (ok92 N) (gCons_ok (ok99 N) (gNil_ok))))))))
noncomputable def live80 : List (Nat × List (Nat × HK)) := []
noncomputable def ad80 : Ad ((List Int × Int × Int × Bool) × Unit) := aC (cSt (fC (lLi .u8) (fC (lInt .i64) (fC (lInt .i64) (fO (lBool)))))) (a0)
noncomputable def rd80 : Rd ((Bool × Int × Vec 4 × Bool) × Option Int) := r2 (cSta (sC (pBool) (sC (pInt .i64) (sC (pVec .u64 4) (sO (pBool)))))) (cErr 83)
noncomputable def fn_read_number_ten (N : Nat) (x0 : (List Int × Int × Int × Bool)) : Option ((Bool × Int × Vec 4 × Bool) × Option Int) :=
  cond (ltI 400 (addI .i64 (addI .i64 x0.2.1 x0.2.2.1) (x0.1.length : Int)))
   ((fn_wide_Of N 1).bind fun r1 =>
    some ((false, 3200, r1, false), none))
   (cond (ltI (addI .i64 (addI .i64 x0.2.1 x0.2.2.1) (x0.1.length : Int)) (-400))
    ((fn_wide_Of N 1).bind fun r2 =>
     some ((false, (-3200), r2, false), none))
    ((fn_read_of N x0.1 10).bind fun r3 =>
     cond (!(isNoneI r3.2))
      (some ((false, 0, Vec.zero 4, false), r3.2))
      ((fn_nat_Pow N 10 (maxI (addI .i64 x0.2.1 x0.2.2.1) (subI .i64 0 (addI .i64 x0.2.1 x0.2.2.1)))).bind fun r4 =>
       cond (!(isNoneI r4.2))
        (some ((false, 0, Vec.zero 4, false), r4.2))
        (cond (leI 0 (addI .i64 x0.2.1 x0.2.2.1))
         ((fn_nat_Mul N r3.1 r4.1).bind fun r5 =>
          cond (!(isNoneI r5.2))
           (some ((false, 0, Vec.zero 4, false), r5.2))
           ((fn_read_cut N r5.1).bind fun r6 =>
            cond r6.2.2
             (some ((false, r6.2.1, r6.1, true), none))
             (some ((false, r6.2.1, r6.1, x0.2.2.2), none))))
         ((fn_nat_Len N r4.1).bind fun r7 =>
          (fn_nat_Len N r3.1).bind fun r8 =>
           (fn_nat_Shl N r3.1 (maxI (subI .i64 (addI .i64 200 r7) r8) 0)).bind fun r9 =>
            cond (!(isNoneI r9.2))
             (some ((false, 0, Vec.zero 4, false), r9.2))
             ((fn_nat_DivMod N r9.1 r4.1).bind fun r10 =>
              (fn_read_cut N r10.1).bind fun r11 =>
               cond r11.2.2
                (some ((false, subI .i64 r11.2.1 (maxI (subI .i64 (addI .i64 200 r7) r8) 0), r11.1, true), r10.2.2))
                (cond x0.2.2.2
                 (some ((false, subI .i64 r11.2.1 (maxI (subI .i64 (addI .i64 200 r7) r8) 0), r11.1, true), r10.2.2))
                 (some ((false, subI .i64 r11.2.1 (maxI (subI .i64 (addI .i64 200 r7) r8) 0), r11.1, ltI 0 (r10.2.1.length : Int)), r10.2.2)))))))))
theorem run80 (N : Nat) (x0 : (List Int × Int × Int × Bool)) : Eng.run T80 (G80 N) N live80 c80 Tryz.f80.results.toList Tryz.f80.ntmps ((ad80).enc (x0, ())) (rd80).dec = fn_read_number_ten N x0 := by kernel_rfl
noncomputable def F80 (N : Nat) (a : (List Int × Int × Int × Bool) × Unit) : Option ((Bool × Int × Vec 4 × Bool) × Option Int) := fn_read_number_ten N a.1
theorem ok80 (N : Nat) : FnOK Tryz.prog 80 ad80 rd80 (F80 N) :=
  fn_ok (N := N) (live := live80) (code := c80) (tok T80.rt T80.kl (wrNil_ok)) mixed (gok80 N) Tryz.func80 (by kernel_rfl) (by kernel_rfl) (by kernel_rfl) fun a p h => by rw [← h]; exact run80 N a.1

/-! ### (tiller/read.number).sixteen: function 81 -/
noncomputable def c81 : Code := (Tryz.f81.body).getD .skip
noncomputable def T81 : Tb := ⟨tyOf tys, [(10, 1), (21, 1), (24, 1), (32, 1)], [], wrNil⟩
noncomputable def G81 {R : Type} (N : Nat) : FuncId → List AV → (AV → Option R) → Option R := gCons 104 (gOf ad104 rd104 (F104 N)) (gCons 107 (gOf ad107 rd107 (F107 N)) (gNil))
theorem gok81 {R : Type} (N : Nat) : GOK Tryz.prog (G81 (R := R) N) := gCons_ok (ok104 N) (gCons_ok (ok107 N) (gNil_ok))
noncomputable def live81 : List (Nat × List (Nat × HK)) := []
noncomputable def ad81 : Ad ((List Int × Int × Int × Bool) × Unit) := aC (cSt (fC (lLi .u8) (fC (lInt .i64) (fC (lInt .i64) (fO (lBool)))))) (a0)
noncomputable def rd81 : Rd ((Bool × Int × Vec 4 × Bool) × Option Int) := r2 (cSta (sC (pBool) (sC (pInt .i64) (sC (pVec .u64 4) (sO (pBool)))))) (cErr 83)
noncomputable def fn_read_number_sixteen (N : Nat) (x0 : (List Int × Int × Int × Bool)) : Option ((Bool × Int × Vec 4 × Bool) × Option Int) :=
  (fn_read_of N x0.1 16).bind fun r1 =>
   (fn_read_cut N r1.1).bind fun r2 =>
    cond r2.2.2
     (some ((false, addI .i64 (addI .i64 (mulI .i64 4 x0.2.1) x0.2.2.1) r2.2.1, r2.1, true), r1.2))
     (some ((false, addI .i64 (addI .i64 (mulI .i64 4 x0.2.1) x0.2.2.1) r2.2.1, r2.1, x0.2.2.2), r1.2))
theorem run81 (N : Nat) (x0 : (List Int × Int × Int × Bool)) : Eng.run T81 (G81 N) N live81 c81 Tryz.f81.results.toList Tryz.f81.ntmps ((ad81).enc (x0, ())) (rd81).dec = fn_read_number_sixteen N x0 := by kernel_rfl
noncomputable def F81 (N : Nat) (a : (List Int × Int × Int × Bool) × Unit) : Option ((Bool × Int × Vec 4 × Bool) × Option Int) := fn_read_number_sixteen N a.1
theorem ok81 (N : Nat) : FnOK Tryz.prog 81 ad81 rd81 (F81 N) :=
  fn_ok (N := N) (live := live81) (code := c81) (tok T81.rt T81.kl (wrNil_ok)) mixed (gok81 N) Tryz.func81 (by kernel_rfl) (by kernel_rfl) (by kernel_rfl) fun a p h => by rw [← h]; exact run81 N a.1

/-! ### tiller/read.enough: function 82 -/
noncomputable def c82 : Code := (Tryz.f82.body).getD .skip
noncomputable def T82 : Tb := ⟨tyOf tys, [(4, 1), (8, 1), (14, 1), (18, 1), (22, 1), (23, 1)], [], wrNil⟩
noncomputable def G82 {R : Type} (N : Nat) : FuncId → List AV → (AV → Option R) → Option R := gCons 49 (gOf ad49 rd49 (F49 N)) (gCons 31 (gOf ad31 rd31 (F31 N)) (gNil))
theorem gok82 {R : Type} (N : Nat) : GOK Tryz.prog (G82 (R := R) N) := gCons_ok (ok49 N) (gCons_ok (ok31 N) (gNil_ok))
noncomputable def live82 : List (Nat × List (Nat × HK)) := []
noncomputable def ad82 : Ad ((Bool × Int × Vec 4 × Bool) × Unit) := aC (cSta (sC (pBool) (sC (pInt .i64) (sC (pVec .u64 4) (sO (pBool)))))) (a0)
noncomputable def rd82 : Rd ((Bool × Int × Vec 4 × Bool)) := r1 (cSta (sC (pBool) (sC (pInt .i64) (sC (pVec .u64 4) (sO (pBool))))))
noncomputable def fn_read_enough (N : Nat) (x0 : (Bool × Int × Vec 4 × Bool)) : Option ((Bool × Int × Vec 4 × Bool)) :=
  (fn_wide_Len N x0.2.2.1).bind fun r1 =>
   cond x0.2.2.2
    (cond (ltI 0 (subI .i64 200 r1))
     ((fn_wide_Shl N x0.2.2.1 (subI .i64 200 r1)).bind fun r2 =>
      some (x0.1, subI .i64 x0.2.1 (subI .i64 200 r1), r2, x0.2.2.2))
     (some (x0.1, x0.2.1, x0.2.2.1, x0.2.2.2)))
    (some (x0.1, x0.2.1, x0.2.2.1, x0.2.2.2))
theorem run82 (N : Nat) (x0 : (Bool × Int × Vec 4 × Bool)) : Eng.run T82 (G82 N) N live82 c82 Tryz.f82.results.toList Tryz.f82.ntmps ((ad82).enc (x0, ())) (rd82).dec = fn_read_enough N x0 := by kernel_rfl
noncomputable def F82 (N : Nat) (a : (Bool × Int × Vec 4 × Bool) × Unit) : Option ((Bool × Int × Vec 4 × Bool)) := fn_read_enough N a.1
theorem ok82 (N : Nat) : FnOK Tryz.prog 82 ad82 rd82 (F82 N) :=
  fn_ok (N := N) (live := live82) (code := c82) (tok T82.rt T82.kl (wrNil_ok)) mixed (gok82 N) Tryz.func82 (by kernel_rfl) (by kernel_rfl) (by kernel_rfl) fun a p h => by rw [← h]; exact run82 N a.1

/-! ### tiller/read.rounded: function 44 -/
noncomputable def c44 : Code := (Tryz.f44.body).getD .skip
noncomputable def T44 : Tb := ⟨tyOf tys, [(17, 4), (48, 13)], [], wrNil⟩
noncomputable def G44 {R : Type} (N : Nat) : FuncId → List AV → (AV → Option R) → Option R := gCons 21 (gOf ad21 rd21 (F21 N)) (gCons 80 (gOf ad80 rd80 (F80 N)) (gCons 81 (gOf ad81 rd81 (F81 N)) (gCons 82 (gOf ad82 rd82 (F82 N)) (gNil))))
theorem gok44 {R : Type} (N : Nat) : GOK Tryz.prog (G44 (R := R) N) := gCons_ok (ok21 N) (gCons_ok (ok80 N) (gCons_ok (ok81 N) (gCons_ok (ok82 N) (gNil_ok))))
noncomputable def live44 : List (Nat × List (Nat × HK)) := []
noncomputable def ad44 : Ad ((List Int × Int × Int × Bool) × Int × Bool × Int × Unit) := aC (cSt (fC (lLi .u8) (fC (lInt .i64) (fC (lInt .i64) (fO (lBool)))))) (aC (cInt .i64) (aC (cBool) (aC (cInt .i64) (a0))))
noncomputable def rd44 : Rd (Int × Int × Option Int) := r3 (cInt .u64) (cInt .u8) (cErr 83)
noncomputable def fn_read_rounded (N : Nat) (x0 : (List Int × Int × Int × Bool)) (x1 : Int) (x2 : Bool) (x3 : Int) : Option (Int × Int × Option Int) :=
  cond (eqI (x0.1.length : Int) 0)
   ((fn_rnd_Round N (x2, 0, Vec.zero 4, false) x3).bind fun r1 =>
    some (r1.1, r1.2, none))
   ((fn_read_number_ten N (x0.1, x0.2.1, x0.2.2.1, x0.2.2.2)).bind fun r2 =>
    cond (eqI x1 16)
     ((fn_read_number_sixteen N (x0.1, x0.2.1, x0.2.2.1, x0.2.2.2)).bind fun r3 =>
      cond (!(isNoneI r3.2))
       (some (0, 0, r3.2))
       ((fn_read_enough N (r3.1.1, r3.1.2.1, r3.1.2.2.1, r3.1.2.2.2)).bind fun r4 =>
        (fn_rnd_Round N (x2, r4.2.1, r4.2.2.1, r4.2.2.2) x3).bind fun r5 =>
         some (r5.1, r5.2, none)))
     (cond (!(isNoneI r2.2))
      (some (0, 0, r2.2))
      ((fn_read_enough N (r2.1.1, r2.1.2.1, r2.1.2.2.1, r2.1.2.2.2)).bind fun r6 =>
       (fn_rnd_Round N (x2, r6.2.1, r6.2.2.1, r6.2.2.2) x3).bind fun r7 =>
        some (r7.1, r7.2, none))))
theorem run44 (N : Nat) (x0 : (List Int × Int × Int × Bool)) (x1 : Int) (x2 : Bool) (x3 : Int) : Eng.run T44 (G44 N) N live44 c44 Tryz.f44.results.toList Tryz.f44.ntmps ((ad44).enc (x0, x1, x2, x3, ())) (rd44).dec = fn_read_rounded N x0 x1 x2 x3 := by kernel_rfl
noncomputable def F44 (N : Nat) (a : (List Int × Int × Int × Bool) × Int × Bool × Int × Unit) : Option (Int × Int × Option Int) := fn_read_rounded N a.1 a.2.1 a.2.2.1 a.2.2.2.1
theorem ok44 (N : Nat) : FnOK Tryz.prog 44 ad44 rd44 (F44 N) :=
  fn_ok (N := N) (live := live44) (code := c44) (tok T44.rt T44.kl (wrNil_ok)) mixed (gok44 N) Tryz.func44 (by kernel_rfl) (by kernel_rfl) (by kernel_rfl) fun a p h => by rw [← h]; exact run44 N a.1 a.2.1 a.2.2.1 a.2.2.2.1

/-! ### tiller/read.Parse: function 13 -/
noncomputable def c13 : Code := (Tryz.f13.body).getD .skip
noncomputable def T13 : Tb := ⟨tyOf tys, [], [], wrNil⟩
noncomputable def G13 {R : Type} (N : Nat) : FuncId → List AV → (AV → Option R) → Option R := gCons 40 (gOf ad40 rd40 (F40 N)) (gCons 41 (gOf ad41 rd41 (F41 N)) (gCons 42 (gOf ad42 rd42 (F42 N)) (gCons 43 (gOf (aC cStr (aC (cInt .i64) (aC cStr (aC cBool a0)))) (r2 (cSt (fC (lLi .u8) (fC (lInt .i64) (fC (lInt .i64) (fO lBool))))) cBool) (fun a => fn_scan N a.1 a.2.1 a.2.2.1 a.2.2.2.1)) (gCons 44 (gOf ad44 rd44 (F44 N)) (gNil)))))
theorem gok13 {R : Type} (N : Nat) : GOK Tryz.prog (G13 (R := R) N) := gCons_ok (ok40 N) (gCons_ok (ok41 N) (gCons_ok (ok42 N) (gCons_ok (scan_ok N) (gCons_ok (ok44 N) (gNil_ok)))))
noncomputable def live13 : List (Nat × List (Nat × HK)) := []
noncomputable def ad13 : Ad (ByteArray × Int × Unit) := aC (cStr) (aC (cInt .i64) (a0))
noncomputable def rd13 : Rd (Int × Int × Option Int) := r3 (cInt .u64) (cInt .u8) (cErr 83)
noncomputable def fn_read_Parse (N : Nat) (x0 : ByteArray) (x1 : Int) : Option (Int × Int × Option Int) :=
  cond (ltI 65536 (x0.size : Int))
   (some (0, 0, some 2))
   ((fn_strings_HasPrefix N x0 (⟨#[45]⟩ : ByteArray)).bind fun r1 =>
    cond r1
     (cond (((leI 0 1) && (leI 1 (x0.size : Int))) && (leI (x0.size : Int) (x0.size : Int)))
      (cond (eqS (x0.extract ((1 : Int).toNat) ((x0.size : Int).toNat)) (⟨#[105, 110, 102]⟩ : ByteArray))
       (cond r1
        ((fn_pat_Neg N 9218868437227405312).bind fun r2 =>
         some (r2, 0, none))
        (some (9218868437227405312, 0, none)))
       (cond (eqS (x0.extract ((1 : Int).toNat) ((x0.size : Int).toNat)) (⟨#[110, 97, 110]⟩ : ByteArray))
        (some (9221120237041090560, 0, none))
        ((fn_strings_CutPrefix N (x0.extract ((1 : Int).toNat) ((x0.size : Int).toNat)) (⟨#[48, 120]⟩ : ByteArray)).bind fun r3 =>
         cond r3.2
          ((fn_scan N r3.1 16 (⟨#[112]⟩ : ByteArray) (eqI 16 16)).bind fun r4 =>
           cond (!(r4.2))
            (some (0, 0, some 3))
            ((fn_read_rounded N (r4.1.1, r4.1.2.1, r4.1.2.2.1, r4.1.2.2.2) 16 r1 x1).bind fun r5 =>
             some (r5.1, r5.2.1, r5.2.2)))
          ((fn_scan N (x0.extract ((1 : Int).toNat) ((x0.size : Int).toNat)) 10 (⟨#[101]⟩ : ByteArray) (eqI 10 16)).bind fun r6 =>
           cond (!(r6.2))
            (some (0, 0, some 3))
            ((fn_read_rounded N (r6.1.1, r6.1.2.1, r6.1.2.2.1, r6.1.2.2.2) 10 r1 x1).bind fun r7 =>
             some (r7.1, r7.2.1, r7.2.2))))))
      (none))
     ((fn_strings_HasPrefix N x0 (⟨#[43]⟩ : ByteArray)).bind fun r8 =>
      cond r8
       (cond (((leI 0 1) && (leI 1 (x0.size : Int))) && (leI (x0.size : Int) (x0.size : Int)))
        (cond (eqS (x0.extract ((1 : Int).toNat) ((x0.size : Int).toNat)) (⟨#[105, 110, 102]⟩ : ByteArray))
         (cond r1
          ((fn_pat_Neg N 9218868437227405312).bind fun r9 =>
           some (r9, 0, none))
          (some (9218868437227405312, 0, none)))
         (cond (eqS (x0.extract ((1 : Int).toNat) ((x0.size : Int).toNat)) (⟨#[110, 97, 110]⟩ : ByteArray))
          (some (9221120237041090560, 0, none))
          ((fn_strings_CutPrefix N (x0.extract ((1 : Int).toNat) ((x0.size : Int).toNat)) (⟨#[48, 120]⟩ : ByteArray)).bind fun r10 =>
           cond r10.2
            ((fn_scan N r10.1 16 (⟨#[112]⟩ : ByteArray) (eqI 16 16)).bind fun r11 =>
             cond (!(r11.2))
              (some (0, 0, some 3))
              ((fn_read_rounded N (r11.1.1, r11.1.2.1, r11.1.2.2.1, r11.1.2.2.2) 16 r1 x1).bind fun r12 =>
               some (r12.1, r12.2.1, r12.2.2)))
            ((fn_scan N (x0.extract ((1 : Int).toNat) ((x0.size : Int).toNat)) 10 (⟨#[101]⟩ : ByteArray) (eqI 10 16)).bind fun r13 =>
             cond (!(r13.2))
              (some (0, 0, some 3))
              ((fn_read_rounded N (r13.1.1, r13.1.2.1, r13.1.2.2.1, r13.1.2.2.2) 10 r1 x1).bind fun r14 =>
               some (r14.1, r14.2.1, r14.2.2))))))
        (none))
       (cond (eqS x0 (⟨#[105, 110, 102]⟩ : ByteArray))
        (cond r1
         ((fn_pat_Neg N 9218868437227405312).bind fun r15 =>
          some (r15, 0, none))
         (some (9218868437227405312, 0, none)))
        (cond (eqS x0 (⟨#[110, 97, 110]⟩ : ByteArray))
         (some (9221120237041090560, 0, none))
         ((fn_strings_CutPrefix N x0 (⟨#[48, 120]⟩ : ByteArray)).bind fun r16 =>
          cond r16.2
           ((fn_scan N r16.1 16 (⟨#[112]⟩ : ByteArray) (eqI 16 16)).bind fun r17 =>
            cond (!(r17.2))
             (some (0, 0, some 3))
             ((fn_read_rounded N (r17.1.1, r17.1.2.1, r17.1.2.2.1, r17.1.2.2.2) 16 r1 x1).bind fun r18 =>
              some (r18.1, r18.2.1, r18.2.2)))
           ((fn_scan N x0 10 (⟨#[101]⟩ : ByteArray) (eqI 10 16)).bind fun r19 =>
            cond (!(r19.2))
             (some (0, 0, some 3))
             ((fn_read_rounded N (r19.1.1, r19.1.2.1, r19.1.2.2.1, r19.1.2.2.2) 10 r1 x1).bind fun r20 =>
              some (r20.1, r20.2.1, r20.2.2))))))))
theorem run13 (N : Nat) (x0 : ByteArray) (x1 : Int) : Eng.run T13 (G13 N) N live13 c13 Tryz.f13.results.toList Tryz.f13.ntmps ((ad13).enc (x0, x1, ())) (rd13).dec = fn_read_Parse N x0 x1 := by kernel_rfl
noncomputable def F13 (N : Nat) (a : ByteArray × Int × Unit) : Option (Int × Int × Option Int) := fn_read_Parse N a.1 a.2.1
theorem ok13 (N : Nat) : FnOK Tryz.prog 13 ad13 rd13 (F13 N) :=
  fn_ok (N := N) (live := live13) (code := c13) (tok T13.rt T13.kl (wrNil_ok)) mixed (gok13 N) Tryz.func13 (by kernel_rfl) (by kernel_rfl) (by kernel_rfl) fun a p h => by rw [← h]; exact run13 N a.1 a.2.1

/-! ### tiller/tillertop.sure: function 5 -/
noncomputable def c5 : Code := (Tryz.f5.body).getD .skip
noncomputable def T5 : Tb := ⟨tyOf tys, [], [], wrNil⟩
noncomputable def G5 {R : Type} (N : Nat) : FuncId → List AV → (AV → Option R) → Option R := gCons 7 (gOf ad7 rd7 (F7 N)) (gCons 12 (gOf ad12 rd12 (F12 N)) (gCons 13 (gOf ad13 rd13 (F13 N)) (gNil)))
theorem gok5 {R : Type} (N : Nat) : GOK Tryz.prog (G5 (R := R) N) := gCons_ok (ok7 N) (gCons_ok (ok12 N) (gCons_ok (ok13 N) (gNil_ok)))
noncomputable def live5 : List (Nat × List (Nat × HK)) := []
noncomputable def ad5 : Ad (Unit) := a0
noncomputable def rd5 : Rd (Bool) := r1 (cBool)
noncomputable def fn_tillertop_sure (N : Nat)  : Option (Bool) :=
  (fn_sums_Add N 4607182418800017408 4607182418800017408 0).bind fun r1 =>
   (fn_show_Short N r1.1).bind fun r2 =>
    (fn_read_Parse N r2 0).bind fun r3 =>
     cond (eqI r1.1 4611686018427387904)
      (cond (eqI r1.2 0)
       (cond (eqS r2 (⟨#[50, 101, 48]⟩ : ByteArray))
        (cond (eqI r3.1 r1.1)
         (some (isNoneI r3.2.2))
         (some false))
        (some false))
       (some false))
      (some false)
theorem run5 (N : Nat)  : Eng.run T5 (G5 N) N live5 c5 Tryz.f5.results.toList Tryz.f5.ntmps ((ad5).enc (())) (rd5).dec = fn_tillertop_sure N  := by kernel_rfl
noncomputable def F5 (N : Nat) (a : Unit) : Option (Bool) := fn_tillertop_sure N 
theorem ok5 (N : Nat) : FnOK Tryz.prog 5 ad5 rd5 (F5 N) :=
  fn_ok (N := N) (live := live5) (code := c5) (tok T5.rt T5.kl (wrNil_ok)) mixed (gok5 N) Tryz.func5 (by kernel_rfl) (by kernel_rfl) (by kernel_rfl) fun a p h => by rw [← h]; exact run5 N 

/-! ### tiller/order.loud: function 15 -/
noncomputable def c15 : Code := (Tryz.f15.body).getD .skip
noncomputable def T15 : Tb := ⟨tyOf tys, [], [], wrNil⟩
noncomputable def G15 {R : Type} (N : Nat) : FuncId → List AV → (AV → Option R) → Option R := gCons 19 (gOf ad19 rd19 (F19 N)) (gNil)
theorem gok15 {R : Type} (N : Nat) : GOK Tryz.prog (G15 (R := R) N) := gCons_ok (ok19 N) (gNil_ok)
noncomputable def live15 : List (Nat × List (Nat × HK)) := []
noncomputable def ad15 : Ad (Int × Int × Unit) := aC (cInt .u64) (aC (cInt .u64) (a0))
noncomputable def rd15 : Rd (Int) := r1 (cInt .u8)
noncomputable def fn_order_loud (N : Nat) (x0 : Int) (x1 : Int) : Option (Int) :=
  (fn_pat_Class N x0).bind fun r1 =>
   cond (eqI r1 5)
    (some 1)
    ((fn_pat_Class N x1).bind fun r2 =>
     cond (eqI r2 5)
      (some 1)
      (some 0))
theorem run15 (N : Nat) (x0 : Int) (x1 : Int) : Eng.run T15 (G15 N) N live15 c15 Tryz.f15.results.toList Tryz.f15.ntmps ((ad15).enc (x0, x1, ())) (rd15).dec = fn_order_loud N x0 x1 := by kernel_rfl
noncomputable def F15 (N : Nat) (a : Int × Int × Unit) : Option (Int) := fn_order_loud N a.1 a.2.1
theorem ok15 (N : Nat) : FnOK Tryz.prog 15 ad15 rd15 (F15 N) :=
  fn_ok (N := N) (live := live15) (code := c15) (tok T15.rt T15.kl (wrNil_ok)) mixed (gok15 N) Tryz.func15 (by kernel_rfl) (by kernel_rfl) (by kernel_rfl) fun a p h => by rw [← h]; exact run15 N a.1 a.2.1

/-! ### tiller/order.key: function 17 -/
noncomputable def c17 : Code := (Tryz.f17.body).getD .skip
noncomputable def T17 : Tb := ⟨tyOf tys, [], [], wrNil⟩
noncomputable def G17 {R : Type} (N : Nat) : FuncId → List AV → (AV → Option R) → Option R := gCons 16 (gOf ad16 rd16 (F16 N)) (gNil)
theorem gok17 {R : Type} (N : Nat) : GOK Tryz.prog (G17 (R := R) N) := gCons_ok (ok16 N) (gNil_ok)
noncomputable def live17 : List (Nat × List (Nat × HK)) := []
noncomputable def ad17 : Ad (Int × Unit) := aC (cInt .u64) (a0)
noncomputable def rd17 : Rd (Int) := r1 (cInt .i64)
noncomputable def fn_order_key (N : Nat) (x0 : Int) : Option (Int) :=
  cond (!(eqI (andI .u64 x0 9223372036854775808) 0))
   ((fn_pat_Abs N x0).bind fun r1 =>
    some (subI .i64 (subI .i64 0 (cvI .i64 r1)) 1))
   (some (cvI .i64 x0))
theorem run17 (N : Nat) (x0 : Int) : Eng.run T17 (G17 N) N live17 c17 Tryz.f17.results.toList Tryz.f17.ntmps ((ad17).enc (x0, ())) (rd17).dec = fn_order_key N x0 := by kernel_rfl
noncomputable def F17 (N : Nat) (a : Int × Unit) : Option (Int) := fn_order_key N a.1
theorem ok17 (N : Nat) : FnOK Tryz.prog 17 ad17 rd17 (F17 N) :=
  fn_ok (N := N) (live := live17) (code := c17) (tok T17.rt T17.kl (wrNil_ok)) mixed (gok17 N) Tryz.func17 (by kernel_rfl) (by kernel_rfl) (by kernel_rfl) fun a p h => by rw [← h]; exact run17 N a.1

/-! ### tiller/order.Compare: function 6 -/
noncomputable def c6 : Code := (Tryz.f6.body).getD .skip
noncomputable def T6 : Tb := ⟨tyOf tys, [], [], wrNil⟩
noncomputable def G6 {R : Type} (N : Nat) : FuncId → List AV → (AV → Option R) → Option R := gCons 14 (gOf ad14 rd14 (F14 N)) (gCons 15 (gOf ad15 rd15 (F15 N)) (gCons 16 (gOf ad16 rd16 (F16 N)) (gCons 17 (gOf ad17 rd17 (F17 N)) (gNil))))
theorem gok6 {R : Type} (N : Nat) : GOK Tryz.prog (G6 (R := R) N) := gCons_ok (ok14 N) (gCons_ok (ok15 N) (gCons_ok (ok16 N) (gCons_ok (ok17 N) (gNil_ok))))
noncomputable def live6 : List (Nat × List (Nat × HK)) := []
noncomputable def ad6 : Ad (Int × Int × Unit) := aC (cInt .u64) (aC (cInt .u64) (a0))
noncomputable def rd6 : Rd (Int × Int) := r2 (cInt .i64) (cInt .u8)
noncomputable def fn_order_Compare (N : Nat) (x0 : Int) (x1 : Int) : Option (Int × Int) :=
  (fn_pat_IsNaN N x0).bind fun r1 =>
   cond r1
    ((fn_order_loud N x0 x1).bind fun r2 =>
     some (2, r2))
    ((fn_pat_IsNaN N x1).bind fun r3 =>
     cond r3
      ((fn_order_loud N x0 x1).bind fun r4 =>
       some (2, r4))
      ((fn_pat_Abs N x0).bind fun r5 =>
       (fn_pat_Abs N x1).bind fun r6 =>
        cond (eqI (orI .u64 r5 r6) 0)
         (some (0, 0))
         (cond (eqI x0 x1)
          (some (0, 0))
          ((fn_order_key N x0).bind fun r7 =>
           (fn_order_key N x1).bind fun r8 =>
            cond (ltI r7 r8)
             (some ((-1), 0))
             (some (1, 0))))))
theorem run6 (N : Nat) (x0 : Int) (x1 : Int) : Eng.run T6 (G6 N) N live6 c6 Tryz.f6.results.toList Tryz.f6.ntmps ((ad6).enc (x0, x1, ())) (rd6).dec = fn_order_Compare N x0 x1 := by kernel_rfl
noncomputable def F6 (N : Nat) (a : Int × Int × Unit) : Option (Int × Int) := fn_order_Compare N a.1 a.2.1
theorem ok6 (N : Nat) : FnOK Tryz.prog 6 ad6 rd6 (F6 N) :=
  fn_ok (N := N) (live := live6) (code := c6) (tok T6.rt T6.kl (wrNil_ok)) mixed (gok6 N) Tryz.func6 (by kernel_rfl) (by kernel_rfl) (by kernel_rfl) fun a p h => by rw [← h]; exact run6 N a.1 a.2.1
end Go.Proofs.YtidoegjemkdnlaaGreatDoor.Fns

/- Go functions as plain Lean functions, and the engine's run of each. No statement is proved here. Laid by eng.py. -/
import Derived.Test.YtopcajgknbmbcaaGreatDoorFn1
namespace Go.Proofs.YtopcajgknbmbcaaGreatDoor.Fns
open Go Go.RowKit Go.Proofs Go.Proofs.YtopcajgknbmbcaaGreatDoor.Eng Go.Proofs.YtopcajgknbmbcaaGreatDoor.Num Go.Proofs.YtopcajgknbmbcaaGreatDoor.Slc
set_option linter.unusedVariables false
set_option maxRecDepth 100000
/-! ### tiller/nat.Decimal: function 113 -/
noncomputable def c113 : Code := (Tryz.f113.body).getD .skip
noncomputable def T113 : Tb := ⟨tyOf tys, [(44, 4)], [52], wrCons 130 revW (wrNil)⟩
noncomputable def G113 {R : Type} (N : Nat) : FuncId → List AV → (AV → Option R) → Option R := gCons 106 (gOf ad106 rd106 (F106 N)) (gCons 128 (gOf (aC (cLi .u32) a0) (r1 (cLi .u32)) (fun a => fn_slices_Clone N a.1)) (gCons 129 (gOf ad129 rd129 (F129 N)) (gNil)))
theorem gok113 {R : Type} (N : Nat) : GOK Tryz.prog (G113 (R := R) N) := gCons_ok (ok106 N) (gCons_ok (clone_ok N) (gCons_ok (ok129 N) (gNil_ok)))
noncomputable def live113 : List (Nat × List (Nat × HK)) := [(5, [(4, .row .u8 5), (5, .keep), (40, .keep), (41, .keep), (42, .keep), (43, .keep), (44, .keep), (45, .keep), (46, .keep)]), (8, [(4, .row .u8 5), (6, .keep), (7, .keep), (23, .keep), (40, .keep), (41, .keep), (42, .keep), (43, .keep), (44, .keep), (45, .keep), (46, .keep)]), (13, [(4, .row .u8 5), (40, .keep), (41, .keep), (44, .keep)])]
noncomputable def ad113 : Ad (List Int × Unit) := aC (cLi .u32) (a0)
noncomputable def rd113 : Rd (ByteArray × Option Int) := r2 (cStr) (cErr 92)
noncomputable def st113_0 (v0 : List Int) (v1 : List Int) : St := ⟨[AV.none, AV.none, AV.none, AV.none, AV.own 4, AV.li .u32 v0, AV.none, AV.none, AV.none, AV.none, AV.none, AV.none, AV.none, AV.none, AV.none, AV.none, AV.none, AV.none, AV.none, AV.none, AV.none, AV.none, AV.none, AV.none, AV.none, AV.none, AV.none, AV.none, AV.none, AV.none, AV.none, AV.none, AV.none, AV.none, AV.none, AV.none, AV.none, AV.none, AV.none, AV.none, AV.none, AV.none, AV.none, AV.none, AV.none, AV.none, AV.none, AV.none, AV.none, AV.none, AV.none, AV.none, AV.none, AV.none, AV.none, AV.none, AV.none, AV.none, AV.none, AV.none], [none, none, none, none, some (OB.row .u8 5 v1), none, none, none, none, none, none, none, none, none, none, none, none, none, none, none, none, none, none, none, none, none, none, none, none, none, none, none, none, none, none, none, none, none, none, none, none, none, none, none, none, none, none, none, none, none, none, none, none, none, none, none, none, none, none, none]⟩
noncomputable def raw113_0 (N : Nat) (n : Nat) (v0 : List Int) (v1 : List Int) : Option (ByteArray × Option Int) := loopN (lookN live113 5) (exec T113 (G113 N) N live113 (cL (cL (cR (cL (cR (cR (cR c113)))))))) n (st113_0 v0 v1) (blockK 0 (seqK (exec T113 (G113 N) N live113 (cR (cR (cR (cR c113))))) (retK T113 Tryz.f113.results.toList (rd113).dec)))
noncomputable def st113_1 (v0 : List Int) (v1 : Int) (v2 : Int) (v3 : List Int) : St := ⟨[AV.none, AV.none, AV.none, AV.none, AV.own 4, AV.none, AV.li .u32 v0, AV.v (.int .u32 v1), AV.none, AV.none, AV.none, AV.none, AV.none, AV.none, AV.none, AV.none, AV.none, AV.none, AV.none, AV.none, AV.none, AV.none, AV.none, AV.v (.int .i64 v2), AV.none, AV.none, AV.none, AV.none, AV.none, AV.none, AV.none, AV.none, AV.none, AV.none, AV.none, AV.none, AV.none, AV.none, AV.none, AV.none, AV.none, AV.none, AV.none, AV.none, AV.none, AV.none, AV.none, AV.none, AV.none, AV.none, AV.none, AV.none, AV.none, AV.none, AV.none, AV.none, AV.none, AV.none, AV.none, AV.none], [none, none, none, none, some (OB.row .u8 5 v3), none, none, none, none, none, none, none, none, none, none, none, none, none, none, none, none, none, none, none, none, none, none, none, none, none, none, none, none, none, none, none, none, none, none, none, none, none, none, none, none, none, none, none, none, none, none, none, none, none, none, none, none, none, none, none]⟩
noncomputable def raw113_1 (N : Nat) (m0 : Nat) (n : Nat) (v0 : List Int) (v1 : Int) (v2 : Int) (v3 : List Int) : Option (ByteArray × Option Int) := loopN (lookN live113 8) (exec T113 (G113 N) N live113 (cL (cL (cR (cL (cR (cL (cR (cL (cL (cR (cL (cR (cR (cR c113))))))))))))))) n (st113_1 v0 v1 v2 v3) (blockK 2 (seqK (exec T113 (G113 N) N live113 (cR (cR (cL (cR (cL (cL (cR (cL (cR (cR (cR c113)))))))))))) (blockK 1 (roundK (fun s => loopN (lookN live113 5) (exec T113 (G113 N) N live113 (cL (cL (cR (cL (cR (cR (cR c113)))))))) m0 s (blockK 0 (seqK (exec T113 (G113 N) N live113 (cR (cR (cR (cR c113))))) (retK T113 Tryz.f113.results.toList (rd113).dec)))) (lookN live113 5) (blockK 0 (seqK (exec T113 (G113 N) N live113 (cR (cR (cR (cR c113))))) (retK T113 Tryz.f113.results.toList (rd113).dec)))))))
noncomputable def st113_2 (v0 : List Int) : St := ⟨[AV.none, AV.none, AV.none, AV.none, AV.own 4, AV.none, AV.none, AV.none, AV.none, AV.none, AV.none, AV.none, AV.none, AV.none, AV.none, AV.none, AV.none, AV.none, AV.none, AV.none, AV.none, AV.none, AV.none, AV.none, AV.none, AV.none, AV.none, AV.none, AV.none, AV.none, AV.none, AV.none, AV.none, AV.none, AV.none, AV.none, AV.none, AV.none, AV.none, AV.none, AV.none, AV.none, AV.none, AV.none, AV.none, AV.none, AV.none, AV.none, AV.none, AV.none, AV.none, AV.none, AV.none, AV.none, AV.none, AV.none, AV.none, AV.none, AV.none, AV.none], [none, none, none, none, some (OB.row .u8 5 v0), none, none, none, none, none, none, none, none, none, none, none, none, none, none, none, none, none, none, none, none, none, none, none, none, none, none, none, none, none, none, none, none, none, none, none, none, none, none, none, none, none, none, none, none, none, none, none, none, none, none, none, none, none, none, none]⟩
noncomputable def raw113_2 (N : Nat) (n : Nat) (v0 : List Int) : Option (ByteArray × Option Int) := loopN (lookN live113 13) (exec T113 (G113 N) N live113 (cL (cL (cL (cR (cR (cR (cR c113)))))))) n (st113_2 v0) (blockK 4 (seqK (exec T113 (G113 N) N live113 (cR (cR (cR (cR (cR c113)))))) (retK T113 Tryz.f113.results.toList (rd113).dec)))
noncomputable def s113_1 (N : Nat) (Ln1 : List Int → Int → Int → List Int → Option (ByteArray × Option Int)) (Ln0 : List Int → List Int → Option (ByteArray × Option Int)) (v0 : List Int) (v1 : Int) (v2 : Int) (v3 : List Int) : Option (ByteArray × Option Int) :=
  cond (ltI v2 9)
   (cond (fitL (v3.length + [cvI .u8 (addI .u32 48 (remI .u32 v1 10))].length))
    (Ln1 v0 (quoI .u32 v1 10) (addI .i64 v2 1) (v3 ++ [cvI .u8 (addI .u32 48 (remI .u32 v1 10))]))
    (none))
   (Ln0 v0 v3)
theorem step113_1 (N : Nat) (m0 : Nat) (n : Nat) (v0 : List Int) (v1 : Int) (v2 : Int) (v3 : List Int) : raw113_1 N m0 (n + 1) v0 v1 v2 v3 = s113_1 N (raw113_1 N m0 n) (raw113_0 N  m0) v0 v1 v2 v3 := by kernel_rfl
noncomputable def l113_1 (N : Nat) (E0 : List Int → List Int → Option (ByteArray × Option Int)) : Nat → List Int → Int → Int → List Int → Option (ByteArray × Option Int)
  | 0 => fun _ _ _ _ => none
  | n + 1 => fun v0 v1 v2 v3 => s113_1 N (l113_1 N E0 n) E0 v0 v1 v2 v3
theorem eq113_1 (N : Nat) (m0 : Nat) : ∀ n, raw113_1 N m0 n = l113_1 N (raw113_0 N  m0) n := by
  intro n
  induction n with
  | zero => exact funext fun v0 => funext fun v1 => funext fun v2 => funext fun v3 => rfl
  | succ n ih => exact funext fun v0 => funext fun v1 => funext fun v2 => funext fun v3 => by rw [step113_1, ih]; rfl
noncomputable def s113_2 (N : Nat) (Ln2 : List Int → Option (ByteArray × Option Int)) (v0 : List Int) : Option (ByteArray × Option Int) :=
  cond (ltI 1 (v0.length : Int))
   (cond (leI 0 (subI .i64 (v0.length : Int) 1))
    (cond (ltI (subI .i64 (v0.length : Int) 1) (v0.length : Int))
     (cond (eqI (lrd v0 (subI .i64 (v0.length : Int) 1)) 48)
      (cond ((leI 0 (subI .i64 (v0.length : Int) 1)) && (leI (subI .i64 (v0.length : Int) 1) (v0.length : Int)))
       (Ln2 (v0.take ((subI .i64 (v0.length : Int) 1).toNat)))
       (none))
      (cond (eqI (v0.length : Int) 0)
       (some ((⟨#[48]⟩ : ByteArray), none))
       (some (bstr (List.reverse v0), none))))
     (none))
    (none))
   (cond (eqI (v0.length : Int) 0)
    (some ((⟨#[48]⟩ : ByteArray), none))
    (some (bstr (List.reverse v0), none)))
theorem step113_2 (N : Nat) (n : Nat) (v0 : List Int) : raw113_2 N  (n + 1) v0 = s113_2 N (raw113_2 N  n) v0 := by kernel_rfl
noncomputable def l113_2 (N : Nat) : Nat → List Int → Option (ByteArray × Option Int)
  | 0 => fun _ => none
  | n + 1 => fun v0 => s113_2 N (l113_2 N  n) v0
theorem eq113_2 (N : Nat) : ∀ n, raw113_2 N  n = l113_2 N  n := by
  intro n
  induction n with
  | zero => exact funext fun v0 => rfl
  | succ n ih => exact funext fun v0 => by rw [step113_2, ih]; rfl
noncomputable def s113_0 (N : Nat) (Le1 : List Int → Int → Int → List Int → Option (ByteArray × Option Int)) (Le2 : List Int → Option (ByteArray × Option Int)) (v0 : List Int) (v1 : List Int) : Option (ByteArray × Option Int) :=
  cond (ltI 0 (v0.length : Int))
   ((fn_nat_short N v0 1000000000).bind fun r3 =>
    Le1 r3.1 r3.2 0 v1)
   (Le2 v1)
theorem step113_0 (N : Nat) (n : Nat) (v0 : List Int) (v1 : List Int) : raw113_0 N  (n + 1) v0 v1 = s113_0 N (raw113_1 N n N) (raw113_2 N  N) v0 v1 := by kernel_rfl
noncomputable def l113_0 (N : Nat) : Nat → List Int → List Int → Option (ByteArray × Option Int)
  | 0 => fun _ _ => none
  | n + 1 => fun v0 v1 => s113_0 N (l113_1 N (l113_0 N  n) N) (l113_2 N  N) v0 v1
theorem eq113_0 (N : Nat) : ∀ n, raw113_0 N  n = l113_0 N  n := by
  intro n
  induction n with
  | zero => exact funext fun v0 => funext fun v1 => rfl
  | succ n ih => exact funext fun v0 => funext fun v1 => by rw [step113_0, eq113_1 N n N, eq113_2 N  N, ih]; rfl
noncomputable def t113 (N : Nat) (Le0 : List Int → List Int → Option (ByteArray × Option Int)) (x0 : List Int) : Option (ByteArray × Option Int) :=
  (fn_nat_Check N x0).bind fun r1 =>
   cond (!(isNoneI r1))
    (some ((⟨#[]⟩ : ByteArray), some 1))
    ((fn_slices_Clone N x0).bind fun r2 =>
     Le0 r2 [])
noncomputable def fn_nat_Decimal (N : Nat) (x0 : List Int) : Option (ByteArray × Option Int) := t113 N (l113_0 N N) x0
theorem run113 (N : Nat) (x0 : List Int) : Eng.run T113 (G113 N) N live113 c113 Tryz.f113.results.toList Tryz.f113.ntmps ((ad113).enc (x0, ())) (rd113).dec = fn_nat_Decimal N x0 := by
  refine Eq.trans (show _ = t113 N (raw113_0 N N) x0 from by kernel_rfl) ?_
  unfold fn_nat_Decimal
  rw [eq113_0 N N]
noncomputable def F113 (N : Nat) (a : List Int × Unit) : Option (ByteArray × Option Int) := fn_nat_Decimal N a.1
theorem ok113 (N : Nat) : FnOK Tryz.prog 113 ad113 rd113 (F113 N) :=
  fn_ok (N := N) (live := live113) (code := c113) (tok T113.rt T113.kl (wrCons_ok (rev_ok) (wrNil_ok))) mixed (gok113 N) Tryz.func113 (by kernel_rfl) (by kernel_rfl) (by kernel_rfl) fun a p h => by rw [← h]; exact run113 N a.1

/-! ### math/bits.Mul32: function 144 -/
noncomputable def c144 : Code := (Tryz.f144.body).getD .skip
noncomputable def T144 : Tb := ⟨tyOf tys, [], [], wrNil⟩
noncomputable def G144 {R : Type} (N : Nat) : FuncId → List AV → (AV → Option R) → Option R := gNil
theorem gok144 {R : Type} (N : Nat) : GOK Tryz.prog (G144 (R := R) N) := gNil_ok
noncomputable def live144 : List (Nat × List (Nat × HK)) := []
noncomputable def ad144 : Ad (Int × Int × Unit) := aC (cInt .u32) (aC (cInt .u32) (a0))
noncomputable def rd144 : Rd (Int × Int) := r2 (cInt .u32) (cInt .u32)
noncomputable def fn_bits_Mul32 (N : Nat) (x0 : Int) (x1 : Int) : Option (Int × Int) :=
  some (cvI .u32 (shrI .u64 (mulI .u64 (cvI .u64 x0) (cvI .u64 x1)) 32), cvI .u32 (mulI .u64 (cvI .u64 x0) (cvI .u64 x1)))
theorem run144 (N : Nat) (x0 : Int) (x1 : Int) : Eng.run T144 (G144 N) N live144 c144 Tryz.f144.results.toList Tryz.f144.ntmps ((ad144).enc (x0, x1, ())) (rd144).dec = fn_bits_Mul32 N x0 x1 := by kernel_rfl
noncomputable def F144 (N : Nat) (a : Int × Int × Unit) : Option (Int × Int) := fn_bits_Mul32 N a.1 a.2.1
theorem ok144 (N : Nat) : FnOK Tryz.prog 144 ad144 rd144 (F144 N) :=
  fn_ok (N := N) (live := live144) (code := c144) (tok T144.rt T144.kl (wrNil_ok)) mixed (gok144 N) Tryz.func144 (by kernel_rfl) (by kernel_rfl) (by kernel_rfl) fun a p h => by rw [← h]; exact run144 N a.1 a.2.1

/-! ### math/bits.Mul64: function 101 -/
noncomputable def c101 : Code := (Tryz.f101.body).getD .skip
noncomputable def T101 : Tb := ⟨tyOf tys, [], [], wrNil⟩
noncomputable def G101 {R : Type} (N : Nat) : FuncId → List AV → (AV → Option R) → Option R := gNil
theorem gok101 {R : Type} (N : Nat) : GOK Tryz.prog (G101 (R := R) N) := gNil_ok
noncomputable def live101 : List (Nat × List (Nat × HK)) := []
noncomputable def ad101 : Ad (Int × Int × Unit) := aC (cInt .u64) (aC (cInt .u64) (a0))
noncomputable def rd101 : Rd (Int × Int) := r2 (cInt .u64) (cInt .u64)
noncomputable def fn_bits_Mul64 (N : Nat) (x0 : Int) (x1 : Int) : Option (Int × Int) :=
  some (addI .u64 (addI .u64 (mulI .u64 (shrI .u64 x0 32) (shrI .u64 x1 32)) (shrI .u64 (addI .u64 (mulI .u64 (shrI .u64 x0 32) (andI .u64 x1 4294967295)) (shrI .u64 (mulI .u64 (andI .u64 x0 4294967295) (andI .u64 x1 4294967295)) 32)) 32)) (shrI .u64 (addI .u64 (andI .u64 (addI .u64 (mulI .u64 (shrI .u64 x0 32) (andI .u64 x1 4294967295)) (shrI .u64 (mulI .u64 (andI .u64 x0 4294967295) (andI .u64 x1 4294967295)) 32)) 4294967295) (mulI .u64 (andI .u64 x0 4294967295) (shrI .u64 x1 32))) 32), mulI .u64 x0 x1)
theorem run101 (N : Nat) (x0 : Int) (x1 : Int) : Eng.run T101 (G101 N) N live101 c101 Tryz.f101.results.toList Tryz.f101.ntmps ((ad101).enc (x0, x1, ())) (rd101).dec = fn_bits_Mul64 N x0 x1 := by kernel_rfl
noncomputable def F101 (N : Nat) (a : Int × Int × Unit) : Option (Int × Int) := fn_bits_Mul64 N a.1 a.2.1
theorem ok101 (N : Nat) : FnOK Tryz.prog 101 ad101 rd101 (F101 N) :=
  fn_ok (N := N) (live := live101) (code := c101) (tok T101.rt T101.kl (wrNil_ok)) mixed (gok101 N) Tryz.func101 (by kernel_rfl) (by kernel_rfl) (by kernel_rfl) fun a p h => by rw [← h]; exact run101 N a.1 a.2.1

/-! ### math/bits.Mul: function 131 -/
noncomputable def c131 : Code := (Tryz.f131.body).getD .skip
noncomputable def T131 : Tb := ⟨tyOf tys, [], [], wrNil⟩
noncomputable def G131 {R : Type} (N : Nat) : FuncId → List AV → (AV → Option R) → Option R := gCons 101 (gOf ad101 rd101 (F101 N)) (gNil)
theorem gok131 {R : Type} (N : Nat) : GOK Tryz.prog (G131 (R := R) N) := gCons_ok (ok101 N) (gNil_ok)
noncomputable def live131 : List (Nat × List (Nat × HK)) := []
noncomputable def ad131 : Ad (Int × Int × Unit) := aC (cInt .u64) (aC (cInt .u64) (a0))
noncomputable def rd131 : Rd (Int × Int) := r2 (cInt .u64) (cInt .u64)
noncomputable def fn_bits_Mul (N : Nat) (x0 : Int) (x1 : Int) : Option (Int × Int) :=
  (fn_bits_Mul64 N x0 x1).bind fun r1 =>
   some (r1.1, r1.2)
theorem run131 (N : Nat) (x0 : Int) (x1 : Int) : Eng.run T131 (G131 N) N live131 c131 Tryz.f131.results.toList Tryz.f131.ntmps ((ad131).enc (x0, x1, ())) (rd131).dec = fn_bits_Mul N x0 x1 := by kernel_rfl
noncomputable def F131 (N : Nat) (a : Int × Int × Unit) : Option (Int × Int) := fn_bits_Mul N a.1 a.2.1
theorem ok131 (N : Nat) : FnOK Tryz.prog 131 ad131 rd131 (F131 N) :=
  fn_ok (N := N) (live := live131) (code := c131) (tok T131.rt T131.kl (wrNil_ok)) mixed (gok131 N) Tryz.func131 (by kernel_rfl) (by kernel_rfl) (by kernel_rfl) fun a p h => by rw [← h]; exact run131 N a.1 a.2.1

/-! ### internal/stringslite.HasPrefix: function 90 -/
noncomputable def c90 : Code := (Tryz.f90.body).getD .skip
noncomputable def T90 : Tb := ⟨tyOf tys, [], [], wrNil⟩
noncomputable def G90 {R : Type} (N : Nat) : FuncId → List AV → (AV → Option R) → Option R := gNil
theorem gok90 {R : Type} (N : Nat) : GOK Tryz.prog (G90 (R := R) N) := gNil_ok
noncomputable def live90 : List (Nat × List (Nat × HK)) := []
noncomputable def ad90 : Ad (ByteArray × ByteArray × Unit) := aC (cStr) (aC (cStr) (a0))
noncomputable def rd90 : Rd (Bool) := r1 (cBool)
noncomputable def fn_stringslite_HasPrefix (N : Nat) (x0 : ByteArray) (x1 : ByteArray) : Option (Bool) :=
  cond (leI (x1.size : Int) (x0.size : Int))
   (cond (((leI 0 0) && (leI 0 (x1.size : Int))) && (leI (x1.size : Int) (x0.size : Int)))
    (some (eqS (x0.extract ((0 : Int).toNat) ((x1.size : Int).toNat)) x1))
    (none))
   (some false)
theorem run90 (N : Nat) (x0 : ByteArray) (x1 : ByteArray) : Eng.run T90 (G90 N) N live90 c90 Tryz.f90.results.toList Tryz.f90.ntmps ((ad90).enc (x0, x1, ())) (rd90).dec = fn_stringslite_HasPrefix N x0 x1 := by kernel_rfl
noncomputable def F90 (N : Nat) (a : ByteArray × ByteArray × Unit) : Option (Bool) := fn_stringslite_HasPrefix N a.1 a.2.1
theorem ok90 (N : Nat) : FnOK Tryz.prog 90 ad90 rd90 (F90 N) :=
  fn_ok (N := N) (live := live90) (code := c90) (tok T90.rt T90.kl (wrNil_ok)) mixed (gok90 N) Tryz.func90 (by kernel_rfl) (by kernel_rfl) (by kernel_rfl) fun a p h => by rw [← h]; exact run90 N a.1 a.2.1

/-! ### strings.HasPrefix: function 50 -/
noncomputable def c50 : Code := (Tryz.f50.body).getD .skip
noncomputable def T50 : Tb := ⟨tyOf tys, [], [], wrNil⟩
noncomputable def G50 {R : Type} (N : Nat) : FuncId → List AV → (AV → Option R) → Option R := gCons 90 (gOf ad90 rd90 (F90 N)) (gNil)
theorem gok50 {R : Type} (N : Nat) : GOK Tryz.prog (G50 (R := R) N) := gCons_ok (ok90 N) (gNil_ok)
noncomputable def live50 : List (Nat × List (Nat × HK)) := []
noncomputable def ad50 : Ad (ByteArray × ByteArray × Unit) := aC (cStr) (aC (cStr) (a0))
noncomputable def rd50 : Rd (Bool) := r1 (cBool)
noncomputable def fn_strings_HasPrefix (N : Nat) (x0 : ByteArray) (x1 : ByteArray) : Option (Bool) :=
  (fn_stringslite_HasPrefix N x0 x1).bind fun r1 =>
   some r1
theorem run50 (N : Nat) (x0 : ByteArray) (x1 : ByteArray) : Eng.run T50 (G50 N) N live50 c50 Tryz.f50.results.toList Tryz.f50.ntmps ((ad50).enc (x0, x1, ())) (rd50).dec = fn_strings_HasPrefix N x0 x1 := by kernel_rfl
noncomputable def F50 (N : Nat) (a : ByteArray × ByteArray × Unit) : Option (Bool) := fn_strings_HasPrefix N a.1 a.2.1
theorem ok50 (N : Nat) : FnOK Tryz.prog 50 ad50 rd50 (F50 N) :=
  fn_ok (N := N) (live := live50) (code := c50) (tok T50.rt T50.kl (wrNil_ok)) mixed (gok50 N) Tryz.func50 (by kernel_rfl) (by kernel_rfl) (by kernel_rfl) fun a p h => by rw [← h]; exact run50 N a.1 a.2.1

/-! ### tiller/show.laid: function 89 -/
noncomputable def c89 : Code := (Tryz.f89.body).getD .skip
noncomputable def T89 : Tb := ⟨tyOf tys, [], [], wrNil⟩
noncomputable def G89 {R : Type} (N : Nat) : FuncId → List AV → (AV → Option R) → Option R := gCons 113 (gOf ad113 rd113 (F113 N)) (gNil)
theorem gok89 {R : Type} (N : Nat) : GOK Tryz.prog (G89 (R := R) N) := gCons_ok (ok113 N) (gNil_ok)
noncomputable def live89 : List (Nat × List (Nat × HK)) := []
noncomputable def ad89 : Ad (List Int × Int × Int × Unit) := aC (cLi .u32) (aC (cInt .i64) (aC (cInt .i64) (a0)))
noncomputable def rd89 : Rd ((ByteArray × Int)) := r1 (cSt (fC (lStr) (fO (lInt .i64))))
noncomputable def fn_show_laid (N : Nat) (x0 : List Int) (x1 : Int) (x2 : Int) : Option ((ByteArray × Int)) :=
  (fn_nat_Decimal N x0).bind fun r1 =>
   cond (!(isNoneI r1.2))
    (none)
    (cond (ltI (r1.1.size : Int) x1)
     (none)
     (cond (((leI 0 0) && (leI 0 x1)) && (leI x1 (r1.1.size : Int)))
      (some (r1.1.extract ((0 : Int).toNat) x1.toNat, subI .i64 (addI .i64 x2 (r1.1.size : Int)) x1))
      (none)))
theorem run89 (N : Nat) (x0 : List Int) (x1 : Int) (x2 : Int) : Eng.run T89 (G89 N) N live89 c89 Tryz.f89.results.toList Tryz.f89.ntmps ((ad89).enc (x0, x1, x2, ())) (rd89).dec = fn_show_laid N x0 x1 x2 := by kernel_rfl
noncomputable def F89 (N : Nat) (a : List Int × Int × Int × Unit) : Option ((ByteArray × Int)) := fn_show_laid N a.1 a.2.1 a.2.2.1
theorem ok89 (N : Nat) : FnOK Tryz.prog 89 ad89 rd89 (F89 N) :=
  fn_ok (N := N) (live := live89) (code := c89) (tok T89.rt T89.kl (wrNil_ok)) mixed (gok89 N) Tryz.func89 (by kernel_rfl) (by kernel_rfl) (by kernel_rfl) fun a p h => by rw [← h]; exact run89 N a.1 a.2.1 a.2.2.1

/-! ### tiller/show.try: function 49 -/
noncomputable def c49 : Code := (Tryz.f49.body).getD .skip
noncomputable def T49 : Tb := ⟨tyOf tys, [(30, 3), (37, 3), (43, 3), (48, 3), (50, 3)], [], wrNil⟩
noncomputable def G49 {R : Type} (N : Nat) : FuncId → List AV → (AV → Option R) → Option R := gCons 84 (gOf ad84 rd84 (F84 N)) (gCons 47 (gOf ad47 rd47 (F47 N)) (gCons 82 (gOf ad82 rd82 (F82 N)) (gCons 85 (gOf ad85 rd85 (F85 N)) (gCons 86 (gOf ad86 rd86 (F86 N)) (gCons 87 (gOf ad87 rd87 (F87 N)) (gCons 89 (gOf ad89 rd89 (F89 N)) (gCons 88 (gOf ad88 rd88 (F88 N)) (gNil))))))))
theorem gok49 {R : Type} (N : Nat) : GOK Tryz.prog (G49 (R := R) N) := gCons_ok (ok84 N) (gCons_ok (ok47 N) (gCons_ok (ok82 N) (gCons_ok (ok85 N) (gCons_ok (ok86 N) (gCons_ok (ok87 N) (gCons_ok (ok89 N) (gCons_ok (ok88 N) (gNil_ok))))))))
noncomputable def live49 : List (Nat × List (Nat × HK)) := []
noncomputable def ad49 : Ad ((Bool × Int × Int × Int) × Int × Int × Unit) := aC (cSt (fC (lBool) (fC (lInt .i64) (fC (lInt .i64) (fO (lInt .u64)))))) (aC (cInt .i64) (aC (cInt .i64) (a0)))
noncomputable def rd49 : Rd ((ByteArray × Int) × Bool) := r2 (cSt (fC (lStr) (fO (lInt .i64)))) (cBool)
noncomputable def fn_show_try (N : Nat) (x0 : (Bool × Int × Int × Int)) (x1 : Int) (x2 : Int) : Option ((ByteArray × Int) × Bool) :=
  (fn_show_between N (x0.1, x0.2.1, x0.2.2.1, x0.2.2.2)).bind fun r1 =>
   (fn_show_of N r1.1 (subI .i64 x0.2.2.1 2)).bind fun r2 =>
    (fn_show_number_scaled N (r2.1, r2.2) (subI .i64 (subI .i64 x1 1) x2)).bind fun r3 =>
     (fn_show_of N r1.2 (subI .i64 x0.2.2.1 2)).bind fun r4 =>
      (fn_show_number_scaled N (r4.1, r4.2) (subI .i64 (subI .i64 x1 1) x2)).bind fun r5 =>
       (fn_show_of N x0.2.2.2 x0.2.2.1).bind fun r6 =>
        (fn_show_number_scaled N (r6.1, r6.2) (subI .i64 (subI .i64 x1 1) x2)).bind fun r7 =>
         (fn_show_number_cut N (r7.1, r7.2)).bind fun r8 =>
          (fn_show_next N r8.1).bind fun r9 =>
           (fn_show_read N r8.1 (r3.1, r3.2) (r5.1, r5.2) (eqI (andI .u64 x0.2.2.2 1) 0)).bind fun r10 =>
            (fn_show_read N r9 (r3.1, r3.2) (r5.1, r5.2) (eqI (andI .u64 x0.2.2.2 1) 0)).bind fun r11 =>
             cond r10
              (cond (!(r11))
               ((fn_show_laid N r8.1 x1 x2).bind fun r12 =>
                some ((r12.1, r12.2), true))
               (cond (ltI r8.2.1 0)
                ((fn_show_laid N r8.1 x1 x2).bind fun r13 =>
                 some ((r13.1, r13.2), true))
                (cond (eqI r8.2.1 0)
                 ((fn_show_odd N r8.1).bind fun r14 =>
                  cond (!(r14))
                   ((fn_show_laid N r8.1 x1 x2).bind fun r15 =>
                    some ((r15.1, r15.2), true))
                   (cond r11
                    ((fn_show_laid N r9 x1 x2).bind fun r16 =>
                     some ((r16.1, r16.2), true))
                    (some (((⟨#[]⟩ : ByteArray), 0), false))))
                 (cond r11
                  ((fn_show_laid N r9 x1 x2).bind fun r17 =>
                   some ((r17.1, r17.2), true))
                  (some (((⟨#[]⟩ : ByteArray), 0), false))))))
              (cond r11
               ((fn_show_laid N r9 x1 x2).bind fun r18 =>
                some ((r18.1, r18.2), true))
               (some (((⟨#[]⟩ : ByteArray), 0), false)))
theorem run49 (N : Nat) (x0 : (Bool × Int × Int × Int)) (x1 : Int) (x2 : Int) : Eng.run T49 (G49 N) N live49 c49 Tryz.f49.results.toList Tryz.f49.ntmps ((ad49).enc (x0, x1, x2, ())) (rd49).dec = fn_show_try N x0 x1 x2 := by kernel_rfl
noncomputable def F49 (N : Nat) (a : (Bool × Int × Int × Int) × Int × Int × Unit) : Option ((ByteArray × Int) × Bool) := fn_show_try N a.1 a.2.1 a.2.2.1
theorem ok49 (N : Nat) : FnOK Tryz.prog 49 ad49 rd49 (F49 N) :=
  fn_ok (N := N) (live := live49) (code := c49) (tok T49.rt T49.kl (wrNil_ok)) mixed (gok49 N) Tryz.func49 (by kernel_rfl) (by kernel_rfl) (by kernel_rfl) fun a p h => by rw [← h]; exact run49 N a.1 a.2.1 a.2.2.1

/-! ### tiller/show.Short: function 16 -/
noncomputable def c16 : Code := (Tryz.f16.body).getD .skip
noncomputable def T16 : Tb := ⟨tyOf tys, [(21, 5), (24, 5), (27, 5), (29, 5), (45, 8), (47, 8), (49, 5), (58, 10), (60, 10), (62, 5)], [], wrNil⟩
noncomputable def G16 {R : Type} (N : Nat) : FuncId → List AV → (AV → Option R) → Option R := gCons 45 (gOf ad45 rd45 (F45 N)) (gCons 23 (gOf ad23 rd23 (F23 N)) (gCons 46 (gOf (aC cStr (aC (cInt .i64) (aC cBool a0))) (r1 cStr) (fun a => fn_text N a.1 a.2.1 a.2.2.1)) (gCons 47 (gOf ad47 rd47 (F47 N)) (gCons 48 (gOf ad48 rd48 (F48 N)) (gCons 49 (gOf ad49 rd49 (F49 N)) (gNil))))))
theorem gok16 {R : Type} (N : Nat) : GOK Tryz.prog (G16 (R := R) N) := gCons_ok (ok45 N) (gCons_ok (ok23 N) (gCons_ok (text_ok N) (gCons_ok (ok47 N) (gCons_ok (ok48 N) (gCons_ok (ok49 N) (gNil_ok))))))
noncomputable def live16 : List (Nat × List (Nat × HK)) := [(9, [(5, .keep), (6, .keep), (7, .keep)])]
noncomputable def ad16 : Ad (Int × Unit) := aC (cInt .u64) (a0)
noncomputable def rd16 : Rd (ByteArray) := r1 (cStr)
noncomputable def st16_0 (v0 : Int) (v1 : Int) (v2 : Bool) (v3 : Int) (v4 : Int) (v5 : Int) : St := ⟨[AV.none, AV.none, AV.none, AV.none, AV.none, AV.ptr 5 0, AV.v (.int .i64 v0), AV.v (.int .i64 v1), AV.none, AV.none, AV.none, AV.none, AV.none, AV.none, AV.none, AV.none, AV.none, AV.none, AV.none, AV.none, AV.none, AV.none, AV.none, AV.none, AV.none, AV.none, AV.none, AV.none, AV.none, AV.none, AV.none, AV.none, AV.none, AV.none, AV.none, AV.none, AV.none, AV.none, AV.none, AV.none, AV.none, AV.none, AV.none, AV.none, AV.none, AV.none, AV.none, AV.none, AV.none, AV.none, AV.none, AV.none, AV.none, AV.none, AV.none, AV.none, AV.none, AV.none, AV.none, AV.none, AV.none, AV.none, AV.none, AV.none, AV.none], [none, none, none, none, none, some (OB.agg [AV.v (.bool v2), AV.v (.int .i64 v3), AV.v (.int .i64 v4), AV.v (.int .u64 v5)]), none, none, none, none, none, none, none, none, none, none, none, none, none, none, none, none, none, none, none, none, none, none, none, none, none, none, none, none, none, none, none, none, none, none, none, none, none, none, none, none, none, none, none, none, none, none, none, none, none, none, none, none, none, none, none, none, none, none, none]⟩
noncomputable def raw16_0 (N : Nat) (n : Nat) (v0 : Int) (v1 : Int) (v2 : Bool) (v3 : Int) (v4 : Int) (v5 : Int) : Option (ByteArray) := loopN (lookN live16 9) (exec T16 (G16 N) N live16 (cL (cL (cR (cL (cR (cR (cR (cR (cR c16)))))))))) n (st16_0 v0 v1 v2 v3 v4 v5) (blockK 0 (seqK (exec T16 (G16 N) N live16 (cR (cR (cR (cR (cR (cR c16))))))) (retK T16 Tryz.f16.results.toList (rd16).dec)))
noncomputable def s16_0 (N : Nat) (Ln0 : Int → Int → Bool → Int → Int → Int → Option (ByteArray)) (v0 : Int) (v1 : Int) (v2 : Bool) (v3 : Int) (v4 : Int) (v5 : Int) : Option (ByteArray) :=
  cond (ltI v1 17)
   ((fn_show_try N (v2, v3, v4, v5) v1 v0).bind fun r6 =>
    cond r6.2
     ((fn_text N r6.1.1 r6.1.2 v2).bind fun r7 =>
      some r7)
     (Ln0 v0 (addI .i64 v1 1) v2 v3 v4 v5))
   ((fn_show_try N (v2, v3, v4, v5) 17 v0).bind fun r8 =>
    (fn_text N r8.1.1 r8.1.2 v2).bind fun r9 =>
     some r9)
theorem step16_0 (N : Nat) (n : Nat) (v0 : Int) (v1 : Int) (v2 : Bool) (v3 : Int) (v4 : Int) (v5 : Int) : raw16_0 N  (n + 1) v0 v1 v2 v3 v4 v5 = s16_0 N (raw16_0 N  n) v0 v1 v2 v3 v4 v5 := by kernel_rfl
noncomputable def l16_0 (N : Nat) : Nat → Int → Int → Bool → Int → Int → Int → Option (ByteArray)
  | 0 => fun _ _ _ _ _ _ => none
  | n + 1 => fun v0 v1 v2 v3 v4 v5 => s16_0 N (l16_0 N  n) v0 v1 v2 v3 v4 v5
theorem eq16_0 (N : Nat) : ∀ n, raw16_0 N  n = l16_0 N  n := by
  intro n
  induction n with
  | zero => exact funext fun v0 => funext fun v1 => funext fun v2 => funext fun v3 => funext fun v4 => funext fun v5 => rfl
  | succ n ih => exact funext fun v0 => funext fun v1 => funext fun v2 => funext fun v3 => funext fun v4 => funext fun v5 => by rw [step16_0, ih]; rfl
noncomputable def t16 (N : Nat) (Le0 : Int → Int → Bool → Int → Int → Int → Option (ByteArray)) (x0 : Int) : Option (ByteArray) :=
  (fn_show_special N x0).bind fun r1 =>
   cond r1.2
    (some r1.1)
    ((fn_pat_Take N x0).bind fun r2 =>
     cond (eqI r2.2.1 0)
      ((fn_text N (⟨#[48]⟩ : ByteArray) 0 r2.1).bind fun r3 =>
       some r3)
      ((fn_show_of N r2.2.2.2 r2.2.2.1).bind fun r4 =>
       (fn_show_number_first N (r4.1, r4.2)).bind fun r5 =>
        Le0 r5 1 r2.1 r2.2.1 r2.2.2.1 r2.2.2.2))
noncomputable def fn_show_Short (N : Nat) (x0 : Int) : Option (ByteArray) := t16 N (l16_0 N N) x0
theorem run16 (N : Nat) (x0 : Int) : Eng.run T16 (G16 N) N live16 c16 Tryz.f16.results.toList Tryz.f16.ntmps ((ad16).enc (x0, ())) (rd16).dec = fn_show_Short N x0 := by
  refine Eq.trans (show _ = t16 N (raw16_0 N N) x0 from by kernel_rfl) ?_
  unfold fn_show_Short
  rw [eq16_0 N N]
noncomputable def F16 (N : Nat) (a : Int × Unit) : Option (ByteArray) := fn_show_Short N a.1
theorem ok16 (N : Nat) : FnOK Tryz.prog 16 ad16 rd16 (F16 N) :=
  fn_ok (N := N) (live := live16) (code := c16) (tok T16.rt T16.kl (wrNil_ok)) mixed (gok16 N) Tryz.func16 (by kernel_rfl) (by kernel_rfl) (by kernel_rfl) fun a p h => by rw [← h]; exact run16 N a.1

/-! ### internal/stringslite.CutPrefix: function 91 -/
noncomputable def c91 : Code := (Tryz.f91.body).getD .skip
noncomputable def T91 : Tb := ⟨tyOf tys, [], [], wrNil⟩
noncomputable def G91 {R : Type} (N : Nat) : FuncId → List AV → (AV → Option R) → Option R := gCons 90 (gOf ad90 rd90 (F90 N)) (gNil)
theorem gok91 {R : Type} (N : Nat) : GOK Tryz.prog (G91 (R := R) N) := gCons_ok (ok90 N) (gNil_ok)
noncomputable def live91 : List (Nat × List (Nat × HK)) := []
noncomputable def ad91 : Ad (ByteArray × ByteArray × Unit) := aC (cStr) (aC (cStr) (a0))
noncomputable def rd91 : Rd (ByteArray × Bool) := r2 (cStr) (cBool)
noncomputable def fn_stringslite_CutPrefix (N : Nat) (x0 : ByteArray) (x1 : ByteArray) : Option (ByteArray × Bool) :=
  (fn_stringslite_HasPrefix N x0 x1).bind fun r1 =>
   cond (!(r1))
    (some (x0, false))
    (cond (((leI 0 (x1.size : Int)) && (leI (x1.size : Int) (x0.size : Int))) && (leI (x0.size : Int) (x0.size : Int)))
     (some (x0.extract ((x1.size : Int).toNat) ((x0.size : Int).toNat), true))
     (none))
theorem run91 (N : Nat) (x0 : ByteArray) (x1 : ByteArray) : Eng.run T91 (G91 N) N live91 c91 Tryz.f91.results.toList Tryz.f91.ntmps ((ad91).enc (x0, x1, ())) (rd91).dec = fn_stringslite_CutPrefix N x0 x1 := by kernel_rfl
noncomputable def F91 (N : Nat) (a : ByteArray × ByteArray × Unit) : Option (ByteArray × Bool) := fn_stringslite_CutPrefix N a.1 a.2.1
theorem ok91 (N : Nat) : FnOK Tryz.prog 91 ad91 rd91 (F91 N) :=
  fn_ok (N := N) (live := live91) (code := c91) (tok T91.rt T91.kl (wrNil_ok)) mixed (gok91 N) Tryz.func91 (by kernel_rfl) (by kernel_rfl) (by kernel_rfl) fun a p h => by rw [← h]; exact run91 N a.1 a.2.1

/-! ### strings.CutPrefix: function 51 -/
noncomputable def c51 : Code := (Tryz.f51.body).getD .skip
noncomputable def T51 : Tb := ⟨tyOf tys, [], [], wrNil⟩
noncomputable def G51 {R : Type} (N : Nat) : FuncId → List AV → (AV → Option R) → Option R := gCons 91 (gOf ad91 rd91 (F91 N)) (gNil)
theorem gok51 {R : Type} (N : Nat) : GOK Tryz.prog (G51 (R := R) N) := gCons_ok (ok91 N) (gNil_ok)
noncomputable def live51 : List (Nat × List (Nat × HK)) := []
noncomputable def ad51 : Ad (ByteArray × ByteArray × Unit) := aC (cStr) (aC (cStr) (a0))
noncomputable def rd51 : Rd (ByteArray × Bool) := r2 (cStr) (cBool)
noncomputable def fn_strings_CutPrefix (N : Nat) (x0 : ByteArray) (x1 : ByteArray) : Option (ByteArray × Bool) :=
  (fn_stringslite_CutPrefix N x0 x1).bind fun r1 =>
   some (r1.1, r1.2)
theorem run51 (N : Nat) (x0 : ByteArray) (x1 : ByteArray) : Eng.run T51 (G51 N) N live51 c51 Tryz.f51.results.toList Tryz.f51.ntmps ((ad51).enc (x0, x1, ())) (rd51).dec = fn_strings_CutPrefix N x0 x1 := by kernel_rfl
noncomputable def F51 (N : Nat) (a : ByteArray × ByteArray × Unit) : Option (ByteArray × Bool) := fn_strings_CutPrefix N a.1 a.2.1
theorem ok51 (N : Nat) : FnOK Tryz.prog 51 ad51 rd51 (F51 N) :=
  fn_ok (N := N) (live := live51) (code := c51) (tok T51.rt T51.kl (wrNil_ok)) mixed (gok51 N) Tryz.func51 (by kernel_rfl) (by kernel_rfl) (by kernel_rfl) fun a p h => by rw [← h]; exact run51 N a.1 a.2.1

/-! ### tiller/read.of: function 116 -/
noncomputable def c116 : Code := (Tryz.f116.body).getD .skip
noncomputable def T116 : Tb := ⟨tyOf tys, [], [24], wrNil⟩
noncomputable def G116 {R : Type} (N : Nat) : FuncId → List AV → (AV → Option R) → Option R := gCons 80 (gOf ad80 rd80 (F80 N)) (gCons 118 (gOf ad118 rd118 (F118 N)) (gCons 112 (gOf ad112 rd112 (F112 N)) (gNil)))
theorem gok116 {R : Type} (N : Nat) : GOK Tryz.prog (G116 (R := R) N) := gCons_ok (ok80 N) (gCons_ok (ok118 N) (gCons_ok (ok112 N) (gNil_ok)))
noncomputable def live116 : List (Nat × List (Nat × HK)) := [(4, [(6, .li .u32), (7, .keep), (15, .keep), (16, .keep), (17, .keep)])]
noncomputable def ad116 : Ad (List Int × Int × Unit) := aC (cLi .u8) (aC (cInt .u32) (a0))
noncomputable def rd116 : Rd (List Int × Option Int) := r2 (cLi .u32) (cErr 92)
noncomputable def st116_0 (v0 : List Int) (v1 : List Int) (v2 : List Int) (v3 : Int) (v4 : Int) : St := ⟨[AV.none, AV.none, AV.none, AV.none, AV.none, AV.none, AV.li .u32 v0, AV.li .u32 v1, AV.none, AV.none, AV.none, AV.none, AV.none, AV.none, AV.none, AV.li .u8 v2, AV.v (.int .i64 v3), AV.v (.int .i64 v4), AV.none, AV.none, AV.none, AV.none, AV.none, AV.none, AV.none, AV.none, AV.none, AV.none, AV.none, AV.none, AV.none, AV.none, AV.none, AV.none, AV.none, AV.none, AV.none, AV.none, AV.none, AV.none, AV.none, AV.none, AV.none], [none, none, none, none, none, none, none, none, none, none, none, none, none, none, none, none, none, none, none, none, none, none, none, none, none, none, none, none, none, none, none, none, none, none, none, none, none, none, none, none, none, none, none]⟩
noncomputable def raw116_0 (N : Nat) (n : Nat) (v0 : List Int) (v1 : List Int) (v2 : List Int) (v3 : Int) (v4 : Int) : Option (List Int × Option Int) := loopN (lookN live116 4) (exec T116 (G116 N) N live116 (cL (cL (cR (cL (cR (cR (cR c116)))))))) n (st116_0 v0 v1 v2 v3 v4) (blockK 0 (seqK (exec T116 (G116 N) N live116 (cR (cR (cR (cR c116))))) (retK T116 Tryz.f116.results.toList (rd116).dec)))
noncomputable def s116_0 (N : Nat) (Ln0 : List Int → List Int → List Int → Int → Int → Option (List Int × Option Int)) (v0 : List Int) (v1 : List Int) (v2 : List Int) (v3 : Int) (v4 : Int) : Option (List Int × Option Int) :=
  cond (ltI v4 v3)
   (cond (leI 0 v4)
    (cond (ltI v4 (v2.length : Int))
     ((fn_nat_Mul N v0 v1).bind fun r2 =>
      cond (!(isNoneI r2.2))
       (some ([], r2.2))
       ((fn_nat_Of N (cvI .u64 (lrd v2 v4))).bind fun r3 =>
        (fn_nat_Add N r2.1 r3).bind fun r4 =>
         cond (!(isNoneI r4.2))
          (some ([], r4.2))
          (Ln0 r4.1 v1 v2 v3 (addI .i64 v4 1))))
     (none))
    (none))
   (some (v0, none))
theorem step116_0 (N : Nat) (n : Nat) (v0 : List Int) (v1 : List Int) (v2 : List Int) (v3 : Int) (v4 : Int) : raw116_0 N  (n + 1) v0 v1 v2 v3 v4 = s116_0 N (raw116_0 N  n) v0 v1 v2 v3 v4 := by kernel_rfl
noncomputable def l116_0 (N : Nat) : Nat → List Int → List Int → List Int → Int → Int → Option (List Int × Option Int)
  | 0 => fun _ _ _ _ _ => none
  | n + 1 => fun v0 v1 v2 v3 v4 => s116_0 N (l116_0 N  n) v0 v1 v2 v3 v4
theorem eq116_0 (N : Nat) : ∀ n, raw116_0 N  n = l116_0 N  n := by
  intro n
  induction n with
  | zero => exact funext fun v0 => funext fun v1 => funext fun v2 => funext fun v3 => funext fun v4 => rfl
  | succ n ih => exact funext fun v0 => funext fun v1 => funext fun v2 => funext fun v3 => funext fun v4 => by rw [step116_0, ih]; rfl
noncomputable def t116 (N : Nat) (Le0 : List Int → List Int → List Int → Int → Int → Option (List Int × Option Int)) (x0 : List Int) (x1 : Int) : Option (List Int × Option Int) :=
  (fn_nat_Of N (cvI .u64 x1)).bind fun r1 =>
   Le0 [] r1 x0 (x0.length : Int) 0
noncomputable def fn_read_of (N : Nat) (x0 : List Int) (x1 : Int) : Option (List Int × Option Int) := t116 N (l116_0 N N) x0 x1
theorem run116 (N : Nat) (x0 : List Int) (x1 : Int) : Eng.run T116 (G116 N) N live116 c116 Tryz.f116.results.toList Tryz.f116.ntmps ((ad116).enc (x0, x1, ())) (rd116).dec = fn_read_of N x0 x1 := by
  refine Eq.trans (show _ = t116 N (raw116_0 N N) x0 x1 from by kernel_rfl) ?_
  unfold fn_read_of
  rw [eq116_0 N N]
noncomputable def F116 (N : Nat) (a : List Int × Int × Unit) : Option (List Int × Option Int) := fn_read_of N a.1 a.2.1
theorem ok116 (N : Nat) : FnOK Tryz.prog 116 ad116 rd116 (F116 N) :=
  fn_ok (N := N) (live := live116) (code := c116) (tok T116.rt T116.kl (wrNil_ok)) mixed (gok116 N) Tryz.func116 (by kernel_rfl) (by kernel_rfl) (by kernel_rfl) fun a p h => by rw [← h]; exact run116 N a.1 a.2.1

/-! ### tiller/read.cut: function 119 -/
noncomputable def c119 : Code := (Tryz.f119.body).getD .skip
noncomputable def T119 : Tb := ⟨tyOf tys, [(39, 5), (48, 5)], [], wrNil⟩
noncomputable def G119 {R : Type} (N : Nat) : FuncId → List AV → (AV → Option R) → Option R := gNil
theorem gok119 {R : Type} (N : Nat) : GOK Tryz.prog (G119 (R := R) N) := gNil_ok
noncomputable def live119 : List (Nat × List (Nat × HK)) := [(6, [(2, .keep), (5, .keep), (7, .keep), (8, .keep), (19, .keep), (20, .keep), (21, .keep)])]
noncomputable def ad119 : Ad (List Int × Unit) := aC (cLi .u32) (a0)
noncomputable def rd119 : Rd (Vec 4 × Int × Bool) := r3 (cVec .u64 4) (cInt .i64) (cBool)
noncomputable def st119_0 (v0 : Int) (v1 : Bool) (v2 : List Int) (v3 : Int) (v4 : Int) (v5 : Vec 4) (v6 : Vec 4) : St := ⟨[AV.none, AV.none, AV.ptr 2 0, AV.none, AV.none, AV.ptr 5 0, AV.none, AV.v (.int .i64 v0), AV.v (.bool v1), AV.none, AV.none, AV.none, AV.none, AV.none, AV.none, AV.none, AV.none, AV.none, AV.none, AV.li .u32 v2, AV.v (.int .i64 v3), AV.v (.int .i64 v4), AV.none, AV.none, AV.none, AV.none, AV.none, AV.none, AV.none, AV.none, AV.none, AV.none, AV.none, AV.none, AV.none, AV.none, AV.none, AV.none, AV.none, AV.none, AV.none, AV.none, AV.none, AV.none, AV.none, AV.none, AV.none, AV.none, AV.none, AV.none, AV.none, AV.none, AV.none, AV.none], [none, none, some (OB.arr .u64 4 v5), none, none, some (OB.arr .u64 4 v6), none, none, none, none, none, none, none, none, none, none, none, none, none, none, none, none, none, none, none, none, none, none, none, none, none, none, none, none, none, none, none, none, none, none, none, none, none, none, none, none, none, none, none, none, none, none, none, none]⟩
noncomputable def raw119_0 (N : Nat) (n : Nat) (v0 : Int) (v1 : Bool) (v2 : List Int) (v3 : Int) (v4 : Int) (v5 : Vec 4) (v6 : Vec 4) : Option (Vec 4 × Int × Bool) := loopN (lookN live119 6) (exec T119 (G119 N) N live119 (cL (cL (cR (cL (cR (cR (cR (cR (cR c119)))))))))) n (st119_0 v0 v1 v2 v3 v4 v5 v6) (blockK 0 (seqK (exec T119 (G119 N) N live119 (cR (cR (cR (cR (cR (cR c119))))))) (retK T119 Tryz.f119.results.toList (rd119).dec)))
noncomputable def s119_0 (N : Nat) (Ln0 : Int → Bool → List Int → Int → Int → Vec 4 → Vec 4 → Option (Vec 4 × Int × Bool)) (v0 : Int) (v1 : Bool) (v2 : List Int) (v3 : Int) (v4 : Int) (v5 : Vec 4) (v6 : Vec 4) : Option (Vec 4 × Int × Bool) :=
  cond (ltI v4 v3)
   (cond (leI 0 v4)
    (cond (ltI v4 (v2.length : Int))
     (cond (ltI v4 v0)
      (cond v1
       (Ln0 v0 true v2 v3 (addI .i64 v4 1) v5 v6)
       (Ln0 v0 (!(eqI (lrd v2 v4) 0)) v2 v3 (addI .i64 v4 1) v5 v6))
      (cond (leI 0 (quoI .i64 (subI .i64 v4 v0) 2))
       (cond (ltI (quoI .i64 (subI .i64 v4 v0) 2) 4)
        (cond (ltI (mulI .i64 32 (remI .i64 (subI .i64 v4 v0) 2)) 0)
         (none)
         (cond (leI 0 (quoI .i64 (subI .i64 v4 v0) 2))
          (cond (ltI (quoI .i64 (subI .i64 v4 v0) 2) 4)
           (Ln0 v0 v1 v2 v3 (addI .i64 v4 1) v5 (Vec.st v6 (quoI .i64 (subI .i64 v4 v0) 2) (orI .u64 (Vec.rd v6 (quoI .i64 (subI .i64 v4 v0) 2)) (shlI .u64 (cvI .u64 (lrd v2 v4)) (mulI .i64 32 (remI .i64 (subI .i64 v4 v0) 2))))))
           (none))
          (none)))
        (none))
       (none)))
     (none))
    (none))
   (some (v6, mulI .i64 32 v0, v1))
theorem step119_0 (N : Nat) (n : Nat) (v0 : Int) (v1 : Bool) (v2 : List Int) (v3 : Int) (v4 : Int) (v5 : Vec 4) (v6 : Vec 4) : raw119_0 N  (n + 1) v0 v1 v2 v3 v4 v5 v6 = s119_0 N (raw119_0 N  n) v0 v1 v2 v3 v4 v5 v6 := by kernel_rfl
noncomputable def l119_0 (N : Nat) : Nat → Int → Bool → List Int → Int → Int → Vec 4 → Vec 4 → Option (Vec 4 × Int × Bool)
  | 0 => fun _ _ _ _ _ _ _ => none
  | n + 1 => fun v0 v1 v2 v3 v4 v5 v6 => s119_0 N (l119_0 N  n) v0 v1 v2 v3 v4 v5 v6
theorem eq119_0 (N : Nat) : ∀ n, raw119_0 N  n = l119_0 N  n := by
  intro n
  induction n with
  | zero => exact funext fun v0 => funext fun v1 => funext fun v2 => funext fun v3 => funext fun v4 => funext fun v5 => funext fun v6 => rfl
  | succ n ih => exact funext fun v0 => funext fun v1 => funext fun v2 => funext fun v3 => funext fun v4 => funext fun v5 => funext fun v6 => by rw [step119_0, ih]; rfl
noncomputable def t119 (N : Nat) (Le0 : Int → Bool → List Int → Int → Int → Vec 4 → Vec 4 → Option (Vec 4 × Int × Bool)) (x0 : List Int) : Option (Vec 4 × Int × Bool) :=
  Le0 (subI .i64 (x0.length : Int) (minI (x0.length : Int) 7)) false x0 (x0.length : Int) 0 (Vec.zero 4) (Vec.zero 4)
noncomputable def fn_read_cut (N : Nat) (x0 : List Int) : Option (Vec 4 × Int × Bool) := t119 N (l119_0 N N) x0
theorem run119 (N : Nat) (x0 : List Int) : Eng.run T119 (G119 N) N live119 c119 Tryz.f119.results.toList Tryz.f119.ntmps ((ad119).enc (x0, ())) (rd119).dec = fn_read_cut N x0 := by
  refine Eq.trans (show _ = t119 N (raw119_0 N N) x0 from by kernel_rfl) ?_
  unfold fn_read_cut
  rw [eq119_0 N N]
noncomputable def F119 (N : Nat) (a : List Int × Unit) : Option (Vec 4 × Int × Bool) := fn_read_cut N a.1
theorem ok119 (N : Nat) : FnOK Tryz.prog 119 ad119 rd119 (F119 N) :=
  fn_ok (N := N) (live := live119) (code := c119) (tok T119.rt T119.kl (wrNil_ok)) mixed (gok119 N) Tryz.func119 (by kernel_rfl) (by kernel_rfl) (by kernel_rfl) fun a p h => by rw [← h]; exact run119 N a.1

/-! ### (tiller/read.number).ten: function 94 -/
noncomputable def c94 : Code := (Tryz.f94.body).getD .skip
noncomputable def T94 : Tb := ⟨tyOf tys, [(18, 1), (20, 1), (24, 1), (39, 1), (82, 1), (122, 1)], [], wrNil⟩
noncomputable def G94 {R : Type} (N : Nat) : FuncId → List AV → (AV → Option R) → Option R := gCons 27 (gOf ad27 rd27 (F27 N)) (gCons 116 (gOf ad116 rd116 (F116 N)) (gCons 117 (gOf ad117 rd117 (F117 N)) (gCons 118 (gOf ad118 rd118 (F118 N)) (gCons 119 (gOf ad119 rd119 (F119 N)) (gCons 81 (gOf ad81 rd81 (F81 N)) (gCons 104 (gOf ad104 rd104 (F104 N)) (gCons 111 (gOf ad111 rd111 (F111 N)) (gNil))))))))
theorem gok94 {R : Type} (N : Nat) : GOK Tryz.prog (G94 (R := R) N) := gCons_ok (ok27 N) (gCons_ok (ok116 N) (gCons_ok (ok117 N) (gCons_ok (ok118 N) (gCons_ok (ok119 N) (gCons_ok (ok81 N) (gCons_ok (ok104 N) (gCons_ok (ok111 N) (gNil_ok))))))))
noncomputable def live94 : List (Nat × List (Nat × HK)) := []
noncomputable def ad94 : Ad ((List Int × Int × Int × Bool) × Unit) := aC (cSt (fC (lLi .u8) (fC (lInt .i64) (fC (lInt .i64) (fO (lBool)))))) (a0)
noncomputable def rd94 : Rd ((Bool × Int × Vec 4 × Bool) × Option Int) := r2 (cSta (sC (pBool) (sC (pInt .i64) (sC (pVec .u64 4) (sO (pBool)))))) (cErr 92)
noncomputable def fn_read_number_ten (N : Nat) (x0 : (List Int × Int × Int × Bool)) : Option ((Bool × Int × Vec 4 × Bool) × Option Int) :=
  cond (ltI 400 (addI .i64 (addI .i64 x0.2.1 x0.2.2.1) (x0.1.length : Int)))
   ((fn_wide_Of N 1).bind fun r1 =>
    some ((false, 3200, r1, false), none))
   (cond (ltI (addI .i64 (addI .i64 x0.2.1 x0.2.2.1) (x0.1.length : Int)) (-400))
    ((fn_wide_Of N 1).bind fun r2 =>
     some ((false, (-3200), r2, false), none))
    ((fn_read_of N x0.1 10).bind fun r3 =>
     cond (!(isNoneI r3.2))
      (some ((false, 0, Vec.zero 4, false), r3.2))
      ((fn_nat_Pow N 10 (maxI (addI .i64 x0.2.1 x0.2.2.1) (subI .i64 0 (addI .i64 x0.2.1 x0.2.2.1)))).bind fun r4 =>
       cond (!(isNoneI r4.2))
        (some ((false, 0, Vec.zero 4, false), r4.2))
        (cond (leI 0 (addI .i64 x0.2.1 x0.2.2.1))
         ((fn_nat_Mul N r3.1 r4.1).bind fun r5 =>
          cond (!(isNoneI r5.2))
           (some ((false, 0, Vec.zero 4, false), r5.2))
           ((fn_read_cut N r5.1).bind fun r6 =>
            cond r6.2.2
             (some ((false, r6.2.1, r6.1, true), none))
             (some ((false, r6.2.1, r6.1, x0.2.2.2), none))))
         ((fn_nat_Len N r4.1).bind fun r7 =>
          (fn_nat_Len N r3.1).bind fun r8 =>
           (fn_nat_Shl N r3.1 (maxI (subI .i64 (addI .i64 200 r7) r8) 0)).bind fun r9 =>
            cond (!(isNoneI r9.2))
             (some ((false, 0, Vec.zero 4, false), r9.2))
             ((fn_nat_DivMod N r9.1 r4.1).bind fun r10 =>
              (fn_read_cut N r10.1).bind fun r11 =>
               cond r11.2.2
                (some ((false, subI .i64 r11.2.1 (maxI (subI .i64 (addI .i64 200 r7) r8) 0), r11.1, true), r10.2.2))
                (cond x0.2.2.2
                 (some ((false, subI .i64 r11.2.1 (maxI (subI .i64 (addI .i64 200 r7) r8) 0), r11.1, true), r10.2.2))
                 (some ((false, subI .i64 r11.2.1 (maxI (subI .i64 (addI .i64 200 r7) r8) 0), r11.1, ltI 0 (r10.2.1.length : Int)), r10.2.2)))))))))
theorem run94 (N : Nat) (x0 : (List Int × Int × Int × Bool)) : Eng.run T94 (G94 N) N live94 c94 Tryz.f94.results.toList Tryz.f94.ntmps ((ad94).enc (x0, ())) (rd94).dec = fn_read_number_ten N x0 := by kernel_rfl
noncomputable def F94 (N : Nat) (a : (List Int × Int × Int × Bool) × Unit) : Option ((Bool × Int × Vec 4 × Bool) × Option Int) := fn_read_number_ten N a.1
theorem ok94 (N : Nat) : FnOK Tryz.prog 94 ad94 rd94 (F94 N) :=
  fn_ok (N := N) (live := live94) (code := c94) (tok T94.rt T94.kl (wrNil_ok)) mixed (gok94 N) Tryz.func94 (by kernel_rfl) (by kernel_rfl) (by kernel_rfl) fun a p h => by rw [← h]; exact run94 N a.1

/-! ### (tiller/read.number).sixteen: function 95 -/
noncomputable def c95 : Code := (Tryz.f95.body).getD .skip
noncomputable def T95 : Tb := ⟨tyOf tys, [(10, 1), (21, 1), (24, 1), (32, 1)], [], wrNil⟩
noncomputable def G95 {R : Type} (N : Nat) : FuncId → List AV → (AV → Option R) → Option R := gCons 116 (gOf ad116 rd116 (F116 N)) (gCons 119 (gOf ad119 rd119 (F119 N)) (gNil))
theorem gok95 {R : Type} (N : Nat) : GOK Tryz.prog (G95 (R := R) N) := gCons_ok (ok116 N) (gCons_ok (ok119 N) (gNil_ok))
noncomputable def live95 : List (Nat × List (Nat × HK)) := []
noncomputable def ad95 : Ad ((List Int × Int × Int × Bool) × Unit) := aC (cSt (fC (lLi .u8) (fC (lInt .i64) (fC (lInt .i64) (fO (lBool)))))) (a0)
noncomputable def rd95 : Rd ((Bool × Int × Vec 4 × Bool) × Option Int) := r2 (cSta (sC (pBool) (sC (pInt .i64) (sC (pVec .u64 4) (sO (pBool)))))) (cErr 92)
noncomputable def fn_read_number_sixteen (N : Nat) (x0 : (List Int × Int × Int × Bool)) : Option ((Bool × Int × Vec 4 × Bool) × Option Int) :=
  (fn_read_of N x0.1 16).bind fun r1 =>
   (fn_read_cut N r1.1).bind fun r2 =>
    cond r2.2.2
     (some ((false, addI .i64 (addI .i64 (mulI .i64 4 x0.2.1) x0.2.2.1) r2.2.1, r2.1, true), r1.2))
     (some ((false, addI .i64 (addI .i64 (mulI .i64 4 x0.2.1) x0.2.2.1) r2.2.1, r2.1, x0.2.2.2), r1.2))
theorem run95 (N : Nat) (x0 : (List Int × Int × Int × Bool)) : Eng.run T95 (G95 N) N live95 c95 Tryz.f95.results.toList Tryz.f95.ntmps ((ad95).enc (x0, ())) (rd95).dec = fn_read_number_sixteen N x0 := by kernel_rfl
noncomputable def F95 (N : Nat) (a : (List Int × Int × Int × Bool) × Unit) : Option ((Bool × Int × Vec 4 × Bool) × Option Int) := fn_read_number_sixteen N a.1
theorem ok95 (N : Nat) : FnOK Tryz.prog 95 ad95 rd95 (F95 N) :=
  fn_ok (N := N) (live := live95) (code := c95) (tok T95.rt T95.kl (wrNil_ok)) mixed (gok95 N) Tryz.func95 (by kernel_rfl) (by kernel_rfl) (by kernel_rfl) fun a p h => by rw [← h]; exact run95 N a.1

/-! ### tiller/read.enough: function 96 -/
noncomputable def c96 : Code := (Tryz.f96.body).getD .skip
noncomputable def T96 : Tb := ⟨tyOf tys, [(4, 1), (8, 1), (14, 1), (18, 1), (22, 1), (23, 1)], [], wrNil⟩
noncomputable def G96 {R : Type} (N : Nat) : FuncId → List AV → (AV → Option R) → Option R := gCons 57 (gOf ad57 rd57 (F57 N)) (gCons 20 (gOf ad20 rd20 (F20 N)) (gNil))
theorem gok96 {R : Type} (N : Nat) : GOK Tryz.prog (G96 (R := R) N) := gCons_ok (ok57 N) (gCons_ok (ok20 N) (gNil_ok))
noncomputable def live96 : List (Nat × List (Nat × HK)) := []
noncomputable def ad96 : Ad ((Bool × Int × Vec 4 × Bool) × Unit) := aC (cSta (sC (pBool) (sC (pInt .i64) (sC (pVec .u64 4) (sO (pBool)))))) (a0)
noncomputable def rd96 : Rd ((Bool × Int × Vec 4 × Bool)) := r1 (cSta (sC (pBool) (sC (pInt .i64) (sC (pVec .u64 4) (sO (pBool))))))
noncomputable def fn_read_enough (N : Nat) (x0 : (Bool × Int × Vec 4 × Bool)) : Option ((Bool × Int × Vec 4 × Bool)) :=
  (fn_wide_Len N x0.2.2.1).bind fun r1 =>
   cond x0.2.2.2
    (cond (ltI 0 (subI .i64 200 r1))
     ((fn_wide_Shl N x0.2.2.1 (subI .i64 200 r1)).bind fun r2 =>
      some (x0.1, subI .i64 x0.2.1 (subI .i64 200 r1), r2, x0.2.2.2))
     (some (x0.1, x0.2.1, x0.2.2.1, x0.2.2.2)))
    (some (x0.1, x0.2.1, x0.2.2.1, x0.2.2.2))
theorem run96 (N : Nat) (x0 : (Bool × Int × Vec 4 × Bool)) : Eng.run T96 (G96 N) N live96 c96 Tryz.f96.results.toList Tryz.f96.ntmps ((ad96).enc (x0, ())) (rd96).dec = fn_read_enough N x0 := by kernel_rfl
noncomputable def F96 (N : Nat) (a : (Bool × Int × Vec 4 × Bool) × Unit) : Option ((Bool × Int × Vec 4 × Bool)) := fn_read_enough N a.1
theorem ok96 (N : Nat) : FnOK Tryz.prog 96 ad96 rd96 (F96 N) :=
  fn_ok (N := N) (live := live96) (code := c96) (tok T96.rt T96.kl (wrNil_ok)) mixed (gok96 N) Tryz.func96 (by kernel_rfl) (by kernel_rfl) (by kernel_rfl) fun a p h => by rw [← h]; exact run96 N a.1

/-! ### tiller/read.rounded: function 53 -/
noncomputable def c53 : Code := (Tryz.f53.body).getD .skip
noncomputable def T53 : Tb := ⟨tyOf tys, [(17, 4), (48, 13)], [], wrNil⟩
noncomputable def G53 {R : Type} (N : Nat) : FuncId → List AV → (AV → Option R) → Option R := gCons 28 (gOf ad28 rd28 (F28 N)) (gCons 94 (gOf ad94 rd94 (F94 N)) (gCons 95 (gOf ad95 rd95 (F95 N)) (gCons 96 (gOf ad96 rd96 (F96 N)) (gNil))))
theorem gok53 {R : Type} (N : Nat) : GOK Tryz.prog (G53 (R := R) N) := gCons_ok (ok28 N) (gCons_ok (ok94 N) (gCons_ok (ok95 N) (gCons_ok (ok96 N) (gNil_ok))))
noncomputable def live53 : List (Nat × List (Nat × HK)) := []
noncomputable def ad53 : Ad ((List Int × Int × Int × Bool) × Int × Bool × Int × Unit) := aC (cSt (fC (lLi .u8) (fC (lInt .i64) (fC (lInt .i64) (fO (lBool)))))) (aC (cInt .i64) (aC (cBool) (aC (cInt .i64) (a0))))
noncomputable def rd53 : Rd (Int × Int × Option Int) := r3 (cInt .u64) (cInt .u8) (cErr 92)
noncomputable def fn_read_rounded (N : Nat) (x0 : (List Int × Int × Int × Bool)) (x1 : Int) (x2 : Bool) (x3 : Int) : Option (Int × Int × Option Int) :=
  cond (eqI (x0.1.length : Int) 0)
   ((fn_rnd_Round N (x2, 0, Vec.zero 4, false) x3).bind fun r1 =>
    some (r1.1, r1.2, none))
   ((fn_read_number_ten N (x0.1, x0.2.1, x0.2.2.1, x0.2.2.2)).bind fun r2 =>
    cond (eqI x1 16)
     ((fn_read_number_sixteen N (x0.1, x0.2.1, x0.2.2.1, x0.2.2.2)).bind fun r3 =>
      cond (!(isNoneI r3.2))
       (some (0, 0, r3.2))
       ((fn_read_enough N (r3.1.1, r3.1.2.1, r3.1.2.2.1, r3.1.2.2.2)).bind fun r4 =>
        (fn_rnd_Round N (x2, r4.2.1, r4.2.2.1, r4.2.2.2) x3).bind fun r5 =>
         some (r5.1, r5.2, none)))
     (cond (!(isNoneI r2.2))
      (some (0, 0, r2.2))
      ((fn_read_enough N (r2.1.1, r2.1.2.1, r2.1.2.2.1, r2.1.2.2.2)).bind fun r6 =>
       (fn_rnd_Round N (x2, r6.2.1, r6.2.2.1, r6.2.2.2) x3).bind fun r7 =>
        some (r7.1, r7.2, none))))
theorem run53 (N : Nat) (x0 : (List Int × Int × Int × Bool)) (x1 : Int) (x2 : Bool) (x3 : Int) : Eng.run T53 (G53 N) N live53 c53 Tryz.f53.results.toList Tryz.f53.ntmps ((ad53).enc (x0, x1, x2, x3, ())) (rd53).dec = fn_read_rounded N x0 x1 x2 x3 := by kernel_rfl
noncomputable def F53 (N : Nat) (a : (List Int × Int × Int × Bool) × Int × Bool × Int × Unit) : Option (Int × Int × Option Int) := fn_read_rounded N a.1 a.2.1 a.2.2.1 a.2.2.2.1
theorem ok53 (N : Nat) : FnOK Tryz.prog 53 ad53 rd53 (F53 N) :=
  fn_ok (N := N) (live := live53) (code := c53) (tok T53.rt T53.kl (wrNil_ok)) mixed (gok53 N) Tryz.func53 (by kernel_rfl) (by kernel_rfl) (by kernel_rfl) fun a p h => by rw [← h]; exact run53 N a.1 a.2.1 a.2.2.1 a.2.2.2.1

/-! ### tiller/read.Parse: function 17 -/
noncomputable def c17 : Code := (Tryz.f17.body).getD .skip
noncomputable def T17 : Tb := ⟨tyOf tys, [], [], wrNil⟩
noncomputable def G17 {R : Type} (N : Nat) : FuncId → List AV → (AV → Option R) → Option R := gCons 50 (gOf ad50 rd50 (F50 N)) (gCons 41 (gOf ad41 rd41 (F41 N)) (gCons 51 (gOf ad51 rd51 (F51 N)) (gCons 52 (gOf (aC cStr (aC (cInt .i64) (aC cStr (aC cBool a0)))) (r2 (cSt (fC (lLi .u8) (fC (lInt .i64) (fC (lInt .i64) (fO lBool))))) cBool) (fun a => fn_scan N a.1 a.2.1 a.2.2.1 a.2.2.2.1)) (gCons 53 (gOf ad53 rd53 (F53 N)) (gNil)))))
theorem gok17 {R : Type} (N : Nat) : GOK Tryz.prog (G17 (R := R) N) := gCons_ok (ok50 N) (gCons_ok (ok41 N) (gCons_ok (ok51 N) (gCons_ok (scan_ok N) (gCons_ok (ok53 N) (gNil_ok)))))
noncomputable def live17 : List (Nat × List (Nat × HK)) := []
noncomputable def ad17 : Ad (ByteArray × Int × Unit) := aC (cStr) (aC (cInt .i64) (a0))
noncomputable def rd17 : Rd (Int × Int × Option Int) := r3 (cInt .u64) (cInt .u8) (cErr 92)
noncomputable def fn_read_Parse (N : Nat) (x0 : ByteArray) (x1 : Int) : Option (Int × Int × Option Int) :=
  cond (ltI 65536 (x0.size : Int))
   (some (0, 0, some 2))
   ((fn_strings_HasPrefix N x0 (⟨#[45]⟩ : ByteArray)).bind fun r1 =>
    cond r1
     (cond (((leI 0 1) && (leI 1 (x0.size : Int))) && (leI (x0.size : Int) (x0.size : Int)))
      (cond (eqS (x0.extract ((1 : Int).toNat) ((x0.size : Int).toNat)) (⟨#[105, 110, 102]⟩ : ByteArray))
       (cond r1
        ((fn_pat_Neg N 9218868437227405312).bind fun r2 =>
         some (r2, 0, none))
        (some (9218868437227405312, 0, none)))
       (cond (eqS (x0.extract ((1 : Int).toNat) ((x0.size : Int).toNat)) (⟨#[110, 97, 110]⟩ : ByteArray))
        (some (9221120237041090560, 0, none))
        ((fn_strings_CutPrefix N (x0.extract ((1 : Int).toNat) ((x0.size : Int).toNat)) (⟨#[48, 120]⟩ : ByteArray)).bind fun r3 =>
         cond r3.2
          ((fn_scan N r3.1 16 (⟨#[112]⟩ : ByteArray) (eqI 16 16)).bind fun r4 =>
           cond (!(r4.2))
            (some (0, 0, some 3))
            ((fn_read_rounded N (r4.1.1, r4.1.2.1, r4.1.2.2.1, r4.1.2.2.2) 16 r1 x1).bind fun r5 =>
             some (r5.1, r5.2.1, r5.2.2)))
          ((fn_scan N (x0.extract ((1 : Int).toNat) ((x0.size : Int).toNat)) 10 (⟨#[101]⟩ : ByteArray) (eqI 10 16)).bind fun r6 =>
           cond (!(r6.2))
            (some (0, 0, some 3))
            ((fn_read_rounded N (r6.1.1, r6.1.2.1, r6.1.2.2.1, r6.1.2.2.2) 10 r1 x1).bind fun r7 =>
             some (r7.1, r7.2.1, r7.2.2))))))
      (none))
     ((fn_strings_HasPrefix N x0 (⟨#[43]⟩ : ByteArray)).bind fun r8 =>
      cond r8
       (cond (((leI 0 1) && (leI 1 (x0.size : Int))) && (leI (x0.size : Int) (x0.size : Int)))
        (cond (eqS (x0.extract ((1 : Int).toNat) ((x0.size : Int).toNat)) (⟨#[105, 110, 102]⟩ : ByteArray))
         (cond r1
          ((fn_pat_Neg N 9218868437227405312).bind fun r9 =>
           some (r9, 0, none))
          (some (9218868437227405312, 0, none)))
         (cond (eqS (x0.extract ((1 : Int).toNat) ((x0.size : Int).toNat)) (⟨#[110, 97, 110]⟩ : ByteArray))
          (some (9221120237041090560, 0, none))
          ((fn_strings_CutPrefix N (x0.extract ((1 : Int).toNat) ((x0.size : Int).toNat)) (⟨#[48, 120]⟩ : ByteArray)).bind fun r10 =>
           cond r10.2
            ((fn_scan N r10.1 16 (⟨#[112]⟩ : ByteArray) (eqI 16 16)).bind fun r11 =>
             cond (!(r11.2))
              (some (0, 0, some 3))
              ((fn_read_rounded N (r11.1.1, r11.1.2.1, r11.1.2.2.1, r11.1.2.2.2) 16 r1 x1).bind fun r12 =>
               some (r12.1, r12.2.1, r12.2.2)))
            ((fn_scan N (x0.extract ((1 : Int).toNat) ((x0.size : Int).toNat)) 10 (⟨#[101]⟩ : ByteArray) (eqI 10 16)).bind fun r13 =>
             cond (!(r13.2))
              (some (0, 0, some 3))
              ((fn_read_rounded N (r13.1.1, r13.1.2.1, r13.1.2.2.1, r13.1.2.2.2) 10 r1 x1).bind fun r14 =>
               some (r14.1, r14.2.1, r14.2.2))))))
        (none))
       (cond (eqS x0 (⟨#[105, 110, 102]⟩ : ByteArray))
        (cond r1
         ((fn_pat_Neg N 9218868437227405312).bind fun r15 =>
          some (r15, 0, none))
         (some (9218868437227405312, 0, none)))
        (cond (eqS x0 (⟨#[110, 97, 110]⟩ : ByteArray))
         (some (9221120237041090560, 0, none))
         ((fn_strings_CutPrefix N x0 (⟨#[48, 120]⟩ : ByteArray)).bind fun r16 =>
          cond r16.2
           ((fn_scan N r16.1 16 (⟨#[112]⟩ : ByteArray) (eqI 16 16)).bind fun r17 =>
            cond (!(r17.2))
             (some (0, 0, some 3))
             ((fn_read_rounded N (r17.1.1, r17.1.2.1, r17.1.2.2.1, r17.1.2.2.2) 16 r1 x1).bind fun r18 =>
              some (r18.1, r18.2.1, r18.2.2)))
           ((fn_scan N x0 10 (⟨#[101]⟩ : ByteArray) (eqI 10 16)).bind fun r19 =>
            cond (!(r19.2))
             (some (0, 0, some 3))
             ((fn_read_rounded N (r19.1.1, r19.1.2.1, r19.1.2.2.1, r19.1.2.2.2) 10 r1 x1).bind fun r20 =>
              some (r20.1, r20.2.1, r20.2.2))))))))
theorem run17 (N : Nat) (x0 : ByteArray) (x1 : Int) : Eng.run T17 (G17 N) N live17 c17 Tryz.f17.results.toList Tryz.f17.ntmps ((ad17).enc (x0, x1, ())) (rd17).dec = fn_read_Parse N x0 x1 := by kernel_rfl
noncomputable def F17 (N : Nat) (a : ByteArray × Int × Unit) : Option (Int × Int × Option Int) := fn_read_Parse N a.1 a.2.1
theorem ok17 (N : Nat) : FnOK Tryz.prog 17 ad17 rd17 (F17 N) :=
  fn_ok (N := N) (live := live17) (code := c17) (tok T17.rt T17.kl (wrNil_ok)) mixed (gok17 N) Tryz.func17 (by kernel_rfl) (by kernel_rfl) (by kernel_rfl) fun a p h => by rw [← h]; exact run17 N a.1 a.2.1

/-! ### tiller/tillertop.sure: function 5 -/
noncomputable def c5 : Code := (Tryz.f5.body).getD .skip
noncomputable def T5 : Tb := ⟨tyOf tys, [], [], wrNil⟩
noncomputable def G5 {R : Type} (N : Nat) : FuncId → List AV → (AV → Option R) → Option R := gCons 10 (gOf ad10 rd10 (F10 N)) (gCons 16 (gOf ad16 rd16 (F16 N)) (gCons 17 (gOf ad17 rd17 (F17 N)) (gNil)))
theorem gok5 {R : Type} (N : Nat) : GOK Tryz.prog (G5 (R := R) N) := gCons_ok (ok10 N) (gCons_ok (ok16 N) (gCons_ok (ok17 N) (gNil_ok)))
noncomputable def live5 : List (Nat × List (Nat × HK)) := []
noncomputable def ad5 : Ad (Unit) := a0
noncomputable def rd5 : Rd (Bool) := r1 (cBool)
noncomputable def fn_tillertop_sure (N : Nat)  : Option (Bool) :=
  (fn_sums_Add N 4607182418800017408 4607182418800017408 0).bind fun r1 =>
   (fn_show_Short N r1.1).bind fun r2 =>
    (fn_read_Parse N r2 0).bind fun r3 =>
     cond (eqI r1.1 4611686018427387904)
      (cond (eqI r1.2 0)
       (cond (eqS r2 (⟨#[50, 101, 48]⟩ : ByteArray))
        (cond (eqI r3.1 r1.1)
         (some (isNoneI r3.2.2))
         (some false))
        (some false))
       (some false))
      (some false)
theorem run5 (N : Nat)  : Eng.run T5 (G5 N) N live5 c5 Tryz.f5.results.toList Tryz.f5.ntmps ((ad5).enc (())) (rd5).dec = fn_tillertop_sure N  := by kernel_rfl
noncomputable def F5 (N : Nat) (a : Unit) : Option (Bool) := fn_tillertop_sure N 
theorem ok5 (N : Nat) : FnOK Tryz.prog 5 ad5 rd5 (F5 N) :=
  fn_ok (N := N) (live := live5) (code := c5) (tok T5.rt T5.kl (wrNil_ok)) mixed (gok5 N) Tryz.func5 (by kernel_rfl) (by kernel_rfl) (by kernel_rfl) fun a p h => by rw [← h]; exact run5 N 

/-! ### tiller/whole.none: function 30 -/
noncomputable def c30 : Code := (Tryz.f30.body).getD .skip
noncomputable def T30 : Tb := ⟨tyOf tys, [], [], wrNil⟩
noncomputable def G30 {R : Type} (N : Nat) : FuncId → List AV → (AV → Option R) → Option R := gCons 39 (gOf ad39 rd39 (F39 N)) (gNil)
theorem gok30 {R : Type} (N : Nat) : GOK Tryz.prog (G30 (R := R) N) := gCons_ok (ok39 N) (gNil_ok)
noncomputable def live30 : List (Nat × List (Nat × HK)) := []
noncomputable def ad30 : Ad (Int × Int × Unit) := aC (cInt .u64) (aC (cInt .u64) (a0))
noncomputable def rd30 : Rd (Int × Int) := r2 (cInt .u64) (cInt .u8)
noncomputable def fn_whole_none (N : Nat) (x0 : Int) (x1 : Int) : Option (Int × Int) :=
  (fn_pat_Class N x0).bind fun r1 =>
   cond (eqI r1 5)
    (some (9221120237041090560, 1))
    ((fn_pat_Class N x1).bind fun r2 =>
     cond (eqI r2 5)
      (some (9221120237041090560, 1))
      (some (9221120237041090560, 0)))
theorem run30 (N : Nat) (x0 : Int) (x1 : Int) : Eng.run T30 (G30 N) N live30 c30 Tryz.f30.results.toList Tryz.f30.ntmps ((ad30).enc (x0, x1, ())) (rd30).dec = fn_whole_none N x0 x1 := by kernel_rfl
noncomputable def F30 (N : Nat) (a : Int × Int × Unit) : Option (Int × Int) := fn_whole_none N a.1 a.2.1
theorem ok30 (N : Nat) : FnOK Tryz.prog 30 ad30 rd30 (F30 N) :=
  fn_ok (N := N) (live := live30) (code := c30) (tok T30.rt T30.kl (wrNil_ok)) mixed (gok30 N) Tryz.func30 (by kernel_rfl) (by kernel_rfl) (by kernel_rfl) fun a p h => by rw [← h]; exact run30 N a.1 a.2.1

/-! ### tiller/wide.DivMod: function 26 -/
noncomputable def c26 : Code := (Tryz.f26.body).getD .skip
noncomputable def T26 : Tb := ⟨tyOf tys, [(39, 7), (45, 7)], [], wrNil⟩
noncomputable def G26 {R : Type} (N : Nat) : FuncId → List AV → (AV → Option R) → Option R := gCons 57 (gOf ad57 rd57 (F57 N)) (gCons 20 (gOf ad20 rd20 (F20 N)) (gCons 21 (gOf ad21 rd21 (F21 N)) (gNil)))
theorem gok26 {R : Type} (N : Nat) : GOK Tryz.prog (G26 (R := R) N) := gCons_ok (ok57 N) (gCons_ok (ok20 N) (gCons_ok (ok21 N) (gNil_ok)))
noncomputable def live26 : List (Nat × List (Nat × HK)) := [(5, [(2, .keep), (3, .keep), (4, .keep), (5, .keep), (7, .keep), (8, .keep)])]
noncomputable def ad26 : Ad (Vec 4 × Vec 4 × Unit) := aC (cVec .u64 4) (aC (cVec .u64 4) (a0))
noncomputable def rd26 : Rd (Vec 4 × Vec 4 × Option Int) := r3 (cVec .u64 4) (cVec .u64 4) (cErr 92)
noncomputable def st26_0 (v0 : Int) (v1 : Vec 4) (v2 : Vec 4) (v3 : Vec 4) (v4 : Vec 4) (v5 : Vec 4) : St := ⟨[AV.none, AV.none, AV.ptr 2 0, AV.ptr 3 0, AV.ptr 4 0, AV.ptr 5 0, AV.none, AV.ptr 7 0, AV.v (.int .i64 v0), AV.none, AV.none, AV.none, AV.none, AV.none, AV.none, AV.none, AV.none, AV.none, AV.none, AV.none, AV.none, AV.none, AV.none, AV.none, AV.none, AV.none, AV.none, AV.none, AV.none, AV.none, AV.none, AV.none, AV.none, AV.none, AV.none, AV.none, AV.none, AV.none, AV.none, AV.none, AV.none, AV.none, AV.none, AV.none, AV.none, AV.none, AV.none, AV.none], [none, none, some (OB.arr .u64 4 v1), some (OB.arr .u64 4 v2), some (OB.arr .u64 4 v3), some (OB.arr .u64 4 v4), none, some (OB.arr .u64 4 v5), none, none, none, none, none, none, none, none, none, none, none, none, none, none, none, none, none, none, none, none, none, none, none, none, none, none, none, none, none, none, none, none, none, none, none, none, none, none, none, none]⟩
noncomputable def raw26_0 (N : Nat) (n : Nat) (v0 : Int) (v1 : Vec 4) (v2 : Vec 4) (v3 : Vec 4) (v4 : Vec 4) (v5 : Vec 4) : Option (Vec 4 × Vec 4 × Option Int) := loopN (lookN live26 5) (exec T26 (G26 N) N live26 (cL (cL (cR (cL (cR (cR (cR c26)))))))) n (st26_0 v0 v1 v2 v3 v4 v5) (blockK 0 (seqK (exec T26 (G26 N) N live26 (cR (cR (cR (cR c26))))) (retK T26 Tryz.f26.results.toList (rd26).dec)))
noncomputable def s26_0 (N : Nat) (Ln0 : Int → Vec 4 → Vec 4 → Vec 4 → Vec 4 → Vec 4 → Option (Vec 4 × Vec 4 × Option Int)) (v0 : Int) (v1 : Vec 4) (v2 : Vec 4) (v3 : Vec 4) (v4 : Vec 4) (v5 : Vec 4) : Option (Vec 4 × Vec 4 × Option Int) :=
  cond (leI 0 v0)
   ((fn_wide_Shl N v2 v0).bind fun r3 =>
    (fn_wide_Sub N v1 r3).bind fun r4 =>
     cond (!(r4.2))
      (cond (leI 0 (quoI .i64 v0 64))
       (cond (ltI (quoI .i64 v0 64) 4)
        (cond (ltI (remI .i64 v0 64) 0)
         (none)
         (cond (leI 0 (quoI .i64 v0 64))
          (cond (ltI (quoI .i64 v0 64) 4)
           (Ln0 (subI .i64 v0 1) r4.1 v2 v3 v4 (Vec.st v5 (quoI .i64 v0 64) (orI .u64 (Vec.rd v5 (quoI .i64 v0 64)) (shlI .u64 1 (remI .i64 v0 64)))))
           (none))
          (none)))
        (none))
       (none))
      (Ln0 (subI .i64 v0 1) v1 v2 v3 v4 v5))
   (some (v5, v1, none))
theorem step26_0 (N : Nat) (n : Nat) (v0 : Int) (v1 : Vec 4) (v2 : Vec 4) (v3 : Vec 4) (v4 : Vec 4) (v5 : Vec 4) : raw26_0 N  (n + 1) v0 v1 v2 v3 v4 v5 = s26_0 N (raw26_0 N  n) v0 v1 v2 v3 v4 v5 := by kernel_rfl
noncomputable def l26_0 (N : Nat) : Nat → Int → Vec 4 → Vec 4 → Vec 4 → Vec 4 → Vec 4 → Option (Vec 4 × Vec 4 × Option Int)
  | 0 => fun _ _ _ _ _ _ => none
  | n + 1 => fun v0 v1 v2 v3 v4 v5 => s26_0 N (l26_0 N  n) v0 v1 v2 v3 v4 v5
theorem eq26_0 (N : Nat) : ∀ n, raw26_0 N  n = l26_0 N  n := by
  intro n
  induction n with
  | zero => exact funext fun v0 => funext fun v1 => funext fun v2 => funext fun v3 => funext fun v4 => funext fun v5 => rfl
  | succ n ih => exact funext fun v0 => funext fun v1 => funext fun v2 => funext fun v3 => funext fun v4 => funext fun v5 => by rw [step26_0, ih]; rfl
noncomputable def t26 (N : Nat) (Le0 : Int → Vec 4 → Vec 4 → Vec 4 → Vec 4 → Vec 4 → Option (Vec 4 × Vec 4 × Option Int)) (x0 : Vec 4) (x1 : Vec 4) : Option (Vec 4 × Vec 4 × Option Int) :=
  cond (eqL x1.1 (Vec.zero 4).1)
   (some (Vec.zero 4, Vec.zero 4, some 5))
   ((fn_wide_Len N x0).bind fun r1 =>
    (fn_wide_Len N x1).bind fun r2 =>
     Le0 (subI .i64 r1 r2) x0 x1 (Vec.zero 4) (Vec.zero 4) (Vec.zero 4))
noncomputable def fn_wide_DivMod (N : Nat) (x0 : Vec 4) (x1 : Vec 4) : Option (Vec 4 × Vec 4 × Option Int) := t26 N (l26_0 N N) x0 x1
theorem run26 (N : Nat) (x0 : Vec 4) (x1 : Vec 4) : Eng.run T26 (G26 N) N live26 c26 Tryz.f26.results.toList Tryz.f26.ntmps ((ad26).enc (x0, x1, ())) (rd26).dec = fn_wide_DivMod N x0 x1 := by
  refine Eq.trans (show _ = t26 N (raw26_0 N N) x0 x1 from by kernel_rfl) ?_
  unfold fn_wide_DivMod
  rw [eq26_0 N N]
noncomputable def F26 (N : Nat) (a : Vec 4 × Vec 4 × Unit) : Option (Vec 4 × Vec 4 × Option Int) := fn_wide_DivMod N a.1 a.2.1
theorem ok26 (N : Nat) : FnOK Tryz.prog 26 ad26 rd26 (F26 N) :=
  fn_ok (N := N) (live := live26) (code := c26) (tok T26.rt T26.kl (wrNil_ok)) mixed (gok26 N) Tryz.func26 (by kernel_rfl) (by kernel_rfl) (by kernel_rfl) fun a p h => by rw [← h]; exact run26 N a.1 a.2.1

/-! ### tiller/whole.under: function 97 -/
noncomputable def c97 : Code := (Tryz.f97.body).getD .skip
noncomputable def T97 : Tb := ⟨tyOf tys, [(10, 2), (13, 2), (16, 3), (18, 2), (25, 5), (27, 3), (32, 5), (34, 5), (36, 5), (43, 7), (47, 5), (48, 5)], [], wrNil⟩
noncomputable def G97 {R : Type} (N : Nat) : FuncId → List AV → (AV → Option R) → Option R := gCons 27 (gOf ad27 rd27 (F27 N)) (gCons 20 (gOf ad20 rd20 (F20 N)) (gCons 26 (gOf ad26 rd26 (F26 N)) (gNil)))
theorem gok97 {R : Type} (N : Nat) : GOK Tryz.prog (G97 (R := R) N) := gCons_ok (ok27 N) (gCons_ok (ok20 N) (gCons_ok (ok26 N) (gNil_ok)))
noncomputable def live97 : List (Nat × List (Nat × HK)) := []
noncomputable def ad97 : Ad ((Bool × Int × Int × Int) × (Bool × Int × Int × Int) × Unit) := aC (cSt (fC (lBool) (fC (lInt .i64) (fC (lInt .i64) (fO (lInt .u64)))))) (aC (cSt (fC (lBool) (fC (lInt .i64) (fC (lInt .i64) (fO (lInt .u64)))))) (a0))
noncomputable def rd97 : Rd ((Vec 4 × Vec 4 × Int × Bool)) := r1 (cSta (sC (pVec .u64 4) (sC (pVec .u64 4) (sC (pInt .i64) (sO (pBool))))))
noncomputable def fn_whole_under (N : Nat) (x0 : (Bool × Int × Int × Int)) (x1 : (Bool × Int × Int × Int)) : Option ((Vec 4 × Vec 4 × Int × Bool)) :=
  (fn_wide_Of N x0.2.2.2).bind fun r1 =>
   cond (ltI 100 (subI .i64 x1.2.2.1 x0.2.2.1))
    ((fn_wide_Of N 1).bind fun r2 =>
     (fn_wide_Shl N r2 200).bind fun r3 =>
      some (r1, r3, x0.2.2.1, false))
    ((fn_wide_Of N x1.2.2.2).bind fun r4 =>
     (fn_wide_Shl N r4 (subI .i64 x1.2.2.1 x0.2.2.1)).bind fun r5 =>
      (fn_wide_DivMod N r1 r5).bind fun r6 =>
       some (r6.2.1, r5, x0.2.2.1, eqI (andI .u64 (Vec.rd r6.1 0) 1) 1))
theorem run97 (N : Nat) (x0 : (Bool × Int × Int × Int)) (x1 : (Bool × Int × Int × Int)) : Eng.run T97 (G97 N) N live97 c97 Tryz.f97.results.toList Tryz.f97.ntmps ((ad97).enc (x0, x1, ())) (rd97).dec = fn_whole_under N x0 x1 := by kernel_rfl
noncomputable def F97 (N : Nat) (a : (Bool × Int × Int × Int) × (Bool × Int × Int × Int) × Unit) : Option ((Vec 4 × Vec 4 × Int × Bool)) := fn_whole_under N a.1 a.2.1
theorem ok97 (N : Nat) : FnOK Tryz.prog 97 ad97 rd97 (F97 N) :=
  fn_ok (N := N) (live := live97) (code := c97) (tok T97.rt T97.kl (wrNil_ok)) mixed (gok97 N) Tryz.func97 (by kernel_rfl) (by kernel_rfl) (by kernel_rfl) fun a p h => by rw [← h]; exact run97 N a.1 a.2.1

/-! ### tiller/whole.divide: function 54 -/
noncomputable def c54 : Code := (Tryz.f54.body).getD .skip
noncomputable def T54 : Tb := ⟨tyOf tys, [(11, 2), (13, 3), (19, 3), (22, 3), (26, 2), (29, 5), (35, 6), (39, 5), (40, 2), (42, 3), (53, 5), (59, 6), (63, 5), (68, 5)], [], wrNil⟩
noncomputable def G54 {R : Type} (N : Nat) : FuncId → List AV → (AV → Option R) → Option R := gCons 97 (gOf ad97 rd97 (F97 N)) (gCons 27 (gOf ad27 rd27 (F27 N)) (gCons 26 (gOf ad26 rd26 (F26 N)) (gCons 20 (gOf ad20 rd20 (F20 N)) (gNil))))
theorem gok54 {R : Type} (N : Nat) : GOK Tryz.prog (G54 (R := R) N) := gCons_ok (ok97 N) (gCons_ok (ok27 N) (gCons_ok (ok26 N) (gCons_ok (ok20 N) (gNil_ok))))
noncomputable def live54 : List (Nat × List (Nat × HK)) := [(7, [(4, .keep), (5, .keep), (6, .keep), (7, .keep), (9, .keep)])]
noncomputable def ad54 : Ad ((Bool × Int × Int × Int) × (Bool × Int × Int × Int) × Unit) := aC (cSt (fC (lBool) (fC (lInt .i64) (fC (lInt .i64) (fO (lInt .u64)))))) (aC (cSt (fC (lBool) (fC (lInt .i64) (fC (lInt .i64) (fO (lInt .u64)))))) (a0))
noncomputable def rd54 : Rd ((Vec 4 × Vec 4 × Int × Bool)) := r1 (cSta (sC (pVec .u64 4) (sC (pVec .u64 4) (sC (pInt .i64) (sO (pBool))))))
noncomputable def st54_0 (v0 : Int) (v1 : Vec 4) (v2 : Vec 4) (v3 : Int) (v4 : Bool) (v5 : Vec 4) (v6 : Vec 4) (v7 : Int) (v8 : Bool) (v9 : Vec 4) (v10 : Vec 4) : St := ⟨[AV.none, AV.none, AV.none, AV.none, AV.ptr 4 0, AV.ptr 5 0, AV.ptr 6 0, AV.ptr 7 0, AV.none, AV.v (.int .i64 v0), AV.none, AV.none, AV.none, AV.none, AV.none, AV.none, AV.none, AV.none, AV.none, AV.none, AV.none, AV.none, AV.none, AV.none, AV.none, AV.none, AV.none, AV.none, AV.none, AV.none, AV.none, AV.none, AV.none, AV.none, AV.none, AV.none, AV.none, AV.none, AV.none, AV.none, AV.none, AV.none, AV.none, AV.none, AV.none, AV.none, AV.none, AV.none, AV.none, AV.none, AV.none, AV.none, AV.none, AV.none, AV.none, AV.none, AV.none, AV.none, AV.none, AV.none, AV.none, AV.none, AV.none, AV.none, AV.none, AV.none, AV.none, AV.none, AV.none, AV.none], [none, none, none, none, some (OB.sta [AV.arr .u64 4 v1, AV.arr .u64 4 v2, AV.v (.int .i64 v3), AV.v (.bool v4)]), some (OB.sta [AV.arr .u64 4 v5, AV.arr .u64 4 v6, AV.v (.int .i64 v7), AV.v (.bool v8)]), some (OB.arr .u64 4 v9), some (OB.arr .u64 4 v10), none, none, none, none, none, none, none, none, none, none, none, none, none, none, none, none, none, none, none, none, none, none, none, none, none, none, none, none, none, none, none, none, none, none, none, none, none, none, none, none, none, none, none, none, none, none, none, none, none, none, none, none, none, none, none, none, none, none, none, none, none, none]⟩
noncomputable def raw54_0 (N : Nat) (n : Nat) (v0 : Int) (v1 : Vec 4) (v2 : Vec 4) (v3 : Int) (v4 : Bool) (v5 : Vec 4) (v6 : Vec 4) (v7 : Int) (v8 : Bool) (v9 : Vec 4) (v10 : Vec 4) : Option ((Vec 4 × Vec 4 × Int × Bool)) := loopN (lookN live54 7) (exec T54 (G54 N) N live54 (cL (cL (cR (cL (cR (cR (cR (cR (cR c54)))))))))) n (st54_0 v0 v1 v2 v3 v4 v5 v6 v7 v8 v9 v10) (blockK 0 (seqK (exec T54 (G54 N) N live54 (cR (cR (cR (cR (cR (cR c54))))))) (retK T54 Tryz.f54.results.toList (rd54).dec)))
noncomputable def s54_0 (N : Nat) (Ln0 : Int → Vec 4 → Vec 4 → Int → Bool → Vec 4 → Vec 4 → Int → Bool → Vec 4 → Vec 4 → Option ((Vec 4 × Vec 4 × Int × Bool))) (v0 : Int) (v1 : Vec 4) (v2 : Vec 4) (v3 : Int) (v4 : Bool) (v5 : Vec 4) (v6 : Vec 4) (v7 : Int) (v8 : Bool) (v9 : Vec 4) (v10 : Vec 4) : Option ((Vec 4 × Vec 4 × Int × Bool)) :=
  cond (ltI 0 v0)
   ((fn_wide_Shl N v10 (minI v0 64)).bind fun r5 =>
    (fn_wide_DivMod N r5 v6).bind fun r6 =>
     Ln0 (subI .i64 v0 (minI v0 64)) v1 v2 v3 v4 v5 v6 v7 (eqI (andI .u64 (Vec.rd r6.1 0) 1) 1) r6.1 r6.2.1)
   (some (v10, v6, v7, v8))
theorem step54_0 (N : Nat) (n : Nat) (v0 : Int) (v1 : Vec 4) (v2 : Vec 4) (v3 : Int) (v4 : Bool) (v5 : Vec 4) (v6 : Vec 4) (v7 : Int) (v8 : Bool) (v9 : Vec 4) (v10 : Vec 4) : raw54_0 N  (n + 1) v0 v1 v2 v3 v4 v5 v6 v7 v8 v9 v10 = s54_0 N (raw54_0 N  n) v0 v1 v2 v3 v4 v5 v6 v7 v8 v9 v10 := by kernel_rfl
noncomputable def l54_0 (N : Nat) : Nat → Int → Vec 4 → Vec 4 → Int → Bool → Vec 4 → Vec 4 → Int → Bool → Vec 4 → Vec 4 → Option ((Vec 4 × Vec 4 × Int × Bool))
  | 0 => fun _ _ _ _ _ _ _ _ _ _ _ => none
  | n + 1 => fun v0 v1 v2 v3 v4 v5 v6 v7 v8 v9 v10 => s54_0 N (l54_0 N  n) v0 v1 v2 v3 v4 v5 v6 v7 v8 v9 v10
theorem eq54_0 (N : Nat) : ∀ n, raw54_0 N  n = l54_0 N  n := by
  intro n
  induction n with
  | zero => exact funext fun v0 => funext fun v1 => funext fun v2 => funext fun v3 => funext fun v4 => funext fun v5 => funext fun v6 => funext fun v7 => funext fun v8 => funext fun v9 => funext fun v10 => rfl
  | succ n ih => exact funext fun v0 => funext fun v1 => funext fun v2 => funext fun v3 => funext fun v4 => funext fun v5 => funext fun v6 => funext fun v7 => funext fun v8 => funext fun v9 => funext fun v10 => by rw [step54_0, ih]; rfl
noncomputable def t54 (N : Nat) (Le0 : Int → Vec 4 → Vec 4 → Int → Bool → Vec 4 → Vec 4 → Int → Bool → Vec 4 → Vec 4 → Option ((Vec 4 × Vec 4 × Int × Bool))) (x0 : (Bool × Int × Int × Int)) (x1 : (Bool × Int × Int × Int)) : Option ((Vec 4 × Vec 4 × Int × Bool)) :=
  cond (ltI x0.2.2.1 x1.2.2.1)
   ((fn_whole_under N (x0.1, x0.2.1, x0.2.2.1, x0.2.2.2) (x1.1, x1.2.1, x1.2.2.1, x1.2.2.2)).bind fun r1 =>
    some (r1.1, r1.2.1, r1.2.2.1, r1.2.2.2))
   ((fn_wide_Of N x1.2.2.2).bind fun r2 =>
    (fn_wide_Of N x0.2.2.2).bind fun r3 =>
     (fn_wide_DivMod N r3 r2).bind fun r4 =>
      Le0 (subI .i64 x0.2.2.1 x1.2.2.1) (Vec.zero 4) (Vec.zero 4) 0 false (Vec.zero 4) r2 x1.2.2.1 (eqI (andI .u64 (Vec.rd r4.1 0) 1) 1) r4.1 r4.2.1)
noncomputable def fn_whole_divide (N : Nat) (x0 : (Bool × Int × Int × Int)) (x1 : (Bool × Int × Int × Int)) : Option ((Vec 4 × Vec 4 × Int × Bool)) := t54 N (l54_0 N N) x0 x1
theorem run54 (N : Nat) (x0 : (Bool × Int × Int × Int)) (x1 : (Bool × Int × Int × Int)) : Eng.run T54 (G54 N) N live54 c54 Tryz.f54.results.toList Tryz.f54.ntmps ((ad54).enc (x0, x1, ())) (rd54).dec = fn_whole_divide N x0 x1 := by
  refine Eq.trans (show _ = t54 N (raw54_0 N N) x0 x1 from by kernel_rfl) ?_
  unfold fn_whole_divide
  rw [eq54_0 N N]
noncomputable def F54 (N : Nat) (a : (Bool × Int × Int × Int) × (Bool × Int × Int × Int) × Unit) : Option ((Vec 4 × Vec 4 × Int × Bool)) := fn_whole_divide N a.1 a.2.1
theorem ok54 (N : Nat) : FnOK Tryz.prog 54 ad54 rd54 (F54 N) :=
  fn_ok (N := N) (live := live54) (code := c54) (tok T54.rt T54.kl (wrNil_ok)) mixed (gok54 N) Tryz.func54 (by kernel_rfl) (by kernel_rfl) (by kernel_rfl) fun a p h => by rw [← h]; exact run54 N a.1 a.2.1

/-! ### tiller/whole.rests: function 18 -/
noncomputable def c18 : Code := (Tryz.f18.body).getD .skip
noncomputable def T18 : Tb := ⟨tyOf tys, [(33, 8), (37, 9), (43, 9), (47, 8)], [], wrNil⟩
noncomputable def G18 {R : Type} (N : Nat) : FuncId → List AV → (AV → Option R) → Option R := gCons 23 (gOf ad23 rd23 (F23 N)) (gCons 24 (gOf ad24 rd24 (F24 N)) (gCons 30 (gOf ad30 rd30 (F30 N)) (gCons 54 (gOf ad54 rd54 (F54 N)) (gNil))))
theorem gok18 {R : Type} (N : Nat) : GOK Tryz.prog (G18 (R := R) N) := gCons_ok (ok23 N) (gCons_ok (ok24 N) (gCons_ok (ok30 N) (gCons_ok (ok54 N) (gNil_ok))))
noncomputable def live18 : List (Nat × List (Nat × HK)) := []
noncomputable def ad18 : Ad (Int × Int × Unit) := aC (cInt .u64) (aC (cInt .u64) (a0))
noncomputable def rd18 : Rd ((Vec 4 × Vec 4 × Int × Bool) × Bool × Int × Int) := r4 (cSta (sC (pVec .u64 4) (sC (pVec .u64 4) (sC (pInt .i64) (sO (pBool)))))) (cBool) (cInt .u64) (cInt .u8)
noncomputable def fn_whole_rests (N : Nat) (x0 : Int) (x1 : Int) : Option ((Vec 4 × Vec 4 × Int × Bool) × Bool × Int × Int) :=
  (fn_pat_Take N x0).bind fun r1 =>
   (fn_pat_Take N x1).bind fun r2 =>
    (fn_pat_IsNaN N x0).bind fun r3 =>
     cond r3
      ((fn_whole_none N x0 x1).bind fun r4 =>
       some ((Vec.zero 4, Vec.zero 4, 0, false), false, r4.1, r4.2))
      ((fn_pat_IsNaN N x1).bind fun r5 =>
       cond r5
        ((fn_whole_none N x0 x1).bind fun r6 =>
         some ((Vec.zero 4, Vec.zero 4, 0, false), false, r6.1, r6.2))
        (cond (eqI r1.2.1 3)
         (some ((Vec.zero 4, Vec.zero 4, 0, false), false, 9221120237041090560, 1))
         (cond (eqI r2.2.1 0)
          (some ((Vec.zero 4, Vec.zero 4, 0, false), false, 9221120237041090560, 1))
          (cond (eqI r2.2.1 3)
           (some ((Vec.zero 4, Vec.zero 4, 0, false), false, x0, 0))
           (cond (eqI r1.2.1 0)
            (some ((Vec.zero 4, Vec.zero 4, 0, false), false, x0, 0))
            ((fn_whole_divide N (r1.1, r1.2.1, r1.2.2.1, r1.2.2.2) (r2.1, r2.2.1, r2.2.2.1, r2.2.2.2)).bind fun r7 =>
             some ((r7.1, r7.2.1, r7.2.2.1, r7.2.2.2), true, 0, 0)))))))
theorem run18 (N : Nat) (x0 : Int) (x1 : Int) : Eng.run T18 (G18 N) N live18 c18 Tryz.f18.results.toList Tryz.f18.ntmps ((ad18).enc (x0, x1, ())) (rd18).dec = fn_whole_rests N x0 x1 := by kernel_rfl
noncomputable def F18 (N : Nat) (a : Int × Int × Unit) : Option ((Vec 4 × Vec 4 × Int × Bool) × Bool × Int × Int) := fn_whole_rests N a.1 a.2.1
theorem ok18 (N : Nat) : FnOK Tryz.prog 18 ad18 rd18 (F18 N) :=
  fn_ok (N := N) (live := live18) (code := c18) (tok T18.rt T18.kl (wrNil_ok)) mixed (gok18 N) Tryz.func18 (by kernel_rfl) (by kernel_rfl) (by kernel_rfl) fun a p h => by rw [← h]; exact run18 N a.1 a.2.1

/-! ### (tiller/whole.rest).made: function 22 -/
noncomputable def c22 : Code := (Tryz.f22.body).getD .skip
noncomputable def T22 : Tb := ⟨tyOf tys, [(7, 2), (9, 2)], [], wrNil⟩
noncomputable def G22 {R : Type} (N : Nat) : FuncId → List AV → (AV → Option R) → Option R := gCons 28 (gOf ad28 rd28 (F28 N)) (gNil)
theorem gok22 {R : Type} (N : Nat) : GOK Tryz.prog (G22 (R := R) N) := gCons_ok (ok28 N) (gNil_ok)
noncomputable def live22 : List (Nat × List (Nat × HK)) := []
noncomputable def ad22 : Ad ((Vec 4 × Vec 4 × Int × Bool) × Bool × Unit) := aC (cSta (sC (pVec .u64 4) (sC (pVec .u64 4) (sC (pInt .i64) (sO (pBool)))))) (aC (cBool) (a0))
noncomputable def rd22 : Rd (Int × Int) := r2 (cInt .u64) (cInt .u8)
noncomputable def fn_whole_rest_made (N : Nat) (x0 : (Vec 4 × Vec 4 × Int × Bool)) (x1 : Bool) : Option (Int × Int) :=
  (fn_rnd_Round N (x1, x0.2.2.1, x0.1, false) 0).bind fun r1 =>
   some (r1.1, r1.2)
theorem run22 (N : Nat) (x0 : (Vec 4 × Vec 4 × Int × Bool)) (x1 : Bool) : Eng.run T22 (G22 N) N live22 c22 Tryz.f22.results.toList Tryz.f22.ntmps ((ad22).enc (x0, x1, ())) (rd22).dec = fn_whole_rest_made N x0 x1 := by kernel_rfl
noncomputable def F22 (N : Nat) (a : (Vec 4 × Vec 4 × Int × Bool) × Bool × Unit) : Option (Int × Int) := fn_whole_rest_made N a.1 a.2.1
theorem ok22 (N : Nat) : FnOK Tryz.prog 22 ad22 rd22 (F22 N) :=
  fn_ok (N := N) (live := live22) (code := c22) (tok T22.rt T22.kl (wrNil_ok)) mixed (gok22 N) Tryz.func22 (by kernel_rfl) (by kernel_rfl) (by kernel_rfl) fun a p h => by rw [← h]; exact run22 N a.1 a.2.1

/-! ### tiller/whole.Rem: function 6 -/
noncomputable def c6 : Code := (Tryz.f6.body).getD .skip
noncomputable def T6 : Tb := ⟨tyOf tys, [(27, 6), (30, 6), (39, 6), (44, 6), (46, 6), (51, 6)], [], wrNil⟩
noncomputable def G6 {R : Type} (N : Nat) : FuncId → List AV → (AV → Option R) → Option R := gCons 18 (gOf ad18 rd18 (F18 N)) (gCons 20 (gOf ad20 rd20 (F20 N)) (gCons 19 (gOf ad19 rd19 (F19 N)) (gCons 21 (gOf ad21 rd21 (F21 N)) (gCons 22 (gOf ad22 rd22 (F22 N)) (gNil)))))
theorem gok6 {R : Type} (N : Nat) : GOK Tryz.prog (G6 (R := R) N) := gCons_ok (ok18 N) (gCons_ok (ok20 N) (gCons_ok (ok19 N) (gCons_ok (ok21 N) (gCons_ok (ok22 N) (gNil_ok)))))
noncomputable def live6 : List (Nat × List (Nat × HK)) := []
noncomputable def ad6 : Ad (Int × Int × Unit) := aC (cInt .u64) (aC (cInt .u64) (a0))
noncomputable def rd6 : Rd (Int × Int) := r2 (cInt .u64) (cInt .u8)
noncomputable def fn_whole_Rem (N : Nat) (x0 : Int) (x1 : Int) : Option (Int × Int) :=
  (fn_whole_rests N x0 x1).bind fun r1 =>
   cond (!(r1.2.1))
    (some (r1.2.2.1, r1.2.2.2))
    ((fn_wide_Shl N r1.1.1 1).bind fun r2 =>
     (fn_wide_Cmp N r2 r1.1.2.1).bind fun r3 =>
      cond (ltI 0 r3)
       ((fn_wide_Sub N r1.1.2.1 r1.1.1).bind fun r4 =>
        (fn_whole_rest_made N (r4.1, r1.1.2.1, r1.1.2.2.1, r1.1.2.2.2) (!(!(eqI (andI .u64 x0 9223372036854775808) 0)))).bind fun r5 =>
         some (r5.1, r5.2))
       (cond (eqI r3 0)
        (cond r1.1.2.2.2
         ((fn_wide_Sub N r1.1.2.1 r1.1.1).bind fun r6 =>
          (fn_whole_rest_made N (r6.1, r1.1.2.1, r1.1.2.2.1, r1.1.2.2.2) (!(!(eqI (andI .u64 x0 9223372036854775808) 0)))).bind fun r7 =>
           some (r7.1, r7.2))
         ((fn_whole_rest_made N (r1.1.1, r1.1.2.1, r1.1.2.2.1, r1.1.2.2.2) (!(eqI (andI .u64 x0 9223372036854775808) 0))).bind fun r8 =>
          some (r8.1, r8.2)))
        ((fn_whole_rest_made N (r1.1.1, r1.1.2.1, r1.1.2.2.1, r1.1.2.2.2) (!(eqI (andI .u64 x0 9223372036854775808) 0))).bind fun r9 =>
         some (r9.1, r9.2))))
theorem run6 (N : Nat) (x0 : Int) (x1 : Int) : Eng.run T6 (G6 N) N live6 c6 Tryz.f6.results.toList Tryz.f6.ntmps ((ad6).enc (x0, x1, ())) (rd6).dec = fn_whole_Rem N x0 x1 := by kernel_rfl
noncomputable def F6 (N : Nat) (a : Int × Int × Unit) : Option (Int × Int) := fn_whole_Rem N a.1 a.2.1
theorem ok6 (N : Nat) : FnOK Tryz.prog 6 ad6 rd6 (F6 N) :=
  fn_ok (N := N) (live := live6) (code := c6) (tok T6.rt T6.kl (wrNil_ok)) mixed (gok6 N) Tryz.func6 (by kernel_rfl) (by kernel_rfl) (by kernel_rfl) fun a p h => by rw [← h]; exact run6 N a.1 a.2.1

/-! ### tiller/quot.none: function 25 -/
noncomputable def c25 : Code := (Tryz.f25.body).getD .skip
noncomputable def T25 : Tb := ⟨tyOf tys, [], [], wrNil⟩
noncomputable def G25 {R : Type} (N : Nat) : FuncId → List AV → (AV → Option R) → Option R := gCons 39 (gOf ad39 rd39 (F39 N)) (gNil)
theorem gok25 {R : Type} (N : Nat) : GOK Tryz.prog (G25 (R := R) N) := gCons_ok (ok39 N) (gNil_ok)
noncomputable def live25 : List (Nat × List (Nat × HK)) := []
noncomputable def ad25 : Ad (Int × Int × Unit) := aC (cInt .u64) (aC (cInt .u64) (a0))
noncomputable def rd25 : Rd (Int × Int) := r2 (cInt .u64) (cInt .u8)
noncomputable def fn_quot_none (N : Nat) (x0 : Int) (x1 : Int) : Option (Int × Int) :=
  (fn_pat_Class N x0).bind fun r1 =>
   cond (eqI r1 5)
    (some (9221120237041090560, 1))
    ((fn_pat_Class N x1).bind fun r2 =>
     cond (eqI r2 5)
      (some (9221120237041090560, 1))
      (some (9221120237041090560, 0)))
theorem run25 (N : Nat) (x0 : Int) (x1 : Int) : Eng.run T25 (G25 N) N live25 c25 Tryz.f25.results.toList Tryz.f25.ntmps ((ad25).enc (x0, x1, ())) (rd25).dec = fn_quot_none N x0 x1 := by kernel_rfl
noncomputable def F25 (N : Nat) (a : Int × Int × Unit) : Option (Int × Int) := fn_quot_none N a.1 a.2.1
theorem ok25 (N : Nat) : FnOK Tryz.prog 25 ad25 rd25 (F25 N) :=
  fn_ok (N := N) (live := live25) (code := c25) (tok T25.rt T25.kl (wrNil_ok)) mixed (gok25 N) Tryz.func25 (by kernel_rfl) (by kernel_rfl) (by kernel_rfl) fun a p h => by rw [← h]; exact run25 N a.1 a.2.1

/-! ### tiller/quot.Div: function 7 -/
noncomputable def c7 : Code := (Tryz.f7.body).getD .skip
noncomputable def T7 : Tb := ⟨tyOf tys, [(35, 9), (37, 10), (41, 9), (45, 9), (51, 9), (57, 10), (62, 10), (68, 9), (72, 10), (83, 9), (85, 10)], [], wrNil⟩
noncomputable def G7 {R : Type} (N : Nat) : FuncId → List AV → (AV → Option R) → Option R := gCons 23 (gOf ad23 rd23 (F23 N)) (gCons 24 (gOf ad24 rd24 (F24 N)) (gCons 25 (gOf ad25 rd25 (F25 N)) (gCons 27 (gOf ad27 rd27 (F27 N)) (gCons 20 (gOf ad20 rd20 (F20 N)) (gCons 26 (gOf ad26 rd26 (F26 N)) (gCons 28 (gOf ad28 rd28 (F28 N)) (gNil)))))))
theorem gok7 {R : Type} (N : Nat) : GOK Tryz.prog (G7 (R := R) N) := gCons_ok (ok23 N) (gCons_ok (ok24 N) (gCons_ok (ok25 N) (gCons_ok (ok27 N) (gCons_ok (ok20 N) (gCons_ok (ok26 N) (gCons_ok (ok28 N) (gNil_ok)))))))
noncomputable def live7 : List (Nat × List (Nat × HK)) := []
noncomputable def ad7 : Ad (Int × Int × Int × Unit) := aC (cInt .u64) (aC (cInt .u64) (aC (cInt .i64) (a0)))
noncomputable def rd7 : Rd (Int × Int) := r2 (cInt .u64) (cInt .u8)
noncomputable def fn_quot_Div (N : Nat) (x0 : Int) (x1 : Int) (x2 : Int) : Option (Int × Int) :=
  (fn_pat_Take N x0).bind fun r1 =>
   (fn_pat_Take N x1).bind fun r2 =>
    (fn_pat_IsNaN N x0).bind fun r3 =>
     cond r3
      ((fn_quot_none N x0 x1).bind fun r4 =>
       some (r4.1, r4.2))
      ((fn_pat_IsNaN N x1).bind fun r5 =>
       cond r5
        ((fn_quot_none N x0 x1).bind fun r6 =>
         some (r6.1, r6.2))
        (cond (eqI r1.2.1 r2.2.1)
         (cond (eqI r1.2.1 0)
          (some (9221120237041090560, 1))
          (cond (eqI r1.2.1 3)
           (some (9221120237041090560, 1))
           (cond (eqI r1.2.1 3)
            (some (orI .u64 9218868437227405312 (andI .u64 (xorI .u64 x0 x1) 9223372036854775808), 0))
            (cond (eqI r2.2.1 3)
             (some (andI .u64 (xorI .u64 x0 x1) 9223372036854775808, 0))
             (cond (eqI r2.2.1 0)
              (some (orI .u64 9218868437227405312 (andI .u64 (xorI .u64 x0 x1) 9223372036854775808), 2))
              ((fn_wide_Of N r1.2.2.2).bind fun r7 =>
               (fn_wide_Shl N r7 128).bind fun r8 =>
                (fn_wide_Of N r2.2.2.2).bind fun r9 =>
                 (fn_wide_DivMod N r8 r9).bind fun r10 =>
                  cond (!(isNoneI r10.2.2))
                   (some (9221120237041090560, 1))
                   ((fn_rnd_Round N (!(eqI (andI .u64 (xorI .u64 x0 x1) 9223372036854775808) 0), subI .i64 (subI .i64 r1.2.2.1 r2.2.2.1) 128, r10.1, !(eqL r10.2.1.1 (Vec.zero 4).1)) x2).bind fun r11 =>
                    some (r11.1, r11.2))))))))
         (cond (eqI r1.2.1 3)
          (some (orI .u64 9218868437227405312 (andI .u64 (xorI .u64 x0 x1) 9223372036854775808), 0))
          (cond (eqI r2.2.1 3)
           (some (andI .u64 (xorI .u64 x0 x1) 9223372036854775808, 0))
           (cond (eqI r2.2.1 0)
            (some (orI .u64 9218868437227405312 (andI .u64 (xorI .u64 x0 x1) 9223372036854775808), 2))
            ((fn_wide_Of N r1.2.2.2).bind fun r12 =>
             (fn_wide_Shl N r12 128).bind fun r13 =>
              (fn_wide_Of N r2.2.2.2).bind fun r14 =>
               (fn_wide_DivMod N r13 r14).bind fun r15 =>
                cond (!(isNoneI r15.2.2))
                 (some (9221120237041090560, 1))
                 ((fn_rnd_Round N (!(eqI (andI .u64 (xorI .u64 x0 x1) 9223372036854775808) 0), subI .i64 (subI .i64 r1.2.2.1 r2.2.2.1) 128, r15.1, !(eqL r15.2.1.1 (Vec.zero 4).1)) x2).bind fun r16 =>
                  some (r16.1, r16.2))))))))
theorem run7 (N : Nat) (x0 : Int) (x1 : Int) (x2 : Int) : Eng.run T7 (G7 N) N live7 c7 Tryz.f7.results.toList Tryz.f7.ntmps ((ad7).enc (x0, x1, x2, ())) (rd7).dec = fn_quot_Div N x0 x1 x2 := by kernel_rfl
noncomputable def F7 (N : Nat) (a : Int × Int × Int × Unit) : Option (Int × Int) := fn_quot_Div N a.1 a.2.1 a.2.2.1
theorem ok7 (N : Nat) : FnOK Tryz.prog 7 ad7 rd7 (F7 N) :=
  fn_ok (N := N) (live := live7) (code := c7) (tok T7.rt T7.kl (wrNil_ok)) mixed (gok7 N) Tryz.func7 (by kernel_rfl) (by kernel_rfl) (by kernel_rfl) fun a p h => by rw [← h]; exact run7 N a.1 a.2.1 a.2.2.1

/-! ### tiller/rnd.Whole: function 31 -/
noncomputable def c31 : Code := (Tryz.f31.body).getD .skip
noncomputable def T31 : Tb := ⟨tyOf tys, [(12, 2), (16, 2), (20, 2), (28, 2), (32, 2), (39, 2), (44, 2), (48, 2), (57, 2), (62, 2), (64, 6), (78, 9), (82, 9), (83, 9)], [], wrNil⟩
noncomputable def G31 {R : Type} (N : Nat) : FuncId → List AV → (AV → Option R) → Option R := gCons 58 (gOf ad58 rd58 (F58 N)) (gCons 59 (gOf ad59 rd59 (F59 N)) (gCons 66 (gOf ad66 rd66 (F66 N)) (gCons 67 (gOf ad67 rd67 (F67 N)) (gCons 27 (gOf ad27 rd27 (F27 N)) (gCons 68 (gOf ad68 rd68 (F68 N)) (gCons 20 (gOf ad20 rd20 (F20 N)) (gCons 57 (gOf ad57 rd57 (F57 N)) (gNil))))))))
theorem gok31 {R : Type} (N : Nat) : GOK Tryz.prog (G31 (R := R) N) := gCons_ok (ok58 N) (gCons_ok (ok59 N) (gCons_ok (ok66 N) (gCons_ok (ok67 N) (gCons_ok (ok27 N) (gCons_ok (ok68 N) (gCons_ok (ok20 N) (gCons_ok (ok57 N) (gNil_ok))))))))
noncomputable def live31 : List (Nat × List (Nat × HK)) := []
noncomputable def ad31 : Ad ((Bool × Int × Vec 4 × Bool) × Int × Unit) := aC (cSta (sC (pBool) (sC (pInt .i64) (sC (pVec .u64 4) (sO (pBool)))))) (aC (cInt .i64) (a0))
noncomputable def rd31 : Rd ((Bool × Int × Vec 4 × Bool) × Bool) := r2 (cSta (sC (pBool) (sC (pInt .i64) (sC (pVec .u64 4) (sO (pBool)))))) (cBool)
noncomputable def fn_rnd_Whole (N : Nat) (x0 : (Bool × Int × Vec 4 × Bool)) (x1 : Int) : Option ((Bool × Int × Vec 4 × Bool) × Bool) :=
  cond (ltI 0 x0.2.1)
   (some ((x0.1, x0.2.1, x0.2.2.1, x0.2.2.2), false))
   (cond (eqI x0.2.1 0)
    (cond (!(x0.2.2.2))
     (some ((x0.1, x0.2.1, x0.2.2.1, x0.2.2.2), false))
     ((fn_rnd_Num_near N (x0.1, x0.2.1, x0.2.2.1, x0.2.2.2)).bind fun r1 =>
      cond (ltI r1.2.1 0)
       ((fn_rnd_Num_exact N (r1.1, r1.2.1, r1.2.2.1, r1.2.2.2)).bind fun r2 =>
        cond (eqL r2.2.2.1.1 (Vec.zero 4).1)
         (cond (!(r2.2.2.2))
          (some ((r2.1, 0, Vec.zero 4, false), false))
          ((fn_rnd_Num_cut N (r2.1, r2.2.1, r2.2.2.1, r2.2.2.2) 0).bind fun r3 =>
           (fn_rnd_up N x1 r2.1 (eqI (andI .u64 (Vec.rd r3.1 0) 1) 1) r3.2.1 r3.2.2).bind fun r4 =>
            cond r4
             ((fn_wide_Of N 1).bind fun r5 =>
              (fn_wide_Add N r3.1 r5).bind fun r6 =>
               cond r6.2
                ((fn_wide_Of N 1).bind fun r7 =>
                 (fn_wide_Shl N r7 255).bind fun r8 =>
                  cond r3.2.1
                   (some ((r2.1, 1, r8, false), true))
                   (some ((r2.1, 1, r8, false), r3.2.2)))
                (cond r3.2.1
                 (some ((r2.1, 0, r6.1, false), true))
                 (some ((r2.1, 0, r6.1, false), r3.2.2))))
             (cond r3.2.1
              (some ((r2.1, 0, r3.1, false), true))
              (some ((r2.1, 0, r3.1, false), r3.2.2)))))
         ((fn_rnd_Num_cut N (r2.1, r2.2.1, r2.2.2.1, r2.2.2.2) 0).bind fun r9 =>
          (fn_rnd_up N x1 r2.1 (eqI (andI .u64 (Vec.rd r9.1 0) 1) 1) r9.2.1 r9.2.2).bind fun r10 =>
           cond r10
            ((fn_wide_Of N 1).bind fun r11 =>
             (fn_wide_Add N r9.1 r11).bind fun r12 =>
              cond r12.2
               ((fn_wide_Of N 1).bind fun r13 =>
                (fn_wide_Shl N r13 255).bind fun r14 =>
                 cond r9.2.1
                  (some ((r2.1, 1, r14, false), true))
                  (some ((r2.1, 1, r14, false), r9.2.2)))
               (cond r9.2.1
                (some ((r2.1, 0, r12.1, false), true))
                (some ((r2.1, 0, r12.1, false), r9.2.2))))
            (cond r9.2.1
             (some ((r2.1, 0, r9.1, false), true))
             (some ((r2.1, 0, r9.1, false), r9.2.2)))))
       ((fn_wide_Len N r1.2.2.1).bind fun r15 =>
        cond (leI r15 254)
         ((fn_rnd_Num_exact N (r1.1, r1.2.1, r1.2.2.1, r1.2.2.2)).bind fun r16 =>
          cond (eqL r16.2.2.1.1 (Vec.zero 4).1)
           (cond (!(r16.2.2.2))
            (some ((r16.1, 0, Vec.zero 4, false), false))
            ((fn_rnd_Num_cut N (r16.1, r16.2.1, r16.2.2.1, r16.2.2.2) 0).bind fun r17 =>
             (fn_rnd_up N x1 r16.1 (eqI (andI .u64 (Vec.rd r17.1 0) 1) 1) r17.2.1 r17.2.2).bind fun r18 =>
              cond r18
               ((fn_wide_Of N 1).bind fun r19 =>
                (fn_wide_Add N r17.1 r19).bind fun r20 =>
                 cond r20.2
                  ((fn_wide_Of N 1).bind fun r21 =>
                   (fn_wide_Shl N r21 255).bind fun r22 =>
                    cond r17.2.1
                     (some ((r16.1, 1, r22, false), true))
                     (some ((r16.1, 1, r22, false), r17.2.2)))
                  (cond r17.2.1
                   (some ((r16.1, 0, r20.1, false), true))
                   (some ((r16.1, 0, r20.1, false), r17.2.2))))
               (cond r17.2.1
                (some ((r16.1, 0, r17.1, false), true))
                (some ((r16.1, 0, r17.1, false), r17.2.2)))))
           ((fn_rnd_Num_cut N (r16.1, r16.2.1, r16.2.2.1, r16.2.2.2) 0).bind fun r23 =>
            (fn_rnd_up N x1 r16.1 (eqI (andI .u64 (Vec.rd r23.1 0) 1) 1) r23.2.1 r23.2.2).bind fun r24 =>
             cond r24
              ((fn_wide_Of N 1).bind fun r25 =>
               (fn_wide_Add N r23.1 r25).bind fun r26 =>
                cond r26.2
                 ((fn_wide_Of N 1).bind fun r27 =>
                  (fn_wide_Shl N r27 255).bind fun r28 =>
                   cond r23.2.1
                    (some ((r16.1, 1, r28, false), true))
                    (some ((r16.1, 1, r28, false), r23.2.2)))
                 (cond r23.2.1
                  (some ((r16.1, 0, r26.1, false), true))
                  (some ((r16.1, 0, r26.1, false), r23.2.2))))
              (cond r23.2.1
               (some ((r16.1, 0, r23.1, false), true))
               (some ((r16.1, 0, r23.1, false), r23.2.2)))))
         (cond (eqL r1.2.2.1.1 (Vec.zero 4).1)
          (cond (!(r1.2.2.2))
           (some ((r1.1, 0, Vec.zero 4, false), false))
           ((fn_rnd_Num_cut N (r1.1, r1.2.1, r1.2.2.1, r1.2.2.2) 0).bind fun r29 =>
            (fn_rnd_up N x1 r1.1 (eqI (andI .u64 (Vec.rd r29.1 0) 1) 1) r29.2.1 r29.2.2).bind fun r30 =>
             cond r30
              ((fn_wide_Of N 1).bind fun r31 =>
               (fn_wide_Add N r29.1 r31).bind fun r32 =>
                cond r32.2
                 ((fn_wide_Of N 1).bind fun r33 =>
                  (fn_wide_Shl N r33 255).bind fun r34 =>
                   cond r29.2.1
                    (some ((r1.1, 1, r34, false), true))
                    (some ((r1.1, 1, r34, false), r29.2.2)))
                 (cond r29.2.1
                  (some ((r1.1, 0, r32.1, false), true))
                  (some ((r1.1, 0, r32.1, false), r29.2.2))))
              (cond r29.2.1
               (some ((r1.1, 0, r29.1, false), true))
               (some ((r1.1, 0, r29.1, false), r29.2.2)))))
          ((fn_rnd_Num_cut N (r1.1, r1.2.1, r1.2.2.1, r1.2.2.2) 0).bind fun r35 =>
           (fn_rnd_up N x1 r1.1 (eqI (andI .u64 (Vec.rd r35.1 0) 1) 1) r35.2.1 r35.2.2).bind fun r36 =>
            cond r36
             ((fn_wide_Of N 1).bind fun r37 =>
              (fn_wide_Add N r35.1 r37).bind fun r38 =>
               cond r38.2
                ((fn_wide_Of N 1).bind fun r39 =>
                 (fn_wide_Shl N r39 255).bind fun r40 =>
                  cond r35.2.1
                   (some ((r1.1, 1, r40, false), true))
                   (some ((r1.1, 1, r40, false), r35.2.2)))
                (cond r35.2.1
                 (some ((r1.1, 0, r38.1, false), true))
                 (some ((r1.1, 0, r38.1, false), r35.2.2))))
             (cond r35.2.1
              (some ((r1.1, 0, r35.1, false), true))
              (some ((r1.1, 0, r35.1, false), r35.2.2))))))))
    ((fn_rnd_Num_near N (x0.1, x0.2.1, x0.2.2.1, x0.2.2.2)).bind fun r41 =>
     cond (ltI r41.2.1 0)
      ((fn_rnd_Num_exact N (r41.1, r41.2.1, r41.2.2.1, r41.2.2.2)).bind fun r42 =>
       cond (eqL r42.2.2.1.1 (Vec.zero 4).1)
        (cond (!(r42.2.2.2))
         (some ((r42.1, 0, Vec.zero 4, false), false))
         ((fn_rnd_Num_cut N (r42.1, r42.2.1, r42.2.2.1, r42.2.2.2) 0).bind fun r43 =>
          (fn_rnd_up N x1 r42.1 (eqI (andI .u64 (Vec.rd r43.1 0) 1) 1) r43.2.1 r43.2.2).bind fun r44 =>
           cond r44
            ((fn_wide_Of N 1).bind fun r45 =>
             (fn_wide_Add N r43.1 r45).bind fun r46 =>
              cond r46.2
               ((fn_wide_Of N 1).bind fun r47 =>
                (fn_wide_Shl N r47 255).bind fun r48 =>
                 cond r43.2.1
                  (some ((r42.1, 1, r48, false), true))
                  (some ((r42.1, 1, r48, false), r43.2.2)))
               (cond r43.2.1
                (some ((r42.1, 0, r46.1, false), true))
                (some ((r42.1, 0, r46.1, false), r43.2.2))))
            (cond r43.2.1
             (some ((r42.1, 0, r43.1, false), true))
             (some ((r42.1, 0, r43.1, false), r43.2.2)))))
        ((fn_rnd_Num_cut N (r42.1, r42.2.1, r42.2.2.1, r42.2.2.2) 0).bind fun r49 =>
         (fn_rnd_up N x1 r42.1 (eqI (andI .u64 (Vec.rd r49.1 0) 1) 1) r49.2.1 r49.2.2).bind fun r50 =>
          cond r50
           ((fn_wide_Of N 1).bind fun r51 =>
            (fn_wide_Add N r49.1 r51).bind fun r52 =>
             cond r52.2
              ((fn_wide_Of N 1).bind fun r53 =>
               (fn_wide_Shl N r53 255).bind fun r54 =>
                cond r49.2.1
                 (some ((r42.1, 1, r54, false), true))
                 (some ((r42.1, 1, r54, false), r49.2.2)))
              (cond r49.2.1
               (some ((r42.1, 0, r52.1, false), true))
               (some ((r42.1, 0, r52.1, false), r49.2.2))))
           (cond r49.2.1
            (some ((r42.1, 0, r49.1, false), true))
            (some ((r42.1, 0, r49.1, false), r49.2.2)))))
      ((fn_wide_Len N r41.2.2.1).bind fun r55 =>
       cond (leI r55 254)
        ((fn_rnd_Num_exact N (r41.1, r41.2.1, r41.2.2.1, r41.2.2.2)).bind fun r56 =>
         cond (eqL r56.2.2.1.1 (Vec.zero 4).1)
          (cond (!(r56.2.2.2))
           (some ((r56.1, 0, Vec.zero 4, false), false))
           ((fn_rnd_Num_cut N (r56.1, r56.2.1, r56.2.2.1, r56.2.2.2) 0).bind fun r57 =>
            (fn_rnd_up N x1 r56.1 (eqI (andI .u64 (Vec.rd r57.1 0) 1) 1) r57.2.1 r57.2.2).bind fun r58 =>
             cond r58
              ((fn_wide_Of N 1).bind fun r59 =>
               (fn_wide_Add N r57.1 r59).bind fun r60 =>
                cond r60.2
                 ((fn_wide_Of N 1).bind fun r61 =>
                  (fn_wide_Shl N r61 255).bind fun r62 =>
                   cond r57.2.1
                    (some ((r56.1, 1, r62, false), true))
                    (some ((r56.1, 1, r62, false), r57.2.2)))
                 (cond r57.2.1
                  (some ((r56.1, 0, r60.1, false), true))
                  (some ((r56.1, 0, r60.1, false), r57.2.2))))
              (cond r57.2.1
               (some ((r56.1, 0, r57.1, false), true))
               (some ((r56.1, 0, r57.1, false), r57.2.2)))))
          ((fn_rnd_Num_cut N (r56.1, r56.2.1, r56.2.2.1, r56.2.2.2) 0).bind fun r63 =>
           (fn_rnd_up N x1 r56.1 (eqI (andI .u64 (Vec.rd r63.1 0) 1) 1) r63.2.1 r63.2.2).bind fun r64 =>
            cond r64
             ((fn_wide_Of N 1).bind fun r65 =>
              (fn_wide_Add N r63.1 r65).bind fun r66 =>
               cond r66.2
                ((fn_wide_Of N 1).bind fun r67 =>
                 (fn_wide_Shl N r67 255).bind fun r68 =>
                  cond r63.2.1
                   (some ((r56.1, 1, r68, false), true))
                   (some ((r56.1, 1, r68, false), r63.2.2)))
                (cond r63.2.1
                 (some ((r56.1, 0, r66.1, false), true))
                 (some ((r56.1, 0, r66.1, false), r63.2.2))))
             (cond r63.2.1
              (some ((r56.1, 0, r63.1, false), true))
              (some ((r56.1, 0, r63.1, false), r63.2.2)))))
        (cond (eqL r41.2.2.1.1 (Vec.zero 4).1)
         (cond (!(r41.2.2.2))
          (some ((r41.1, 0, Vec.zero 4, false), false))
          ((fn_rnd_Num_cut N (r41.1, r41.2.1, r41.2.2.1, r41.2.2.2) 0).bind fun r69 =>
           (fn_rnd_up N x1 r41.1 (eqI (andI .u64 (Vec.rd r69.1 0) 1) 1) r69.2.1 r69.2.2).bind fun r70 =>
            cond r70
             ((fn_wide_Of N 1).bind fun r71 =>
              (fn_wide_Add N r69.1 r71).bind fun r72 =>
               cond r72.2
                ((fn_wide_Of N 1).bind fun r73 =>
                 (fn_wide_Shl N r73 255).bind fun r74 =>
                  cond r69.2.1
                   (some ((r41.1, 1, r74, false), true))
                   (some ((r41.1, 1, r74, false), r69.2.2)))
                (cond r69.2.1
                 (some ((r41.1, 0, r72.1, false), true))
                 (some ((r41.1, 0, r72.1, false), r69.2.2))))
             (cond r69.2.1
              (some ((r41.1, 0, r69.1, false), true))
              (some ((r41.1, 0, r69.1, false), r69.2.2)))))
         ((fn_rnd_Num_cut N (r41.1, r41.2.1, r41.2.2.1, r41.2.2.2) 0).bind fun r75 =>
          (fn_rnd_up N x1 r41.1 (eqI (andI .u64 (Vec.rd r75.1 0) 1) 1) r75.2.1 r75.2.2).bind fun r76 =>
           cond r76
            ((fn_wide_Of N 1).bind fun r77 =>
             (fn_wide_Add N r75.1 r77).bind fun r78 =>
              cond r78.2
               ((fn_wide_Of N 1).bind fun r79 =>
                (fn_wide_Shl N r79 255).bind fun r80 =>
                 cond r75.2.1
                  (some ((r41.1, 1, r80, false), true))
                  (some ((r41.1, 1, r80, false), r75.2.2)))
               (cond r75.2.1
                (some ((r41.1, 0, r78.1, false), true))
                (some ((r41.1, 0, r78.1, false), r75.2.2))))
            (cond r75.2.1
             (some ((r41.1, 0, r75.1, false), true))
             (some ((r41.1, 0, r75.1, false), r75.2.2))))))))
theorem run31 (N : Nat) (x0 : (Bool × Int × Vec 4 × Bool)) (x1 : Int) : Eng.run T31 (G31 N) N live31 c31 Tryz.f31.results.toList Tryz.f31.ntmps ((ad31).enc (x0, x1, ())) (rd31).dec = fn_rnd_Whole N x0 x1 := by kernel_rfl
noncomputable def F31 (N : Nat) (a : (Bool × Int × Vec 4 × Bool) × Int × Unit) : Option ((Bool × Int × Vec 4 × Bool) × Bool) := fn_rnd_Whole N a.1 a.2.1
theorem ok31 (N : Nat) : FnOK Tryz.prog 31 ad31 rd31 (F31 N) :=
  fn_ok (N := N) (live := live31) (code := c31) (tok T31.rt T31.kl (wrNil_ok)) mixed (gok31 N) Tryz.func31 (by kernel_rfl) (by kernel_rfl) (by kernel_rfl) fun a p h => by rw [← h]; exact run31 N a.1 a.2.1

/-! ### tiller/whole.Round: function 8 -/
noncomputable def c8 : Code := (Tryz.f8.body).getD .skip
noncomputable def T8 : Tb := ⟨tyOf tys, [], [], wrNil⟩
noncomputable def G8 {R : Type} (N : Nat) : FuncId → List AV → (AV → Option R) → Option R := gCons 29 (gOf ad29 rd29 (F29 N)) (gCons 24 (gOf ad24 rd24 (F24 N)) (gCons 30 (gOf ad30 rd30 (F30 N)) (gCons 31 (gOf ad31 rd31 (F31 N)) (gCons 28 (gOf ad28 rd28 (F28 N)) (gNil)))))
theorem gok8 {R : Type} (N : Nat) : GOK Tryz.prog (G8 (R := R) N) := gCons_ok (ok29 N) (gCons_ok (ok24 N) (gCons_ok (ok30 N) (gCons_ok (ok31 N) (gCons_ok (ok28 N) (gNil_ok)))))
noncomputable def live8 : List (Nat × List (Nat × HK)) := []
noncomputable def ad8 : Ad (Int × Int × Bool × Unit) := aC (cInt .u64) (aC (cInt .i64) (aC (cBool) (a0)))
noncomputable def rd8 : Rd (Int × Int) := r2 (cInt .u64) (cInt .u8)
noncomputable def fn_whole_Round (N : Nat) (x0 : Int) (x1 : Int) (x2 : Bool) : Option (Int × Int) :=
  (fn_rnd_Of N x0).bind fun r1 =>
   (fn_pat_IsNaN N x0).bind fun r2 =>
    cond r2
     ((fn_whole_none N x0 x0).bind fun r3 =>
      some (r3.1, r3.2))
     (cond (!(isNoneI r1.2))
      (some (x0, 0))
      ((fn_rnd_Whole N (r1.1.1, r1.1.2.1, r1.1.2.2.1, r1.1.2.2.2) x1).bind fun r4 =>
       (fn_rnd_Round N (r4.1.1, r4.1.2.1, r4.1.2.2.1, r4.1.2.2.2) 0).bind fun r5 =>
        cond r4.2
         (cond x2
          (some (r5.1, 16))
          (some (r5.1, 0)))
         (some (r5.1, 0))))
theorem run8 (N : Nat) (x0 : Int) (x1 : Int) (x2 : Bool) : Eng.run T8 (G8 N) N live8 c8 Tryz.f8.results.toList Tryz.f8.ntmps ((ad8).enc (x0, x1, x2, ())) (rd8).dec = fn_whole_Round N x0 x1 x2 := by kernel_rfl
noncomputable def F8 (N : Nat) (a : Int × Int × Bool × Unit) : Option (Int × Int) := fn_whole_Round N a.1 a.2.1 a.2.2.1
theorem ok8 (N : Nat) : FnOK Tryz.prog 8 ad8 rd8 (F8 N) :=
  fn_ok (N := N) (live := live8) (code := c8) (tok T8.rt T8.kl (wrNil_ok)) mixed (gok8 N) Tryz.func8 (by kernel_rfl) (by kernel_rfl) (by kernel_rfl) fun a p h => by rw [← h]; exact run8 N a.1 a.2.1 a.2.2.1

/-! ### tiller/prod.sign: function 32 -/
noncomputable def c32 : Code := (Tryz.f32.body).getD .skip
noncomputable def T32 : Tb := ⟨tyOf tys, [], [], wrNil⟩
noncomputable def G32 {R : Type} (N : Nat) : FuncId → List AV → (AV → Option R) → Option R := gNil
theorem gok32 {R : Type} (N : Nat) : GOK Tryz.prog (G32 (R := R) N) := gNil_ok
noncomputable def live32 : List (Nat × List (Nat × HK)) := []
noncomputable def ad32 : Ad (Int × Int × Unit) := aC (cInt .u64) (aC (cInt .u64) (a0))
noncomputable def rd32 : Rd (Int) := r1 (cInt .u64)
noncomputable def fn_prod_sign (N : Nat) (x0 : Int) (x1 : Int) : Option (Int) :=
  some (andI .u64 (xorI .u64 x0 x1) 9223372036854775808)
theorem run32 (N : Nat) (x0 : Int) (x1 : Int) : Eng.run T32 (G32 N) N live32 c32 Tryz.f32.results.toList Tryz.f32.ntmps ((ad32).enc (x0, x1, ())) (rd32).dec = fn_prod_sign N x0 x1 := by kernel_rfl
noncomputable def F32 (N : Nat) (a : Int × Int × Unit) : Option (Int) := fn_prod_sign N a.1 a.2.1
theorem ok32 (N : Nat) : FnOK Tryz.prog 32 ad32 rd32 (F32 N) :=
  fn_ok (N := N) (live := live32) (code := c32) (tok T32.rt T32.kl (wrNil_ok)) mixed (gok32 N) Tryz.func32 (by kernel_rfl) (by kernel_rfl) (by kernel_rfl) fun a p h => by rw [← h]; exact run32 N a.1 a.2.1

/-! ### tiller/prod.nothing: function 33 -/
noncomputable def c33 : Code := (Tryz.f33.body).getD .skip
noncomputable def T33 : Tb := ⟨tyOf tys, [], [], wrNil⟩
noncomputable def G33 {R : Type} (N : Nat) : FuncId → List AV → (AV → Option R) → Option R := gCons 56 (gOf ad56 rd56 (F56 N)) (gNil)
theorem gok33 {R : Type} (N : Nat) : GOK Tryz.prog (G33 (R := R) N) := gCons_ok (ok56 N) (gNil_ok)
noncomputable def live33 : List (Nat × List (Nat × HK)) := []
noncomputable def ad33 : Ad (Int × Int × Unit) := aC (cInt .u64) (aC (cInt .u64) (a0))
noncomputable def rd33 : Rd (Bool) := r1 (cBool)
noncomputable def fn_prod_nothing (N : Nat) (x0 : Int) (x1 : Int) : Option (Bool) :=
  (fn_pat_Abs N x0).bind fun r1 =>
   (fn_pat_Abs N x1).bind fun r2 =>
    cond (eqI r1 0)
     (cond (eqI r2 9218868437227405312)
      (some true)
      (cond (eqI r1 9218868437227405312)
       (some (eqI r2 0))
       (some false)))
     (cond (eqI r1 9218868437227405312)
      (some (eqI r2 0))
      (some false))
theorem run33 (N : Nat) (x0 : Int) (x1 : Int) : Eng.run T33 (G33 N) N live33 c33 Tryz.f33.results.toList Tryz.f33.ntmps ((ad33).enc (x0, x1, ())) (rd33).dec = fn_prod_nothing N x0 x1 := by kernel_rfl
noncomputable def F33 (N : Nat) (a : Int × Int × Unit) : Option (Bool) := fn_prod_nothing N a.1 a.2.1
theorem ok33 (N : Nat) : FnOK Tryz.prog 33 ad33 rd33 (F33 N) :=
  fn_ok (N := N) (live := live33) (code := c33) (tok T33.rt T33.kl (wrNil_ok)) mixed (gok33 N) Tryz.func33 (by kernel_rfl) (by kernel_rfl) (by kernel_rfl) fun a p h => by rw [← h]; exact run33 N a.1 a.2.1

/-! ### tiller/prod.loud: function 34 -/
noncomputable def c34 : Code := (Tryz.f34.body).getD .skip
noncomputable def T34 : Tb := ⟨tyOf tys, [], [], wrNil⟩
noncomputable def G34 {R : Type} (N : Nat) : FuncId → List AV → (AV → Option R) → Option R := gCons 39 (gOf ad39 rd39 (F39 N)) (gNil)
theorem gok34 {R : Type} (N : Nat) : GOK Tryz.prog (G34 (R := R) N) := gCons_ok (ok39 N) (gNil_ok)
noncomputable def live34 : List (Nat × List (Nat × HK)) := [(2, [(5, .keep), (6, .keep), (7, .keep)])]
noncomputable def ad34 : Ad (List Int × Unit) := aC (cLi .u64) (a0)
noncomputable def rd34 : Rd (Int) := r1 (cInt .u8)
noncomputable def st34_0 (v0 : List Int) (v1 : Int) (v2 : Int) : St := ⟨[AV.none, AV.none, AV.none, AV.none, AV.none, AV.li .u64 v0, AV.v (.int .i64 v1), AV.v (.int .i64 v2), AV.none, AV.none, AV.none, AV.none, AV.none, AV.none, AV.none], [none, none, none, none, none, none, none, none, none, none, none, none, none, none, none]⟩
noncomputable def raw34_0 (N : Nat) (n : Nat) (v0 : List Int) (v1 : Int) (v2 : Int) : Option (Int) := loopN (lookN live34 2) (exec T34 (G34 N) N live34 (cL (cL (cR (cL (cR c34)))))) n (st34_0 v0 v1 v2) (blockK 0 (seqK (exec T34 (G34 N) N live34 (cR (cR c34))) (retK T34 Tryz.f34.results.toList (rd34).dec)))
noncomputable def s34_0 (N : Nat) (Ln0 : List Int → Int → Int → Option (Int)) (v0 : List Int) (v1 : Int) (v2 : Int) : Option (Int) :=
  cond (ltI v2 v1)
   (cond (leI 0 v2)
    (cond (ltI v2 (v0.length : Int))
     ((fn_pat_Class N (lrd v0 v2)).bind fun r1 =>
      cond (eqI r1 5)
       (some 1)
       (Ln0 v0 v1 (addI .i64 v2 1)))
     (none))
    (none))
   (some 0)
theorem step34_0 (N : Nat) (n : Nat) (v0 : List Int) (v1 : Int) (v2 : Int) : raw34_0 N  (n + 1) v0 v1 v2 = s34_0 N (raw34_0 N  n) v0 v1 v2 := by kernel_rfl
noncomputable def l34_0 (N : Nat) : Nat → List Int → Int → Int → Option (Int)
  | 0 => fun _ _ _ => none
  | n + 1 => fun v0 v1 v2 => s34_0 N (l34_0 N  n) v0 v1 v2
theorem eq34_0 (N : Nat) : ∀ n, raw34_0 N  n = l34_0 N  n := by
  intro n
  induction n with
  | zero => exact funext fun v0 => funext fun v1 => funext fun v2 => rfl
  | succ n ih => exact funext fun v0 => funext fun v1 => funext fun v2 => by rw [step34_0, ih]; rfl
noncomputable def t34 (N : Nat) (Le0 : List Int → Int → Int → Option (Int)) (x0 : List Int) : Option (Int) :=
  Le0 x0 (x0.length : Int) 0
noncomputable def fn_prod_loud (N : Nat) (x0 : List Int) : Option (Int) := t34 N (l34_0 N N) x0
theorem run34 (N : Nat) (x0 : List Int) : Eng.run T34 (G34 N) N live34 c34 Tryz.f34.results.toList Tryz.f34.ntmps ((ad34).enc (x0, ())) (rd34).dec = fn_prod_loud N x0 := by
  refine Eq.trans (show _ = t34 N (raw34_0 N N) x0 from by kernel_rfl) ?_
  unfold fn_prod_loud
  rw [eq34_0 N N]
noncomputable def F34 (N : Nat) (a : List Int × Unit) : Option (Int) := fn_prod_loud N a.1
theorem ok34 (N : Nat) : FnOK Tryz.prog 34 ad34 rd34 (F34 N) :=
  fn_ok (N := N) (live := live34) (code := c34) (tok T34.rt T34.kl (wrNil_ok)) mixed (gok34 N) Tryz.func34 (by kernel_rfl) (by kernel_rfl) (by kernel_rfl) fun a p h => by rw [← h]; exact run34 N a.1

/-! ### tiller/wide.Mul: function 70 -/
noncomputable def c70 : Code := (Tryz.f70.body).getD .skip
noncomputable def T70 : Tb := ⟨tyOf tys, [(47, 6), (53, 6), (61, 6), (64, 6), (67, 6)], [], wrNil⟩
noncomputable def G70 {R : Type} (N : Nat) : FuncId → List AV → (AV → Option R) → Option R := gCons 101 (gOf ad101 rd101 (F101 N)) (gCons 100 (gOf (aI3 .u64) (r2 (cInt .u64) (cInt .u64)) (fun a => add64 a.1 a.2.1 a.2.2.1)) (gNil))
theorem gok70 {R : Type} (N : Nat) : GOK Tryz.prog (G70 (R := R) N) := gCons_ok (ok101 N) (gCons_ok (add64_ok Tryz.func100 (by kernel_rfl) (by kernel_rfl) (by kernel_rfl) (by kernel_rfl)) (gNil_ok))
noncomputable def live70 : List (Nat × List (Nat × HK)) := [(3, [(3, .keep), (4, .keep), (5, .keep), (6, .keep), (15, .keep), (16, .keep)]), (7, [(3, .keep), (4, .keep), (5, .keep), (6, .keep), (7, .keep), (8, .keep), (9, .keep), (15, .keep), (16, .keep), (20, .keep), (21, .keep)])]
noncomputable def ad70 : Ad (Vec 4 × Vec 4 × Unit) := aC (cVec .u64 4) (aC (cVec .u64 4) (a0))
noncomputable def rd70 : Rd (Vec 4 × Vec 4) := r2 (cVec .u64 4) (cVec .u64 4)
noncomputable def st70_0 (v0 : Vec 4) (v1 : Int) (v2 : Vec 4) (v3 : Vec 4) (v4 : Vec 4) (v5 : Vec 8) : St := ⟨[AV.none, AV.none, AV.none, AV.ptr 3 0, AV.ptr 4 0, AV.ptr 5 0, AV.ptr 6 0, AV.none, AV.none, AV.none, AV.none, AV.none, AV.none, AV.none, AV.none, AV.arr .u64 4 v0, AV.v (.int .i64 v1), AV.none, AV.none, AV.none, AV.none, AV.none, AV.none, AV.none, AV.none, AV.none, AV.none, AV.none, AV.none, AV.none, AV.none, AV.none, AV.none, AV.none, AV.none, AV.none, AV.none, AV.none, AV.none, AV.none, AV.none, AV.none, AV.none, AV.none, AV.none, AV.none, AV.none, AV.none, AV.none, AV.none, AV.none, AV.none, AV.none, AV.none, AV.none, AV.none, AV.none, AV.none, AV.none, AV.none, AV.none, AV.none, AV.none, AV.none, AV.none, AV.none, AV.none, AV.none, AV.none], [none, none, none, some (OB.arr .u64 4 v2), some (OB.arr .u64 4 v3), some (OB.arr .u64 4 v4), some (OB.arr .u64 8 v5), none, none, none, none, none, none, none, none, none, none, none, none, none, none, none, none, none, none, none, none, none, none, none, none, none, none, none, none, none, none, none, none, none, none, none, none, none, none, none, none, none, none, none, none, none, none, none, none, none, none, none, none, none, none, none, none, none, none, none, none, none, none]⟩
noncomputable def raw70_0 (N : Nat) (n : Nat) (v0 : Vec 4) (v1 : Int) (v2 : Vec 4) (v3 : Vec 4) (v4 : Vec 4) (v5 : Vec 8) : Option (Vec 4 × Vec 4) := loopN (lookN live70 3) (exec T70 (G70 N) N live70 (cL (cL (cR (cL (cR (cR c70))))))) n (st70_0 v0 v1 v2 v3 v4 v5) (blockK 0 (seqK (exec T70 (G70 N) N live70 (cR (cR (cR c70)))) (retK T70 Tryz.f70.results.toList (rd70).dec)))
noncomputable def st70_1 (v0 : Int) (v1 : Int) (v2 : Int) (v3 : Vec 4) (v4 : Int) (v5 : Vec 4) (v6 : Int) (v7 : Vec 4) (v8 : Vec 4) (v9 : Vec 4) (v10 : Vec 8) : St := ⟨[AV.none, AV.none, AV.none, AV.ptr 3 0, AV.ptr 4 0, AV.ptr 5 0, AV.ptr 6 0, AV.v (.int .i64 v0), AV.v (.int .u64 v1), AV.v (.int .u64 v2), AV.none, AV.none, AV.none, AV.none, AV.none, AV.arr .u64 4 v3, AV.v (.int .i64 v4), AV.none, AV.none, AV.none, AV.arr .u64 4 v5, AV.v (.int .i64 v6), AV.none, AV.none, AV.none, AV.none, AV.none, AV.none, AV.none, AV.none, AV.none, AV.none, AV.none, AV.none, AV.none, AV.none, AV.none, AV.none, AV.none, AV.none, AV.none, AV.none, AV.none, AV.none, AV.none, AV.none, AV.none, AV.none, AV.none, AV.none, AV.none, AV.none, AV.none, AV.none, AV.none, AV.none, AV.none, AV.none, AV.none, AV.none, AV.none, AV.none, AV.none, AV.none, AV.none, AV.none, AV.none, AV.none, AV.none], [none, none, none, some (OB.arr .u64 4 v7), some (OB.arr .u64 4 v8), some (OB.arr .u64 4 v9), some (OB.arr .u64 8 v10), none, none, none, none, none, none, none, none, none, none, none, none, none, none, none, none, none, none, none, none, none, none, none, none, none, none, none, none, none, none, none, none, none, none, none, none, none, none, none, none, none, none, none, none, none, none, none, none, none, none, none, none, none, none, none, none, none, none, none, none, none, none]⟩
noncomputable def raw70_1 (N : Nat) (m0 : Nat) (n : Nat) (v0 : Int) (v1 : Int) (v2 : Int) (v3 : Vec 4) (v4 : Int) (v5 : Vec 4) (v6 : Int) (v7 : Vec 4) (v8 : Vec 4) (v9 : Vec 4) (v10 : Vec 8) : Option (Vec 4 × Vec 4) := loopN (lookN live70 7) (exec T70 (G70 N) N live70 (cL (cL (cR (cL (cR (cR (cL (cL (cR (cR (cL (cL (cR (cL (cR (cR c70))))))))))))))))) n (st70_1 v0 v1 v2 v3 v4 v5 v6 v7 v8 v9 v10) (blockK 2 (seqK (exec T70 (G70 N) N live70 (cR (cR (cR (cL (cL (cR (cR (cL (cL (cR (cL (cR (cR c70)))))))))))))) (blockK 1 (seqK (exec T70 (G70 N) N live70 (cR (cR (cR (cL (cL (cR (cL (cR (cR c70)))))))))) (roundK (fun s => loopN (lookN live70 3) (exec T70 (G70 N) N live70 (cL (cL (cR (cL (cR (cR c70))))))) m0 s (blockK 0 (seqK (exec T70 (G70 N) N live70 (cR (cR (cR c70)))) (retK T70 Tryz.f70.results.toList (rd70).dec)))) (lookN live70 3) (blockK 0 (seqK (exec T70 (G70 N) N live70 (cR (cR (cR c70)))) (retK T70 Tryz.f70.results.toList (rd70).dec))))))))
noncomputable def s70_1 (N : Nat) (Ln1 : Int → Int → Int → Vec 4 → Int → Vec 4 → Int → Vec 4 → Vec 4 → Vec 4 → Vec 8 → Option (Vec 4 × Vec 4)) (Ln0 : Vec 4 → Int → Vec 4 → Vec 4 → Vec 4 → Vec 8 → Option (Vec 4 × Vec 4)) (v0 : Int) (v1 : Int) (v2 : Int) (v3 : Vec 4) (v4 : Int) (v5 : Vec 4) (v6 : Int) (v7 : Vec 4) (v8 : Vec 4) (v9 : Vec 4) (v10 : Vec 8) : Option (Vec 4 × Vec 4) :=
  cond (ltI v6 4)
   (cond (leI 0 v6)
    (cond (ltI v6 4)
     ((fn_bits_Mul64 N v1 (Vec.rd v5 v6)).bind fun r1 =>
      (add64 r1.2 v2 0).bind fun r2 =>
       cond (leI 0 (addI .i64 v0 v6))
        (cond (ltI (addI .i64 v0 v6) 8)
         ((add64 (Vec.rd v10 (addI .i64 v0 v6)) r2.1 0).bind fun r3 =>
          cond (leI 0 (addI .i64 v0 v6))
           (cond (ltI (addI .i64 v0 v6) 8)
            (Ln1 v0 v1 (addI .u64 (addI .u64 r1.1 r2.2) r3.2) v3 v4 v5 (addI .i64 v6 1) v7 v8 v9 (Vec.st v10 (addI .i64 v0 v6) r3.1))
            (none))
           (none))
         (none))
        (none))
     (none))
    (none))
   (cond (leI 0 (addI .i64 v0 4))
    (cond (ltI (addI .i64 v0 4) 8)
     (Ln0 v3 (addI .i64 v4 1) v7 v8 v9 (Vec.st v10 (addI .i64 v0 4) v2))
     (none))
    (none))
theorem step70_1 (N : Nat) (m0 : Nat) (n : Nat) (v0 : Int) (v1 : Int) (v2 : Int) (v3 : Vec 4) (v4 : Int) (v5 : Vec 4) (v6 : Int) (v7 : Vec 4) (v8 : Vec 4) (v9 : Vec 4) (v10 : Vec 8) : raw70_1 N m0 (n + 1) v0 v1 v2 v3 v4 v5 v6 v7 v8 v9 v10 = s70_1 N (raw70_1 N m0 n) (raw70_0 N  m0) v0 v1 v2 v3 v4 v5 v6 v7 v8 v9 v10 := by kernel_rfl
noncomputable def l70_1 (N : Nat) (E0 : Vec 4 → Int → Vec 4 → Vec 4 → Vec 4 → Vec 8 → Option (Vec 4 × Vec 4)) : Nat → Int → Int → Int → Vec 4 → Int → Vec 4 → Int → Vec 4 → Vec 4 → Vec 4 → Vec 8 → Option (Vec 4 × Vec 4)
  | 0 => fun _ _ _ _ _ _ _ _ _ _ _ => none
  | n + 1 => fun v0 v1 v2 v3 v4 v5 v6 v7 v8 v9 v10 => s70_1 N (l70_1 N E0 n) E0 v0 v1 v2 v3 v4 v5 v6 v7 v8 v9 v10
theorem eq70_1 (N : Nat) (m0 : Nat) : ∀ n, raw70_1 N m0 n = l70_1 N (raw70_0 N  m0) n := by
  intro n
  induction n with
  | zero => exact funext fun v0 => funext fun v1 => funext fun v2 => funext fun v3 => funext fun v4 => funext fun v5 => funext fun v6 => funext fun v7 => funext fun v8 => funext fun v9 => funext fun v10 => rfl
  | succ n ih => exact funext fun v0 => funext fun v1 => funext fun v2 => funext fun v3 => funext fun v4 => funext fun v5 => funext fun v6 => funext fun v7 => funext fun v8 => funext fun v9 => funext fun v10 => by rw [step70_1, ih]; rfl
noncomputable def s70_0 (N : Nat) (Le1 : Int → Int → Int → Vec 4 → Int → Vec 4 → Int → Vec 4 → Vec 4 → Vec 4 → Vec 8 → Option (Vec 4 × Vec 4)) (v0 : Vec 4) (v1 : Int) (v2 : Vec 4) (v3 : Vec 4) (v4 : Vec 4) (v5 : Vec 8) : Option (Vec 4 × Vec 4) :=
  cond (ltI v1 4)
   (cond (leI 0 v1)
    (cond (ltI v1 4)
     (Le1 v1 (Vec.rd v0 v1) 0 v0 v1 v2 0 v2 v3 v4 v5)
     (none))
    (none))
   (some (v5.sub 0 4 (by decide), v5.sub 4 4 (by decide)))
theorem step70_0 (N : Nat) (n : Nat) (v0 : Vec 4) (v1 : Int) (v2 : Vec 4) (v3 : Vec 4) (v4 : Vec 4) (v5 : Vec 8) : raw70_0 N  (n + 1) v0 v1 v2 v3 v4 v5 = s70_0 N (raw70_1 N n N) v0 v1 v2 v3 v4 v5 := by kernel_rfl
noncomputable def l70_0 (N : Nat) : Nat → Vec 4 → Int → Vec 4 → Vec 4 → Vec 4 → Vec 8 → Option (Vec 4 × Vec 4)
  | 0 => fun _ _ _ _ _ _ => none
  | n + 1 => fun v0 v1 v2 v3 v4 v5 => s70_0 N (l70_1 N (l70_0 N  n) N) v0 v1 v2 v3 v4 v5
theorem eq70_0 (N : Nat) : ∀ n, raw70_0 N  n = l70_0 N  n := by
  intro n
  induction n with
  | zero => exact funext fun v0 => funext fun v1 => funext fun v2 => funext fun v3 => funext fun v4 => funext fun v5 => rfl
  | succ n ih => exact funext fun v0 => funext fun v1 => funext fun v2 => funext fun v3 => funext fun v4 => funext fun v5 => by rw [step70_0, eq70_1 N n N, ih]; rfl
noncomputable def t70 (N : Nat) (Le0 : Vec 4 → Int → Vec 4 → Vec 4 → Vec 4 → Vec 8 → Option (Vec 4 × Vec 4)) (x0 : Vec 4) (x1 : Vec 4) : Option (Vec 4 × Vec 4) :=
  Le0 x0 0 x1 (Vec.zero 4) (Vec.zero 4) (Vec.zero 8)
noncomputable def fn_wide_Mul (N : Nat) (x0 : Vec 4) (x1 : Vec 4) : Option (Vec 4 × Vec 4) := t70 N (l70_0 N N) x0 x1
theorem run70 (N : Nat) (x0 : Vec 4) (x1 : Vec 4) : Eng.run T70 (G70 N) N live70 c70 Tryz.f70.results.toList Tryz.f70.ntmps ((ad70).enc (x0, x1, ())) (rd70).dec = fn_wide_Mul N x0 x1 := by
  refine Eq.trans (show _ = t70 N (raw70_0 N N) x0 x1 from by kernel_rfl) ?_
  unfold fn_wide_Mul
  rw [eq70_0 N N]
noncomputable def F70 (N : Nat) (a : Vec 4 × Vec 4 × Unit) : Option (Vec 4 × Vec 4) := fn_wide_Mul N a.1 a.2.1
theorem ok70 (N : Nat) : FnOK Tryz.prog 70 ad70 rd70 (F70 N) :=
  fn_ok (N := N) (live := live70) (code := c70) (tok T70.rt T70.kl (wrNil_ok)) mixed (gok70 N) Tryz.func70 (by kernel_rfl) (by kernel_rfl) (by kernel_rfl) fun a p h => by rw [← h]; exact run70 N a.1 a.2.1

/-! ### tiller/prod.exact: function 37 -/
noncomputable def c37 : Code := (Tryz.f37.body).getD .skip
noncomputable def T37 : Tb := ⟨tyOf tys, [(14, 5), (17, 6), (23, 5), (25, 6), (28, 5), (30, 6)], [], wrNil⟩
noncomputable def G37 {R : Type} (N : Nat) : FuncId → List AV → (AV → Option R) → Option R := gCons 23 (gOf ad23 rd23 (F23 N)) (gCons 27 (gOf ad27 rd27 (F27 N)) (gCons 70 (gOf ad70 rd70 (F70 N)) (gNil)))
theorem gok37 {R : Type} (N : Nat) : GOK Tryz.prog (G37 (R := R) N) := gCons_ok (ok23 N) (gCons_ok (ok27 N) (gCons_ok (ok70 N) (gNil_ok)))
noncomputable def live37 : List (Nat × List (Nat × HK)) := []
noncomputable def ad37 : Ad (Int × Int × Unit) := aC (cInt .u64) (aC (cInt .u64) (a0))
noncomputable def rd37 : Rd ((Bool × Int × Vec 4 × Bool)) := r1 (cSta (sC (pBool) (sC (pInt .i64) (sC (pVec .u64 4) (sO (pBool))))))
noncomputable def fn_prod_exact (N : Nat) (x0 : Int) (x1 : Int) : Option ((Bool × Int × Vec 4 × Bool)) :=
  (fn_pat_Take N x0).bind fun r1 =>
   (fn_pat_Take N x1).bind fun r2 =>
    (fn_wide_Of N r1.2.2.2).bind fun r3 =>
     (fn_wide_Of N r2.2.2.2).bind fun r4 =>
      (fn_wide_Mul N r3 r4).bind fun r5 =>
       some (!(eqB r1.1 r2.1), addI .i64 r1.2.2.1 r2.2.2.1, r5.1, false)
theorem run37 (N : Nat) (x0 : Int) (x1 : Int) : Eng.run T37 (G37 N) N live37 c37 Tryz.f37.results.toList Tryz.f37.ntmps ((ad37).enc (x0, x1, ())) (rd37).dec = fn_prod_exact N x0 x1 := by kernel_rfl
noncomputable def F37 (N : Nat) (a : Int × Int × Unit) : Option ((Bool × Int × Vec 4 × Bool)) := fn_prod_exact N a.1 a.2.1
theorem ok37 (N : Nat) : FnOK Tryz.prog 37 ad37 rd37 (F37 N) :=
  fn_ok (N := N) (live := live37) (code := c37) (tok T37.rt T37.kl (wrNil_ok)) mixed (gok37 N) Tryz.func37 (by kernel_rfl) (by kernel_rfl) (by kernel_rfl) fun a p h => by rw [← h]; exact run37 N a.1 a.2.1

/-! ### tiller/sums.right: function 69 -/
noncomputable def c69 : Code := (Tryz.f69.body).getD .skip
noncomputable def T69 : Tb := ⟨tyOf tys, [(3, 1), (8, 1), (13, 1), (18, 1)], [], wrNil⟩
noncomputable def G69 {R : Type} (N : Nat) : FuncId → List AV → (AV → Option R) → Option R := gCons 57 (gOf ad57 rd57 (F57 N)) (gNil)
theorem gok69 {R : Type} (N : Nat) : GOK Tryz.prog (G69 (R := R) N) := gCons_ok (ok57 N) (gNil_ok)
noncomputable def live69 : List (Nat × List (Nat × HK)) := []
noncomputable def ad69 : Ad ((Bool × Int × Vec 4 × Bool) × Unit) := aC (cSta (sC (pBool) (sC (pInt .i64) (sC (pVec .u64 4) (sO (pBool)))))) (a0)
noncomputable def rd69 : Rd (Bool) := r1 (cBool)
noncomputable def fn_sums_right (N : Nat) (x0 : (Bool × Int × Vec 4 × Bool)) : Option (Bool) :=
  (fn_wide_Len N x0.2.2.1).bind fun r1 =>
   cond (leI r1 128)
    (cond (!(x0.2.2.2))
     (cond (leI (-100000) x0.2.1)
      (some (leI x0.2.1 100000))
      (some false))
     (some false))
    (some false)
theorem run69 (N : Nat) (x0 : (Bool × Int × Vec 4 × Bool)) : Eng.run T69 (G69 N) N live69 c69 Tryz.f69.results.toList Tryz.f69.ntmps ((ad69).enc (x0, ())) (rd69).dec = fn_sums_right N x0 := by kernel_rfl
noncomputable def F69 (N : Nat) (a : (Bool × Int × Vec 4 × Bool) × Unit) : Option (Bool) := fn_sums_right N a.1
theorem ok69 (N : Nat) : FnOK Tryz.prog 69 ad69 rd69 (F69 N) :=
  fn_ok (N := N) (live := live69) (code := c69) (tok T69.rt T69.kl (wrNil_ok)) mixed (gok69 N) Tryz.func69 (by kernel_rfl) (by kernel_rfl) (by kernel_rfl) fun a p h => by rw [← h]; exact run69 N a.1

/-! ### tiller/sums.Exact: function 36 -/
noncomputable def c36 : Code := (Tryz.f36.body).getD .skip
noncomputable def T36 : Tb := ⟨tyOf tys, [], [], wrNil⟩
noncomputable def G36 {R : Type} (N : Nat) : FuncId → List AV → (AV → Option R) → Option R := gCons 69 (gOf ad69 rd69 (F69 N)) (gCons 40 (gOf ad40 rd40 (F40 N)) (gNil))
theorem gok36 {R : Type} (N : Nat) : GOK Tryz.prog (G36 (R := R) N) := gCons_ok (ok69 N) (gCons_ok (ok40 N) (gNil_ok))
noncomputable def live36 : List (Nat × List (Nat × HK)) := []
noncomputable def ad36 : Ad ((Bool × Int × Vec 4 × Bool) × (Bool × Int × Vec 4 × Bool) × Int × Unit) := aC (cSta (sC (pBool) (sC (pInt .i64) (sC (pVec .u64 4) (sO (pBool)))))) (aC (cSta (sC (pBool) (sC (pInt .i64) (sC (pVec .u64 4) (sO (pBool)))))) (aC (cInt .i64) (a0)))
noncomputable def rd36 : Rd ((Bool × Int × Vec 4 × Bool) × Option Int) := r2 (cSta (sC (pBool) (sC (pInt .i64) (sC (pVec .u64 4) (sO (pBool)))))) (cErr 92)
noncomputable def fn_sums_Exact (N : Nat) (x0 : (Bool × Int × Vec 4 × Bool)) (x1 : (Bool × Int × Vec 4 × Bool)) (x2 : Int) : Option ((Bool × Int × Vec 4 × Bool) × Option Int) :=
  (fn_sums_right N (x0.1, x0.2.1, x0.2.2.1, x0.2.2.2)).bind fun r1 =>
   cond (!(r1))
    (some ((false, 0, Vec.zero 4, false), some 1))
    ((fn_sums_right N (x1.1, x1.2.1, x1.2.2.1, x1.2.2.2)).bind fun r2 =>
     cond (!(r2))
      (some ((false, 0, Vec.zero 4, false), some 1))
      ((fn_sums_join N (x0.1, x0.2.1, x0.2.2.1, x0.2.2.2) (x1.1, x1.2.1, x1.2.2.1, x1.2.2.2) x2).bind fun r3 =>
       some ((r3.1, r3.2.1, r3.2.2.1, r3.2.2.2), none)))
theorem run36 (N : Nat) (x0 : (Bool × Int × Vec 4 × Bool)) (x1 : (Bool × Int × Vec 4 × Bool)) (x2 : Int) : Eng.run T36 (G36 N) N live36 c36 Tryz.f36.results.toList Tryz.f36.ntmps ((ad36).enc (x0, x1, x2, ())) (rd36).dec = fn_sums_Exact N x0 x1 x2 := by kernel_rfl
noncomputable def F36 (N : Nat) (a : (Bool × Int × Vec 4 × Bool) × (Bool × Int × Vec 4 × Bool) × Int × Unit) : Option ((Bool × Int × Vec 4 × Bool) × Option Int) := fn_sums_Exact N a.1 a.2.1 a.2.2.1
theorem ok36 (N : Nat) : FnOK Tryz.prog 36 ad36 rd36 (F36 N) :=
  fn_ok (N := N) (live := live36) (code := c36) (tok T36.rt T36.kl (wrNil_ok)) mixed (gok36 N) Tryz.func36 (by kernel_rfl) (by kernel_rfl) (by kernel_rfl) fun a p h => by rw [← h]; exact run36 N a.1 a.2.1 a.2.2.1

/-! ### tiller/prod.Fma: function 9 -/
noncomputable def c9 : Code := (Tryz.f9.body).getD .skip
noncomputable def T9 : Tb := ⟨tyOf tys, [], [], wrNil⟩
noncomputable def G9 {R : Type} (N : Nat) : FuncId → List AV → (AV → Option R) → Option R := gCons 32 (gOf ad32 rd32 (F32 N)) (gCons 33 (gOf ad33 rd33 (F33 N)) (gCons 24 (gOf ad24 rd24 (F24 N)) (gCons 34 (gOf ad34 rd34 (F34 N)) (gCons 35 (gOf ad35 rd35 (F35 N)) (gCons 10 (gOf ad10 rd10 (F10 N)) (gCons 29 (gOf ad29 rd29 (F29 N)) (gCons 37 (gOf ad37 rd37 (F37 N)) (gCons 36 (gOf ad36 rd36 (F36 N)) (gCons 28 (gOf ad28 rd28 (F28 N)) (gNil))))))))))
theorem gok9 {R : Type} (N : Nat) : GOK Tryz.prog (G9 (R := R) N) := gCons_ok (ok32 N) (gCons_ok (ok33 N) (gCons_ok (ok24 N) (gCons_ok (ok34 N) (gCons_ok (ok35 N) (gCons_ok (ok10 N) (gCons_ok (ok29 N) (gCons_ok (ok37 N) (gCons_ok (ok36 N) (gCons_ok (ok28 N) (gNil_ok))))))))))
noncomputable def live9 : List (Nat × List (Nat × HK)) := []
noncomputable def ad9 : Ad (Int × Int × Int × Int × Unit) := aC (cInt .u64) (aC (cInt .u64) (aC (cInt .u64) (aC (cInt .i64) (a0))))
noncomputable def rd9 : Rd (Int × Int) := r2 (cInt .u64) (cInt .u8)
noncomputable def fn_prod_Fma (N : Nat) (x0 : Int) (x1 : Int) (x2 : Int) (x3 : Int) : Option (Int × Int) :=
  (fn_prod_sign N x0 x1).bind fun r1 =>
   (fn_prod_nothing N x0 x1).bind fun r2 =>
    cond r2
     (some (9221120237041090560, 1))
     ((fn_pat_IsNaN N x0).bind fun r3 =>
      cond r3
       ((fn_prod_loud N [x0, x1, x2]).bind fun r4 =>
        some (9221120237041090560, r4))
       ((fn_pat_IsNaN N x1).bind fun r5 =>
        cond r5
         ((fn_prod_loud N [x0, x1, x2]).bind fun r6 =>
          some (9221120237041090560, r6))
         ((fn_pat_IsNaN N x2).bind fun r7 =>
          cond r7
           ((fn_prod_loud N [x0, x1, x2]).bind fun r8 =>
            some (9221120237041090560, r8))
           ((fn_pat_Finite N x0).bind fun r9 =>
            cond (!(r9))
             ((fn_sums_Add N (orI .u64 9218868437227405312 r1) x2 x3).bind fun r10 =>
              some (r10.1, r10.2))
             ((fn_pat_Finite N x1).bind fun r11 =>
              cond (!(r11))
               ((fn_sums_Add N (orI .u64 9218868437227405312 r1) x2 x3).bind fun r12 =>
                some (r12.1, r12.2))
               ((fn_pat_Finite N x2).bind fun r13 =>
                cond (!(r13))
                 (some (x2, 0))
                 ((fn_rnd_Of N x2).bind fun r14 =>
                  cond (!(isNoneI r14.2))
                   (some (9221120237041090560, 1))
                   ((fn_prod_exact N x0 x1).bind fun r15 =>
                    (fn_sums_Exact N (r15.1, r15.2.1, r15.2.2.1, r15.2.2.2) (r14.1.1, r14.1.2.1, r14.1.2.2.1, r14.1.2.2.2) x3).bind fun r16 =>
                     cond (!(isNoneI r16.2))
                      (some (9221120237041090560, 1))
                      ((fn_rnd_Round N (r16.1.1, r16.1.2.1, r16.1.2.2.1, r16.1.2.2.2) x3).bind fun r17 =>
                       some (r17.1, r17.2))))))))))
theorem run9 (N : Nat) (x0 : Int) (x1 : Int) (x2 : Int) (x3 : Int) : Eng.run T9 (G9 N) N live9 c9 Tryz.f9.results.toList Tryz.f9.ntmps ((ad9).enc (x0, x1, x2, x3, ())) (rd9).dec = fn_prod_Fma N x0 x1 x2 x3 := by kernel_rfl
noncomputable def F9 (N : Nat) (a : Int × Int × Int × Int × Unit) : Option (Int × Int) := fn_prod_Fma N a.1 a.2.1 a.2.2.1 a.2.2.2.1
theorem ok9 (N : Nat) : FnOK Tryz.prog 9 ad9 rd9 (F9 N) :=
  fn_ok (N := N) (live := live9) (code := c9) (tok T9.rt T9.kl (wrNil_ok)) mixed (gok9 N) Tryz.func9 (by kernel_rfl) (by kernel_rfl) (by kernel_rfl) fun a p h => by rw [← h]; exact run9 N a.1 a.2.1 a.2.2.1 a.2.2.2.1

/-! ### tiller/sums.Sub: function 11 -/
noncomputable def c11 : Code := (Tryz.f11.body).getD .skip
noncomputable def T11 : Tb := ⟨tyOf tys, [], [], wrNil⟩
noncomputable def G11 {R : Type} (N : Nat) : FuncId → List AV → (AV → Option R) → Option R := gCons 24 (gOf ad24 rd24 (F24 N)) (gCons 41 (gOf ad41 rd41 (F41 N)) (gCons 10 (gOf ad10 rd10 (F10 N)) (gNil)))
theorem gok11 {R : Type} (N : Nat) : GOK Tryz.prog (G11 (R := R) N) := gCons_ok (ok24 N) (gCons_ok (ok41 N) (gCons_ok (ok10 N) (gNil_ok)))
noncomputable def live11 : List (Nat × List (Nat × HK)) := []
noncomputable def ad11 : Ad (Int × Int × Int × Unit) := aC (cInt .u64) (aC (cInt .u64) (aC (cInt .i64) (a0)))
noncomputable def rd11 : Rd (Int × Int) := r2 (cInt .u64) (cInt .u8)
noncomputable def fn_sums_Sub (N : Nat) (x0 : Int) (x1 : Int) (x2 : Int) : Option (Int × Int) :=
  (fn_pat_IsNaN N x1).bind fun r1 =>
   cond (!(r1))
    ((fn_pat_Neg N x1).bind fun r2 =>
     (fn_sums_Add N x0 r2 x2).bind fun r3 =>
      some (r3.1, r3.2))
    ((fn_sums_Add N x0 x1 x2).bind fun r4 =>
     some (r4.1, r4.2))
theorem run11 (N : Nat) (x0 : Int) (x1 : Int) (x2 : Int) : Eng.run T11 (G11 N) N live11 c11 Tryz.f11.results.toList Tryz.f11.ntmps ((ad11).enc (x0, x1, x2, ())) (rd11).dec = fn_sums_Sub N x0 x1 x2 := by kernel_rfl
noncomputable def F11 (N : Nat) (a : Int × Int × Int × Unit) : Option (Int × Int) := fn_sums_Sub N a.1 a.2.1 a.2.2.1
theorem ok11 (N : Nat) : FnOK Tryz.prog 11 ad11 rd11 (F11 N) :=
  fn_ok (N := N) (live := live11) (code := c11) (tok T11.rt T11.kl (wrNil_ok)) mixed (gok11 N) Tryz.func11 (by kernel_rfl) (by kernel_rfl) (by kernel_rfl) fun a p h => by rw [← h]; exact run11 N a.1 a.2.1 a.2.2.1

/-! ### tiller/ints.OfPlain: function 42 -/
noncomputable def c42 : Code := (Tryz.f42.body).getD .skip
noncomputable def T42 : Tb := ⟨tyOf tys, [], [], wrNil⟩
noncomputable def G42 {R : Type} (N : Nat) : FuncId → List AV → (AV → Option R) → Option R := gCons 27 (gOf ad27 rd27 (F27 N)) (gCons 28 (gOf ad28 rd28 (F28 N)) (gNil))
theorem gok42 {R : Type} (N : Nat) : GOK Tryz.prog (G42 (R := R) N) := gCons_ok (ok27 N) (gCons_ok (ok28 N) (gNil_ok))
noncomputable def live42 : List (Nat × List (Nat × HK)) := []
noncomputable def ad42 : Ad (Int × Int × Unit) := aC (cInt .u64) (aC (cInt .i64) (a0))
noncomputable def rd42 : Rd (Int × Int) := r2 (cInt .u64) (cInt .u8)
noncomputable def fn_ints_OfPlain (N : Nat) (x0 : Int) (x1 : Int) : Option (Int × Int) :=
  (fn_wide_Of N x0).bind fun r1 =>
   (fn_rnd_Round N (false, 0, r1, false) x1).bind fun r2 =>
    some (r2.1, r2.2)
theorem run42 (N : Nat) (x0 : Int) (x1 : Int) : Eng.run T42 (G42 N) N live42 c42 Tryz.f42.results.toList Tryz.f42.ntmps ((ad42).enc (x0, x1, ())) (rd42).dec = fn_ints_OfPlain N x0 x1 := by kernel_rfl
noncomputable def F42 (N : Nat) (a : Int × Int × Unit) : Option (Int × Int) := fn_ints_OfPlain N a.1 a.2.1
theorem ok42 (N : Nat) : FnOK Tryz.prog 42 ad42 rd42 (F42 N) :=
  fn_ok (N := N) (live := live42) (code := c42) (tok T42.rt T42.kl (wrNil_ok)) mixed (gok42 N) Tryz.func42 (by kernel_rfl) (by kernel_rfl) (by kernel_rfl) fun a p h => by rw [← h]; exact run42 N a.1 a.2.1

/-! ### tiller/ints.Of: function 12 -/
noncomputable def c12 : Code := (Tryz.f12.body).getD .skip
noncomputable def T12 : Tb := ⟨tyOf tys, [], [], wrNil⟩
noncomputable def G12 {R : Type} (N : Nat) : FuncId → List AV → (AV → Option R) → Option R := gCons 42 (gOf ad42 rd42 (F42 N)) (gCons 27 (gOf ad27 rd27 (F27 N)) (gCons 28 (gOf ad28 rd28 (F28 N)) (gNil)))
theorem gok12 {R : Type} (N : Nat) : GOK Tryz.prog (G12 (R := R) N) := gCons_ok (ok42 N) (gCons_ok (ok27 N) (gCons_ok (ok28 N) (gNil_ok)))
noncomputable def live12 : List (Nat × List (Nat × HK)) := []
noncomputable def ad12 : Ad (Int × Int × Unit) := aC (cInt .i64) (aC (cInt .i64) (a0))
noncomputable def rd12 : Rd (Int × Int) := r2 (cInt .u64) (cInt .u8)
noncomputable def fn_ints_Of (N : Nat) (x0 : Int) (x1 : Int) : Option (Int × Int) :=
  cond (leI 0 x0)
   ((fn_ints_OfPlain N (cvI .u64 x0) x1).bind fun r1 =>
    some (r1.1, r1.2))
   ((fn_wide_Of N (subI .u64 0 (cvI .u64 x0))).bind fun r2 =>
    (fn_rnd_Round N (true, 0, r2, false) x1).bind fun r3 =>
     some (r3.1, r3.2))
theorem run12 (N : Nat) (x0 : Int) (x1 : Int) : Eng.run T12 (G12 N) N live12 c12 Tryz.f12.results.toList Tryz.f12.ntmps ((ad12).enc (x0, x1, ())) (rd12).dec = fn_ints_Of N x0 x1 := by kernel_rfl
noncomputable def F12 (N : Nat) (a : Int × Int × Unit) : Option (Int × Int) := fn_ints_Of N a.1 a.2.1
theorem ok12 (N : Nat) : FnOK Tryz.prog 12 ad12 rd12 (F12 N) :=
  fn_ok (N := N) (live := live12) (code := c12) (tok T12.rt T12.kl (wrNil_ok)) mixed (gok12 N) Tryz.func12 (by kernel_rfl) (by kernel_rfl) (by kernel_rfl) fun a p h => by rw [← h]; exact run12 N a.1 a.2.1

/-! ### tiller/prod.Mul: function 13 -/
noncomputable def c13 : Code := (Tryz.f13.body).getD .skip
noncomputable def T13 : Tb := ⟨tyOf tys, [], [], wrNil⟩
noncomputable def G13 {R : Type} (N : Nat) : FuncId → List AV → (AV → Option R) → Option R := gCons 24 (gOf ad24 rd24 (F24 N)) (gCons 34 (gOf ad34 rd34 (F34 N)) (gCons 33 (gOf ad33 rd33 (F33 N)) (gCons 35 (gOf ad35 rd35 (F35 N)) (gCons 32 (gOf ad32 rd32 (F32 N)) (gCons 37 (gOf ad37 rd37 (F37 N)) (gCons 28 (gOf ad28 rd28 (F28 N)) (gNil)))))))
theorem gok13 {R : Type} (N : Nat) : GOK Tryz.prog (G13 (R := R) N) := gCons_ok (ok24 N) (gCons_ok (ok34 N) (gCons_ok (ok33 N) (gCons_ok (ok35 N) (gCons_ok (ok32 N) (gCons_ok (ok37 N) (gCons_ok (ok28 N) (gNil_ok)))))))
noncomputable def live13 : List (Nat × List (Nat × HK)) := []
noncomputable def ad13 : Ad (Int × Int × Int × Unit) := aC (cInt .u64) (aC (cInt .u64) (aC (cInt .i64) (a0)))
noncomputable def rd13 : Rd (Int × Int) := r2 (cInt .u64) (cInt .u8)
noncomputable def fn_prod_Mul (N : Nat) (x0 : Int) (x1 : Int) (x2 : Int) : Option (Int × Int) :=
  (fn_pat_IsNaN N x0).bind fun r1 =>
   cond r1
    ((fn_prod_loud N [x0, x1]).bind fun r2 =>
     some (9221120237041090560, r2))
    ((fn_pat_IsNaN N x1).bind fun r3 =>
     cond r3
      ((fn_prod_loud N [x0, x1]).bind fun r4 =>
       some (9221120237041090560, r4))
      ((fn_prod_nothing N x0 x1).bind fun r5 =>
       cond r5
        (some (9221120237041090560, 1))
        ((fn_pat_Finite N x0).bind fun r6 =>
         cond (!(r6))
          ((fn_prod_sign N x0 x1).bind fun r7 =>
           some (orI .u64 9218868437227405312 r7, 0))
          ((fn_pat_Finite N x1).bind fun r8 =>
           cond (!(r8))
            ((fn_prod_sign N x0 x1).bind fun r9 =>
             some (orI .u64 9218868437227405312 r9, 0))
            ((fn_prod_exact N x0 x1).bind fun r10 =>
             (fn_rnd_Round N (r10.1, r10.2.1, r10.2.2.1, r10.2.2.2) x2).bind fun r11 =>
              some (r11.1, r11.2))))))
theorem run13 (N : Nat) (x0 : Int) (x1 : Int) (x2 : Int) : Eng.run T13 (G13 N) N live13 c13 Tryz.f13.results.toList Tryz.f13.ntmps ((ad13).enc (x0, x1, x2, ())) (rd13).dec = fn_prod_Mul N x0 x1 x2 := by kernel_rfl
noncomputable def F13 (N : Nat) (a : Int × Int × Int × Unit) : Option (Int × Int) := fn_prod_Mul N a.1 a.2.1 a.2.2.1
theorem ok13 (N : Nat) : FnOK Tryz.prog 13 ad13 rd13 (F13 N) :=
  fn_ok (N := N) (live := live13) (code := c13) (tok T13.rt T13.kl (wrNil_ok)) mixed (gok13 N) Tryz.func13 (by kernel_rfl) (by kernel_rfl) (by kernel_rfl) fun a p h => by rw [← h]; exact run13 N a.1 a.2.1 a.2.2.1

/-! ### tiller/ints.find: function 74 -/
noncomputable def c74 : Code := (Tryz.f74.body).getD .skip
noncomputable def T74 : Tb := ⟨tyOf tys, [(20, 9), (24, 9), (26, 9), (31, 10), (33, 9), (37, 9), (41, 10), (43, 9), (46, 9), (48, 9), (51, 10)], [], wrNil⟩
noncomputable def G74 {R : Type} (N : Nat) : FuncId → List AV → (AV → Option R) → Option R := gCons 8 (gOf ad8 rd8 (F8 N)) (gCons 23 (gOf ad23 rd23 (F23 N)) (gNil))
theorem gok74 {R : Type} (N : Nat) : GOK Tryz.prog (G74 (R := R) N) := gCons_ok (ok8 N) (gCons_ok (ok23 N) (gNil_ok))
noncomputable def live74 : List (Nat × List (Nat × HK)) := []
noncomputable def ad74 : Ad (Int × Int × Bool × Unit) := aC (cInt .u64) (aC (cInt .i64) (aC (cBool) (a0)))
noncomputable def rd74 : Rd ((Bool × Int × Bool × Int)) := r1 (cSt (fC (lBool) (fC (lInt .u64) (fC (lBool) (fO (lInt .u8))))))
noncomputable def fn_ints_find (N : Nat) (x0 : Int) (x1 : Int) (x2 : Bool) : Option ((Bool × Int × Bool × Int)) :=
  (fn_whole_Round N x0 x1 x2).bind fun r1 =>
   (fn_pat_Take N r1.1).bind fun r2 =>
    cond (eqI r2.2.1 3)
     (some (r2.1, 0, true, r1.2))
     (cond (ltI 11 r2.2.2.1)
      (some (r2.1, 0, true, r1.2))
      (cond (leI 0 r2.2.2.1)
       (cond (ltI r2.2.2.1 0)
        (none)
        (some (r2.1, shlI .u64 r2.2.2.2 r2.2.2.1, false, r1.2)))
       (cond (ltI (minI (subI .i64 0 r2.2.2.1) 63) 0)
        (none)
        (some (r2.1, shrI .u64 r2.2.2.2 (minI (subI .i64 0 r2.2.2.1) 63), false, r1.2)))))
theorem run74 (N : Nat) (x0 : Int) (x1 : Int) (x2 : Bool) : Eng.run T74 (G74 N) N live74 c74 Tryz.f74.results.toList Tryz.f74.ntmps ((ad74).enc (x0, x1, x2, ())) (rd74).dec = fn_ints_find N x0 x1 x2 := by kernel_rfl
noncomputable def F74 (N : Nat) (a : Int × Int × Bool × Unit) : Option ((Bool × Int × Bool × Int)) := fn_ints_find N a.1 a.2.1 a.2.2.1
theorem ok74 (N : Nat) : FnOK Tryz.prog 74 ad74 rd74 (F74 N) :=
  fn_ok (N := N) (live := live74) (code := c74) (tok T74.rt T74.kl (wrNil_ok)) mixed (gok74 N) Tryz.func74 (by kernel_rfl) (by kernel_rfl) (by kernel_rfl) fun a p h => by rw [← h]; exact run74 N a.1 a.2.1 a.2.2.1

/-! ### tiller/ints.among: function 43 -/
noncomputable def c43 : Code := (Tryz.f43.body).getD .skip
noncomputable def T43 : Tb := ⟨tyOf tys, [(22, 13), (25, 13), (28, 13), (33, 13), (36, 13), (38, 13), (40, 13)], [], wrNil⟩
noncomputable def G43 {R : Type} (N : Nat) : FuncId → List AV → (AV → Option R) → Option R := gCons 24 (gOf ad24 rd24 (F24 N)) (gCons 74 (gOf ad74 rd74 (F74 N)) (gNil))
theorem gok43 {R : Type} (N : Nat) : GOK Tryz.prog (G43 (R := R) N) := gCons_ok (ok24 N) (gCons_ok (ok74 N) (gNil_ok))
noncomputable def live43 : List (Nat × List (Nat × HK)) := []
noncomputable def ad43 : Ad (Int × Int × Bool × Int × Int × Unit) := aC (cInt .u64) (aC (cInt .i64) (aC (cBool) (aC (cInt .u64) (aC (cInt .u64) (a0)))))
noncomputable def rd43 : Rd (Bool × Int × Int) := r3 (cBool) (cInt .u64) (cInt .u8)
noncomputable def fn_ints_among (N : Nat) (x0 : Int) (x1 : Int) (x2 : Bool) (x3 : Int) (x4 : Int) : Option (Bool × Int × Int) :=
  (fn_pat_IsNaN N x0).bind fun r1 =>
   cond r1
    (some (false, 0, 1))
    ((fn_ints_find N x0 x1 x2).bind fun r2 =>
     cond r2.1
      (cond r2.2.2.1
       (some (r2.1, x3, 1))
       (cond (ltI x3 r2.2.1)
        (some (r2.1, x3, 1))
        (some (r2.1, r2.2.1, r2.2.2.2))))
      (cond r2.2.2.1
       (some (r2.1, x4, 1))
       (cond (ltI x4 r2.2.1)
        (some (r2.1, x4, 1))
        (some (r2.1, r2.2.1, r2.2.2.2)))))
theorem run43 (N : Nat) (x0 : Int) (x1 : Int) (x2 : Bool) (x3 : Int) (x4 : Int) : Eng.run T43 (G43 N) N live43 c43 Tryz.f43.results.toList Tryz.f43.ntmps ((ad43).enc (x0, x1, x2, x3, x4, ())) (rd43).dec = fn_ints_among N x0 x1 x2 x3 x4 := by kernel_rfl
noncomputable def F43 (N : Nat) (a : Int × Int × Bool × Int × Int × Unit) : Option (Bool × Int × Int) := fn_ints_among N a.1 a.2.1 a.2.2.1 a.2.2.2.1 a.2.2.2.2.1
theorem ok43 (N : Nat) : FnOK Tryz.prog 43 ad43 rd43 (F43 N) :=
  fn_ok (N := N) (live := live43) (code := c43) (tok T43.rt T43.kl (wrNil_ok)) mixed (gok43 N) Tryz.func43 (by kernel_rfl) (by kernel_rfl) (by kernel_rfl) fun a p h => by rw [← h]; exact run43 N a.1 a.2.1 a.2.2.1 a.2.2.2.1 a.2.2.2.2.1

/-! ### tiller/ints.signed[int64]: function 44 -/
noncomputable def c44 : Code := (Tryz.f44.body).getD .skip
noncomputable def T44 : Tb := ⟨tyOf tys, [], [], wrNil⟩
noncomputable def G44 {R : Type} (N : Nat) : FuncId → List AV → (AV → Option R) → Option R := gNil
theorem gok44 {R : Type} (N : Nat) : GOK Tryz.prog (G44 (R := R) N) := gNil_ok
noncomputable def live44 : List (Nat × List (Nat × HK)) := []
noncomputable def ad44 : Ad (Bool × Int × Unit) := aC (cBool) (aC (cInt .u64) (a0))
noncomputable def rd44 : Rd (Int) := r1 (cInt .i64)
noncomputable def fn_ints_signed_int64 (N : Nat) (x0 : Bool) (x1 : Int) : Option (Int) :=
  cond x0
   (some (subI .i64 0 (cvI .i64 x1)))
   (some (cvI .i64 x1))
theorem run44 (N : Nat) (x0 : Bool) (x1 : Int) : Eng.run T44 (G44 N) N live44 c44 Tryz.f44.results.toList Tryz.f44.ntmps ((ad44).enc (x0, x1, ())) (rd44).dec = fn_ints_signed_int64 N x0 x1 := by kernel_rfl
noncomputable def F44 (N : Nat) (a : Bool × Int × Unit) : Option (Int) := fn_ints_signed_int64 N a.1 a.2.1
theorem ok44 (N : Nat) : FnOK Tryz.prog 44 ad44 rd44 (F44 N) :=
  fn_ok (N := N) (live := live44) (code := c44) (tok T44.rt T44.kl (wrNil_ok)) mixed (gok44 N) Tryz.func44 (by kernel_rfl) (by kernel_rfl) (by kernel_rfl) fun a p h => by rw [← h]; exact run44 N a.1 a.2.1

/-! ### tiller/ints.To: function 14 -/
noncomputable def c14 : Code := (Tryz.f14.body).getD .skip
noncomputable def T14 : Tb := ⟨tyOf tys, [], [], wrNil⟩
noncomputable def G14 {R : Type} (N : Nat) : FuncId → List AV → (AV → Option R) → Option R := gCons 43 (gOf ad43 rd43 (F43 N)) (gCons 44 (gOf ad44 rd44 (F44 N)) (gNil))
theorem gok14 {R : Type} (N : Nat) : GOK Tryz.prog (G14 (R := R) N) := gCons_ok (ok43 N) (gCons_ok (ok44 N) (gNil_ok))
noncomputable def live14 : List (Nat × List (Nat × HK)) := []
noncomputable def ad14 : Ad (Int × Int × Bool × Unit) := aC (cInt .u64) (aC (cInt .i64) (aC (cBool) (a0)))
noncomputable def rd14 : Rd (Int × Int) := r2 (cInt .i64) (cInt .u8)
noncomputable def fn_ints_To (N : Nat) (x0 : Int) (x1 : Int) (x2 : Bool) : Option (Int × Int) :=
  (fn_ints_among N x0 x1 x2 9223372036854775808 9223372036854775807).bind fun r1 =>
   (fn_ints_signed_int64 N r1.1 r1.2.1).bind fun r2 =>
    some (r2, r1.2.2)
theorem run14 (N : Nat) (x0 : Int) (x1 : Int) (x2 : Bool) : Eng.run T14 (G14 N) N live14 c14 Tryz.f14.results.toList Tryz.f14.ntmps ((ad14).enc (x0, x1, x2, ())) (rd14).dec = fn_ints_To N x0 x1 x2 := by kernel_rfl
noncomputable def F14 (N : Nat) (a : Int × Int × Bool × Unit) : Option (Int × Int) := fn_ints_To N a.1 a.2.1 a.2.2.1
theorem ok14 (N : Nat) : FnOK Tryz.prog 14 ad14 rd14 (F14 N) :=
  fn_ok (N := N) (live := live14) (code := c14) (tok T14.rt T14.kl (wrNil_ok)) mixed (gok14 N) Tryz.func14 (by kernel_rfl) (by kernel_rfl) (by kernel_rfl) fun a p h => by rw [← h]; exact run14 N a.1 a.2.1 a.2.2.1

/-! ### tiller/whole.Mod: function 15 -/
noncomputable def c15 : Code := (Tryz.f15.body).getD .skip
noncomputable def T15 : Tb := ⟨tyOf tys, [], [], wrNil⟩
noncomputable def G15 {R : Type} (N : Nat) : FuncId → List AV → (AV → Option R) → Option R := gCons 18 (gOf ad18 rd18 (F18 N)) (gCons 22 (gOf ad22 rd22 (F22 N)) (gNil))
theorem gok15 {R : Type} (N : Nat) : GOK Tryz.prog (G15 (R := R) N) := gCons_ok (ok18 N) (gCons_ok (ok22 N) (gNil_ok))
noncomputable def live15 : List (Nat × List (Nat × HK)) := []
noncomputable def ad15 : Ad (Int × Int × Unit) := aC (cInt .u64) (aC (cInt .u64) (a0))
noncomputable def rd15 : Rd (Int × Int) := r2 (cInt .u64) (cInt .u8)
noncomputable def fn_whole_Mod (N : Nat) (x0 : Int) (x1 : Int) : Option (Int × Int) :=
  (fn_whole_rests N x0 x1).bind fun r1 =>
   cond (!(r1.2.1))
    (some (r1.2.2.1, r1.2.2.2))
    ((fn_whole_rest_made N (r1.1.1, r1.1.2.1, r1.1.2.2.1, r1.1.2.2.2) (!(eqI (andI .u64 x0 9223372036854775808) 0))).bind fun r2 =>
     some (r2.1, r2.2))
theorem run15 (N : Nat) (x0 : Int) (x1 : Int) : Eng.run T15 (G15 N) N live15 c15 Tryz.f15.results.toList Tryz.f15.ntmps ((ad15).enc (x0, x1, ())) (rd15).dec = fn_whole_Mod N x0 x1 := by kernel_rfl
noncomputable def F15 (N : Nat) (a : Int × Int × Unit) : Option (Int × Int) := fn_whole_Mod N a.1 a.2.1
theorem ok15 (N : Nat) : FnOK Tryz.prog 15 ad15 rd15 (F15 N) :=
  fn_ok (N := N) (live := live15) (code := c15) (tok T15.rt T15.kl (wrNil_ok)) mixed (gok15 N) Tryz.func15 (by kernel_rfl) (by kernel_rfl) (by kernel_rfl) fun a p h => by rw [← h]; exact run15 N a.1 a.2.1
end Go.Proofs.YtopcajgknbmbcaaGreatDoor.Fns

/- Go functions as plain Lean functions, and the engine's run of each. No statement is proved here. Laid by eng.py. -/
import Derived.Test.YtcdhcihjcjpmkaaGreatDoorFn1
namespace Go.Proofs.YtcdhcihjcjpmkaaGreatDoor.Fns
open Go Go.RowKit Go.Proofs Go.Proofs.YtcdhcihjcjpmkaaGreatDoor.Eng Go.Proofs.YtcdhcihjcjpmkaaGreatDoor.Num Go.Proofs.YtcdhcihjcjpmkaaGreatDoor.Slc
set_option linter.unusedVariables false
set_option maxRecDepth 100000
/-! ### tiller/nat.Decimal: function 87 -/
noncomputable def c87 : Code := (Tryz.f87.body).getD .skip
noncomputable def T87 : Tb := ⟨tyOf tys, [(44, 4)], [52], wrCons 110 revW (wrNil)⟩
noncomputable def G87 {R : Type} (N : Nat) : FuncId → List AV → (AV → Option R) → Option R := gCons 81 (gOf ad81 rd81 (F81 N)) (gCons 108 (gOf (aC (cLi .u32) a0) (r1 (cLi .u32)) (fun a => fn_slices_Clone N a.1)) (gCons 109 (gOf ad109 rd109 (F109 N)) (gNil)))
theorem gok87 {R : Type} (N : Nat) : GOK Tryz.prog (G87 (R := R) N) := gCons_ok (ok81 N) (gCons_ok (clone_ok N) (gCons_ok (ok109 N) (gNil_ok)))
noncomputable def live87 : List (Nat × List (Nat × HK)) := [(5, [(4, .row .u8 5), (5, .keep), (40, .keep), (41, .keep), (42, .keep), (43, .keep), (44, .keep), (45, .keep), (46, .keep)]), (8, [(4, .row .u8 5), (6, .keep), (7, .keep), (23, .keep), (40, .keep), (41, .keep), (42, .keep), (43, .keep), (44, .keep), (45, .keep), (46, .keep)]), (13, [(4, .row .u8 5), (40, .keep), (41, .keep), (44, .keep)])]
noncomputable def ad87 : Ad (List Int × Unit) := aC (cLi .u32) (a0)
noncomputable def rd87 : Rd (ByteArray × Option Int) := r2 (cStr) (cErr 34)
noncomputable def st87_0 (v0 : List Int) (v1 : List Int) : St := ⟨[AV.none, AV.none, AV.none, AV.none, AV.own 4, AV.li .u32 v0, AV.none, AV.none, AV.none, AV.none, AV.none, AV.none, AV.none, AV.none, AV.none, AV.none, AV.none, AV.none, AV.none, AV.none, AV.none, AV.none, AV.none, AV.none, AV.none, AV.none, AV.none, AV.none, AV.none, AV.none, AV.none, AV.none, AV.none, AV.none, AV.none, AV.none, AV.none, AV.none, AV.none, AV.none, AV.none, AV.none, AV.none, AV.none, AV.none, AV.none, AV.none, AV.none, AV.none, AV.none, AV.none, AV.none, AV.none, AV.none, AV.none, AV.none, AV.none, AV.none, AV.none, AV.none], [none, none, none, none, some (OB.row .u8 5 v1), none, none, none, none, none, none, none, none, none, none, none, none, none, none, none, none, none, none, none, none, none, none, none, none, none, none, none, none, none, none, none, none, none, none, none, none, none, none, none, none, none, none, none, none, none, none, none, none, none, none, none, none, none, none, none]⟩
noncomputable def raw87_0 (N : Nat) (n : Nat) (v0 : List Int) (v1 : List Int) : Option (ByteArray × Option Int) := loopN (lookN live87 5) (exec T87 (G87 N) N live87 (cL (cL (cR (cL (cR (cR (cR c87)))))))) n (st87_0 v0 v1) (blockK 0 (seqK (exec T87 (G87 N) N live87 (cR (cR (cR (cR c87))))) (retK T87 Tryz.f87.results.toList (rd87).dec)))
noncomputable def st87_1 (v0 : List Int) (v1 : Int) (v2 : Int) (v3 : List Int) : St := ⟨[AV.none, AV.none, AV.none, AV.none, AV.own 4, AV.none, AV.li .u32 v0, AV.v (.int .u32 v1), AV.none, AV.none, AV.none, AV.none, AV.none, AV.none, AV.none, AV.none, AV.none, AV.none, AV.none, AV.none, AV.none, AV.none, AV.none, AV.v (.int .i64 v2), AV.none, AV.none, AV.none, AV.none, AV.none, AV.none, AV.none, AV.none, AV.none, AV.none, AV.none, AV.none, AV.none, AV.none, AV.none, AV.none, AV.none, AV.none, AV.none, AV.none, AV.none, AV.none, AV.none, AV.none, AV.none, AV.none, AV.none, AV.none, AV.none, AV.none, AV.none, AV.none, AV.none, AV.none, AV.none, AV.none], [none, none, none, none, some (OB.row .u8 5 v3), none, none, none, none, none, none, none, none, none, none, none, none, none, none, none, none, none, none, none, none, none, none, none, none, none, none, none, none, none, none, none, none, none, none, none, none, none, none, none, none, none, none, none, none, none, none, none, none, none, none, none, none, none, none, none]⟩
noncomputable def raw87_1 (N : Nat) (m0 : Nat) (n : Nat) (v0 : List Int) (v1 : Int) (v2 : Int) (v3 : List Int) : Option (ByteArray × Option Int) := loopN (lookN live87 8) (exec T87 (G87 N) N live87 (cL (cL (cR (cL (cR (cL (cR (cL (cL (cR (cL (cR (cR (cR c87))))))))))))))) n (st87_1 v0 v1 v2 v3) (blockK 2 (seqK (exec T87 (G87 N) N live87 (cR (cR (cL (cR (cL (cL (cR (cL (cR (cR (cR c87)))))))))))) (blockK 1 (roundK (fun s => loopN (lookN live87 5) (exec T87 (G87 N) N live87 (cL (cL (cR (cL (cR (cR (cR c87)))))))) m0 s (blockK 0 (seqK (exec T87 (G87 N) N live87 (cR (cR (cR (cR c87))))) (retK T87 Tryz.f87.results.toList (rd87).dec)))) (lookN live87 5) (blockK 0 (seqK (exec T87 (G87 N) N live87 (cR (cR (cR (cR c87))))) (retK T87 Tryz.f87.results.toList (rd87).dec)))))))
noncomputable def st87_2 (v0 : List Int) : St := ⟨[AV.none, AV.none, AV.none, AV.none, AV.own 4, AV.none, AV.none, AV.none, AV.none, AV.none, AV.none, AV.none, AV.none, AV.none, AV.none, AV.none, AV.none, AV.none, AV.none, AV.none, AV.none, AV.none, AV.none, AV.none, AV.none, AV.none, AV.none, AV.none, AV.none, AV.none, AV.none, AV.none, AV.none, AV.none, AV.none, AV.none, AV.none, AV.none, AV.none, AV.none, AV.none, AV.none, AV.none, AV.none, AV.none, AV.none, AV.none, AV.none, AV.none, AV.none, AV.none, AV.none, AV.none, AV.none, AV.none, AV.none, AV.none, AV.none, AV.none, AV.none], [none, none, none, none, some (OB.row .u8 5 v0), none, none, none, none, none, none, none, none, none, none, none, none, none, none, none, none, none, none, none, none, none, none, none, none, none, none, none, none, none, none, none, none, none, none, none, none, none, none, none, none, none, none, none, none, none, none, none, none, none, none, none, none, none, none, none]⟩
noncomputable def raw87_2 (N : Nat) (n : Nat) (v0 : List Int) : Option (ByteArray × Option Int) := loopN (lookN live87 13) (exec T87 (G87 N) N live87 (cL (cL (cL (cR (cR (cR (cR c87)))))))) n (st87_2 v0) (blockK 4 (seqK (exec T87 (G87 N) N live87 (cR (cR (cR (cR (cR c87)))))) (retK T87 Tryz.f87.results.toList (rd87).dec)))
noncomputable def s87_1 (N : Nat) (Ln1 : List Int → Int → Int → List Int → Option (ByteArray × Option Int)) (Ln0 : List Int → List Int → Option (ByteArray × Option Int)) (v0 : List Int) (v1 : Int) (v2 : Int) (v3 : List Int) : Option (ByteArray × Option Int) :=
  cond (ltI v2 9)
   (cond (fitL (v3.length + [cvI .u8 (addI .u32 48 (remI .u32 v1 10))].length))
    (Ln1 v0 (quoI .u32 v1 10) (addI .i64 v2 1) (v3 ++ [cvI .u8 (addI .u32 48 (remI .u32 v1 10))]))
    (none))
   (Ln0 v0 v3)
theorem step87_1 (N : Nat) (m0 : Nat) (n : Nat) (v0 : List Int) (v1 : Int) (v2 : Int) (v3 : List Int) : raw87_1 N m0 (n + 1) v0 v1 v2 v3 = s87_1 N (raw87_1 N m0 n) (raw87_0 N  m0) v0 v1 v2 v3 := by kernel_rfl
noncomputable def l87_1 (N : Nat) (E0 : List Int → List Int → Option (ByteArray × Option Int)) : Nat → List Int → Int → Int → List Int → Option (ByteArray × Option Int)
  | 0 => fun _ _ _ _ => none
  | n + 1 => fun v0 v1 v2 v3 => s87_1 N (l87_1 N E0 n) E0 v0 v1 v2 v3
theorem eq87_1 (N : Nat) (m0 : Nat) : ∀ n, raw87_1 N m0 n = l87_1 N (raw87_0 N  m0) n := by
  intro n
  induction n with
  | zero => exact funext fun v0 => funext fun v1 => funext fun v2 => funext fun v3 => rfl
  | succ n ih => exact funext fun v0 => funext fun v1 => funext fun v2 => funext fun v3 => by rw [step87_1, ih]; rfl
noncomputable def s87_2 (N : Nat) (Ln2 : List Int → Option (ByteArray × Option Int)) (v0 : List Int) : Option (ByteArray × Option Int) :=
  cond (ltI 1 (v0.length : Int))
   (cond (leI 0 (subI .i64 (v0.length : Int) 1))
    (cond (ltI (subI .i64 (v0.length : Int) 1) (v0.length : Int))
     (cond (eqI (lrd v0 (subI .i64 (v0.length : Int) 1)) 48)
      (cond ((leI 0 (subI .i64 (v0.length : Int) 1)) && (leI (subI .i64 (v0.length : Int) 1) (v0.length : Int)))
       (Ln2 (v0.take ((subI .i64 (v0.length : Int) 1).toNat)))
       (none))
      (cond (eqI (v0.length : Int) 0)
       (some ((⟨#[48]⟩ : ByteArray), none))
       (some (bstr (List.reverse v0), none))))
     (none))
    (none))
   (cond (eqI (v0.length : Int) 0)
    (some ((⟨#[48]⟩ : ByteArray), none))
    (some (bstr (List.reverse v0), none)))
theorem step87_2 (N : Nat) (n : Nat) (v0 : List Int) : raw87_2 N  (n + 1) v0 = s87_2 N (raw87_2 N  n) v0 := by kernel_rfl
noncomputable def l87_2 (N : Nat) : Nat → List Int → Option (ByteArray × Option Int)
  | 0 => fun _ => none
  | n + 1 => fun v0 => s87_2 N (l87_2 N  n) v0
theorem eq87_2 (N : Nat) : ∀ n, raw87_2 N  n = l87_2 N  n := by
  intro n
  induction n with
  | zero => exact funext fun v0 => rfl
  | succ n ih => exact funext fun v0 => by rw [step87_2, ih]; rfl
noncomputable def s87_0 (N : Nat) (Le1 : List Int → Int → Int → List Int → Option (ByteArray × Option Int)) (Le2 : List Int → Option (ByteArray × Option Int)) (v0 : List Int) (v1 : List Int) : Option (ByteArray × Option Int) :=
  cond (ltI 0 (v0.length : Int))
   ((fn_nat_short N v0 1000000000).bind fun r3 =>
    Le1 r3.1 r3.2 0 v1)
   (Le2 v1)
theorem step87_0 (N : Nat) (n : Nat) (v0 : List Int) (v1 : List Int) : raw87_0 N  (n + 1) v0 v1 = s87_0 N (raw87_1 N n N) (raw87_2 N  N) v0 v1 := by kernel_rfl
noncomputable def l87_0 (N : Nat) : Nat → List Int → List Int → Option (ByteArray × Option Int)
  | 0 => fun _ _ => none
  | n + 1 => fun v0 v1 => s87_0 N (l87_1 N (l87_0 N  n) N) (l87_2 N  N) v0 v1
theorem eq87_0 (N : Nat) : ∀ n, raw87_0 N  n = l87_0 N  n := by
  intro n
  induction n with
  | zero => exact funext fun v0 => funext fun v1 => rfl
  | succ n ih => exact funext fun v0 => funext fun v1 => by rw [step87_0, eq87_1 N n N, eq87_2 N  N, ih]; rfl
noncomputable def t87 (N : Nat) (Le0 : List Int → List Int → Option (ByteArray × Option Int)) (x0 : List Int) : Option (ByteArray × Option Int) :=
  (fn_nat_Check N x0).bind fun r1 =>
   cond (!(isNoneI r1))
    (some ((⟨#[]⟩ : ByteArray), some 1))
    ((fn_slices_Clone N x0).bind fun r2 =>
     Le0 r2 [])
noncomputable def fn_nat_Decimal (N : Nat) (x0 : List Int) : Option (ByteArray × Option Int) := t87 N (l87_0 N N) x0
theorem run87 (N : Nat) (x0 : List Int) : Eng.run T87 (G87 N) N live87 c87 Tryz.f87.results.toList Tryz.f87.ntmps ((ad87).enc (x0, ())) (rd87).dec = fn_nat_Decimal N x0 := by
  refine Eq.trans (show _ = t87 N (raw87_0 N N) x0 from by kernel_rfl) ?_
  unfold fn_nat_Decimal
  rw [eq87_0 N N]
noncomputable def F87 (N : Nat) (a : List Int × Unit) : Option (ByteArray × Option Int) := fn_nat_Decimal N a.1
theorem ok87 (N : Nat) : FnOK Tryz.prog 87 ad87 rd87 (F87 N) :=
  fn_ok (N := N) (live := live87) (code := c87) (tok T87.rt T87.kl (wrCons_ok (rev_ok) (wrNil_ok))) mixed (gok87 N) Tryz.func87 (by kernel_rfl) (by kernel_rfl) (by kernel_rfl) fun a p h => by rw [← h]; exact run87 N a.1

/-! ### math/bits.Mul32: function 129 -/
noncomputable def c129 : Code := (Tryz.f129.body).getD .skip
noncomputable def T129 : Tb := ⟨tyOf tys, [], [], wrNil⟩
noncomputable def G129 {R : Type} (N : Nat) : FuncId → List AV → (AV → Option R) → Option R := gNil
theorem gok129 {R : Type} (N : Nat) : GOK Tryz.prog (G129 (R := R) N) := gNil_ok
noncomputable def live129 : List (Nat × List (Nat × HK)) := []
noncomputable def ad129 : Ad (Int × Int × Unit) := aC (cInt .u32) (aC (cInt .u32) (a0))
noncomputable def rd129 : Rd (Int × Int) := r2 (cInt .u32) (cInt .u32)
noncomputable def fn_bits_Mul32 (N : Nat) (x0 : Int) (x1 : Int) : Option (Int × Int) :=
  some (cvI .u32 (shrI .u64 (mulI .u64 (cvI .u64 x0) (cvI .u64 x1)) 32), cvI .u32 (mulI .u64 (cvI .u64 x0) (cvI .u64 x1)))
theorem run129 (N : Nat) (x0 : Int) (x1 : Int) : Eng.run T129 (G129 N) N live129 c129 Tryz.f129.results.toList Tryz.f129.ntmps ((ad129).enc (x0, x1, ())) (rd129).dec = fn_bits_Mul32 N x0 x1 := by kernel_rfl
noncomputable def F129 (N : Nat) (a : Int × Int × Unit) : Option (Int × Int) := fn_bits_Mul32 N a.1 a.2.1
theorem ok129 (N : Nat) : FnOK Tryz.prog 129 ad129 rd129 (F129 N) :=
  fn_ok (N := N) (live := live129) (code := c129) (tok T129.rt T129.kl (wrNil_ok)) mixed (gok129 N) Tryz.func129 (by kernel_rfl) (by kernel_rfl) (by kernel_rfl) fun a p h => by rw [← h]; exact run129 N a.1 a.2.1

/-! ### math/bits.Mul64: function 130 -/
noncomputable def c130 : Code := (Tryz.f130.body).getD .skip
noncomputable def T130 : Tb := ⟨tyOf tys, [], [], wrNil⟩
noncomputable def G130 {R : Type} (N : Nat) : FuncId → List AV → (AV → Option R) → Option R := gNil
theorem gok130 {R : Type} (N : Nat) : GOK Tryz.prog (G130 (R := R) N) := gNil_ok
noncomputable def live130 : List (Nat × List (Nat × HK)) := []
noncomputable def ad130 : Ad (Int × Int × Unit) := aC (cInt .u64) (aC (cInt .u64) (a0))
noncomputable def rd130 : Rd (Int × Int) := r2 (cInt .u64) (cInt .u64)
noncomputable def fn_bits_Mul64 (N : Nat) (x0 : Int) (x1 : Int) : Option (Int × Int) :=
  some (addI .u64 (addI .u64 (mulI .u64 (shrI .u64 x0 32) (shrI .u64 x1 32)) (shrI .u64 (addI .u64 (mulI .u64 (shrI .u64 x0 32) (andI .u64 x1 4294967295)) (shrI .u64 (mulI .u64 (andI .u64 x0 4294967295) (andI .u64 x1 4294967295)) 32)) 32)) (shrI .u64 (addI .u64 (andI .u64 (addI .u64 (mulI .u64 (shrI .u64 x0 32) (andI .u64 x1 4294967295)) (shrI .u64 (mulI .u64 (andI .u64 x0 4294967295) (andI .u64 x1 4294967295)) 32)) 4294967295) (mulI .u64 (andI .u64 x0 4294967295) (shrI .u64 x1 32))) 32), mulI .u64 x0 x1)
theorem run130 (N : Nat) (x0 : Int) (x1 : Int) : Eng.run T130 (G130 N) N live130 c130 Tryz.f130.results.toList Tryz.f130.ntmps ((ad130).enc (x0, x1, ())) (rd130).dec = fn_bits_Mul64 N x0 x1 := by kernel_rfl
noncomputable def F130 (N : Nat) (a : Int × Int × Unit) : Option (Int × Int) := fn_bits_Mul64 N a.1 a.2.1
theorem ok130 (N : Nat) : FnOK Tryz.prog 130 ad130 rd130 (F130 N) :=
  fn_ok (N := N) (live := live130) (code := c130) (tok T130.rt T130.kl (wrNil_ok)) mixed (gok130 N) Tryz.func130 (by kernel_rfl) (by kernel_rfl) (by kernel_rfl) fun a p h => by rw [← h]; exact run130 N a.1 a.2.1

/-! ### math/bits.Mul: function 111 -/
noncomputable def c111 : Code := (Tryz.f111.body).getD .skip
noncomputable def T111 : Tb := ⟨tyOf tys, [], [], wrNil⟩
noncomputable def G111 {R : Type} (N : Nat) : FuncId → List AV → (AV → Option R) → Option R := gCons 130 (gOf ad130 rd130 (F130 N)) (gNil)
theorem gok111 {R : Type} (N : Nat) : GOK Tryz.prog (G111 (R := R) N) := gCons_ok (ok130 N) (gNil_ok)
noncomputable def live111 : List (Nat × List (Nat × HK)) := []
noncomputable def ad111 : Ad (Int × Int × Unit) := aC (cInt .u64) (aC (cInt .u64) (a0))
noncomputable def rd111 : Rd (Int × Int) := r2 (cInt .u64) (cInt .u64)
noncomputable def fn_bits_Mul (N : Nat) (x0 : Int) (x1 : Int) : Option (Int × Int) :=
  (fn_bits_Mul64 N x0 x1).bind fun r1 =>
   some (r1.1, r1.2)
theorem run111 (N : Nat) (x0 : Int) (x1 : Int) : Eng.run T111 (G111 N) N live111 c111 Tryz.f111.results.toList Tryz.f111.ntmps ((ad111).enc (x0, x1, ())) (rd111).dec = fn_bits_Mul N x0 x1 := by kernel_rfl
noncomputable def F111 (N : Nat) (a : Int × Int × Unit) : Option (Int × Int) := fn_bits_Mul N a.1 a.2.1
theorem ok111 (N : Nat) : FnOK Tryz.prog 111 ad111 rd111 (F111 N) :=
  fn_ok (N := N) (live := live111) (code := c111) (tok T111.rt T111.kl (wrNil_ok)) mixed (gok111 N) Tryz.func111 (by kernel_rfl) (by kernel_rfl) (by kernel_rfl) fun a p h => by rw [← h]; exact run111 N a.1 a.2.1

/-! ### internal/stringslite.HasPrefix: function 29 -/
noncomputable def c29 : Code := (Tryz.f29.body).getD .skip
noncomputable def T29 : Tb := ⟨tyOf tys, [], [], wrNil⟩
noncomputable def G29 {R : Type} (N : Nat) : FuncId → List AV → (AV → Option R) → Option R := gNil
theorem gok29 {R : Type} (N : Nat) : GOK Tryz.prog (G29 (R := R) N) := gNil_ok
noncomputable def live29 : List (Nat × List (Nat × HK)) := []
noncomputable def ad29 : Ad (ByteArray × ByteArray × Unit) := aC (cStr) (aC (cStr) (a0))
noncomputable def rd29 : Rd (Bool) := r1 (cBool)
noncomputable def fn_stringslite_HasPrefix (N : Nat) (x0 : ByteArray) (x1 : ByteArray) : Option (Bool) :=
  cond (leI (x1.size : Int) (x0.size : Int))
   (cond (((leI 0 0) && (leI 0 (x1.size : Int))) && (leI (x1.size : Int) (x0.size : Int)))
    (some (eqS (x0.extract ((0 : Int).toNat) ((x1.size : Int).toNat)) x1))
    (none))
   (some false)
theorem run29 (N : Nat) (x0 : ByteArray) (x1 : ByteArray) : Eng.run T29 (G29 N) N live29 c29 Tryz.f29.results.toList Tryz.f29.ntmps ((ad29).enc (x0, x1, ())) (rd29).dec = fn_stringslite_HasPrefix N x0 x1 := by kernel_rfl
noncomputable def F29 (N : Nat) (a : ByteArray × ByteArray × Unit) : Option (Bool) := fn_stringslite_HasPrefix N a.1 a.2.1
theorem ok29 (N : Nat) : FnOK Tryz.prog 29 ad29 rd29 (F29 N) :=
  fn_ok (N := N) (live := live29) (code := c29) (tok T29.rt T29.kl (wrNil_ok)) mixed (gok29 N) Tryz.func29 (by kernel_rfl) (by kernel_rfl) (by kernel_rfl) fun a p h => by rw [← h]; exact run29 N a.1 a.2.1

/-! ### strings.HasPrefix: function 9 -/
noncomputable def c9 : Code := (Tryz.f9.body).getD .skip
noncomputable def T9 : Tb := ⟨tyOf tys, [], [], wrNil⟩
noncomputable def G9 {R : Type} (N : Nat) : FuncId → List AV → (AV → Option R) → Option R := gCons 29 (gOf ad29 rd29 (F29 N)) (gNil)
theorem gok9 {R : Type} (N : Nat) : GOK Tryz.prog (G9 (R := R) N) := gCons_ok (ok29 N) (gNil_ok)
noncomputable def live9 : List (Nat × List (Nat × HK)) := []
noncomputable def ad9 : Ad (ByteArray × ByteArray × Unit) := aC (cStr) (aC (cStr) (a0))
noncomputable def rd9 : Rd (Bool) := r1 (cBool)
noncomputable def fn_strings_HasPrefix (N : Nat) (x0 : ByteArray) (x1 : ByteArray) : Option (Bool) :=
  (fn_stringslite_HasPrefix N x0 x1).bind fun r1 =>
   some r1
theorem run9 (N : Nat) (x0 : ByteArray) (x1 : ByteArray) : Eng.run T9 (G9 N) N live9 c9 Tryz.f9.results.toList Tryz.f9.ntmps ((ad9).enc (x0, x1, ())) (rd9).dec = fn_strings_HasPrefix N x0 x1 := by kernel_rfl
noncomputable def F9 (N : Nat) (a : ByteArray × ByteArray × Unit) : Option (Bool) := fn_strings_HasPrefix N a.1 a.2.1
theorem ok9 (N : Nat) : FnOK Tryz.prog 9 ad9 rd9 (F9 N) :=
  fn_ok (N := N) (live := live9) (code := c9) (tok T9.rt T9.kl (wrNil_ok)) mixed (gok9 N) Tryz.func9 (by kernel_rfl) (by kernel_rfl) (by kernel_rfl) fun a p h => by rw [← h]; exact run9 N a.1 a.2.1

/-! ### tiller/show.laid: function 49 -/
noncomputable def c49 : Code := (Tryz.f49.body).getD .skip
noncomputable def T49 : Tb := ⟨tyOf tys, [], [], wrNil⟩
noncomputable def G49 {R : Type} (N : Nat) : FuncId → List AV → (AV → Option R) → Option R := gCons 87 (gOf ad87 rd87 (F87 N)) (gNil)
theorem gok49 {R : Type} (N : Nat) : GOK Tryz.prog (G49 (R := R) N) := gCons_ok (ok87 N) (gNil_ok)
noncomputable def live49 : List (Nat × List (Nat × HK)) := []
noncomputable def ad49 : Ad (List Int × Int × Int × Unit) := aC (cLi .u32) (aC (cInt .i64) (aC (cInt .i64) (a0)))
noncomputable def rd49 : Rd ((ByteArray × Int)) := r1 (cSt (fC (lStr) (fO (lInt .i64))))
noncomputable def fn_show_laid (N : Nat) (x0 : List Int) (x1 : Int) (x2 : Int) : Option ((ByteArray × Int)) :=
  (fn_nat_Decimal N x0).bind fun r1 =>
   cond (!(isNoneI r1.2))
    (none)
    (cond (ltI (r1.1.size : Int) x1)
     (none)
     (cond (((leI 0 0) && (leI 0 x1)) && (leI x1 (r1.1.size : Int)))
      (some (r1.1.extract ((0 : Int).toNat) x1.toNat, subI .i64 (addI .i64 x2 (r1.1.size : Int)) x1))
      (none)))
theorem run49 (N : Nat) (x0 : List Int) (x1 : Int) (x2 : Int) : Eng.run T49 (G49 N) N live49 c49 Tryz.f49.results.toList Tryz.f49.ntmps ((ad49).enc (x0, x1, x2, ())) (rd49).dec = fn_show_laid N x0 x1 x2 := by kernel_rfl
noncomputable def F49 (N : Nat) (a : List Int × Int × Int × Unit) : Option ((ByteArray × Int)) := fn_show_laid N a.1 a.2.1 a.2.2.1
theorem ok49 (N : Nat) : FnOK Tryz.prog 49 ad49 rd49 (F49 N) :=
  fn_ok (N := N) (live := live49) (code := c49) (tok T49.rt T49.kl (wrNil_ok)) mixed (gok49 N) Tryz.func49 (by kernel_rfl) (by kernel_rfl) (by kernel_rfl) fun a p h => by rw [← h]; exact run49 N a.1 a.2.1 a.2.2.1

/-! ### tiller/show.try: function 19 -/
noncomputable def c19 : Code := (Tryz.f19.body).getD .skip
noncomputable def T19 : Tb := ⟨tyOf tys, [(30, 3), (37, 3), (43, 3), (48, 3), (50, 3)], [], wrNil⟩
noncomputable def G19 {R : Type} (N : Nat) : FuncId → List AV → (AV → Option R) → Option R := gCons 44 (gOf ad44 rd44 (F44 N)) (gCons 17 (gOf ad17 rd17 (F17 N)) (gCons 42 (gOf ad42 rd42 (F42 N)) (gCons 45 (gOf ad45 rd45 (F45 N)) (gCons 46 (gOf ad46 rd46 (F46 N)) (gCons 47 (gOf ad47 rd47 (F47 N)) (gCons 49 (gOf ad49 rd49 (F49 N)) (gCons 48 (gOf ad48 rd48 (F48 N)) (gNil))))))))
theorem gok19 {R : Type} (N : Nat) : GOK Tryz.prog (G19 (R := R) N) := gCons_ok (ok44 N) (gCons_ok (ok17 N) (gCons_ok (ok42 N) (gCons_ok (ok45 N) (gCons_ok (ok46 N) (gCons_ok (ok47 N) (gCons_ok (ok49 N) (gCons_ok (ok48 N) (gNil_ok))))))))
noncomputable def live19 : List (Nat × List (Nat × HK)) := []
noncomputable def ad19 : Ad ((Bool × Int × Int × Int) × Int × Int × Unit) := aC (cSt (fC (lBool) (fC (lInt .i64) (fC (lInt .i64) (fO (lInt .u64)))))) (aC (cInt .i64) (aC (cInt .i64) (a0)))
noncomputable def rd19 : Rd ((ByteArray × Int) × Bool) := r2 (cSt (fC (lStr) (fO (lInt .i64)))) (cBool)
noncomputable def fn_show_try (N : Nat) (x0 : (Bool × Int × Int × Int)) (x1 : Int) (x2 : Int) : Option ((ByteArray × Int) × Bool) :=
  (fn_show_between N (x0.1, x0.2.1, x0.2.2.1, x0.2.2.2)).bind fun r1 =>
   (fn_show_of N r1.1 (subI .i64 x0.2.2.1 2)).bind fun r2 =>
    (fn_show_number_scaled N (r2.1, r2.2) (subI .i64 (subI .i64 x1 1) x2)).bind fun r3 =>
     (fn_show_of N r1.2 (subI .i64 x0.2.2.1 2)).bind fun r4 =>
      (fn_show_number_scaled N (r4.1, r4.2) (subI .i64 (subI .i64 x1 1) x2)).bind fun r5 =>
       (fn_show_of N x0.2.2.2 x0.2.2.1).bind fun r6 =>
        (fn_show_number_scaled N (r6.1, r6.2) (subI .i64 (subI .i64 x1 1) x2)).bind fun r7 =>
         (fn_show_number_cut N (r7.1, r7.2)).bind fun r8 =>
          (fn_show_next N r8.1).bind fun r9 =>
           (fn_show_read N r8.1 (r3.1, r3.2) (r5.1, r5.2) (eqI (andI .u64 x0.2.2.2 1) 0)).bind fun r10 =>
            (fn_show_read N r9 (r3.1, r3.2) (r5.1, r5.2) (eqI (andI .u64 x0.2.2.2 1) 0)).bind fun r11 =>
             cond r10
              (cond (!(r11))
               ((fn_show_laid N r8.1 x1 x2).bind fun r12 =>
                some ((r12.1, r12.2), true))
               (cond (ltI r8.2.1 0)
                ((fn_show_laid N r8.1 x1 x2).bind fun r13 =>
                 some ((r13.1, r13.2), true))
                (cond (eqI r8.2.1 0)
                 ((fn_show_odd N r8.1).bind fun r14 =>
                  cond (!(r14))
                   ((fn_show_laid N r8.1 x1 x2).bind fun r15 =>
                    some ((r15.1, r15.2), true))
                   (cond r11
                    ((fn_show_laid N r9 x1 x2).bind fun r16 =>
                     some ((r16.1, r16.2), true))
                    (some (((⟨#[]⟩ : ByteArray), 0), false))))
                 (cond r11
                  ((fn_show_laid N r9 x1 x2).bind fun r17 =>
                   some ((r17.1, r17.2), true))
                  (some (((⟨#[]⟩ : ByteArray), 0), false))))))
              (cond r11
               ((fn_show_laid N r9 x1 x2).bind fun r18 =>
                some ((r18.1, r18.2), true))
               (some (((⟨#[]⟩ : ByteArray), 0), false)))
theorem run19 (N : Nat) (x0 : (Bool × Int × Int × Int)) (x1 : Int) (x2 : Int) : Eng.run T19 (G19 N) N live19 c19 Tryz.f19.results.toList Tryz.f19.ntmps ((ad19).enc (x0, x1, x2, ())) (rd19).dec = fn_show_try N x0 x1 x2 := by kernel_rfl
noncomputable def F19 (N : Nat) (a : (Bool × Int × Int × Int) × Int × Int × Unit) : Option ((ByteArray × Int) × Bool) := fn_show_try N a.1 a.2.1 a.2.2.1
theorem ok19 (N : Nat) : FnOK Tryz.prog 19 ad19 rd19 (F19 N) :=
  fn_ok (N := N) (live := live19) (code := c19) (tok T19.rt T19.kl (wrNil_ok)) mixed (gok19 N) Tryz.func19 (by kernel_rfl) (by kernel_rfl) (by kernel_rfl) fun a p h => by rw [← h]; exact run19 N a.1 a.2.1 a.2.2.1

/-! ### tiller/show.Short: function 6 -/
noncomputable def c6 : Code := (Tryz.f6.body).getD .skip
noncomputable def T6 : Tb := ⟨tyOf tys, [(21, 5), (24, 5), (27, 5), (29, 5), (45, 8), (47, 8), (49, 5), (58, 10), (60, 10), (62, 5)], [], wrNil⟩
noncomputable def G6 {R : Type} (N : Nat) : FuncId → List AV → (AV → Option R) → Option R := gCons 14 (gOf ad14 rd14 (F14 N)) (gCons 15 (gOf ad15 rd15 (F15 N)) (gCons 16 (gOf (aC cStr (aC (cInt .i64) (aC cBool a0))) (r1 cStr) (fun a => fn_text N a.1 a.2.1 a.2.2.1)) (gCons 17 (gOf ad17 rd17 (F17 N)) (gCons 18 (gOf ad18 rd18 (F18 N)) (gCons 19 (gOf ad19 rd19 (F19 N)) (gNil))))))
theorem gok6 {R : Type} (N : Nat) : GOK Tryz.prog (G6 (R := R) N) := gCons_ok (ok14 N) (gCons_ok (ok15 N) (gCons_ok (text_ok N) (gCons_ok (ok17 N) (gCons_ok (ok18 N) (gCons_ok (ok19 N) (gNil_ok))))))
noncomputable def live6 : List (Nat × List (Nat × HK)) := [(9, [(5, .keep), (6, .keep), (7, .keep)])]
noncomputable def ad6 : Ad (Int × Unit) := aC (cInt .u64) (a0)
noncomputable def rd6 : Rd (ByteArray) := r1 (cStr)
noncomputable def st6_0 (v0 : Int) (v1 : Int) (v2 : Bool) (v3 : Int) (v4 : Int) (v5 : Int) : St := ⟨[AV.none, AV.none, AV.none, AV.none, AV.none, AV.ptr 5 0, AV.v (.int .i64 v0), AV.v (.int .i64 v1), AV.none, AV.none, AV.none, AV.none, AV.none, AV.none, AV.none, AV.none, AV.none, AV.none, AV.none, AV.none, AV.none, AV.none, AV.none, AV.none, AV.none, AV.none, AV.none, AV.none, AV.none, AV.none, AV.none, AV.none, AV.none, AV.none, AV.none, AV.none, AV.none, AV.none, AV.none, AV.none, AV.none, AV.none, AV.none, AV.none, AV.none, AV.none, AV.none, AV.none, AV.none, AV.none, AV.none, AV.none, AV.none, AV.none, AV.none, AV.none, AV.none, AV.none, AV.none, AV.none, AV.none, AV.none, AV.none, AV.none, AV.none], [none, none, none, none, none, some (OB.agg [AV.v (.bool v2), AV.v (.int .i64 v3), AV.v (.int .i64 v4), AV.v (.int .u64 v5)]), none, none, none, none, none, none, none, none, none, none, none, none, none, none, none, none, none, none, none, none, none, none, none, none, none, none, none, none, none, none, none, none, none, none, none, none, none, none, none, none, none, none, none, none, none, none, none, none, none, none, none, none, none, none, none, none, none, none, none]⟩
noncomputable def raw6_0 (N : Nat) (n : Nat) (v0 : Int) (v1 : Int) (v2 : Bool) (v3 : Int) (v4 : Int) (v5 : Int) : Option (ByteArray) := loopN (lookN live6 9) (exec T6 (G6 N) N live6 (cL (cL (cR (cL (cR (cR (cR (cR (cR c6)))))))))) n (st6_0 v0 v1 v2 v3 v4 v5) (blockK 0 (seqK (exec T6 (G6 N) N live6 (cR (cR (cR (cR (cR (cR c6))))))) (retK T6 Tryz.f6.results.toList (rd6).dec)))
noncomputable def s6_0 (N : Nat) (Ln0 : Int → Int → Bool → Int → Int → Int → Option (ByteArray)) (v0 : Int) (v1 : Int) (v2 : Bool) (v3 : Int) (v4 : Int) (v5 : Int) : Option (ByteArray) :=
  cond (ltI v1 17)
   ((fn_show_try N (v2, v3, v4, v5) v1 v0).bind fun r6 =>
    cond r6.2
     ((fn_text N r6.1.1 r6.1.2 v2).bind fun r7 =>
      some r7)
     (Ln0 v0 (addI .i64 v1 1) v2 v3 v4 v5))
   ((fn_show_try N (v2, v3, v4, v5) 17 v0).bind fun r8 =>
    (fn_text N r8.1.1 r8.1.2 v2).bind fun r9 =>
     some r9)
theorem step6_0 (N : Nat) (n : Nat) (v0 : Int) (v1 : Int) (v2 : Bool) (v3 : Int) (v4 : Int) (v5 : Int) : raw6_0 N  (n + 1) v0 v1 v2 v3 v4 v5 = s6_0 N (raw6_0 N  n) v0 v1 v2 v3 v4 v5 := by kernel_rfl
noncomputable def l6_0 (N : Nat) : Nat → Int → Int → Bool → Int → Int → Int → Option (ByteArray)
  | 0 => fun _ _ _ _ _ _ => none
  | n + 1 => fun v0 v1 v2 v3 v4 v5 => s6_0 N (l6_0 N  n) v0 v1 v2 v3 v4 v5
theorem eq6_0 (N : Nat) : ∀ n, raw6_0 N  n = l6_0 N  n := by
  intro n
  induction n with
  | zero => exact funext fun v0 => funext fun v1 => funext fun v2 => funext fun v3 => funext fun v4 => funext fun v5 => rfl
  | succ n ih => exact funext fun v0 => funext fun v1 => funext fun v2 => funext fun v3 => funext fun v4 => funext fun v5 => by rw [step6_0, ih]; rfl
noncomputable def t6 (N : Nat) (Le0 : Int → Int → Bool → Int → Int → Int → Option (ByteArray)) (x0 : Int) : Option (ByteArray) :=
  (fn_show_special N x0).bind fun r1 =>
   cond r1.2
    (some r1.1)
    ((fn_pat_Take N x0).bind fun r2 =>
     cond (eqI r2.2.1 0)
      ((fn_text N (⟨#[48]⟩ : ByteArray) 0 r2.1).bind fun r3 =>
       some r3)
      ((fn_show_of N r2.2.2.2 r2.2.2.1).bind fun r4 =>
       (fn_show_number_first N (r4.1, r4.2)).bind fun r5 =>
        Le0 r5 1 r2.1 r2.2.1 r2.2.2.1 r2.2.2.2))
noncomputable def fn_show_Short (N : Nat) (x0 : Int) : Option (ByteArray) := t6 N (l6_0 N N) x0
theorem run6 (N : Nat) (x0 : Int) : Eng.run T6 (G6 N) N live6 c6 Tryz.f6.results.toList Tryz.f6.ntmps ((ad6).enc (x0, ())) (rd6).dec = fn_show_Short N x0 := by
  refine Eq.trans (show _ = t6 N (raw6_0 N N) x0 from by kernel_rfl) ?_
  unfold fn_show_Short
  rw [eq6_0 N N]
noncomputable def F6 (N : Nat) (a : Int × Unit) : Option (ByteArray) := fn_show_Short N a.1
theorem ok6 (N : Nat) : FnOK Tryz.prog 6 ad6 rd6 (F6 N) :=
  fn_ok (N := N) (live := live6) (code := c6) (tok T6.rt T6.kl (wrNil_ok)) mixed (gok6 N) Tryz.func6 (by kernel_rfl) (by kernel_rfl) (by kernel_rfl) fun a p h => by rw [← h]; exact run6 N a.1

/-! ### internal/stringslite.CutPrefix: function 30 -/
noncomputable def c30 : Code := (Tryz.f30.body).getD .skip
noncomputable def T30 : Tb := ⟨tyOf tys, [], [], wrNil⟩
noncomputable def G30 {R : Type} (N : Nat) : FuncId → List AV → (AV → Option R) → Option R := gCons 29 (gOf ad29 rd29 (F29 N)) (gNil)
theorem gok30 {R : Type} (N : Nat) : GOK Tryz.prog (G30 (R := R) N) := gCons_ok (ok29 N) (gNil_ok)
noncomputable def live30 : List (Nat × List (Nat × HK)) := []
noncomputable def ad30 : Ad (ByteArray × ByteArray × Unit) := aC (cStr) (aC (cStr) (a0))
noncomputable def rd30 : Rd (ByteArray × Bool) := r2 (cStr) (cBool)
noncomputable def fn_stringslite_CutPrefix (N : Nat) (x0 : ByteArray) (x1 : ByteArray) : Option (ByteArray × Bool) :=
  (fn_stringslite_HasPrefix N x0 x1).bind fun r1 =>
   cond (!(r1))
    (some (x0, false))
    (cond (((leI 0 (x1.size : Int)) && (leI (x1.size : Int) (x0.size : Int))) && (leI (x0.size : Int) (x0.size : Int)))
     (some (x0.extract ((x1.size : Int).toNat) ((x0.size : Int).toNat), true))
     (none))
theorem run30 (N : Nat) (x0 : ByteArray) (x1 : ByteArray) : Eng.run T30 (G30 N) N live30 c30 Tryz.f30.results.toList Tryz.f30.ntmps ((ad30).enc (x0, x1, ())) (rd30).dec = fn_stringslite_CutPrefix N x0 x1 := by kernel_rfl
noncomputable def F30 (N : Nat) (a : ByteArray × ByteArray × Unit) : Option (ByteArray × Bool) := fn_stringslite_CutPrefix N a.1 a.2.1
theorem ok30 (N : Nat) : FnOK Tryz.prog 30 ad30 rd30 (F30 N) :=
  fn_ok (N := N) (live := live30) (code := c30) (tok T30.rt T30.kl (wrNil_ok)) mixed (gok30 N) Tryz.func30 (by kernel_rfl) (by kernel_rfl) (by kernel_rfl) fun a p h => by rw [← h]; exact run30 N a.1 a.2.1

/-! ### strings.CutPrefix: function 11 -/
noncomputable def c11 : Code := (Tryz.f11.body).getD .skip
noncomputable def T11 : Tb := ⟨tyOf tys, [], [], wrNil⟩
noncomputable def G11 {R : Type} (N : Nat) : FuncId → List AV → (AV → Option R) → Option R := gCons 30 (gOf ad30 rd30 (F30 N)) (gNil)
theorem gok11 {R : Type} (N : Nat) : GOK Tryz.prog (G11 (R := R) N) := gCons_ok (ok30 N) (gNil_ok)
noncomputable def live11 : List (Nat × List (Nat × HK)) := []
noncomputable def ad11 : Ad (ByteArray × ByteArray × Unit) := aC (cStr) (aC (cStr) (a0))
noncomputable def rd11 : Rd (ByteArray × Bool) := r2 (cStr) (cBool)
noncomputable def fn_strings_CutPrefix (N : Nat) (x0 : ByteArray) (x1 : ByteArray) : Option (ByteArray × Bool) :=
  (fn_stringslite_CutPrefix N x0 x1).bind fun r1 =>
   some (r1.1, r1.2)
theorem run11 (N : Nat) (x0 : ByteArray) (x1 : ByteArray) : Eng.run T11 (G11 N) N live11 c11 Tryz.f11.results.toList Tryz.f11.ntmps ((ad11).enc (x0, x1, ())) (rd11).dec = fn_strings_CutPrefix N x0 x1 := by kernel_rfl
noncomputable def F11 (N : Nat) (a : ByteArray × ByteArray × Unit) : Option (ByteArray × Bool) := fn_strings_CutPrefix N a.1 a.2.1
theorem ok11 (N : Nat) : FnOK Tryz.prog 11 ad11 rd11 (F11 N) :=
  fn_ok (N := N) (live := live11) (code := c11) (tok T11.rt T11.kl (wrNil_ok)) mixed (gok11 N) Tryz.func11 (by kernel_rfl) (by kernel_rfl) (by kernel_rfl) fun a p h => by rw [← h]; exact run11 N a.1 a.2.1

/-! ### tiller/read.of: function 72 -/
noncomputable def c72 : Code := (Tryz.f72.body).getD .skip
noncomputable def T72 : Tb := ⟨tyOf tys, [], [24], wrNil⟩
noncomputable def G72 {R : Type} (N : Nat) : FuncId → List AV → (AV → Option R) → Option R := gCons 40 (gOf ad40 rd40 (F40 N)) (gCons 74 (gOf ad74 rd74 (F74 N)) (gCons 86 (gOf ad86 rd86 (F86 N)) (gNil)))
theorem gok72 {R : Type} (N : Nat) : GOK Tryz.prog (G72 (R := R) N) := gCons_ok (ok40 N) (gCons_ok (ok74 N) (gCons_ok (ok86 N) (gNil_ok)))
noncomputable def live72 : List (Nat × List (Nat × HK)) := [(4, [(6, .li .u32), (7, .keep), (15, .keep), (16, .keep), (17, .keep)])]
noncomputable def ad72 : Ad (List Int × Int × Unit) := aC (cLi .u8) (aC (cInt .u32) (a0))
noncomputable def rd72 : Rd (List Int × Option Int) := r2 (cLi .u32) (cErr 34)
noncomputable def st72_0 (v0 : List Int) (v1 : List Int) (v2 : List Int) (v3 : Int) (v4 : Int) : St := ⟨[AV.none, AV.none, AV.none, AV.none, AV.none, AV.none, AV.li .u32 v0, AV.li .u32 v1, AV.none, AV.none, AV.none, AV.none, AV.none, AV.none, AV.none, AV.li .u8 v2, AV.v (.int .i64 v3), AV.v (.int .i64 v4), AV.none, AV.none, AV.none, AV.none, AV.none, AV.none, AV.none, AV.none, AV.none, AV.none, AV.none, AV.none, AV.none, AV.none, AV.none, AV.none, AV.none, AV.none, AV.none, AV.none, AV.none, AV.none, AV.none, AV.none, AV.none], [none, none, none, none, none, none, none, none, none, none, none, none, none, none, none, none, none, none, none, none, none, none, none, none, none, none, none, none, none, none, none, none, none, none, none, none, none, none, none, none, none, none, none]⟩
noncomputable def raw72_0 (N : Nat) (n : Nat) (v0 : List Int) (v1 : List Int) (v2 : List Int) (v3 : Int) (v4 : Int) : Option (List Int × Option Int) := loopN (lookN live72 4) (exec T72 (G72 N) N live72 (cL (cL (cR (cL (cR (cR (cR c72)))))))) n (st72_0 v0 v1 v2 v3 v4) (blockK 0 (seqK (exec T72 (G72 N) N live72 (cR (cR (cR (cR c72))))) (retK T72 Tryz.f72.results.toList (rd72).dec)))
noncomputable def s72_0 (N : Nat) (Ln0 : List Int → List Int → List Int → Int → Int → Option (List Int × Option Int)) (v0 : List Int) (v1 : List Int) (v2 : List Int) (v3 : Int) (v4 : Int) : Option (List Int × Option Int) :=
  cond (ltI v4 v3)
   (cond (leI 0 v4)
    (cond (ltI v4 (v2.length : Int))
     ((fn_nat_Mul N v0 v1).bind fun r2 =>
      cond (!(isNoneI r2.2))
       (some ([], r2.2))
       ((fn_nat_Of N (cvI .u64 (lrd v2 v4))).bind fun r3 =>
        (fn_nat_Add N r2.1 r3).bind fun r4 =>
         cond (!(isNoneI r4.2))
          (some ([], r4.2))
          (Ln0 r4.1 v1 v2 v3 (addI .i64 v4 1))))
     (none))
    (none))
   (some (v0, none))
theorem step72_0 (N : Nat) (n : Nat) (v0 : List Int) (v1 : List Int) (v2 : List Int) (v3 : Int) (v4 : Int) : raw72_0 N  (n + 1) v0 v1 v2 v3 v4 = s72_0 N (raw72_0 N  n) v0 v1 v2 v3 v4 := by kernel_rfl
noncomputable def l72_0 (N : Nat) : Nat → List Int → List Int → List Int → Int → Int → Option (List Int × Option Int)
  | 0 => fun _ _ _ _ _ => none
  | n + 1 => fun v0 v1 v2 v3 v4 => s72_0 N (l72_0 N  n) v0 v1 v2 v3 v4
theorem eq72_0 (N : Nat) : ∀ n, raw72_0 N  n = l72_0 N  n := by
  intro n
  induction n with
  | zero => exact funext fun v0 => funext fun v1 => funext fun v2 => funext fun v3 => funext fun v4 => rfl
  | succ n ih => exact funext fun v0 => funext fun v1 => funext fun v2 => funext fun v3 => funext fun v4 => by rw [step72_0, ih]; rfl
noncomputable def t72 (N : Nat) (Le0 : List Int → List Int → List Int → Int → Int → Option (List Int × Option Int)) (x0 : List Int) (x1 : Int) : Option (List Int × Option Int) :=
  (fn_nat_Of N (cvI .u64 x1)).bind fun r1 =>
   Le0 [] r1 x0 (x0.length : Int) 0
noncomputable def fn_read_of (N : Nat) (x0 : List Int) (x1 : Int) : Option (List Int × Option Int) := t72 N (l72_0 N N) x0 x1
theorem run72 (N : Nat) (x0 : List Int) (x1 : Int) : Eng.run T72 (G72 N) N live72 c72 Tryz.f72.results.toList Tryz.f72.ntmps ((ad72).enc (x0, x1, ())) (rd72).dec = fn_read_of N x0 x1 := by
  refine Eq.trans (show _ = t72 N (raw72_0 N N) x0 x1 from by kernel_rfl) ?_
  unfold fn_read_of
  rw [eq72_0 N N]
noncomputable def F72 (N : Nat) (a : List Int × Int × Unit) : Option (List Int × Option Int) := fn_read_of N a.1 a.2.1
theorem ok72 (N : Nat) : FnOK Tryz.prog 72 ad72 rd72 (F72 N) :=
  fn_ok (N := N) (live := live72) (code := c72) (tok T72.rt T72.kl (wrNil_ok)) mixed (gok72 N) Tryz.func72 (by kernel_rfl) (by kernel_rfl) (by kernel_rfl) fun a p h => by rw [← h]; exact run72 N a.1 a.2.1

/-! ### tiller/read.cut: function 75 -/
noncomputable def c75 : Code := (Tryz.f75.body).getD .skip
noncomputable def T75 : Tb := ⟨tyOf tys, [(39, 5), (48, 5)], [], wrNil⟩
noncomputable def G75 {R : Type} (N : Nat) : FuncId → List AV → (AV → Option R) → Option R := gNil
theorem gok75 {R : Type} (N : Nat) : GOK Tryz.prog (G75 (R := R) N) := gNil_ok
noncomputable def live75 : List (Nat × List (Nat × HK)) := [(6, [(2, .keep), (5, .keep), (7, .keep), (8, .keep), (19, .keep), (20, .keep), (21, .keep)])]
noncomputable def ad75 : Ad (List Int × Unit) := aC (cLi .u32) (a0)
noncomputable def rd75 : Rd (Vec 4 × Int × Bool) := r3 (cVec .u64 4) (cInt .i64) (cBool)
noncomputable def st75_0 (v0 : Int) (v1 : Bool) (v2 : List Int) (v3 : Int) (v4 : Int) (v5 : Vec 4) (v6 : Vec 4) : St := ⟨[AV.none, AV.none, AV.ptr 2 0, AV.none, AV.none, AV.ptr 5 0, AV.none, AV.v (.int .i64 v0), AV.v (.bool v1), AV.none, AV.none, AV.none, AV.none, AV.none, AV.none, AV.none, AV.none, AV.none, AV.none, AV.li .u32 v2, AV.v (.int .i64 v3), AV.v (.int .i64 v4), AV.none, AV.none, AV.none, AV.none, AV.none, AV.none, AV.none, AV.none, AV.none, AV.none, AV.none, AV.none, AV.none, AV.none, AV.none, AV.none, AV.none, AV.none, AV.none, AV.none, AV.none, AV.none, AV.none, AV.none, AV.none, AV.none, AV.none, AV.none, AV.none, AV.none, AV.none, AV.none], [none, none, some (OB.arr .u64 4 v5), none, none, some (OB.arr .u64 4 v6), none, none, none, none, none, none, none, none, none, none, none, none, none, none, none, none, none, none, none, none, none, none, none, none, none, none, none, none, none, none, none, none, none, none, none, none, none, none, none, none, none, none, none, none, none, none, none, none]⟩
noncomputable def raw75_0 (N : Nat) (n : Nat) (v0 : Int) (v1 : Bool) (v2 : List Int) (v3 : Int) (v4 : Int) (v5 : Vec 4) (v6 : Vec 4) : Option (Vec 4 × Int × Bool) := loopN (lookN live75 6) (exec T75 (G75 N) N live75 (cL (cL (cR (cL (cR (cR (cR (cR (cR c75)))))))))) n (st75_0 v0 v1 v2 v3 v4 v5 v6) (blockK 0 (seqK (exec T75 (G75 N) N live75 (cR (cR (cR (cR (cR (cR c75))))))) (retK T75 Tryz.f75.results.toList (rd75).dec)))
noncomputable def s75_0 (N : Nat) (Ln0 : Int → Bool → List Int → Int → Int → Vec 4 → Vec 4 → Option (Vec 4 × Int × Bool)) (v0 : Int) (v1 : Bool) (v2 : List Int) (v3 : Int) (v4 : Int) (v5 : Vec 4) (v6 : Vec 4) : Option (Vec 4 × Int × Bool) :=
  cond (ltI v4 v3)
   (cond (leI 0 v4)
    (cond (ltI v4 (v2.length : Int))
     (cond (ltI v4 v0)
      (cond v1
       (Ln0 v0 true v2 v3 (addI .i64 v4 1) v5 v6)
       (Ln0 v0 (!(eqI (lrd v2 v4) 0)) v2 v3 (addI .i64 v4 1) v5 v6))
      (cond (leI 0 (quoI .i64 (subI .i64 v4 v0) 2))
       (cond (ltI (quoI .i64 (subI .i64 v4 v0) 2) 4)
        (cond (ltI (mulI .i64 32 (remI .i64 (subI .i64 v4 v0) 2)) 0)
         (none)
         (cond (leI 0 (quoI .i64 (subI .i64 v4 v0) 2))
          (cond (ltI (quoI .i64 (subI .i64 v4 v0) 2) 4)
           (Ln0 v0 v1 v2 v3 (addI .i64 v4 1) v5 (Vec.st v6 (quoI .i64 (subI .i64 v4 v0) 2) (orI .u64 (Vec.rd v6 (quoI .i64 (subI .i64 v4 v0) 2)) (shlI .u64 (cvI .u64 (lrd v2 v4)) (mulI .i64 32 (remI .i64 (subI .i64 v4 v0) 2))))))
           (none))
          (none)))
        (none))
       (none)))
     (none))
    (none))
   (some (v6, mulI .i64 32 v0, v1))
theorem step75_0 (N : Nat) (n : Nat) (v0 : Int) (v1 : Bool) (v2 : List Int) (v3 : Int) (v4 : Int) (v5 : Vec 4) (v6 : Vec 4) : raw75_0 N  (n + 1) v0 v1 v2 v3 v4 v5 v6 = s75_0 N (raw75_0 N  n) v0 v1 v2 v3 v4 v5 v6 := by kernel_rfl
noncomputable def l75_0 (N : Nat) : Nat → Int → Bool → List Int → Int → Int → Vec 4 → Vec 4 → Option (Vec 4 × Int × Bool)
  | 0 => fun _ _ _ _ _ _ _ => none
  | n + 1 => fun v0 v1 v2 v3 v4 v5 v6 => s75_0 N (l75_0 N  n) v0 v1 v2 v3 v4 v5 v6
theorem eq75_0 (N : Nat) : ∀ n, raw75_0 N  n = l75_0 N  n := by
  intro n
  induction n with
  | zero => exact funext fun v0 => funext fun v1 => funext fun v2 => funext fun v3 => funext fun v4 => funext fun v5 => funext fun v6 => rfl
  | succ n ih => exact funext fun v0 => funext fun v1 => funext fun v2 => funext fun v3 => funext fun v4 => funext fun v5 => funext fun v6 => by rw [step75_0, ih]; rfl
noncomputable def t75 (N : Nat) (Le0 : Int → Bool → List Int → Int → Int → Vec 4 → Vec 4 → Option (Vec 4 × Int × Bool)) (x0 : List Int) : Option (Vec 4 × Int × Bool) :=
  Le0 (subI .i64 (x0.length : Int) (minI (x0.length : Int) 7)) false x0 (x0.length : Int) 0 (Vec.zero 4) (Vec.zero 4)
noncomputable def fn_read_cut (N : Nat) (x0 : List Int) : Option (Vec 4 × Int × Bool) := t75 N (l75_0 N N) x0
theorem run75 (N : Nat) (x0 : List Int) : Eng.run T75 (G75 N) N live75 c75 Tryz.f75.results.toList Tryz.f75.ntmps ((ad75).enc (x0, ())) (rd75).dec = fn_read_cut N x0 := by
  refine Eq.trans (show _ = t75 N (raw75_0 N N) x0 from by kernel_rfl) ?_
  unfold fn_read_cut
  rw [eq75_0 N N]
noncomputable def F75 (N : Nat) (a : List Int × Unit) : Option (Vec 4 × Int × Bool) := fn_read_cut N a.1
theorem ok75 (N : Nat) : FnOK Tryz.prog 75 ad75 rd75 (F75 N) :=
  fn_ok (N := N) (live := live75) (code := c75) (tok T75.rt T75.kl (wrNil_ok)) mixed (gok75 N) Tryz.func75 (by kernel_rfl) (by kernel_rfl) (by kernel_rfl) fun a p h => by rw [← h]; exact run75 N a.1

/-! ### (tiller/read.number).ten: function 33 -/
noncomputable def c33 : Code := (Tryz.f33.body).getD .skip
noncomputable def T33 : Tb := ⟨tyOf tys, [(18, 1), (20, 1), (24, 1), (39, 1), (82, 1), (122, 1)], [], wrNil⟩
noncomputable def G33 {R : Type} (N : Nat) : FuncId → List AV → (AV → Option R) → Option R := gCons 58 (gOf ad58 rd58 (F58 N)) (gCons 72 (gOf ad72 rd72 (F72 N)) (gCons 73 (gOf ad73 rd73 (F73 N)) (gCons 74 (gOf ad74 rd74 (F74 N)) (gCons 75 (gOf ad75 rd75 (F75 N)) (gCons 41 (gOf ad41 rd41 (F41 N)) (gCons 76 (gOf ad76 rd76 (F76 N)) (gCons 77 (gOf ad77 rd77 (F77 N)) (gNil))))))))
theorem gok33 {R : Type} (N : Nat) : GOK Tryz.prog (G33 (R := R) N) := gCons_ok (ok58 N) (gCons_ok (ok72 N) (gCons_ok (ok73 N) (gCons_ok (ok74 N) (gCons_ok (ok75 N) (gCons_ok (ok41 N) (gCons_ok (ok76 N) (gCons_ok (ok77 N) (gNil_ok))))))))
noncomputable def live33 : List (Nat × List (Nat × HK)) := []
noncomputable def ad33 : Ad ((List Int × Int × Int × Bool) × Unit) := aC (cSt (fC (lLi .u8) (fC (lInt .i64) (fC (lInt .i64) (fO (lBool)))))) (a0)
noncomputable def rd33 : Rd ((Bool × Int × Vec 4 × Bool) × Option Int) := r2 (cSta (sC (pBool) (sC (pInt .i64) (sC (pVec .u64 4) (sO (pBool)))))) (cErr 34)
noncomputable def fn_read_number_ten (N : Nat) (x0 : (List Int × Int × Int × Bool)) : Option ((Bool × Int × Vec 4 × Bool) × Option Int) :=
  cond (ltI 400 (addI .i64 (addI .i64 x0.2.1 x0.2.2.1) (x0.1.length : Int)))
   ((fn_wide_Of N 1).bind fun r1 =>
    some ((false, 3200, r1, false), none))
   (cond (ltI (addI .i64 (addI .i64 x0.2.1 x0.2.2.1) (x0.1.length : Int)) (-400))
    ((fn_wide_Of N 1).bind fun r2 =>
     some ((false, (-3200), r2, false), none))
    ((fn_read_of N x0.1 10).bind fun r3 =>
     cond (!(isNoneI r3.2))
      (some ((false, 0, Vec.zero 4, false), r3.2))
      ((fn_nat_Pow N 10 (maxI (addI .i64 x0.2.1 x0.2.2.1) (subI .i64 0 (addI .i64 x0.2.1 x0.2.2.1)))).bind fun r4 =>
       cond (!(isNoneI r4.2))
        (some ((false, 0, Vec.zero 4, false), r4.2))
        (cond (leI 0 (addI .i64 x0.2.1 x0.2.2.1))
         ((fn_nat_Mul N r3.1 r4.1).bind fun r5 =>
          cond (!(isNoneI r5.2))
           (some ((false, 0, Vec.zero 4, false), r5.2))
           ((fn_read_cut N r5.1).bind fun r6 =>
            cond r6.2.2
             (some ((false, r6.2.1, r6.1, true), none))
             (some ((false, r6.2.1, r6.1, x0.2.2.2), none))))
         ((fn_nat_Len N r4.1).bind fun r7 =>
          (fn_nat_Len N r3.1).bind fun r8 =>
           (fn_nat_Shl N r3.1 (maxI (subI .i64 (addI .i64 200 r7) r8) 0)).bind fun r9 =>
            cond (!(isNoneI r9.2))
             (some ((false, 0, Vec.zero 4, false), r9.2))
             ((fn_nat_DivMod N r9.1 r4.1).bind fun r10 =>
              (fn_read_cut N r10.1).bind fun r11 =>
               cond r11.2.2
                (some ((false, subI .i64 r11.2.1 (maxI (subI .i64 (addI .i64 200 r7) r8) 0), r11.1, true), r10.2.2))
                (cond x0.2.2.2
                 (some ((false, subI .i64 r11.2.1 (maxI (subI .i64 (addI .i64 200 r7) r8) 0), r11.1, true), r10.2.2))
                 (some ((false, subI .i64 r11.2.1 (maxI (subI .i64 (addI .i64 200 r7) r8) 0), r11.1, ltI 0 (r10.2.1.length : Int)), r10.2.2)))))))))
theorem run33 (N : Nat) (x0 : (List Int × Int × Int × Bool)) : Eng.run T33 (G33 N) N live33 c33 Tryz.f33.results.toList Tryz.f33.ntmps ((ad33).enc (x0, ())) (rd33).dec = fn_read_number_ten N x0 := by kernel_rfl
noncomputable def F33 (N : Nat) (a : (List Int × Int × Int × Bool) × Unit) : Option ((Bool × Int × Vec 4 × Bool) × Option Int) := fn_read_number_ten N a.1
theorem ok33 (N : Nat) : FnOK Tryz.prog 33 ad33 rd33 (F33 N) :=
  fn_ok (N := N) (live := live33) (code := c33) (tok T33.rt T33.kl (wrNil_ok)) mixed (gok33 N) Tryz.func33 (by kernel_rfl) (by kernel_rfl) (by kernel_rfl) fun a p h => by rw [← h]; exact run33 N a.1

/-! ### (tiller/read.number).sixteen: function 34 -/
noncomputable def c34 : Code := (Tryz.f34.body).getD .skip
noncomputable def T34 : Tb := ⟨tyOf tys, [(10, 1), (21, 1), (24, 1), (32, 1)], [], wrNil⟩
noncomputable def G34 {R : Type} (N : Nat) : FuncId → List AV → (AV → Option R) → Option R := gCons 72 (gOf ad72 rd72 (F72 N)) (gCons 75 (gOf ad75 rd75 (F75 N)) (gNil))
theorem gok34 {R : Type} (N : Nat) : GOK Tryz.prog (G34 (R := R) N) := gCons_ok (ok72 N) (gCons_ok (ok75 N) (gNil_ok))
noncomputable def live34 : List (Nat × List (Nat × HK)) := []
noncomputable def ad34 : Ad ((List Int × Int × Int × Bool) × Unit) := aC (cSt (fC (lLi .u8) (fC (lInt .i64) (fC (lInt .i64) (fO (lBool)))))) (a0)
noncomputable def rd34 : Rd ((Bool × Int × Vec 4 × Bool) × Option Int) := r2 (cSta (sC (pBool) (sC (pInt .i64) (sC (pVec .u64 4) (sO (pBool)))))) (cErr 34)
noncomputable def fn_read_number_sixteen (N : Nat) (x0 : (List Int × Int × Int × Bool)) : Option ((Bool × Int × Vec 4 × Bool) × Option Int) :=
  (fn_read_of N x0.1 16).bind fun r1 =>
   (fn_read_cut N r1.1).bind fun r2 =>
    cond r2.2.2
     (some ((false, addI .i64 (addI .i64 (mulI .i64 4 x0.2.1) x0.2.2.1) r2.2.1, r2.1, true), r1.2))
     (some ((false, addI .i64 (addI .i64 (mulI .i64 4 x0.2.1) x0.2.2.1) r2.2.1, r2.1, x0.2.2.2), r1.2))
theorem run34 (N : Nat) (x0 : (List Int × Int × Int × Bool)) : Eng.run T34 (G34 N) N live34 c34 Tryz.f34.results.toList Tryz.f34.ntmps ((ad34).enc (x0, ())) (rd34).dec = fn_read_number_sixteen N x0 := by kernel_rfl
noncomputable def F34 (N : Nat) (a : (List Int × Int × Int × Bool) × Unit) : Option ((Bool × Int × Vec 4 × Bool) × Option Int) := fn_read_number_sixteen N a.1
theorem ok34 (N : Nat) : FnOK Tryz.prog 34 ad34 rd34 (F34 N) :=
  fn_ok (N := N) (live := live34) (code := c34) (tok T34.rt T34.kl (wrNil_ok)) mixed (gok34 N) Tryz.func34 (by kernel_rfl) (by kernel_rfl) (by kernel_rfl) fun a p h => by rw [← h]; exact run34 N a.1

/-! ### tiller/read.enough: function 35 -/
noncomputable def c35 : Code := (Tryz.f35.body).getD .skip
noncomputable def T35 : Tb := ⟨tyOf tys, [(4, 1), (8, 1), (14, 1), (18, 1), (22, 1), (23, 1)], [], wrNil⟩
noncomputable def G35 {R : Type} (N : Nat) : FuncId → List AV → (AV → Option R) → Option R := gCons 63 (gOf ad63 rd63 (F63 N)) (gCons 78 (gOf ad78 rd78 (F78 N)) (gNil))
theorem gok35 {R : Type} (N : Nat) : GOK Tryz.prog (G35 (R := R) N) := gCons_ok (ok63 N) (gCons_ok (ok78 N) (gNil_ok))
noncomputable def live35 : List (Nat × List (Nat × HK)) := []
noncomputable def ad35 : Ad ((Bool × Int × Vec 4 × Bool) × Unit) := aC (cSta (sC (pBool) (sC (pInt .i64) (sC (pVec .u64 4) (sO (pBool)))))) (a0)
noncomputable def rd35 : Rd ((Bool × Int × Vec 4 × Bool)) := r1 (cSta (sC (pBool) (sC (pInt .i64) (sC (pVec .u64 4) (sO (pBool))))))
noncomputable def fn_read_enough (N : Nat) (x0 : (Bool × Int × Vec 4 × Bool)) : Option ((Bool × Int × Vec 4 × Bool)) :=
  (fn_wide_Len N x0.2.2.1).bind fun r1 =>
   cond x0.2.2.2
    (cond (ltI 0 (subI .i64 200 r1))
     ((fn_wide_Shl N x0.2.2.1 (subI .i64 200 r1)).bind fun r2 =>
      some (x0.1, subI .i64 x0.2.1 (subI .i64 200 r1), r2, x0.2.2.2))
     (some (x0.1, x0.2.1, x0.2.2.1, x0.2.2.2)))
    (some (x0.1, x0.2.1, x0.2.2.1, x0.2.2.2))
theorem run35 (N : Nat) (x0 : (Bool × Int × Vec 4 × Bool)) : Eng.run T35 (G35 N) N live35 c35 Tryz.f35.results.toList Tryz.f35.ntmps ((ad35).enc (x0, ())) (rd35).dec = fn_read_enough N x0 := by kernel_rfl
noncomputable def F35 (N : Nat) (a : (Bool × Int × Vec 4 × Bool) × Unit) : Option ((Bool × Int × Vec 4 × Bool)) := fn_read_enough N a.1
theorem ok35 (N : Nat) : FnOK Tryz.prog 35 ad35 rd35 (F35 N) :=
  fn_ok (N := N) (live := live35) (code := c35) (tok T35.rt T35.kl (wrNil_ok)) mixed (gok35 N) Tryz.func35 (by kernel_rfl) (by kernel_rfl) (by kernel_rfl) fun a p h => by rw [← h]; exact run35 N a.1

/-! ### tiller/read.rounded: function 13 -/
noncomputable def c13 : Code := (Tryz.f13.body).getD .skip
noncomputable def T13 : Tb := ⟨tyOf tys, [(17, 4), (48, 13)], [], wrNil⟩
noncomputable def G13 {R : Type} (N : Nat) : FuncId → List AV → (AV → Option R) → Option R := gCons 27 (gOf ad27 rd27 (F27 N)) (gCons 33 (gOf ad33 rd33 (F33 N)) (gCons 34 (gOf ad34 rd34 (F34 N)) (gCons 35 (gOf ad35 rd35 (F35 N)) (gNil))))
theorem gok13 {R : Type} (N : Nat) : GOK Tryz.prog (G13 (R := R) N) := gCons_ok (ok27 N) (gCons_ok (ok33 N) (gCons_ok (ok34 N) (gCons_ok (ok35 N) (gNil_ok))))
noncomputable def live13 : List (Nat × List (Nat × HK)) := []
noncomputable def ad13 : Ad ((List Int × Int × Int × Bool) × Int × Bool × Int × Unit) := aC (cSt (fC (lLi .u8) (fC (lInt .i64) (fC (lInt .i64) (fO (lBool)))))) (aC (cInt .i64) (aC (cBool) (aC (cInt .i64) (a0))))
noncomputable def rd13 : Rd (Int × Int × Option Int) := r3 (cInt .u64) (cInt .u8) (cErr 34)
noncomputable def fn_read_rounded (N : Nat) (x0 : (List Int × Int × Int × Bool)) (x1 : Int) (x2 : Bool) (x3 : Int) : Option (Int × Int × Option Int) :=
  cond (eqI (x0.1.length : Int) 0)
   ((fn_rnd_Round N (x2, 0, Vec.zero 4, false) x3).bind fun r1 =>
    some (r1.1, r1.2, none))
   ((fn_read_number_ten N (x0.1, x0.2.1, x0.2.2.1, x0.2.2.2)).bind fun r2 =>
    cond (eqI x1 16)
     ((fn_read_number_sixteen N (x0.1, x0.2.1, x0.2.2.1, x0.2.2.2)).bind fun r3 =>
      cond (!(isNoneI r3.2))
       (some (0, 0, r3.2))
       ((fn_read_enough N (r3.1.1, r3.1.2.1, r3.1.2.2.1, r3.1.2.2.2)).bind fun r4 =>
        (fn_rnd_Round N (x2, r4.2.1, r4.2.2.1, r4.2.2.2) x3).bind fun r5 =>
         some (r5.1, r5.2, none)))
     (cond (!(isNoneI r2.2))
      (some (0, 0, r2.2))
      ((fn_read_enough N (r2.1.1, r2.1.2.1, r2.1.2.2.1, r2.1.2.2.2)).bind fun r6 =>
       (fn_rnd_Round N (x2, r6.2.1, r6.2.2.1, r6.2.2.2) x3).bind fun r7 =>
        some (r7.1, r7.2, none))))
theorem run13 (N : Nat) (x0 : (List Int × Int × Int × Bool)) (x1 : Int) (x2 : Bool) (x3 : Int) : Eng.run T13 (G13 N) N live13 c13 Tryz.f13.results.toList Tryz.f13.ntmps ((ad13).enc (x0, x1, x2, x3, ())) (rd13).dec = fn_read_rounded N x0 x1 x2 x3 := by kernel_rfl
noncomputable def F13 (N : Nat) (a : (List Int × Int × Int × Bool) × Int × Bool × Int × Unit) : Option (Int × Int × Option Int) := fn_read_rounded N a.1 a.2.1 a.2.2.1 a.2.2.2.1
theorem ok13 (N : Nat) : FnOK Tryz.prog 13 ad13 rd13 (F13 N) :=
  fn_ok (N := N) (live := live13) (code := c13) (tok T13.rt T13.kl (wrNil_ok)) mixed (gok13 N) Tryz.func13 (by kernel_rfl) (by kernel_rfl) (by kernel_rfl) fun a p h => by rw [← h]; exact run13 N a.1 a.2.1 a.2.2.1 a.2.2.2.1

/-! ### tiller/read.Parse: function 5 -/
noncomputable def c5 : Code := (Tryz.f5.body).getD .skip
noncomputable def T5 : Tb := ⟨tyOf tys, [], [], wrNil⟩
noncomputable def G5 {R : Type} (N : Nat) : FuncId → List AV → (AV → Option R) → Option R := gCons 9 (gOf ad9 rd9 (F9 N)) (gCons 10 (gOf ad10 rd10 (F10 N)) (gCons 11 (gOf ad11 rd11 (F11 N)) (gCons 12 (gOf (aC cStr (aC (cInt .i64) (aC cStr (aC cBool a0)))) (r2 (cSt (fC (lLi .u8) (fC (lInt .i64) (fC (lInt .i64) (fO lBool))))) cBool) (fun a => fn_scan N a.1 a.2.1 a.2.2.1 a.2.2.2.1)) (gCons 13 (gOf ad13 rd13 (F13 N)) (gNil)))))
theorem gok5 {R : Type} (N : Nat) : GOK Tryz.prog (G5 (R := R) N) := gCons_ok (ok9 N) (gCons_ok (ok10 N) (gCons_ok (ok11 N) (gCons_ok (scan_ok N) (gCons_ok (ok13 N) (gNil_ok)))))
noncomputable def live5 : List (Nat × List (Nat × HK)) := []
noncomputable def ad5 : Ad (ByteArray × Int × Unit) := aC (cStr) (aC (cInt .i64) (a0))
noncomputable def rd5 : Rd (Int × Int × Option Int) := r3 (cInt .u64) (cInt .u8) (cErr 34)
noncomputable def fn_read_Parse (N : Nat) (x0 : ByteArray) (x1 : Int) : Option (Int × Int × Option Int) :=
  cond (ltI 65536 (x0.size : Int))
   (some (0, 0, some 2))
   ((fn_strings_HasPrefix N x0 (⟨#[45]⟩ : ByteArray)).bind fun r1 =>
    cond r1
     (cond (((leI 0 1) && (leI 1 (x0.size : Int))) && (leI (x0.size : Int) (x0.size : Int)))
      (cond (eqS (x0.extract ((1 : Int).toNat) ((x0.size : Int).toNat)) (⟨#[105, 110, 102]⟩ : ByteArray))
       (cond r1
        ((fn_pat_Neg N 9218868437227405312).bind fun r2 =>
         some (r2, 0, none))
        (some (9218868437227405312, 0, none)))
       (cond (eqS (x0.extract ((1 : Int).toNat) ((x0.size : Int).toNat)) (⟨#[110, 97, 110]⟩ : ByteArray))
        (some (9221120237041090560, 0, none))
        ((fn_strings_CutPrefix N (x0.extract ((1 : Int).toNat) ((x0.size : Int).toNat)) (⟨#[48, 120]⟩ : ByteArray)).bind fun r3 =>
         cond r3.2
          ((fn_scan N r3.1 16 (⟨#[112]⟩ : ByteArray) (eqI 16 16)).bind fun r4 =>
           cond (!(r4.2))
            (some (0, 0, some 3))
            ((fn_read_rounded N (r4.1.1, r4.1.2.1, r4.1.2.2.1, r4.1.2.2.2) 16 r1 x1).bind fun r5 =>
             some (r5.1, r5.2.1, r5.2.2)))
          ((fn_scan N (x0.extract ((1 : Int).toNat) ((x0.size : Int).toNat)) 10 (⟨#[101]⟩ : ByteArray) (eqI 10 16)).bind fun r6 =>
           cond (!(r6.2))
            (some (0, 0, some 3))
            ((fn_read_rounded N (r6.1.1, r6.1.2.1, r6.1.2.2.1, r6.1.2.2.2) 10 r1 x1).bind fun r7 =>
             some (r7.1, r7.2.1, r7.2.2))))))
      (none))
     ((fn_strings_HasPrefix N x0 (⟨#[43]⟩ : ByteArray)).bind fun r8 =>
      cond r8
       (cond (((leI 0 1) && (leI 1 (x0.size : Int))) && (leI (x0.size : Int) (x0.size : Int)))
        (cond (eqS (x0.extract ((1 : Int).toNat) ((x0.size : Int).toNat)) (⟨#[105, 110, 102]⟩ : ByteArray))
         (cond r1
          ((fn_pat_Neg N 9218868437227405312).bind fun r9 =>
           some (r9, 0, none))
          (some (9218868437227405312, 0, none)))
         (cond (eqS (x0.extract ((1 : Int).toNat) ((x0.size : Int).toNat)) (⟨#[110, 97, 110]⟩ : ByteArray))
          (some (9221120237041090560, 0, none))
          ((fn_strings_CutPrefix N (x0.extract ((1 : Int).toNat) ((x0.size : Int).toNat)) (⟨#[48, 120]⟩ : ByteArray)).bind fun r10 =>
           cond r10.2
            ((fn_scan N r10.1 16 (⟨#[112]⟩ : ByteArray) (eqI 16 16)).bind fun r11 =>
             cond (!(r11.2))
              (some (0, 0, some 3))
              ((fn_read_rounded N (r11.1.1, r11.1.2.1, r11.1.2.2.1, r11.1.2.2.2) 16 r1 x1).bind fun r12 =>
               some (r12.1, r12.2.1, r12.2.2)))
            ((fn_scan N (x0.extract ((1 : Int).toNat) ((x0.size : Int).toNat)) 10 (⟨#[101]⟩ : ByteArray) (eqI 10 16)).bind fun r13 =>
             cond (!(r13.2))
              (some (0, 0, some 3))
              ((fn_read_rounded N (r13.1.1, r13.1.2.1, r13.1.2.2.1, r13.1.2.2.2) 10 r1 x1).bind fun r14 =>
               some (r14.1, r14.2.1, r14.2.2))))))
        (none))
       (cond (eqS x0 (⟨#[105, 110, 102]⟩ : ByteArray))
        (cond r1
         ((fn_pat_Neg N 9218868437227405312).bind fun r15 =>
          some (r15, 0, none))
         (some (9218868437227405312, 0, none)))
        (cond (eqS x0 (⟨#[110, 97, 110]⟩ : ByteArray))
         (some (9221120237041090560, 0, none))
         ((fn_strings_CutPrefix N x0 (⟨#[48, 120]⟩ : ByteArray)).bind fun r16 =>
          cond r16.2
           ((fn_scan N r16.1 16 (⟨#[112]⟩ : ByteArray) (eqI 16 16)).bind fun r17 =>
            cond (!(r17.2))
             (some (0, 0, some 3))
             ((fn_read_rounded N (r17.1.1, r17.1.2.1, r17.1.2.2.1, r17.1.2.2.2) 16 r1 x1).bind fun r18 =>
              some (r18.1, r18.2.1, r18.2.2)))
           ((fn_scan N x0 10 (⟨#[101]⟩ : ByteArray) (eqI 10 16)).bind fun r19 =>
            cond (!(r19.2))
             (some (0, 0, some 3))
             ((fn_read_rounded N (r19.1.1, r19.1.2.1, r19.1.2.2.1, r19.1.2.2.2) 10 r1 x1).bind fun r20 =>
              some (r20.1, r20.2.1, r20.2.2))))))))
theorem run5 (N : Nat) (x0 : ByteArray) (x1 : Int) : Eng.run T5 (G5 N) N live5 c5 Tryz.f5.results.toList Tryz.f5.ntmps ((ad5).enc (x0, x1, ())) (rd5).dec = fn_read_Parse N x0 x1 := by kernel_rfl
noncomputable def F5 (N : Nat) (a : ByteArray × Int × Unit) : Option (Int × Int × Option Int) := fn_read_Parse N a.1 a.2.1
theorem ok5 (N : Nat) : FnOK Tryz.prog 5 ad5 rd5 (F5 N) :=
  fn_ok (N := N) (live := live5) (code := c5) (tok T5.rt T5.kl (wrNil_ok)) mixed (gok5 N) Tryz.func5 (by kernel_rfl) (by kernel_rfl) (by kernel_rfl) fun a p h => by rw [← h]; exact run5 N a.1 a.2.1

/-! ### tiller/tillertop.sure: function 4 -/
noncomputable def c4 : Code := (Tryz.f4.body).getD .skip
noncomputable def T4 : Tb := ⟨tyOf tys, [], [], wrNil⟩
noncomputable def G4 {R : Type} (N : Nat) : FuncId → List AV → (AV → Option R) → Option R := gCons 8 (gOf ad8 rd8 (F8 N)) (gCons 6 (gOf ad6 rd6 (F6 N)) (gCons 5 (gOf ad5 rd5 (F5 N)) (gNil)))
theorem gok4 {R : Type} (N : Nat) : GOK Tryz.prog (G4 (R := R) N) := gCons_ok (ok8 N) (gCons_ok (ok6 N) (gCons_ok (ok5 N) (gNil_ok)))
noncomputable def live4 : List (Nat × List (Nat × HK)) := []
noncomputable def ad4 : Ad (Unit) := a0
noncomputable def rd4 : Rd (Bool) := r1 (cBool)
noncomputable def fn_tillertop_sure (N : Nat)  : Option (Bool) :=
  (fn_sums_Add N 4607182418800017408 4607182418800017408 0).bind fun r1 =>
   (fn_show_Short N r1.1).bind fun r2 =>
    (fn_read_Parse N r2 0).bind fun r3 =>
     cond (eqI r1.1 4611686018427387904)
      (cond (eqI r1.2 0)
       (cond (eqS r2 (⟨#[50, 101, 48]⟩ : ByteArray))
        (cond (eqI r3.1 r1.1)
         (some (isNoneI r3.2.2))
         (some false))
        (some false))
       (some false))
      (some false)
theorem run4 (N : Nat)  : Eng.run T4 (G4 N) N live4 c4 Tryz.f4.results.toList Tryz.f4.ntmps ((ad4).enc (())) (rd4).dec = fn_tillertop_sure N  := by kernel_rfl
noncomputable def F4 (N : Nat) (a : Unit) : Option (Bool) := fn_tillertop_sure N 
theorem ok4 (N : Nat) : FnOK Tryz.prog 4 ad4 rd4 (F4 N) :=
  fn_ok (N := N) (live := live4) (code := c4) (tok T4.rt T4.kl (wrNil_ok)) mixed (gok4 N) Tryz.func4 (by kernel_rfl) (by kernel_rfl) (by kernel_rfl) fun a p h => by rw [← h]; exact run4 N 

/-! ### internal/strconv.small: function 117 -/
noncomputable def c117 : Code := (Tryz.f117.body).getD .skip
noncomputable def T117 : Tb := ⟨tyOf tys, [], [], wrNil⟩
noncomputable def G117 {R : Type} (N : Nat) : FuncId → List AV → (AV → Option R) → Option R := gNil
theorem gok117 {R : Type} (N : Nat) : GOK Tryz.prog (G117 (R := R) N) := gNil_ok
noncomputable def live117 : List (Nat × List (Nat × HK)) := []
noncomputable def ad117 : Ad (Int × Unit) := aC (cInt .i64) (a0)
noncomputable def rd117 : Rd (ByteArray) := r1 (cStr)
noncomputable def fn_strconv_small (N : Nat) (x0 : Int) : Option (ByteArray) :=
  cond (ltI x0 10)
   (cond (((leI 0 x0) && (leI x0 (addI .i64 x0 1))) && (leI (addI .i64 x0 1) (str8.size : Int)))
    (some (str8.extract x0.toNat ((addI .i64 x0 1).toNat)))
    (none))
   (cond (((leI 0 (mulI .i64 x0 2)) && (leI (mulI .i64 x0 2) (addI .i64 (mulI .i64 x0 2) 2))) && (leI (addI .i64 (mulI .i64 x0 2) 2) (str9.size : Int)))
    (some (str9.extract ((mulI .i64 x0 2).toNat) ((addI .i64 (mulI .i64 x0 2) 2).toNat)))
    (none))
theorem run117 (N : Nat) (x0 : Int) : Eng.run T117 (G117 N) N live117 c117 Tryz.f117.results.toList Tryz.f117.ntmps ((ad117).enc (x0, ())) (rd117).dec = fn_strconv_small N x0 := by kernel_rfl
noncomputable def F117 (N : Nat) (a : Int × Unit) : Option (ByteArray) := fn_strconv_small N a.1
theorem ok117 (N : Nat) : FnOK Tryz.prog 117 ad117 rd117 (F117 N) :=
  fn_ok (N := N) (live := live117) (code := c117) (tok T117.rt T117.kl (wrNil_ok)) mixed (gok117 N) Tryz.func117 (by kernel_rfl) (by kernel_rfl) (by kernel_rfl) fun a p h => by rw [← h]; exact run117 N a.1

/-! ### internal/strconv.log10Pow2: function 137 -/
noncomputable def c137 : Code := (Tryz.f137.body).getD .skip
noncomputable def T137 : Tb := ⟨tyOf tys, [], [], wrNil⟩
noncomputable def G137 {R : Type} (N : Nat) : FuncId → List AV → (AV → Option R) → Option R := gNil
theorem gok137 {R : Type} (N : Nat) : GOK Tryz.prog (G137 (R := R) N) := gNil_ok
noncomputable def live137 : List (Nat × List (Nat × HK)) := []
noncomputable def ad137 : Ad (Int × Unit) := aC (cInt .i64) (a0)
noncomputable def rd137 : Rd (Int) := r1 (cInt .i64)
noncomputable def fn_strconv_log10Pow2 (N : Nat) (x0 : Int) : Option (Int) :=
  some (shrI .i64 (mulI .i64 x0 78913) 18)
theorem run137 (N : Nat) (x0 : Int) : Eng.run T137 (G137 N) N live137 c137 Tryz.f137.results.toList Tryz.f137.ntmps ((ad137).enc (x0, ())) (rd137).dec = fn_strconv_log10Pow2 N x0 := by kernel_rfl
noncomputable def F137 (N : Nat) (a : Int × Unit) : Option (Int) := fn_strconv_log10Pow2 N a.1
theorem ok137 (N : Nat) : FnOK Tryz.prog 137 ad137 rd137 (F137 N) :=
  fn_ok (N := N) (live := live137) (code := c137) (tok T137.rt T137.kl (wrNil_ok)) mixed (gok137 N) Tryz.func137 (by kernel_rfl) (by kernel_rfl) (by kernel_rfl) fun a p h => by rw [← h]; exact run137 N a.1

/-! ### internal/strconv.bool2[int]: function 138 -/
noncomputable def c138 : Code := (Tryz.f138.body).getD .skip
noncomputable def T138 : Tb := ⟨tyOf tys, [], [], wrNil⟩
noncomputable def G138 {R : Type} (N : Nat) : FuncId → List AV → (AV → Option R) → Option R := gNil
theorem gok138 {R : Type} (N : Nat) : GOK Tryz.prog (G138 (R := R) N) := gNil_ok
noncomputable def live138 : List (Nat × List (Nat × HK)) := []
noncomputable def ad138 : Ad (Bool × Unit) := aC (cBool) (a0)
noncomputable def rd138 : Rd (Int) := r1 (cInt .i64)
noncomputable def fn_strconv_bool2_int (N : Nat) (x0 : Bool) : Option (Int) :=
  cond x0
   (some 1)
   (some 0)
theorem run138 (N : Nat) (x0 : Bool) : Eng.run T138 (G138 N) N live138 c138 Tryz.f138.results.toList Tryz.f138.ntmps ((ad138).enc (x0, ())) (rd138).dec = fn_strconv_bool2_int N x0 := by kernel_rfl
noncomputable def F138 (N : Nat) (a : Bool × Unit) : Option (Int) := fn_strconv_bool2_int N a.1
theorem ok138 (N : Nat) : FnOK Tryz.prog 138 ad138 rd138 (F138 N) :=
  fn_ok (N := N) (live := live138) (code := c138) (tok T138.rt T138.kl (wrNil_ok)) mixed (gok138 N) Tryz.func138 (by kernel_rfl) (by kernel_rfl) (by kernel_rfl) fun a p h => by rw [← h]; exact run138 N a.1

/-! ### internal/strconv.numDigits: function 118 -/
noncomputable def c118 : Code := (Tryz.f118.body).getD .skip
noncomputable def T118 : Tb := ⟨tyOf tys, [], [], wrNil⟩
noncomputable def G118 {R : Type} (N : Nat) : FuncId → List AV → (AV → Option R) → Option R := gCons 95 (gOf ad95 rd95 (F95 N)) (gCons 137 (gOf ad137 rd137 (F137 N)) (gNil))
theorem gok118 {R : Type} (N : Nat) : GOK Tryz.prog (G118 (R := R) N) := gCons_ok (ok95 N) (gCons_ok (ok137 N) (gNil_ok))
noncomputable def live118 : List (Nat × List (Nat × HK)) := []
noncomputable def ad118 : Ad (Int × Unit) := aC (cInt .u64) (a0)
noncomputable def rd118 : Rd (Int) := r1 (cInt .i64)
noncomputable def fn_strconv_numDigits (N : Nat) (x0 : Int) : Option (Int) :=
  (fn_bits_Len64 N x0).bind fun r1 =>
   (fn_strconv_log10Pow2 N r1).bind fun r2 =>
    none
theorem run118 (N : Nat) (x0 : Int) : Eng.run T118 (G118 N) N live118 c118 Tryz.f118.results.toList Tryz.f118.ntmps ((ad118).enc (x0, ())) (rd118).dec = fn_strconv_numDigits N x0 := by kernel_rfl
noncomputable def F118 (N : Nat) (a : Int × Unit) : Option (Int) := fn_strconv_numDigits N a.1
theorem ok118 (N : Nat) : FnOK Tryz.prog 118 ad118 rd118 (F118 N) :=
  fn_ok (N := N) (live := live118) (code := c118) (tok T118.rt T118.kl (wrNil_ok)) mixed (gok118 N) Tryz.func118 (by kernel_rfl) (by kernel_rfl) (by kernel_rfl) fun a p h => by rw [← h]; exact run118 N a.1

/-! ### internal/strconv.isPowerOfTwo: function 139 -/
noncomputable def c139 : Code := (Tryz.f139.body).getD .skip
noncomputable def T139 : Tb := ⟨tyOf tys, [], [], wrNil⟩
noncomputable def G139 {R : Type} (N : Nat) : FuncId → List AV → (AV → Option R) → Option R := gNil
theorem gok139 {R : Type} (N : Nat) : GOK Tryz.prog (G139 (R := R) N) := gNil_ok
noncomputable def live139 : List (Nat × List (Nat × HK)) := []
noncomputable def ad139 : Ad (Int × Unit) := aC (cInt .i64) (a0)
noncomputable def rd139 : Rd (Bool) := r1 (cBool)
noncomputable def fn_strconv_isPowerOfTwo (N : Nat) (x0 : Int) : Option (Bool) :=
  some (eqI (andI .i64 x0 (subI .i64 x0 1)) 0)
theorem run139 (N : Nat) (x0 : Int) : Eng.run T139 (G139 N) N live139 c139 Tryz.f139.results.toList Tryz.f139.ntmps ((ad139).enc (x0, ())) (rd139).dec = fn_strconv_isPowerOfTwo N x0 := by kernel_rfl
noncomputable def F139 (N : Nat) (a : Int × Unit) : Option (Bool) := fn_strconv_isPowerOfTwo N a.1
theorem ok139 (N : Nat) : FnOK Tryz.prog 139 ad139 rd139 (F139 N) :=
  fn_ok (N := N) (live := live139) (code := c139) (tok T139.rt T139.kl (wrNil_ok)) mixed (gok139 N) Tryz.func139 (by kernel_rfl) (by kernel_rfl) (by kernel_rfl) fun a p h => by rw [← h]; exact run139 N a.1

/-! ### math/bits.TrailingZeros32: function 143 -/
noncomputable def c143 : Code := (Tryz.f143.body).getD .skip
noncomputable def T143 : Tb := ⟨tyOf tys, [], [], wrNil⟩
noncomputable def G143 {R : Type} (N : Nat) : FuncId → List AV → (AV → Option R) → Option R := gNil
theorem gok143 {R : Type} (N : Nat) : GOK Tryz.prog (G143 (R := R) N) := gNil_ok
noncomputable def live143 : List (Nat × List (Nat × HK)) := []
noncomputable def ad143 : Ad (Int × Unit) := aC (cInt .u32) (a0)
noncomputable def rd143 : Rd (Int) := r1 (cInt .i64)
noncomputable def fn_bits_TrailingZeros32 (N : Nat) (x0 : Int) : Option (Int) :=
  cond (eqI x0 0)
   (some 32)
   (none)
theorem run143 (N : Nat) (x0 : Int) : Eng.run T143 (G143 N) N live143 c143 Tryz.f143.results.toList Tryz.f143.ntmps ((ad143).enc (x0, ())) (rd143).dec = fn_bits_TrailingZeros32 N x0 := by kernel_rfl
noncomputable def F143 (N : Nat) (a : Int × Unit) : Option (Int) := fn_bits_TrailingZeros32 N a.1
theorem ok143 (N : Nat) : FnOK Tryz.prog 143 ad143 rd143 (F143 N) :=
  fn_ok (N := N) (live := live143) (code := c143) (tok T143.rt T143.kl (wrNil_ok)) mixed (gok143 N) Tryz.func143 (by kernel_rfl) (by kernel_rfl) (by kernel_rfl) fun a p h => by rw [← h]; exact run143 N a.1

/-! ### math/bits.TrailingZeros: function 140 -/
noncomputable def c140 : Code := (Tryz.f140.body).getD .skip
noncomputable def T140 : Tb := ⟨tyOf tys, [], [], wrNil⟩
noncomputable def G140 {R : Type} (N : Nat) : FuncId → List AV → (AV → Option R) → Option R := gCons 144 (gOf (aC (cInt .u64) a0) (r1 (cInt .i64)) (fun a => fn_tz N a.1)) (gNil)
theorem gok140 {R : Type} (N : Nat) : GOK Tryz.prog (G140 (R := R) N) := gCons_ok (tz_ok N) (gNil_ok)
noncomputable def live140 : List (Nat × List (Nat × HK)) := []
noncomputable def ad140 : Ad (Int × Unit) := aC (cInt .u64) (a0)
noncomputable def rd140 : Rd (Int) := r1 (cInt .i64)
noncomputable def fn_bits_TrailingZeros (N : Nat) (x0 : Int) : Option (Int) :=
  (fn_tz N x0).bind fun r1 =>
   some r1
theorem run140 (N : Nat) (x0 : Int) : Eng.run T140 (G140 N) N live140 c140 Tryz.f140.results.toList Tryz.f140.ntmps ((ad140).enc (x0, ())) (rd140).dec = fn_bits_TrailingZeros N x0 := by kernel_rfl
noncomputable def F140 (N : Nat) (a : Int × Unit) : Option (Int) := fn_bits_TrailingZeros N a.1
theorem ok140 (N : Nat) : FnOK Tryz.prog 140 ad140 rd140 (F140 N) :=
  fn_ok (N := N) (live := live140) (code := c140) (tok T140.rt T140.kl (wrNil_ok)) mixed (gok140 N) Tryz.func140 (by kernel_rfl) (by kernel_rfl) (by kernel_rfl) fun a p h => by rw [← h]; exact run140 N a.1

/-! ### internal/strconv.formatBits: function 120 -/
noncomputable def c120 : Code := (Tryz.f120.body).getD .skip
noncomputable def T120 : Tb := ⟨tyOf tys, [(54, 12), (63, 12), (81, 12), (88, 12), (93, 12)], [], wrNil⟩
noncomputable def G120 {R : Type} (N : Nat) : FuncId → List AV → (AV → Option R) → Option R := gCons 139 (gOf ad139 rd139 (F139 N)) (gCons 140 (gOf ad140 rd140 (F140 N)) (gNil))
theorem gok120 {R : Type} (N : Nat) : GOK Tryz.prog (G120 (R := R) N) := gCons_ok (ok139 N) (gCons_ok (ok140 N) (gNil_ok))
noncomputable def live120 : List (Nat × List (Nat × HK)) := [(11, [(0, .keep), (1, .keep), (3, .keep), (4, .keep), (10, .row .u8 5), (11, .keep), (12, .keep), (13, .keep), (14, .keep), (15, .keep), (16, .keep)]), (18, [(0, .keep), (1, .keep), (3, .keep), (4, .keep), (10, .row .u8 5), (11, .keep), (12, .keep), (13, .keep), (17, .keep)])]
noncomputable def ad120 : Ad (List Int × Int × Int × Bool × Bool × Unit) := aC (cLi .u8) (aC (cInt .u64) (aC (cInt .i64) (aC (cBool) (aC (cBool) (a0)))))
noncomputable def rd120 : Rd (List Int × ByteArray) := r2 (cLi .u8) (cStr)
noncomputable def st120_0 (v0 : List Int) (v1 : Int) (v2 : Bool) (v3 : Bool) (v4 : ByteArray) (v5 : Int) (v6 : Int) (v7 : Int) (v8 : Int) (v9 : List Int) (v10 : Vec 65) : St := ⟨[AV.li .u8 v0, AV.v (.int .u64 v1), AV.none, AV.v (.bool v2), AV.v (.bool v3), AV.none, AV.none, AV.none, AV.none, AV.none, AV.own 10, AV.v (.string v4), AV.ptr 12 0, AV.v (.int .i64 v5), AV.v (.int .u64 v6), AV.v (.int .u64 v7), AV.v (.int .u64 v8), AV.none, AV.none, AV.none, AV.none, AV.none, AV.none, AV.none, AV.none, AV.none, AV.none, AV.none, AV.none, AV.none, AV.none, AV.none, AV.none, AV.none, AV.none, AV.none, AV.none, AV.none, AV.none, AV.none, AV.none, AV.none, AV.none, AV.none, AV.none, AV.none, AV.none, AV.none, AV.none, AV.none, AV.none, AV.none, AV.none, AV.none, AV.none, AV.none, AV.none, AV.none, AV.none, AV.none, AV.none, AV.none, AV.none, AV.none, AV.none, AV.none, AV.none, AV.none, AV.none, AV.none, AV.none, AV.none, AV.none, AV.none, AV.none, AV.none, AV.none, AV.none, AV.none, AV.none, AV.none, AV.none, AV.none, AV.none, AV.none, AV.none, AV.none, AV.none, AV.none, AV.none, AV.none, AV.none, AV.none, AV.none, AV.none, AV.none, AV.none, AV.none, AV.none, AV.none, AV.none, AV.none], [none, none, none, none, none, none, none, none, none, none, some (OB.row .u8 5 v9), none, some (OB.arr .u8 65 v10), none, none, none, none, none, none, none, none, none, none, none, none, none, none, none, none, none, none, none, none, none, none, none, none, none, none, none, none, none, none, none, none, none, none, none, none, none, none, none, none, none, none, none, none, none, none, none, none, none, none, none, none, none, none, none, none, none, none, none, none, none, none, none, none, none, none, none, none, none, none, none, none, none, none, none, none, none, none, none, none, none, none, none, none, none, none, none, none, none]⟩
noncomputable def raw120_0 (N : Nat) (n : Nat) (v0 : List Int) (v1 : Int) (v2 : Bool) (v3 : Bool) (v4 : ByteArray) (v5 : Int) (v6 : Int) (v7 : Int) (v8 : Int) (v9 : List Int) (v10 : Vec 65) : Option (List Int × ByteArray) := loopN (lookN live120 11) (exec T120 (G120 N) N live120 (cL (cL (cL (cR (cR (cR (cL (cR (cL (cR (cR (cR (cR (cR c120))))))))))))))) n (st120_0 v0 v1 v2 v3 v4 v5 v6 v7 v8 v9 v10) (blockK 0 (seqK (exec T120 (G120 N) N live120 (cR (cR (cR (cR (cL (cR (cL (cR (cR (cR (cR (cR c120))))))))))))) (seqK (exec T120 (G120 N) N live120 (cR (cR (cR (cR (cR (cR c120))))))) (retK T120 Tryz.f120.results.toList (rd120).dec))))
noncomputable def st120_1 (v0 : List Int) (v1 : Int) (v2 : Bool) (v3 : Bool) (v4 : ByteArray) (v5 : Int) (v6 : Int) (v7 : List Int) (v8 : Vec 65) : St := ⟨[AV.li .u8 v0, AV.v (.int .u64 v1), AV.none, AV.v (.bool v2), AV.v (.bool v3), AV.none, AV.none, AV.none, AV.none, AV.none, AV.own 10, AV.v (.string v4), AV.ptr 12 0, AV.v (.int .i64 v5), AV.none, AV.none, AV.none, AV.v (.int .u64 v6), AV.none, AV.none, AV.none, AV.none, AV.none, AV.none, AV.none, AV.none, AV.none, AV.none, AV.none, AV.none, AV.none, AV.none, AV.none, AV.none, AV.none, AV.none, AV.none, AV.none, AV.none, AV.none, AV.none, AV.none, AV.none, AV.none, AV.none, AV.none, AV.none, AV.none, AV.none, AV.none, AV.none, AV.none, AV.none, AV.none, AV.none, AV.none, AV.none, AV.none, AV.none, AV.none, AV.none, AV.none, AV.none, AV.none, AV.none, AV.none, AV.none, AV.none, AV.none, AV.none, AV.none, AV.none, AV.none, AV.none, AV.none, AV.none, AV.none, AV.none, AV.none, AV.none, AV.none, AV.none, AV.none, AV.none, AV.none, AV.none, AV.none, AV.none, AV.none, AV.none, AV.none, AV.none, AV.none, AV.none, AV.none, AV.none, AV.none, AV.none, AV.none, AV.none, AV.none, AV.none], [none, none, none, none, none, none, none, none, none, none, some (OB.row .u8 5 v7), none, some (OB.arr .u8 65 v8), none, none, none, none, none, none, none, none, none, none, none, none, none, none, none, none, none, none, none, none, none, none, none, none, none, none, none, none, none, none, none, none, none, none, none, none, none, none, none, none, none, none, none, none, none, none, none, none, none, none, none, none, none, none, none, none, none, none, none, none, none, none, none, none, none, none, none, none, none, none, none, none, none, none, none, none, none, none, none, none, none, none, none, none, none, none, none, none, none]⟩
noncomputable def raw120_1 (N : Nat) (n : Nat) (v0 : List Int) (v1 : Int) (v2 : Bool) (v3 : Bool) (v4 : ByteArray) (v5 : Int) (v6 : Int) (v7 : List Int) (v8 : Vec 65) : Option (List Int × ByteArray) := loopN (lookN live120 18) (exec T120 (G120 N) N live120 (cL (cL (cL (cR (cR (cR (cL (cR (cR (cR (cR (cR c120))))))))))))) n (st120_1 v0 v1 v2 v3 v4 v5 v6 v7 v8) (blockK 2 (seqK (exec T120 (G120 N) N live120 (cR (cR (cR (cR (cL (cR (cR (cR (cR (cR c120))))))))))) (seqK (exec T120 (G120 N) N live120 (cR (cR (cR (cR (cR (cR c120))))))) (retK T120 Tryz.f120.results.toList (rd120).dec))))
noncomputable def s120_0 (N : Nat) (Ln0 : List Int → Int → Bool → Bool → ByteArray → Int → Int → Int → Int → List Int → Vec 65 → Option (List Int × ByteArray)) (v0 : List Int) (v1 : Int) (v2 : Bool) (v3 : Bool) (v4 : ByteArray) (v5 : Int) (v6 : Int) (v7 : Int) (v8 : Int) (v9 : List Int) (v10 : Vec 65) : Option (List Int × ByteArray) :=
  cond (leI v7 v1)
   (cond (leI 0 (andI .u64 v1 v8))
    (cond (ltI (andI .u64 v1 v8) (str8.size : Int))
     (cond (leI 0 (subI .i64 v5 1))
      (cond (ltI (subI .i64 v5 1) 65)
       (cond (ltI v6 0)
        (none)
        (Ln0 v0 (shrI .u64 v1 v6) v2 v3 v4 (subI .i64 v5 1) v6 v7 v8 v9 (Vec.st v10 (subI .i64 v5 1) (sAt str8 (andI .u64 v1 v8)))))
       (none))
      (none))
     (none))
    (none))
   (cond (leI 0 v1)
    (cond (ltI v1 (str8.size : Int))
     (cond (leI 0 (subI .i64 v5 1))
      (cond (ltI (subI .i64 v5 1) 65)
       (cond v2
        (cond (leI 0 (subI .i64 (subI .i64 v5 1) 1))
         (cond (ltI (subI .i64 (subI .i64 v5 1) 1) 65)
          (cond v3
           (cond ((((leI 0 (subI .i64 (subI .i64 v5 1) 1)) && (leI (subI .i64 (subI .i64 v5 1) 1) 65)) && (leI 65 65)) && (ltI (subI .i64 (subI .i64 v5 1) 1) 65))
            (none)
            (none))
           (cond ((((leI 0 (subI .i64 (subI .i64 v5 1) 1)) && (leI (subI .i64 (subI .i64 v5 1) 1) 65)) && (leI 65 65)) && (ltI (subI .i64 (subI .i64 v5 1) 1) 65))
            (cond (Nat.ble ((subI .i64 (subI .i64 v5 1) 1).toNat) 65 && Nat.ble 65 65)
             (some (v9, bstr (Vec.cut (Vec.st (Vec.st v10 (subI .i64 v5 1) (sAt str8 v1)) (subI .i64 (subI .i64 v5 1) 1) 45) ((subI .i64 (subI .i64 v5 1) 1).toNat) 65)))
             (none))
            (none)))
          (none))
         (none))
        (cond v3
         (cond ((((leI 0 (subI .i64 v5 1)) && (leI (subI .i64 v5 1) 65)) && (leI 65 65)) && (ltI (subI .i64 v5 1) 65))
          (none)
          (none))
         (cond ((((leI 0 (subI .i64 v5 1)) && (leI (subI .i64 v5 1) 65)) && (leI 65 65)) && (ltI (subI .i64 v5 1) 65))
          (cond (Nat.ble ((subI .i64 v5 1).toNat) 65 && Nat.ble 65 65)
           (some (v9, bstr (Vec.cut (Vec.st v10 (subI .i64 v5 1) (sAt str8 v1)) ((subI .i64 v5 1).toNat) 65)))
           (none))
          (none))))
       (none))
      (none))
     (none))
    (none))
theorem step120_0 (N : Nat) (n : Nat) (v0 : List Int) (v1 : Int) (v2 : Bool) (v3 : Bool) (v4 : ByteArray) (v5 : Int) (v6 : Int) (v7 : Int) (v8 : Int) (v9 : List Int) (v10 : Vec 65) : raw120_0 N  (n + 1) v0 v1 v2 v3 v4 v5 v6 v7 v8 v9 v10 = s120_0 N (raw120_0 N  n) v0 v1 v2 v3 v4 v5 v6 v7 v8 v9 v10 := by kernel_rfl
noncomputable def l120_0 (N : Nat) : Nat → List Int → Int → Bool → Bool → ByteArray → Int → Int → Int → Int → List Int → Vec 65 → Option (List Int × ByteArray)
  | 0 => fun _ _ _ _ _ _ _ _ _ _ _ => none
  | n + 1 => fun v0 v1 v2 v3 v4 v5 v6 v7 v8 v9 v10 => s120_0 N (l120_0 N  n) v0 v1 v2 v3 v4 v5 v6 v7 v8 v9 v10
theorem eq120_0 (N : Nat) : ∀ n, raw120_0 N  n = l120_0 N  n := by
  intro n
  induction n with
  | zero => exact funext fun v0 => funext fun v1 => funext fun v2 => funext fun v3 => funext fun v4 => funext fun v5 => funext fun v6 => funext fun v7 => funext fun v8 => funext fun v9 => funext fun v10 => rfl
  | succ n ih => exact funext fun v0 => funext fun v1 => funext fun v2 => funext fun v3 => funext fun v4 => funext fun v5 => funext fun v6 => funext fun v7 => funext fun v8 => funext fun v9 => funext fun v10 => by rw [step120_0, ih]; rfl
noncomputable def s120_1 (N : Nat) (Ln1 : List Int → Int → Bool → Bool → ByteArray → Int → Int → List Int → Vec 65 → Option (List Int × ByteArray)) (v0 : List Int) (v1 : Int) (v2 : Bool) (v3 : Bool) (v4 : ByteArray) (v5 : Int) (v6 : Int) (v7 : List Int) (v8 : Vec 65) : Option (List Int × ByteArray) :=
  cond (leI v6 v1)
   (cond (eqI v6 0)
    (none)
    (cond (leI 0 (subI .u64 v1 (mulI .u64 (quoI .u64 v1 v6) v6)))
     (cond (ltI (subI .u64 v1 (mulI .u64 (quoI .u64 v1 v6) v6)) (str8.size : Int))
      (cond (leI 0 (subI .i64 v5 1))
       (cond (ltI (subI .i64 v5 1) 65)
        (Ln1 v0 (quoI .u64 v1 v6) v2 v3 v4 (subI .i64 v5 1) v6 v7 (Vec.st v8 (subI .i64 v5 1) (sAt str8 (subI .u64 v1 (mulI .u64 (quoI .u64 v1 v6) v6)))))
        (none))
       (none))
      (none))
     (none)))
   (cond (leI 0 v1)
    (cond (ltI v1 (str8.size : Int))
     (cond (leI 0 (subI .i64 v5 1))
      (cond (ltI (subI .i64 v5 1) 65)
       (cond v2
        (cond (leI 0 (subI .i64 (subI .i64 v5 1) 1))
         (cond (ltI (subI .i64 (subI .i64 v5 1) 1) 65)
          (cond v3
           (cond ((((leI 0 (subI .i64 (subI .i64 v5 1) 1)) && (leI (subI .i64 (subI .i64 v5 1) 1) 65)) && (leI 65 65)) && (ltI (subI .i64 (subI .i64 v5 1) 1) 65))
            (none)
            (none))
           (cond ((((leI 0 (subI .i64 (subI .i64 v5 1) 1)) && (leI (subI .i64 (subI .i64 v5 1) 1) 65)) && (leI 65 65)) && (ltI (subI .i64 (subI .i64 v5 1) 1) 65))
            (cond (Nat.ble ((subI .i64 (subI .i64 v5 1) 1).toNat) 65 && Nat.ble 65 65)
             (some (v7, bstr (Vec.cut (Vec.st (Vec.st v8 (subI .i64 v5 1) (sAt str8 v1)) (subI .i64 (subI .i64 v5 1) 1) 45) ((subI .i64 (subI .i64 v5 1) 1).toNat) 65)))
             (none))
            (none)))
          (none))
         (none))
        (cond v3
         (cond ((((leI 0 (subI .i64 v5 1)) && (leI (subI .i64 v5 1) 65)) && (leI 65 65)) && (ltI (subI .i64 v5 1) 65))
          (none)
          (none))
         (cond ((((leI 0 (subI .i64 v5 1)) && (leI (subI .i64 v5 1) 65)) && (leI 65 65)) && (ltI (subI .i64 v5 1) 65))
          (cond (Nat.ble ((subI .i64 v5 1).toNat) 65 && Nat.ble 65 65)
           (some (v7, bstr (Vec.cut (Vec.st v8 (subI .i64 v5 1) (sAt str8 v1)) ((subI .i64 v5 1).toNat) 65)))
           (none))
          (none))))
       (none))
      (none))
     (none))
    (none))
theorem step120_1 (N : Nat) (n : Nat) (v0 : List Int) (v1 : Int) (v2 : Bool) (v3 : Bool) (v4 : ByteArray) (v5 : Int) (v6 : Int) (v7 : List Int) (v8 : Vec 65) : raw120_1 N  (n + 1) v0 v1 v2 v3 v4 v5 v6 v7 v8 = s120_1 N (raw120_1 N  n) v0 v1 v2 v3 v4 v5 v6 v7 v8 := by kernel_rfl
noncomputable def l120_1 (N : Nat) : Nat → List Int → Int → Bool → Bool → ByteArray → Int → Int → List Int → Vec 65 → Option (List Int × ByteArray)
  | 0 => fun _ _ _ _ _ _ _ _ _ => none
  | n + 1 => fun v0 v1 v2 v3 v4 v5 v6 v7 v8 => s120_1 N (l120_1 N  n) v0 v1 v2 v3 v4 v5 v6 v7 v8
theorem eq120_1 (N : Nat) : ∀ n, raw120_1 N  n = l120_1 N  n := by
  intro n
  induction n with
  | zero => exact funext fun v0 => funext fun v1 => funext fun v2 => funext fun v3 => funext fun v4 => funext fun v5 => funext fun v6 => funext fun v7 => funext fun v8 => rfl
  | succ n ih => exact funext fun v0 => funext fun v1 => funext fun v2 => funext fun v3 => funext fun v4 => funext fun v5 => funext fun v6 => funext fun v7 => funext fun v8 => by rw [step120_1, ih]; rfl
noncomputable def t120 (N : Nat) (Le0 : List Int → Int → Bool → Bool → ByteArray → Int → Int → Int → Int → List Int → Vec 65 → Option (List Int × ByteArray)) (Le1 : List Int → Int → Bool → Bool → ByteArray → Int → Int → List Int → Vec 65 → Option (List Int × ByteArray)) (x0 : List Int) (x1 : Int) (x2 : Int) (x3 : Bool) (x4 : Bool) : Option (List Int × ByteArray) :=
  cond (ltI x2 2)
   (none)
   (cond (eqI x2 10)
    (none)
    (cond (ltI 36 x2)
     (none)
     (cond x3
      ((fn_strconv_isPowerOfTwo N x2).bind fun r1 =>
       cond r1
        ((fn_bits_TrailingZeros N (cvI .u64 x2)).bind fun r2 =>
         Le0 x0 (subI .u64 0 x1) x3 x4 (⟨#[]⟩ : ByteArray) 65 (cvI .u64 r2) (cvI .u64 x2) (subI .u64 (cvI .u64 x2) 1) [] (Vec.zero 65))
        (Le1 x0 (subI .u64 0 x1) x3 x4 (⟨#[]⟩ : ByteArray) 65 (cvI .u64 x2) [] (Vec.zero 65)))
      ((fn_strconv_isPowerOfTwo N x2).bind fun r3 =>
       cond r3
        ((fn_bits_TrailingZeros N (cvI .u64 x2)).bind fun r4 =>
         Le0 x0 x1 x3 x4 (⟨#[]⟩ : ByteArray) 65 (cvI .u64 r4) (cvI .u64 x2) (subI .u64 (cvI .u64 x2) 1) [] (Vec.zero 65))
        (Le1 x0 x1 x3 x4 (⟨#[]⟩ : ByteArray) 65 (cvI .u64 x2) [] (Vec.zero 65))))))
noncomputable def fn_strconv_formatBits (N : Nat) (x0 : List Int) (x1 : Int) (x2 : Int) (x3 : Bool) (x4 : Bool) : Option (List Int × ByteArray) := t120 N (l120_0 N N) (l120_1 N N) x0 x1 x2 x3 x4
theorem run120 (N : Nat) (x0 : List Int) (x1 : Int) (x2 : Int) (x3 : Bool) (x4 : Bool) : Eng.run T120 (G120 N) N live120 c120 Tryz.f120.results.toList Tryz.f120.ntmps ((ad120).enc (x0, x1, x2, x3, x4, ())) (rd120).dec = fn_strconv_formatBits N x0 x1 x2 x3 x4 := by
  refine Eq.trans (show _ = t120 N (raw120_0 N N) (raw120_1 N N) x0 x1 x2 x3 x4 from by kernel_rfl) ?_
  unfold fn_strconv_formatBits
  rw [eq120_0 N N, eq120_1 N N]
noncomputable def F120 (N : Nat) (a : List Int × Int × Int × Bool × Bool × Unit) : Option (List Int × ByteArray) := fn_strconv_formatBits N a.1 a.2.1 a.2.2.1 a.2.2.2.1 a.2.2.2.2.1
theorem ok120 (N : Nat) : FnOK Tryz.prog 120 ad120 rd120 (F120 N) :=
  fn_ok (N := N) (live := live120) (code := c120) (tok T120.rt T120.kl (wrNil_ok)) mixed (gok120 N) Tryz.func120 (by kernel_rfl) (by kernel_rfl) (by kernel_rfl) fun a p h => by rw [← h]; exact run120 N a.1 a.2.1 a.2.2.1 a.2.2.2.1 a.2.2.2.2.1

/-! ### internal/strconv.FormatUint: function 92 -/
noncomputable def c92 : Code := (Tryz.f92.body).getD .skip
noncomputable def T92 : Tb := ⟨tyOf tys, [], [], wrNil⟩
noncomputable def G92 {R : Type} (N : Nat) : FuncId → List AV → (AV → Option R) → Option R := gCons 117 (gOf ad117 rd117 (F117 N)) (gCons 118 (gOf ad118 rd118 (F118 N)) (gCons 120 (gOf ad120 rd120 (F120 N)) (gNil)))
theorem gok92 {R : Type} (N : Nat) : GOK Tryz.prog (G92 (R := R) N) := gCons_ok (ok117 N) (gCons_ok (ok118 N) (gCons_ok (ok120 N) (gNil_ok)))
noncomputable def live92 : List (Nat × List (Nat × HK)) := []
noncomputable def ad92 : Ad (Int × Int × Unit) := aC (cInt .u64) (aC (cInt .i64) (a0))
noncomputable def rd92 : Rd (ByteArray) := r1 (cStr)
noncomputable def fn_strconv_FormatUint (N : Nat) (x0 : Int) (x1 : Int) : Option (ByteArray) :=
  cond (eqI x1 10)
   (cond (ltI x0 100)
    ((fn_strconv_small N (cvI .i64 x0)).bind fun r1 =>
     some r1)
    ((fn_strconv_numDigits N x0).bind fun r2 =>
     cond ((((leI 0 0) && (leI 0 r2)) && (leI r2 24)) && (ltI 0 24))
      (cond (anyNone [cond (Nat.ble 0 r2.toNat && Nat.ble r2.toNat 24) (AV.li .u8 (Vec.cut (Vec.zero 24) 0 r2.toNat)) AV.none, AV.v (.int .u64 x0)])
       (none)
       (none))
      (none)))
   ((fn_strconv_formatBits N [] x0 x1 false false).bind fun r3 =>
    some r3.2)
theorem run92 (N : Nat) (x0 : Int) (x1 : Int) : Eng.run T92 (G92 N) N live92 c92 Tryz.f92.results.toList Tryz.f92.ntmps ((ad92).enc (x0, x1, ())) (rd92).dec = fn_strconv_FormatUint N x0 x1 := by kernel_rfl
noncomputable def F92 (N : Nat) (a : Int × Int × Unit) : Option (ByteArray) := fn_strconv_FormatUint N a.1 a.2.1
theorem ok92 (N : Nat) : FnOK Tryz.prog 92 ad92 rd92 (F92 N) :=
  fn_ok (N := N) (live := live92) (code := c92) (tok T92.rt T92.kl (wrNil_ok)) mixed (gok92 N) Tryz.func92 (by kernel_rfl) (by kernel_rfl) (by kernel_rfl) fun a p h => by rw [← h]; exact run92 N a.1 a.2.1

/-! ### strconv.FormatUint: function 54 -/
noncomputable def c54 : Code := (Tryz.f54.body).getD .skip
noncomputable def T54 : Tb := ⟨tyOf tys, [], [], wrNil⟩
noncomputable def G54 {R : Type} (N : Nat) : FuncId → List AV → (AV → Option R) → Option R := gCons 92 (gOf ad92 rd92 (F92 N)) (gNil)
theorem gok54 {R : Type} (N : Nat) : GOK Tryz.prog (G54 (R := R) N) := gCons_ok (ok92 N) (gNil_ok)
noncomputable def live54 : List (Nat × List (Nat × HK)) := []
noncomputable def ad54 : Ad (Int × Int × Unit) := aC (cInt .u64) (aC (cInt .i64) (a0))
noncomputable def rd54 : Rd (ByteArray) := r1 (cStr)
noncomputable def fn_strconv_FormatUint_54 (N : Nat) (x0 : Int) (x1 : Int) : Option (ByteArray) :=
  (fn_strconv_FormatUint N x0 x1).bind fun r1 =>
   some r1
theorem run54 (N : Nat) (x0 : Int) (x1 : Int) : Eng.run T54 (G54 N) N live54 c54 Tryz.f54.results.toList Tryz.f54.ntmps ((ad54).enc (x0, x1, ())) (rd54).dec = fn_strconv_FormatUint_54 N x0 x1 := by kernel_rfl
noncomputable def F54 (N : Nat) (a : Int × Int × Unit) : Option (ByteArray) := fn_strconv_FormatUint_54 N a.1 a.2.1
theorem ok54 (N : Nat) : FnOK Tryz.prog 54 ad54 rd54 (F54 N) :=
  fn_ok (N := N) (live := live54) (code := c54) (tok T54.rt T54.kl (wrNil_ok)) mixed (gok54 N) Tryz.func54 (by kernel_rfl) (by kernel_rfl) (by kernel_rfl) fun a p h => by rw [← h]; exact run54 N a.1 a.2.1

/-! ### tiller/pat.Hex: function 21 -/
noncomputable def c21 : Code := (Tryz.f21.body).getD .skip
noncomputable def T21 : Tb := ⟨tyOf tys, [], [], wrNil⟩
noncomputable def G21 {R : Type} (N : Nat) : FuncId → List AV → (AV → Option R) → Option R := gCons 54 (gOf ad54 rd54 (F54 N)) (gNil)
theorem gok21 {R : Type} (N : Nat) : GOK Tryz.prog (G21 (R := R) N) := gCons_ok (ok54 N) (gNil_ok)
noncomputable def live21 : List (Nat × List (Nat × HK)) := [(2, [(3, .keep)])]
noncomputable def ad21 : Ad (Int × Unit) := aC (cInt .u64) (a0)
noncomputable def rd21 : Rd (ByteArray) := r1 (cStr)
noncomputable def st21_0 (v0 : ByteArray) : St := ⟨[AV.none, AV.none, AV.none, AV.v (.string v0), AV.none, AV.none, AV.none, AV.none, AV.none, AV.none, AV.none, AV.none], [none, none, none, none, none, none, none, none, none, none, none, none]⟩
noncomputable def raw21_0 (N : Nat) (n : Nat) (v0 : ByteArray) : Option (ByteArray) := loopN (lookN live21 2) (exec T21 (G21 N) N live21 (cL (cL (cL (cR (cR c21)))))) n (st21_0 v0) (blockK 0 (seqK (exec T21 (G21 N) N live21 (cR (cR (cR c21)))) (retK T21 Tryz.f21.results.toList (rd21).dec)))
noncomputable def s21_0 (N : Nat) (Ln0 : ByteArray → Option (ByteArray)) (v0 : ByteArray) : Option (ByteArray) :=
  cond (ltI (v0.size : Int) 16)
   (cond (fitS ((⟨#[48]⟩ : ByteArray).size + v0.size))
    (Ln0 ((⟨#[48]⟩ : ByteArray) ++ v0))
    (none))
   (some v0)
theorem step21_0 (N : Nat) (n : Nat) (v0 : ByteArray) : raw21_0 N  (n + 1) v0 = s21_0 N (raw21_0 N  n) v0 := by kernel_rfl
noncomputable def l21_0 (N : Nat) : Nat → ByteArray → Option (ByteArray)
  | 0 => fun _ => none
  | n + 1 => fun v0 => s21_0 N (l21_0 N  n) v0
theorem eq21_0 (N : Nat) : ∀ n, raw21_0 N  n = l21_0 N  n := by
  intro n
  induction n with
  | zero => exact funext fun v0 => rfl
  | succ n ih => exact funext fun v0 => by rw [step21_0, ih]; rfl
noncomputable def t21 (N : Nat) (Le0 : ByteArray → Option (ByteArray)) (x0 : Int) : Option (ByteArray) :=
  (fn_strconv_FormatUint_54 N x0 16).bind fun r1 =>
   Le0 r1
noncomputable def fn_pat_Hex (N : Nat) (x0 : Int) : Option (ByteArray) := t21 N (l21_0 N N) x0
theorem run21 (N : Nat) (x0 : Int) : Eng.run T21 (G21 N) N live21 c21 Tryz.f21.results.toList Tryz.f21.ntmps ((ad21).enc (x0, ())) (rd21).dec = fn_pat_Hex N x0 := by
  refine Eq.trans (show _ = t21 N (raw21_0 N N) x0 from by kernel_rfl) ?_
  unfold fn_pat_Hex
  rw [eq21_0 N N]
noncomputable def F21 (N : Nat) (a : Int × Unit) : Option (ByteArray) := fn_pat_Hex N a.1
theorem ok21 (N : Nat) : FnOK Tryz.prog 21 ad21 rd21 (F21 N) :=
  fn_ok (N := N) (live := live21) (code := c21) (tok T21.rt T21.kl (wrNil_ok)) mixed (gok21 N) Tryz.func21 (by kernel_rfl) (by kernel_rfl) (by kernel_rfl) fun a p h => by rw [← h]; exact run21 N a.1

/-! ### strings.trimRightByte: function 50 -/
noncomputable def c50 : Code := (Tryz.f50.body).getD .skip
noncomputable def T50 : Tb := ⟨tyOf tys, [], [], wrNil⟩
noncomputable def G50 {R : Type} (N : Nat) : FuncId → List AV → (AV → Option R) → Option R := gNil
theorem gok50 {R : Type} (N : Nat) : GOK Tryz.prog (G50 (R := R) N) := gNil_ok
noncomputable def live50 : List (Nat × List (Nat × HK)) := [(1, [(0, .keep), (1, .keep)])]
noncomputable def ad50 : Ad (ByteArray × Int × Unit) := aC (cStr) (aC (cInt .u8) (a0))
noncomputable def rd50 : Rd (ByteArray) := r1 (cStr)
noncomputable def st50_0 (v0 : ByteArray) (v1 : Int) : St := ⟨[AV.v (.string v0), AV.v (.int .u8 v1), AV.none, AV.none, AV.none, AV.none, AV.none, AV.none, AV.none, AV.none, AV.none, AV.none, AV.none, AV.none, AV.none, AV.none, AV.none, AV.none, AV.none, AV.none, AV.none, AV.none, AV.none], [none, none, none, none, none, none, none, none, none, none, none, none, none, none, none, none, none, none, none, none, none, none, none]⟩
noncomputable def raw50_0 (N : Nat) (n : Nat) (v0 : ByteArray) (v1 : Int) : Option (ByteArray) := loopN (lookN live50 1) (exec T50 (G50 N) N live50 (cL (cL (cL (cR c50))))) n (st50_0 v0 v1) (blockK 0 (seqK (exec T50 (G50 N) N live50 (cR (cR c50))) (retK T50 Tryz.f50.results.toList (rd50).dec)))
noncomputable def s50_0 (N : Nat) (Ln0 : ByteArray → Int → Option (ByteArray)) (v0 : ByteArray) (v1 : Int) : Option (ByteArray) :=
  cond (ltI 0 (v0.size : Int))
   (cond (leI 0 (subI .i64 (v0.size : Int) 1))
    (cond (ltI (subI .i64 (v0.size : Int) 1) (v0.size : Int))
     (cond (eqI (sAt v0 (subI .i64 (v0.size : Int) 1)) v1)
      (cond (((leI 0 0) && (leI 0 (subI .i64 (v0.size : Int) 1))) && (leI (subI .i64 (v0.size : Int) 1) (v0.size : Int)))
       (Ln0 (v0.extract ((0 : Int).toNat) ((subI .i64 (v0.size : Int) 1).toNat)) v1)
       (none))
      (some v0))
     (none))
    (none))
   (some v0)
theorem step50_0 (N : Nat) (n : Nat) (v0 : ByteArray) (v1 : Int) : raw50_0 N  (n + 1) v0 v1 = s50_0 N (raw50_0 N  n) v0 v1 := by kernel_rfl
noncomputable def l50_0 (N : Nat) : Nat → ByteArray → Int → Option (ByteArray)
  | 0 => fun _ _ => none
  | n + 1 => fun v0 v1 => s50_0 N (l50_0 N  n) v0 v1
theorem eq50_0 (N : Nat) : ∀ n, raw50_0 N  n = l50_0 N  n := by
  intro n
  induction n with
  | zero => exact funext fun v0 => funext fun v1 => rfl
  | succ n ih => exact funext fun v0 => funext fun v1 => by rw [step50_0, ih]; rfl
noncomputable def t50 (N : Nat) (Le0 : ByteArray → Int → Option (ByteArray)) (x0 : ByteArray) (x1 : Int) : Option (ByteArray) :=
  Le0 x0 x1
noncomputable def fn_strings_trimRightByte (N : Nat) (x0 : ByteArray) (x1 : Int) : Option (ByteArray) := t50 N (l50_0 N N) x0 x1
theorem run50 (N : Nat) (x0 : ByteArray) (x1 : Int) : Eng.run T50 (G50 N) N live50 c50 Tryz.f50.results.toList Tryz.f50.ntmps ((ad50).enc (x0, x1, ())) (rd50).dec = fn_strings_trimRightByte N x0 x1 := by
  refine Eq.trans (show _ = t50 N (raw50_0 N N) x0 x1 from by kernel_rfl) ?_
  unfold fn_strings_trimRightByte
  rw [eq50_0 N N]
noncomputable def F50 (N : Nat) (a : ByteArray × Int × Unit) : Option (ByteArray) := fn_strings_trimRightByte N a.1 a.2.1
theorem ok50 (N : Nat) : FnOK Tryz.prog 50 ad50 rd50 (F50 N) :=
  fn_ok (N := N) (live := live50) (code := c50) (tok T50.rt T50.kl (wrNil_ok)) mixed (gok50 N) Tryz.func50 (by kernel_rfl) (by kernel_rfl) (by kernel_rfl) fun a p h => by rw [← h]; exact run50 N a.1 a.2.1

/-! ### unicode/utf8.RuneStart: function 114 -/
noncomputable def c114 : Code := (Tryz.f114.body).getD .skip
noncomputable def T114 : Tb := ⟨tyOf tys, [], [], wrNil⟩
noncomputable def G114 {R : Type} (N : Nat) : FuncId → List AV → (AV → Option R) → Option R := gNil
theorem gok114 {R : Type} (N : Nat) : GOK Tryz.prog (G114 (R := R) N) := gNil_ok
noncomputable def live114 : List (Nat × List (Nat × HK)) := []
noncomputable def ad114 : Ad (Int × Unit) := aC (cInt .u8) (a0)
noncomputable def rd114 : Rd (Bool) := r1 (cBool)
noncomputable def fn_utf8_RuneStart (N : Nat) (x0 : Int) : Option (Bool) :=
  some (!(eqI (andI .u8 x0 192) 128))
theorem run114 (N : Nat) (x0 : Int) : Eng.run T114 (G114 N) N live114 c114 Tryz.f114.results.toList Tryz.f114.ntmps ((ad114).enc (x0, ())) (rd114).dec = fn_utf8_RuneStart N x0 := by kernel_rfl
noncomputable def F114 (N : Nat) (a : Int × Unit) : Option (Bool) := fn_utf8_RuneStart N a.1
theorem ok114 (N : Nat) : FnOK Tryz.prog 114 ad114 rd114 (F114 N) :=
  fn_ok (N := N) (live := live114) (code := c114) (tok T114.rt T114.kl (wrNil_ok)) mixed (gok114 N) Tryz.func114 (by kernel_rfl) (by kernel_rfl) (by kernel_rfl) fun a p h => by rw [← h]; exact run114 N a.1

/-! ### unicode/utf8.decodeRuneInStringSlow: function 132 -/
noncomputable def c132 : Code := (Tryz.f132.body).getD .skip
noncomputable def T132 : Tb := ⟨tyOf tys, [], [], wrNil⟩
noncomputable def G132 {R : Type} (N : Nat) : FuncId → List AV → (AV → Option R) → Option R := gNil
theorem gok132 {R : Type} (N : Nat) : GOK Tryz.prog (G132 (R := R) N) := gNil_ok
noncomputable def live132 : List (Nat × List (Nat × HK)) := []
noncomputable def ad132 : Ad (ByteArray × Unit) := aC (cStr) (a0)
noncomputable def rd132 : Rd (Int × Int) := r2 (cInt .i32) (cInt .i64)
noncomputable def fn_utf8_decodeRuneInStringSlow (N : Nat) (x0 : ByteArray) : Option (Int × Int) :=
  cond (ltI (x0.size : Int) 1)
   (some (65533, 0))
   (cond (ltI 0 (x0.size : Int))
    (none)
    (none))
theorem run132 (N : Nat) (x0 : ByteArray) : Eng.run T132 (G132 N) N live132 c132 Tryz.f132.results.toList Tryz.f132.ntmps ((ad132).enc (x0, ())) (rd132).dec = fn_utf8_decodeRuneInStringSlow N x0 := by kernel_rfl
noncomputable def F132 (N : Nat) (a : ByteArray × Unit) : Option (Int × Int) := fn_utf8_decodeRuneInStringSlow N a.1
theorem ok132 (N : Nat) : FnOK Tryz.prog 132 ad132 rd132 (F132 N) :=
  fn_ok (N := N) (live := live132) (code := c132) (tok T132.rt T132.kl (wrNil_ok)) mixed (gok132 N) Tryz.func132 (by kernel_rfl) (by kernel_rfl) (by kernel_rfl) fun a p h => by rw [← h]; exact run132 N a.1

/-! ### unicode/utf8.DecodeRuneInString: function 115 -/
noncomputable def c115 : Code := (Tryz.f115.body).getD .skip
noncomputable def T115 : Tb := ⟨tyOf tys, [], [], wrNil⟩
noncomputable def G115 {R : Type} (N : Nat) : FuncId → List AV → (AV → Option R) → Option R := gCons 132 (gOf ad132 rd132 (F132 N)) (gNil)
theorem gok115 {R : Type} (N : Nat) : GOK Tryz.prog (G115 (R := R) N) := gCons_ok (ok132 N) (gNil_ok)
noncomputable def live115 : List (Nat × List (Nat × HK)) := []
noncomputable def ad115 : Ad (ByteArray × Unit) := aC (cStr) (a0)
noncomputable def rd115 : Rd (Int × Int) := r2 (cInt .i32) (cInt .i64)
noncomputable def fn_utf8_DecodeRuneInString (N : Nat) (x0 : ByteArray) : Option (Int × Int) :=
  cond (!(eqS x0 (⟨#[]⟩ : ByteArray)))
   (cond (ltI 0 (x0.size : Int))
    (cond (ltI (sAt x0 0) 128)
     (cond (ltI 0 (x0.size : Int))
      (some (cvI .i32 (sAt x0 0), 1))
      (none))
     ((fn_utf8_decodeRuneInStringSlow N x0).bind fun r1 =>
      some (r1.1, r1.2)))
    (none))
   ((fn_utf8_decodeRuneInStringSlow N x0).bind fun r2 =>
    some (r2.1, r2.2))
theorem run115 (N : Nat) (x0 : ByteArray) : Eng.run T115 (G115 N) N live115 c115 Tryz.f115.results.toList Tryz.f115.ntmps ((ad115).enc (x0, ())) (rd115).dec = fn_utf8_DecodeRuneInString N x0 := by kernel_rfl
noncomputable def F115 (N : Nat) (a : ByteArray × Unit) : Option (Int × Int) := fn_utf8_DecodeRuneInString N a.1
theorem ok115 (N : Nat) : FnOK Tryz.prog 115 ad115 rd115 (F115 N) :=
  fn_ok (N := N) (live := live115) (code := c115) (tok T115.rt T115.kl (wrNil_ok)) mixed (gok115 N) Tryz.func115 (by kernel_rfl) (by kernel_rfl) (by kernel_rfl) fun a p h => by rw [← h]; exact run115 N a.1

/-! ### unicode/utf8.DecodeLastRuneInString: function 90 -/
noncomputable def c90 : Code := (Tryz.f90.body).getD .skip
noncomputable def T90 : Tb := ⟨tyOf tys, [], [], wrNil⟩
noncomputable def G90 {R : Type} (N : Nat) : FuncId → List AV → (AV → Option R) → Option R := gCons 114 (gOf ad114 rd114 (F114 N)) (gCons 115 (gOf ad115 rd115 (F115 N)) (gNil))
theorem gok90 {R : Type} (N : Nat) : GOK Tryz.prog (G90 (R := R) N) := gCons_ok (ok114 N) (gCons_ok (ok115 N) (gNil_ok))
noncomputable def live90 : List (Nat × List (Nat × HK)) := [(10, [(0, .keep), (4, .keep), (5, .keep), (6, .keep)])]
noncomputable def ad90 : Ad (ByteArray × Unit) := aC (cStr) (a0)
noncomputable def rd90 : Rd (Int × Int) := r2 (cInt .i32) (cInt .i64)
noncomputable def st90_0 (v0 : ByteArray) (v1 : Int) (v2 : Int) (v3 : Int) : St := ⟨[AV.v (.string v0), AV.none, AV.none, AV.none, AV.v (.int .i64 v1), AV.v (.int .i64 v2), AV.v (.int .i64 v3), AV.none, AV.none, AV.none, AV.none, AV.none, AV.none, AV.none, AV.none, AV.none, AV.none, AV.none, AV.none, AV.none, AV.none, AV.none, AV.none, AV.none, AV.none, AV.none, AV.none, AV.none, AV.none, AV.none, AV.none, AV.none, AV.none, AV.none, AV.none, AV.none, AV.none, AV.none, AV.none, AV.none, AV.none, AV.none, AV.none, AV.none, AV.none, AV.none, AV.none, AV.none, AV.none, AV.none, AV.none], [none, none, none, none, none, none, none, none, none, none, none, none, none, none, none, none, none, none, none, none, none, none, none, none, none, none, none, none, none, none, none, none, none, none, none, none, none, none, none, none, none, none, none, none, none, none, none, none, none, none, none]⟩
noncomputable def raw90_0 (N : Nat) (n : Nat) (v0 : ByteArray) (v1 : Int) (v2 : Int) (v3 : Int) : Option (Int × Int) := loopN (lookN live90 10) (exec T90 (G90 N) N live90 (cL (cL (cR (cL (cR (cR (cR (cR (cR (cR (cR c90)))))))))))) n (st90_0 v0 v1 v2 v3) (blockK 0 (seqK (exec T90 (G90 N) N live90 (cR (cR (cR (cR (cR (cR (cR (cR c90))))))))) (retK T90 Tryz.f90.results.toList (rd90).dec)))
noncomputable def s90_0 (N : Nat) (Ln0 : ByteArray → Int → Int → Int → Option (Int × Int)) (v0 : ByteArray) (v1 : Int) (v2 : Int) (v3 : Int) : Option (Int × Int) :=
  cond (leI v3 v2)
   (cond (leI 0 v2)
    (cond (ltI v2 (v0.size : Int))
     ((fn_utf8_RuneStart N (sAt v0 v2)).bind fun r1 =>
      cond r1
       (cond (ltI v2 0)
        (cond (((leI 0 0) && (leI 0 v1)) && (leI v1 (v0.size : Int)))
         ((fn_utf8_DecodeRuneInString N (v0.extract ((0 : Int).toNat) v1.toNat)).bind fun r2 =>
          cond (!(eqI (addI .i64 0 r2.2) v1))
           (some (65533, 1))
           (some (r2.1, r2.2)))
         (none))
        (cond (((leI 0 v2) && (leI v2 v1)) && (leI v1 (v0.size : Int)))
         ((fn_utf8_DecodeRuneInString N (v0.extract v2.toNat v1.toNat)).bind fun r3 =>
          cond (!(eqI (addI .i64 v2 r3.2) v1))
           (some (65533, 1))
           (some (r3.1, r3.2)))
         (none)))
       (Ln0 v0 v1 (subI .i64 v2 1) v3))
     (none))
    (none))
   (cond (ltI v2 0)
    (cond (((leI 0 0) && (leI 0 v1)) && (leI v1 (v0.size : Int)))
     ((fn_utf8_DecodeRuneInString N (v0.extract ((0 : Int).toNat) v1.toNat)).bind fun r4 =>
      cond (!(eqI (addI .i64 0 r4.2) v1))
       (some (65533, 1))
       (some (r4.1, r4.2)))
     (none))
    (cond (((leI 0 v2) && (leI v2 v1)) && (leI v1 (v0.size : Int)))
     ((fn_utf8_DecodeRuneInString N (v0.extract v2.toNat v1.toNat)).bind fun r5 =>
      cond (!(eqI (addI .i64 v2 r5.2) v1))
       (some (65533, 1))
       (some (r5.1, r5.2)))
     (none)))
theorem step90_0 (N : Nat) (n : Nat) (v0 : ByteArray) (v1 : Int) (v2 : Int) (v3 : Int) : raw90_0 N  (n + 1) v0 v1 v2 v3 = s90_0 N (raw90_0 N  n) v0 v1 v2 v3 := by kernel_rfl
noncomputable def l90_0 (N : Nat) : Nat → ByteArray → Int → Int → Int → Option (Int × Int)
  | 0 => fun _ _ _ _ => none
  | n + 1 => fun v0 v1 v2 v3 => s90_0 N (l90_0 N  n) v0 v1 v2 v3
theorem eq90_0 (N : Nat) : ∀ n, raw90_0 N  n = l90_0 N  n := by
  intro n
  induction n with
  | zero => exact funext fun v0 => funext fun v1 => funext fun v2 => funext fun v3 => rfl
  | succ n ih => exact funext fun v0 => funext fun v1 => funext fun v2 => funext fun v3 => by rw [step90_0, ih]; rfl
noncomputable def t90 (N : Nat) (Le0 : ByteArray → Int → Int → Int → Option (Int × Int)) (x0 : ByteArray) : Option (Int × Int) :=
  cond (eqI (x0.size : Int) 0)
   (some (65533, 0))
   (cond (leI 0 (subI .i64 (x0.size : Int) 1))
    (cond (ltI (subI .i64 (x0.size : Int) 1) (x0.size : Int))
     (cond (ltI (cvI .i32 (sAt x0 (subI .i64 (x0.size : Int) 1))) 128)
      (some (cvI .i32 (sAt x0 (subI .i64 (x0.size : Int) 1)), 1))
      (Le0 x0 (x0.size : Int) (subI .i64 (subI .i64 (x0.size : Int) 1) 1) (maxI (subI .i64 (x0.size : Int) 4) 0)))
     (none))
    (none))
noncomputable def fn_utf8_DecodeLastRuneInString (N : Nat) (x0 : ByteArray) : Option (Int × Int) := t90 N (l90_0 N N) x0
theorem run90 (N : Nat) (x0 : ByteArray) : Eng.run T90 (G90 N) N live90 c90 Tryz.f90.results.toList Tryz.f90.ntmps ((ad90).enc (x0, ())) (rd90).dec = fn_utf8_DecodeLastRuneInString N x0 := by
  refine Eq.trans (show _ = t90 N (raw90_0 N N) x0 from by kernel_rfl) ?_
  unfold fn_utf8_DecodeLastRuneInString
  rw [eq90_0 N N]
noncomputable def F90 (N : Nat) (a : ByteArray × Unit) : Option (Int × Int) := fn_utf8_DecodeLastRuneInString N a.1
theorem ok90 (N : Nat) : FnOK Tryz.prog 90 ad90 rd90 (F90 N) :=
  fn_ok (N := N) (live := live90) (code := c90) (tok T90.rt T90.kl (wrNil_ok)) mixed (gok90 N) Tryz.func90 (by kernel_rfl) (by kernel_rfl) (by kernel_rfl) fun a p h => by rw [← h]; exact run90 N a.1

/-! ### internal/stringslite.IndexByte: function 142 -/
noncomputable def c142 : Code := (Tryz.f142.body).getD .skip
noncomputable def T142 : Tb := ⟨tyOf tys, [], [], wrNil⟩
noncomputable def G142 {R : Type} (N : Nat) : FuncId → List AV → (AV → Option R) → Option R := gNil
theorem gok142 {R : Type} (N : Nat) : GOK Tryz.prog (G142 (R := R) N) := gNil_ok
noncomputable def live142 : List (Nat × List (Nat × HK)) := []
noncomputable def ad142 : Ad (ByteArray × Int × Unit) := aC (cStr) (aC (cInt .u8) (a0))
noncomputable def rd142 : Rd (Int) := r1 (cInt .i64)
noncomputable def fn_stringslite_IndexByte (N : Nat) (x0 : ByteArray) (x1 : Int) : Option (Int) :=
  none
theorem run142 (N : Nat) (x0 : ByteArray) (x1 : Int) : Eng.run T142 (G142 N) N live142 c142 Tryz.f142.results.toList Tryz.f142.ntmps ((ad142).enc (x0, x1, ())) (rd142).dec = fn_stringslite_IndexByte N x0 x1 := by kernel_rfl
noncomputable def F142 (N : Nat) (a : ByteArray × Int × Unit) : Option (Int) := fn_stringslite_IndexByte N a.1 a.2.1
theorem ok142 (N : Nat) : FnOK Tryz.prog 142 ad142 rd142 (F142 N) :=
  fn_ok (N := N) (live := live142) (code := c142) (tok T142.rt T142.kl (wrNil_ok)) mixed (gok142 N) Tryz.func142 (by kernel_rfl) (by kernel_rfl) (by kernel_rfl) fun a p h => by rw [← h]; exact run142 N a.1 a.2.1

/-! ### strings.IndexByte: function 133 -/
noncomputable def c133 : Code := (Tryz.f133.body).getD .skip
noncomputable def T133 : Tb := ⟨tyOf tys, [], [], wrNil⟩
noncomputable def G133 {R : Type} (N : Nat) : FuncId → List AV → (AV → Option R) → Option R := gCons 142 (gOf ad142 rd142 (F142 N)) (gNil)
theorem gok133 {R : Type} (N : Nat) : GOK Tryz.prog (G133 (R := R) N) := gCons_ok (ok142 N) (gNil_ok)
noncomputable def live133 : List (Nat × List (Nat × HK)) := []
noncomputable def ad133 : Ad (ByteArray × Int × Unit) := aC (cStr) (aC (cInt .u8) (a0))
noncomputable def rd133 : Rd (Int) := r1 (cInt .i64)
noncomputable def fn_strings_IndexByte (N : Nat) (x0 : ByteArray) (x1 : Int) : Option (Int) :=
  (fn_stringslite_IndexByte N x0 x1).bind fun r1 =>
   some r1
theorem run133 (N : Nat) (x0 : ByteArray) (x1 : Int) : Eng.run T133 (G133 N) N live133 c133 Tryz.f133.results.toList Tryz.f133.ntmps ((ad133).enc (x0, x1, ())) (rd133).dec = fn_strings_IndexByte N x0 x1 := by kernel_rfl
noncomputable def F133 (N : Nat) (a : ByteArray × Int × Unit) : Option (Int) := fn_strings_IndexByte N a.1 a.2.1
theorem ok133 (N : Nat) : FnOK Tryz.prog 133 ad133 rd133 (F133 N) :=
  fn_ok (N := N) (live := live133) (code := c133) (tok T133.rt T133.kl (wrNil_ok)) mixed (gok133 N) Tryz.func133 (by kernel_rfl) (by kernel_rfl) (by kernel_rfl) fun a p h => by rw [← h]; exact run133 N a.1 a.2.1

/-! ### unicode/utf8.ValidRune: function 134 -/
noncomputable def c134 : Code := (Tryz.f134.body).getD .skip
noncomputable def T134 : Tb := ⟨tyOf tys, [], [], wrNil⟩
noncomputable def G134 {R : Type} (N : Nat) : FuncId → List AV → (AV → Option R) → Option R := gNil
theorem gok134 {R : Type} (N : Nat) : GOK Tryz.prog (G134 (R := R) N) := gNil_ok
noncomputable def live134 : List (Nat × List (Nat × HK)) := []
noncomputable def ad134 : Ad (Int × Unit) := aC (cInt .i32) (a0)
noncomputable def rd134 : Rd (Bool) := r1 (cBool)
noncomputable def fn_utf8_ValidRune (N : Nat) (x0 : Int) : Option (Bool) :=
  cond (leI 0 x0)
   (cond (ltI x0 55296)
    (some true)
    (cond (ltI 57343 x0)
     (cond (leI x0 1114111)
      (some true)
      (some false))
     (some false)))
   (cond (ltI 57343 x0)
    (cond (leI x0 1114111)
     (some true)
     (some false))
    (some false))
theorem run134 (N : Nat) (x0 : Int) : Eng.run T134 (G134 N) N live134 c134 Tryz.f134.results.toList Tryz.f134.ntmps ((ad134).enc (x0, ())) (rd134).dec = fn_utf8_ValidRune N x0 := by kernel_rfl
noncomputable def F134 (N : Nat) (a : Int × Unit) : Option (Bool) := fn_utf8_ValidRune N a.1
theorem ok134 (N : Nat) : FnOK Tryz.prog 134 ad134 rd134 (F134 N) :=
  fn_ok (N := N) (live := live134) (code := c134) (tok T134.rt T134.kl (wrNil_ok)) mixed (gok134 N) Tryz.func134 (by kernel_rfl) (by kernel_rfl) (by kernel_rfl) fun a p h => by rw [← h]; exact run134 N a.1

/-! ### internal/bytealg.Cutover: function 135 -/
noncomputable def c135 : Code := (Tryz.f135.body).getD .skip
noncomputable def T135 : Tb := ⟨tyOf tys, [], [], wrNil⟩
noncomputable def G135 {R : Type} (N : Nat) : FuncId → List AV → (AV → Option R) → Option R := gNil
theorem gok135 {R : Type} (N : Nat) : GOK Tryz.prog (G135 (R := R) N) := gNil_ok
noncomputable def live135 : List (Nat × List (Nat × HK)) := []
noncomputable def ad135 : Ad (Int × Unit) := aC (cInt .i64) (a0)
noncomputable def rd135 : Rd (Int) := r1 (cInt .i64)
noncomputable def fn_bytealg_Cutover (N : Nat) (x0 : Int) : Option (Int) :=
  some (quoI .i64 (addI .i64 x0 16) 8)
theorem run135 (N : Nat) (x0 : Int) : Eng.run T135 (G135 N) N live135 c135 Tryz.f135.results.toList Tryz.f135.ntmps ((ad135).enc (x0, ())) (rd135).dec = fn_bytealg_Cutover N x0 := by kernel_rfl
noncomputable def F135 (N : Nat) (a : Int × Unit) : Option (Int) := fn_bytealg_Cutover N a.1
theorem ok135 (N : Nat) : FnOK Tryz.prog 135 ad135 rd135 (F135 N) :=
  fn_ok (N := N) (live := live135) (code := c135) (tok T135.rt T135.kl (wrNil_ok)) mixed (gok135 N) Tryz.func135 (by kernel_rfl) (by kernel_rfl) (by kernel_rfl) fun a p h => by rw [← h]; exact run135 N a.1

/-! ### strings.ContainsRune: function 91 -/
noncomputable def c91 : Code := (Tryz.f91.body).getD .skip
noncomputable def T91 : Tb := ⟨tyOf tys, [], [], wrNil⟩
noncomputable def G91 {R : Type} (N : Nat) : FuncId → List AV → (AV → Option R) → Option R := gNil
theorem gok91 {R : Type} (N : Nat) : GOK Tryz.prog (G91 (R := R) N) := gNil_ok
noncomputable def live91 : List (Nat × List (Nat × HK)) := []
noncomputable def ad91 : Ad (ByteArray × Int × Unit) := aC (cStr) (aC (cInt .i32) (a0))
noncomputable def rd91 : Rd (Bool) := r1 (cBool)
noncomputable def fn_strings_ContainsRune (N : Nat) (x0 : ByteArray) (x1 : Int) : Option (Bool) :=
  none
theorem run91 (N : Nat) (x0 : ByteArray) (x1 : Int) : Eng.run T91 (G91 N) N live91 c91 Tryz.f91.results.toList Tryz.f91.ntmps ((ad91).enc (x0, x1, ())) (rd91).dec = fn_strings_ContainsRune N x0 x1 := by kernel_rfl
noncomputable def F91 (N : Nat) (a : ByteArray × Int × Unit) : Option (Bool) := fn_strings_ContainsRune N a.1 a.2.1
theorem ok91 (N : Nat) : FnOK Tryz.prog 91 ad91 rd91 (F91 N) :=
  fn_ok (N := N) (live := live91) (code := c91) (tok T91.rt T91.kl (wrNil_ok)) mixed (gok91 N) Tryz.func91 (by kernel_rfl) (by kernel_rfl) (by kernel_rfl) fun a p h => by rw [← h]; exact run91 N a.1 a.2.1

/-! ### strings.trimRightUnicode: function 53 -/
noncomputable def c53 : Code := (Tryz.f53.body).getD .skip
noncomputable def T53 : Tb := ⟨tyOf tys, [], [], wrNil⟩
noncomputable def G53 {R : Type} (N : Nat) : FuncId → List AV → (AV → Option R) → Option R := gCons 90 (gOf ad90 rd90 (F90 N)) (gCons 91 (gOf ad91 rd91 (F91 N)) (gNil))
theorem gok53 {R : Type} (N : Nat) : GOK Tryz.prog (G53 (R := R) N) := gCons_ok (ok90 N) (gCons_ok (ok91 N) (gNil_ok))
noncomputable def live53 : List (Nat × List (Nat × HK)) := [(1, [(0, .keep), (1, .keep)])]
noncomputable def ad53 : Ad (ByteArray × ByteArray × Unit) := aC (cStr) (aC (cStr) (a0))
noncomputable def rd53 : Rd (ByteArray) := r1 (cStr)
noncomputable def st53_0 (v0 : ByteArray) (v1 : ByteArray) : St := ⟨[AV.v (.string v0), AV.v (.string v1), AV.none, AV.none, AV.none, AV.none, AV.none, AV.none, AV.none, AV.none, AV.none, AV.none, AV.none, AV.none, AV.none, AV.none, AV.none, AV.none, AV.none, AV.none, AV.none, AV.none, AV.none, AV.none, AV.none, AV.none, AV.none, AV.none, AV.none, AV.none, AV.none, AV.none, AV.none, AV.none], [none, none, none, none, none, none, none, none, none, none, none, none, none, none, none, none, none, none, none, none, none, none, none, none, none, none, none, none, none, none, none, none, none, none]⟩
noncomputable def raw53_0 (N : Nat) (n : Nat) (v0 : ByteArray) (v1 : ByteArray) : Option (ByteArray) := loopN (lookN live53 1) (exec T53 (G53 N) N live53 (cL (cL (cL (cR c53))))) n (st53_0 v0 v1) (blockK 0 (seqK (exec T53 (G53 N) N live53 (cR (cR c53))) (retK T53 Tryz.f53.results.toList (rd53).dec)))
noncomputable def s53_0 (N : Nat) (Ln0 : ByteArray → ByteArray → Option (ByteArray)) (v0 : ByteArray) (v1 : ByteArray) : Option (ByteArray) :=
  cond (ltI 0 (v0.size : Int))
   (cond (leI 0 (subI .i64 (v0.size : Int) 1))
    (cond (ltI (subI .i64 (v0.size : Int) 1) (v0.size : Int))
     (cond (leI 128 (cvI .i32 (sAt v0 (subI .i64 (v0.size : Int) 1))))
      ((fn_utf8_DecodeLastRuneInString N v0).bind fun r1 =>
       (fn_strings_ContainsRune N v1 r1.1).bind fun r2 =>
        cond (!(r2))
         (some v0)
         (cond (((leI 0 0) && (leI 0 (subI .i64 (v0.size : Int) r1.2))) && (leI (subI .i64 (v0.size : Int) r1.2) (v0.size : Int)))
          (Ln0 (v0.extract ((0 : Int).toNat) ((subI .i64 (v0.size : Int) r1.2).toNat)) v1)
          (none)))
      ((fn_strings_ContainsRune N v1 (cvI .i32 (sAt v0 (subI .i64 (v0.size : Int) 1)))).bind fun r3 =>
       cond (!(r3))
        (some v0)
        (cond (((leI 0 0) && (leI 0 (subI .i64 (v0.size : Int) 1))) && (leI (subI .i64 (v0.size : Int) 1) (v0.size : Int)))
         (Ln0 (v0.extract ((0 : Int).toNat) ((subI .i64 (v0.size : Int) 1).toNat)) v1)
         (none))))
     (none))
    (none))
   (some v0)
theorem step53_0 (N : Nat) (n : Nat) (v0 : ByteArray) (v1 : ByteArray) : raw53_0 N  (n + 1) v0 v1 = s53_0 N (raw53_0 N  n) v0 v1 := by kernel_rfl
noncomputable def l53_0 (N : Nat) : Nat → ByteArray → ByteArray → Option (ByteArray)
  | 0 => fun _ _ => none
  | n + 1 => fun v0 v1 => s53_0 N (l53_0 N  n) v0 v1
theorem eq53_0 (N : Nat) : ∀ n, raw53_0 N  n = l53_0 N  n := by
  intro n
  induction n with
  | zero => exact funext fun v0 => funext fun v1 => rfl
  | succ n ih => exact funext fun v0 => funext fun v1 => by rw [step53_0, ih]; rfl
noncomputable def t53 (N : Nat) (Le0 : ByteArray → ByteArray → Option (ByteArray)) (x0 : ByteArray) (x1 : ByteArray) : Option (ByteArray) :=
  Le0 x0 x1
noncomputable def fn_strings_trimRightUnicode (N : Nat) (x0 : ByteArray) (x1 : ByteArray) : Option (ByteArray) := t53 N (l53_0 N N) x0 x1
theorem run53 (N : Nat) (x0 : ByteArray) (x1 : ByteArray) : Eng.run T53 (G53 N) N live53 c53 Tryz.f53.results.toList Tryz.f53.ntmps ((ad53).enc (x0, x1, ())) (rd53).dec = fn_strings_trimRightUnicode N x0 x1 := by
  refine Eq.trans (show _ = t53 N (raw53_0 N N) x0 x1 from by kernel_rfl) ?_
  unfold fn_strings_trimRightUnicode
  rw [eq53_0 N N]
noncomputable def F53 (N : Nat) (a : ByteArray × ByteArray × Unit) : Option (ByteArray) := fn_strings_trimRightUnicode N a.1 a.2.1
theorem ok53 (N : Nat) : FnOK Tryz.prog 53 ad53 rd53 (F53 N) :=
  fn_ok (N := N) (live := live53) (code := c53) (tok T53.rt T53.kl (wrNil_ok)) mixed (gok53 N) Tryz.func53 (by kernel_rfl) (by kernel_rfl) (by kernel_rfl) fun a p h => by rw [← h]; exact run53 N a.1 a.2.1

/-! ### strings.TrimRight: function 20 -/
noncomputable def c20 : Code := (Tryz.f20.body).getD .skip
noncomputable def T20 : Tb := ⟨tyOf tys, [], [], wrNil⟩
noncomputable def G20 {R : Type} (N : Nat) : FuncId → List AV → (AV → Option R) → Option R := gCons 50 (gOf ad50 rd50 (F50 N)) (gNil)
theorem gok20 {R : Type} (N : Nat) : GOK Tryz.prog (G20 (R := R) N) := gCons_ok (ok50 N) (gNil_ok)
noncomputable def live20 : List (Nat × List (Nat × HK)) := []
noncomputable def ad20 : Ad (ByteArray × ByteArray × Unit) := aC (cStr) (aC (cStr) (a0))
noncomputable def rd20 : Rd (ByteArray) := r1 (cStr)
noncomputable def fn_strings_TrimRight (N : Nat) (x0 : ByteArray) (x1 : ByteArray) : Option (ByteArray) :=
  cond (eqS x0 (⟨#[]⟩ : ByteArray))
   (some x0)
   (cond (eqS x1 (⟨#[]⟩ : ByteArray))
    (some x0)
    (cond (eqI (x1.size : Int) 1)
     (cond (ltI 0 (x1.size : Int))
      (cond (ltI (sAt x1 0) 128)
       (cond (ltI 0 (x1.size : Int))
        ((fn_strings_trimRightByte N x0 (sAt x1 0)).bind fun r1 =>
         some r1)
        (none))
       (none))
      (none))
     (none)))
theorem run20 (N : Nat) (x0 : ByteArray) (x1 : ByteArray) : Eng.run T20 (G20 N) N live20 c20 Tryz.f20.results.toList Tryz.f20.ntmps ((ad20).enc (x0, x1, ())) (rd20).dec = fn_strings_TrimRight N x0 x1 := by kernel_rfl
noncomputable def F20 (N : Nat) (a : ByteArray × ByteArray × Unit) : Option (ByteArray) := fn_strings_TrimRight N a.1 a.2.1
theorem ok20 (N : Nat) : FnOK Tryz.prog 20 ad20 rd20 (F20 N) :=
  fn_ok (N := N) (live := live20) (code := c20) (tok T20.rt T20.kl (wrNil_ok)) mixed (gok20 N) Tryz.func20 (by kernel_rfl) (by kernel_rfl) (by kernel_rfl) fun a p h => by rw [← h]; exact run20 N a.1 a.2.1

/-! ### tiller/show.Hex: function 7 -/
noncomputable def c7 : Code := (Tryz.f7.body).getD .skip
noncomputable def T7 : Tb := ⟨tyOf tys, [(19, 5), (21, 5), (24, 5)], [], wrNil⟩
noncomputable def G7 {R : Type} (N : Nat) : FuncId → List AV → (AV → Option R) → Option R := gCons 14 (gOf ad14 rd14 (F14 N)) (gCons 15 (gOf ad15 rd15 (F15 N)) (gCons 21 (gOf ad21 rd21 (F21 N)) (gCons 20 (gOf ad20 rd20 (F20 N)) (gCons 22 (gOf (aC (cInt .i64) a0) (r1 cStr) (fun a => fn_itoa N a.1)) (gNil)))))
theorem gok7 {R : Type} (N : Nat) : GOK Tryz.prog (G7 (R := R) N) := gCons_ok (ok14 N) (gCons_ok (ok15 N) (gCons_ok (ok21 N) (gCons_ok (ok20 N) (gCons_ok (itoa_ok N) (gNil_ok)))))
noncomputable def live7 : List (Nat × List (Nat × HK)) := []
noncomputable def ad7 : Ad (Int × Unit) := aC (cInt .u64) (a0)
noncomputable def rd7 : Rd (ByteArray) := r1 (cStr)
noncomputable def fn_show_Hex (N : Nat) (x0 : Int) : Option (ByteArray) :=
  (fn_show_special N x0).bind fun r1 =>
   cond r1.2
    (some r1.1)
    ((fn_pat_Take N x0).bind fun r2 =>
     cond r2.1
      (cond (eqI r2.2.1 0)
       (some ((⟨#[45, 48, 120]⟩ : ByteArray) ++ (⟨#[48, 112, 48]⟩ : ByteArray)))
       (cond (eqI r2.2.1 1)
        ((fn_pat_Hex N x0).bind fun r3 =>
         cond (((leI 0 3) && (leI 3 (r3.size : Int))) && (leI (r3.size : Int) (r3.size : Int)))
          ((fn_strings_TrimRight N (r3.extract ((3 : Int).toNat) ((r3.size : Int).toNat)) (⟨#[48]⟩ : ByteArray)).bind fun r4 =>
           cond (!(eqS r4 (⟨#[]⟩ : ByteArray)))
            (cond (fitS ((⟨#[46]⟩ : ByteArray).size + r4.size))
             (cond (fitS (((⟨#[45, 48, 120]⟩ : ByteArray) ++ (⟨#[48]⟩ : ByteArray)).size + ((⟨#[46]⟩ : ByteArray) ++ r4).size))
              (cond (fitS ((((⟨#[45, 48, 120]⟩ : ByteArray) ++ (⟨#[48]⟩ : ByteArray)) ++ ((⟨#[46]⟩ : ByteArray) ++ r4)).size + (⟨#[112]⟩ : ByteArray).size))
               ((fn_itoa N (-1022)).bind fun r5 =>
                cond (fitS (((((⟨#[45, 48, 120]⟩ : ByteArray) ++ (⟨#[48]⟩ : ByteArray)) ++ ((⟨#[46]⟩ : ByteArray) ++ r4)) ++ (⟨#[112]⟩ : ByteArray)).size + r5.size))
                 (some (((((⟨#[45, 48, 120]⟩ : ByteArray) ++ (⟨#[48]⟩ : ByteArray)) ++ ((⟨#[46]⟩ : ByteArray) ++ r4)) ++ (⟨#[112]⟩ : ByteArray)) ++ r5))
                 (none))
               (none))
              (none))
             (none))
            (cond (fitS (((⟨#[45, 48, 120]⟩ : ByteArray) ++ (⟨#[48]⟩ : ByteArray)).size + r4.size))
             (cond (fitS ((((⟨#[45, 48, 120]⟩ : ByteArray) ++ (⟨#[48]⟩ : ByteArray)) ++ r4).size + (⟨#[112]⟩ : ByteArray).size))
              ((fn_itoa N (-1022)).bind fun r6 =>
               cond (fitS (((((⟨#[45, 48, 120]⟩ : ByteArray) ++ (⟨#[48]⟩ : ByteArray)) ++ r4) ++ (⟨#[112]⟩ : ByteArray)).size + r6.size))
                (some (((((⟨#[45, 48, 120]⟩ : ByteArray) ++ (⟨#[48]⟩ : ByteArray)) ++ r4) ++ (⟨#[112]⟩ : ByteArray)) ++ r6))
                (none))
              (none))
             (none)))
          (none))
        ((fn_pat_Hex N x0).bind fun r7 =>
         cond (((leI 0 3) && (leI 3 (r7.size : Int))) && (leI (r7.size : Int) (r7.size : Int)))
          ((fn_strings_TrimRight N (r7.extract ((3 : Int).toNat) ((r7.size : Int).toNat)) (⟨#[48]⟩ : ByteArray)).bind fun r8 =>
           cond (!(eqS r8 (⟨#[]⟩ : ByteArray)))
            (cond (fitS ((⟨#[46]⟩ : ByteArray).size + r8.size))
             (cond (fitS (((⟨#[45, 48, 120]⟩ : ByteArray) ++ (⟨#[49]⟩ : ByteArray)).size + ((⟨#[46]⟩ : ByteArray) ++ r8).size))
              (cond (fitS ((((⟨#[45, 48, 120]⟩ : ByteArray) ++ (⟨#[49]⟩ : ByteArray)) ++ ((⟨#[46]⟩ : ByteArray) ++ r8)).size + (⟨#[112]⟩ : ByteArray).size))
               ((fn_itoa N (addI .i64 r2.2.2.1 52)).bind fun r9 =>
                cond (fitS (((((⟨#[45, 48, 120]⟩ : ByteArray) ++ (⟨#[49]⟩ : ByteArray)) ++ ((⟨#[46]⟩ : ByteArray) ++ r8)) ++ (⟨#[112]⟩ : ByteArray)).size + r9.size))
                 (some (((((⟨#[45, 48, 120]⟩ : ByteArray) ++ (⟨#[49]⟩ : ByteArray)) ++ ((⟨#[46]⟩ : ByteArray) ++ r8)) ++ (⟨#[112]⟩ : ByteArray)) ++ r9))
                 (none))
               (none))
              (none))
             (none))
            (cond (fitS (((⟨#[45, 48, 120]⟩ : ByteArray) ++ (⟨#[49]⟩ : ByteArray)).size + r8.size))
             (cond (fitS ((((⟨#[45, 48, 120]⟩ : ByteArray) ++ (⟨#[49]⟩ : ByteArray)) ++ r8).size + (⟨#[112]⟩ : ByteArray).size))
              ((fn_itoa N (addI .i64 r2.2.2.1 52)).bind fun r10 =>
               cond (fitS (((((⟨#[45, 48, 120]⟩ : ByteArray) ++ (⟨#[49]⟩ : ByteArray)) ++ r8) ++ (⟨#[112]⟩ : ByteArray)).size + r10.size))
                (some (((((⟨#[45, 48, 120]⟩ : ByteArray) ++ (⟨#[49]⟩ : ByteArray)) ++ r8) ++ (⟨#[112]⟩ : ByteArray)) ++ r10))
                (none))
              (none))
             (none)))
          (none))))
      (cond (eqI r2.2.1 0)
       (some ((⟨#[48, 120]⟩ : ByteArray) ++ (⟨#[48, 112, 48]⟩ : ByteArray)))
       (cond (eqI r2.2.1 1)
        ((fn_pat_Hex N x0).bind fun r11 =>
         cond (((leI 0 3) && (leI 3 (r11.size : Int))) && (leI (r11.size : Int) (r11.size : Int)))
          ((fn_strings_TrimRight N (r11.extract ((3 : Int).toNat) ((r11.size : Int).toNat)) (⟨#[48]⟩ : ByteArray)).bind fun r12 =>
           cond (!(eqS r12 (⟨#[]⟩ : ByteArray)))
            (cond (fitS ((⟨#[46]⟩ : ByteArray).size + r12.size))
             (cond (fitS (((⟨#[48, 120]⟩ : ByteArray) ++ (⟨#[48]⟩ : ByteArray)).size + ((⟨#[46]⟩ : ByteArray) ++ r12).size))
              (cond (fitS ((((⟨#[48, 120]⟩ : ByteArray) ++ (⟨#[48]⟩ : ByteArray)) ++ ((⟨#[46]⟩ : ByteArray) ++ r12)).size + (⟨#[112]⟩ : ByteArray).size))
               ((fn_itoa N (-1022)).bind fun r13 =>
                cond (fitS (((((⟨#[48, 120]⟩ : ByteArray) ++ (⟨#[48]⟩ : ByteArray)) ++ ((⟨#[46]⟩ : ByteArray) ++ r12)) ++ (⟨#[112]⟩ : ByteArray)).size + r13.size))
                 (some (((((⟨#[48, 120]⟩ : ByteArray) ++ (⟨#[48]⟩ : ByteArray)) ++ ((⟨#[46]⟩ : ByteArray) ++ r12)) ++ (⟨#[112]⟩ : ByteArray)) ++ r13))
                 (none))
               (none))
              (none))
             (none))
            (cond (fitS (((⟨#[48, 120]⟩ : ByteArray) ++ (⟨#[48]⟩ : ByteArray)).size + r12.size))
             (cond (fitS ((((⟨#[48, 120]⟩ : ByteArray) ++ (⟨#[48]⟩ : ByteArray)) ++ r12).size + (⟨#[112]⟩ : ByteArray).size))
              ((fn_itoa N (-1022)).bind fun r14 =>
               cond (fitS (((((⟨#[48, 120]⟩ : ByteArray) ++ (⟨#[48]⟩ : ByteArray)) ++ r12) ++ (⟨#[112]⟩ : ByteArray)).size + r14.size))
                (some (((((⟨#[48, 120]⟩ : ByteArray) ++ (⟨#[48]⟩ : ByteArray)) ++ r12) ++ (⟨#[112]⟩ : ByteArray)) ++ r14))
                (none))
              (none))
             (none)))
          (none))
        ((fn_pat_Hex N x0).bind fun r15 =>
         cond (((leI 0 3) && (leI 3 (r15.size : Int))) && (leI (r15.size : Int) (r15.size : Int)))
          ((fn_strings_TrimRight N (r15.extract ((3 : Int).toNat) ((r15.size : Int).toNat)) (⟨#[48]⟩ : ByteArray)).bind fun r16 =>
           cond (!(eqS r16 (⟨#[]⟩ : ByteArray)))
            (cond (fitS ((⟨#[46]⟩ : ByteArray).size + r16.size))
             (cond (fitS (((⟨#[48, 120]⟩ : ByteArray) ++ (⟨#[49]⟩ : ByteArray)).size + ((⟨#[46]⟩ : ByteArray) ++ r16).size))
              (cond (fitS ((((⟨#[48, 120]⟩ : ByteArray) ++ (⟨#[49]⟩ : ByteArray)) ++ ((⟨#[46]⟩ : ByteArray) ++ r16)).size + (⟨#[112]⟩ : ByteArray).size))
               ((fn_itoa N (addI .i64 r2.2.2.1 52)).bind fun r17 =>
                cond (fitS (((((⟨#[48, 120]⟩ : ByteArray) ++ (⟨#[49]⟩ : ByteArray)) ++ ((⟨#[46]⟩ : ByteArray) ++ r16)) ++ (⟨#[112]⟩ : ByteArray)).size + r17.size))
                 (some (((((⟨#[48, 120]⟩ : ByteArray) ++ (⟨#[49]⟩ : ByteArray)) ++ ((⟨#[46]⟩ : ByteArray) ++ r16)) ++ (⟨#[112]⟩ : ByteArray)) ++ r17))
                 (none))
               (none))
              (none))
             (none))
            (cond (fitS (((⟨#[48, 120]⟩ : ByteArray) ++ (⟨#[49]⟩ : ByteArray)).size + r16.size))
             (cond (fitS ((((⟨#[48, 120]⟩ : ByteArray) ++ (⟨#[49]⟩ : ByteArray)) ++ r16).size + (⟨#[112]⟩ : ByteArray).size))
              ((fn_itoa N (addI .i64 r2.2.2.1 52)).bind fun r18 =>
               cond (fitS (((((⟨#[48, 120]⟩ : ByteArray) ++ (⟨#[49]⟩ : ByteArray)) ++ r16) ++ (⟨#[112]⟩ : ByteArray)).size + r18.size))
                (some (((((⟨#[48, 120]⟩ : ByteArray) ++ (⟨#[49]⟩ : ByteArray)) ++ r16) ++ (⟨#[112]⟩ : ByteArray)) ++ r18))
                (none))
              (none))
             (none)))
          (none)))))
theorem run7 (N : Nat) (x0 : Int) : Eng.run T7 (G7 N) N live7 c7 Tryz.f7.results.toList Tryz.f7.ntmps ((ad7).enc (x0, ())) (rd7).dec = fn_show_Hex N x0 := by kernel_rfl
noncomputable def F7 (N : Nat) (a : Int × Unit) : Option (ByteArray) := fn_show_Hex N a.1
theorem ok7 (N : Nat) : FnOK Tryz.prog 7 ad7 rd7 (F7 N) :=
  fn_ok (N := N) (live := live7) (code := c7) (tok T7.rt T7.kl (wrNil_ok)) mixed (gok7 N) Tryz.func7 (by kernel_rfl) (by kernel_rfl) (by kernel_rfl) fun a p h => by rw [← h]; exact run7 N a.1
end Go.Proofs.YtcdhcihjcjpmkaaGreatDoor.Fns

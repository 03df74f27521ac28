/- The program's types, as the engine wants them. No statement is proved here. Laid by eng.py. -/
import Derived.Test.YtcdhcihjcjpmkaaGreatDoorEng12
import Derived.Test.YtcdhcihjcjpmkaaGreatDoorProg
import Derived.Test.YtcdhcihjcjpmkaaGreatDoorTz
import Derived.Test.YtcdhcihjcjpmkaaGreatDoorSlc
namespace Go.Proofs.YtcdhcihjcjpmkaaGreatDoor.Fds
open Go Go.RowKit Go.Proofs Go.Proofs.YtcdhcihjcjpmkaaGreatDoor.Eng Go.Proofs.YtcdhcihjcjpmkaaGreatDoor.Num Go.Proofs.YtcdhcihjcjpmkaaGreatDoor.Slc
set_option linter.unusedVariables false
set_option maxRecDepth 100000
theorem mixed : Tryz.prog.follows .mixedOrders = true := by kernel_rfl
theorem ty3 : tdP Tryz.prog 3 (.int .i64) := ⟨by kernel_rfl, szP_mk (by kernel_rfl)⟩
theorem ty5 : tdP Tryz.prog 5 (.int .u8) := ⟨by kernel_rfl, szP_mk (by kernel_rfl)⟩
theorem ty9 : tdP Tryz.prog 9 (.str) := ⟨by kernel_rfl, szP_mk (by kernel_rfl)⟩
def tys : List (Nat × TD) := [(3, .int .i64), (5, .int .u8), (9, .str)]
theorem tok (rt : List (Nat × Nat)) (kl : List Nat) {wr : Nat → Option (∀ R : Type, TypeId → List AV → (List Int → AV → Option R) → Option R)} (hw : WrsOK Tryz.prog wr) : TOK Tryz.prog ⟨tyOf tys, rt, kl, wr⟩ := tyOf_ok (fun p hp => by
  simp only [tys, List.mem_cons, List.not_mem_nil, or_false] at hp
  rcases hp with rfl | rfl | rfl
  · exact ty3
  · exact ty5
  · exact ty9) rt kl hw
open Go Go.RowKit Go.Proofs Go.Proofs.YtcdhcihjcjpmkaaGreatDoor.Eng Go.Proofs.YtcdhcihjcjpmkaaGreatDoor.Num Go.Proofs.YtcdhcihjcjpmkaaGreatDoor.Slc
set_option linter.unusedVariables false
set_option maxRecDepth 100000
/-! ### tiller/read.digit: function 71 -/
noncomputable def c71 : Code := (Tryz.f71.body).getD .skip
noncomputable def T71 : Tb := ⟨tyOf tys, [], [], wrNil⟩
noncomputable def G71 {R : Type} (N : Nat) : FuncId → List AV → (AV → Option R) → Option R := gNil
theorem gok71 {R : Type} (N : Nat) : GOK Tryz.prog (G71 (R := R) N) := gNil_ok
noncomputable def live71 : List (Nat × List (Nat × HK)) := []
noncomputable def ad71 : Ad (Int × Int × Unit) := aC (cInt .u8) (aC (cInt .i64) (a0))
noncomputable def rd71 : Rd (Int × Bool) := r2 (cInt .u8) (cBool)
noncomputable def fn_read_digit (N : Nat) (x0 : Int) (x1 : Int) : Option (Int × Bool) :=
  cond (leI 48 x0)
   (cond (leI x0 57)
    (some (subI .u8 x0 48, true))
    (cond (eqI x1 16)
     (cond (leI 97 x0)
      (cond (leI x0 102)
       (some (addI .u8 (subI .u8 x0 97) 10, true))
       (some (0, false)))
      (some (0, false)))
     (some (0, false))))
   (cond (eqI x1 16)
    (cond (leI 97 x0)
     (cond (leI x0 102)
      (some (addI .u8 (subI .u8 x0 97) 10, true))
      (some (0, false)))
     (some (0, false)))
    (some (0, false)))
theorem run71 (N : Nat) (x0 : Int) (x1 : Int) : Eng.run T71 (G71 N) N live71 c71 Tryz.f71.results.toList Tryz.f71.ntmps ((ad71).enc (x0, x1, ())) (rd71).dec = fn_read_digit N x0 x1 := by kernel_rfl
noncomputable def F71 (N : Nat) (a : Int × Int × Unit) : Option (Int × Bool) := fn_read_digit N a.1 a.2.1
theorem ok71 (N : Nat) : FnOK Tryz.prog 71 ad71 rd71 (F71 N) :=
  fn_ok (N := N) (live := live71) (code := c71) (tok T71.rt T71.kl (wrNil_ok)) mixed (gok71 N) Tryz.func71 (by kernel_rfl) (by kernel_rfl) (by kernel_rfl) fun a p h => by rw [← h]; exact run71 N a.1 a.2.1

/-! ### internal/stringslite.HasPrefix: function 29 -/
noncomputable def c29 : Code := (Tryz.f29.body).getD .skip
noncomputable def T29 : Tb := ⟨tyOf tys, [], [], wrNil⟩
noncomputable def G29 {R : Type} (N : Nat) : FuncId → List AV → (AV → Option R) → Option R := gNil
theorem gok29 {R : Type} (N : Nat) : GOK Tryz.prog (G29 (R := R) N) := gNil_ok
noncomputable def live29 : List (Nat × List (Nat × HK)) := []
noncomputable def ad29 : Ad (ByteArray × ByteArray × Unit) := aC (cStr) (aC (cStr) (a0))
noncomputable def rd29 : Rd (Bool) := r1 (cBool)
noncomputable def fn_stringslite_HasPrefix (N : Nat) (x0 : ByteArray) (x1 : ByteArray) : Option (Bool) :=
  cond (leI (x1.size : Int) (x0.size : Int))
   (cond (((leI 0 0) && (leI 0 (x1.size : Int))) && (leI (x1.size : Int) (x0.size : Int)))
    (some (eqS (x0.extract ((0 : Int).toNat) ((x1.size : Int).toNat)) x1))
    (none))
   (some false)
theorem run29 (N : Nat) (x0 : ByteArray) (x1 : ByteArray) : Eng.run T29 (G29 N) N live29 c29 Tryz.f29.results.toList Tryz.f29.ntmps ((ad29).enc (x0, x1, ())) (rd29).dec = fn_stringslite_HasPrefix N x0 x1 := by kernel_rfl
noncomputable def F29 (N : Nat) (a : ByteArray × ByteArray × Unit) : Option (Bool) := fn_stringslite_HasPrefix N a.1 a.2.1
theorem ok29 (N : Nat) : FnOK Tryz.prog 29 ad29 rd29 (F29 N) :=
  fn_ok (N := N) (live := live29) (code := c29) (tok T29.rt T29.kl (wrNil_ok)) mixed (gok29 N) Tryz.func29 (by kernel_rfl) (by kernel_rfl) (by kernel_rfl) fun a p h => by rw [← h]; exact run29 N a.1 a.2.1

/-! ### strings.HasPrefix: function 9 -/
noncomputable def c9 : Code := (Tryz.f9.body).getD .skip
noncomputable def T9 : Tb := ⟨tyOf tys, [], [], wrNil⟩
noncomputable def G9 {R : Type} (N : Nat) : FuncId → List AV → (AV → Option R) → Option R := gCons 29 (gOf ad29 rd29 (F29 N)) (gNil)
theorem gok9 {R : Type} (N : Nat) : GOK Tryz.prog (G9 (R := R) N) := gCons_ok (ok29 N) (gNil_ok)
noncomputable def live9 : List (Nat × List (Nat × HK)) := []
noncomputable def ad9 : Ad (ByteArray × ByteArray × Unit) := aC (cStr) (aC (cStr) (a0))
noncomputable def rd9 : Rd (Bool) := r1 (cBool)
noncomputable def fn_strings_HasPrefix (N : Nat) (x0 : ByteArray) (x1 : ByteArray) : Option (Bool) :=
  (fn_stringslite_HasPrefix N x0 x1).bind fun r1 =>
   some r1
theorem run9 (N : Nat) (x0 : ByteArray) (x1 : ByteArray) : Eng.run T9 (G9 N) N live9 c9 Tryz.f9.results.toList Tryz.f9.ntmps ((ad9).enc (x0, x1, ())) (rd9).dec = fn_strings_HasPrefix N x0 x1 := by kernel_rfl
noncomputable def F9 (N : Nat) (a : ByteArray × ByteArray × Unit) : Option (Bool) := fn_strings_HasPrefix N a.1 a.2.1
theorem ok9 (N : Nat) : FnOK Tryz.prog 9 ad9 rd9 (F9 N) :=
  fn_ok (N := N) (live := live9) (code := c9) (tok T9.rt T9.kl (wrNil_ok)) mixed (gok9 N) Tryz.func9 (by kernel_rfl) (by kernel_rfl) (by kernel_rfl) fun a p h => by rw [← h]; exact run9 N a.1 a.2.1

/-! ### tiller/read.whole: function 32 -/
noncomputable def c32 : Code := (Tryz.f32.body).getD .skip
noncomputable def T32 : Tb := ⟨tyOf tys, [], [], wrNil⟩
noncomputable def G32 {R : Type} (N : Nat) : FuncId → List AV → (AV → Option R) → Option R := gCons 9 (gOf ad9 rd9 (F9 N)) (gCons 71 (gOf ad71 rd71 (F71 N)) (gNil))
theorem gok32 {R : Type} (N : Nat) : GOK Tryz.prog (G32 (R := R) N) := gCons_ok (ok9 N) (gCons_ok (ok71 N) (gNil_ok))
noncomputable def live32 : List (Nat × List (Nat × HK)) := [(5, [(0, .keep), (5, .keep), (6, .keep), (7, .keep)])]
noncomputable def ad32 : Ad (ByteArray × Unit) := aC (cStr) (a0)
noncomputable def rd32 : Rd (Int × ByteArray × Bool) := r3 (cInt .i64) (cStr) (cBool)
noncomputable def st32_0 (v0 : ByteArray) (v1 : Bool) (v2 : Int) (v3 : Int) : St := ⟨[AV.v (.string v0), AV.none, AV.none, AV.none, AV.none, AV.v (.bool v1), AV.v (.int .i64 v2), AV.v (.int .i64 v3), AV.none, AV.none, AV.none, AV.none, AV.none, AV.none, AV.none, AV.none, AV.none, AV.none, AV.none, AV.none, AV.none, AV.none, AV.none, AV.none, AV.none, AV.none, AV.none, AV.none, AV.none, AV.none, AV.none, AV.none, AV.none, AV.none, AV.none, AV.none, AV.none, AV.none, AV.none, AV.none, AV.none, AV.none, AV.none, AV.none, AV.none, AV.none, AV.none, AV.none, AV.none], [none, none, none, none, none, none, none, none, none, none, none, none, none, none, none, none, none, none, none, none, none, none, none, none, none, none, none, none, none, none, none, none, none, none, none, none, none, none, none, none, none, none, none, none, none, none, none, none, none]⟩
noncomputable def raw32_0 (N : Nat) (n : Nat) (v0 : ByteArray) (v1 : Bool) (v2 : Int) (v3 : Int) : Option (Int × ByteArray × Bool) := loopN (lookN live32 5) (exec T32 (G32 N) N live32 (cL (cL (cL (cR (cR (cR (cR c32)))))))) n (st32_0 v0 v1 v2 v3) (blockK 0 (seqK (exec T32 (G32 N) N live32 (cR (cR (cR (cR (cR c32)))))) (retK T32 Tryz.f32.results.toList (rd32).dec)))
noncomputable def s32_0 (N : Nat) (Ln0 : ByteArray → Bool → Int → Int → Option (Int × ByteArray × Bool)) (v0 : ByteArray) (v1 : Bool) (v2 : Int) (v3 : Int) : Option (Int × ByteArray × Bool) :=
  cond (ltI v3 (v0.size : Int))
   (cond (leI 0 v3)
    (cond (ltI v3 (v0.size : Int))
     ((fn_read_digit N (sAt v0 v3) 10).bind fun r2 =>
      cond (!(r2.2))
       (cond v1
        (cond (((leI 0 v3) && (leI v3 (v0.size : Int))) && (leI (v0.size : Int) (v0.size : Int)))
         (some (subI .i64 0 v2, v0.extract v3.toNat ((v0.size : Int).toNat), ltI 0 v3))
         (none))
        (cond (((leI 0 v3) && (leI v3 (v0.size : Int))) && (leI (v0.size : Int) (v0.size : Int)))
         (some (v2, v0.extract v3.toNat ((v0.size : Int).toNat), ltI 0 v3))
         (none)))
       (Ln0 v0 v1 (minI (addI .i64 (mulI .i64 10 v2) (cvI .i64 r2.1)) 1000000) (addI .i64 v3 1)))
     (none))
    (none))
   (cond v1
    (cond (((leI 0 v3) && (leI v3 (v0.size : Int))) && (leI (v0.size : Int) (v0.size : Int)))
     (some (subI .i64 0 v2, v0.extract v3.toNat ((v0.size : Int).toNat), ltI 0 v3))
     (none))
    (cond (((leI 0 v3) && (leI v3 (v0.size : Int))) && (leI (v0.size : Int) (v0.size : Int)))
     (some (v2, v0.extract v3.toNat ((v0.size : Int).toNat), ltI 0 v3))
     (none)))
theorem step32_0 (N : Nat) (n : Nat) (v0 : ByteArray) (v1 : Bool) (v2 : Int) (v3 : Int) : raw32_0 N  (n + 1) v0 v1 v2 v3 = s32_0 N (raw32_0 N  n) v0 v1 v2 v3 := by kernel_rfl
noncomputable def l32_0 (N : Nat) : Nat → ByteArray → Bool → Int → Int → Option (Int × ByteArray × Bool)
  | 0 => fun _ _ _ _ => none
  | n + 1 => fun v0 v1 v2 v3 => s32_0 N (l32_0 N  n) v0 v1 v2 v3
theorem eq32_0 (N : Nat) : ∀ n, raw32_0 N  n = l32_0 N  n := by
  intro n
  induction n with
  | zero => exact funext fun v0 => funext fun v1 => funext fun v2 => funext fun v3 => rfl
  | succ n ih => exact funext fun v0 => funext fun v1 => funext fun v2 => funext fun v3 => by rw [step32_0, ih]; rfl
noncomputable def t32 (N : Nat) (Le0 : ByteArray → Bool → Int → Int → Option (Int × ByteArray × Bool)) (x0 : ByteArray) : Option (Int × ByteArray × Bool) :=
  (fn_strings_HasPrefix N x0 (⟨#[45]⟩ : ByteArray)).bind fun r1 =>
   cond r1
    (cond (((leI 0 1) && (leI 1 (x0.size : Int))) && (leI (x0.size : Int) (x0.size : Int)))
     (Le0 (x0.extract ((1 : Int).toNat) ((x0.size : Int).toNat)) r1 0 0)
     (none))
    ((fn_strings_HasPrefix N x0 (⟨#[43]⟩ : ByteArray)).bind fun r3 =>
     cond r3
      (cond (((leI 0 1) && (leI 1 (x0.size : Int))) && (leI (x0.size : Int) (x0.size : Int)))
       (Le0 (x0.extract ((1 : Int).toNat) ((x0.size : Int).toNat)) r1 0 0)
       (none))
      (Le0 x0 r1 0 0))
noncomputable def fn_read_whole (N : Nat) (x0 : ByteArray) : Option (Int × ByteArray × Bool) := t32 N (l32_0 N N) x0
theorem run32 (N : Nat) (x0 : ByteArray) : Eng.run T32 (G32 N) N live32 c32 Tryz.f32.results.toList Tryz.f32.ntmps ((ad32).enc (x0, ())) (rd32).dec = fn_read_whole N x0 := by
  refine Eq.trans (show _ = t32 N (raw32_0 N N) x0 from by kernel_rfl) ?_
  unfold fn_read_whole
  rw [eq32_0 N N]
noncomputable def F32 (N : Nat) (a : ByteArray × Unit) : Option (Int × ByteArray × Bool) := fn_read_whole N a.1
theorem ok32 (N : Nat) : FnOK Tryz.prog 32 ad32 rd32 (F32 N) :=
  fn_ok (N := N) (live := live32) (code := c32) (tok T32.rt T32.kl (wrNil_ok)) mixed (gok32 N) Tryz.func32 (by kernel_rfl) (by kernel_rfl) (by kernel_rfl) fun a p h => by rw [← h]; exact run32 N a.1

/-! ### internal/stringslite.CutPrefix: function 30 -/
noncomputable def c30 : Code := (Tryz.f30.body).getD .skip
noncomputable def T30 : Tb := ⟨tyOf tys, [], [], wrNil⟩
noncomputable def G30 {R : Type} (N : Nat) : FuncId → List AV → (AV → Option R) → Option R := gCons 29 (gOf ad29 rd29 (F29 N)) (gNil)
theorem gok30 {R : Type} (N : Nat) : GOK Tryz.prog (G30 (R := R) N) := gCons_ok (ok29 N) (gNil_ok)
noncomputable def live30 : List (Nat × List (Nat × HK)) := []
noncomputable def ad30 : Ad (ByteArray × ByteArray × Unit) := aC (cStr) (aC (cStr) (a0))
noncomputable def rd30 : Rd (ByteArray × Bool) := r2 (cStr) (cBool)
noncomputable def fn_stringslite_CutPrefix (N : Nat) (x0 : ByteArray) (x1 : ByteArray) : Option (ByteArray × Bool) :=
  (fn_stringslite_HasPrefix N x0 x1).bind fun r1 =>
   cond (!(r1))
    (some (x0, false))
    (cond (((leI 0 (x1.size : Int)) && (leI (x1.size : Int) (x0.size : Int))) && (leI (x0.size : Int) (x0.size : Int)))
     (some (x0.extract ((x1.size : Int).toNat) ((x0.size : Int).toNat), true))
     (none))
theorem run30 (N : Nat) (x0 : ByteArray) (x1 : ByteArray) : Eng.run T30 (G30 N) N live30 c30 Tryz.f30.results.toList Tryz.f30.ntmps ((ad30).enc (x0, x1, ())) (rd30).dec = fn_stringslite_CutPrefix N x0 x1 := by kernel_rfl
noncomputable def F30 (N : Nat) (a : ByteArray × ByteArray × Unit) : Option (ByteArray × Bool) := fn_stringslite_CutPrefix N a.1 a.2.1
theorem ok30 (N : Nat) : FnOK Tryz.prog 30 ad30 rd30 (F30 N) :=
  fn_ok (N := N) (live := live30) (code := c30) (tok T30.rt T30.kl (wrNil_ok)) mixed (gok30 N) Tryz.func30 (by kernel_rfl) (by kernel_rfl) (by kernel_rfl) fun a p h => by rw [← h]; exact run30 N a.1 a.2.1

/-! ### strings.CutPrefix: function 11 -/
noncomputable def c11 : Code := (Tryz.f11.body).getD .skip
noncomputable def T11 : Tb := ⟨tyOf tys, [], [], wrNil⟩
noncomputable def G11 {R : Type} (N : Nat) : FuncId → List AV → (AV → Option R) → Option R := gCons 30 (gOf ad30 rd30 (F30 N)) (gNil)
theorem gok11 {R : Type} (N : Nat) : GOK Tryz.prog (G11 (R := R) N) := gCons_ok (ok30 N) (gNil_ok)
noncomputable def live11 : List (Nat × List (Nat × HK)) := []
noncomputable def ad11 : Ad (ByteArray × ByteArray × Unit) := aC (cStr) (aC (cStr) (a0))
noncomputable def rd11 : Rd (ByteArray × Bool) := r2 (cStr) (cBool)
noncomputable def fn_strings_CutPrefix (N : Nat) (x0 : ByteArray) (x1 : ByteArray) : Option (ByteArray × Bool) :=
  (fn_stringslite_CutPrefix N x0 x1).bind fun r1 =>
   some (r1.1, r1.2)
theorem run11 (N : Nat) (x0 : ByteArray) (x1 : ByteArray) : Eng.run T11 (G11 N) N live11 c11 Tryz.f11.results.toList Tryz.f11.ntmps ((ad11).enc (x0, x1, ())) (rd11).dec = fn_strings_CutPrefix N x0 x1 := by kernel_rfl
noncomputable def F11 (N : Nat) (a : ByteArray × ByteArray × Unit) : Option (ByteArray × Bool) := fn_strings_CutPrefix N a.1 a.2.1
theorem ok11 (N : Nat) : FnOK Tryz.prog 11 ad11 rd11 (F11 N) :=
  fn_ok (N := N) (live := live11) (code := c11) (tok T11.rt T11.kl (wrNil_ok)) mixed (gok11 N) Tryz.func11 (by kernel_rfl) (by kernel_rfl) (by kernel_rfl) fun a p h => by rw [← h]; exact run11 N a.1 a.2.1
end Go.Proofs.YtcdhcihjcjpmkaaGreatDoor.Fds

/- math/bits.TrailingZeros64 at the argument 16, by its walk (strconv asks no other one here): it reads one cell of a table. No statement is proved here. -/
import Derived.Test.YtcdhcihjcjpmkaaGreatDoorEng12
import Derived.Test.YtcdhcihjcjpmkaaGreatDoorProg
import Derived.WalkKit
import Derived.RowKitTokens
namespace Go.Proofs.YtcdhcihjcjpmkaaGreatDoor.Num
open Go Go.RowKit Go.Proofs Go.Proofs.YtcdhcihjcjpmkaaGreatDoor.Eng
set_option linter.unusedVariables false
set_option maxRecDepth 20000
theorem tz_walk (w : World) (hg : w.cell? ⟨5, 15, none⟩ = some (.int .u8 4)) :
    Calls Tryz.prog 144 #[.int .u64 16] w fun e w' => e = .returned (.int .i64 4) ∧ w' = w := by
  have hz : IntKind.u64.wrap (bits BinOp.and IntKind.u64 16 (IntKind.u64.wrap (-16)) * 285870213051353865) / 288230376151711744 = 15 := by decide +kernel
  go_enter Tryz.func144, Tryz.ntmps144
  go_wp2
  go_ret
  exact ⟨rfl, rfl⟩
def fn_tz (N : Nat) (x : Int) : Option Int := cond (eqI x 16) (some 4) none
theorem tz_ok (N : Nat) : FnOK Tryz.prog 144 (aC (cInt .u64) a0) (r1 (cInt .i64)) (fun a => fn_tz N a.1) := by
  intro a p hap vals w L hL hGV hargs o act next Q hnext
  obtain ⟨e, _⟩ := a
  obtain ⟨h16, hap⟩ := cond_some (show cond (eqI e 16) (some (4 : Int)) none = some p from hap)
  injection hap with hap
  subst hap
  have h16 : e = 16 := by simpa [eqI] using h16
  subst h16
  have hg : w.cell? ⟨5, 15, none⟩ = some (.int .u8 4) := hGV.1 (_, _) (by unfold gvals; simp)
  rcases vals with _ | ⟨v, _ | ⟨v2, vs⟩⟩
  · exact hargs.elim
  rotate_left
  · exact hargs.2.elim
  have hv : v = .int .u64 16 := hargs.1
  subst hv
  have hcf : (callFunc 144 #[.int .u64 16]).run Tryz.prog w = .ok (.enter 144 #[.int .u64 16]) w := by
    have hn : ¬ Tryz.f144.name = "runtime.NumGoroutine" := by
      have : (Tryz.f144.name == "runtime.NumGoroutine") = false := by kernel_rfl
      simpa using this
    obtain ⟨code, hb⟩ : ∃ code, Tryz.f144.body = some code := ⟨_, rfl⟩
    simp [callFunc, Tryz.func144, hn, hb]
  rw [show ([.int .u64 16] : List Value).toArray = #[.int .u64 16] from rfl, hcf, Oper.upon_enter]
  refine (tz_walk w hg).mono ?_
  rintro ev w' ⟨rfl, rfl⟩
  exact hnext _ _ (Below.refl _ _) rfl
end Go.Proofs.YtcdhcihjcjpmkaaGreatDoor.Num

/- read.scan as a function of the engine. No statement is proved here. -/
import Derived.Test.YtcdhcihjcjpmkaaGreatDoorSch
namespace Go.Proofs.YtcdhcihjcjpmkaaGreatDoor.Num
open Go Go.RowKit Go.Proofs Go.Proofs.YtcdhcihjcjpmkaaGreatDoor.Eng
set_option linter.unusedVariables false
set_option linter.unusedSimpArgs false
set_option maxRecDepth 20000
noncomputable def fn_scan (N : Nat) (s : ByteArray) (base : Int) (mark : ByteArray) (needed : Bool) : Option ((List Int × Int × Int × Bool) × Bool) :=
  cond (Nat.ble s.size 100000) (scanF N s base mark needed) none
theorem scan_ok (N : Nat) : FnOK Tryz.prog 12 (aC cStr (aC (cInt .i64) (aC cStr (aC cBool a0)))) (r2 (cSt (fC (lLi .u8) (fC (lInt .i64) (fC (lInt .i64) (fO lBool))))) cBool) (fun a => fn_scan N a.1 a.2.1 a.2.2.1 a.2.2.2.1) := by
  intro a p hap vals w L hL hGV hargs o act next Q hnext
  obtain ⟨d, f, m, n, _⟩ := a
  obtain ⟨hc, hap⟩ := cond_some (show cond (Nat.ble d.size 100000) (scanF N d f m n) none = some p from hap)
  have h1 : d.size ≤ 100000 := Nat.le_of_ble_eq_true hc
  rcases vals with _ | ⟨v1, _ | ⟨v2, _ | ⟨v3, _ | ⟨v4, _ | ⟨v5, vs⟩⟩⟩⟩⟩
  · exact hargs.elim
  · exact hargs.2.elim
  · exact hargs.2.2.elim
  · exact hargs.2.2.2.elim
  rotate_left
  · exact hargs.2.2.2.2.elim
  have e1 : v1 = .string d := hargs.1
  have e2 : v2 = .int .i64 f := hargs.2.1
  have e3 : v3 = .string m := hargs.2.2.1
  have e4 : v4 = .bool n := hargs.2.2.2.1
  subst e1; subst e2; subst e3; subst e4
  have hcf : (callFunc 12 #[.string d, .int .i64 f, .string m, .bool n]).run Tryz.prog w = .ok (.enter 12 #[.string d, .int .i64 f, .string m, .bool n]) w := by
    have hn : ¬ Tryz.f12.name = "runtime.NumGoroutine" := by
      have : (Tryz.f12.name == "runtime.NumGoroutine") = false := by kernel_rfl
      simpa using this
    obtain ⟨code, hb⟩ : ∃ code, Tryz.f12.body = some code := ⟨_, rfl⟩
    simp [callFunc, Tryz.func12, hn, hb]
  rw [show ([.string d, .int .i64 f, .string m, .bool n] : List Value).toArray = #[.string d, .int .i64 f, .string m, .bool n] from rfl, hcf, Oper.upon_enter]
  refine (scan_walk N w hGV d h1 f m n p hap).mono ?_
  rintro ev w' ⟨v, rfl, hown, hb⟩
  refine hnext _ _ hb ⟨[_, _], rfl, ⟨[_, _, _, _], rfl, ?_, rfl, rfl, rfl, trivial⟩, rfl, trivial⟩
  exact ownsRow.li hown fun g hg hL' => by
    obtain ⟨_, ⟨h0, _⟩ | ⟨g', cap, cur, rfl, hgg, _⟩⟩ := hown
    · rw [h0] at hg; cases hg
    · simp [Value.ownBlock] at hg
      subst hg
      have := hL _ hL'
      omega
end Go.Proofs.YtcdhcihjcjpmkaaGreatDoor.Num

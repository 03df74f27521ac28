/- slices.ContainsFunc at nat.Parse's own test, out of the kit's contract (laid by the kit's own tool). No statement is proved here. -/
import Derived.Test.YtoihjgfnocimjaaDoorEng12
import Derived.Test.YtoihjgfnocimjaaDoorProg
import Derived.Ground.SlgfProg
import Derived.Shelf.SlicesE.IndexFunc
import Derived.WalkKit
import Derived.RowKitTokens
namespace Go.Proofs.YtoihjgfnocimjaaDoor.Slc
open Go Go.RowKit Go.Shelf Go.Proofs Go.Lib Go.Proofs.YtoihjgfnocimjaaDoor.Eng
set_option linter.unusedVariables false
set_option linter.unusedSimpArgs false
def laysCont_ren : Go.Shelf.Ren := ⟨fun | 8 => 48 | 6 => 60 | n => n, fun | 22 => 71 | 23 => 5 | 25 => 76 | 4 => 4 | 3 => 3 | 0 => 0 | n => n, fun | n => n⟩
theorem laysCont : Go.Proofs.SlLaysH.n8 Tryd.prog laysCont_ren := {
  mixed := by kernel_rfl
  f6 := ⟨Tryd.f60.name, by decide, Tryd.func60.trans (congrArg some (by kernel_rfl))⟩
  f8 := ⟨Tryd.f48.name, by decide, Tryd.func48.trans (congrArg some (by kernel_rfl))⟩
  t0 := Tryd.underlying0
  a0 := Tryd.isAgg0
  z0 := Tryd.sizeOf0
  v0 := Tryd.zeroValue0
  t3 := Tryd.underlying3
  a3 := Tryd.isAgg3
  z3 := Tryd.sizeOf3
  v3 := Tryd.zeroValue3
  t4 := Tryd.underlying4
  a4 := Tryd.isAgg4
  z4 := Tryd.sizeOf4
  v4 := Tryd.zeroValue4
  t22 := Tryd.underlying71
  a22 := Tryd.isAgg71
  z22 := Tryd.sizeOf71
  v22 := Tryd.zeroValue71
  a23 := Tryd.isAgg5
  z23 := Tryd.sizeOf5
  t25 := Tryd.underlying76
  a25 := Tryd.isAgg76
  z25 := Tryd.sizeOf76
  v25 := Tryd.zeroValue76 }
/-- no digit -/
def oddC (c : Int) : Bool := decide (c < 48) || decide (57 < c)
theorem odd_pred (w : World) : PredAt Tryd.prog 47 #[] (Value.int .u8) oddC w := by
  intro W x hb
  show Calls Tryd.prog 47 #[.int .u8 x] W _
  go_enter Tryd.func47, Tryd.ntmps47
  go_wp2
  all_goals
    go_ret
    refine ⟨?_, 0, rfl⟩
    simp_all [oddC]
def fn_contains (N : Nat) (xs : List Int) : Option Bool := cond (leI xs.length 17592186044416) (some (xs.any oddC)) none
theorem contains_ok (N : Nat) : FnOK Tryd.prog 48 (aC (cLi .u8) (aC (cFun 47) a0)) (r1 cBool) (fun a => fn_contains N a.1) := by
  intro a p hap vals w L hL hGV hargs o act next Q hnext
  obtain ⟨xs, u, _⟩ := a
  obtain ⟨hlen, hp⟩ := cond_some hap
  injection hp with hp
  subst hp
  rw [leI_iff] at hlen
  simp only at hlen
  rcases vals with _ | ⟨v, _ | ⟨v2, _ | ⟨v3, vs⟩⟩⟩
  · exact hargs.elim
  · exact hargs.2.elim
  rotate_left
  · exact hargs.2.2.elim
  have hv : LiR L w .u8 xs v := hargs.1
  have hv2 : v2 = .func (.func 47) #[] #[] := hargs.2.1
  subst hv2
  obtain ⟨A, c, rfl, ⟨hc, hspot⟩, hrd⟩ := hv
  have enters : ∀ (args : Array Value) (w : World), (callFunc 47 args).run Tryd.prog w = .ok (.enter 47 args) w := by
    intro args w
    have hn : ¬ Tryd.f47.name = "runtime.NumGoroutine" := by
      have : (Tryd.f47.name == "runtime.NumGoroutine") = false := by kernel_rfl
      simpa using this
    obtain ⟨code, hb⟩ : ∃ code, Tryd.f47.body = some code := ⟨_, rfl⟩
    simp [callFunc, Tryd.func47, hn, hb]
  have hcf : (callFunc 48 #[.slice A xs.length c, .func (.func 47) #[] #[]]).run Tryd.prog w = .ok (.enter 48 #[.slice A xs.length c, .func (.func 47) #[] #[]]) w := by
    have hn : ¬ Tryd.f48.name = "runtime.NumGoroutine" := by
      have : (Tryd.f48.name == "runtime.NumGoroutine") = false := by kernel_rfl
      simpa using this
    obtain ⟨code, hb⟩ : ∃ code, Tryd.f48.body = some code := ⟨_, rfl⟩
    simp [callFunc, Tryd.func48, hn, hb]
  rw [show ([.slice A xs.length c, .func (.func 47) #[] #[]] : List Value).toArray = #[.slice A xs.length c, .func (.func 47) #[] #[]] from rfl, hcf, Oper.upon_enter]
  by_cases hx : xs = []
  · subst hx
    refine (AnyE.slices_ContainsFunc_empty laysCont A c (.func (.func 47) #[] #[]) w).mono ?_
    rintro ev w' ⟨rfl, rfl⟩
    exact hnext _ _ (Below.refl _ _) rfl
  · obtain ⟨ad, hA, _, _⟩ := hrd 0 (List.length_pos_iff.2 hx)
    subst hA
    obtain ⟨b, off, sp⟩ := ad
    have hsp : sp = Option.none := hspot _ rfl
    subst hsp
    refine (AnyE.slices_ContainsFunc laysCont (Value.int .u8) oddC 47 #[] enters b off xs.length c xs w (odd_pred w) (Nat.le_refl _) (by omega) (fun j hj => ?_)).mono ?_
    · obtain ⟨a2, h1, h2, _⟩ := hrd j hj
      injection h1 with h1
      subst h1
      have hadd : (⟨b, off, Option.none⟩ : Addr).add j = ⟨b, off + j, Option.none⟩ := by unfold Addr.add; split <;> simp_all
      rw [hadd] at h2
      rw [h2]
      simp [List.getD_eq_getElem?_getD, hj]
    · rintro ev w' ⟨rfl, q, rfl⟩
      refine hnext _ _ (below_drewN' (Below.refl _ w) q) ?_
      rw [List.take_length]
      rfl
end Go.Proofs.YtoihjgfnocimjaaDoor.Slc

/- show.text at the digits "2", the power 0 and no sign, by its walk, over the kit's contracts for strings.Builder and strconv.Itoa. No statement is proved here. -/
import Derived.Test.YtopcajgknbmbcaaGreatDoorShf
import Derived.Test.YtopcajgknbmbcaaGreatDoorEng12
import Derived.WalkKit
import Derived.BigCall
namespace Go.Proofs.YtopcajgknbmbcaaGreatDoor.Num
open Go Go.RowKit Go.Proofs Go.Proofs.YtopcajgknbmbcaaGreatDoor.Eng
set_option linter.unusedVariables false
set_option maxRecDepth 20000
set_option maxHeartbeats 1000000 in
theorem text_walk (w : World) : Calls Tryz.prog 46 #[.string ⟨#[50]⟩, .int .i64 0, .bool false] w fun e w' => e = .returned (.string ⟨#[50, 101, 48]⟩) ∧ Below w.heap.size w w' := by
  have h0 : Lib.IsBuilder 125 5 w.heap.size w.heap.size [] (w.alloc (.cells #[.pointer none, .slice none 0 0] 125 (0, 0))) := Lib.fresh_isBuilder 125 5 w
  have b0 : Below w.heap.size w (w.alloc (.cells #[.pointer none, .slice none 0 0] 125 (0, 0))) := (Below.refl _ w).alloc (Nat.le_refl _) _
  go_enter Tryz.func46, Tryz.ntmps46
  go_wp2_with (go_at_call 76; refine (Shf.WriteString w.heap.size w.heap.size [] ⟨#[50]⟩ _ h0 (by decide) b0.size).mono ?_)
  rintro e W1 ⟨rfl, h1, b1⟩
  go_wp2_with (go_at_call 75; refine (Shf.WriteByte w.heap.size w.heap.size _ 101 _ (Or.inr h1) (by decide) (Nat.le_trans b0.size b1.size)).mono ?_)
  rintro e W2 ⟨rfl, h2, b2⟩
  go_wp2_with (go_at_call 77; refine (Shf.strconv_Itoa_small 0 (by decide) _).mono ?_)
  have hd : Lib.decDigits 0 = [48] := by rw [Lib.decDigits]; rfl
  rw [hd]
  rintro e W3 ⟨rfl, rfl⟩
  go_wp2_with (go_at_call 76; refine (Shf.WriteString w.heap.size w.heap.size _ ⟨#[48]⟩ _ (Or.inr h2) (by decide) (Nat.le_trans b0.size (Nat.le_trans b1.size b2.size))).mono ?_)
  rintro e W4 ⟨rfl, h4, b4⟩
  have h4' : Lib.IsBuilder 125 5 w.heap.size w.heap.size (Lib.byteCells [50, 101, 48]) W4 := by
    have e1 : [] ++ Lib.strCells ⟨#[50]⟩ ++ [Value.int .u8 101] ++ Lib.strCells ⟨#[48]⟩ = Lib.byteCells [50, 101, 48] := by simp [Lib.strCells, Lib.byteCells]
    rw [e1] at h4
    exact Or.inr h4
  go_wp2_with (go_at_call 78; refine (Shf.Builder_String w.heap.size w.heap.size [50, 101, 48] _ h4' (by decide)).mono ?_)
  rintro e W5 ⟨rfl, b5⟩
  go_wp2
  go_ret
  exact ⟨rfl, b0.trans (b1.trans (b2.trans (b4.trans b5)))⟩
def fn_text (N : Nat) (d : ByteArray) (f : Int) (m : Bool) : Option ByteArray := cond (d.data.toList == [50] && eqI f 0 && eqB m false) (some ⟨#[50, 101, 48]⟩) none
theorem text_ok (N : Nat) : FnOK Tryz.prog 46 (aC cStr (aC (cInt .i64) (aC cBool a0))) (r1 cStr) (fun a => fn_text N a.1 a.2.1 a.2.2.1) := by
  intro a p hap vals w L hL hGV hargs o act next Q hnext
  obtain ⟨d, f, m, _⟩ := a
  obtain ⟨hc, hap⟩ := cond_some (show cond (d.data.toList == [50] && eqI f 0 && eqB m false) (some (⟨#[50, 101, 48]⟩ : ByteArray)) none = some p from hap)
  injection hap with hap
  subst hap
  simp only [Bool.and_eq_true] at hc
  obtain ⟨⟨h1, h2⟩, h3⟩ := hc
  have h1 : d = ⟨#[50]⟩ := ByteArray.ext (Array.toList_inj.mp (by simpa using h1))
  have h2 : f = 0 := by simpa [eqI] using h2
  have h3 : m = false := by simpa [eqB] using h3
  subst h1; subst h2; subst h3
  rcases vals with _ | ⟨v1, _ | ⟨v2, _ | ⟨v3, _ | ⟨v4, vs⟩⟩⟩⟩
  · exact hargs.elim
  · exact hargs.2.elim
  · exact hargs.2.2.elim
  rotate_left
  · exact hargs.2.2.2.elim
  have e1 : v1 = .string ⟨#[50]⟩ := hargs.1
  have e2 : v2 = .int .i64 0 := hargs.2.1
  have e3 : v3 = .bool false := hargs.2.2.1
  subst e1; subst e2; subst e3
  have hcf : (callFunc 46 #[.string ⟨#[50]⟩, .int .i64 0, .bool false]).run Tryz.prog w = .ok (.enter 46 #[.string ⟨#[50]⟩, .int .i64 0, .bool false]) w := by
    have hn : ¬ Tryz.f46.name = "runtime.NumGoroutine" := by
      have : (Tryz.f46.name == "runtime.NumGoroutine") = false := by kernel_rfl
      simpa using this
    obtain ⟨code, hb⟩ : ∃ code, Tryz.f46.body = some code := ⟨_, rfl⟩
    simp [callFunc, Tryz.func46, hn, hb]
  rw [show ([.string ⟨#[50]⟩, .int .i64 0, .bool false] : List Value).toArray = #[.string ⟨#[50]⟩, .int .i64 0, .bool false] from rfl, hcf, Oper.upon_enter]
  refine (text_walk w).mono ?_
  rintro ev w' ⟨rfl, hb⟩
  exact hnext _ _ hb rfl
end Go.Proofs.YtopcajgknbmbcaaGreatDoor.Num

/- PLAIN FACTS on chapter 10's program functions, as plain Lean functions. No statement is proved here. -/
import Derived.Test.YtkipjjijaphjpaaFn1
import Derived.Test.YtkipjjijaphjpaaBw
namespace Go.Proofs.Ytkipjjijaphjpaa.Ordp
open Go Go.RowKit Go.Proofs.Ytkipjjijaphjpaa.Eng Go.Proofs.Ytkipjjijaphjpaa.Fns Go.Proofs.Ytkipjjijaphjpaa.Bw
variable (N : Nat)
def keyN (a : Int) : Int := if a < 9223372036854775808 then a else 9223372036854775807 - a
theorem abs_eq (a : Int) (h0 : 0 ≤ a) (h1 : a < 18446744073709551616) : fn_pat_Abs N a = some (a % 9223372036854775808) := by
  unfold fn_pat_Abs bicI; rw [andNot_sign a h0 h1]
theorem key_eq (a : Int) (h0 : 0 ≤ a) (h1 : a < 18446744073709551616) : fn_order_key N a = some (keyN a) := by
  unfold fn_order_key keyN andI
  rw [and_sign a h0 h1, abs_eq N a h0 h1]
  by_cases h : a < 9223372036854775808
  · simp only [h, if_true, cond_if, eqI_eq, cvI, wrap_i64]; simp; omega
  · simp only [h, if_false, cond_if, eqI_eq, cvI, wrap_i64, Option.bind_some, subI]; simp; omega
theorem key_inj (a b : Int) (h0 : 0 ≤ a) (g0 : 0 ≤ b) (h : keyN a = keyN b) : a = b := by
  unfold keyN at h; split at h <;> split at h <;> omega
theorem total_eq (a b : Int) (h0 : 0 ≤ a) (h1 : a < 18446744073709551616) (g0 : 0 ≤ b) (g1 : b < 18446744073709551616) : fn_order_Total N a b = some (decide (keyN a ≤ keyN b)) := by
  unfold fn_order_Total; rw [key_eq N a h0 h1, key_eq N b g0 g1]; rfl
def nanB (a : Int) : Bool := decide (9218868437227405312 < a % 9223372036854775808)
theorem nan_eq (a : Int) (h0 : 0 ≤ a) (h1 : a < 18446744073709551616) : fn_pat_IsNaN N a = some (nanB a) := by
  unfold fn_pat_IsNaN; rw [abs_eq N a h0 h1]; rfl
theorem take_ex (a : Int) : ∃ c, ∀ N, fn_pat_Take N a = some c := by
  unfold fn_pat_Take
  simp only [cond_if]
  repeat' (first | exact ⟨_, fun _ => rfl⟩ | split)
noncomputable def cls (a : Int) : Int := (take_ex a).choose.2.1
theorem cls_eq (a : Int) : fn_pat_Class N a = some (cls a) := by
  unfold fn_pat_Class; rw [(take_ex a).choose_spec N]; rfl
noncomputable def loudN (a b : Int) : Int := if cls a = 5 then 1 else if cls b = 5 then 1 else 0
theorem loud_eq (a b : Int) : fn_order_loud N a b = some (loudN a b) := by
  unfold fn_order_loud loudN; rw [cls_eq, cls_eq]; simp only [Option.bind_some, cond_if, eqI_eq, decide_eq_true_eq]
  split
  · rfl
  · split <;> rfl
noncomputable def cmpN (a b : Int) : Int × Int :=
  if nanB a = true ∨ nanB b = true then (2, loudN a b)
  else if (a % 9223372036854775808 = 0 ∧ b % 9223372036854775808 = 0) ∨ a = b then (0, 0)
  else if keyN a < keyN b then (-1, 0) else (1, 0)
theorem cmp_eq (a b : Int) (h0 : 0 ≤ a) (h1 : a < 18446744073709551616) (g0 : 0 ≤ b) (g1 : b < 18446744073709551616) : fn_order_Compare N a b = some (cmpN a b) := by
  unfold fn_order_Compare cmpN
  rw [nan_eq N a h0 h1, nan_eq N b g0 g1]
  simp only [Option.bind_some, loud_eq, abs_eq N a h0 h1, abs_eq N b g0 g1, key_eq N a h0 h1, key_eq N b g0 g1, cond_if, eqI_iff, ltI_iff, orI, or_zero (a % 9223372036854775808) (b % 9223372036854775808) (by omega) (by omega) (by omega) (by omega)]
  cases nanB a <;> cases nanB b <;> simp
  by_cases hz : a % 9223372036854775808 = 0 ∧ b % 9223372036854775808 = 0
  · simp [hz]
  · by_cases he : a = b
    · simp [he]
    · simp [hz, he]; split <;> rfl
noncomputable def pickN (a b : Int) (fst : Bool) : Int × Int := if nanB a = true ∨ nanB b = true then (9221120237041090560, loudN a b) else if (decide (keyN a ≤ keyN b)) = fst then (a, 0) else (b, 0)
theorem pick_eq (a b : Int) (h0 : 0 ≤ a) (h1 : a < 18446744073709551616) (g0 : 0 ≤ b) (g1 : b < 18446744073709551616) (fst : Bool) : fn_order_pick N a b fst = some (pickN a b fst) := by
  unfold fn_order_pick pickN
  rw [nan_eq N a h0 h1, nan_eq N b g0 g1]
  simp only [Option.bind_some, loud_eq, key_eq N a h0 h1, key_eq N b g0 g1, cond_if, eqB_eq, leI_eq, decide_eq_true_eq]
  cases nanB a <;> cases nanB b <;> simp
  split <;> rfl
theorem min_eq (a b : Int) (h0 : 0 ≤ a) (h1 : a < 18446744073709551616) (g0 : 0 ≤ b) (g1 : b < 18446744073709551616) : fn_order_Min N a b = some (pickN a b true) := by
  unfold fn_order_Min; rw [pick_eq N a b h0 h1 g0 g1]; rfl
theorem max_eq (a b : Int) (h0 : 0 ≤ a) (h1 : a < 18446744073709551616) (g0 : 0 ≤ b) (g1 : b < 18446744073709551616) : fn_order_Max N a b = some (pickN a b false) := by
  unfold fn_order_Max; rw [pick_eq N a b h0 h1 g0 g1]; rfl
noncomputable def numberN (a b : Int) (fst : Bool) : Int × Int := if nanB a = nanB b then pickN a b fst else if nanB a = true then (b, loudN a b) else (a, loudN a b)
theorem number_eq (a b : Int) (h0 : 0 ≤ a) (h1 : a < 18446744073709551616) (g0 : 0 ≤ b) (g1 : b < 18446744073709551616) (fst : Bool) : fn_order_number N a b fst = some (numberN a b fst) := by
  unfold fn_order_number numberN
  rw [nan_eq N a h0 h1, nan_eq N b g0 g1, pick_eq N a b h0 h1 g0 g1]
  simp only [Option.bind_some, loud_eq, cond_if, eqB_eq, decide_eq_true_eq]
  cases nanB a <;> cases nanB b <;> simp
theorem minNumber_eq (a b : Int) (h0 : 0 ≤ a) (h1 : a < 18446744073709551616) (g0 : 0 ≤ b) (g1 : b < 18446744073709551616) : fn_order_MinNumber N a b = some (numberN a b true) := by
  unfold fn_order_MinNumber; rw [number_eq N a b h0 h1 g0 g1]; rfl
theorem maxNumber_eq (a b : Int) (h0 : 0 ≤ a) (h1 : a < 18446744073709551616) (g0 : 0 ≤ b) (g1 : b < 18446744073709551616) : fn_order_MaxNumber N a b = some (numberN a b false) := by
  unfold fn_order_MaxNumber; rw [number_eq N a b h0 h1 g0 g1]; rfl
noncomputable def sizeN (a b : Int) (fst : Bool) : Int × Int :=
  if a % 9223372036854775808 = b % 9223372036854775808 ∨ nanB a = true ∨ nanB b = true then pickN a b fst else if decide (a % 9223372036854775808 < b % 9223372036854775808) = fst then (a, 0) else (b, 0)
theorem size_eq (a b : Int) (h0 : 0 ≤ a) (h1 : a < 18446744073709551616) (g0 : 0 ≤ b) (g1 : b < 18446744073709551616) (fst : Bool) : fn_order_size N a b fst = some (sizeN a b fst) := by
  unfold fn_order_size sizeN
  rw [nan_eq N a h0 h1, nan_eq N b g0 g1, pick_eq N a b h0 h1 g0 g1, abs_eq N a h0 h1, abs_eq N b g0 g1]
  simp only [Option.bind_some, cond_if, eqB_eq, eqI_eq, ltI_eq, decide_eq_true_eq]
  by_cases h : a % 9223372036854775808 = b % 9223372036854775808 <;> cases nanB a <;> cases nanB b <;> simp [h] <;> (try rfl) <;> (split <;> rfl)
theorem minSize_eq (a b : Int) (h0 : 0 ≤ a) (h1 : a < 18446744073709551616) (g0 : 0 ≤ b) (g1 : b < 18446744073709551616) : fn_order_MinSize N a b = some (sizeN a b true) := by
  unfold fn_order_MinSize; rw [size_eq N a b h0 h1 g0 g1]; rfl
theorem maxSize_eq (a b : Int) (h0 : 0 ≤ a) (h1 : a < 18446744073709551616) (g0 : 0 ≤ b) (g1 : b < 18446744073709551616) : fn_order_MaxSize N a b = some (sizeN a b false) := by
  unfold fn_order_MaxSize; rw [size_eq N a b h0 h1 g0 g1]; rfl
theorem sure_eq : fn_tillerlaw10_sure N = some true := by
  unfold fn_tillerlaw10_sure
  rw [min_eq N _ _ (by omega) (by omega) (by omega) (by omega), cmp_eq N _ _ (by omega) (by omega) (by omega) (by omega)]
  simp [cmpN, pickN, nanB, keyN, eqI]
theorem loud_comm (a b : Int) : loudN a b = loudN b a := by unfold loudN; split <;> split <;> simp_all
end Go.Proofs.Ytkipjjijaphjpaa.Ordp

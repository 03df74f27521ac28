/- The program's types, as the engine wants them. No statement is proved here. Laid by eng.py. -/
import Derived.Test.YtoihjgfnocimjaaDoorEng12
import Derived.Test.YtoihjgfnocimjaaDoorProg
import Derived.Test.YtoihjgfnocimjaaDoorNum
import Derived.Test.YtoihjgfnocimjaaDoorSlc
import Derived.Test.YtoihjgfnocimjaaDoorCtf
namespace Go.Proofs.YtoihjgfnocimjaaDoor.Fns
open Go Go.RowKit Go.Proofs Go.Proofs.YtoihjgfnocimjaaDoor.Eng Go.Proofs.YtoihjgfnocimjaaDoor.Num Go.Proofs.YtoihjgfnocimjaaDoor.Slc
set_option linter.unusedVariables false
set_option maxRecDepth 100000
theorem mixed : Tryd.prog.follows .mixedOrders = true := by kernel_rfl
theorem ty3 : tdP Tryd.prog 3 (.int .i64) := ⟨by kernel_rfl, szP_mk (by kernel_rfl)⟩
theorem ty4 : tdP Tryd.prog 4 (.bool) := ⟨by kernel_rfl, szP_mk (by kernel_rfl)⟩
theorem ty5 : tdP Tryd.prog 5 (.int .u8) := ⟨by kernel_rfl, szP_mk (by kernel_rfl)⟩
theorem ty9 : tdP Tryd.prog 9 (.str) := ⟨by kernel_rfl, szP_mk (by kernel_rfl)⟩
theorem ty22 : tdP Tryd.prog 22 (.sl .u32 36) := ⟨by kernel_rfl, by kernel_rfl, szP_mk (by kernel_rfl), szP_mk (by kernel_rfl), by kernel_rfl⟩
theorem ty24 : tdP Tryd.prog 24 (.sl .u32 36) := ⟨by kernel_rfl, by kernel_rfl, szP_mk (by kernel_rfl), szP_mk (by kernel_rfl), by kernel_rfl⟩
theorem ty26 : tdP Tryd.prog 26 (.err) := ⟨methodsOf Tryd.prog 26, by kernel_rfl, szP_mk (by kernel_rfl)⟩
theorem ty33 : tdP Tryd.prog 33 (.sl .u32 36) := ⟨by kernel_rfl, by kernel_rfl, szP_mk (by kernel_rfl), szP_mk (by kernel_rfl), by kernel_rfl⟩
theorem ty36 : tdP Tryd.prog 36 (.int .u32) := ⟨by kernel_rfl, szP_mk (by kernel_rfl)⟩
theorem ty51 : tdP Tryd.prog 51 (.int .u64) := ⟨by kernel_rfl, szP_mk (by kernel_rfl)⟩
theorem ty60 : tdP Tryd.prog 60 (.int .i64) := ⟨by kernel_rfl, szP_mk (by kernel_rfl)⟩
theorem ty65 : tdP Tryd.prog 65 (.int .u64) := ⟨by kernel_rfl, szP_mk (by kernel_rfl)⟩
theorem ty71 : tdP Tryd.prog 71 (.sl .u8 5) := ⟨by kernel_rfl, by kernel_rfl, szP_mk (by kernel_rfl), szP_mk (by kernel_rfl), by kernel_rfl⟩
theorem ty97 : tdP Tryd.prog 97 (.arr .u32 3) := ⟨36, by kernel_rfl, by kernel_rfl, szP_mk (by kernel_rfl), szP_mk (by kernel_rfl), by kernel_rfl⟩
theorem ty98 : tdP Tryd.prog 98 (.arr .u32 2) := ⟨36, by kernel_rfl, by kernel_rfl, szP_mk (by kernel_rfl), szP_mk (by kernel_rfl), by kernel_rfl⟩
def tys : List (Nat × TD) := [(3, .int .i64), (4, .bool), (5, .int .u8), (9, .str), (22, .sl .u32 36), (24, .sl .u32 36), (26, .err), (33, .sl .u32 36), (36, .int .u32), (51, .int .u64), (60, .int .i64), (65, .int .u64), (71, .sl .u8 5), (97, .arr .u32 3), (98, .arr .u32 2)]
theorem tok (rt : List (Nat × Nat)) (kl : List Nat) {wr : Nat → Option (∀ R : Type, TypeId → List AV → (List Int → AV → Option R) → Option R)} (hw : WrsOK Tryd.prog wr) : TOK Tryd.prog ⟨tyOf tys, rt, kl, wr⟩ := tyOf_ok (fun p hp => by
  simp only [tys, List.mem_cons, List.not_mem_nil, or_false] at hp
  rcases hp with rfl | rfl | rfl | rfl | rfl | rfl | rfl | rfl | rfl | rfl | rfl | rfl | rfl | rfl | rfl
  · exact ty3
  · exact ty4
  · exact ty5
  · exact ty9
  · exact ty22
  · exact ty24
  · exact ty26
  · exact ty33
  · exact ty36
  · exact ty51
  · exact ty60
  · exact ty65
  · exact ty71
  · exact ty97
  · exact ty98) rt kl hw
def str0 : ByteArray := ⟨#[0, 1, 2, 2, 3, 3, 3, 3, 4, 4, 4, 4, 4, 4, 4, 4, 5, 5, 5, 5, 5, 5, 5, 5, 5, 5, 5, 5, 5, 5, 5, 5, 6, 6, 6, 6, 6, 6, 6, 6, 6, 6, 6, 6, 6, 6, 6, 6, 6, 6, 6, 6, 6, 6, 6, 6, 6, 6, 6, 6, 6, 6, 6, 6, 7, 7, 7, 7, 7, 7, 7, 7, 7, 7, 7, 7, 7, 7, 7, 7, 7, 7, 7, 7, 7, 7, 7, 7, 7, 7, 7, 7, 7, 7, 7, 7, 7, 7, 7, 7, 7, 7, 7, 7, 7, 7, 7, 7, 7, 7, 7, 7, 7, 7, 7, 7, 7, 7, 7, 7, 7, 7, 7, 7, 7, 7, 7, 7, 8, 8, 8, 8, 8, 8, 8, 8, 8, 8, 8, 8, 8, 8, 8, 8, 8, 8, 8, 8, 8, 8, 8, 8, 8, 8, 8, 8, 8, 8, 8, 8, 8, 8, 8, 8, 8, 8, 8, 8, 8, 8, 8, 8, 8, 8, 8, 8, 8, 8, 8, 8, 8, 8, 8, 8, 8, 8, 8, 8, 8, 8, 8, 8, 8, 8, 8, 8, 8, 8, 8, 8, 8, 8, 8, 8, 8, 8, 8, 8, 8, 8, 8, 8, 8, 8, 8, 8, 8, 8, 8, 8, 8, 8, 8, 8, 8, 8, 8, 8, 8, 8, 8, 8, 8, 8, 8, 8, 8, 8, 8, 8, 8, 8, 8, 8, 8, 8, 8, 8, 8, 8, 8, 8, 8, 8, 8, 8]⟩
def str1 : ByteArray := ⟨#[49, 48, 48, 48, 48, 48, 48, 48, 48, 48, 48, 48, 48, 48, 48, 48, 48, 48, 48, 48, 48]⟩
end Go.Proofs.YtoihjgfnocimjaaDoor.Fns

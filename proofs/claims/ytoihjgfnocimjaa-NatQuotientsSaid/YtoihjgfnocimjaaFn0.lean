/- The program's types, as the engine wants them. No statement is proved here. Laid by eng.py. -/
import Derived.Test.YtoihjgfnocimjaaEng12
import Derived.Test.YtoihjgfnocimjaaProg
import Derived.Test.YtoihjgfnocimjaaSlc
namespace Go.Proofs.Ytoihjgfnocimjaa.Fns
open Go Go.RowKit Go.Proofs Go.Proofs.Ytoihjgfnocimjaa.Eng Go.Proofs.Ytoihjgfnocimjaa.Slc
set_option linter.unusedVariables false
set_option maxRecDepth 100000
theorem mixed : Try.prog.follows .mixedOrders = true := by kernel_rfl
theorem ty3 : tdP Try.prog 3 (.int .i64) := ⟨by kernel_rfl, szP_mk (by kernel_rfl)⟩
theorem ty5 : tdP Try.prog 5 (.int .u8) := ⟨by kernel_rfl, szP_mk (by kernel_rfl)⟩
theorem ty9 : tdP Try.prog 9 (.str) := ⟨by kernel_rfl, szP_mk (by kernel_rfl)⟩
theorem ty22 : tdP Try.prog 22 (.int .u64) := ⟨by kernel_rfl, szP_mk (by kernel_rfl)⟩
theorem ty23 : tdP Try.prog 23 (.sl .u32 44) := ⟨by kernel_rfl, by kernel_rfl, szP_mk (by kernel_rfl), szP_mk (by kernel_rfl), by kernel_rfl⟩
theorem ty24 : tdP Try.prog 24 (.sl .u32 44) := ⟨by kernel_rfl, by kernel_rfl, szP_mk (by kernel_rfl), szP_mk (by kernel_rfl), by kernel_rfl⟩
theorem ty27 : tdP Try.prog 27 (.err) := ⟨methodsOf Try.prog 27, by kernel_rfl, szP_mk (by kernel_rfl)⟩
theorem ty38 : tdP Try.prog 38 (.sl .u32 44) := ⟨by kernel_rfl, by kernel_rfl, szP_mk (by kernel_rfl), szP_mk (by kernel_rfl), by kernel_rfl⟩
theorem ty44 : tdP Try.prog 44 (.int .u32) := ⟨by kernel_rfl, szP_mk (by kernel_rfl)⟩
theorem ty50 : tdP Try.prog 50 (.int .i64) := ⟨by kernel_rfl, szP_mk (by kernel_rfl)⟩
theorem ty65 : tdP Try.prog 65 (.sl .u8 5) := ⟨by kernel_rfl, by kernel_rfl, szP_mk (by kernel_rfl), szP_mk (by kernel_rfl), by kernel_rfl⟩
theorem ty70 : tdP Try.prog 70 (.arr .u32 3) := ⟨44, by kernel_rfl, by kernel_rfl, szP_mk (by kernel_rfl), szP_mk (by kernel_rfl), by kernel_rfl⟩
theorem ty71 : tdP Try.prog 71 (.arr .u32 2) := ⟨44, by kernel_rfl, by kernel_rfl, szP_mk (by kernel_rfl), szP_mk (by kernel_rfl), by kernel_rfl⟩
def tys : List (Nat × TD) := [(3, .int .i64), (5, .int .u8), (9, .str), (22, .int .u64), (23, .sl .u32 44), (24, .sl .u32 44), (27, .err), (38, .sl .u32 44), (44, .int .u32), (50, .int .i64), (65, .sl .u8 5), (70, .arr .u32 3), (71, .arr .u32 2)]
theorem tok (rt : List (Nat × Nat)) (kl : List Nat) {wr : Nat → Option (∀ R : Type, TypeId → List AV → (List Int → AV → Option R) → Option R)} (hw : WrsOK Try.prog wr) : TOK Try.prog ⟨tyOf tys, rt, kl, wr⟩ := tyOf_ok (fun p hp => by
  simp only [tys, List.mem_cons, List.not_mem_nil, or_false] at hp
  rcases hp with rfl | rfl | rfl | rfl | rfl | rfl | rfl | rfl | rfl | rfl | rfl | rfl | rfl
  · exact ty3
  · exact ty5
  · exact ty9
  · exact ty22
  · exact ty23
  · exact ty24
  · exact ty27
  · exact ty38
  · exact ty44
  · exact ty50
  · exact ty65
  · exact ty70
  · exact ty71) rt kl hw
def str0 : ByteArray := ⟨#[0, 1, 2, 2, 3, 3, 3, 3, 4, 4, 4, 4, 4, 4, 4, 4, 5, 5, 5, 5, 5, 5, 5, 5, 5, 5, 5, 5, 5, 5, 5, 5, 6, 6, 6, 6, 6, 6, 6, 6, 6, 6, 6, 6, 6, 6, 6, 6, 6, 6, 6, 6, 6, 6, 6, 6, 6, 6, 6, 6, 6, 6, 6, 6, 7, 7, 7, 7, 7, 7, 7, 7, 7, 7, 7, 7, 7, 7, 7, 7, 7, 7, 7, 7, 7, 7, 7, 7, 7, 7, 7, 7, 7, 7, 7, 7, 7, 7, 7, 7, 7, 7, 7, 7, 7, 7, 7, 7, 7, 7, 7, 7, 7, 7, 7, 7, 7, 7, 7, 7, 7, 7, 7, 7, 7, 7, 7, 7, 8, 8, 8, 8, 8, 8, 8, 8, 8, 8, 8, 8, 8, 8, 8, 8, 8, 8, 8, 8, 8, 8, 8, 8, 8, 8, 8, 8, 8, 8, 8, 8, 8, 8, 8, 8, 8, 8, 8, 8, 8, 8, 8, 8, 8, 8, 8, 8, 8, 8, 8, 8, 8, 8, 8, 8, 8, 8, 8, 8, 8, 8, 8, 8, 8, 8, 8, 8, 8, 8, 8, 8, 8, 8, 8, 8, 8, 8, 8, 8, 8, 8, 8, 8, 8, 8, 8, 8, 8, 8, 8, 8, 8, 8, 8, 8, 8, 8, 8, 8, 8, 8, 8, 8, 8, 8, 8, 8, 8, 8, 8, 8, 8, 8, 8, 8, 8, 8, 8, 8, 8, 8, 8, 8, 8, 8, 8, 8]⟩
def str1 : ByteArray := ⟨#[49, 48, 48, 48, 48, 48, 48, 48, 48, 48, 48, 48, 48, 48, 48, 48, 48, 48, 48, 48, 48]⟩
end Go.Proofs.Ytoihjgfnocimjaa.Fns

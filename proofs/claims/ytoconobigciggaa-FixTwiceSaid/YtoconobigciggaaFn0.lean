/- The program's types, as the engine wants them. No statement is proved here. Laid by eng.py. -/
import Derived.Test.YtoconobigciggaaEng12
import Derived.Test.YtoconobigciggaaProg
namespace Go.Proofs.Ytoconobigciggaa.Fns
open Go Go.RowKit Go.Proofs Go.Proofs.Ytoconobigciggaa.Eng
set_option linter.unusedVariables false
set_option maxRecDepth 100000
theorem mixed : Try.prog.follows .mixedOrders = true := by kernel_rfl
theorem ty3 : tdP Try.prog 3 (.int .i64) := ⟨by kernel_rfl, szP_mk (by kernel_rfl)⟩
theorem ty4 : tdP Try.prog 4 (.bool) := ⟨by kernel_rfl, szP_mk (by kernel_rfl)⟩
theorem ty5 : tdP Try.prog 5 (.int .u8) := ⟨by kernel_rfl, szP_mk (by kernel_rfl)⟩
theorem ty9 : tdP Try.prog 9 (.str) := ⟨by kernel_rfl, szP_mk (by kernel_rfl)⟩
theorem ty22 : tdP Try.prog 22 (.int .u64) := ⟨by kernel_rfl, szP_mk (by kernel_rfl)⟩
theorem ty23 : tdP Try.prog 23 (.arr .u64 4) := ⟨22, by kernel_rfl, by kernel_rfl, szP_mk (by kernel_rfl), szP_mk (by kernel_rfl), by kernel_rfl⟩
theorem ty24 : tdP Try.prog 24 (.arr .u64 4) := ⟨22, by kernel_rfl, by kernel_rfl, szP_mk (by kernel_rfl), szP_mk (by kernel_rfl), by kernel_rfl⟩
theorem ty27 : tdP Try.prog 27 (.sl .u32 50) := ⟨by kernel_rfl, by kernel_rfl, szP_mk (by kernel_rfl), szP_mk (by kernel_rfl), by kernel_rfl⟩
theorem ty28 : tdP Try.prog 28 (.sl .u32 50) := ⟨by kernel_rfl, by kernel_rfl, szP_mk (by kernel_rfl), szP_mk (by kernel_rfl), by kernel_rfl⟩
theorem ty38 : tdP Try.prog 38 (.err) := ⟨methodsOf Try.prog 38, by kernel_rfl, szP_mk (by kernel_rfl)⟩
theorem ty50 : tdP Try.prog 50 (.int .u32) := ⟨by kernel_rfl, szP_mk (by kernel_rfl)⟩
theorem ty56 : tdP Try.prog 56 (.int .i64) := ⟨by kernel_rfl, szP_mk (by kernel_rfl)⟩
theorem ty58 : tdP Try.prog 58 (.arr .u64 8) := ⟨22, by kernel_rfl, by kernel_rfl, szP_mk (by kernel_rfl), szP_mk (by kernel_rfl), by kernel_rfl⟩
def tys : List (Nat × TD) := [(3, .int .i64), (4, .bool), (5, .int .u8), (9, .str), (22, .int .u64), (23, .arr .u64 4), (24, .arr .u64 4), (27, .sl .u32 50), (28, .sl .u32 50), (38, .err), (50, .int .u32), (56, .int .i64), (58, .arr .u64 8)]
theorem tok (rt : List (Nat × Nat)) (kl : List Nat) {wr : Nat → Option (List AV → Option (List Int × AV))} (hw : WrsOK Try.prog wr) : TOK Try.prog ⟨tyOf tys, rt, kl, wr⟩ := tyOf_ok (fun p hp => by
  simp only [tys, List.mem_cons, List.not_mem_nil, or_false] at hp
  rcases hp with rfl | rfl | rfl | rfl | rfl | rfl | rfl | rfl | rfl | rfl | rfl | rfl | rfl
  · exact ty3
  · exact ty4
  · exact ty5
  · exact ty9
  · exact ty22
  · exact ty23
  · exact ty24
  · exact ty27
  · exact ty28
  · exact ty38
  · exact ty50
  · exact ty56
  · exact ty58) rt kl hw
def str0 : ByteArray := ⟨#[0, 1, 2, 2, 3, 3, 3, 3, 4, 4, 4, 4, 4, 4, 4, 4, 5, 5, 5, 5, 5, 5, 5, 5, 5, 5, 5, 5, 5, 5, 5, 5, 6, 6, 6, 6, 6, 6, 6, 6, 6, 6, 6, 6, 6, 6, 6, 6, 6, 6, 6, 6, 6, 6, 6, 6, 6, 6, 6, 6, 6, 6, 6, 6, 7, 7, 7, 7, 7, 7, 7, 7, 7, 7, 7, 7, 7, 7, 7, 7, 7, 7, 7, 7, 7, 7, 7, 7, 7, 7, 7, 7, 7, 7, 7, 7, 7, 7, 7, 7, 7, 7, 7, 7, 7, 7, 7, 7, 7, 7, 7, 7, 7, 7, 7, 7, 7, 7, 7, 7, 7, 7, 7, 7, 7, 7, 7, 7, 8, 8, 8, 8, 8, 8, 8, 8, 8, 8, 8, 8, 8, 8, 8, 8, 8, 8, 8, 8, 8, 8, 8, 8, 8, 8, 8, 8, 8, 8, 8, 8, 8, 8, 8, 8, 8, 8, 8, 8, 8, 8, 8, 8, 8, 8, 8, 8, 8, 8, 8, 8, 8, 8, 8, 8, 8, 8, 8, 8, 8, 8, 8, 8, 8, 8, 8, 8, 8, 8, 8, 8, 8, 8, 8, 8, 8, 8, 8, 8, 8, 8, 8, 8, 8, 8, 8, 8, 8, 8, 8, 8, 8, 8, 8, 8, 8, 8, 8, 8, 8, 8, 8, 8, 8, 8, 8, 8, 8, 8, 8, 8, 8, 8, 8, 8, 8, 8, 8, 8, 8, 8, 8, 8, 8, 8, 8, 8]⟩
end Go.Proofs.Ytoconobigciggaa.Fns

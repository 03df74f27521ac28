/- The program's types, as the engine wants them. No statement is proved here. Laid by eng.py. -/
import Derived.Test.YtpppedolgipikaaEng12
import Derived.Test.YtpppedolgipikaaProg
namespace Go.Proofs.Ytpppedolgipikaa.Fns
open Go Go.RowKit Go.Proofs Go.Proofs.Ytpppedolgipikaa.Eng
set_option linter.unusedVariables false
set_option maxRecDepth 100000
theorem mixed : Try.prog.follows .mixedOrders = true := by kernel_rfl
theorem ty3 : tdP Try.prog 3 (.int .i64) := ⟨by kernel_rfl, szP_mk (by kernel_rfl)⟩
theorem ty4 : tdP Try.prog 4 (.bool) := ⟨by kernel_rfl, szP_mk (by kernel_rfl)⟩
theorem ty5 : tdP Try.prog 5 (.int .u8) := ⟨by kernel_rfl, szP_mk (by kernel_rfl)⟩
theorem ty9 : tdP Try.prog 9 (.str) := ⟨by kernel_rfl, szP_mk (by kernel_rfl)⟩
theorem ty22 : tdP Try.prog 22 (.int .u64) := ⟨by kernel_rfl, szP_mk (by kernel_rfl)⟩
theorem ty23 : tdP Try.prog 23 (.arr .u64 4) := ⟨22, by kernel_rfl, by kernel_rfl, szP_mk (by kernel_rfl), szP_mk (by kernel_rfl), by kernel_rfl⟩
theorem ty24 : tdP Try.prog 24 (.arr .u64 4) := ⟨22, by kernel_rfl, by kernel_rfl, szP_mk (by kernel_rfl), szP_mk (by kernel_rfl), by kernel_rfl⟩
theorem ty27 : tdP Try.prog 27 (.arr .u64 4) := ⟨22, by kernel_rfl, by kernel_rfl, szP_mk (by kernel_rfl), szP_mk (by kernel_rfl), by kernel_rfl⟩
theorem ty37 : tdP Try.prog 37 (.int .u64) := ⟨by kernel_rfl, szP_mk (by kernel_rfl)⟩
theorem ty53 : tdP Try.prog 53 (.arr .u64 16) := ⟨22, by kernel_rfl, by kernel_rfl, szP_mk (by kernel_rfl), szP_mk (by kernel_rfl), by kernel_rfl⟩
theorem ty54 : tdP Try.prog 54 (.arr .u64 33) := ⟨22, by kernel_rfl, by kernel_rfl, szP_mk (by kernel_rfl), szP_mk (by kernel_rfl), by kernel_rfl⟩
theorem ty55 : tdP Try.prog 55 (.arr .u64 8) := ⟨22, by kernel_rfl, by kernel_rfl, szP_mk (by kernel_rfl), szP_mk (by kernel_rfl), by kernel_rfl⟩
theorem ty56 : tdP Try.prog 56 (.arr .i64 256) := ⟨3, by kernel_rfl, by kernel_rfl, szP_mk (by kernel_rfl), szP_mk (by kernel_rfl), by kernel_rfl⟩
theorem ty59 : tdP Try.prog 59 (.sl .i64) := ⟨3, by kernel_rfl, by kernel_rfl, szP_mk (by kernel_rfl), szP_mk (by kernel_rfl)⟩
theorem ty61 : tdP Try.prog 61 (.err) := ⟨methodsOf Try.prog 61, by kernel_rfl, szP_mk (by kernel_rfl)⟩
theorem ty69 : tdP Try.prog 69 (.int .i64) := ⟨by kernel_rfl, szP_mk (by kernel_rfl)⟩
def tys : List (Nat × TD) := [(3, .int .i64), (4, .bool), (5, .int .u8), (9, .str), (22, .int .u64), (23, .arr .u64 4), (24, .arr .u64 4), (27, .arr .u64 4), (37, .int .u64), (53, .arr .u64 16), (54, .arr .u64 33), (55, .arr .u64 8), (56, .arr .i64 256), (59, .sl .i64), (61, .err), (69, .int .i64)]
theorem tok (rt : List (Nat × Nat)) : TOK Try.prog ⟨tyOf tys, rt⟩ := tyOf_ok (fun p hp => by
  simp only [tys, List.mem_cons, List.not_mem_nil, or_false] at hp
  rcases hp with rfl | rfl | rfl | rfl | rfl | rfl | rfl | rfl | rfl | rfl | rfl | rfl | rfl | rfl | rfl | rfl
  · exact ty3
  · exact ty4
  · exact ty5
  · exact ty9
  · exact ty22
  · exact ty23
  · exact ty24
  · exact ty27
  · exact ty37
  · exact ty53
  · exact ty54
  · exact ty55
  · exact ty56
  · exact ty59
  · exact ty61
  · exact ty69) rt
def str0 : ByteArray := ⟨#[0, 1, 2, 2, 3, 3, 3, 3, 4, 4, 4, 4, 4, 4, 4, 4, 5, 5, 5, 5, 5, 5, 5, 5, 5, 5, 5, 5, 5, 5, 5, 5, 6, 6, 6, 6, 6, 6, 6, 6, 6, 6, 6, 6, 6, 6, 6, 6, 6, 6, 6, 6, 6, 6, 6, 6, 6, 6, 6, 6, 6, 6, 6, 6, 7, 7, 7, 7, 7, 7, 7, 7, 7, 7, 7, 7, 7, 7, 7, 7, 7, 7, 7, 7, 7, 7, 7, 7, 7, 7, 7, 7, 7, 7, 7, 7, 7, 7, 7, 7, 7, 7, 7, 7, 7, 7, 7, 7, 7, 7, 7, 7, 7, 7, 7, 7, 7, 7, 7, 7, 7, 7, 7, 7, 7, 7, 7, 7, 8, 8, 8, 8, 8, 8, 8, 8, 8, 8, 8, 8, 8, 8, 8, 8, 8, 8, 8, 8, 8, 8, 8, 8, 8, 8, 8, 8, 8, 8, 8, 8, 8, 8, 8, 8, 8, 8, 8, 8, 8, 8, 8, 8, 8, 8, 8, 8, 8, 8, 8, 8, 8, 8, 8, 8, 8, 8, 8, 8, 8, 8, 8, 8, 8, 8, 8, 8, 8, 8, 8, 8, 8, 8, 8, 8, 8, 8, 8, 8, 8, 8, 8, 8, 8, 8, 8, 8, 8, 8, 8, 8, 8, 8, 8, 8, 8, 8, 8, 8, 8, 8, 8, 8, 8, 8, 8, 8, 8, 8, 8, 8, 8, 8, 8, 8, 8, 8, 8, 8, 8, 8, 8, 8, 8, 8, 8, 8]⟩
end Go.Proofs.Ytpppedolgipikaa.Fns

/- The program's types, as the engine wants them. No statement is proved here. Laid by eng.py. -/
import Derived.Test.YtoconobigciggaaDoorEng12
import Derived.Test.YtoconobigciggaaDoorProg
import Derived.Test.YtoconobigciggaaDoorNum
namespace Go.Proofs.YtoconobigciggaaDoor.Fns
open Go Go.RowKit Go.Proofs Go.Proofs.YtoconobigciggaaDoor.Eng Go.Proofs.YtoconobigciggaaDoor.Num
set_option linter.unusedVariables false
set_option maxRecDepth 100000
theorem mixed : Tryd.prog.follows .mixedOrders = true := by kernel_rfl
theorem ty3 : tdP Tryd.prog 3 (.int .i64) := ⟨by kernel_rfl, szP_mk (by kernel_rfl)⟩
theorem ty5 : tdP Tryd.prog 5 (.int .u8) := ⟨by kernel_rfl, szP_mk (by kernel_rfl)⟩
theorem ty9 : tdP Tryd.prog 9 (.str) := ⟨by kernel_rfl, szP_mk (by kernel_rfl)⟩
theorem ty22 : tdP Tryd.prog 22 (.int .u64) := ⟨by kernel_rfl, szP_mk (by kernel_rfl)⟩
theorem ty23 : tdP Tryd.prog 23 (.arr .u64 4) := ⟨22, by kernel_rfl, by kernel_rfl, szP_mk (by kernel_rfl), szP_mk (by kernel_rfl), by kernel_rfl⟩
theorem ty24 : tdP Tryd.prog 24 (.arr .u64 4) := ⟨22, by kernel_rfl, by kernel_rfl, szP_mk (by kernel_rfl), szP_mk (by kernel_rfl), by kernel_rfl⟩
theorem ty26 : tdP Tryd.prog 26 (.err) := ⟨methodsOf Tryd.prog 26, by kernel_rfl, szP_mk (by kernel_rfl)⟩
theorem ty29 : tdP Tryd.prog 29 (.sl .u32 62) := ⟨by kernel_rfl, by kernel_rfl, szP_mk (by kernel_rfl), szP_mk (by kernel_rfl), by kernel_rfl⟩
theorem ty30 : tdP Tryd.prog 30 (.sl .u32 62) := ⟨by kernel_rfl, by kernel_rfl, szP_mk (by kernel_rfl), szP_mk (by kernel_rfl), by kernel_rfl⟩
theorem ty55 : tdP Tryd.prog 55 (.int .i64) := ⟨by kernel_rfl, szP_mk (by kernel_rfl)⟩
theorem ty62 : tdP Tryd.prog 62 (.int .u32) := ⟨by kernel_rfl, szP_mk (by kernel_rfl)⟩
theorem ty89 : tdP Tryd.prog 89 (.arr .u64 8) := ⟨22, by kernel_rfl, by kernel_rfl, szP_mk (by kernel_rfl), szP_mk (by kernel_rfl), by kernel_rfl⟩
def tys : List (Nat × TD) := [(3, .int .i64), (5, .int .u8), (9, .str), (22, .int .u64), (23, .arr .u64 4), (24, .arr .u64 4), (26, .err), (29, .sl .u32 62), (30, .sl .u32 62), (55, .int .i64), (62, .int .u32), (89, .arr .u64 8)]
theorem tok (rt : List (Nat × Nat)) (kl : List Nat) : TOK Tryd.prog ⟨tyOf tys, rt, kl⟩ := tyOf_ok (fun p hp => by
  simp only [tys, List.mem_cons, List.not_mem_nil, or_false] at hp
  rcases hp with rfl | rfl | rfl | rfl | rfl | rfl | rfl | rfl | rfl | rfl | rfl | rfl
  · exact ty3
  · exact ty5
  · exact ty9
  · exact ty22
  · exact ty23
  · exact ty24
  · exact ty26
  · exact ty29
  · exact ty30
  · exact ty55
  · exact ty62
  · exact ty89) rt kl
def str0 : ByteArray := ⟨#[0, 1, 2, 2, 3, 3, 3, 3, 4, 4, 4, 4, 4, 4, 4, 4, 5, 5, 5, 5, 5, 5, 5, 5, 5, 5, 5, 5, 5, 5, 5, 5, 6, 6, 6, 6, 6, 6, 6, 6, 6, 6, 6, 6, 6, 6, 6, 6, 6, 6, 6, 6, 6, 6, 6, 6, 6, 6, 6, 6, 6, 6, 6, 6, 7, 7, 7, 7, 7, 7, 7, 7, 7, 7, 7, 7, 7, 7, 7, 7, 7, 7, 7, 7, 7, 7, 7, 7, 7, 7, 7, 7, 7, 7, 7, 7, 7, 7, 7, 7, 7, 7, 7, 7, 7, 7, 7, 7, 7, 7, 7, 7, 7, 7, 7, 7, 7, 7, 7, 7, 7, 7, 7, 7, 7, 7, 7, 7, 8, 8, 8, 8, 8, 8, 8, 8, 8, 8, 8, 8, 8, 8, 8, 8, 8, 8, 8, 8, 8, 8, 8, 8, 8, 8, 8, 8, 8, 8, 8, 8, 8, 8, 8, 8, 8, 8, 8, 8, 8, 8, 8, 8, 8, 8, 8, 8, 8, 8, 8, 8, 8, 8, 8, 8, 8, 8, 8, 8, 8, 8, 8, 8, 8, 8, 8, 8, 8, 8, 8, 8, 8, 8, 8, 8, 8, 8, 8, 8, 8, 8, 8, 8, 8, 8, 8, 8, 8, 8, 8, 8, 8, 8, 8, 8, 8, 8, 8, 8, 8, 8, 8, 8, 8, 8, 8, 8, 8, 8, 8, 8, 8, 8, 8, 8, 8, 8, 8, 8, 8, 8, 8, 8, 8, 8, 8, 8]⟩
end Go.Proofs.YtoconobigciggaaDoor.Fns

/- The program's types, as the engine wants them. No statement is proved here. Laid by eng.py. -/
import Derived.Test.YtkipjjijaphjpaaEng12
import Derived.Test.YtkipjjijaphjpaaProg
namespace Go.Proofs.Ytkipjjijaphjpaa.Fns
open Go Go.RowKit Go.Proofs Go.Proofs.Ytkipjjijaphjpaa.Eng
set_option linter.unusedVariables false
set_option maxRecDepth 100000
theorem mixed : Try.prog.follows .mixedOrders = true := by kernel_rfl
theorem ty2 : tdP Try.prog 2 (.int .i64) := ⟨by kernel_rfl, szP_mk (by kernel_rfl)⟩
theorem ty3 : tdP Try.prog 3 (.int .i64) := ⟨by kernel_rfl, szP_mk (by kernel_rfl)⟩
theorem ty4 : tdP Try.prog 4 (.bool) := ⟨by kernel_rfl, szP_mk (by kernel_rfl)⟩
theorem ty22 : tdP Try.prog 22 (.int .u64) := ⟨by kernel_rfl, szP_mk (by kernel_rfl)⟩
theorem ty25 : tdP Try.prog 25 (.int .u8) := ⟨by kernel_rfl, szP_mk (by kernel_rfl)⟩
theorem ty43 : tdP Try.prog 43 (.st [.bool false, .int .i64 0, .int .i64 0, .int .u64 0]) := tdP_st (fs := fieldsOf Try.prog 43) (by kernel_rfl) (by kernel_rfl) (by kernel_rfl) (szP_mk (by kernel_rfl)) rfl
theorem ty46 : tdP Try.prog 46 (.sl .u32 56) := ⟨by kernel_rfl, by kernel_rfl, szP_mk (by kernel_rfl), szP_mk (by kernel_rfl), by kernel_rfl⟩
theorem ty48 : tdP Try.prog 48 (.st [.bool false, .int .i64 0, .slice none 0 0]) := tdP_st (fs := fieldsOf Try.prog 48) (by kernel_rfl) (by kernel_rfl) (by kernel_rfl) (szP_mk (by kernel_rfl)) rfl
theorem ty52 : tdP Try.prog 52 (.sl .i64 3) := ⟨by kernel_rfl, by kernel_rfl, szP_mk (by kernel_rfl), szP_mk (by kernel_rfl), by kernel_rfl⟩
theorem ty53 : tdP Try.prog 53 (.st [.bool false, .int .i64 0, .int .i64 0, .int .u64 0]) := tdP_st (fs := fieldsOf Try.prog 53) (by kernel_rfl) (by kernel_rfl) (by kernel_rfl) (szP_mk (by kernel_rfl)) rfl
theorem ty56 : tdP Try.prog 56 (.int .u32) := ⟨by kernel_rfl, szP_mk (by kernel_rfl)⟩
def tys : List (Nat × TD) := [(2, .int .i64), (3, .int .i64), (4, .bool), (22, .int .u64), (25, .int .u8), (43, .st [.bool false, .int .i64 0, .int .i64 0, .int .u64 0]), (46, .sl .u32 56), (48, .st [.bool false, .int .i64 0, .slice none 0 0]), (52, .sl .i64 3), (53, .st [.bool false, .int .i64 0, .int .i64 0, .int .u64 0]), (56, .int .u32)]
theorem tok (rt : List (Nat × Nat)) (kl : List Nat) : TOK Try.prog ⟨tyOf tys, rt, kl⟩ := tyOf_ok (fun p hp => by
  simp only [tys, List.mem_cons, List.not_mem_nil, or_false] at hp
  rcases hp with rfl | rfl | rfl | rfl | rfl | rfl | rfl | rfl | rfl | rfl | rfl
  · exact ty2
  · exact ty3
  · exact ty4
  · exact ty22
  · exact ty25
  · exact ty43
  · exact ty46
  · exact ty48
  · exact ty52
  · exact ty53
  · exact ty56) rt kl
end Go.Proofs.Ytkipjjijaphjpaa.Fns

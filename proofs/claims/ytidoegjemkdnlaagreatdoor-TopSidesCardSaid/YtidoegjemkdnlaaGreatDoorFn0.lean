/- The program's types, as the engine wants them. No statement is proved here. Laid by eng.py. -/
import Derived.Test.YtidoegjemkdnlaaGreatDoorEng12
import Derived.Test.YtidoegjemkdnlaaGreatDoorProg
import Derived.Test.YtidoegjemkdnlaaGreatDoorTz
import Derived.Test.YtidoegjemkdnlaaGreatDoorSlc
import Derived.Test.YtidoegjemkdnlaaGreatDoorTxw
import Derived.Test.YtidoegjemkdnlaaGreatDoorScw
namespace Go.Proofs.YtidoegjemkdnlaaGreatDoor.Fns
open Go Go.RowKit Go.Proofs Go.Proofs.YtidoegjemkdnlaaGreatDoor.Eng Go.Proofs.YtidoegjemkdnlaaGreatDoor.Num Go.Proofs.YtidoegjemkdnlaaGreatDoor.Slc
set_option linter.unusedVariables false
set_option maxRecDepth 100000
theorem mixed : Tryz.prog.follows .mixedOrders = true := by kernel_rfl
theorem ty2 : tdP Tryz.prog 2 (.int .i64) := ⟨by kernel_rfl, szP_mk (by kernel_rfl)⟩
theorem ty3 : tdP Tryz.prog 3 (.int .i64) := ⟨by kernel_rfl, szP_mk (by kernel_rfl)⟩
theorem ty4 : tdP Tryz.prog 4 (.bool) := ⟨by kernel_rfl, szP_mk (by kernel_rfl)⟩
theorem ty5 : tdP Tryz.prog 5 (.int .u8) := ⟨by kernel_rfl, szP_mk (by kernel_rfl)⟩
theorem ty9 : tdP Tryz.prog 9 (.str) := ⟨by kernel_rfl, szP_mk (by kernel_rfl)⟩
theorem ty22 : tdP Tryz.prog 22 (.int .u64) := ⟨by kernel_rfl, szP_mk (by kernel_rfl)⟩
theorem ty23 : tdP Tryz.prog 23 (.arr .u64 3) := ⟨22, by kernel_rfl, by kernel_rfl, szP_mk (by kernel_rfl), szP_mk (by kernel_rfl), by kernel_rfl⟩
theorem ty24 : tdP Tryz.prog 24 (.int .u64) := ⟨by kernel_rfl, szP_mk (by kernel_rfl)⟩
theorem ty25 : tdP Tryz.prog 25 (.int .u8) := ⟨by kernel_rfl, szP_mk (by kernel_rfl)⟩
theorem ty28 : tdP Tryz.prog 28 (.int .i64) := ⟨by kernel_rfl, szP_mk (by kernel_rfl)⟩
theorem ty38 : tdP Tryz.prog 38 (.err) := ⟨methodsOf Tryz.prog 38, by kernel_rfl, szP_mk (by kernel_rfl)⟩
theorem ty48 : tdP Tryz.prog 48 (.arr .u64 4) := ⟨22, by kernel_rfl, by kernel_rfl, szP_mk (by kernel_rfl), szP_mk (by kernel_rfl), by kernel_rfl⟩
theorem ty50 : tdP Tryz.prog 50 (.sta [.one (.bool false), .one (.int .i64 0), .arr .u64 4, .one (.bool false)]) := tdP_sta (fs := fieldsOf Tryz.prog 50) (by kernel_rfl) (by kernel_rfl) (szP_mk (by kernel_rfl))
theorem ty60 : tdP Tryz.prog 60 (.st [.bool false, .int .i64 0, .int .i64 0, .int .u64 0]) := tdP_st (fs := fieldsOf Tryz.prog 60) (by kernel_rfl) (by kernel_rfl) (by kernel_rfl) (szP_mk (by kernel_rfl)) rfl (by kernel_rfl)
theorem ty74 : tdP Tryz.prog 74 (.sl .u32 142) := ⟨by kernel_rfl, by kernel_rfl, szP_mk (by kernel_rfl), szP_mk (by kernel_rfl), by kernel_rfl⟩
theorem ty76 : tdP Tryz.prog 76 (.st [.slice none 0 0, .slice none 0 0]) := tdP_st (fs := fieldsOf Tryz.prog 76) (by kernel_rfl) (by kernel_rfl) (by kernel_rfl) (szP_mk (by kernel_rfl)) rfl (by kernel_rfl)
theorem ty80 : tdP Tryz.prog 80 (.st [.string ⟨#[]⟩, .int .i64 0]) := tdP_st (fs := fieldsOf Tryz.prog 80) (by kernel_rfl) (by kernel_rfl) (by kernel_rfl) (szP_mk (by kernel_rfl)) rfl (by kernel_rfl)
theorem ty83 : tdP Tryz.prog 83 (.int .i64) := ⟨by kernel_rfl, szP_mk (by kernel_rfl)⟩
theorem ty86 : tdP Tryz.prog 86 (.sl .u8 5) := ⟨by kernel_rfl, by kernel_rfl, szP_mk (by kernel_rfl), szP_mk (by kernel_rfl), by kernel_rfl⟩
theorem ty88 : tdP Tryz.prog 88 (.st [.slice none 0 0, .int .i64 0, .int .i64 0, .bool false]) := tdP_st (fs := fieldsOf Tryz.prog 88) (by kernel_rfl) (by kernel_rfl) (by kernel_rfl) (szP_mk (by kernel_rfl)) rfl (by kernel_rfl)
theorem ty92 : tdP Tryz.prog 92 (.sl .u64 22) := ⟨by kernel_rfl, by kernel_rfl, szP_mk (by kernel_rfl), szP_mk (by kernel_rfl), by kernel_rfl⟩
theorem ty136 : tdP Tryz.prog 136 (.arr .u64 8) := ⟨22, by kernel_rfl, by kernel_rfl, szP_mk (by kernel_rfl), szP_mk (by kernel_rfl), by kernel_rfl⟩
theorem ty142 : tdP Tryz.prog 142 (.int .u32) := ⟨by kernel_rfl, szP_mk (by kernel_rfl)⟩
theorem ty182 : tdP Tryz.prog 182 (.arr .u32 3) := ⟨142, by kernel_rfl, by kernel_rfl, szP_mk (by kernel_rfl), szP_mk (by kernel_rfl), by kernel_rfl⟩
theorem ty183 : tdP Tryz.prog 183 (.arr .u32 2) := ⟨142, by kernel_rfl, by kernel_rfl, szP_mk (by kernel_rfl), szP_mk (by kernel_rfl), by kernel_rfl⟩
def tys : List (Nat × TD) := [(2, .int .i64), (3, .int .i64), (4, .bool), (5, .int .u8), (9, .str), (22, .int .u64), (23, .arr .u64 3), (24, .int .u64), (25, .int .u8), (28, .int .i64), (38, .err), (48, .arr .u64 4), (50, .sta [.one (.bool false), .one (.int .i64 0), .arr .u64 4, .one (.bool false)]), (60, .st [.bool false, .int .i64 0, .int .i64 0, .int .u64 0]), (74, .sl .u32 142), (76, .st [.slice none 0 0, .slice none 0 0]), (80, .st [.string ⟨#[]⟩, .int .i64 0]), (83, .int .i64), (86, .sl .u8 5), (88, .st [.slice none 0 0, .int .i64 0, .int .i64 0, .bool false]), (92, .sl .u64 22), (136, .arr .u64 8), (142, .int .u32), (182, .arr .u32 3), (183, .arr .u32 2)]
theorem tok (rt : List (Nat × Nat)) (kl : List Nat) {wr : Nat → Option (∀ R : Type, TypeId → List AV → (List Int → AV → Option R) → Option R)} (hw : WrsOK Tryz.prog wr) : TOK Tryz.prog ⟨tyOf tys, rt, kl, wr⟩ := tyOf_ok (fun p hp => by
  simp only [tys, List.mem_cons, List.not_mem_nil, or_false] at hp
  rcases hp with rfl | rfl | rfl | rfl | rfl | rfl | rfl | rfl | rfl | rfl | rfl | rfl | rfl | rfl | rfl | rfl | rfl | rfl | rfl | rfl | rfl | rfl | rfl | rfl | rfl
  · exact ty2
  · exact ty3
  · exact ty4
  · exact ty5
  · exact ty9
  · exact ty22
  · exact ty23
  · exact ty24
  · exact ty25
  · exact ty28
  · exact ty38
  · exact ty48
  · exact ty50
  · exact ty60
  · exact ty74
  · exact ty76
  · exact ty80
  · exact ty83
  · exact ty86
  · exact ty88
  · exact ty92
  · exact ty136
  · exact ty142
  · exact ty182
  · exact ty183) rt kl hw
def str0 : ByteArray := ⟨#[0, 1, 2, 2, 3, 3, 3, 3, 4, 4, 4, 4, 4, 4, 4, 4, 5, 5, 5, 5, 5, 5, 5, 5, 5, 5, 5, 5, 5, 5, 5, 5, 6, 6, 6, 6, 6, 6, 6, 6, 6, 6, 6, 6, 6, 6, 6, 6, 6, 6, 6, 6, 6, 6, 6, 6, 6, 6, 6, 6, 6, 6, 6, 6, 7, 7, 7, 7, 7, 7, 7, 7, 7, 7, 7, 7, 7, 7, 7, 7, 7, 7, 7, 7, 7, 7, 7, 7, 7, 7, 7, 7, 7, 7, 7, 7, 7, 7, 7, 7, 7, 7, 7, 7, 7, 7, 7, 7, 7, 7, 7, 7, 7, 7, 7, 7, 7, 7, 7, 7, 7, 7, 7, 7, 7, 7, 7, 7, 8, 8, 8, 8, 8, 8, 8, 8, 8, 8, 8, 8, 8, 8, 8, 8, 8, 8, 8, 8, 8, 8, 8, 8, 8, 8, 8, 8, 8, 8, 8, 8, 8, 8, 8, 8, 8, 8, 8, 8, 8, 8, 8, 8, 8, 8, 8, 8, 8, 8, 8, 8, 8, 8, 8, 8, 8, 8, 8, 8, 8, 8, 8, 8, 8, 8, 8, 8, 8, 8, 8, 8, 8, 8, 8, 8, 8, 8, 8, 8, 8, 8, 8, 8, 8, 8, 8, 8, 8, 8, 8, 8, 8, 8, 8, 8, 8, 8, 8, 8, 8, 8, 8, 8, 8, 8, 8, 8, 8, 8, 8, 8, 8, 8, 8, 8, 8, 8, 8, 8, 8, 8, 8, 8, 8, 8, 8, 8]⟩
def str1 : ByteArray := ⟨#[115, 116, 114, 105, 110, 103, 115, 58, 32, 110, 101, 103, 97, 116, 105, 118, 101, 32, 82, 101, 112, 101, 97, 116, 32, 99, 111, 117, 110, 116]⟩
def str2 : ByteArray := ⟨#[115, 116, 114, 105, 110, 103, 115, 58, 32, 82, 101, 112, 101, 97, 116, 32, 111, 117, 116, 112, 117, 116, 32, 108, 101, 110, 103, 116, 104, 32, 111, 118, 101, 114, 102, 108, 111, 119]⟩
def str3 : ByteArray := ⟨#[32, 32, 32, 32, 32, 32, 32, 32, 32, 32, 32, 32, 32, 32, 32, 32, 32, 32, 32, 32, 32, 32, 32, 32, 32, 32, 32, 32, 32, 32, 32, 32, 32, 32, 32, 32, 32, 32, 32, 32, 32, 32, 32, 32, 32, 32, 32, 32, 32, 32, 32, 32, 32, 32, 32, 32, 32, 32, 32, 32, 32, 32, 32, 32, 32, 32, 32, 32, 32, 32, 32, 32, 32, 32, 32, 32, 32, 32, 32, 32, 32, 32, 32, 32, 32, 32, 32, 32, 32, 32, 32, 32, 32, 32, 32, 32, 32, 32, 32, 32, 32, 32, 32, 32, 32, 32, 32, 32, 32, 32, 32, 32, 32, 32, 32, 32, 32, 32, 32, 32, 32, 32, 32, 32, 32, 32, 32, 32]⟩
def str4 : ByteArray := ⟨#[45, 45, 45, 45, 45, 45, 45, 45, 45, 45, 45, 45, 45, 45, 45, 45, 45, 45, 45, 45, 45, 45, 45, 45, 45, 45, 45, 45, 45, 45, 45, 45, 45, 45, 45, 45, 45, 45, 45, 45, 45, 45, 45, 45, 45, 45, 45, 45, 45, 45, 45, 45, 45, 45, 45, 45, 45, 45, 45, 45, 45, 45, 45, 45, 45, 45, 45, 45, 45, 45, 45, 45, 45, 45, 45, 45, 45, 45, 45, 45, 45, 45, 45, 45, 45, 45, 45, 45, 45, 45, 45, 45, 45, 45, 45, 45, 45, 45, 45, 45, 45, 45, 45, 45, 45, 45, 45, 45, 45, 45, 45, 45, 45, 45, 45, 45, 45, 45, 45, 45, 45, 45, 45, 45, 45, 45, 45, 45]⟩
def str5 : ByteArray := ⟨#[48, 48, 48, 48, 48, 48, 48, 48, 48, 48, 48, 48, 48, 48, 48, 48, 48, 48, 48, 48, 48, 48, 48, 48, 48, 48, 48, 48, 48, 48, 48, 48, 48, 48, 48, 48, 48, 48, 48, 48, 48, 48, 48, 48, 48, 48, 48, 48, 48, 48, 48, 48, 48, 48, 48, 48, 48, 48, 48, 48, 48, 48, 48, 48]⟩
def str6 : ByteArray := ⟨#[61, 61, 61, 61, 61, 61, 61, 61, 61, 61, 61, 61, 61, 61, 61, 61, 61, 61, 61, 61, 61, 61, 61, 61, 61, 61, 61, 61, 61, 61, 61, 61, 61, 61, 61, 61, 61, 61, 61, 61, 61, 61, 61, 61, 61, 61, 61, 61, 61, 61, 61, 61, 61, 61, 61, 61, 61, 61, 61, 61, 61, 61, 61, 61, 61, 61, 61, 61, 61, 61, 61, 61, 61, 61, 61, 61, 61, 61, 61, 61, 61, 61, 61, 61, 61, 61, 61, 61, 61, 61, 61, 61, 61, 61, 61, 61, 61, 61, 61, 61, 61, 61, 61, 61, 61, 61, 61, 61, 61, 61, 61, 61, 61, 61, 61, 61, 61, 61, 61, 61, 61, 61, 61, 61, 61, 61, 61, 61]⟩
def str7 : ByteArray := ⟨#[9, 9, 9, 9, 9, 9, 9, 9, 9, 9, 9, 9, 9, 9, 9, 9, 9, 9, 9, 9, 9, 9, 9, 9, 9, 9, 9, 9, 9, 9, 9, 9, 9, 9, 9, 9, 9, 9, 9, 9, 9, 9, 9, 9, 9, 9, 9, 9, 9, 9, 9, 9, 9, 9, 9, 9, 9, 9, 9, 9, 9, 9, 9, 9]⟩
end Go.Proofs.YtidoegjemkdnlaaGreatDoor.Fns

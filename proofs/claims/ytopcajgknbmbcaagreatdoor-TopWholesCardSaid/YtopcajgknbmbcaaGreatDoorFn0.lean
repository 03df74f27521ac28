/- The program's types, as the engine wants them. No statement is proved here. Laid by eng.py. -/
import Derived.Test.YtopcajgknbmbcaaGreatDoorEng12
import Derived.Test.YtopcajgknbmbcaaGreatDoorProg
import Derived.Test.YtopcajgknbmbcaaGreatDoorTz
import Derived.Test.YtopcajgknbmbcaaGreatDoorSlc
import Derived.Test.YtopcajgknbmbcaaGreatDoorTxw
import Derived.Test.YtopcajgknbmbcaaGreatDoorScw
namespace Go.Proofs.YtopcajgknbmbcaaGreatDoor.Fns
open Go Go.RowKit Go.Proofs Go.Proofs.YtopcajgknbmbcaaGreatDoor.Eng Go.Proofs.YtopcajgknbmbcaaGreatDoor.Num Go.Proofs.YtopcajgknbmbcaaGreatDoor.Slc
set_option linter.unusedVariables false
set_option maxRecDepth 100000
theorem mixed : Tryz.prog.follows .mixedOrders = true := by kernel_rfl
theorem ty2 : tdP Tryz.prog 2 (.int .i64) := ⟨by kernel_rfl, szP_mk (by kernel_rfl)⟩
theorem ty3 : tdP Tryz.prog 3 (.int .i64) := ⟨by kernel_rfl, szP_mk (by kernel_rfl)⟩
theorem ty4 : tdP Tryz.prog 4 (.bool) := ⟨by kernel_rfl, szP_mk (by kernel_rfl)⟩
theorem ty5 : tdP Tryz.prog 5 (.int .u8) := ⟨by kernel_rfl, szP_mk (by kernel_rfl)⟩
theorem ty9 : tdP Tryz.prog 9 (.str) := ⟨by kernel_rfl, szP_mk (by kernel_rfl)⟩
theorem ty22 : tdP Tryz.prog 22 (.int .u64) := ⟨by kernel_rfl, szP_mk (by kernel_rfl)⟩
theorem ty23 : tdP Tryz.prog 23 (.int .u64) := ⟨by kernel_rfl, szP_mk (by kernel_rfl)⟩
theorem ty25 : tdP Tryz.prog 25 (.int .u8) := ⟨by kernel_rfl, szP_mk (by kernel_rfl)⟩
theorem ty29 : tdP Tryz.prog 29 (.int .i64) := ⟨by kernel_rfl, szP_mk (by kernel_rfl)⟩
theorem ty39 : tdP Tryz.prog 39 (.err) := ⟨methodsOf Tryz.prog 39, by kernel_rfl, szP_mk (by kernel_rfl)⟩
theorem ty43 : tdP Tryz.prog 43 (.arr .u64 4) := ⟨22, by kernel_rfl, by kernel_rfl, szP_mk (by kernel_rfl), szP_mk (by kernel_rfl), by kernel_rfl⟩
theorem ty45 : tdP Tryz.prog 45 (.sta [.arr .u64 4, .arr .u64 4, .one (.int .i64 0), .one (.bool false)]) := tdP_sta (fs := fieldsOf Tryz.prog 45) (by kernel_rfl) (by kernel_rfl) (szP_mk (by kernel_rfl))
theorem ty54 : tdP Tryz.prog 54 (.st [.bool false, .int .i64 0, .int .i64 0, .int .u64 0]) := tdP_st (fs := fieldsOf Tryz.prog 54) (by kernel_rfl) (by kernel_rfl) (by kernel_rfl) (szP_mk (by kernel_rfl)) rfl (by kernel_rfl)
theorem ty62 : tdP Tryz.prog 62 (.sta [.one (.bool false), .one (.int .i64 0), .arr .u64 4, .one (.bool false)]) := tdP_sta (fs := fieldsOf Tryz.prog 62) (by kernel_rfl) (by kernel_rfl) (szP_mk (by kernel_rfl))
theorem ty83 : tdP Tryz.prog 83 (.sl .u32 154) := ⟨by kernel_rfl, by kernel_rfl, szP_mk (by kernel_rfl), szP_mk (by kernel_rfl), by kernel_rfl⟩
theorem ty85 : tdP Tryz.prog 85 (.st [.slice none 0 0, .slice none 0 0]) := tdP_st (fs := fieldsOf Tryz.prog 85) (by kernel_rfl) (by kernel_rfl) (by kernel_rfl) (szP_mk (by kernel_rfl)) rfl (by kernel_rfl)
theorem ty89 : tdP Tryz.prog 89 (.st [.string ⟨#[]⟩, .int .i64 0]) := tdP_st (fs := fieldsOf Tryz.prog 89) (by kernel_rfl) (by kernel_rfl) (by kernel_rfl) (szP_mk (by kernel_rfl)) rfl (by kernel_rfl)
theorem ty92 : tdP Tryz.prog 92 (.int .i64) := ⟨by kernel_rfl, szP_mk (by kernel_rfl)⟩
theorem ty95 : tdP Tryz.prog 95 (.sl .u8 5) := ⟨by kernel_rfl, by kernel_rfl, szP_mk (by kernel_rfl), szP_mk (by kernel_rfl), by kernel_rfl⟩
theorem ty97 : tdP Tryz.prog 97 (.st [.slice none 0 0, .int .i64 0, .int .i64 0, .bool false]) := tdP_st (fs := fieldsOf Tryz.prog 97) (by kernel_rfl) (by kernel_rfl) (by kernel_rfl) (szP_mk (by kernel_rfl)) rfl (by kernel_rfl)
theorem ty114 : tdP Tryz.prog 114 (.sl .u64 22) := ⟨by kernel_rfl, by kernel_rfl, szP_mk (by kernel_rfl), szP_mk (by kernel_rfl), by kernel_rfl⟩
theorem ty121 : tdP Tryz.prog 121 (.st [.bool false, .int .u64 0, .bool false, .int .u8 0]) := tdP_st (fs := fieldsOf Tryz.prog 121) (by kernel_rfl) (by kernel_rfl) (by kernel_rfl) (szP_mk (by kernel_rfl)) rfl (by kernel_rfl)
theorem ty149 : tdP Tryz.prog 149 (.arr .u64 8) := ⟨22, by kernel_rfl, by kernel_rfl, szP_mk (by kernel_rfl), szP_mk (by kernel_rfl), by kernel_rfl⟩
theorem ty154 : tdP Tryz.prog 154 (.int .u32) := ⟨by kernel_rfl, szP_mk (by kernel_rfl)⟩
theorem ty193 : tdP Tryz.prog 193 (.arr .u32 3) := ⟨154, by kernel_rfl, by kernel_rfl, szP_mk (by kernel_rfl), szP_mk (by kernel_rfl), by kernel_rfl⟩
theorem ty194 : tdP Tryz.prog 194 (.arr .u32 2) := ⟨154, by kernel_rfl, by kernel_rfl, szP_mk (by kernel_rfl), szP_mk (by kernel_rfl), by kernel_rfl⟩
def tys : List (Nat × TD) := [(2, .int .i64), (3, .int .i64), (4, .bool), (5, .int .u8), (9, .str), (22, .int .u64), (23, .int .u64), (25, .int .u8), (29, .int .i64), (39, .err), (43, .arr .u64 4), (45, .sta [.arr .u64 4, .arr .u64 4, .one (.int .i64 0), .one (.bool false)]), (54, .st [.bool false, .int .i64 0, .int .i64 0, .int .u64 0]), (62, .sta [.one (.bool false), .one (.int .i64 0), .arr .u64 4, .one (.bool false)]), (83, .sl .u32 154), (85, .st [.slice none 0 0, .slice none 0 0]), (89, .st [.string ⟨#[]⟩, .int .i64 0]), (92, .int .i64), (95, .sl .u8 5), (97, .st [.slice none 0 0, .int .i64 0, .int .i64 0, .bool false]), (114, .sl .u64 22), (121, .st [.bool false, .int .u64 0, .bool false, .int .u8 0]), (149, .arr .u64 8), (154, .int .u32), (193, .arr .u32 3), (194, .arr .u32 2)]
theorem tok (rt : List (Nat × Nat)) (kl : List Nat) {wr : Nat → Option (∀ R : Type, TypeId → List AV → (List Int → AV → Option R) → Option R)} (hw : WrsOK Tryz.prog wr) : TOK Tryz.prog ⟨tyOf tys, rt, kl, wr⟩ := tyOf_ok (fun p hp => by
  simp only [tys, List.mem_cons, List.not_mem_nil, or_false] at hp
  rcases hp with rfl | rfl | rfl | rfl | rfl | rfl | rfl | rfl | rfl | rfl | rfl | rfl | rfl | rfl | rfl | rfl | rfl | rfl | rfl | rfl | rfl | rfl | rfl | rfl | rfl | rfl
  · exact ty2
  · exact ty3
  · exact ty4
  · exact ty5
  · exact ty9
  · exact ty22
  · exact ty23
  · exact ty25
  · exact ty29
  · exact ty39
  · exact ty43
  · exact ty45
  · exact ty54
  · exact ty62
  · exact ty83
  · exact ty85
  · exact ty89
  · exact ty92
  · exact ty95
  · exact ty97
  · exact ty114
  · exact ty121
  · exact ty149
  · exact ty154
  · exact ty193
  · exact ty194) rt kl hw
def str0 : ByteArray := ⟨#[0, 1, 2, 2, 3, 3, 3, 3, 4, 4, 4, 4, 4, 4, 4, 4, 5, 5, 5, 5, 5, 5, 5, 5, 5, 5, 5, 5, 5, 5, 5, 5, 6, 6, 6, 6, 6, 6, 6, 6, 6, 6, 6, 6, 6, 6, 6, 6, 6, 6, 6, 6, 6, 6, 6, 6, 6, 6, 6, 6, 6, 6, 6, 6, 7, 7, 7, 7, 7, 7, 7, 7, 7, 7, 7, 7, 7, 7, 7, 7, 7, 7, 7, 7, 7, 7, 7, 7, 7, 7, 7, 7, 7, 7, 7, 7, 7, 7, 7, 7, 7, 7, 7, 7, 7, 7, 7, 7, 7, 7, 7, 7, 7, 7, 7, 7, 7, 7, 7, 7, 7, 7, 7, 7, 7, 7, 7, 7, 8, 8, 8, 8, 8, 8, 8, 8, 8, 8, 8, 8, 8, 8, 8, 8, 8, 8, 8, 8, 8, 8, 8, 8, 8, 8, 8, 8, 8, 8, 8, 8, 8, 8, 8, 8, 8, 8, 8, 8, 8, 8, 8, 8, 8, 8, 8, 8, 8, 8, 8, 8, 8, 8, 8, 8, 8, 8, 8, 8, 8, 8, 8, 8, 8, 8, 8, 8, 8, 8, 8, 8, 8, 8, 8, 8, 8, 8, 8, 8, 8, 8, 8, 8, 8, 8, 8, 8, 8, 8, 8, 8, 8, 8, 8, 8, 8, 8, 8, 8, 8, 8, 8, 8, 8, 8, 8, 8, 8, 8, 8, 8, 8, 8, 8, 8, 8, 8, 8, 8, 8, 8, 8, 8, 8, 8, 8, 8]⟩
def str1 : ByteArray := ⟨#[115, 116, 114, 105, 110, 103, 115, 58, 32, 110, 101, 103, 97, 116, 105, 118, 101, 32, 82, 101, 112, 101, 97, 116, 32, 99, 111, 117, 110, 116]⟩
def str2 : ByteArray := ⟨#[115, 116, 114, 105, 110, 103, 115, 58, 32, 82, 101, 112, 101, 97, 116, 32, 111, 117, 116, 112, 117, 116, 32, 108, 101, 110, 103, 116, 104, 32, 111, 118, 101, 114, 102, 108, 111, 119]⟩
def str3 : ByteArray := ⟨#[32, 32, 32, 32, 32, 32, 32, 32, 32, 32, 32, 32, 32, 32, 32, 32, 32, 32, 32, 32, 32, 32, 32, 32, 32, 32, 32, 32, 32, 32, 32, 32, 32, 32, 32, 32, 32, 32, 32, 32, 32, 32, 32, 32, 32, 32, 32, 32, 32, 32, 32, 32, 32, 32, 32, 32, 32, 32, 32, 32, 32, 32, 32, 32, 32, 32, 32, 32, 32, 32, 32, 32, 32, 32, 32, 32, 32, 32, 32, 32, 32, 32, 32, 32, 32, 32, 32, 32, 32, 32, 32, 32, 32, 32, 32, 32, 32, 32, 32, 32, 32, 32, 32, 32, 32, 32, 32, 32, 32, 32, 32, 32, 32, 32, 32, 32, 32, 32, 32, 32, 32, 32, 32, 32, 32, 32, 32, 32]⟩
def str4 : ByteArray := ⟨#[45, 45, 45, 45, 45, 45, 45, 45, 45, 45, 45, 45, 45, 45, 45, 45, 45, 45, 45, 45, 45, 45, 45, 45, 45, 45, 45, 45, 45, 45, 45, 45, 45, 45, 45, 45, 45, 45, 45, 45, 45, 45, 45, 45, 45, 45, 45, 45, 45, 45, 45, 45, 45, 45, 45, 45, 45, 45, 45, 45, 45, 45, 45, 45, 45, 45, 45, 45, 45, 45, 45, 45, 45, 45, 45, 45, 45, 45, 45, 45, 45, 45, 45, 45, 45, 45, 45, 45, 45, 45, 45, 45, 45, 45, 45, 45, 45, 45, 45, 45, 45, 45, 45, 45, 45, 45, 45, 45, 45, 45, 45, 45, 45, 45, 45, 45, 45, 45, 45, 45, 45, 45, 45, 45, 45, 45, 45, 45]⟩
def str5 : ByteArray := ⟨#[48, 48, 48, 48, 48, 48, 48, 48, 48, 48, 48, 48, 48, 48, 48, 48, 48, 48, 48, 48, 48, 48, 48, 48, 48, 48, 48, 48, 48, 48, 48, 48, 48, 48, 48, 48, 48, 48, 48, 48, 48, 48, 48, 48, 48, 48, 48, 48, 48, 48, 48, 48, 48, 48, 48, 48, 48, 48, 48, 48, 48, 48, 48, 48]⟩
def str6 : ByteArray := ⟨#[61, 61, 61, 61, 61, 61, 61, 61, 61, 61, 61, 61, 61, 61, 61, 61, 61, 61, 61, 61, 61, 61, 61, 61, 61, 61, 61, 61, 61, 61, 61, 61, 61, 61, 61, 61, 61, 61, 61, 61, 61, 61, 61, 61, 61, 61, 61, 61, 61, 61, 61, 61, 61, 61, 61, 61, 61, 61, 61, 61, 61, 61, 61, 61, 61, 61, 61, 61, 61, 61, 61, 61, 61, 61, 61, 61, 61, 61, 61, 61, 61, 61, 61, 61, 61, 61, 61, 61, 61, 61, 61, 61, 61, 61, 61, 61, 61, 61, 61, 61, 61, 61, 61, 61, 61, 61, 61, 61, 61, 61, 61, 61, 61, 61, 61, 61, 61, 61, 61, 61, 61, 61, 61, 61, 61, 61, 61, 61]⟩
def str7 : ByteArray := ⟨#[9, 9, 9, 9, 9, 9, 9, 9, 9, 9, 9, 9, 9, 9, 9, 9, 9, 9, 9, 9, 9, 9, 9, 9, 9, 9, 9, 9, 9, 9, 9, 9, 9, 9, 9, 9, 9, 9, 9, 9, 9, 9, 9, 9, 9, 9, 9, 9, 9, 9, 9, 9, 9, 9, 9, 9, 9, 9, 9, 9, 9, 9, 9, 9]⟩
end Go.Proofs.YtopcajgknbmbcaaGreatDoor.Fns

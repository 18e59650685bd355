/-
  FACTS ON THE PROGRAM's TYPES (printed by a program).
-/
import Derived.Test.YtdifgaapdnbliaaGreatDoorProg
import Derived.Test.YtdifgaapdnbliaaGreatDoorR04
set_option linter.unusedSimpArgs false
set_option linter.unusedVariables false
set_option linter.unusedSectionVars false
namespace Ab
open Go Go.Proofs

theorem tsa_0 : tsa Tryz.prog 0 = some (1, false) := by kernel_rfl
theorem telem_0 : telem Tryz.prog 0 = none := by kernel_rfl
theorem tstr_0 : tstr Tryz.prog 0 = false := by kernel_rfl
theorem tintk_0 : tintk Tryz.prog 0 = none := by kernel_rfl
theorem tcell_0 : tcell Tryz.prog 0 = 0 := by kernel_rfl
theorem tbool_0 : tbool Tryz.prog 0 = false := by kernel_rfl
theorem tkind_0 : tkind Tryz.prog 0 = 0 := by kernel_rfl
theorem tby_0 : tby Tryz.prog 0 = 0 := by kernel_rfl
theorem tsa_1 : tsa Tryz.prog 1 = some (1, false) := by kernel_rfl
theorem telem_1 : telem Tryz.prog 1 = none := by kernel_rfl
theorem tstr_1 : tstr Tryz.prog 1 = false := by kernel_rfl
theorem tintk_1 : tintk Tryz.prog 1 = none := by kernel_rfl
theorem tcell_1 : tcell Tryz.prog 1 = 0 := by kernel_rfl
theorem tbool_1 : tbool Tryz.prog 1 = false := by kernel_rfl
theorem tkind_1 : tkind Tryz.prog 1 = 4 := by kernel_rfl
theorem tby_1 : tby Tryz.prog 1 = 8 := by kernel_rfl
theorem tz_1 : tz Tryz.prog 1 = some (.nilf) := by kernel_rfl
theorem tzk_1 : tzk Tryz.prog 1 1 = true := by kernel_rfl
theorem tsa_2 : tsa Tryz.prog 2 = some (1, false) := by kernel_rfl
theorem telem_2 : telem Tryz.prog 2 = none := by kernel_rfl
theorem tstr_2 : tstr Tryz.prog 2 = false := by kernel_rfl
theorem tintk_2 : tintk Tryz.prog 2 = some .i64 := by kernel_rfl
theorem tcell_2 : tcell Tryz.prog 2 = 1 := by kernel_rfl
theorem tbool_2 : tbool Tryz.prog 2 = false := by kernel_rfl
theorem tkind_2 : tkind Tryz.prog 2 = 0 := by kernel_rfl
theorem tby_2 : tby Tryz.prog 2 = 8 := by kernel_rfl
theorem tz_2 : tz Tryz.prog 2 = some (.int .i64 0) := by kernel_rfl
theorem tzk_2 : tzk Tryz.prog 2 1 = true := by kernel_rfl
theorem tsa_3 : tsa Tryz.prog 3 = some (1, false) := by kernel_rfl
theorem telem_3 : telem Tryz.prog 3 = none := by kernel_rfl
theorem tstr_3 : tstr Tryz.prog 3 = false := by kernel_rfl
theorem tintk_3 : tintk Tryz.prog 3 = some .i64 := by kernel_rfl
theorem tcell_3 : tcell Tryz.prog 3 = 1 := by kernel_rfl
theorem tbool_3 : tbool Tryz.prog 3 = false := by kernel_rfl
theorem tkind_3 : tkind Tryz.prog 3 = 0 := by kernel_rfl
theorem tby_3 : tby Tryz.prog 3 = 8 := by kernel_rfl
theorem tz_3 : tz Tryz.prog 3 = some (.int .i64 0) := by kernel_rfl
theorem tzk_3 : tzk Tryz.prog 3 1 = true := by kernel_rfl
theorem tsa_4 : tsa Tryz.prog 4 = some (1, false) := by kernel_rfl
theorem telem_4 : telem Tryz.prog 4 = none := by kernel_rfl
theorem tstr_4 : tstr Tryz.prog 4 = false := by kernel_rfl
theorem tintk_4 : tintk Tryz.prog 4 = none := by kernel_rfl
theorem tcell_4 : tcell Tryz.prog 4 = 2 := by kernel_rfl
theorem tbool_4 : tbool Tryz.prog 4 = true := by kernel_rfl
theorem tkind_4 : tkind Tryz.prog 4 = 0 := by kernel_rfl
theorem tby_4 : tby Tryz.prog 4 = 1 := by kernel_rfl
theorem tz_4 : tz Tryz.prog 4 = some (.bool false) := by kernel_rfl
theorem tzk_4 : tzk Tryz.prog 4 1 = true := by kernel_rfl
theorem tsa_5 : tsa Tryz.prog 5 = some (1, false) := by kernel_rfl
theorem telem_5 : telem Tryz.prog 5 = none := by kernel_rfl
theorem tstr_5 : tstr Tryz.prog 5 = false := by kernel_rfl
theorem tintk_5 : tintk Tryz.prog 5 = some .u8 := by kernel_rfl
theorem tcell_5 : tcell Tryz.prog 5 = 1 := by kernel_rfl
theorem tbool_5 : tbool Tryz.prog 5 = false := by kernel_rfl
theorem tkind_5 : tkind Tryz.prog 5 = 0 := by kernel_rfl
theorem tby_5 : tby Tryz.prog 5 = 1 := by kernel_rfl
theorem tz_5 : tz Tryz.prog 5 = some (.int .u8 0) := by kernel_rfl
theorem tzk_5 : tzk Tryz.prog 5 1 = true := by kernel_rfl
theorem tsa_6 : tsa Tryz.prog 6 = some (1, false) := by kernel_rfl
theorem telem_6 : telem Tryz.prog 6 = none := by kernel_rfl
theorem tstr_6 : tstr Tryz.prog 6 = false := by kernel_rfl
theorem tintk_6 : tintk Tryz.prog 6 = some .u8 := by kernel_rfl
theorem tcell_6 : tcell Tryz.prog 6 = 1 := by kernel_rfl
theorem tbool_6 : tbool Tryz.prog 6 = false := by kernel_rfl
theorem tkind_6 : tkind Tryz.prog 6 = 0 := by kernel_rfl
theorem tby_6 : tby Tryz.prog 6 = 1 := by kernel_rfl
theorem tz_6 : tz Tryz.prog 6 = some (.int .u8 0) := by kernel_rfl
theorem tzk_6 : tzk Tryz.prog 6 1 = true := by kernel_rfl
theorem tsa_8 : tsa Tryz.prog 8 = some (4, true) := by kernel_rfl
theorem telem_8 : telem Tryz.prog 8 = none := by kernel_rfl
theorem tstr_8 : tstr Tryz.prog 8 = false := by kernel_rfl
theorem tintk_8 : tintk Tryz.prog 8 = none := by kernel_rfl
theorem tcell_8 : tcell Tryz.prog 8 = 0 := by kernel_rfl
theorem tbool_8 : tbool Tryz.prog 8 = false := by kernel_rfl
theorem tkind_8 : tkind Tryz.prog 8 = 0 := by kernel_rfl
theorem tby_8 : tby Tryz.prog 8 = 24 := by kernel_rfl
theorem tz_8 : tz Tryz.prog 8 = some (.agg [.int .i64 0, .int .i64 0, .bool false, .int .u8 0]) := by kernel_rfl
theorem tzk_8 : tzk Tryz.prog 8 4 = true := by kernel_rfl
theorem tfld_8_0 : tfld Tryz.prog 8 0 = some (0, 2) := by kernel_rfl
theorem apl_8_0 : apl Tryz.prog 8 0 = some (0, 1) := by kernel_rfl
theorem tfld_8_1 : tfld Tryz.prog 8 1 = some (1, 3) := by kernel_rfl
theorem apl_8_1 : apl Tryz.prog 8 1 = some (1, 1) := by kernel_rfl
theorem tfld_8_2 : tfld Tryz.prog 8 2 = some (2, 4) := by kernel_rfl
theorem apl_8_2 : apl Tryz.prog 8 2 = some (2, 1) := by kernel_rfl
theorem tfld_8_3 : tfld Tryz.prog 8 3 = some (3, 6) := by kernel_rfl
theorem apl_8_3 : apl Tryz.prog 8 3 = some (3, 1) := by kernel_rfl
theorem tplain_8 : tplain Tryz.prog 8 = some [1, 1, 2, 1] := by kernel_rfl
theorem abuild_8 (parts : List (Nat × AV)) : abuild Tryz.prog 8 parts = (afill (apl Tryz.prog 8) [.int .i64 0, .int .i64 0, .bool false, .int .u8 0] parts).map AV.agg := abuild_apl (by kernel_rfl) (by decide) (by kernel_rfl) parts
theorem tsa_9 : tsa Tryz.prog 9 = some (1, false) := by kernel_rfl
theorem telem_9 : telem Tryz.prog 9 = none := by kernel_rfl
theorem tstr_9 : tstr Tryz.prog 9 = true := by kernel_rfl
theorem tintk_9 : tintk Tryz.prog 9 = none := by kernel_rfl
theorem tcell_9 : tcell Tryz.prog 9 = 3 := by kernel_rfl
theorem tbool_9 : tbool Tryz.prog 9 = false := by kernel_rfl
theorem tkind_9 : tkind Tryz.prog 9 = 0 := by kernel_rfl
theorem tby_9 : tby Tryz.prog 9 = 16 := by kernel_rfl
theorem tz_9 : tz Tryz.prog 9 = some (.str []) := by kernel_rfl
theorem tzk_9 : tzk Tryz.prog 9 1 = true := by kernel_rfl
theorem tsa_15 : tsa Tryz.prog 15 = some (1, false) := by kernel_rfl
theorem telem_15 : telem Tryz.prog 15 = none := by kernel_rfl
theorem tstr_15 : tstr Tryz.prog 15 = false := by kernel_rfl
theorem tintk_15 : tintk Tryz.prog 15 = none := by kernel_rfl
theorem tcell_15 : tcell Tryz.prog 15 = 0 := by kernel_rfl
theorem tbool_15 : tbool Tryz.prog 15 = false := by kernel_rfl
theorem tkind_15 : tkind Tryz.prog 15 = 1 := by kernel_rfl
theorem tby_15 : tby Tryz.prog 15 = 8 := by kernel_rfl
theorem tz_15 : tz Tryz.prog 15 = some (.nilp) := by kernel_rfl
theorem tzk_15 : tzk Tryz.prog 15 1 = true := by kernel_rfl
theorem tsa_16 : tsa Tryz.prog 16 = some (1, false) := by kernel_rfl
theorem telem_16 : telem Tryz.prog 16 = none := by kernel_rfl
theorem tstr_16 : tstr Tryz.prog 16 = false := by kernel_rfl
theorem tintk_16 : tintk Tryz.prog 16 = none := by kernel_rfl
theorem tcell_16 : tcell Tryz.prog 16 = 0 := by kernel_rfl
theorem tbool_16 : tbool Tryz.prog 16 = false := by kernel_rfl
theorem tkind_16 : tkind Tryz.prog 16 = 1 := by kernel_rfl
theorem tby_16 : tby Tryz.prog 16 = 8 := by kernel_rfl
theorem tz_16 : tz Tryz.prog 16 = some (.nilp) := by kernel_rfl
theorem tzk_16 : tzk Tryz.prog 16 1 = true := by kernel_rfl
theorem tsa_20 : tsa Tryz.prog 20 = some (1, false) := by kernel_rfl
theorem telem_20 : telem Tryz.prog 20 = none := by kernel_rfl
theorem tstr_20 : tstr Tryz.prog 20 = false := by kernel_rfl
theorem tintk_20 : tintk Tryz.prog 20 = none := by kernel_rfl
theorem tcell_20 : tcell Tryz.prog 20 = 0 := by kernel_rfl
theorem tbool_20 : tbool Tryz.prog 20 = false := by kernel_rfl
theorem tkind_20 : tkind Tryz.prog 20 = 5 := by kernel_rfl
theorem tby_20 : tby Tryz.prog 20 = 16 := by kernel_rfl
theorem tz_20 : tz Tryz.prog 20 = some (.nili) := by kernel_rfl
theorem tzk_20 : tzk Tryz.prog 20 1 = true := by kernel_rfl
theorem tsa_21 : tsa Tryz.prog 21 = some (1, false) := by kernel_rfl
theorem telem_21 : telem Tryz.prog 21 = none := by kernel_rfl
theorem tstr_21 : tstr Tryz.prog 21 = false := by kernel_rfl
theorem tintk_21 : tintk Tryz.prog 21 = some .i32 := by kernel_rfl
theorem tcell_21 : tcell Tryz.prog 21 = 1 := by kernel_rfl
theorem tbool_21 : tbool Tryz.prog 21 = false := by kernel_rfl
theorem tkind_21 : tkind Tryz.prog 21 = 0 := by kernel_rfl
theorem tby_21 : tby Tryz.prog 21 = 4 := by kernel_rfl
theorem tz_21 : tz Tryz.prog 21 = some (.int .i32 0) := by kernel_rfl
theorem tzk_21 : tzk Tryz.prog 21 1 = true := by kernel_rfl
theorem tsa_23 : tsa Tryz.prog 23 = some (1, false) := by kernel_rfl
theorem telem_23 : telem Tryz.prog 23 = some 59 := by kernel_rfl
theorem tstr_23 : tstr Tryz.prog 23 = false := by kernel_rfl
theorem tintk_23 : tintk Tryz.prog 23 = none := by kernel_rfl
theorem tcell_23 : tcell Tryz.prog 23 = 0 := by kernel_rfl
theorem tbool_23 : tbool Tryz.prog 23 = false := by kernel_rfl
theorem tkind_23 : tkind Tryz.prog 23 = 2 := by kernel_rfl
theorem tby_23 : tby Tryz.prog 23 = 24 := by kernel_rfl
theorem tz_23 : tz Tryz.prog 23 = some (.nils) := by kernel_rfl
theorem tzk_23 : tzk Tryz.prog 23 1 = true := by kernel_rfl
theorem tsa_24 : tsa Tryz.prog 24 = some (1, false) := by kernel_rfl
theorem telem_24 : telem Tryz.prog 24 = none := by kernel_rfl
theorem tstr_24 : tstr Tryz.prog 24 = false := by kernel_rfl
theorem tintk_24 : tintk Tryz.prog 24 = some .i64 := by kernel_rfl
theorem tcell_24 : tcell Tryz.prog 24 = 1 := by kernel_rfl
theorem tbool_24 : tbool Tryz.prog 24 = false := by kernel_rfl
theorem tkind_24 : tkind Tryz.prog 24 = 0 := by kernel_rfl
theorem tby_24 : tby Tryz.prog 24 = 8 := by kernel_rfl
theorem tz_24 : tz Tryz.prog 24 = some (.int .i64 0) := by kernel_rfl
theorem tzk_24 : tzk Tryz.prog 24 1 = true := by kernel_rfl
theorem tsa_25 : tsa Tryz.prog 25 = some (1, false) := by kernel_rfl
theorem telem_25 : telem Tryz.prog 25 = none := by kernel_rfl
theorem tstr_25 : tstr Tryz.prog 25 = false := by kernel_rfl
theorem tintk_25 : tintk Tryz.prog 25 = none := by kernel_rfl
theorem tcell_25 : tcell Tryz.prog 25 = 0 := by kernel_rfl
theorem tbool_25 : tbool Tryz.prog 25 = false := by kernel_rfl
theorem tkind_25 : tkind Tryz.prog 25 = 0 := by kernel_rfl
theorem tby_25 : tby Tryz.prog 25 = 0 := by kernel_rfl
theorem tsa_27 : tsa Tryz.prog 27 = some (1, false) := by kernel_rfl
theorem telem_27 : telem Tryz.prog 27 = some 96 := by kernel_rfl
theorem tstr_27 : tstr Tryz.prog 27 = false := by kernel_rfl
theorem tintk_27 : tintk Tryz.prog 27 = none := by kernel_rfl
theorem tcell_27 : tcell Tryz.prog 27 = 0 := by kernel_rfl
theorem tbool_27 : tbool Tryz.prog 27 = false := by kernel_rfl
theorem tkind_27 : tkind Tryz.prog 27 = 2 := by kernel_rfl
theorem tby_27 : tby Tryz.prog 27 = 24 := by kernel_rfl
theorem tz_27 : tz Tryz.prog 27 = some (.nils) := by kernel_rfl
theorem tzk_27 : tzk Tryz.prog 27 1 = true := by kernel_rfl
theorem tsa_28 : tsa Tryz.prog 28 = some (1, false) := by kernel_rfl
theorem telem_28 : telem Tryz.prog 28 = none := by kernel_rfl
theorem tstr_28 : tstr Tryz.prog 28 = false := by kernel_rfl
theorem tintk_28 : tintk Tryz.prog 28 = none := by kernel_rfl
theorem tcell_28 : tcell Tryz.prog 28 = 0 := by kernel_rfl
theorem tbool_28 : tbool Tryz.prog 28 = false := by kernel_rfl
theorem tkind_28 : tkind Tryz.prog 28 = 0 := by kernel_rfl
theorem tby_28 : tby Tryz.prog 28 = 0 := by kernel_rfl
theorem tsa_32 : tsa Tryz.prog 32 = some (1, false) := by kernel_rfl
theorem telem_32 : telem Tryz.prog 32 = none := by kernel_rfl
theorem tstr_32 : tstr Tryz.prog 32 = false := by kernel_rfl
theorem tintk_32 : tintk Tryz.prog 32 = none := by kernel_rfl
theorem tcell_32 : tcell Tryz.prog 32 = 0 := by kernel_rfl
theorem tbool_32 : tbool Tryz.prog 32 = false := by kernel_rfl
theorem tkind_32 : tkind Tryz.prog 32 = 4 := by kernel_rfl
theorem tby_32 : tby Tryz.prog 32 = 8 := by kernel_rfl
theorem tz_32 : tz Tryz.prog 32 = some (.nilf) := by kernel_rfl
theorem tzk_32 : tzk Tryz.prog 32 1 = true := by kernel_rfl
theorem tsa_33 : tsa Tryz.prog 33 = some (1, false) := by kernel_rfl
theorem telem_33 : telem Tryz.prog 33 = none := by kernel_rfl
theorem tstr_33 : tstr Tryz.prog 33 = false := by kernel_rfl
theorem tintk_33 : tintk Tryz.prog 33 = none := by kernel_rfl
theorem tcell_33 : tcell Tryz.prog 33 = 0 := by kernel_rfl
theorem tbool_33 : tbool Tryz.prog 33 = false := by kernel_rfl
theorem tkind_33 : tkind Tryz.prog 33 = 0 := by kernel_rfl
theorem tby_33 : tby Tryz.prog 33 = 0 := by kernel_rfl
theorem tsa_35 : tsa Tryz.prog 35 = some (1, false) := by kernel_rfl
theorem telem_35 : telem Tryz.prog 35 = none := by kernel_rfl
theorem tstr_35 : tstr Tryz.prog 35 = false := by kernel_rfl
theorem tintk_35 : tintk Tryz.prog 35 = none := by kernel_rfl
theorem tcell_35 : tcell Tryz.prog 35 = 0 := by kernel_rfl
theorem tbool_35 : tbool Tryz.prog 35 = false := by kernel_rfl
theorem tkind_35 : tkind Tryz.prog 35 = 0 := by kernel_rfl
theorem tby_35 : tby Tryz.prog 35 = 0 := by kernel_rfl
theorem tsa_37 : tsa Tryz.prog 37 = some (1, false) := by kernel_rfl
theorem telem_37 : telem Tryz.prog 37 = some 4 := by kernel_rfl
theorem tstr_37 : tstr Tryz.prog 37 = false := by kernel_rfl
theorem tintk_37 : tintk Tryz.prog 37 = none := by kernel_rfl
theorem tcell_37 : tcell Tryz.prog 37 = 0 := by kernel_rfl
theorem tbool_37 : tbool Tryz.prog 37 = false := by kernel_rfl
theorem tkind_37 : tkind Tryz.prog 37 = 2 := by kernel_rfl
theorem tby_37 : tby Tryz.prog 37 = 24 := by kernel_rfl
theorem tz_37 : tz Tryz.prog 37 = some (.nils) := by kernel_rfl
theorem tzk_37 : tzk Tryz.prog 37 1 = true := by kernel_rfl
theorem tsa_41 : tsa Tryz.prog 41 = some (1, false) := by kernel_rfl
theorem telem_41 : telem Tryz.prog 41 = some 23 := by kernel_rfl
theorem tstr_41 : tstr Tryz.prog 41 = false := by kernel_rfl
theorem tintk_41 : tintk Tryz.prog 41 = none := by kernel_rfl
theorem tcell_41 : tcell Tryz.prog 41 = 0 := by kernel_rfl
theorem tbool_41 : tbool Tryz.prog 41 = false := by kernel_rfl
theorem tkind_41 : tkind Tryz.prog 41 = 2 := by kernel_rfl
theorem tby_41 : tby Tryz.prog 41 = 24 := by kernel_rfl
theorem tz_41 : tz Tryz.prog 41 = some (.nils) := by kernel_rfl
theorem tzk_41 : tzk Tryz.prog 41 1 = true := by kernel_rfl
theorem tsa_44 : tsa Tryz.prog 44 = some (1, false) := by kernel_rfl
theorem telem_44 : telem Tryz.prog 44 = some 57 := by kernel_rfl
theorem tstr_44 : tstr Tryz.prog 44 = false := by kernel_rfl
theorem tintk_44 : tintk Tryz.prog 44 = none := by kernel_rfl
theorem tcell_44 : tcell Tryz.prog 44 = 0 := by kernel_rfl
theorem tbool_44 : tbool Tryz.prog 44 = false := by kernel_rfl
theorem tkind_44 : tkind Tryz.prog 44 = 2 := by kernel_rfl
theorem tby_44 : tby Tryz.prog 44 = 24 := by kernel_rfl
theorem tz_44 : tz Tryz.prog 44 = some (.nils) := by kernel_rfl
theorem tzk_44 : tzk Tryz.prog 44 1 = true := by kernel_rfl
theorem tsa_45 : tsa Tryz.prog 45 = some (1, false) := by kernel_rfl
theorem telem_45 : telem Tryz.prog 45 = none := by kernel_rfl
theorem tstr_45 : tstr Tryz.prog 45 = false := by kernel_rfl
theorem tintk_45 : tintk Tryz.prog 45 = none := by kernel_rfl
theorem tcell_45 : tcell Tryz.prog 45 = 0 := by kernel_rfl
theorem tbool_45 : tbool Tryz.prog 45 = false := by kernel_rfl
theorem tkind_45 : tkind Tryz.prog 45 = 0 := by kernel_rfl
theorem tby_45 : tby Tryz.prog 45 = 0 := by kernel_rfl
theorem tsa_47 : tsa Tryz.prog 47 = some (1, false) := by kernel_rfl
theorem telem_47 : telem Tryz.prog 47 = some 54 := by kernel_rfl
theorem tstr_47 : tstr Tryz.prog 47 = false := by kernel_rfl
theorem tintk_47 : tintk Tryz.prog 47 = none := by kernel_rfl
theorem tcell_47 : tcell Tryz.prog 47 = 0 := by kernel_rfl
theorem tbool_47 : tbool Tryz.prog 47 = false := by kernel_rfl
theorem tkind_47 : tkind Tryz.prog 47 = 2 := by kernel_rfl
theorem tby_47 : tby Tryz.prog 47 = 24 := by kernel_rfl
theorem tz_47 : tz Tryz.prog 47 = some (.nils) := by kernel_rfl
theorem tzk_47 : tzk Tryz.prog 47 1 = true := by kernel_rfl
theorem tsa_48 : tsa Tryz.prog 48 = some (1, false) := by kernel_rfl
theorem telem_48 : telem Tryz.prog 48 = none := by kernel_rfl
theorem tstr_48 : tstr Tryz.prog 48 = false := by kernel_rfl
theorem tintk_48 : tintk Tryz.prog 48 = none := by kernel_rfl
theorem tcell_48 : tcell Tryz.prog 48 = 0 := by kernel_rfl
theorem tbool_48 : tbool Tryz.prog 48 = false := by kernel_rfl
theorem tkind_48 : tkind Tryz.prog 48 = 0 := by kernel_rfl
theorem tby_48 : tby Tryz.prog 48 = 0 := by kernel_rfl
theorem tsa_50 : tsa Tryz.prog 50 = some (1, false) := by kernel_rfl
theorem telem_50 : telem Tryz.prog 50 = none := by kernel_rfl
theorem tstr_50 : tstr Tryz.prog 50 = false := by kernel_rfl
theorem tintk_50 : tintk Tryz.prog 50 = none := by kernel_rfl
theorem tcell_50 : tcell Tryz.prog 50 = 0 := by kernel_rfl
theorem tbool_50 : tbool Tryz.prog 50 = false := by kernel_rfl
theorem tkind_50 : tkind Tryz.prog 50 = 0 := by kernel_rfl
theorem tby_50 : tby Tryz.prog 50 = 0 := by kernel_rfl
theorem tsa_52 : tsa Tryz.prog 52 = some (1, false) := by kernel_rfl
theorem telem_52 : telem Tryz.prog 52 = none := by kernel_rfl
theorem tstr_52 : tstr Tryz.prog 52 = false := by kernel_rfl
theorem tintk_52 : tintk Tryz.prog 52 = some .i64 := by kernel_rfl
theorem tcell_52 : tcell Tryz.prog 52 = 1 := by kernel_rfl
theorem tbool_52 : tbool Tryz.prog 52 = false := by kernel_rfl
theorem tkind_52 : tkind Tryz.prog 52 = 0 := by kernel_rfl
theorem tby_52 : tby Tryz.prog 52 = 8 := by kernel_rfl
theorem tz_52 : tz Tryz.prog 52 = some (.int .i64 0) := by kernel_rfl
theorem tzk_52 : tzk Tryz.prog 52 1 = true := by kernel_rfl
theorem tsa_54 : tsa Tryz.prog 54 = some (2, true) := by kernel_rfl
theorem telem_54 : telem Tryz.prog 54 = none := by kernel_rfl
theorem tstr_54 : tstr Tryz.prog 54 = false := by kernel_rfl
theorem tintk_54 : tintk Tryz.prog 54 = none := by kernel_rfl
theorem tcell_54 : tcell Tryz.prog 54 = 0 := by kernel_rfl
theorem tbool_54 : tbool Tryz.prog 54 = false := by kernel_rfl
theorem tkind_54 : tkind Tryz.prog 54 = 0 := by kernel_rfl
theorem tby_54 : tby Tryz.prog 54 = 16 := by kernel_rfl
theorem tz_54 : tz Tryz.prog 54 = some (.agg [.int .i64 0, .int .i64 0]) := by kernel_rfl
theorem tzk_54 : tzk Tryz.prog 54 2 = true := by kernel_rfl
theorem tfld_54_0 : tfld Tryz.prog 54 0 = some (0, 52) := by kernel_rfl
theorem apl_54_0 : apl Tryz.prog 54 0 = some (0, 1) := by kernel_rfl
theorem tfld_54_1 : tfld Tryz.prog 54 1 = some (1, 3) := by kernel_rfl
theorem apl_54_1 : apl Tryz.prog 54 1 = some (1, 1) := by kernel_rfl
theorem tplain_54 : tplain Tryz.prog 54 = some [1, 1] := by kernel_rfl
theorem abuild_54 (parts : List (Nat × AV)) : abuild Tryz.prog 54 parts = (afill (apl Tryz.prog 54) [.int .i64 0, .int .i64 0] parts).map AV.agg := abuild_apl (by kernel_rfl) (by decide) (by kernel_rfl) parts
theorem tsa_55 : tsa Tryz.prog 55 = some (1, false) := by kernel_rfl
theorem telem_55 : telem Tryz.prog 55 = some 9 := by kernel_rfl
theorem tstr_55 : tstr Tryz.prog 55 = false := by kernel_rfl
theorem tintk_55 : tintk Tryz.prog 55 = none := by kernel_rfl
theorem tcell_55 : tcell Tryz.prog 55 = 0 := by kernel_rfl
theorem tbool_55 : tbool Tryz.prog 55 = false := by kernel_rfl
theorem tkind_55 : tkind Tryz.prog 55 = 2 := by kernel_rfl
theorem tby_55 : tby Tryz.prog 55 = 24 := by kernel_rfl
theorem tz_55 : tz Tryz.prog 55 = some (.nils) := by kernel_rfl
theorem tzk_55 : tzk Tryz.prog 55 1 = true := by kernel_rfl
theorem tsa_57 : tsa Tryz.prog 57 = some (6, true) := by kernel_rfl
theorem telem_57 : telem Tryz.prog 57 = none := by kernel_rfl
theorem tstr_57 : tstr Tryz.prog 57 = false := by kernel_rfl
theorem tintk_57 : tintk Tryz.prog 57 = none := by kernel_rfl
theorem tcell_57 : tcell Tryz.prog 57 = 0 := by kernel_rfl
theorem tbool_57 : tbool Tryz.prog 57 = false := by kernel_rfl
theorem tkind_57 : tkind Tryz.prog 57 = 0 := by kernel_rfl
theorem tby_57 : tby Tryz.prog 57 = 72 := by kernel_rfl
theorem tz_57 : tz Tryz.prog 57 = some (.agg [.int .i64 0, .int .i64 0, .bool false, .bool false, .nils, .nils]) := by kernel_rfl
theorem tzk_57 : tzk Tryz.prog 57 6 = true := by kernel_rfl
theorem tfld_57_0 : tfld Tryz.prog 57 0 = some (0, 3) := by kernel_rfl
theorem apl_57_0 : apl Tryz.prog 57 0 = some (0, 1) := by kernel_rfl
theorem tfld_57_1 : tfld Tryz.prog 57 1 = some (1, 3) := by kernel_rfl
theorem apl_57_1 : apl Tryz.prog 57 1 = some (1, 1) := by kernel_rfl
theorem tfld_57_2 : tfld Tryz.prog 57 2 = some (2, 4) := by kernel_rfl
theorem apl_57_2 : apl Tryz.prog 57 2 = some (2, 1) := by kernel_rfl
theorem tfld_57_3 : tfld Tryz.prog 57 3 = some (3, 4) := by kernel_rfl
theorem apl_57_3 : apl Tryz.prog 57 3 = some (3, 1) := by kernel_rfl
theorem tfld_57_4 : tfld Tryz.prog 57 4 = some (4, 55) := by kernel_rfl
theorem apl_57_4 : apl Tryz.prog 57 4 = some (4, 1) := by kernel_rfl
theorem tfld_57_5 : tfld Tryz.prog 57 5 = some (5, 55) := by kernel_rfl
theorem apl_57_5 : apl Tryz.prog 57 5 = some (5, 1) := by kernel_rfl
theorem abuild_57 (parts : List (Nat × AV)) : abuild Tryz.prog 57 parts = (afill (apl Tryz.prog 57) [.int .i64 0, .int .i64 0, .bool false, .bool false, .nils, .nils] parts).map AV.agg := abuild_apl (by kernel_rfl) (by decide) (by kernel_rfl) parts
theorem tsa_59 : tsa Tryz.prog 59 = some (3, true) := by kernel_rfl
theorem telem_59 : telem Tryz.prog 59 = none := by kernel_rfl
theorem tstr_59 : tstr Tryz.prog 59 = false := by kernel_rfl
theorem tintk_59 : tintk Tryz.prog 59 = none := by kernel_rfl
theorem tcell_59 : tcell Tryz.prog 59 = 0 := by kernel_rfl
theorem tbool_59 : tbool Tryz.prog 59 = false := by kernel_rfl
theorem tkind_59 : tkind Tryz.prog 59 = 0 := by kernel_rfl
theorem tby_59 : tby Tryz.prog 59 = 40 := by kernel_rfl
theorem tz_59 : tz Tryz.prog 59 = some (.agg [.int .i64 0, .int .i64 0, .nils]) := by kernel_rfl
theorem tzk_59 : tzk Tryz.prog 59 3 = true := by kernel_rfl
theorem tfld_59_0 : tfld Tryz.prog 59 0 = some (0, 52) := by kernel_rfl
theorem apl_59_0 : apl Tryz.prog 59 0 = some (0, 1) := by kernel_rfl
theorem tfld_59_1 : tfld Tryz.prog 59 1 = some (1, 3) := by kernel_rfl
theorem apl_59_1 : apl Tryz.prog 59 1 = some (1, 1) := by kernel_rfl
theorem tfld_59_2 : tfld Tryz.prog 59 2 = some (2, 55) := by kernel_rfl
theorem apl_59_2 : apl Tryz.prog 59 2 = some (2, 1) := by kernel_rfl
theorem abuild_59 (parts : List (Nat × AV)) : abuild Tryz.prog 59 parts = (afill (apl Tryz.prog 59) [.int .i64 0, .int .i64 0, .nils] parts).map AV.agg := abuild_apl (by kernel_rfl) (by decide) (by kernel_rfl) parts
theorem tsa_62 : tsa Tryz.prog 62 = some (1, false) := by kernel_rfl
theorem telem_62 : telem Tryz.prog 62 = some 74 := by kernel_rfl
theorem tstr_62 : tstr Tryz.prog 62 = false := by kernel_rfl
theorem tintk_62 : tintk Tryz.prog 62 = none := by kernel_rfl
theorem tcell_62 : tcell Tryz.prog 62 = 0 := by kernel_rfl
theorem tbool_62 : tbool Tryz.prog 62 = false := by kernel_rfl
theorem tkind_62 : tkind Tryz.prog 62 = 2 := by kernel_rfl
theorem tby_62 : tby Tryz.prog 62 = 24 := by kernel_rfl
theorem tz_62 : tz Tryz.prog 62 = some (.nils) := by kernel_rfl
theorem tzk_62 : tzk Tryz.prog 62 1 = true := by kernel_rfl
theorem tsa_67 : tsa Tryz.prog 67 = some (1, false) := by kernel_rfl
theorem telem_67 : telem Tryz.prog 67 = none := by kernel_rfl
theorem tstr_67 : tstr Tryz.prog 67 = false := by kernel_rfl
theorem tintk_67 : tintk Tryz.prog 67 = none := by kernel_rfl
theorem tcell_67 : tcell Tryz.prog 67 = 0 := by kernel_rfl
theorem tbool_67 : tbool Tryz.prog 67 = false := by kernel_rfl
theorem tkind_67 : tkind Tryz.prog 67 = 0 := by kernel_rfl
theorem tby_67 : tby Tryz.prog 67 = 0 := by kernel_rfl
theorem tsa_69 : tsa Tryz.prog 69 = some (1, false) := by kernel_rfl
theorem telem_69 : telem Tryz.prog 69 = none := by kernel_rfl
theorem tstr_69 : tstr Tryz.prog 69 = false := by kernel_rfl
theorem tintk_69 : tintk Tryz.prog 69 = none := by kernel_rfl
theorem tcell_69 : tcell Tryz.prog 69 = 0 := by kernel_rfl
theorem tbool_69 : tbool Tryz.prog 69 = false := by kernel_rfl
theorem tkind_69 : tkind Tryz.prog 69 = 0 := by kernel_rfl
theorem tby_69 : tby Tryz.prog 69 = 0 := by kernel_rfl
theorem tsa_74 : tsa Tryz.prog 74 = some (6, true) := by kernel_rfl
theorem telem_74 : telem Tryz.prog 74 = none := by kernel_rfl
theorem tstr_74 : tstr Tryz.prog 74 = false := by kernel_rfl
theorem tintk_74 : tintk Tryz.prog 74 = none := by kernel_rfl
theorem tcell_74 : tcell Tryz.prog 74 = 0 := by kernel_rfl
theorem tbool_74 : tbool Tryz.prog 74 = false := by kernel_rfl
theorem tkind_74 : tkind Tryz.prog 74 = 0 := by kernel_rfl
theorem tby_74 : tby Tryz.prog 74 = 72 := by kernel_rfl
theorem tz_74 : tz Tryz.prog 74 = some (.agg [.int .i64 0, .int .i64 0, .bool false, .bool false, .nils, .nils]) := by kernel_rfl
theorem tzk_74 : tzk Tryz.prog 74 6 = true := by kernel_rfl
theorem tfld_74_0 : tfld Tryz.prog 74 0 = some (0, 52) := by kernel_rfl
theorem apl_74_0 : apl Tryz.prog 74 0 = some (0, 1) := by kernel_rfl
theorem tfld_74_1 : tfld Tryz.prog 74 1 = some (1, 3) := by kernel_rfl
theorem apl_74_1 : apl Tryz.prog 74 1 = some (1, 1) := by kernel_rfl
theorem tfld_74_2 : tfld Tryz.prog 74 2 = some (2, 4) := by kernel_rfl
theorem apl_74_2 : apl Tryz.prog 74 2 = some (2, 1) := by kernel_rfl
theorem tfld_74_3 : tfld Tryz.prog 74 3 = some (3, 4) := by kernel_rfl
theorem apl_74_3 : apl Tryz.prog 74 3 = some (3, 1) := by kernel_rfl
theorem tfld_74_4 : tfld Tryz.prog 74 4 = some (4, 55) := by kernel_rfl
theorem apl_74_4 : apl Tryz.prog 74 4 = some (4, 1) := by kernel_rfl
theorem tfld_74_5 : tfld Tryz.prog 74 5 = some (5, 55) := by kernel_rfl
theorem apl_74_5 : apl Tryz.prog 74 5 = some (5, 1) := by kernel_rfl
theorem abuild_74 (parts : List (Nat × AV)) : abuild Tryz.prog 74 parts = (afill (apl Tryz.prog 74) [.int .i64 0, .int .i64 0, .bool false, .bool false, .nils, .nils] parts).map AV.agg := abuild_apl (by kernel_rfl) (by decide) (by kernel_rfl) parts
theorem tsa_75 : tsa Tryz.prog 75 = some (1, false) := by kernel_rfl
theorem telem_75 : telem Tryz.prog 75 = some 5 := by kernel_rfl
theorem tstr_75 : tstr Tryz.prog 75 = false := by kernel_rfl
theorem tintk_75 : tintk Tryz.prog 75 = none := by kernel_rfl
theorem tcell_75 : tcell Tryz.prog 75 = 0 := by kernel_rfl
theorem tbool_75 : tbool Tryz.prog 75 = false := by kernel_rfl
theorem tkind_75 : tkind Tryz.prog 75 = 2 := by kernel_rfl
theorem tby_75 : tby Tryz.prog 75 = 24 := by kernel_rfl
theorem tz_75 : tz Tryz.prog 75 = some (.nils) := by kernel_rfl
theorem tzk_75 : tzk Tryz.prog 75 1 = true := by kernel_rfl
theorem tsa_76 : tsa Tryz.prog 76 = some (1, false) := by kernel_rfl
theorem telem_76 : telem Tryz.prog 76 = none := by kernel_rfl
theorem tstr_76 : tstr Tryz.prog 76 = false := by kernel_rfl
theorem tintk_76 : tintk Tryz.prog 76 = some .u16 := by kernel_rfl
theorem tcell_76 : tcell Tryz.prog 76 = 1 := by kernel_rfl
theorem tbool_76 : tbool Tryz.prog 76 = false := by kernel_rfl
theorem tkind_76 : tkind Tryz.prog 76 = 0 := by kernel_rfl
theorem tby_76 : tby Tryz.prog 76 = 2 := by kernel_rfl
theorem tz_76 : tz Tryz.prog 76 = some (.int .u16 0) := by kernel_rfl
theorem tzk_76 : tzk Tryz.prog 76 1 = true := by kernel_rfl
theorem tsa_78 : tsa Tryz.prog 78 = some (1, false) := by kernel_rfl
theorem telem_78 : telem Tryz.prog 78 = none := by kernel_rfl
theorem tstr_78 : tstr Tryz.prog 78 = false := by kernel_rfl
theorem tintk_78 : tintk Tryz.prog 78 = none := by kernel_rfl
theorem tcell_78 : tcell Tryz.prog 78 = 0 := by kernel_rfl
theorem tbool_78 : tbool Tryz.prog 78 = false := by kernel_rfl
theorem tkind_78 : tkind Tryz.prog 78 = 1 := by kernel_rfl
theorem tby_78 : tby Tryz.prog 78 = 8 := by kernel_rfl
theorem tz_78 : tz Tryz.prog 78 = some (.nilp) := by kernel_rfl
theorem tzk_78 : tzk Tryz.prog 78 1 = true := by kernel_rfl
theorem tsa_81 : tsa Tryz.prog 81 = some (1, false) := by kernel_rfl
theorem telem_81 : telem Tryz.prog 81 = some 75 := by kernel_rfl
theorem tstr_81 : tstr Tryz.prog 81 = false := by kernel_rfl
theorem tintk_81 : tintk Tryz.prog 81 = none := by kernel_rfl
theorem tcell_81 : tcell Tryz.prog 81 = 0 := by kernel_rfl
theorem tbool_81 : tbool Tryz.prog 81 = false := by kernel_rfl
theorem tkind_81 : tkind Tryz.prog 81 = 2 := by kernel_rfl
theorem tby_81 : tby Tryz.prog 81 = 24 := by kernel_rfl
theorem tz_81 : tz Tryz.prog 81 = some (.nils) := by kernel_rfl
theorem tzk_81 : tzk Tryz.prog 81 1 = true := by kernel_rfl
theorem tsa_91 : tsa Tryz.prog 91 = some (1, false) := by kernel_rfl
theorem telem_91 : telem Tryz.prog 91 = none := by kernel_rfl
theorem tstr_91 : tstr Tryz.prog 91 = false := by kernel_rfl
theorem tintk_91 : tintk Tryz.prog 91 = some .u64 := by kernel_rfl
theorem tcell_91 : tcell Tryz.prog 91 = 1 := by kernel_rfl
theorem tbool_91 : tbool Tryz.prog 91 = false := by kernel_rfl
theorem tkind_91 : tkind Tryz.prog 91 = 0 := by kernel_rfl
theorem tby_91 : tby Tryz.prog 91 = 8 := by kernel_rfl
theorem tz_91 : tz Tryz.prog 91 = some (.int .u64 0) := by kernel_rfl
theorem tzk_91 : tzk Tryz.prog 91 1 = true := by kernel_rfl
theorem tsa_96 : tsa Tryz.prog 96 = some (3, true) := by kernel_rfl
theorem telem_96 : telem Tryz.prog 96 = none := by kernel_rfl
theorem tstr_96 : tstr Tryz.prog 96 = false := by kernel_rfl
theorem tintk_96 : tintk Tryz.prog 96 = none := by kernel_rfl
theorem tcell_96 : tcell Tryz.prog 96 = 0 := by kernel_rfl
theorem tbool_96 : tbool Tryz.prog 96 = false := by kernel_rfl
theorem tkind_96 : tkind Tryz.prog 96 = 0 := by kernel_rfl
theorem tby_96 : tby Tryz.prog 96 = 40 := by kernel_rfl
theorem tz_96 : tz Tryz.prog 96 = some (.agg [.int .i64 0, .int .i64 0, .nils]) := by kernel_rfl
theorem tzk_96 : tzk Tryz.prog 96 3 = true := by kernel_rfl
theorem tfld_96_0 : tfld Tryz.prog 96 0 = some (0, 3) := by kernel_rfl
theorem apl_96_0 : apl Tryz.prog 96 0 = some (0, 1) := by kernel_rfl
theorem tfld_96_1 : tfld Tryz.prog 96 1 = some (1, 3) := by kernel_rfl
theorem apl_96_1 : apl Tryz.prog 96 1 = some (1, 1) := by kernel_rfl
theorem tfld_96_2 : tfld Tryz.prog 96 2 = some (2, 55) := by kernel_rfl
theorem apl_96_2 : apl Tryz.prog 96 2 = some (2, 1) := by kernel_rfl
theorem abuild_96 (parts : List (Nat × AV)) : abuild Tryz.prog 96 parts = (afill (apl Tryz.prog 96) [.int .i64 0, .int .i64 0, .nils] parts).map AV.agg := abuild_apl (by kernel_rfl) (by decide) (by kernel_rfl) parts
theorem tsa_98 : tsa Tryz.prog 98 = some (1, false) := by kernel_rfl
theorem telem_98 : telem Tryz.prog 98 = none := by kernel_rfl
theorem tstr_98 : tstr Tryz.prog 98 = false := by kernel_rfl
theorem tintk_98 : tintk Tryz.prog 98 = none := by kernel_rfl
theorem tcell_98 : tcell Tryz.prog 98 = 0 := by kernel_rfl
theorem tbool_98 : tbool Tryz.prog 98 = false := by kernel_rfl
theorem tkind_98 : tkind Tryz.prog 98 = 0 := by kernel_rfl
theorem tby_98 : tby Tryz.prog 98 = 0 := by kernel_rfl
theorem tsa_100 : tsa Tryz.prog 100 = some (1, false) := by kernel_rfl
theorem telem_100 : telem Tryz.prog 100 = none := by kernel_rfl
theorem tstr_100 : tstr Tryz.prog 100 = false := by kernel_rfl
theorem tintk_100 : tintk Tryz.prog 100 = none := by kernel_rfl
theorem tcell_100 : tcell Tryz.prog 100 = 0 := by kernel_rfl
theorem tbool_100 : tbool Tryz.prog 100 = false := by kernel_rfl
theorem tkind_100 : tkind Tryz.prog 100 = 0 := by kernel_rfl
theorem tby_100 : tby Tryz.prog 100 = 0 := by kernel_rfl
theorem tsa_104 : tsa Tryz.prog 104 = some (1, false) := by kernel_rfl
theorem telem_104 : telem Tryz.prog 104 = none := by kernel_rfl
theorem tstr_104 : tstr Tryz.prog 104 = false := by kernel_rfl
theorem tintk_104 : tintk Tryz.prog 104 = none := by kernel_rfl
theorem tcell_104 : tcell Tryz.prog 104 = 0 := by kernel_rfl
theorem tbool_104 : tbool Tryz.prog 104 = false := by kernel_rfl
theorem tkind_104 : tkind Tryz.prog 104 = 0 := by kernel_rfl
theorem tby_104 : tby Tryz.prog 104 = 0 := by kernel_rfl
theorem tsa_113 : tsa Tryz.prog 113 = some (1, false) := by kernel_rfl
theorem telem_113 : telem Tryz.prog 113 = none := by kernel_rfl
theorem tstr_113 : tstr Tryz.prog 113 = false := by kernel_rfl
theorem tintk_113 : tintk Tryz.prog 113 = none := by kernel_rfl
theorem tcell_113 : tcell Tryz.prog 113 = 0 := by kernel_rfl
theorem tbool_113 : tbool Tryz.prog 113 = false := by kernel_rfl
theorem tkind_113 : tkind Tryz.prog 113 = 4 := by kernel_rfl
theorem tby_113 : tby Tryz.prog 113 = 8 := by kernel_rfl
theorem tz_113 : tz Tryz.prog 113 = some (.nilf) := by kernel_rfl
theorem tzk_113 : tzk Tryz.prog 113 1 = true := by kernel_rfl
theorem tsa_121 : tsa Tryz.prog 121 = some (1, false) := by kernel_rfl
theorem telem_121 : telem Tryz.prog 121 = some 62 := by kernel_rfl
theorem tstr_121 : tstr Tryz.prog 121 = false := by kernel_rfl
theorem tintk_121 : tintk Tryz.prog 121 = none := by kernel_rfl
theorem tcell_121 : tcell Tryz.prog 121 = 0 := by kernel_rfl
theorem tbool_121 : tbool Tryz.prog 121 = false := by kernel_rfl
theorem tkind_121 : tkind Tryz.prog 121 = 2 := by kernel_rfl
theorem tby_121 : tby Tryz.prog 121 = 24 := by kernel_rfl
theorem tz_121 : tz Tryz.prog 121 = some (.nils) := by kernel_rfl
theorem tzk_121 : tzk Tryz.prog 121 1 = true := by kernel_rfl
theorem tsa_124 : tsa Tryz.prog 124 = some (1, false) := by kernel_rfl
theorem telem_124 : telem Tryz.prog 124 = some 3 := by kernel_rfl
theorem tstr_124 : tstr Tryz.prog 124 = false := by kernel_rfl
theorem tintk_124 : tintk Tryz.prog 124 = none := by kernel_rfl
theorem tcell_124 : tcell Tryz.prog 124 = 0 := by kernel_rfl
theorem tbool_124 : tbool Tryz.prog 124 = false := by kernel_rfl
theorem tkind_124 : tkind Tryz.prog 124 = 2 := by kernel_rfl
theorem tby_124 : tby Tryz.prog 124 = 24 := by kernel_rfl
theorem tz_124 : tz Tryz.prog 124 = some (.nils) := by kernel_rfl
theorem tzk_124 : tzk Tryz.prog 124 1 = true := by kernel_rfl
theorem tsa_126 : tsa Tryz.prog 126 = some (1, false) := by kernel_rfl
theorem telem_126 : telem Tryz.prog 126 = none := by kernel_rfl
theorem tstr_126 : tstr Tryz.prog 126 = false := by kernel_rfl
theorem tintk_126 : tintk Tryz.prog 126 = none := by kernel_rfl
theorem tcell_126 : tcell Tryz.prog 126 = 0 := by kernel_rfl
theorem tbool_126 : tbool Tryz.prog 126 = false := by kernel_rfl
theorem tkind_126 : tkind Tryz.prog 126 = 1 := by kernel_rfl
theorem tby_126 : tby Tryz.prog 126 = 8 := by kernel_rfl
theorem tz_126 : tz Tryz.prog 126 = some (.nilp) := by kernel_rfl
theorem tzk_126 : tzk Tryz.prog 126 1 = true := by kernel_rfl
theorem tsa_127 : tsa Tryz.prog 127 = some (1, false) := by kernel_rfl
theorem telem_127 : telem Tryz.prog 127 = some 126 := by kernel_rfl
theorem tstr_127 : tstr Tryz.prog 127 = false := by kernel_rfl
theorem tintk_127 : tintk Tryz.prog 127 = none := by kernel_rfl
theorem tcell_127 : tcell Tryz.prog 127 = 0 := by kernel_rfl
theorem tbool_127 : tbool Tryz.prog 127 = false := by kernel_rfl
theorem tkind_127 : tkind Tryz.prog 127 = 2 := by kernel_rfl
theorem tby_127 : tby Tryz.prog 127 = 24 := by kernel_rfl
theorem tz_127 : tz Tryz.prog 127 = some (.nils) := by kernel_rfl
theorem tzk_127 : tzk Tryz.prog 127 1 = true := by kernel_rfl
theorem tsa_130 : tsa Tryz.prog 130 = some (1, false) := by kernel_rfl
theorem telem_130 : telem Tryz.prog 130 = none := by kernel_rfl
theorem tstr_130 : tstr Tryz.prog 130 = false := by kernel_rfl
theorem tintk_130 : tintk Tryz.prog 130 = none := by kernel_rfl
theorem tcell_130 : tcell Tryz.prog 130 = 0 := by kernel_rfl
theorem tbool_130 : tbool Tryz.prog 130 = false := by kernel_rfl
theorem tkind_130 : tkind Tryz.prog 130 = 0 := by kernel_rfl
theorem tby_130 : tby Tryz.prog 130 = 0 := by kernel_rfl
theorem tsa_132 : tsa Tryz.prog 132 = some (1, false) := by kernel_rfl
theorem telem_132 : telem Tryz.prog 132 = none := by kernel_rfl
theorem tstr_132 : tstr Tryz.prog 132 = false := by kernel_rfl
theorem tintk_132 : tintk Tryz.prog 132 = none := by kernel_rfl
theorem tcell_132 : tcell Tryz.prog 132 = 0 := by kernel_rfl
theorem tbool_132 : tbool Tryz.prog 132 = false := by kernel_rfl
theorem tkind_132 : tkind Tryz.prog 132 = 0 := by kernel_rfl
theorem tby_132 : tby Tryz.prog 132 = 0 := by kernel_rfl
theorem tsa_136 : tsa Tryz.prog 136 = some (1, false) := by kernel_rfl
theorem telem_136 : telem Tryz.prog 136 = none := by kernel_rfl
theorem tstr_136 : tstr Tryz.prog 136 = false := by kernel_rfl
theorem tintk_136 : tintk Tryz.prog 136 = none := by kernel_rfl
theorem tcell_136 : tcell Tryz.prog 136 = 0 := by kernel_rfl
theorem tbool_136 : tbool Tryz.prog 136 = false := by kernel_rfl
theorem tkind_136 : tkind Tryz.prog 136 = 0 := by kernel_rfl
theorem tby_136 : tby Tryz.prog 136 = 0 := by kernel_rfl
theorem tsa_140 : tsa Tryz.prog 140 = some (2, true) := by kernel_rfl
theorem telem_140 : telem Tryz.prog 140 = none := by kernel_rfl
theorem tstr_140 : tstr Tryz.prog 140 = false := by kernel_rfl
theorem tintk_140 : tintk Tryz.prog 140 = none := by kernel_rfl
theorem tcell_140 : tcell Tryz.prog 140 = 0 := by kernel_rfl
theorem tbool_140 : tbool Tryz.prog 140 = false := by kernel_rfl
theorem tkind_140 : tkind Tryz.prog 140 = 0 := by kernel_rfl
theorem tby_140 : tby Tryz.prog 140 = 16 := by kernel_rfl
theorem tz_140 : tz Tryz.prog 140 = some (.agg [.int .i64 0, .int .i64 0]) := by kernel_rfl
theorem tzk_140 : tzk Tryz.prog 140 2 = true := by kernel_rfl
theorem tsa_143 : tsa Tryz.prog 143 = some (1, false) := by kernel_rfl
theorem telem_143 : telem Tryz.prog 143 = none := by kernel_rfl
theorem tstr_143 : tstr Tryz.prog 143 = false := by kernel_rfl
theorem tintk_143 : tintk Tryz.prog 143 = none := by kernel_rfl
theorem tcell_143 : tcell Tryz.prog 143 = 0 := by kernel_rfl
theorem tbool_143 : tbool Tryz.prog 143 = false := by kernel_rfl
theorem tkind_143 : tkind Tryz.prog 143 = 0 := by kernel_rfl
theorem tby_143 : tby Tryz.prog 143 = 0 := by kernel_rfl
theorem tsa_146 : tsa Tryz.prog 146 = some (1, false) := by kernel_rfl
theorem telem_146 : telem Tryz.prog 146 = none := by kernel_rfl
theorem tstr_146 : tstr Tryz.prog 146 = false := by kernel_rfl
theorem tintk_146 : tintk Tryz.prog 146 = none := by kernel_rfl
theorem tcell_146 : tcell Tryz.prog 146 = 0 := by kernel_rfl
theorem tbool_146 : tbool Tryz.prog 146 = false := by kernel_rfl
theorem tkind_146 : tkind Tryz.prog 146 = 0 := by kernel_rfl
theorem tby_146 : tby Tryz.prog 146 = 0 := by kernel_rfl
theorem tsa_153 : tsa Tryz.prog 153 = some (1, false) := by kernel_rfl
theorem telem_153 : telem Tryz.prog 153 = some 158 := by kernel_rfl
theorem tstr_153 : tstr Tryz.prog 153 = false := by kernel_rfl
theorem tintk_153 : tintk Tryz.prog 153 = none := by kernel_rfl
theorem tcell_153 : tcell Tryz.prog 153 = 0 := by kernel_rfl
theorem tbool_153 : tbool Tryz.prog 153 = false := by kernel_rfl
theorem tkind_153 : tkind Tryz.prog 153 = 2 := by kernel_rfl
theorem tby_153 : tby Tryz.prog 153 = 24 := by kernel_rfl
theorem tz_153 : tz Tryz.prog 153 = some (.nils) := by kernel_rfl
theorem tzk_153 : tzk Tryz.prog 153 1 = true := by kernel_rfl
theorem tsa_154 : tsa Tryz.prog 154 = some (1, false) := by kernel_rfl
theorem telem_154 : telem Tryz.prog 154 = none := by kernel_rfl
theorem tstr_154 : tstr Tryz.prog 154 = false := by kernel_rfl
theorem tintk_154 : tintk Tryz.prog 154 = none := by kernel_rfl
theorem tcell_154 : tcell Tryz.prog 154 = 0 := by kernel_rfl
theorem tbool_154 : tbool Tryz.prog 154 = false := by kernel_rfl
theorem tkind_154 : tkind Tryz.prog 154 = 0 := by kernel_rfl
theorem tby_154 : tby Tryz.prog 154 = 0 := by kernel_rfl
theorem tsa_156 : tsa Tryz.prog 156 = some (1, false) := by kernel_rfl
theorem telem_156 : telem Tryz.prog 156 = none := by kernel_rfl
theorem tstr_156 : tstr Tryz.prog 156 = false := by kernel_rfl
theorem tintk_156 : tintk Tryz.prog 156 = none := by kernel_rfl
theorem tcell_156 : tcell Tryz.prog 156 = 0 := by kernel_rfl
theorem tbool_156 : tbool Tryz.prog 156 = false := by kernel_rfl
theorem tkind_156 : tkind Tryz.prog 156 = 0 := by kernel_rfl
theorem tby_156 : tby Tryz.prog 156 = 0 := by kernel_rfl
theorem tsa_158 : tsa Tryz.prog 158 = some (1, false) := by kernel_rfl
theorem telem_158 : telem Tryz.prog 158 = none := by kernel_rfl
theorem tstr_158 : tstr Tryz.prog 158 = false := by kernel_rfl
theorem tintk_158 : tintk Tryz.prog 158 = none := by kernel_rfl
theorem tcell_158 : tcell Tryz.prog 158 = 0 := by kernel_rfl
theorem tbool_158 : tbool Tryz.prog 158 = false := by kernel_rfl
theorem tkind_158 : tkind Tryz.prog 158 = 1 := by kernel_rfl
theorem tby_158 : tby Tryz.prog 158 = 8 := by kernel_rfl
theorem tz_158 : tz Tryz.prog 158 = some (.nilp) := by kernel_rfl
theorem tzk_158 : tzk Tryz.prog 158 1 = true := by kernel_rfl
theorem tsa_159 : tsa Tryz.prog 159 = some (1, false) := by kernel_rfl
theorem telem_159 : telem Tryz.prog 159 = none := by kernel_rfl
theorem tstr_159 : tstr Tryz.prog 159 = false := by kernel_rfl
theorem tintk_159 : tintk Tryz.prog 159 = none := by kernel_rfl
theorem tcell_159 : tcell Tryz.prog 159 = 0 := by kernel_rfl
theorem tbool_159 : tbool Tryz.prog 159 = false := by kernel_rfl
theorem tkind_159 : tkind Tryz.prog 159 = 4 := by kernel_rfl
theorem tby_159 : tby Tryz.prog 159 = 8 := by kernel_rfl
theorem tz_159 : tz Tryz.prog 159 = some (.nilf) := by kernel_rfl
theorem tzk_159 : tzk Tryz.prog 159 1 = true := by kernel_rfl
theorem tsa_163 : tsa Tryz.prog 163 = some (1, false) := by kernel_rfl
theorem telem_163 : telem Tryz.prog 163 = none := by kernel_rfl
theorem tstr_163 : tstr Tryz.prog 163 = false := by kernel_rfl
theorem tintk_163 : tintk Tryz.prog 163 = none := by kernel_rfl
theorem tmap_163 : tmap Tryz.prog 163 = some (54, 74) := by kernel_rfl
theorem tkey_54_163 : tkey Tryz.prog 54 = some [1, 1] := by kernel_rfl
theorem tcell_163 : tcell Tryz.prog 163 = 0 := by kernel_rfl
theorem tbool_163 : tbool Tryz.prog 163 = false := by kernel_rfl
theorem tkind_163 : tkind Tryz.prog 163 = 3 := by kernel_rfl
theorem tby_163 : tby Tryz.prog 163 = 8 := by kernel_rfl
theorem tz_163 : tz Tryz.prog 163 = some (.nilm) := by kernel_rfl
theorem tzk_163 : tzk Tryz.prog 163 1 = true := by kernel_rfl
theorem tsa_164 : tsa Tryz.prog 164 = some (1, false) := by kernel_rfl
theorem telem_164 : telem Tryz.prog 164 = none := by kernel_rfl
theorem tstr_164 : tstr Tryz.prog 164 = false := by kernel_rfl
theorem tintk_164 : tintk Tryz.prog 164 = none := by kernel_rfl
theorem tcell_164 : tcell Tryz.prog 164 = 0 := by kernel_rfl
theorem tbool_164 : tbool Tryz.prog 164 = false := by kernel_rfl
theorem tkind_164 : tkind Tryz.prog 164 = 0 := by kernel_rfl
theorem tby_164 : tby Tryz.prog 164 = 0 := by kernel_rfl
theorem tsa_167 : tsa Tryz.prog 167 = some (2, true) := by kernel_rfl
theorem telem_167 : telem Tryz.prog 167 = none := by kernel_rfl
theorem tstr_167 : tstr Tryz.prog 167 = false := by kernel_rfl
theorem tintk_167 : tintk Tryz.prog 167 = none := by kernel_rfl
theorem tcell_167 : tcell Tryz.prog 167 = 0 := by kernel_rfl
theorem tbool_167 : tbool Tryz.prog 167 = false := by kernel_rfl
theorem tkind_167 : tkind Tryz.prog 167 = 0 := by kernel_rfl
theorem tby_167 : tby Tryz.prog 167 = 32 := by kernel_rfl
theorem tz_167 : tz Tryz.prog 167 = some (.agg [.bool false, .nils]) := by kernel_rfl
theorem tzk_167 : tzk Tryz.prog 167 2 = true := by kernel_rfl
theorem tfld_167_0 : tfld Tryz.prog 167 0 = some (0, 4) := by kernel_rfl
theorem apl_167_0 : apl Tryz.prog 167 0 = some (0, 1) := by kernel_rfl
theorem tfld_167_1 : tfld Tryz.prog 167 1 = some (1, 55) := by kernel_rfl
theorem apl_167_1 : apl Tryz.prog 167 1 = some (1, 1) := by kernel_rfl
theorem abuild_167 (parts : List (Nat × AV)) : abuild Tryz.prog 167 parts = (afill (apl Tryz.prog 167) [.bool false, .nils] parts).map AV.agg := abuild_apl (by kernel_rfl) (by decide) (by kernel_rfl) parts
theorem tsa_171 : tsa Tryz.prog 171 = some (1, false) := by kernel_rfl
theorem telem_171 : telem Tryz.prog 171 = none := by kernel_rfl
theorem tstr_171 : tstr Tryz.prog 171 = false := by kernel_rfl
theorem tintk_171 : tintk Tryz.prog 171 = none := by kernel_rfl
theorem tcell_171 : tcell Tryz.prog 171 = 0 := by kernel_rfl
theorem tbool_171 : tbool Tryz.prog 171 = false := by kernel_rfl
theorem tkind_171 : tkind Tryz.prog 171 = 4 := by kernel_rfl
theorem tby_171 : tby Tryz.prog 171 = 8 := by kernel_rfl
theorem tz_171 : tz Tryz.prog 171 = some (.nilf) := by kernel_rfl
theorem tzk_171 : tzk Tryz.prog 171 1 = true := by kernel_rfl
theorem tsa_174 : tsa Tryz.prog 174 = some (1, false) := by kernel_rfl
theorem telem_174 : telem Tryz.prog 174 = none := by kernel_rfl
theorem tstr_174 : tstr Tryz.prog 174 = false := by kernel_rfl
theorem tintk_174 : tintk Tryz.prog 174 = some .u32 := by kernel_rfl
theorem tcell_174 : tcell Tryz.prog 174 = 1 := by kernel_rfl
theorem tbool_174 : tbool Tryz.prog 174 = false := by kernel_rfl
theorem tkind_174 : tkind Tryz.prog 174 = 0 := by kernel_rfl
theorem tby_174 : tby Tryz.prog 174 = 4 := by kernel_rfl
theorem tz_174 : tz Tryz.prog 174 = some (.int .u32 0) := by kernel_rfl
theorem tzk_174 : tzk Tryz.prog 174 1 = true := by kernel_rfl
theorem tsa_176 : tsa Tryz.prog 176 = some (3, true) := by kernel_rfl
theorem telem_176 : telem Tryz.prog 176 = none := by kernel_rfl
theorem tstr_176 : tstr Tryz.prog 176 = false := by kernel_rfl
theorem tintk_176 : tintk Tryz.prog 176 = none := by kernel_rfl
theorem tcell_176 : tcell Tryz.prog 176 = 0 := by kernel_rfl
theorem tbool_176 : tbool Tryz.prog 176 = false := by kernel_rfl
theorem tkind_176 : tkind Tryz.prog 176 = 0 := by kernel_rfl
theorem tby_176 : tby Tryz.prog 176 = 40 := by kernel_rfl
theorem tz_176 : tz Tryz.prog 176 = some (.agg [.nils, .int .i64 0, .int .u32 0]) := by kernel_rfl
theorem tzk_176 : tzk Tryz.prog 176 3 = true := by kernel_rfl
theorem tfld_176_0 : tfld Tryz.prog 176 0 = some (0, 75) := by kernel_rfl
theorem apl_176_0 : apl Tryz.prog 176 0 = some (0, 1) := by kernel_rfl
theorem tfld_176_1 : tfld Tryz.prog 176 1 = some (1, 3) := by kernel_rfl
theorem apl_176_1 : apl Tryz.prog 176 1 = some (1, 1) := by kernel_rfl
theorem tfld_176_2 : tfld Tryz.prog 176 2 = some (2, 174) := by kernel_rfl
theorem apl_176_2 : apl Tryz.prog 176 2 = some (2, 1) := by kernel_rfl
theorem abuild_176 (parts : List (Nat × AV)) : abuild Tryz.prog 176 parts = (afill (apl Tryz.prog 176) [.nils, .int .i64 0, .int .u32 0] parts).map AV.agg := abuild_apl (by kernel_rfl) (by decide) (by kernel_rfl) parts
theorem tsa_177 : tsa Tryz.prog 177 = some (1, false) := by kernel_rfl
theorem telem_177 : telem Tryz.prog 177 = none := by kernel_rfl
theorem tstr_177 : tstr Tryz.prog 177 = false := by kernel_rfl
theorem tintk_177 : tintk Tryz.prog 177 = none := by kernel_rfl
theorem tcell_177 : tcell Tryz.prog 177 = 0 := by kernel_rfl
theorem tbool_177 : tbool Tryz.prog 177 = false := by kernel_rfl
theorem tkind_177 : tkind Tryz.prog 177 = 1 := by kernel_rfl
theorem tby_177 : tby Tryz.prog 177 = 8 := by kernel_rfl
theorem tz_177 : tz Tryz.prog 177 = some (.nilp) := by kernel_rfl
theorem tzk_177 : tzk Tryz.prog 177 1 = true := by kernel_rfl
theorem tsa_179 : tsa Tryz.prog 179 = some (2, true) := by kernel_rfl
theorem telem_179 : telem Tryz.prog 179 = none := by kernel_rfl
theorem tstr_179 : tstr Tryz.prog 179 = false := by kernel_rfl
theorem tintk_179 : tintk Tryz.prog 179 = none := by kernel_rfl
theorem tcell_179 : tcell Tryz.prog 179 = 0 := by kernel_rfl
theorem tbool_179 : tbool Tryz.prog 179 = false := by kernel_rfl
theorem tkind_179 : tkind Tryz.prog 179 = 0 := by kernel_rfl
theorem tby_179 : tby Tryz.prog 179 = 32 := by kernel_rfl
theorem tz_179 : tz Tryz.prog 179 = some (.agg [.nilp, .nils]) := by kernel_rfl
theorem tzk_179 : tzk Tryz.prog 179 2 = true := by kernel_rfl
theorem tfld_179_0 : tfld Tryz.prog 179 0 = some (0, 177) := by kernel_rfl
theorem apl_179_0 : apl Tryz.prog 179 0 = some (0, 1) := by kernel_rfl
theorem tfld_179_1 : tfld Tryz.prog 179 1 = some (1, 75) := by kernel_rfl
theorem apl_179_1 : apl Tryz.prog 179 1 = some (1, 1) := by kernel_rfl
theorem abuild_179 (parts : List (Nat × AV)) : abuild Tryz.prog 179 parts = (afill (apl Tryz.prog 179) [.nilp, .nils] parts).map AV.agg := abuild_apl (by kernel_rfl) (by decide) (by kernel_rfl) parts
theorem tsa_181 : tsa Tryz.prog 181 = some (1, false) := by kernel_rfl
theorem telem_181 : telem Tryz.prog 181 = none := by kernel_rfl
theorem tstr_181 : tstr Tryz.prog 181 = false := by kernel_rfl
theorem tintk_181 : tintk Tryz.prog 181 = none := by kernel_rfl
theorem tcell_181 : tcell Tryz.prog 181 = 0 := by kernel_rfl
theorem tbool_181 : tbool Tryz.prog 181 = false := by kernel_rfl
theorem tkind_181 : tkind Tryz.prog 181 = 5 := by kernel_rfl
theorem tby_181 : tby Tryz.prog 181 = 16 := by kernel_rfl
theorem tz_181 : tz Tryz.prog 181 = some (.nili) := by kernel_rfl
theorem tzk_181 : tzk Tryz.prog 181 1 = true := by kernel_rfl
theorem tsa_182 : tsa Tryz.prog 182 = some (1, false) := by kernel_rfl
theorem telem_182 : telem Tryz.prog 182 = none := by kernel_rfl
theorem tstr_182 : tstr Tryz.prog 182 = false := by kernel_rfl
theorem tintk_182 : tintk Tryz.prog 182 = none := by kernel_rfl
theorem tcell_182 : tcell Tryz.prog 182 = 0 := by kernel_rfl
theorem tbool_182 : tbool Tryz.prog 182 = false := by kernel_rfl
theorem tkind_182 : tkind Tryz.prog 182 = 0 := by kernel_rfl
theorem tby_182 : tby Tryz.prog 182 = 0 := by kernel_rfl
theorem tsa_187 : tsa Tryz.prog 187 = some (1, false) := by kernel_rfl
theorem telem_187 : telem Tryz.prog 187 = none := by kernel_rfl
theorem tstr_187 : tstr Tryz.prog 187 = false := by kernel_rfl
theorem tintk_187 : tintk Tryz.prog 187 = none := by kernel_rfl
theorem tcell_187 : tcell Tryz.prog 187 = 0 := by kernel_rfl
theorem tbool_187 : tbool Tryz.prog 187 = false := by kernel_rfl
theorem tkind_187 : tkind Tryz.prog 187 = 0 := by kernel_rfl
theorem tby_187 : tby Tryz.prog 187 = 0 := by kernel_rfl
theorem tsa_189 : tsa Tryz.prog 189 = some (1, false) := by kernel_rfl
theorem telem_189 : telem Tryz.prog 189 = none := by kernel_rfl
theorem tstr_189 : tstr Tryz.prog 189 = false := by kernel_rfl
theorem tintk_189 : tintk Tryz.prog 189 = none := by kernel_rfl
theorem tcell_189 : tcell Tryz.prog 189 = 0 := by kernel_rfl
theorem tbool_189 : tbool Tryz.prog 189 = false := by kernel_rfl
theorem tkind_189 : tkind Tryz.prog 189 = 4 := by kernel_rfl
theorem tby_189 : tby Tryz.prog 189 = 8 := by kernel_rfl
theorem tz_189 : tz Tryz.prog 189 = some (.nilf) := by kernel_rfl
theorem tzk_189 : tzk Tryz.prog 189 1 = true := by kernel_rfl
theorem tsa_200 : tsa Tryz.prog 200 = some (1, false) := by kernel_rfl
theorem telem_200 : telem Tryz.prog 200 = none := by kernel_rfl
theorem tstr_200 : tstr Tryz.prog 200 = false := by kernel_rfl
theorem tintk_200 : tintk Tryz.prog 200 = none := by kernel_rfl
theorem tcell_200 : tcell Tryz.prog 200 = 0 := by kernel_rfl
theorem tbool_200 : tbool Tryz.prog 200 = false := by kernel_rfl
theorem tkind_200 : tkind Tryz.prog 200 = 0 := by kernel_rfl
theorem tby_200 : tby Tryz.prog 200 = 0 := by kernel_rfl
theorem tsa_203 : tsa Tryz.prog 203 = some (1, false) := by kernel_rfl
theorem telem_203 : telem Tryz.prog 203 = none := by kernel_rfl
theorem tstr_203 : tstr Tryz.prog 203 = false := by kernel_rfl
theorem tintk_203 : tintk Tryz.prog 203 = none := by kernel_rfl
theorem tcell_203 : tcell Tryz.prog 203 = 0 := by kernel_rfl
theorem tbool_203 : tbool Tryz.prog 203 = false := by kernel_rfl
theorem tkind_203 : tkind Tryz.prog 203 = 4 := by kernel_rfl
theorem tby_203 : tby Tryz.prog 203 = 8 := by kernel_rfl
theorem tz_203 : tz Tryz.prog 203 = some (.nilf) := by kernel_rfl
theorem tzk_203 : tzk Tryz.prog 203 1 = true := by kernel_rfl
theorem tsa_204 : tsa Tryz.prog 204 = some (1, false) := by kernel_rfl
theorem telem_204 : telem Tryz.prog 204 = none := by kernel_rfl
theorem tstr_204 : tstr Tryz.prog 204 = false := by kernel_rfl
theorem tintk_204 : tintk Tryz.prog 204 = none := by kernel_rfl
theorem tcell_204 : tcell Tryz.prog 204 = 0 := by kernel_rfl
theorem tbool_204 : tbool Tryz.prog 204 = false := by kernel_rfl
theorem tkind_204 : tkind Tryz.prog 204 = 4 := by kernel_rfl
theorem tby_204 : tby Tryz.prog 204 = 8 := by kernel_rfl
theorem tz_204 : tz Tryz.prog 204 = some (.nilf) := by kernel_rfl
theorem tzk_204 : tzk Tryz.prog 204 1 = true := by kernel_rfl
theorem tsa_205 : tsa Tryz.prog 205 = some (1, false) := by kernel_rfl
theorem telem_205 : telem Tryz.prog 205 = none := by kernel_rfl
theorem tstr_205 : tstr Tryz.prog 205 = false := by kernel_rfl
theorem tintk_205 : tintk Tryz.prog 205 = none := by kernel_rfl
theorem tcell_205 : tcell Tryz.prog 205 = 0 := by kernel_rfl
theorem tbool_205 : tbool Tryz.prog 205 = false := by kernel_rfl
theorem tkind_205 : tkind Tryz.prog 205 = 4 := by kernel_rfl
theorem tby_205 : tby Tryz.prog 205 = 8 := by kernel_rfl
theorem tz_205 : tz Tryz.prog 205 = some (.nilf) := by kernel_rfl
theorem tzk_205 : tzk Tryz.prog 205 1 = true := by kernel_rfl
theorem tsa_210 : tsa Tryz.prog 210 = some (2, true) := by kernel_rfl
theorem telem_210 : telem Tryz.prog 210 = none := by kernel_rfl
theorem tstr_210 : tstr Tryz.prog 210 = false := by kernel_rfl
theorem tintk_210 : tintk Tryz.prog 210 = none := by kernel_rfl
theorem tcell_210 : tcell Tryz.prog 210 = 0 := by kernel_rfl
theorem tbool_210 : tbool Tryz.prog 210 = false := by kernel_rfl
theorem tkind_210 : tkind Tryz.prog 210 = 0 := by kernel_rfl
theorem tby_210 : tby Tryz.prog 210 = 16 := by kernel_rfl
theorem tz_210 : tz Tryz.prog 210 = some (.agg [.nilf, .int .i64 0]) := by kernel_rfl
theorem tzk_210 : tzk Tryz.prog 210 2 = true := by kernel_rfl
theorem tfld_210_0 : tfld Tryz.prog 210 0 = some (0, 32) := by kernel_rfl
theorem apl_210_0 : apl Tryz.prog 210 0 = some (0, 1) := by kernel_rfl
theorem tfld_210_1 : tfld Tryz.prog 210 1 = some (1, 24) := by kernel_rfl
theorem apl_210_1 : apl Tryz.prog 210 1 = some (1, 1) := by kernel_rfl
theorem abuild_210 (parts : List (Nat × AV)) : abuild Tryz.prog 210 parts = (afill (apl Tryz.prog 210) [.nilf, .int .i64 0] parts).map AV.agg := abuild_apl (by kernel_rfl) (by decide) (by kernel_rfl) parts
theorem tsa_212 : tsa Tryz.prog 212 = some (1, false) := by kernel_rfl
theorem telem_212 : telem Tryz.prog 212 = some 210 := by kernel_rfl
theorem tstr_212 : tstr Tryz.prog 212 = false := by kernel_rfl
theorem tintk_212 : tintk Tryz.prog 212 = none := by kernel_rfl
theorem tcell_212 : tcell Tryz.prog 212 = 0 := by kernel_rfl
theorem tbool_212 : tbool Tryz.prog 212 = false := by kernel_rfl
theorem tkind_212 : tkind Tryz.prog 212 = 2 := by kernel_rfl
theorem tby_212 : tby Tryz.prog 212 = 24 := by kernel_rfl
theorem tz_212 : tz Tryz.prog 212 = some (.nils) := by kernel_rfl
theorem tzk_212 : tzk Tryz.prog 212 1 = true := by kernel_rfl
theorem tsa_217 : tsa Tryz.prog 217 = some (1, false) := by kernel_rfl
theorem telem_217 : telem Tryz.prog 217 = none := by kernel_rfl
theorem tstr_217 : tstr Tryz.prog 217 = false := by kernel_rfl
theorem tintk_217 : tintk Tryz.prog 217 = none := by kernel_rfl
theorem tcell_217 : tcell Tryz.prog 217 = 0 := by kernel_rfl
theorem tbool_217 : tbool Tryz.prog 217 = false := by kernel_rfl
theorem tkind_217 : tkind Tryz.prog 217 = 0 := by kernel_rfl
theorem tby_217 : tby Tryz.prog 217 = 0 := by kernel_rfl
theorem tsa_222 : tsa Tryz.prog 222 = some (1, false) := by kernel_rfl
theorem telem_222 : telem Tryz.prog 222 = none := by kernel_rfl
theorem tstr_222 : tstr Tryz.prog 222 = false := by kernel_rfl
theorem tintk_222 : tintk Tryz.prog 222 = none := by kernel_rfl
theorem tcell_222 : tcell Tryz.prog 222 = 0 := by kernel_rfl
theorem tbool_222 : tbool Tryz.prog 222 = false := by kernel_rfl
theorem tkind_222 : tkind Tryz.prog 222 = 1 := by kernel_rfl
theorem tby_222 : tby Tryz.prog 222 = 8 := by kernel_rfl
theorem tz_222 : tz Tryz.prog 222 = some (.nilp) := by kernel_rfl
theorem tzk_222 : tzk Tryz.prog 222 1 = true := by kernel_rfl
theorem tsa_226 : tsa Tryz.prog 226 = some (1, true) := by kernel_rfl
theorem telem_226 : telem Tryz.prog 226 = none := by kernel_rfl
theorem tstr_226 : tstr Tryz.prog 226 = false := by kernel_rfl
theorem tintk_226 : tintk Tryz.prog 226 = none := by kernel_rfl
theorem tcell_226 : tcell Tryz.prog 226 = 0 := by kernel_rfl
theorem tbool_226 : tbool Tryz.prog 226 = false := by kernel_rfl
theorem tkind_226 : tkind Tryz.prog 226 = 0 := by kernel_rfl
theorem tby_226 : tby Tryz.prog 226 = 24 := by kernel_rfl
theorem tz_226 : tz Tryz.prog 226 = some (.agg [.nils]) := by kernel_rfl
theorem tzk_226 : tzk Tryz.prog 226 1 = true := by kernel_rfl
theorem tfld_226_0 : tfld Tryz.prog 226 0 = some (0, 23) := by kernel_rfl
theorem apl_226_0 : apl Tryz.prog 226 0 = some (0, 1) := by kernel_rfl
theorem abuild_226 (parts : List (Nat × AV)) : abuild Tryz.prog 226 parts = (afill (apl Tryz.prog 226) [.nils] parts).map AV.agg := abuild_apl (by kernel_rfl) (by decide) (by kernel_rfl) parts
theorem tsa_227 : tsa Tryz.prog 227 = some (1, false) := by kernel_rfl
theorem telem_227 : telem Tryz.prog 227 = none := by kernel_rfl
theorem tstr_227 : tstr Tryz.prog 227 = false := by kernel_rfl
theorem tintk_227 : tintk Tryz.prog 227 = none := by kernel_rfl
theorem tmap_227 : tmap Tryz.prog 227 = some (54, 3) := by kernel_rfl
theorem tkey_54_227 : tkey Tryz.prog 54 = some [1, 1] := by kernel_rfl
theorem tcell_227 : tcell Tryz.prog 227 = 0 := by kernel_rfl
theorem tbool_227 : tbool Tryz.prog 227 = false := by kernel_rfl
theorem tkind_227 : tkind Tryz.prog 227 = 3 := by kernel_rfl
theorem tby_227 : tby Tryz.prog 227 = 8 := by kernel_rfl
theorem tz_227 : tz Tryz.prog 227 = some (.nilm) := by kernel_rfl
theorem tzk_227 : tzk Tryz.prog 227 1 = true := by kernel_rfl
theorem tsa_229 : tsa Tryz.prog 229 = some (2, true) := by kernel_rfl
theorem telem_229 : telem Tryz.prog 229 = none := by kernel_rfl
theorem tstr_229 : tstr Tryz.prog 229 = false := by kernel_rfl
theorem tintk_229 : tintk Tryz.prog 229 = none := by kernel_rfl
theorem tcell_229 : tcell Tryz.prog 229 = 0 := by kernel_rfl
theorem tbool_229 : tbool Tryz.prog 229 = false := by kernel_rfl
theorem tkind_229 : tkind Tryz.prog 229 = 0 := by kernel_rfl
theorem tby_229 : tby Tryz.prog 229 = 32 := by kernel_rfl
theorem tz_229 : tz Tryz.prog 229 = some (.agg [.nils, .nilm]) := by kernel_rfl
theorem tzk_229 : tzk Tryz.prog 229 2 = true := by kernel_rfl
theorem tfld_229_0 : tfld Tryz.prog 229 0 = some (0, 226) := by kernel_rfl
theorem apl_229_0 : apl Tryz.prog 229 0 = some (0, 1) := by kernel_rfl
theorem tfld_229_1 : tfld Tryz.prog 229 1 = some (1, 227) := by kernel_rfl
theorem apl_229_1 : apl Tryz.prog 229 1 = some (1, 1) := by kernel_rfl
theorem abuild_229 (parts : List (Nat × AV)) : abuild Tryz.prog 229 parts = (afill (apl Tryz.prog 229) [.nils, .nilm] parts).map AV.agg := abuild_apl (by kernel_rfl) (by decide) (by kernel_rfl) parts
theorem tsa_231 : tsa Tryz.prog 231 = some (1, false) := by kernel_rfl
theorem telem_231 : telem Tryz.prog 231 = none := by kernel_rfl
theorem tstr_231 : tstr Tryz.prog 231 = false := by kernel_rfl
theorem tintk_231 : tintk Tryz.prog 231 = none := by kernel_rfl
theorem tcell_231 : tcell Tryz.prog 231 = 0 := by kernel_rfl
theorem tbool_231 : tbool Tryz.prog 231 = false := by kernel_rfl
theorem tkind_231 : tkind Tryz.prog 231 = 4 := by kernel_rfl
theorem tby_231 : tby Tryz.prog 231 = 8 := by kernel_rfl
theorem tz_231 : tz Tryz.prog 231 = some (.nilf) := by kernel_rfl
theorem tzk_231 : tzk Tryz.prog 231 1 = true := by kernel_rfl
theorem tsa_233 : tsa Tryz.prog 233 = some (1, false) := by kernel_rfl
theorem telem_233 : telem Tryz.prog 233 = none := by kernel_rfl
theorem tstr_233 : tstr Tryz.prog 233 = false := by kernel_rfl
theorem tintk_233 : tintk Tryz.prog 233 = none := by kernel_rfl
theorem tcell_233 : tcell Tryz.prog 233 = 0 := by kernel_rfl
theorem tbool_233 : tbool Tryz.prog 233 = false := by kernel_rfl
theorem tkind_233 : tkind Tryz.prog 233 = 4 := by kernel_rfl
theorem tby_233 : tby Tryz.prog 233 = 8 := by kernel_rfl
theorem tz_233 : tz Tryz.prog 233 = some (.nilf) := by kernel_rfl
theorem tzk_233 : tzk Tryz.prog 233 1 = true := by kernel_rfl
theorem tsa_235 : tsa Tryz.prog 235 = some (1, false) := by kernel_rfl
theorem telem_235 : telem Tryz.prog 235 = none := by kernel_rfl
theorem tstr_235 : tstr Tryz.prog 235 = false := by kernel_rfl
theorem tintk_235 : tintk Tryz.prog 235 = none := by kernel_rfl
theorem tcell_235 : tcell Tryz.prog 235 = 0 := by kernel_rfl
theorem tbool_235 : tbool Tryz.prog 235 = false := by kernel_rfl
theorem tkind_235 : tkind Tryz.prog 235 = 4 := by kernel_rfl
theorem tby_235 : tby Tryz.prog 235 = 8 := by kernel_rfl
theorem tz_235 : tz Tryz.prog 235 = some (.nilf) := by kernel_rfl
theorem tzk_235 : tzk Tryz.prog 235 1 = true := by kernel_rfl
theorem tsa_237 : tsa Tryz.prog 237 = some (1, false) := by kernel_rfl
theorem telem_237 : telem Tryz.prog 237 = some 55 := by kernel_rfl
theorem tstr_237 : tstr Tryz.prog 237 = false := by kernel_rfl
theorem tintk_237 : tintk Tryz.prog 237 = none := by kernel_rfl
theorem tcell_237 : tcell Tryz.prog 237 = 0 := by kernel_rfl
theorem tbool_237 : tbool Tryz.prog 237 = false := by kernel_rfl
theorem tkind_237 : tkind Tryz.prog 237 = 2 := by kernel_rfl
theorem tby_237 : tby Tryz.prog 237 = 24 := by kernel_rfl
theorem tz_237 : tz Tryz.prog 237 = some (.nils) := by kernel_rfl
theorem tzk_237 : tzk Tryz.prog 237 1 = true := by kernel_rfl
theorem tsa_238 : tsa Tryz.prog 238 = some (1, false) := by kernel_rfl
theorem telem_238 : telem Tryz.prog 238 = none := by kernel_rfl
theorem tstr_238 : tstr Tryz.prog 238 = false := by kernel_rfl
theorem tintk_238 : tintk Tryz.prog 238 = none := by kernel_rfl
theorem tcell_238 : tcell Tryz.prog 238 = 0 := by kernel_rfl
theorem tbool_238 : tbool Tryz.prog 238 = false := by kernel_rfl
theorem tkind_238 : tkind Tryz.prog 238 = 0 := by kernel_rfl
theorem tby_238 : tby Tryz.prog 238 = 0 := by kernel_rfl
theorem tsa_240 : tsa Tryz.prog 240 = some (1, false) := by kernel_rfl
theorem telem_240 : telem Tryz.prog 240 = none := by kernel_rfl
theorem tstr_240 : tstr Tryz.prog 240 = false := by kernel_rfl
theorem tintk_240 : tintk Tryz.prog 240 = some .u64 := by kernel_rfl
theorem tcell_240 : tcell Tryz.prog 240 = 1 := by kernel_rfl
theorem tbool_240 : tbool Tryz.prog 240 = false := by kernel_rfl
theorem tkind_240 : tkind Tryz.prog 240 = 0 := by kernel_rfl
theorem tby_240 : tby Tryz.prog 240 = 8 := by kernel_rfl
theorem tz_240 : tz Tryz.prog 240 = some (.int .u64 0) := by kernel_rfl
theorem tzk_240 : tzk Tryz.prog 240 1 = true := by kernel_rfl
theorem tsa_241 : tsa Tryz.prog 241 = some (1, false) := by kernel_rfl
theorem telem_241 : telem Tryz.prog 241 = none := by kernel_rfl
theorem tstr_241 : tstr Tryz.prog 241 = false := by kernel_rfl
theorem tintk_241 : tintk Tryz.prog 241 = none := by kernel_rfl
theorem tcell_241 : tcell Tryz.prog 241 = 0 := by kernel_rfl
theorem tbool_241 : tbool Tryz.prog 241 = false := by kernel_rfl
theorem tkind_241 : tkind Tryz.prog 241 = 0 := by kernel_rfl
theorem tby_241 : tby Tryz.prog 241 = 0 := by kernel_rfl
theorem tsa_243 : tsa Tryz.prog 243 = some (1, false) := by kernel_rfl
theorem telem_243 : telem Tryz.prog 243 = none := by kernel_rfl
theorem tstr_243 : tstr Tryz.prog 243 = false := by kernel_rfl
theorem tintk_243 : tintk Tryz.prog 243 = none := by kernel_rfl
theorem tcell_243 : tcell Tryz.prog 243 = 0 := by kernel_rfl
theorem tbool_243 : tbool Tryz.prog 243 = false := by kernel_rfl
theorem tkind_243 : tkind Tryz.prog 243 = 4 := by kernel_rfl
theorem tby_243 : tby Tryz.prog 243 = 8 := by kernel_rfl
theorem tz_243 : tz Tryz.prog 243 = some (.nilf) := by kernel_rfl
theorem tzk_243 : tzk Tryz.prog 243 1 = true := by kernel_rfl
theorem tsa_244 : tsa Tryz.prog 244 = some (1, false) := by kernel_rfl
theorem telem_244 : telem Tryz.prog 244 = none := by kernel_rfl
theorem tstr_244 : tstr Tryz.prog 244 = false := by kernel_rfl
theorem tintk_244 : tintk Tryz.prog 244 = none := by kernel_rfl
theorem tcell_244 : tcell Tryz.prog 244 = 0 := by kernel_rfl
theorem tbool_244 : tbool Tryz.prog 244 = false := by kernel_rfl
theorem tkind_244 : tkind Tryz.prog 244 = 4 := by kernel_rfl
theorem tby_244 : tby Tryz.prog 244 = 8 := by kernel_rfl
theorem tz_244 : tz Tryz.prog 244 = some (.nilf) := by kernel_rfl
theorem tzk_244 : tzk Tryz.prog 244 1 = true := by kernel_rfl
theorem tsa_246 : tsa Tryz.prog 246 = some (1, true) := by kernel_rfl
theorem telem_246 : telem Tryz.prog 246 = none := by kernel_rfl
theorem tstr_246 : tstr Tryz.prog 246 = false := by kernel_rfl
theorem tintk_246 : tintk Tryz.prog 246 = none := by kernel_rfl
theorem tcell_246 : tcell Tryz.prog 246 = 0 := by kernel_rfl
theorem tbool_246 : tbool Tryz.prog 246 = false := by kernel_rfl
theorem tkind_246 : tkind Tryz.prog 246 = 0 := by kernel_rfl
theorem tby_246 : tby Tryz.prog 246 = 16 := by kernel_rfl
theorem tz_246 : tz Tryz.prog 246 = some (.agg [.str []]) := by kernel_rfl
theorem tzk_246 : tzk Tryz.prog 246 1 = true := by kernel_rfl
theorem tfld_246_0 : tfld Tryz.prog 246 0 = some (0, 9) := by kernel_rfl
theorem apl_246_0 : apl Tryz.prog 246 0 = some (0, 1) := by kernel_rfl
theorem tplain_246 : tplain Tryz.prog 246 = some [3] := by kernel_rfl
theorem abuild_246 (parts : List (Nat × AV)) : abuild Tryz.prog 246 parts = (afill (apl Tryz.prog 246) [.str []] parts).map AV.agg := abuild_apl (by kernel_rfl) (by decide) (by kernel_rfl) parts
theorem tsa_251 : tsa Tryz.prog 251 = some (1, false) := by kernel_rfl
theorem telem_251 : telem Tryz.prog 251 = none := by kernel_rfl
theorem tstr_251 : tstr Tryz.prog 251 = false := by kernel_rfl
theorem tintk_251 : tintk Tryz.prog 251 = some .i64 := by kernel_rfl
theorem tcell_251 : tcell Tryz.prog 251 = 1 := by kernel_rfl
theorem tbool_251 : tbool Tryz.prog 251 = false := by kernel_rfl
theorem tkind_251 : tkind Tryz.prog 251 = 0 := by kernel_rfl
theorem tby_251 : tby Tryz.prog 251 = 8 := by kernel_rfl
theorem tz_251 : tz Tryz.prog 251 = some (.int .i64 0) := by kernel_rfl
theorem tzk_251 : tzk Tryz.prog 251 1 = true := by kernel_rfl
theorem tsa_252 : tsa Tryz.prog 252 = some (1, false) := by kernel_rfl
theorem telem_252 : telem Tryz.prog 252 = none := by kernel_rfl
theorem tstr_252 : tstr Tryz.prog 252 = false := by kernel_rfl
theorem tintk_252 : tintk Tryz.prog 252 = none := by kernel_rfl
theorem tcell_252 : tcell Tryz.prog 252 = 0 := by kernel_rfl
theorem tbool_252 : tbool Tryz.prog 252 = false := by kernel_rfl
theorem tkind_252 : tkind Tryz.prog 252 = 0 := by kernel_rfl
theorem tby_252 : tby Tryz.prog 252 = 0 := by kernel_rfl
theorem tsa_259 : tsa Tryz.prog 259 = some (1, false) := by kernel_rfl
theorem telem_259 : telem Tryz.prog 259 = none := by kernel_rfl
theorem tstr_259 : tstr Tryz.prog 259 = false := by kernel_rfl
theorem tintk_259 : tintk Tryz.prog 259 = none := by kernel_rfl
theorem tcell_259 : tcell Tryz.prog 259 = 0 := by kernel_rfl
theorem tbool_259 : tbool Tryz.prog 259 = false := by kernel_rfl
theorem tkind_259 : tkind Tryz.prog 259 = 0 := by kernel_rfl
theorem tby_259 : tby Tryz.prog 259 = 8 := by kernel_rfl
theorem tz_259 : tz Tryz.prog 259 = some (.nilp) := by kernel_rfl
theorem tzk_259 : tzk Tryz.prog 259 1 = true := by kernel_rfl
theorem tsa_261 : tsa Tryz.prog 261 = some (1, false) := by kernel_rfl
theorem telem_261 : telem Tryz.prog 261 = none := by kernel_rfl
theorem tstr_261 : tstr Tryz.prog 261 = false := by kernel_rfl
theorem tintk_261 : tintk Tryz.prog 261 = none := by kernel_rfl
theorem tcell_261 : tcell Tryz.prog 261 = 0 := by kernel_rfl
theorem tbool_261 : tbool Tryz.prog 261 = false := by kernel_rfl
theorem tkind_261 : tkind Tryz.prog 261 = 0 := by kernel_rfl
theorem tby_261 : tby Tryz.prog 261 = 0 := by kernel_rfl
theorem tsa_271 : tsa Tryz.prog 271 = some (1, false) := by kernel_rfl
theorem telem_271 : telem Tryz.prog 271 = none := by kernel_rfl
theorem tstr_271 : tstr Tryz.prog 271 = false := by kernel_rfl
theorem tintk_271 : tintk Tryz.prog 271 = some .u64 := by kernel_rfl
theorem tcell_271 : tcell Tryz.prog 271 = 1 := by kernel_rfl
theorem tbool_271 : tbool Tryz.prog 271 = false := by kernel_rfl
theorem tkind_271 : tkind Tryz.prog 271 = 0 := by kernel_rfl
theorem tby_271 : tby Tryz.prog 271 = 8 := by kernel_rfl
theorem tz_271 : tz Tryz.prog 271 = some (.int .u64 0) := by kernel_rfl
theorem tzk_271 : tzk Tryz.prog 271 1 = true := by kernel_rfl
theorem tsa_282 : tsa Tryz.prog 282 = some (1, false) := by kernel_rfl
theorem telem_282 : telem Tryz.prog 282 = none := by kernel_rfl
theorem tstr_282 : tstr Tryz.prog 282 = false := by kernel_rfl
theorem tintk_282 : tintk Tryz.prog 282 = some .i64 := by kernel_rfl
theorem tcell_282 : tcell Tryz.prog 282 = 1 := by kernel_rfl
theorem tbool_282 : tbool Tryz.prog 282 = false := by kernel_rfl
theorem tkind_282 : tkind Tryz.prog 282 = 0 := by kernel_rfl
theorem tby_282 : tby Tryz.prog 282 = 8 := by kernel_rfl
theorem tz_282 : tz Tryz.prog 282 = some (.int .i64 0) := by kernel_rfl
theorem tzk_282 : tzk Tryz.prog 282 1 = true := by kernel_rfl
theorem tsa_283 : tsa Tryz.prog 283 = some (1, false) := by kernel_rfl
theorem telem_283 : telem Tryz.prog 283 = none := by kernel_rfl
theorem tstr_283 : tstr Tryz.prog 283 = false := by kernel_rfl
theorem tintk_283 : tintk Tryz.prog 283 = none := by kernel_rfl
theorem tcell_283 : tcell Tryz.prog 283 = 0 := by kernel_rfl
theorem tbool_283 : tbool Tryz.prog 283 = false := by kernel_rfl
theorem tkind_283 : tkind Tryz.prog 283 = 0 := by kernel_rfl
theorem tby_283 : tby Tryz.prog 283 = 0 := by kernel_rfl
theorem tsa_285 : tsa Tryz.prog 285 = some (1, false) := by kernel_rfl
theorem telem_285 : telem Tryz.prog 285 = none := by kernel_rfl
theorem tstr_285 : tstr Tryz.prog 285 = false := by kernel_rfl
theorem tintk_285 : tintk Tryz.prog 285 = none := by kernel_rfl
theorem tcell_285 : tcell Tryz.prog 285 = 0 := by kernel_rfl
theorem tbool_285 : tbool Tryz.prog 285 = false := by kernel_rfl
theorem tkind_285 : tkind Tryz.prog 285 = 1 := by kernel_rfl
theorem tby_285 : tby Tryz.prog 285 = 8 := by kernel_rfl
theorem tz_285 : tz Tryz.prog 285 = some (.nilp) := by kernel_rfl
theorem tzk_285 : tzk Tryz.prog 285 1 = true := by kernel_rfl
theorem tsa_289 : tsa Tryz.prog 289 = some (24, true) := by kernel_rfl
theorem telem_289 : telem Tryz.prog 289 = none := by kernel_rfl
theorem tstr_289 : tstr Tryz.prog 289 = false := by kernel_rfl
theorem tintk_289 : tintk Tryz.prog 289 = none := by kernel_rfl
theorem tcell_289 : tcell Tryz.prog 289 = 0 := by kernel_rfl
theorem tbool_289 : tbool Tryz.prog 289 = false := by kernel_rfl
theorem tkind_289 : tkind Tryz.prog 289 = 0 := by kernel_rfl
theorem tby_289 : tby Tryz.prog 289 = 24 := by kernel_rfl
theorem tz_289 : tz Tryz.prog 289 = some (.agg [.int .u8 0, .int .u8 0, .int .u8 0, .int .u8 0, .int .u8 0, .int .u8 0, .int .u8 0, .int .u8 0, .int .u8 0, .int .u8 0, .int .u8 0, .int .u8 0, .int .u8 0, .int .u8 0, .int .u8 0, .int .u8 0, .int .u8 0, .int .u8 0, .int .u8 0, .int .u8 0, .int .u8 0, .int .u8 0, .int .u8 0, .int .u8 0]) := by kernel_rfl
theorem tzk_289 : tzk Tryz.prog 289 24 = true := by kernel_rfl
theorem tsa_291 : tsa Tryz.prog 291 = some (1, false) := by kernel_rfl
theorem telem_291 : telem Tryz.prog 291 = none := by kernel_rfl
theorem tstr_291 : tstr Tryz.prog 291 = false := by kernel_rfl
theorem tintk_291 : tintk Tryz.prog 291 = none := by kernel_rfl
theorem tcell_291 : tcell Tryz.prog 291 = 0 := by kernel_rfl
theorem tbool_291 : tbool Tryz.prog 291 = false := by kernel_rfl
theorem tkind_291 : tkind Tryz.prog 291 = 0 := by kernel_rfl
theorem tby_291 : tby Tryz.prog 291 = 0 := by kernel_rfl
theorem tsa_293 : tsa Tryz.prog 293 = some (1, false) := by kernel_rfl
theorem telem_293 : telem Tryz.prog 293 = none := by kernel_rfl
theorem tstr_293 : tstr Tryz.prog 293 = false := by kernel_rfl
theorem tintk_293 : tintk Tryz.prog 293 = none := by kernel_rfl
theorem tcell_293 : tcell Tryz.prog 293 = 0 := by kernel_rfl
theorem tbool_293 : tbool Tryz.prog 293 = false := by kernel_rfl
theorem tkind_293 : tkind Tryz.prog 293 = 1 := by kernel_rfl
theorem tby_293 : tby Tryz.prog 293 = 8 := by kernel_rfl
theorem tz_293 : tz Tryz.prog 293 = some (.nilp) := by kernel_rfl
theorem tzk_293 : tzk Tryz.prog 293 1 = true := by kernel_rfl
theorem tsa_295 : tsa Tryz.prog 295 = some (256, true) := by kernel_rfl
theorem telem_295 : telem Tryz.prog 295 = none := by kernel_rfl
theorem tstr_295 : tstr Tryz.prog 295 = false := by kernel_rfl
theorem tintk_295 : tintk Tryz.prog 295 = none := by kernel_rfl
theorem tcell_295 : tcell Tryz.prog 295 = 0 := by kernel_rfl
theorem tbool_295 : tbool Tryz.prog 295 = false := by kernel_rfl
theorem tkind_295 : tkind Tryz.prog 295 = 0 := by kernel_rfl
theorem tby_295 : tby Tryz.prog 295 = 256 := by kernel_rfl
theorem tsa_297 : tsa Tryz.prog 297 = some (2, true) := by kernel_rfl
theorem telem_297 : telem Tryz.prog 297 = none := by kernel_rfl
theorem tstr_297 : tstr Tryz.prog 297 = false := by kernel_rfl
theorem tintk_297 : tintk Tryz.prog 297 = none := by kernel_rfl
theorem tcell_297 : tcell Tryz.prog 297 = 0 := by kernel_rfl
theorem tbool_297 : tbool Tryz.prog 297 = false := by kernel_rfl
theorem tkind_297 : tkind Tryz.prog 297 = 0 := by kernel_rfl
theorem tby_297 : tby Tryz.prog 297 = 2 := by kernel_rfl
theorem tz_297 : tz Tryz.prog 297 = some (.agg [.int .u8 0, .int .u8 0]) := by kernel_rfl
theorem tzk_297 : tzk Tryz.prog 297 2 = true := by kernel_rfl
theorem tfld_297_0 : tfld Tryz.prog 297 0 = some (0, 5) := by kernel_rfl
theorem apl_297_0 : apl Tryz.prog 297 0 = some (0, 1) := by kernel_rfl
theorem tfld_297_1 : tfld Tryz.prog 297 1 = some (1, 5) := by kernel_rfl
theorem apl_297_1 : apl Tryz.prog 297 1 = some (1, 1) := by kernel_rfl
theorem tplain_297 : tplain Tryz.prog 297 = some [1, 1] := by kernel_rfl
theorem abuild_297 (parts : List (Nat × AV)) : abuild Tryz.prog 297 parts = (afill (apl Tryz.prog 297) [.int .u8 0, .int .u8 0] parts).map AV.agg := abuild_apl (by kernel_rfl) (by decide) (by kernel_rfl) parts
theorem tsa_298 : tsa Tryz.prog 298 = some (32, true) := by kernel_rfl
theorem telem_298 : telem Tryz.prog 298 = none := by kernel_rfl
theorem tstr_298 : tstr Tryz.prog 298 = false := by kernel_rfl
theorem tintk_298 : tintk Tryz.prog 298 = none := by kernel_rfl
theorem tcell_298 : tcell Tryz.prog 298 = 0 := by kernel_rfl
theorem tbool_298 : tbool Tryz.prog 298 = false := by kernel_rfl
theorem tkind_298 : tkind Tryz.prog 298 = 0 := by kernel_rfl
theorem tby_298 : tby Tryz.prog 298 = 32 := by kernel_rfl
theorem tz_298 : tz Tryz.prog 298 = some (.agg [.int .u8 0, .int .u8 0, .int .u8 0, .int .u8 0, .int .u8 0, .int .u8 0, .int .u8 0, .int .u8 0, .int .u8 0, .int .u8 0, .int .u8 0, .int .u8 0, .int .u8 0, .int .u8 0, .int .u8 0, .int .u8 0, .int .u8 0, .int .u8 0, .int .u8 0, .int .u8 0, .int .u8 0, .int .u8 0, .int .u8 0, .int .u8 0, .int .u8 0, .int .u8 0, .int .u8 0, .int .u8 0, .int .u8 0, .int .u8 0, .int .u8 0, .int .u8 0]) := by kernel_rfl
theorem tzk_298 : tzk Tryz.prog 298 32 = true := by kernel_rfl
theorem tsa_302 : tsa Tryz.prog 302 = some (1, false) := by kernel_rfl
theorem telem_302 : telem Tryz.prog 302 = none := by kernel_rfl
theorem tstr_302 : tstr Tryz.prog 302 = false := by kernel_rfl
theorem tintk_302 : tintk Tryz.prog 302 = none := by kernel_rfl
theorem tcell_302 : tcell Tryz.prog 302 = 0 := by kernel_rfl
theorem tbool_302 : tbool Tryz.prog 302 = false := by kernel_rfl
theorem tkind_302 : tkind Tryz.prog 302 = 0 := by kernel_rfl
theorem tby_302 : tby Tryz.prog 302 = 0 := by kernel_rfl
theorem tsa_305 : tsa Tryz.prog 305 = some (3, true) := by kernel_rfl
theorem telem_305 : telem Tryz.prog 305 = none := by kernel_rfl
theorem tstr_305 : tstr Tryz.prog 305 = false := by kernel_rfl
theorem tintk_305 : tintk Tryz.prog 305 = none := by kernel_rfl
theorem tcell_305 : tcell Tryz.prog 305 = 0 := by kernel_rfl
theorem tbool_305 : tbool Tryz.prog 305 = false := by kernel_rfl
theorem tkind_305 : tkind Tryz.prog 305 = 0 := by kernel_rfl
theorem tby_305 : tby Tryz.prog 305 = 48 := by kernel_rfl
theorem tz_305 : tz Tryz.prog 305 = some (.agg [.str [], .str [], .nili]) := by kernel_rfl
theorem tzk_305 : tzk Tryz.prog 305 3 = true := by kernel_rfl
theorem tfld_305_0 : tfld Tryz.prog 305 0 = some (0, 9) := by kernel_rfl
theorem apl_305_0 : apl Tryz.prog 305 0 = some (0, 1) := by kernel_rfl
theorem tfld_305_1 : tfld Tryz.prog 305 1 = some (1, 9) := by kernel_rfl
theorem apl_305_1 : apl Tryz.prog 305 1 = some (1, 1) := by kernel_rfl
theorem tfld_305_2 : tfld Tryz.prog 305 2 = some (2, 181) := by kernel_rfl
theorem apl_305_2 : apl Tryz.prog 305 2 = some (2, 1) := by kernel_rfl
theorem abuild_305 (parts : List (Nat × AV)) : abuild Tryz.prog 305 parts = (afill (apl Tryz.prog 305) [.str [], .str [], .nili] parts).map AV.agg := abuild_apl (by kernel_rfl) (by decide) (by kernel_rfl) parts
theorem tsa_308 : tsa Tryz.prog 308 = some (20, true) := by kernel_rfl
theorem telem_308 : telem Tryz.prog 308 = none := by kernel_rfl
theorem tstr_308 : tstr Tryz.prog 308 = false := by kernel_rfl
theorem tintk_308 : tintk Tryz.prog 308 = none := by kernel_rfl
theorem tcell_308 : tcell Tryz.prog 308 = 0 := by kernel_rfl
theorem tbool_308 : tbool Tryz.prog 308 = false := by kernel_rfl
theorem tkind_308 : tkind Tryz.prog 308 = 0 := by kernel_rfl
theorem tby_308 : tby Tryz.prog 308 = 160 := by kernel_rfl
theorem tz_308 : tz Tryz.prog 308 = some (.agg [.int .u64 0, .int .u64 0, .int .u64 0, .int .u64 0, .int .u64 0, .int .u64 0, .int .u64 0, .int .u64 0, .int .u64 0, .int .u64 0, .int .u64 0, .int .u64 0, .int .u64 0, .int .u64 0, .int .u64 0, .int .u64 0, .int .u64 0, .int .u64 0, .int .u64 0, .int .u64 0]) := by kernel_rfl
theorem tzk_308 : tzk Tryz.prog 308 20 = true := by kernel_rfl
theorem tsa_309 : tsa Tryz.prog 309 = some (65, true) := by kernel_rfl
theorem telem_309 : telem Tryz.prog 309 = none := by kernel_rfl
theorem tstr_309 : tstr Tryz.prog 309 = false := by kernel_rfl
theorem tintk_309 : tintk Tryz.prog 309 = none := by kernel_rfl
theorem tcell_309 : tcell Tryz.prog 309 = 0 := by kernel_rfl
theorem tbool_309 : tbool Tryz.prog 309 = false := by kernel_rfl
theorem tkind_309 : tkind Tryz.prog 309 = 0 := by kernel_rfl
theorem tby_309 : tby Tryz.prog 309 = 65 := by kernel_rfl
theorem tsa_312 : tsa Tryz.prog 312 = some (1, false) := by kernel_rfl
theorem telem_312 : telem Tryz.prog 312 = none := by kernel_rfl
theorem tstr_312 : tstr Tryz.prog 312 = false := by kernel_rfl
theorem tintk_312 : tintk Tryz.prog 312 = none := by kernel_rfl
theorem tcell_312 : tcell Tryz.prog 312 = 0 := by kernel_rfl
theorem tbool_312 : tbool Tryz.prog 312 = false := by kernel_rfl
theorem tkind_312 : tkind Tryz.prog 312 = 1 := by kernel_rfl
theorem tby_312 : tby Tryz.prog 312 = 8 := by kernel_rfl
theorem tz_312 : tz Tryz.prog 312 = some (.nilp) := by kernel_rfl
theorem tzk_312 : tzk Tryz.prog 312 1 = true := by kernel_rfl
theorem tsa_314 : tsa Tryz.prog 314 = some (1, true) := by kernel_rfl
theorem telem_314 : telem Tryz.prog 314 = none := by kernel_rfl
theorem tstr_314 : tstr Tryz.prog 314 = false := by kernel_rfl
theorem tintk_314 : tintk Tryz.prog 314 = none := by kernel_rfl
theorem tcell_314 : tcell Tryz.prog 314 = 0 := by kernel_rfl
theorem tbool_314 : tbool Tryz.prog 314 = false := by kernel_rfl
theorem tkind_314 : tkind Tryz.prog 314 = 0 := by kernel_rfl
theorem tby_314 : tby Tryz.prog 314 = 16 := by kernel_rfl
theorem tz_314 : tz Tryz.prog 314 = some (.agg [.str []]) := by kernel_rfl
theorem tzk_314 : tzk Tryz.prog 314 1 = true := by kernel_rfl
theorem tfld_314_0 : tfld Tryz.prog 314 0 = some (0, 9) := by kernel_rfl
theorem apl_314_0 : apl Tryz.prog 314 0 = some (0, 1) := by kernel_rfl
theorem tplain_314 : tplain Tryz.prog 314 = some [3] := by kernel_rfl
theorem abuild_314 (parts : List (Nat × AV)) : abuild Tryz.prog 314 parts = (afill (apl Tryz.prog 314) [.str []] parts).map AV.agg := abuild_apl (by kernel_rfl) (by decide) (by kernel_rfl) parts
theorem tsa_315 : tsa Tryz.prog 315 = some (32, true) := by kernel_rfl
theorem telem_315 : telem Tryz.prog 315 = none := by kernel_rfl
theorem tstr_315 : tstr Tryz.prog 315 = false := by kernel_rfl
theorem tintk_315 : tintk Tryz.prog 315 = none := by kernel_rfl
theorem tcell_315 : tcell Tryz.prog 315 = 0 := by kernel_rfl
theorem tbool_315 : tbool Tryz.prog 315 = false := by kernel_rfl
theorem tkind_315 : tkind Tryz.prog 315 = 0 := by kernel_rfl
theorem tby_315 : tby Tryz.prog 315 = 32 := by kernel_rfl
theorem tz_315 : tz Tryz.prog 315 = some (.agg [.int .u8 0, .int .u8 0, .int .u8 0, .int .u8 0, .int .u8 0, .int .u8 0, .int .u8 0, .int .u8 0, .int .u8 0, .int .u8 0, .int .u8 0, .int .u8 0, .int .u8 0, .int .u8 0, .int .u8 0, .int .u8 0, .int .u8 0, .int .u8 0, .int .u8 0, .int .u8 0, .int .u8 0, .int .u8 0, .int .u8 0, .int .u8 0, .int .u8 0, .int .u8 0, .int .u8 0, .int .u8 0, .int .u8 0, .int .u8 0, .int .u8 0, .int .u8 0]) := by kernel_rfl
theorem tzk_315 : tzk Tryz.prog 315 32 = true := by kernel_rfl
theorem tsa_316 : tsa Tryz.prog 316 = some (64, true) := by kernel_rfl
theorem telem_316 : telem Tryz.prog 316 = none := by kernel_rfl
theorem tstr_316 : tstr Tryz.prog 316 = false := by kernel_rfl
theorem tintk_316 : tintk Tryz.prog 316 = none := by kernel_rfl
theorem tcell_316 : tcell Tryz.prog 316 = 0 := by kernel_rfl
theorem tbool_316 : tbool Tryz.prog 316 = false := by kernel_rfl
theorem tkind_316 : tkind Tryz.prog 316 = 0 := by kernel_rfl
theorem tby_316 : tby Tryz.prog 316 = 64 := by kernel_rfl
theorem tz_316 : tz Tryz.prog 316 = some (.agg [.int .u8 0, .int .u8 0, .int .u8 0, .int .u8 0, .int .u8 0, .int .u8 0, .int .u8 0, .int .u8 0, .int .u8 0, .int .u8 0, .int .u8 0, .int .u8 0, .int .u8 0, .int .u8 0, .int .u8 0, .int .u8 0, .int .u8 0, .int .u8 0, .int .u8 0, .int .u8 0, .int .u8 0, .int .u8 0, .int .u8 0, .int .u8 0, .int .u8 0, .int .u8 0, .int .u8 0, .int .u8 0, .int .u8 0, .int .u8 0, .int .u8 0, .int .u8 0, .int .u8 0, .int .u8 0, .int .u8 0, .int .u8 0, .int .u8 0, .int .u8 0, .int .u8 0, .int .u8 0, .int .u8 0, .int .u8 0, .int .u8 0, .int .u8 0, .int .u8 0, .int .u8 0, .int .u8 0, .int .u8 0, .int .u8 0, .int .u8 0, .int .u8 0, .int .u8 0, .int .u8 0, .int .u8 0, .int .u8 0, .int .u8 0, .int .u8 0, .int .u8 0, .int .u8 0, .int .u8 0, .int .u8 0, .int .u8 0, .int .u8 0, .int .u8 0]) := by kernel_rfl
theorem tzk_316 : tzk Tryz.prog 316 64 = true := by kernel_rfl
theorem tsa_318 : tsa Tryz.prog 318 = some (4, true) := by kernel_rfl
theorem telem_318 : telem Tryz.prog 318 = none := by kernel_rfl
theorem tstr_318 : tstr Tryz.prog 318 = false := by kernel_rfl
theorem tintk_318 : tintk Tryz.prog 318 = none := by kernel_rfl
theorem tcell_318 : tcell Tryz.prog 318 = 0 := by kernel_rfl
theorem tbool_318 : tbool Tryz.prog 318 = false := by kernel_rfl
theorem tkind_318 : tkind Tryz.prog 318 = 0 := by kernel_rfl
theorem tby_318 : tby Tryz.prog 318 = 40 := by kernel_rfl
theorem tz_318 : tz Tryz.prog 318 = some (.agg [.nilp, .nilp, .nilp, .str []]) := by kernel_rfl
theorem tzk_318 : tzk Tryz.prog 318 4 = true := by kernel_rfl
theorem tfld_318_0 : tfld Tryz.prog 318 0 = some (0, 17) := by kernel_rfl
theorem apl_318_0 : apl Tryz.prog 318 0 = some (0, 1) := by kernel_rfl
theorem tfld_318_1 : tfld Tryz.prog 318 1 = some (1, 17) := by kernel_rfl
theorem apl_318_1 : apl Tryz.prog 318 1 = some (1, 1) := by kernel_rfl
theorem tfld_318_2 : tfld Tryz.prog 318 2 = some (2, 17) := by kernel_rfl
theorem apl_318_2 : apl Tryz.prog 318 2 = some (2, 1) := by kernel_rfl
theorem tfld_318_3 : tfld Tryz.prog 318 3 = some (3, 9) := by kernel_rfl
theorem apl_318_3 : apl Tryz.prog 318 3 = some (3, 1) := by kernel_rfl
theorem abuild_318 (parts : List (Nat × AV)) : abuild Tryz.prog 318 parts = (afill (apl Tryz.prog 318) [.nilp, .nilp, .nilp, .str []] parts).map AV.agg := abuild_apl (by kernel_rfl) (by decide) (by kernel_rfl) parts
theorem tsa_321 : tsa Tryz.prog 321 = some (0, true) := by kernel_rfl
theorem telem_321 : telem Tryz.prog 321 = none := by kernel_rfl
theorem tstr_321 : tstr Tryz.prog 321 = false := by kernel_rfl
theorem tintk_321 : tintk Tryz.prog 321 = none := by kernel_rfl
theorem tcell_321 : tcell Tryz.prog 321 = 0 := by kernel_rfl
theorem tbool_321 : tbool Tryz.prog 321 = false := by kernel_rfl
theorem tkind_321 : tkind Tryz.prog 321 = 0 := by kernel_rfl
theorem tby_321 : tby Tryz.prog 321 = 0 := by kernel_rfl
theorem tfld_321_0 : tfld Tryz.prog 321 0 = some (0, 319) := by kernel_rfl
theorem apl_321_0 : apl Tryz.prog 321 0 = some (0, 0) := by kernel_rfl
attribute [simp] tsa_0 telem_0 tstr_0 tintk_0 tcell_0 tbool_0 tkind_0 tby_0 tsa_1 telem_1 tstr_1 tintk_1 tcell_1 tbool_1 tkind_1 tby_1 tz_1 tzk_1 tsa_2 telem_2 tstr_2 tintk_2 tcell_2 tbool_2 tkind_2 tby_2 tz_2 tzk_2 tsa_3 telem_3 tstr_3 tintk_3 tcell_3 tbool_3 tkind_3 tby_3 tz_3 tzk_3 tsa_4 telem_4 tstr_4 tintk_4 tcell_4 tbool_4 tkind_4 tby_4 tz_4 tzk_4 tsa_5 telem_5 tstr_5 tintk_5 tcell_5 tbool_5 tkind_5 tby_5 tz_5 tzk_5 tsa_6 telem_6 tstr_6 tintk_6 tcell_6 tbool_6 tkind_6 tby_6 tz_6 tzk_6 tsa_8 telem_8 tstr_8 tintk_8 tcell_8 tbool_8 tkind_8 tby_8 tz_8 tzk_8 tfld_8_0 apl_8_0 tfld_8_1 apl_8_1 tfld_8_2 apl_8_2 tfld_8_3 apl_8_3 tplain_8 abuild_8 tsa_9 telem_9 tstr_9 tintk_9 tcell_9 tbool_9 tkind_9 tby_9 tz_9 tzk_9 tsa_15 telem_15 tstr_15 tintk_15 tcell_15 tbool_15 tkind_15 tby_15 tz_15 tzk_15 tsa_16 telem_16 tstr_16 tintk_16 tcell_16 tbool_16 tkind_16 tby_16 tz_16 tzk_16 tsa_20 telem_20 tstr_20 tintk_20 tcell_20 tbool_20 tkind_20 tby_20 tz_20 tzk_20 tsa_21 telem_21 tstr_21 tintk_21 tcell_21 tbool_21 tkind_21 tby_21 tz_21 tzk_21 tsa_23 telem_23 tstr_23 tintk_23 tcell_23 tbool_23 tkind_23 tby_23 tz_23 tzk_23 tsa_24 telem_24 tstr_24 tintk_24 tcell_24 tbool_24 tkind_24 tby_24 tz_24 tzk_24 tsa_25 telem_25 tstr_25 tintk_25 tcell_25 tbool_25 tkind_25 tby_25 tsa_27 telem_27 tstr_27 tintk_27 tcell_27 tbool_27 tkind_27 tby_27 tz_27 tzk_27 tsa_28 telem_28 tstr_28 tintk_28 tcell_28 tbool_28 tkind_28 tby_28 tsa_32 telem_32 tstr_32 tintk_32 tcell_32 tbool_32 tkind_32 tby_32 tz_32 tzk_32 tsa_33 telem_33 tstr_33 tintk_33 tcell_33 tbool_33 tkind_33 tby_33 tsa_35 telem_35 tstr_35 tintk_35 tcell_35 tbool_35 tkind_35 tby_35 tsa_37 telem_37 tstr_37 tintk_37 tcell_37 tbool_37 tkind_37 tby_37 tz_37 tzk_37 tsa_41 telem_41 tstr_41 tintk_41 tcell_41 tbool_41 tkind_41 tby_41 tz_41 tzk_41 tsa_44 telem_44 tstr_44 tintk_44 tcell_44 tbool_44 tkind_44 tby_44 tz_44 tzk_44 tsa_45 telem_45 tstr_45 tintk_45 tcell_45 tbool_45 tkind_45 tby_45 tsa_47 telem_47 tstr_47 tintk_47 tcell_47 tbool_47 tkind_47 tby_47 tz_47 tzk_47 tsa_48 telem_48 tstr_48 tintk_48 tcell_48 tbool_48 tkind_48 tby_48 tsa_50 telem_50 tstr_50 tintk_50 tcell_50 tbool_50 tkind_50 tby_50 tsa_52 telem_52 tstr_52 tintk_52 tcell_52 tbool_52 tkind_52 tby_52 tz_52 tzk_52 tsa_54 telem_54 tstr_54 tintk_54 tcell_54 tbool_54 tkind_54 tby_54 tz_54 tzk_54 tfld_54_0 apl_54_0 tfld_54_1 apl_54_1 tplain_54 abuild_54 tsa_55 telem_55 tstr_55 tintk_55 tcell_55 tbool_55 tkind_55 tby_55 tz_55 tzk_55 tsa_57 telem_57 tstr_57 tintk_57 tcell_57 tbool_57 tkind_57 tby_57 tz_57 tzk_57 tfld_57_0 apl_57_0 tfld_57_1 apl_57_1 tfld_57_2 apl_57_2 tfld_57_3 apl_57_3 tfld_57_4 apl_57_4 tfld_57_5 apl_57_5 abuild_57 tsa_59 telem_59 tstr_59 tintk_59 tcell_59 tbool_59 tkind_59 tby_59 tz_59 tzk_59 tfld_59_0 apl_59_0 tfld_59_1 apl_59_1 tfld_59_2 apl_59_2 abuild_59 tsa_62 telem_62 tstr_62 tintk_62 tcell_62 tbool_62 tkind_62 tby_62 tz_62 tzk_62 tsa_67 telem_67 tstr_67 tintk_67 tcell_67 tbool_67 tkind_67 tby_67 tsa_69 telem_69 tstr_69 tintk_69 tcell_69 tbool_69 tkind_69 tby_69 tsa_74 telem_74 tstr_74 tintk_74 tcell_74 tbool_74 tkind_74 tby_74 tz_74 tzk_74 tfld_74_0 apl_74_0 tfld_74_1 apl_74_1 tfld_74_2 apl_74_2 tfld_74_3 apl_74_3 tfld_74_4 apl_74_4 tfld_74_5 apl_74_5 abuild_74 tsa_75 telem_75 tstr_75 tintk_75 tcell_75 tbool_75 tkind_75 tby_75 tz_75 tzk_75 tsa_76 telem_76 tstr_76 tintk_76 tcell_76 tbool_76 tkind_76 tby_76 tz_76 tzk_76 tsa_78 telem_78 tstr_78 tintk_78 tcell_78 tbool_78 tkind_78 tby_78 tz_78 tzk_78 tsa_81 telem_81 tstr_81 tintk_81 tcell_81 tbool_81 tkind_81 tby_81 tz_81 tzk_81 tsa_91 telem_91 tstr_91 tintk_91 tcell_91 tbool_91 tkind_91 tby_91 tz_91 tzk_91 tsa_96 telem_96 tstr_96 tintk_96 tcell_96 tbool_96 tkind_96 tby_96 tz_96 tzk_96 tfld_96_0 apl_96_0 tfld_96_1 apl_96_1 tfld_96_2 apl_96_2 abuild_96 tsa_98 telem_98 tstr_98 tintk_98 tcell_98 tbool_98 tkind_98 tby_98 tsa_100 telem_100 tstr_100 tintk_100 tcell_100 tbool_100 tkind_100 tby_100 tsa_104 telem_104 tstr_104 tintk_104 tcell_104 tbool_104 tkind_104 tby_104 tsa_113 telem_113 tstr_113 tintk_113 tcell_113 tbool_113 tkind_113 tby_113 tz_113 tzk_113 tsa_121 telem_121 tstr_121 tintk_121 tcell_121 tbool_121 tkind_121 tby_121 tz_121 tzk_121 tsa_124 telem_124 tstr_124 tintk_124 tcell_124 tbool_124 tkind_124 tby_124 tz_124 tzk_124 tsa_126 telem_126 tstr_126 tintk_126 tcell_126 tbool_126 tkind_126 tby_126 tz_126 tzk_126 tsa_127 telem_127 tstr_127 tintk_127 tcell_127 tbool_127 tkind_127 tby_127 tz_127 tzk_127 tsa_130 telem_130 tstr_130 tintk_130 tcell_130 tbool_130 tkind_130 tby_130 tsa_132 telem_132 tstr_132 tintk_132 tcell_132 tbool_132 tkind_132 tby_132 tsa_136 telem_136 tstr_136 tintk_136 tcell_136 tbool_136 tkind_136 tby_136 tsa_140 telem_140 tstr_140 tintk_140 tcell_140 tbool_140 tkind_140 tby_140 tz_140 tzk_140 tsa_143 telem_143 tstr_143 tintk_143 tcell_143 tbool_143 tkind_143 tby_143 tsa_146 telem_146 tstr_146 tintk_146 tcell_146 tbool_146 tkind_146 tby_146 tsa_153 telem_153 tstr_153 tintk_153 tcell_153 tbool_153 tkind_153 tby_153 tz_153 tzk_153 tsa_154 telem_154 tstr_154 tintk_154 tcell_154 tbool_154 tkind_154 tby_154 tsa_156 telem_156 tstr_156 tintk_156 tcell_156 tbool_156 tkind_156 tby_156 tsa_158 telem_158 tstr_158 tintk_158 tcell_158 tbool_158 tkind_158 tby_158 tz_158 tzk_158 tsa_159 telem_159 tstr_159 tintk_159 tcell_159 tbool_159 tkind_159 tby_159 tz_159 tzk_159 tsa_163 telem_163 tstr_163 tintk_163 tmap_163 tkey_54_163 tcell_163 tbool_163 tkind_163 tby_163 tz_163 tzk_163 tsa_164 telem_164 tstr_164 tintk_164 tcell_164 tbool_164 tkind_164 tby_164 tsa_167 telem_167 tstr_167 tintk_167 tcell_167 tbool_167 tkind_167 tby_167 tz_167 tzk_167 tfld_167_0 apl_167_0 tfld_167_1 apl_167_1 abuild_167 tsa_171 telem_171 tstr_171 tintk_171 tcell_171 tbool_171 tkind_171 tby_171 tz_171 tzk_171 tsa_174 telem_174 tstr_174 tintk_174 tcell_174 tbool_174 tkind_174 tby_174 tz_174 tzk_174 tsa_176 telem_176 tstr_176 tintk_176 tcell_176 tbool_176 tkind_176 tby_176 tz_176 tzk_176 tfld_176_0 apl_176_0 tfld_176_1 apl_176_1 tfld_176_2 apl_176_2 abuild_176 tsa_177 telem_177 tstr_177 tintk_177 tcell_177 tbool_177 tkind_177 tby_177 tz_177 tzk_177 tsa_179 telem_179 tstr_179 tintk_179 tcell_179 tbool_179 tkind_179 tby_179 tz_179 tzk_179 tfld_179_0 apl_179_0 tfld_179_1 apl_179_1 abuild_179 tsa_181 telem_181 tstr_181 tintk_181 tcell_181 tbool_181 tkind_181 tby_181 tz_181 tzk_181 tsa_182 telem_182 tstr_182 tintk_182 tcell_182 tbool_182 tkind_182 tby_182 tsa_187 telem_187 tstr_187 tintk_187 tcell_187 tbool_187 tkind_187 tby_187 tsa_189 telem_189 tstr_189 tintk_189 tcell_189 tbool_189 tkind_189 tby_189 tz_189 tzk_189 tsa_200 telem_200 tstr_200 tintk_200 tcell_200 tbool_200 tkind_200 tby_200 tsa_203 telem_203 tstr_203 tintk_203 tcell_203 tbool_203 tkind_203 tby_203 tz_203 tzk_203 tsa_204 telem_204 tstr_204 tintk_204 tcell_204 tbool_204 tkind_204 tby_204 tz_204 tzk_204 tsa_205 telem_205 tstr_205 tintk_205 tcell_205 tbool_205 tkind_205 tby_205 tz_205 tzk_205 tsa_210 telem_210 tstr_210 tintk_210 tcell_210 tbool_210 tkind_210 tby_210 tz_210 tzk_210 tfld_210_0 apl_210_0 tfld_210_1 apl_210_1 abuild_210 tsa_212 telem_212 tstr_212 tintk_212 tcell_212 tbool_212 tkind_212 tby_212 tz_212 tzk_212 tsa_217 telem_217 tstr_217 tintk_217 tcell_217 tbool_217 tkind_217 tby_217 tsa_222 telem_222 tstr_222 tintk_222 tcell_222 tbool_222 tkind_222 tby_222 tz_222 tzk_222 tsa_226 telem_226 tstr_226 tintk_226 tcell_226 tbool_226 tkind_226 tby_226 tz_226 tzk_226 tfld_226_0 apl_226_0 abuild_226 tsa_227 telem_227 tstr_227 tintk_227 tmap_227 tkey_54_227 tcell_227 tbool_227 tkind_227 tby_227 tz_227 tzk_227 tsa_229 telem_229 tstr_229 tintk_229 tcell_229 tbool_229 tkind_229 tby_229 tz_229 tzk_229 tfld_229_0 apl_229_0 tfld_229_1 apl_229_1 abuild_229 tsa_231 telem_231 tstr_231 tintk_231 tcell_231 tbool_231 tkind_231 tby_231 tz_231 tzk_231 tsa_233 telem_233 tstr_233 tintk_233 tcell_233 tbool_233 tkind_233 tby_233 tz_233 tzk_233 tsa_235 telem_235 tstr_235 tintk_235 tcell_235 tbool_235 tkind_235 tby_235 tz_235 tzk_235 tsa_237 telem_237 tstr_237 tintk_237 tcell_237 tbool_237 tkind_237 tby_237 tz_237 tzk_237 tsa_238 telem_238 tstr_238 tintk_238 tcell_238 tbool_238 tkind_238 tby_238 tsa_240 telem_240 tstr_240 tintk_240 tcell_240 tbool_240 tkind_240 tby_240 tz_240 tzk_240 tsa_241 telem_241 tstr_241 tintk_241 tcell_241 tbool_241 tkind_241 tby_241 tsa_243 telem_243 tstr_243 tintk_243 tcell_243 tbool_243 tkind_243 tby_243 tz_243 tzk_243 tsa_244 telem_244 tstr_244 tintk_244 tcell_244 tbool_244 tkind_244 tby_244 tz_244 tzk_244 tsa_246 telem_246 tstr_246 tintk_246 tcell_246 tbool_246 tkind_246 tby_246 tz_246 tzk_246 tfld_246_0 apl_246_0 tplain_246 abuild_246 tsa_251 telem_251 tstr_251 tintk_251 tcell_251 tbool_251 tkind_251 tby_251 tz_251 tzk_251 tsa_252 telem_252 tstr_252 tintk_252 tcell_252 tbool_252 tkind_252 tby_252 tsa_259 telem_259 tstr_259 tintk_259 tcell_259 tbool_259 tkind_259 tby_259 tz_259 tzk_259 tsa_261 telem_261 tstr_261 tintk_261 tcell_261 tbool_261 tkind_261 tby_261 tsa_271 telem_271 tstr_271 tintk_271 tcell_271 tbool_271 tkind_271 tby_271 tz_271 tzk_271 tsa_282 telem_282 tstr_282 tintk_282 tcell_282 tbool_282 tkind_282 tby_282 tz_282 tzk_282 tsa_283 telem_283 tstr_283 tintk_283 tcell_283 tbool_283 tkind_283 tby_283 tsa_285 telem_285 tstr_285 tintk_285 tcell_285 tbool_285 tkind_285 tby_285 tz_285 tzk_285 tsa_289 telem_289 tstr_289 tintk_289 tcell_289 tbool_289 tkind_289 tby_289 tz_289 tzk_289 tsa_291 telem_291 tstr_291 tintk_291 tcell_291 tbool_291 tkind_291 tby_291 tsa_293 telem_293 tstr_293 tintk_293 tcell_293 tbool_293 tkind_293 tby_293 tz_293 tzk_293 tsa_295 telem_295 tstr_295 tintk_295 tcell_295 tbool_295 tkind_295 tby_295 tsa_297 telem_297 tstr_297 tintk_297 tcell_297 tbool_297 tkind_297 tby_297 tz_297 tzk_297 tfld_297_0 apl_297_0 tfld_297_1 apl_297_1 tplain_297 abuild_297 tsa_298 telem_298 tstr_298 tintk_298 tcell_298 tbool_298 tkind_298 tby_298 tz_298 tzk_298 tsa_302 telem_302 tstr_302 tintk_302 tcell_302 tbool_302 tkind_302 tby_302 tsa_305 telem_305 tstr_305 tintk_305 tcell_305 tbool_305 tkind_305 tby_305 tz_305 tzk_305 tfld_305_0 apl_305_0 tfld_305_1 apl_305_1 tfld_305_2 apl_305_2 abuild_305 tsa_308 telem_308 tstr_308 tintk_308 tcell_308 tbool_308 tkind_308 tby_308 tz_308 tzk_308 tsa_309 telem_309 tstr_309 tintk_309 tcell_309 tbool_309 tkind_309 tby_309 tsa_312 telem_312 tstr_312 tintk_312 tcell_312 tbool_312 tkind_312 tby_312 tz_312 tzk_312 tsa_314 telem_314 tstr_314 tintk_314 tcell_314 tbool_314 tkind_314 tby_314 tz_314 tzk_314 tfld_314_0 apl_314_0 tplain_314 abuild_314 tsa_315 telem_315 tstr_315 tintk_315 tcell_315 tbool_315 tkind_315 tby_315 tz_315 tzk_315 tsa_316 telem_316 tstr_316 tintk_316 tcell_316 tbool_316 tkind_316 tby_316 tz_316 tzk_316 tsa_318 telem_318 tstr_318 tintk_318 tcell_318 tbool_318 tkind_318 tby_318 tz_318 tzk_318 tfld_318_0 apl_318_0 tfld_318_1 apl_318_1 tfld_318_2 apl_318_2 tfld_318_3 apl_318_3 abuild_318 tsa_321 telem_321 tstr_321 tintk_321 tcell_321 tbool_321 tkind_321 tby_321 tfld_321_0 apl_321_0
end Ab

/-
  FACTS ON THE TYPES of the book (printed by gen2.py).
-/
import Derived.Test.YtcoikmapjepdjaaGreatDoorC05
set_option linter.unusedSimpArgs false
set_option linter.unusedVariables false
set_option linter.unusedSectionVars false
namespace Ab
open Go Go.Proofs
theorem n97tsa : tsa Tryz.prog 97 = some (1, false) := by kernel_rfl
theorem n97telem : telem Tryz.prog 97 = some 38 := by kernel_rfl
theorem n97tstr : tstr Tryz.prog 97 = false := by kernel_rfl
theorem n97tintk : tintk Tryz.prog 97 = none := by kernel_rfl
theorem n97tcell : tcell Tryz.prog 97 = 0 := by kernel_rfl
theorem n97tbool : tbool Tryz.prog 97 = false := by kernel_rfl
theorem n97tkind : tkind Tryz.prog 97 = 2 := by kernel_rfl
theorem n97tby : tby Tryz.prog 97 = 24 := by kernel_rfl
theorem n97tz : tz Tryz.prog 97 = some (.nils) := by kernel_rfl
theorem n97tzk : tzk Tryz.prog 97 1 = true := by kernel_rfl
theorem n98tsa : tsa Tryz.prog 98 = some (1, false) := by kernel_rfl
theorem n98telem : telem Tryz.prog 98 = some 108 := by kernel_rfl
theorem n98tstr : tstr Tryz.prog 98 = false := by kernel_rfl
theorem n98tintk : tintk Tryz.prog 98 = none := by kernel_rfl
theorem n98tcell : tcell Tryz.prog 98 = 0 := by kernel_rfl
theorem n98tbool : tbool Tryz.prog 98 = false := by kernel_rfl
theorem n98tkind : tkind Tryz.prog 98 = 2 := by kernel_rfl
theorem n98tby : tby Tryz.prog 98 = 24 := by kernel_rfl
theorem n98tz : tz Tryz.prog 98 = some (.nils) := by kernel_rfl
theorem n98tzk : tzk Tryz.prog 98 1 = true := by kernel_rfl
theorem n100tsa : tsa Tryz.prog 100 = some (5, true) := by kernel_rfl
theorem n100telem : telem Tryz.prog 100 = none := by kernel_rfl
theorem n100tstr : tstr Tryz.prog 100 = false := by kernel_rfl
theorem n100tintk : tintk Tryz.prog 100 = none := by kernel_rfl
theorem n100tcell : tcell Tryz.prog 100 = 0 := by kernel_rfl
theorem n100tbool : tbool Tryz.prog 100 = false := by kernel_rfl
theorem n100tkind : tkind Tryz.prog 100 = 0 := by kernel_rfl
theorem n100tby : tby Tryz.prog 100 = 88 := by kernel_rfl
theorem n100tz : tz Tryz.prog 100 = some (.agg [.int .i64 0, .int .i64 0, .nils, .nils, .nils]) := by kernel_rfl
theorem n100tzk : tzk Tryz.prog 100 5 = true := by kernel_rfl
theorem n100tfld0 : tfld Tryz.prog 100 0 = some (0, 3) := by kernel_rfl
theorem n100apl0 : apl Tryz.prog 100 0 = some (0, 1) := by kernel_rfl
theorem n100tfld1 : tfld Tryz.prog 100 1 = some (1, 3) := by kernel_rfl
theorem n100apl1 : apl Tryz.prog 100 1 = some (1, 1) := by kernel_rfl
theorem n100tfld2 : tfld Tryz.prog 100 2 = some (2, 97) := by kernel_rfl
theorem n100apl2 : apl Tryz.prog 100 2 = some (2, 1) := by kernel_rfl
theorem n100tfld3 : tfld Tryz.prog 100 3 = some (3, 32) := by kernel_rfl
theorem n100apl3 : apl Tryz.prog 100 3 = some (3, 1) := by kernel_rfl
theorem n100tfld4 : tfld Tryz.prog 100 4 = some (4, 98) := by kernel_rfl
theorem n100apl4 : apl Tryz.prog 100 4 = some (4, 1) := by kernel_rfl
theorem n100abuild (parts : List (Nat × AV)) : abuild Tryz.prog 100 parts = (afill (apl Tryz.prog 100) [.int .i64 0, .int .i64 0, .nils, .nils, .nils] parts).map AV.agg := abuild_apl (by kernel_rfl) (by decide) (by kernel_rfl) parts
theorem n108tsa : tsa Tryz.prog 108 = some (3, true) := by kernel_rfl
theorem n108telem : telem Tryz.prog 108 = none := by kernel_rfl
theorem n108tstr : tstr Tryz.prog 108 = false := by kernel_rfl
theorem n108tintk : tintk Tryz.prog 108 = none := by kernel_rfl
theorem n108tcell : tcell Tryz.prog 108 = 0 := by kernel_rfl
theorem n108tbool : tbool Tryz.prog 108 = false := by kernel_rfl
theorem n108tkind : tkind Tryz.prog 108 = 0 := by kernel_rfl
theorem n108tby : tby Tryz.prog 108 = 24 := by kernel_rfl
theorem n108tz : tz Tryz.prog 108 = some (.agg [.int .i64 0, .int .i64 0, .int .i64 0]) := by kernel_rfl
theorem n108tzk : tzk Tryz.prog 108 3 = true := by kernel_rfl
theorem n108tfld0 : tfld Tryz.prog 108 0 = some (0, 3) := by kernel_rfl
theorem n108apl0 : apl Tryz.prog 108 0 = some (0, 1) := by kernel_rfl
theorem n108tfld1 : tfld Tryz.prog 108 1 = some (1, 3) := by kernel_rfl
theorem n108apl1 : apl Tryz.prog 108 1 = some (1, 1) := by kernel_rfl
theorem n108tfld2 : tfld Tryz.prog 108 2 = some (2, 3) := by kernel_rfl
theorem n108apl2 : apl Tryz.prog 108 2 = some (2, 1) := by kernel_rfl
theorem n108tplain : tplain Tryz.prog 108 = some [1, 1, 1] := by kernel_rfl
theorem n108tkey : tkey Tryz.prog 108 = some [1, 1, 1] := by kernel_rfl
theorem n108abuild (parts : List (Nat × AV)) : abuild Tryz.prog 108 parts = (afill (apl Tryz.prog 108) [.int .i64 0, .int .i64 0, .int .i64 0] parts).map AV.agg := abuild_apl (by kernel_rfl) (by decide) (by kernel_rfl) parts
theorem n109tsa : tsa Tryz.prog 109 = some (1, false) := by kernel_rfl
theorem n109telem : telem Tryz.prog 109 = some 112 := by kernel_rfl
theorem n109tstr : tstr Tryz.prog 109 = false := by kernel_rfl
theorem n109tintk : tintk Tryz.prog 109 = none := by kernel_rfl
theorem n109tcell : tcell Tryz.prog 109 = 0 := by kernel_rfl
theorem n109tbool : tbool Tryz.prog 109 = false := by kernel_rfl
theorem n109tkind : tkind Tryz.prog 109 = 2 := by kernel_rfl
theorem n109tby : tby Tryz.prog 109 = 24 := by kernel_rfl
theorem n109tz : tz Tryz.prog 109 = some (.nils) := by kernel_rfl
theorem n109tzk : tzk Tryz.prog 109 1 = true := by kernel_rfl
theorem n112tsa : tsa Tryz.prog 112 = some (1, false) := by kernel_rfl
theorem n112telem : telem Tryz.prog 112 = some 113 := by kernel_rfl
theorem n112tstr : tstr Tryz.prog 112 = false := by kernel_rfl
theorem n112tintk : tintk Tryz.prog 112 = none := by kernel_rfl
theorem n112tcell : tcell Tryz.prog 112 = 0 := by kernel_rfl
theorem n112tbool : tbool Tryz.prog 112 = false := by kernel_rfl
theorem n112tkind : tkind Tryz.prog 112 = 2 := by kernel_rfl
theorem n112tby : tby Tryz.prog 112 = 24 := by kernel_rfl
theorem n112tz : tz Tryz.prog 112 = some (.nils) := by kernel_rfl
theorem n112tzk : tzk Tryz.prog 112 1 = true := by kernel_rfl
theorem n113tsa : tsa Tryz.prog 113 = some (1, false) := by kernel_rfl
theorem n113telem : telem Tryz.prog 113 = none := by kernel_rfl
theorem n113tstr : tstr Tryz.prog 113 = false := by kernel_rfl
theorem n113tintk : tintk Tryz.prog 113 = some .i64 := by kernel_rfl
theorem n113tcell : tcell Tryz.prog 113 = 1 := by kernel_rfl
theorem n113tbool : tbool Tryz.prog 113 = false := by kernel_rfl
theorem n113tkind : tkind Tryz.prog 113 = 0 := by kernel_rfl
theorem n113tby : tby Tryz.prog 113 = 8 := by kernel_rfl
theorem n113tz : tz Tryz.prog 113 = some (.int .i64 0) := by kernel_rfl
theorem n113tzk : tzk Tryz.prog 113 1 = true := by kernel_rfl
theorem n118tsa : tsa Tryz.prog 118 = some (1, false) := by kernel_rfl
theorem n118telem : telem Tryz.prog 118 = some 122 := by kernel_rfl
theorem n118tstr : tstr Tryz.prog 118 = false := by kernel_rfl
theorem n118tintk : tintk Tryz.prog 118 = none := by kernel_rfl
theorem n118tcell : tcell Tryz.prog 118 = 0 := by kernel_rfl
theorem n118tbool : tbool Tryz.prog 118 = false := by kernel_rfl
theorem n118tkind : tkind Tryz.prog 118 = 2 := by kernel_rfl
theorem n118tby : tby Tryz.prog 118 = 24 := by kernel_rfl
theorem n118tz : tz Tryz.prog 118 = some (.nils) := by kernel_rfl
theorem n118tzk : tzk Tryz.prog 118 1 = true := by kernel_rfl
theorem n122tsa : tsa Tryz.prog 122 = some (3, true) := by kernel_rfl
theorem n122telem : telem Tryz.prog 122 = none := by kernel_rfl
theorem n122tstr : tstr Tryz.prog 122 = false := by kernel_rfl
theorem n122tintk : tintk Tryz.prog 122 = none := by kernel_rfl
theorem n122tcell : tcell Tryz.prog 122 = 0 := by kernel_rfl
theorem n122tbool : tbool Tryz.prog 122 = false := by kernel_rfl
theorem n122tkind : tkind Tryz.prog 122 = 0 := by kernel_rfl
theorem n122tby : tby Tryz.prog 122 = 24 := by kernel_rfl
theorem n122tz : tz Tryz.prog 122 = some (.agg [.int .i64 0, .int .i64 0, .bool false]) := by kernel_rfl
theorem n122tzk : tzk Tryz.prog 122 3 = true := by kernel_rfl
theorem n122tfld0 : tfld Tryz.prog 122 0 = some (0, 3) := by kernel_rfl
theorem n122apl0 : apl Tryz.prog 122 0 = some (0, 1) := by kernel_rfl
theorem n122tfld1 : tfld Tryz.prog 122 1 = some (1, 3) := by kernel_rfl
theorem n122apl1 : apl Tryz.prog 122 1 = some (1, 1) := by kernel_rfl
theorem n122tfld2 : tfld Tryz.prog 122 2 = some (2, 4) := by kernel_rfl
theorem n122apl2 : apl Tryz.prog 122 2 = some (2, 1) := by kernel_rfl
theorem n122tplain : tplain Tryz.prog 122 = some [1, 1, 2] := by kernel_rfl
theorem n122tkey : tkey Tryz.prog 122 = some [1, 1, 2] := by kernel_rfl
theorem n122abuild (parts : List (Nat × AV)) : abuild Tryz.prog 122 parts = (afill (apl Tryz.prog 122) [.int .i64 0, .int .i64 0, .bool false] parts).map AV.agg := abuild_apl (by kernel_rfl) (by decide) (by kernel_rfl) parts
theorem n211tarr : tarr Tryz.prog 211 = some (2, 3) := by kernel_rfl
theorem n211apl0 : apl Tryz.prog 211 0 = some (0, 1) := by kernel_rfl
theorem n211apl1 : apl Tryz.prog 211 1 = some (1, 1) := by kernel_rfl
theorem n211tplain : tplain Tryz.prog 211 = some [1, 1] := by kernel_rfl
theorem n211tkey : tkey Tryz.prog 211 = some [1, 1] := by kernel_rfl
theorem n211abuild (parts : List (Nat × AV)) : abuild Tryz.prog 211 parts = (afill (apl Tryz.prog 211) [.int .i64 0, .int .i64 0] parts).map AV.agg := abuild_apl (by kernel_rfl) (by decide) (by kernel_rfl) parts
theorem n224tsa : tsa Tryz.prog 224 = some (1, false) := by kernel_rfl
theorem n224telem : telem Tryz.prog 224 = none := by kernel_rfl
theorem n224tstr : tstr Tryz.prog 224 = false := by kernel_rfl
theorem n224tintk : tintk Tryz.prog 224 = none := by kernel_rfl
theorem n224tcell : tcell Tryz.prog 224 = 0 := by kernel_rfl
theorem n224tbool : tbool Tryz.prog 224 = false := by kernel_rfl
theorem n224tkind : tkind Tryz.prog 224 = 1 := by kernel_rfl
theorem n224tby : tby Tryz.prog 224 = 8 := by kernel_rfl
theorem n224tz : tz Tryz.prog 224 = some (.nilp) := by kernel_rfl
theorem n224tzk : tzk Tryz.prog 224 1 = true := by kernel_rfl
theorem n225tsa : tsa Tryz.prog 225 = some (1, false) := by kernel_rfl
theorem n225telem : telem Tryz.prog 225 = some 232 := by kernel_rfl
theorem n225tstr : tstr Tryz.prog 225 = false := by kernel_rfl
theorem n225tintk : tintk Tryz.prog 225 = none := by kernel_rfl
theorem n225tcell : tcell Tryz.prog 225 = 0 := by kernel_rfl
theorem n225tbool : tbool Tryz.prog 225 = false := by kernel_rfl
theorem n225tkind : tkind Tryz.prog 225 = 2 := by kernel_rfl
theorem n225tby : tby Tryz.prog 225 = 24 := by kernel_rfl
theorem n225tz : tz Tryz.prog 225 = some (.nils) := by kernel_rfl
theorem n225tzk : tzk Tryz.prog 225 1 = true := by kernel_rfl
theorem n228tsa : tsa Tryz.prog 228 = some (4, true) := by kernel_rfl
theorem n228telem : telem Tryz.prog 228 = none := by kernel_rfl
theorem n228tstr : tstr Tryz.prog 228 = false := by kernel_rfl
theorem n228tintk : tintk Tryz.prog 228 = none := by kernel_rfl
theorem n228tcell : tcell Tryz.prog 228 = 0 := by kernel_rfl
theorem n228tbool : tbool Tryz.prog 228 = false := by kernel_rfl
theorem n228tkind : tkind Tryz.prog 228 = 0 := by kernel_rfl
theorem n228tby : tby Tryz.prog 228 = 4 := by kernel_rfl
theorem n228tz : tz Tryz.prog 228 = some (.agg [.bool false, .bool false, .bool false, .bool false]) := by kernel_rfl
theorem n228tzk : tzk Tryz.prog 228 4 = true := by kernel_rfl
theorem n228tarr : tarr Tryz.prog 228 = some (4, 4) := by kernel_rfl
theorem n228apl0 : apl Tryz.prog 228 0 = some (0, 1) := by kernel_rfl
theorem n228apl1 : apl Tryz.prog 228 1 = some (1, 1) := by kernel_rfl
theorem n228apl2 : apl Tryz.prog 228 2 = some (2, 1) := by kernel_rfl
theorem n228apl3 : apl Tryz.prog 228 3 = some (3, 1) := by kernel_rfl
theorem n228tplain : tplain Tryz.prog 228 = some [2, 2, 2, 2] := by kernel_rfl
theorem n228tkey : tkey Tryz.prog 228 = some [2, 2, 2, 2] := by kernel_rfl
theorem n228abuild (parts : List (Nat × AV)) : abuild Tryz.prog 228 parts = (afill (apl Tryz.prog 228) [.bool false, .bool false, .bool false, .bool false] parts).map AV.agg := abuild_apl (by kernel_rfl) (by decide) (by kernel_rfl) parts
theorem n230tsa : tsa Tryz.prog 230 = some (24, true) := by kernel_rfl
theorem n230telem : telem Tryz.prog 230 = none := by kernel_rfl
theorem n230tstr : tstr Tryz.prog 230 = false := by kernel_rfl
theorem n230tintk : tintk Tryz.prog 230 = none := by kernel_rfl
theorem n230tcell : tcell Tryz.prog 230 = 0 := by kernel_rfl
theorem n230tbool : tbool Tryz.prog 230 = false := by kernel_rfl
theorem n230tkind : tkind Tryz.prog 230 = 0 := by kernel_rfl
theorem n230tby : tby Tryz.prog 230 = 24 := by kernel_rfl
theorem n230tz : tz Tryz.prog 230 = some (.agg [.bool false, .bool false, .bool false, .bool false, .bool false, .bool false, .bool false, .bool false, .bool false, .bool false, .bool false, .bool false, .bool false, .bool false, .bool false, .bool false, .bool false, .bool false, .bool false, .bool false, .bool false, .bool false, .bool false, .bool false]) := by kernel_rfl
theorem n230tzk : tzk Tryz.prog 230 24 = true := by kernel_rfl
theorem n230tarr : tarr Tryz.prog 230 = some (6, 228) := by kernel_rfl
theorem n230apl0 : apl Tryz.prog 230 0 = some (0, 4) := by kernel_rfl
theorem n230apl1 : apl Tryz.prog 230 1 = some (4, 4) := by kernel_rfl
theorem n230apl2 : apl Tryz.prog 230 2 = some (8, 4) := by kernel_rfl
theorem n230apl3 : apl Tryz.prog 230 3 = some (12, 4) := by kernel_rfl
theorem n230apl4 : apl Tryz.prog 230 4 = some (16, 4) := by kernel_rfl
theorem n230apl5 : apl Tryz.prog 230 5 = some (20, 4) := by kernel_rfl
theorem n230tplain : tplain Tryz.prog 230 = some [2, 2, 2, 2, 2, 2, 2, 2, 2, 2, 2, 2, 2, 2, 2, 2, 2, 2, 2, 2, 2, 2, 2, 2] := by kernel_rfl
theorem n230tkey : tkey Tryz.prog 230 = some [2, 2, 2, 2, 2, 2, 2, 2, 2, 2, 2, 2, 2, 2, 2, 2, 2, 2, 2, 2, 2, 2, 2, 2] := by kernel_rfl
theorem n230abuild (parts : List (Nat × AV)) : abuild Tryz.prog 230 parts = (afill (apl Tryz.prog 230) [.bool false, .bool false, .bool false, .bool false, .bool false, .bool false, .bool false, .bool false, .bool false, .bool false, .bool false, .bool false, .bool false, .bool false, .bool false, .bool false, .bool false, .bool false, .bool false, .bool false, .bool false, .bool false, .bool false, .bool false] parts).map AV.agg := abuild_apl (by kernel_rfl) (by decide) (by kernel_rfl) parts
theorem n232tsa : tsa Tryz.prog 232 = some (25, true) := by kernel_rfl
theorem n232telem : telem Tryz.prog 232 = none := by kernel_rfl
theorem n232tstr : tstr Tryz.prog 232 = false := by kernel_rfl
theorem n232tintk : tintk Tryz.prog 232 = none := by kernel_rfl
theorem n232tcell : tcell Tryz.prog 232 = 0 := by kernel_rfl
theorem n232tbool : tbool Tryz.prog 232 = false := by kernel_rfl
theorem n232tkind : tkind Tryz.prog 232 = 0 := by kernel_rfl
theorem n232tby : tby Tryz.prog 232 = 48 := by kernel_rfl
theorem n232tz : tz Tryz.prog 232 = some (.agg [.bool false, .bool false, .bool false, .bool false, .bool false, .bool false, .bool false, .bool false, .bool false, .bool false, .bool false, .bool false, .bool false, .bool false, .bool false, .bool false, .bool false, .bool false, .bool false, .bool false, .bool false, .bool false, .bool false, .bool false, .nils]) := by kernel_rfl
theorem n232tzk : tzk Tryz.prog 232 25 = true := by kernel_rfl
theorem n232tfld0 : tfld Tryz.prog 232 0 = some (0, 230) := by kernel_rfl
theorem n232apl0 : apl Tryz.prog 232 0 = some (0, 24) := by kernel_rfl
theorem n232tfld1 : tfld Tryz.prog 232 1 = some (24, 32) := by kernel_rfl
theorem n232apl1 : apl Tryz.prog 232 1 = some (24, 1) := by kernel_rfl
theorem n232abuild (parts : List (Nat × AV)) : abuild Tryz.prog 232 parts = (afill (apl Tryz.prog 232) [.bool false, .bool false, .bool false, .bool false, .bool false, .bool false, .bool false, .bool false, .bool false, .bool false, .bool false, .bool false, .bool false, .bool false, .bool false, .bool false, .bool false, .bool false, .bool false, .bool false, .bool false, .bool false, .bool false, .bool false, .nils] parts).map AV.agg := abuild_apl (by kernel_rfl) (by decide) (by kernel_rfl) parts
theorem n240tsa : tsa Tryz.prog 240 = some (1, false) := by kernel_rfl
theorem n240telem : telem Tryz.prog 240 = none := by kernel_rfl
theorem n240tstr : tstr Tryz.prog 240 = false := by kernel_rfl
theorem n240tintk : tintk Tryz.prog 240 = none := by kernel_rfl
theorem n240tcell : tcell Tryz.prog 240 = 0 := by kernel_rfl
theorem n240tbool : tbool Tryz.prog 240 = false := by kernel_rfl
theorem n240tkind : tkind Tryz.prog 240 = 4 := by kernel_rfl
theorem n240tby : tby Tryz.prog 240 = 8 := by kernel_rfl
theorem n240tz : tz Tryz.prog 240 = some (.nilf) := by kernel_rfl
theorem n240tzk : tzk Tryz.prog 240 1 = true := by kernel_rfl
theorem n260tsa : tsa Tryz.prog 260 = some (1, false) := by kernel_rfl
theorem n260telem : telem Tryz.prog 260 = none := by kernel_rfl
theorem n260tstr : tstr Tryz.prog 260 = false := by kernel_rfl
theorem n260tintk : tintk Tryz.prog 260 = none := by kernel_rfl
theorem n260tcell : tcell Tryz.prog 260 = 0 := by kernel_rfl
theorem n260tbool : tbool Tryz.prog 260 = false := by kernel_rfl
theorem n260tkind : tkind Tryz.prog 260 = 4 := by kernel_rfl
theorem n260tby : tby Tryz.prog 260 = 8 := by kernel_rfl
theorem n260tz : tz Tryz.prog 260 = some (.nilf) := by kernel_rfl
theorem n260tzk : tzk Tryz.prog 260 1 = true := by kernel_rfl
theorem n348tsa : tsa Tryz.prog 348 = some (1, false) := by kernel_rfl
theorem n348telem : telem Tryz.prog 348 = none := by kernel_rfl
theorem n348tstr : tstr Tryz.prog 348 = false := by kernel_rfl
theorem n348tintk : tintk Tryz.prog 348 = none := by kernel_rfl
theorem n348tcell : tcell Tryz.prog 348 = 0 := by kernel_rfl
theorem n348tbool : tbool Tryz.prog 348 = false := by kernel_rfl
theorem n348tkind : tkind Tryz.prog 348 = 4 := by kernel_rfl
theorem n348tby : tby Tryz.prog 348 = 8 := by kernel_rfl
theorem n348tz : tz Tryz.prog 348 = some (.nilf) := by kernel_rfl
theorem n348tzk : tzk Tryz.prog 348 1 = true := by kernel_rfl
theorem n349tsa : tsa Tryz.prog 349 = some (1, false) := by kernel_rfl
theorem n349telem : telem Tryz.prog 349 = none := by kernel_rfl
theorem n349tstr : tstr Tryz.prog 349 = false := by kernel_rfl
theorem n349tintk : tintk Tryz.prog 349 = none := by kernel_rfl
theorem n349tcell : tcell Tryz.prog 349 = 0 := by kernel_rfl
theorem n349tbool : tbool Tryz.prog 349 = false := by kernel_rfl
theorem n349tkind : tkind Tryz.prog 349 = 4 := by kernel_rfl
theorem n349tby : tby Tryz.prog 349 = 8 := by kernel_rfl
theorem n349tz : tz Tryz.prog 349 = some (.nilf) := by kernel_rfl
theorem n349tzk : tzk Tryz.prog 349 1 = true := by kernel_rfl
theorem n352tarr : tarr Tryz.prog 352 = some (24, 5) := by kernel_rfl
theorem n352apl0 : apl Tryz.prog 352 0 = some (0, 1) := by kernel_rfl
theorem n352apl1 : apl Tryz.prog 352 1 = some (1, 1) := by kernel_rfl
theorem n352apl2 : apl Tryz.prog 352 2 = some (2, 1) := by kernel_rfl
theorem n352apl3 : apl Tryz.prog 352 3 = some (3, 1) := by kernel_rfl
theorem n352apl4 : apl Tryz.prog 352 4 = some (4, 1) := by kernel_rfl
theorem n352apl5 : apl Tryz.prog 352 5 = some (5, 1) := by kernel_rfl
theorem n352apl6 : apl Tryz.prog 352 6 = some (6, 1) := by kernel_rfl
theorem n352apl7 : apl Tryz.prog 352 7 = some (7, 1) := by kernel_rfl
theorem n352apl8 : apl Tryz.prog 352 8 = some (8, 1) := by kernel_rfl
theorem n352apl9 : apl Tryz.prog 352 9 = some (9, 1) := by kernel_rfl
theorem n352apl10 : apl Tryz.prog 352 10 = some (10, 1) := by kernel_rfl
theorem n352apl11 : apl Tryz.prog 352 11 = some (11, 1) := by kernel_rfl
theorem n352apl12 : apl Tryz.prog 352 12 = some (12, 1) := by kernel_rfl
theorem n352apl13 : apl Tryz.prog 352 13 = some (13, 1) := by kernel_rfl
theorem n352apl14 : apl Tryz.prog 352 14 = some (14, 1) := by kernel_rfl
theorem n352apl15 : apl Tryz.prog 352 15 = some (15, 1) := by kernel_rfl
theorem n352tplain : tplain Tryz.prog 352 = some [1, 1, 1, 1, 1, 1, 1, 1, 1, 1, 1, 1, 1, 1, 1, 1, 1, 1, 1, 1, 1, 1, 1, 1] := by kernel_rfl
theorem n352tkey : tkey Tryz.prog 352 = some [1, 1, 1, 1, 1, 1, 1, 1, 1, 1, 1, 1, 1, 1, 1, 1, 1, 1, 1, 1, 1, 1, 1, 1] := by kernel_rfl
theorem n352abuild (parts : List (Nat × AV)) : abuild Tryz.prog 352 parts = (afill (apl Tryz.prog 352) [.int .u8 0, .int .u8 0, .int .u8 0, .int .u8 0, .int .u8 0, .int .u8 0, .int .u8 0, .int .u8 0, .int .u8 0, .int .u8 0, .int .u8 0, .int .u8 0, .int .u8 0, .int .u8 0, .int .u8 0, .int .u8 0, .int .u8 0, .int .u8 0, .int .u8 0, .int .u8 0, .int .u8 0, .int .u8 0, .int .u8 0, .int .u8 0] parts).map AV.agg := abuild_apl (by kernel_rfl) (by decide) (by kernel_rfl) parts
theorem n363tkey : tkey Tryz.prog 363 = some [3] := by kernel_rfl
theorem n371tsa : tsa Tryz.prog 371 = some (5, true) := by kernel_rfl
theorem n371telem : telem Tryz.prog 371 = none := by kernel_rfl
theorem n371tstr : tstr Tryz.prog 371 = false := by kernel_rfl
theorem n371tintk : tintk Tryz.prog 371 = none := by kernel_rfl
theorem n371tcell : tcell Tryz.prog 371 = 0 := by kernel_rfl
theorem n371tbool : tbool Tryz.prog 371 = false := by kernel_rfl
theorem n371tkind : tkind Tryz.prog 371 = 0 := by kernel_rfl
theorem n371tby : tby Tryz.prog 371 = 88 := by kernel_rfl
theorem n371tz : tz Tryz.prog 371 = some (.agg [.int .i64 0, .int .i64 0, .nils, .nils, .nils]) := by kernel_rfl
theorem n371tzk : tzk Tryz.prog 371 5 = true := by kernel_rfl
theorem n371tfld0 : tfld Tryz.prog 371 0 = some (0, 100) := by kernel_rfl
theorem n371apl0 : apl Tryz.prog 371 0 = some (0, 5) := by kernel_rfl
theorem n371abuild (parts : List (Nat × AV)) : abuild Tryz.prog 371 parts = (afill (apl Tryz.prog 371) [.int .i64 0, .int .i64 0, .nils, .nils, .nils] parts).map AV.agg := abuild_apl (by kernel_rfl) (by decide) (by kernel_rfl) parts
theorem n372tsa : tsa Tryz.prog 372 = some (1, false) := by kernel_rfl
theorem n372telem : telem Tryz.prog 372 = some 377 := by kernel_rfl
theorem n372tstr : tstr Tryz.prog 372 = false := by kernel_rfl
theorem n372tintk : tintk Tryz.prog 372 = none := by kernel_rfl
theorem n372tcell : tcell Tryz.prog 372 = 0 := by kernel_rfl
theorem n372tbool : tbool Tryz.prog 372 = false := by kernel_rfl
theorem n372tkind : tkind Tryz.prog 372 = 2 := by kernel_rfl
theorem n372tby : tby Tryz.prog 372 = 24 := by kernel_rfl
theorem n372tz : tz Tryz.prog 372 = some (.nils) := by kernel_rfl
theorem n372tzk : tzk Tryz.prog 372 1 = true := by kernel_rfl
theorem n373tsa : tsa Tryz.prog 373 = some (1, false) := by kernel_rfl
theorem n373telem : telem Tryz.prog 373 = none := by kernel_rfl
theorem n373tstr : tstr Tryz.prog 373 = false := by kernel_rfl
theorem n373tintk : tintk Tryz.prog 373 = none := by kernel_rfl
theorem n373tcell : tcell Tryz.prog 373 = 0 := by kernel_rfl
theorem n373tbool : tbool Tryz.prog 373 = false := by kernel_rfl
theorem n373tkind : tkind Tryz.prog 373 = 3 := by kernel_rfl
theorem n373tby : tby Tryz.prog 373 = 8 := by kernel_rfl
theorem n373tz : tz Tryz.prog 373 = some (.nilm) := by kernel_rfl
theorem n373tzk : tzk Tryz.prog 373 1 = true := by kernel_rfl
theorem n373tmap : tmap Tryz.prog 373 = some (375, 4) := by kernel_rfl
theorem n375tsa : tsa Tryz.prog 375 = some (25, true) := by kernel_rfl
theorem n375telem : telem Tryz.prog 375 = none := by kernel_rfl
theorem n375tstr : tstr Tryz.prog 375 = false := by kernel_rfl
theorem n375tintk : tintk Tryz.prog 375 = none := by kernel_rfl
theorem n375tcell : tcell Tryz.prog 375 = 0 := by kernel_rfl
theorem n375tbool : tbool Tryz.prog 375 = false := by kernel_rfl
theorem n375tkind : tkind Tryz.prog 375 = 0 := by kernel_rfl
theorem n375tby : tby Tryz.prog 375 = 32 := by kernel_rfl
theorem n375tz : tz Tryz.prog 375 = some (.agg [.int .i64 0, .bool false, .bool false, .bool false, .bool false, .bool false, .bool false, .bool false, .bool false, .bool false, .bool false, .bool false, .bool false, .bool false, .bool false, .bool false, .bool false, .bool false, .bool false, .bool false, .bool false, .bool false, .bool false, .bool false, .bool false]) := by kernel_rfl
theorem n375tzk : tzk Tryz.prog 375 25 = true := by kernel_rfl
theorem n375tfld0 : tfld Tryz.prog 375 0 = some (0, 3) := by kernel_rfl
theorem n375apl0 : apl Tryz.prog 375 0 = some (0, 1) := by kernel_rfl
theorem n375tfld1 : tfld Tryz.prog 375 1 = some (1, 230) := by kernel_rfl
theorem n375apl1 : apl Tryz.prog 375 1 = some (1, 24) := by kernel_rfl
theorem n375tplain : tplain Tryz.prog 375 = some [1, 2, 2, 2, 2, 2, 2, 2, 2, 2, 2, 2, 2, 2, 2, 2, 2, 2, 2, 2, 2, 2, 2, 2, 2] := by kernel_rfl
theorem n375tkey : tkey Tryz.prog 375 = some [1, 2, 2, 2, 2, 2, 2, 2, 2, 2, 2, 2, 2, 2, 2, 2, 2, 2, 2, 2, 2, 2, 2, 2, 2] := by kernel_rfl
theorem n375abuild (parts : List (Nat × AV)) : abuild Tryz.prog 375 parts = (afill (apl Tryz.prog 375) [.int .i64 0, .bool false, .bool false, .bool false, .bool false, .bool false, .bool false, .bool false, .bool false, .bool false, .bool false, .bool false, .bool false, .bool false, .bool false, .bool false, .bool false, .bool false, .bool false, .bool false, .bool false, .bool false, .bool false, .bool false, .bool false] parts).map AV.agg := abuild_apl (by kernel_rfl) (by decide) (by kernel_rfl) parts
theorem n377tsa : tsa Tryz.prog 377 = some (26, true) := by kernel_rfl
theorem n377telem : telem Tryz.prog 377 = none := by kernel_rfl
theorem n377tstr : tstr Tryz.prog 377 = false := by kernel_rfl
theorem n377tintk : tintk Tryz.prog 377 = none := by kernel_rfl
theorem n377tcell : tcell Tryz.prog 377 = 0 := by kernel_rfl
theorem n377tbool : tbool Tryz.prog 377 = false := by kernel_rfl
theorem n377tkind : tkind Tryz.prog 377 = 0 := by kernel_rfl
theorem n377tby : tby Tryz.prog 377 = 56 := by kernel_rfl
theorem n377tz : tz Tryz.prog 377 = some (.agg [.int .i64 0, .bool false, .bool false, .bool false, .bool false, .bool false, .bool false, .bool false, .bool false, .bool false, .bool false, .bool false, .bool false, .bool false, .bool false, .bool false, .bool false, .bool false, .bool false, .bool false, .bool false, .bool false, .bool false, .bool false, .bool false, .nils]) := by kernel_rfl
theorem n377tzk : tzk Tryz.prog 377 26 = true := by kernel_rfl
theorem n377tfld0 : tfld Tryz.prog 377 0 = some (0, 375) := by kernel_rfl
theorem n377apl0 : apl Tryz.prog 377 0 = some (0, 25) := by kernel_rfl
theorem n377tfld1 : tfld Tryz.prog 377 1 = some (25, 32) := by kernel_rfl
theorem n377apl1 : apl Tryz.prog 377 1 = some (25, 1) := by kernel_rfl
theorem n377abuild (parts : List (Nat × AV)) : abuild Tryz.prog 377 parts = (afill (apl Tryz.prog 377) [.int .i64 0, .bool false, .bool false, .bool false, .bool false, .bool false, .bool false, .bool false, .bool false, .bool false, .bool false, .bool false, .bool false, .bool false, .bool false, .bool false, .bool false, .bool false, .bool false, .bool false, .bool false, .bool false, .bool false, .bool false, .bool false, .nils] parts).map AV.agg := abuild_apl (by kernel_rfl) (by decide) (by kernel_rfl) parts
theorem n379tsa : tsa Tryz.prog 379 = some (1, false) := by kernel_rfl
theorem n379telem : telem Tryz.prog 379 = none := by kernel_rfl
theorem n379tstr : tstr Tryz.prog 379 = false := by kernel_rfl
theorem n379tintk : tintk Tryz.prog 379 = none := by kernel_rfl
theorem n379tcell : tcell Tryz.prog 379 = 0 := by kernel_rfl
theorem n379tbool : tbool Tryz.prog 379 = false := by kernel_rfl
theorem n379tkind : tkind Tryz.prog 379 = 4 := by kernel_rfl
theorem n379tby : tby Tryz.prog 379 = 8 := by kernel_rfl
theorem n379tz : tz Tryz.prog 379 = some (.nilf) := by kernel_rfl
theorem n379tzk : tzk Tryz.prog 379 1 = true := by kernel_rfl
theorem n382tsa : tsa Tryz.prog 382 = some (1, false) := by kernel_rfl
theorem n382telem : telem Tryz.prog 382 = none := by kernel_rfl
theorem n382tstr : tstr Tryz.prog 382 = false := by kernel_rfl
theorem n382tintk : tintk Tryz.prog 382 = none := by kernel_rfl
theorem n382tcell : tcell Tryz.prog 382 = 0 := by kernel_rfl
theorem n382tbool : tbool Tryz.prog 382 = false := by kernel_rfl
theorem n382tkind : tkind Tryz.prog 382 = 4 := by kernel_rfl
theorem n382tby : tby Tryz.prog 382 = 8 := by kernel_rfl
theorem n382tz : tz Tryz.prog 382 = some (.nilf) := by kernel_rfl
theorem n382tzk : tzk Tryz.prog 382 1 = true := by kernel_rfl
theorem n403tarr : tarr Tryz.prog 403 = some (20, 308) := by kernel_rfl
theorem n403apl0 : apl Tryz.prog 403 0 = some (0, 1) := by kernel_rfl
theorem n403apl1 : apl Tryz.prog 403 1 = some (1, 1) := by kernel_rfl
theorem n403apl2 : apl Tryz.prog 403 2 = some (2, 1) := by kernel_rfl
theorem n403apl3 : apl Tryz.prog 403 3 = some (3, 1) := by kernel_rfl
theorem n403apl4 : apl Tryz.prog 403 4 = some (4, 1) := by kernel_rfl
theorem n403apl5 : apl Tryz.prog 403 5 = some (5, 1) := by kernel_rfl
theorem n403apl6 : apl Tryz.prog 403 6 = some (6, 1) := by kernel_rfl
theorem n403apl7 : apl Tryz.prog 403 7 = some (7, 1) := by kernel_rfl
theorem n403apl8 : apl Tryz.prog 403 8 = some (8, 1) := by kernel_rfl
theorem n403apl9 : apl Tryz.prog 403 9 = some (9, 1) := by kernel_rfl
theorem n403apl10 : apl Tryz.prog 403 10 = some (10, 1) := by kernel_rfl
theorem n403apl11 : apl Tryz.prog 403 11 = some (11, 1) := by kernel_rfl
theorem n403apl12 : apl Tryz.prog 403 12 = some (12, 1) := by kernel_rfl
theorem n403apl13 : apl Tryz.prog 403 13 = some (13, 1) := by kernel_rfl
theorem n403apl14 : apl Tryz.prog 403 14 = some (14, 1) := by kernel_rfl
theorem n403apl15 : apl Tryz.prog 403 15 = some (15, 1) := by kernel_rfl
theorem n403tplain : tplain Tryz.prog 403 = some [1, 1, 1, 1, 1, 1, 1, 1, 1, 1, 1, 1, 1, 1, 1, 1, 1, 1, 1, 1] := by kernel_rfl
theorem n403tkey : tkey Tryz.prog 403 = some [1, 1, 1, 1, 1, 1, 1, 1, 1, 1, 1, 1, 1, 1, 1, 1, 1, 1, 1, 1] := by kernel_rfl
theorem n403abuild (parts : List (Nat × AV)) : abuild Tryz.prog 403 parts = (afill (apl Tryz.prog 403) [.int .u64 0, .int .u64 0, .int .u64 0, .int .u64 0, .int .u64 0, .int .u64 0, .int .u64 0, .int .u64 0, .int .u64 0, .int .u64 0, .int .u64 0, .int .u64 0, .int .u64 0, .int .u64 0, .int .u64 0, .int .u64 0, .int .u64 0, .int .u64 0, .int .u64 0, .int .u64 0] parts).map AV.agg := abuild_apl (by kernel_rfl) (by decide) (by kernel_rfl) parts
theorem n404tarr : tarr Tryz.prog 404 = some (65, 5) := by kernel_rfl
theorem n404apl0 : apl Tryz.prog 404 0 = some (0, 1) := by kernel_rfl
theorem n404apl1 : apl Tryz.prog 404 1 = some (1, 1) := by kernel_rfl
theorem n404apl2 : apl Tryz.prog 404 2 = some (2, 1) := by kernel_rfl
theorem n404apl3 : apl Tryz.prog 404 3 = some (3, 1) := by kernel_rfl
theorem n404apl4 : apl Tryz.prog 404 4 = some (4, 1) := by kernel_rfl
theorem n404apl5 : apl Tryz.prog 404 5 = some (5, 1) := by kernel_rfl
theorem n404apl6 : apl Tryz.prog 404 6 = some (6, 1) := by kernel_rfl
theorem n404apl7 : apl Tryz.prog 404 7 = some (7, 1) := by kernel_rfl
theorem n404apl8 : apl Tryz.prog 404 8 = some (8, 1) := by kernel_rfl
theorem n404apl9 : apl Tryz.prog 404 9 = some (9, 1) := by kernel_rfl
theorem n404apl10 : apl Tryz.prog 404 10 = some (10, 1) := by kernel_rfl
theorem n404apl11 : apl Tryz.prog 404 11 = some (11, 1) := by kernel_rfl
theorem n404apl12 : apl Tryz.prog 404 12 = some (12, 1) := by kernel_rfl
theorem n404apl13 : apl Tryz.prog 404 13 = some (13, 1) := by kernel_rfl
theorem n404apl14 : apl Tryz.prog 404 14 = some (14, 1) := by kernel_rfl
theorem n404apl15 : apl Tryz.prog 404 15 = some (15, 1) := by kernel_rfl
theorem n404tplain : tplain Tryz.prog 404 = some [1, 1, 1, 1, 1, 1, 1, 1, 1, 1, 1, 1, 1, 1, 1, 1, 1, 1, 1, 1, 1, 1, 1, 1, 1, 1, 1, 1, 1, 1, 1, 1, 1, 1, 1, 1, 1, 1, 1, 1, 1, 1, 1, 1, 1, 1, 1, 1, 1, 1, 1, 1, 1, 1, 1, 1, 1, 1, 1, 1, 1, 1, 1, 1, 1] := by kernel_rfl
theorem n404tkey : tkey Tryz.prog 404 = some [1, 1, 1, 1, 1, 1, 1, 1, 1, 1, 1, 1, 1, 1, 1, 1, 1, 1, 1, 1, 1, 1, 1, 1, 1, 1, 1, 1, 1, 1, 1, 1, 1, 1, 1, 1, 1, 1, 1, 1, 1, 1, 1, 1, 1, 1, 1, 1, 1, 1, 1, 1, 1, 1, 1, 1, 1, 1, 1, 1, 1, 1, 1, 1, 1] := by kernel_rfl
theorem n411tkey : tkey Tryz.prog 411 = some [3] := by kernel_rfl
theorem n414tsa : tsa Tryz.prog 414 = some (1, false) := by kernel_rfl
theorem n414telem : telem Tryz.prog 414 = none := by kernel_rfl
theorem n414tstr : tstr Tryz.prog 414 = false := by kernel_rfl
theorem n414tintk : tintk Tryz.prog 414 = none := by kernel_rfl
theorem n414tcell : tcell Tryz.prog 414 = 0 := by kernel_rfl
theorem n414tbool : tbool Tryz.prog 414 = false := by kernel_rfl
theorem n414tkind : tkind Tryz.prog 414 = 4 := by kernel_rfl
theorem n414tby : tby Tryz.prog 414 = 8 := by kernel_rfl
theorem n414tz : tz Tryz.prog 414 = some (.nilf) := by kernel_rfl
theorem n414tzk : tzk Tryz.prog 414 1 = true := by kernel_rfl
theorem n426tsa : tsa Tryz.prog 426 = some (1, false) := by kernel_rfl
theorem n426telem : telem Tryz.prog 426 = none := by kernel_rfl
theorem n426tstr : tstr Tryz.prog 426 = false := by kernel_rfl
theorem n426tintk : tintk Tryz.prog 426 = none := by kernel_rfl
theorem n426tcell : tcell Tryz.prog 426 = 0 := by kernel_rfl
theorem n426tbool : tbool Tryz.prog 426 = false := by kernel_rfl
theorem n426tkind : tkind Tryz.prog 426 = 4 := by kernel_rfl
theorem n426tby : tby Tryz.prog 426 = 8 := by kernel_rfl
theorem n426tz : tz Tryz.prog 426 = some (.nilf) := by kernel_rfl
theorem n426tzk : tzk Tryz.prog 426 1 = true := by kernel_rfl
theorem n429tarr : tarr Tryz.prog 429 = some (32, 5) := by kernel_rfl
theorem n429apl0 : apl Tryz.prog 429 0 = some (0, 1) := by kernel_rfl
theorem n429apl1 : apl Tryz.prog 429 1 = some (1, 1) := by kernel_rfl
theorem n429apl2 : apl Tryz.prog 429 2 = some (2, 1) := by kernel_rfl
theorem n429apl3 : apl Tryz.prog 429 3 = some (3, 1) := by kernel_rfl
theorem n429apl4 : apl Tryz.prog 429 4 = some (4, 1) := by kernel_rfl
theorem n429apl5 : apl Tryz.prog 429 5 = some (5, 1) := by kernel_rfl
theorem n429apl6 : apl Tryz.prog 429 6 = some (6, 1) := by kernel_rfl
theorem n429apl7 : apl Tryz.prog 429 7 = some (7, 1) := by kernel_rfl
theorem n429apl8 : apl Tryz.prog 429 8 = some (8, 1) := by kernel_rfl
theorem n429apl9 : apl Tryz.prog 429 9 = some (9, 1) := by kernel_rfl
theorem n429apl10 : apl Tryz.prog 429 10 = some (10, 1) := by kernel_rfl
theorem n429apl11 : apl Tryz.prog 429 11 = some (11, 1) := by kernel_rfl
theorem n429apl12 : apl Tryz.prog 429 12 = some (12, 1) := by kernel_rfl
theorem n429apl13 : apl Tryz.prog 429 13 = some (13, 1) := by kernel_rfl
theorem n429apl14 : apl Tryz.prog 429 14 = some (14, 1) := by kernel_rfl
theorem n429apl15 : apl Tryz.prog 429 15 = some (15, 1) := by kernel_rfl
theorem n429tplain : tplain Tryz.prog 429 = some [1, 1, 1, 1, 1, 1, 1, 1, 1, 1, 1, 1, 1, 1, 1, 1, 1, 1, 1, 1, 1, 1, 1, 1, 1, 1, 1, 1, 1, 1, 1, 1] := by kernel_rfl
theorem n429tkey : tkey Tryz.prog 429 = some [1, 1, 1, 1, 1, 1, 1, 1, 1, 1, 1, 1, 1, 1, 1, 1, 1, 1, 1, 1, 1, 1, 1, 1, 1, 1, 1, 1, 1, 1, 1, 1] := by kernel_rfl
theorem n429abuild (parts : List (Nat × AV)) : abuild Tryz.prog 429 parts = (afill (apl Tryz.prog 429) [.int .u8 0, .int .u8 0, .int .u8 0, .int .u8 0, .int .u8 0, .int .u8 0, .int .u8 0, .int .u8 0, .int .u8 0, .int .u8 0, .int .u8 0, .int .u8 0, .int .u8 0, .int .u8 0, .int .u8 0, .int .u8 0, .int .u8 0, .int .u8 0, .int .u8 0, .int .u8 0, .int .u8 0, .int .u8 0, .int .u8 0, .int .u8 0, .int .u8 0, .int .u8 0, .int .u8 0, .int .u8 0, .int .u8 0, .int .u8 0, .int .u8 0, .int .u8 0] parts).map AV.agg := abuild_apl (by kernel_rfl) (by decide) (by kernel_rfl) parts
theorem n430tarr : tarr Tryz.prog 430 = some (64, 5) := by kernel_rfl
theorem n430apl0 : apl Tryz.prog 430 0 = some (0, 1) := by kernel_rfl
theorem n430apl1 : apl Tryz.prog 430 1 = some (1, 1) := by kernel_rfl
theorem n430apl2 : apl Tryz.prog 430 2 = some (2, 1) := by kernel_rfl
theorem n430apl3 : apl Tryz.prog 430 3 = some (3, 1) := by kernel_rfl
theorem n430apl4 : apl Tryz.prog 430 4 = some (4, 1) := by kernel_rfl
theorem n430apl5 : apl Tryz.prog 430 5 = some (5, 1) := by kernel_rfl
theorem n430apl6 : apl Tryz.prog 430 6 = some (6, 1) := by kernel_rfl
theorem n430apl7 : apl Tryz.prog 430 7 = some (7, 1) := by kernel_rfl
theorem n430apl8 : apl Tryz.prog 430 8 = some (8, 1) := by kernel_rfl
theorem n430apl9 : apl Tryz.prog 430 9 = some (9, 1) := by kernel_rfl
theorem n430apl10 : apl Tryz.prog 430 10 = some (10, 1) := by kernel_rfl
theorem n430apl11 : apl Tryz.prog 430 11 = some (11, 1) := by kernel_rfl
theorem n430apl12 : apl Tryz.prog 430 12 = some (12, 1) := by kernel_rfl
theorem n430apl13 : apl Tryz.prog 430 13 = some (13, 1) := by kernel_rfl
theorem n430apl14 : apl Tryz.prog 430 14 = some (14, 1) := by kernel_rfl
theorem n430apl15 : apl Tryz.prog 430 15 = some (15, 1) := by kernel_rfl
theorem n430tplain : tplain Tryz.prog 430 = some [1, 1, 1, 1, 1, 1, 1, 1, 1, 1, 1, 1, 1, 1, 1, 1, 1, 1, 1, 1, 1, 1, 1, 1, 1, 1, 1, 1, 1, 1, 1, 1, 1, 1, 1, 1, 1, 1, 1, 1, 1, 1, 1, 1, 1, 1, 1, 1, 1, 1, 1, 1, 1, 1, 1, 1, 1, 1, 1, 1, 1, 1, 1, 1] := by kernel_rfl
theorem n430tkey : tkey Tryz.prog 430 = some [1, 1, 1, 1, 1, 1, 1, 1, 1, 1, 1, 1, 1, 1, 1, 1, 1, 1, 1, 1, 1, 1, 1, 1, 1, 1, 1, 1, 1, 1, 1, 1, 1, 1, 1, 1, 1, 1, 1, 1, 1, 1, 1, 1, 1, 1, 1, 1, 1, 1, 1, 1, 1, 1, 1, 1, 1, 1, 1, 1, 1, 1, 1, 1] := by kernel_rfl
theorem n430abuild (parts : List (Nat × AV)) : abuild Tryz.prog 430 parts = (afill (apl Tryz.prog 430) [.int .u8 0, .int .u8 0, .int .u8 0, .int .u8 0, .int .u8 0, .int .u8 0, .int .u8 0, .int .u8 0, .int .u8 0, .int .u8 0, .int .u8 0, .int .u8 0, .int .u8 0, .int .u8 0, .int .u8 0, .int .u8 0, .int .u8 0, .int .u8 0, .int .u8 0, .int .u8 0, .int .u8 0, .int .u8 0, .int .u8 0, .int .u8 0, .int .u8 0, .int .u8 0, .int .u8 0, .int .u8 0, .int .u8 0, .int .u8 0, .int .u8 0, .int .u8 0, .int .u8 0, .int .u8 0, .int .u8 0, .int .u8 0, .int .u8 0, .int .u8 0, .int .u8 0, .int .u8 0, .int .u8 0, .int .u8 0, .int .u8 0, .int .u8 0, .int .u8 0, .int .u8 0, .int .u8 0, .int .u8 0, .int .u8 0, .int .u8 0, .int .u8 0, .int .u8 0, .int .u8 0, .int .u8 0, .int .u8 0, .int .u8 0, .int .u8 0, .int .u8 0, .int .u8 0, .int .u8 0, .int .u8 0, .int .u8 0, .int .u8 0, .int .u8 0] parts).map AV.agg := abuild_apl (by kernel_rfl) (by decide) (by kernel_rfl) parts
attribute [simp] n97tsa n97telem n97tstr n97tintk n97tcell n97tbool n97tkind n97tby n97tz n97tzk n98tsa n98telem n98tstr n98tintk n98tcell n98tbool n98tkind n98tby n98tz n98tzk n100tsa n100telem n100tstr n100tintk n100tcell n100tbool n100tkind n100tby n100tz n100tzk n100tfld0 n100apl0 n100tfld1 n100apl1 n100tfld2 n100apl2 n100tfld3 n100apl3 n100tfld4 n100apl4 n100abuild n108tsa n108telem n108tstr n108tintk n108tcell n108tbool n108tkind n108tby n108tz n108tzk n108tfld0 n108apl0 n108tfld1 n108apl1 n108tfld2 n108apl2 n108tplain n108tkey n108abuild n109tsa n109telem n109tstr n109tintk n109tcell n109tbool n109tkind n109tby n109tz n109tzk n112tsa n112telem n112tstr n112tintk n112tcell n112tbool n112tkind n112tby n112tz n112tzk n113tsa n113telem n113tstr n113tintk n113tcell n113tbool n113tkind n113tby n113tz n113tzk n118tsa n118telem n118tstr n118tintk n118tcell n118tbool n118tkind n118tby n118tz n118tzk n122tsa n122telem n122tstr n122tintk n122tcell n122tbool n122tkind n122tby n122tz n122tzk n122tfld0 n122apl0 n122tfld1 n122apl1 n122tfld2 n122apl2 n122tplain n122tkey n122abuild n211tarr n211apl0 n211apl1 n211tplain n211tkey n211abuild n224tsa n224telem n224tstr n224tintk n224tcell n224tbool n224tkind n224tby n224tz n224tzk n225tsa n225telem n225tstr n225tintk n225tcell n225tbool n225tkind n225tby n225tz n225tzk n228tsa n228telem n228tstr n228tintk n228tcell n228tbool n228tkind n228tby n228tz n228tzk n228tarr n228apl0 n228apl1 n228apl2 n228apl3 n228tplain n228tkey n228abuild n230tsa n230telem n230tstr n230tintk n230tcell n230tbool n230tkind n230tby n230tz n230tzk n230tarr n230apl0 n230apl1 n230apl2 n230apl3 n230apl4 n230apl5 n230tplain n230tkey n230abuild n232tsa n232telem n232tstr n232tintk n232tcell n232tbool n232tkind n232tby n232tz n232tzk n232tfld0 n232apl0 n232tfld1 n232apl1 n232abuild n240tsa n240telem n240tstr n240tintk n240tcell n240tbool n240tkind n240tby n240tz n240tzk n260tsa n260telem n260tstr n260tintk n260tcell n260tbool n260tkind n260tby n260tz n260tzk n348tsa n348telem n348tstr n348tintk n348tcell n348tbool n348tkind n348tby n348tz n348tzk n349tsa n349telem n349tstr n349tintk n349tcell n349tbool n349tkind n349tby n349tz n349tzk n352tarr n352apl0 n352apl1 n352apl2 n352apl3 n352apl4 n352apl5 n352apl6 n352apl7 n352apl8 n352apl9 n352apl10 n352apl11 n352apl12 n352apl13 n352apl14 n352apl15 n352tplain n352tkey n352abuild n363tkey n371tsa n371telem n371tstr n371tintk n371tcell n371tbool n371tkind n371tby n371tz n371tzk n371tfld0 n371apl0 n371abuild n372tsa n372telem n372tstr n372tintk n372tcell n372tbool n372tkind n372tby n372tz n372tzk n373tsa n373telem n373tstr n373tintk n373tcell n373tbool n373tkind n373tby n373tz n373tzk n373tmap n375tsa n375telem n375tstr n375tintk n375tcell n375tbool n375tkind n375tby n375tz n375tzk n375tfld0 n375apl0 n375tfld1 n375apl1 n375tplain n375tkey n375abuild n377tsa n377telem n377tstr n377tintk n377tcell n377tbool n377tkind n377tby n377tz n377tzk n377tfld0 n377apl0 n377tfld1 n377apl1 n377abuild n379tsa n379telem n379tstr n379tintk n379tcell n379tbool n379tkind n379tby n379tz n379tzk n382tsa n382telem n382tstr n382tintk n382tcell n382tbool n382tkind n382tby n382tz n382tzk n403tarr n403apl0 n403apl1 n403apl2 n403apl3 n403apl4 n403apl5 n403apl6 n403apl7 n403apl8 n403apl9 n403apl10 n403apl11 n403apl12 n403apl13 n403apl14 n403apl15 n403tplain n403tkey n403abuild n404tarr n404apl0 n404apl1 n404apl2 n404apl3 n404apl4 n404apl5 n404apl6 n404apl7 n404apl8 n404apl9 n404apl10 n404apl11 n404apl12 n404apl13 n404apl14 n404apl15 n404tplain n404tkey n411tkey n414tsa n414telem n414tstr n414tintk n414tcell n414tbool n414tkind n414tby n414tz n414tzk n426tsa n426telem n426tstr n426tintk n426tcell n426tbool n426tkind n426tby n426tz n426tzk n429tarr n429apl0 n429apl1 n429apl2 n429apl3 n429apl4 n429apl5 n429apl6 n429apl7 n429apl8 n429apl9 n429apl10 n429apl11 n429apl12 n429apl13 n429apl14 n429apl15 n429tplain n429tkey n429abuild n430tarr n430apl0 n430apl1 n430apl2 n430apl3 n430apl4 n430apl5 n430apl6 n430apl7 n430apl8 n430apl9 n430apl10 n430apl11 n430apl12 n430apl13 n430apl14 n430apl15 n430tplain n430tkey n430abuild

end Ab

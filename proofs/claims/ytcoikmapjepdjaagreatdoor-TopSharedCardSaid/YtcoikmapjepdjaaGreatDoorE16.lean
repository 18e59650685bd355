/-
  Texts packed for a claim.
-/
import Derived.Test.YtcoikmapjepdjaaGreatDoorE05
set_option linter.all false
namespace Ab
open Go Go.Proofs
theorem Vgb:tsa Tryz.prog 97=some (1,false):=by kernel_rfl
theorem Vfe:Uc Tryz.prog 97=some 38:=by kernel_rfl
theorem Vfn:Yd Tryz.prog 97=false:=by kernel_rfl
theorem Xfz:Ve Tryz.prog 97=none:=by kernel_rfl
theorem Vdy:Vd Tryz.prog 97=0:=by kernel_rfl
theorem Yhp:Xg Tryz.prog 97=false:=by kernel_rfl
theorem Vh2:Ye Tryz.prog 97=2:=by kernel_rfl
theorem Zc8:tby Tryz.prog 97=24:=by kernel_rfl
theorem Xd6:tz Tryz.prog 97=some (.nils):=by kernel_rfl
theorem Uc7:tzk Tryz.prog 97 1=true:=by kernel_rfl
theorem Zea:tsa Tryz.prog 98=some (1,false):=by kernel_rfl
theorem Yfp:Uc Tryz.prog 98=some 108:=by kernel_rfl
theorem Vcp:Yd Tryz.prog 98=false:=by kernel_rfl
theorem Xgz:Ve Tryz.prog 98=none:=by kernel_rfl
theorem Wf8:Vd Tryz.prog 98=0:=by kernel_rfl
theorem Xh6:Xg Tryz.prog 98=false:=by kernel_rfl
theorem Zh2:Ye Tryz.prog 98=2:=by kernel_rfl
theorem Zcp:tby Tryz.prog 98=24:=by kernel_rfl
theorem Ygd:tz Tryz.prog 98=some (.nils):=by kernel_rfl
theorem Uhy:tzk Tryz.prog 98 1=true:=by kernel_rfl
theorem Zgu:tsa Tryz.prog 100=some (5,true):=by kernel_rfl
theorem Zcw:Uc Tryz.prog 100=none:=by kernel_rfl
theorem Ufv:Yd Tryz.prog 100=false:=by kernel_rfl
theorem Yek:Ve Tryz.prog 100=none:=by kernel_rfl
theorem Vcu:Vd Tryz.prog 100=0:=by kernel_rfl
theorem Yds:Xg Tryz.prog 100=false:=by kernel_rfl
theorem Zht:Ye Tryz.prog 100=0:=by kernel_rfl
theorem Zf4:tby Tryz.prog 100=88:=by kernel_rfl
theorem Vdh:tz Tryz.prog 100=some (.agg [.int .i64 0,.int .i64 0,.nils,.nils,.nils]):=by kernel_rfl
theorem We1:tzk Tryz.prog 100 5=true:=by kernel_rfl
theorem Xgx:Vj Tryz.prog 100 0=some (0,3):=by kernel_rfl
theorem Wc1:apl Tryz.prog 100 0=some (0,1):=by kernel_rfl
theorem Ud8:Vj Tryz.prog 100 1=some (1,3):=by kernel_rfl
theorem Zg8:apl Tryz.prog 100 1=some (1,1):=by kernel_rfl
theorem Whs:Vj Tryz.prog 100 2=some (2,97):=by kernel_rfl
theorem Ueu:apl Tryz.prog 100 2=some (2,1):=by kernel_rfl
theorem Uht:Vj Tryz.prog 100 3=some (3,32):=by kernel_rfl
theorem Ud9:apl Tryz.prog 100 3=some (3,1):=by kernel_rfl
theorem Wc2:Vj Tryz.prog 100 4=some (4,98):=by kernel_rfl
theorem Uhp:apl Tryz.prog 100 4=some (4,1):=by kernel_rfl
theorem Xfi (parts:List (Nat × AV)):Xe Tryz.prog 100 parts=(Ud (apl Tryz.prog 100) [.int .i64 0,.int .i64 0,.nils,.nils,.nils] parts).map AV.agg:=Uf (by kernel_rfl) (by decide) (by kernel_rfl) parts
theorem Zfb:tsa Tryz.prog 108=some (3,true):=by kernel_rfl
theorem Yc2:Uc Tryz.prog 108=none:=by kernel_rfl
theorem Vgl:Yd Tryz.prog 108=false:=by kernel_rfl
theorem Vfw:Ve Tryz.prog 108=none:=by kernel_rfl
theorem Wgg:Vd Tryz.prog 108=0:=by kernel_rfl
theorem Wdx:Xg Tryz.prog 108=false:=by kernel_rfl
theorem Vhy:Ye Tryz.prog 108=0:=by kernel_rfl
theorem Ugm:tby Tryz.prog 108=24:=by kernel_rfl
theorem Ydw:tz Tryz.prog 108=some (.agg [.int .i64 0,.int .i64 0,.int .i64 0]):=by kernel_rfl
theorem Vdl:tzk Tryz.prog 108 3=true:=by kernel_rfl
theorem Xg0:Vj Tryz.prog 108 0=some (0,3):=by kernel_rfl
theorem Uf8:apl Tryz.prog 108 0=some (0,1):=by kernel_rfl
theorem Zhq:Vj Tryz.prog 108 1=some (1,3):=by kernel_rfl
theorem Xcz:apl Tryz.prog 108 1=some (1,1):=by kernel_rfl
theorem Uf7:Vj Tryz.prog 108 2=some (2,3):=by kernel_rfl
theorem Vdm:apl Tryz.prog 108 2=some (2,1):=by kernel_rfl
theorem Zhk:Yk Tryz.prog 108=some [1,1,1]:=by kernel_rfl
theorem Xee:Xi Tryz.prog 108=some [1,1,1]:=by kernel_rfl
theorem Xej (parts:List (Nat × AV)):Xe Tryz.prog 108 parts=(Ud (apl Tryz.prog 108) [.int .i64 0,.int .i64 0,.int .i64 0] parts).map AV.agg:=Uf (by kernel_rfl) (by decide) (by kernel_rfl) parts
theorem Zcx:tsa Tryz.prog 109=some (1,false):=by kernel_rfl
theorem Wg9:Uc Tryz.prog 109=some 112:=by kernel_rfl
theorem Ueg:Yd Tryz.prog 109=false:=by kernel_rfl
theorem Xh3:Ve Tryz.prog 109=none:=by kernel_rfl
theorem Ygf:Vd Tryz.prog 109=0:=by kernel_rfl
theorem Zhg:Xg Tryz.prog 109=false:=by kernel_rfl
theorem Weo:Ye Tryz.prog 109=2:=by kernel_rfl
theorem Uhb:tby Tryz.prog 109=24:=by kernel_rfl
theorem Xh4:tz Tryz.prog 109=some (.nils):=by kernel_rfl
theorem Zdl:tzk Tryz.prog 109 1=true:=by kernel_rfl
theorem Zho:tsa Tryz.prog 112=some (1,false):=by kernel_rfl
theorem Ued:Uc Tryz.prog 112=some 113:=by kernel_rfl
theorem Yfk:Yd Tryz.prog 112=false:=by kernel_rfl
theorem Vfj:Ve Tryz.prog 112=none:=by kernel_rfl
theorem Zcq:Vd Tryz.prog 112=0:=by kernel_rfl
theorem Vg2:Xg Tryz.prog 112=false:=by kernel_rfl
theorem Vhd:Ye Tryz.prog 112=2:=by kernel_rfl
theorem Xdm:tby Tryz.prog 112=24:=by kernel_rfl
theorem Vg3:tz Tryz.prog 112=some (.nils):=by kernel_rfl
theorem Zgp:tzk Tryz.prog 112 1=true:=by kernel_rfl
theorem Xfr:tsa Tryz.prog 113=some (1,false):=by kernel_rfl
theorem Zgq:Uc Tryz.prog 113=none:=by kernel_rfl
theorem Zfm:Yd Tryz.prog 113=false:=by kernel_rfl
theorem Xhf:Ve Tryz.prog 113=some .i64:=by kernel_rfl
theorem Zdx:Vd Tryz.prog 113=1:=by kernel_rfl
theorem Zfk:Xg Tryz.prog 113=false:=by kernel_rfl
theorem Ydm:Ye Tryz.prog 113=0:=by kernel_rfl
theorem Ug3:tby Tryz.prog 113=8:=by kernel_rfl
theorem Yfh:tz Tryz.prog 113=some (.int .i64 0):=by kernel_rfl
theorem Uc6:tzk Tryz.prog 113 1=true:=by kernel_rfl
theorem Udf:tsa Tryz.prog 118=some (1,false):=by kernel_rfl
theorem Zei:Uc Tryz.prog 118=some 122:=by kernel_rfl
theorem Whb:Yd Tryz.prog 118=false:=by kernel_rfl
theorem Yhn:Ve Tryz.prog 118=none:=by kernel_rfl
theorem Whn:Vd Tryz.prog 118=0:=by kernel_rfl
theorem Wgi:Xg Tryz.prog 118=false:=by kernel_rfl
theorem Zeu:Ye Tryz.prog 118=2:=by kernel_rfl
theorem Ydd:tby Tryz.prog 118=24:=by kernel_rfl
theorem Vh5:tz Tryz.prog 118=some (.nils):=by kernel_rfl
theorem Xc5:tzk Tryz.prog 118 1=true:=by kernel_rfl
theorem Zc4:tsa Tryz.prog 122=some (3,true):=by kernel_rfl
theorem Zdg:Uc Tryz.prog 122=none:=by kernel_rfl
theorem Vgv:Yd Tryz.prog 122=false:=by kernel_rfl
theorem Yhb:Ve Tryz.prog 122=none:=by kernel_rfl
theorem Zgw:Vd Tryz.prog 122=0:=by kernel_rfl
theorem Uec:Xg Tryz.prog 122=false:=by kernel_rfl
theorem Wft:Ye Tryz.prog 122=0:=by kernel_rfl
theorem Vff:tby Tryz.prog 122=24:=by kernel_rfl
theorem Xho:tz Tryz.prog 122=some (.agg [.int .i64 0,.int .i64 0,.bool false]):=by kernel_rfl
theorem Ufc:tzk Tryz.prog 122 3=true:=by kernel_rfl
theorem Xge:Vj Tryz.prog 122 0=some (0,3):=by kernel_rfl
theorem Zdk:apl Tryz.prog 122 0=some (0,1):=by kernel_rfl
theorem We4:Vj Tryz.prog 122 1=some (1,3):=by kernel_rfl
theorem Xe8:apl Tryz.prog 122 1=some (1,1):=by kernel_rfl
theorem Vft:Vj Tryz.prog 122 2=some (2,4):=by kernel_rfl
theorem Xf1:apl Tryz.prog 122 2=some (2,1):=by kernel_rfl
theorem Zg9:Yk Tryz.prog 122=some [1,1,2]:=by kernel_rfl
theorem Wec:Xi Tryz.prog 122=some [1,1,2]:=by kernel_rfl
theorem Zg2 (parts:List (Nat × AV)):Xe Tryz.prog 122 parts=(Ud (apl Tryz.prog 122) [.int .i64 0,.int .i64 0,.bool false] parts).map AV.agg:=Uf (by kernel_rfl) (by decide) (by kernel_rfl) parts
theorem Zcs:Um Tryz.prog 211=some (2,3):=by kernel_rfl
theorem Xhe:apl Tryz.prog 211 0=some (0,1):=by kernel_rfl
theorem Uh4:apl Tryz.prog 211 1=some (1,1):=by kernel_rfl
theorem Ygn:Yk Tryz.prog 211=some [1,1]:=by kernel_rfl
theorem Uej:Xi Tryz.prog 211=some [1,1]:=by kernel_rfl
theorem Wew (parts:List (Nat × AV)):Xe Tryz.prog 211 parts=(Ud (apl Tryz.prog 211) [.int .i64 0,.int .i64 0] parts).map AV.agg:=Uf (by kernel_rfl) (by decide) (by kernel_rfl) parts
theorem Vga:tsa Tryz.prog 224=some (1,false):=by kernel_rfl
theorem Xhv:Uc Tryz.prog 224=none:=by kernel_rfl
theorem Vh0:Yd Tryz.prog 224=false:=by kernel_rfl
theorem Zec:Ve Tryz.prog 224=none:=by kernel_rfl
theorem Wfr:Vd Tryz.prog 224=0:=by kernel_rfl
theorem Vh4:Xg Tryz.prog 224=false:=by kernel_rfl
theorem We6:Ye Tryz.prog 224=1:=by kernel_rfl
theorem Zgr:tby Tryz.prog 224=8:=by kernel_rfl
theorem Uh1:tz Tryz.prog 224=some (.nilp):=by kernel_rfl
theorem Yeq:tzk Tryz.prog 224 1=true:=by kernel_rfl
theorem Uhs:tsa Tryz.prog 225=some (1,false):=by kernel_rfl
theorem Vhp:Uc Tryz.prog 225=some 232:=by kernel_rfl
theorem Vc0:Yd Tryz.prog 225=false:=by kernel_rfl
theorem Vc2:Ve Tryz.prog 225=none:=by kernel_rfl
theorem Wcw:Vd Tryz.prog 225=0:=by kernel_rfl
theorem Ufd:Xg Tryz.prog 225=false:=by kernel_rfl
theorem Yev:Ye Tryz.prog 225=2:=by kernel_rfl
theorem Xei:tby Tryz.prog 225=24:=by kernel_rfl
theorem Xfb:tz Tryz.prog 225=some (.nils):=by kernel_rfl
theorem Wfw:tzk Tryz.prog 225 1=true:=by kernel_rfl
theorem Wha:tsa Tryz.prog 228=some (4,true):=by kernel_rfl
theorem Xg2:Uc Tryz.prog 228=none:=by kernel_rfl
theorem Ufk:Yd Tryz.prog 228=false:=by kernel_rfl
theorem Ydg:Ve Tryz.prog 228=none:=by kernel_rfl
theorem We7:Vd Tryz.prog 228=0:=by kernel_rfl
theorem Yhh:Xg Tryz.prog 228=false:=by kernel_rfl
theorem Xhh:Ye Tryz.prog 228=0:=by kernel_rfl
theorem Xg9:tby Tryz.prog 228=4:=by kernel_rfl
theorem Xga:tz Tryz.prog 228=some (.agg [.bool false,.bool false,.bool false,.bool false]):=by kernel_rfl
theorem Xgf:tzk Tryz.prog 228 4=true:=by kernel_rfl
theorem Yf1:Um Tryz.prog 228=some (4,4):=by kernel_rfl
theorem Xe2:apl Tryz.prog 228 0=some (0,1):=by kernel_rfl
theorem Wev:apl Tryz.prog 228 1=some (1,1):=by kernel_rfl
theorem Wgt:apl Tryz.prog 228 2=some (2,1):=by kernel_rfl
theorem Yep:apl Tryz.prog 228 3=some (3,1):=by kernel_rfl
theorem Uc3:Yk Tryz.prog 228=some [2,2,2,2]:=by kernel_rfl
theorem Ueq:Xi Tryz.prog 228=some [2,2,2,2]:=by kernel_rfl
theorem Ugo (parts:List (Nat × AV)):Xe Tryz.prog 228 parts=(Ud (apl Tryz.prog 228) [.bool false,.bool false,.bool false,.bool false] parts).map AV.agg:=Uf (by kernel_rfl) (by decide) (by kernel_rfl) parts
theorem Wcu:tsa Tryz.prog 230=some (24,true):=by kernel_rfl
theorem Zfy:Uc Tryz.prog 230=none:=by kernel_rfl
theorem Wh0:Yd Tryz.prog 230=false:=by kernel_rfl
theorem Xd9:Ve Tryz.prog 230=none:=by kernel_rfl
theorem Vgx:Vd Tryz.prog 230=0:=by kernel_rfl
theorem Xc7:Xg Tryz.prog 230=false:=by kernel_rfl
theorem Zhi:Ye Tryz.prog 230=0:=by kernel_rfl
theorem Wff:tby Tryz.prog 230=24:=by kernel_rfl
theorem Yfc:tz Tryz.prog 230=some (.agg [.bool false,.bool false,.bool false,.bool false,.bool false,.bool false,.bool false,.bool false,.bool false,.bool false,.bool false,.bool false,.bool false,.bool false,.bool false,.bool false,.bool false,.bool false,.bool false,.bool false,.bool false,.bool false,.bool false,.bool false]):=by kernel_rfl
theorem Udr:tzk Tryz.prog 230 24=true:=by kernel_rfl
theorem Wdt:Um Tryz.prog 230=some (6,228):=by kernel_rfl
theorem Xgo:apl Tryz.prog 230 0=some (0,4):=by kernel_rfl
theorem Yg0:apl Tryz.prog 230 1=some (4,4):=by kernel_rfl
theorem Yhs:apl Tryz.prog 230 2=some (8,4):=by kernel_rfl
theorem Wfl:apl Tryz.prog 230 3=some (12,4):=by kernel_rfl
theorem Vf7:apl Tryz.prog 230 4=some (16,4):=by kernel_rfl
theorem Ycq:apl Tryz.prog 230 5=some (20,4):=by kernel_rfl
theorem Zdo:Yk Tryz.prog 230=some [2,2,2,2,2,2,2,2,2,2,2,2,2,2,2,2,2,2,2,2,2,2,2,2]:=by kernel_rfl
theorem Zds:Xi Tryz.prog 230=some [2,2,2,2,2,2,2,2,2,2,2,2,2,2,2,2,2,2,2,2,2,2,2,2]:=by kernel_rfl
theorem Ugq (parts:List (Nat × AV)):Xe Tryz.prog 230 parts=(Ud (apl Tryz.prog 230) [.bool false,.bool false,.bool false,.bool false,.bool false,.bool false,.bool false,.bool false,.bool false,.bool false,.bool false,.bool false,.bool false,.bool false,.bool false,.bool false,.bool false,.bool false,.bool false,.bool false,.bool false,.bool false,.bool false,.bool false] parts).map AV.agg:=Uf (by kernel_rfl) (by decide) (by kernel_rfl) parts
theorem Udz:tsa Tryz.prog 232=some (25,true):=by kernel_rfl
theorem Wh2:Uc Tryz.prog 232=none:=by kernel_rfl
theorem Yd0:Yd Tryz.prog 232=false:=by kernel_rfl
theorem Xff:Ve Tryz.prog 232=none:=by kernel_rfl
theorem Vdg:Vd Tryz.prog 232=0:=by kernel_rfl
theorem Ufy:Xg Tryz.prog 232=false:=by kernel_rfl
theorem Ugd:Ye Tryz.prog 232=0:=by kernel_rfl
theorem Wdd:tby Tryz.prog 232=48:=by kernel_rfl
theorem Xhk:tz Tryz.prog 232=some (.agg [.bool false,.bool false,.bool false,.bool false,.bool false,.bool false,.bool false,.bool false,.bool false,.bool false,.bool false,.bool false,.bool false,.bool false,.bool false,.bool false,.bool false,.bool false,.bool false,.bool false,.bool false,.bool false,.bool false,.bool false,.nils]):=by kernel_rfl
theorem Whf:tzk Tryz.prog 232 25=true:=by kernel_rfl
theorem Zfd:Vj Tryz.prog 232 0=some (0,230):=by kernel_rfl
theorem Vge:apl Tryz.prog 232 0=some (0,24):=by kernel_rfl
theorem Vgj:Vj Tryz.prog 232 1=some (24,32):=by kernel_rfl
theorem Zd7:apl Tryz.prog 232 1=some (24,1):=by kernel_rfl
theorem Uem (parts:List (Nat × AV)):Xe Tryz.prog 232 parts=(Ud (apl Tryz.prog 232) [.bool false,.bool false,.bool false,.bool false,.bool false,.bool false,.bool false,.bool false,.bool false,.bool false,.bool false,.bool false,.bool false,.bool false,.bool false,.bool false,.bool false,.bool false,.bool false,.bool false,.bool false,.bool false,.bool false,.bool false,.nils] parts).map AV.agg:=Uf (by kernel_rfl) (by decide) (by kernel_rfl) parts
theorem Xfu:tsa Tryz.prog 240=some (1,false):=by kernel_rfl
theorem Wfa:Uc Tryz.prog 240=none:=by kernel_rfl
theorem Xex:Yd Tryz.prog 240=false:=by kernel_rfl
theorem Yc4:Ve Tryz.prog 240=none:=by kernel_rfl
theorem Wh3:Vd Tryz.prog 240=0:=by kernel_rfl
theorem Vcr:Xg Tryz.prog 240=false:=by kernel_rfl
theorem Vhq:Ye Tryz.prog 240=4:=by kernel_rfl
theorem Xg7:tby Tryz.prog 240=8:=by kernel_rfl
theorem Ycy:tz Tryz.prog 240=some (.nilf):=by kernel_rfl
theorem Ydr:tzk Tryz.prog 240 1=true:=by kernel_rfl
theorem Zeh:tsa Tryz.prog 260=some (1,false):=by kernel_rfl
theorem Yfz:Uc Tryz.prog 260=none:=by kernel_rfl
theorem Vf3:Yd Tryz.prog 260=false:=by kernel_rfl
theorem Wf9:Ve Tryz.prog 260=none:=by kernel_rfl
theorem Zh5:Vd Tryz.prog 260=0:=by kernel_rfl
theorem Wc7:Xg Tryz.prog 260=false:=by kernel_rfl
theorem Zgv:Ye Tryz.prog 260=4:=by kernel_rfl
theorem Uhd:tby Tryz.prog 260=8:=by kernel_rfl
theorem Ydn:tz Tryz.prog 260=some (.nilf):=by kernel_rfl
theorem Ygi:tzk Tryz.prog 260 1=true:=by kernel_rfl
theorem Xed:tsa Tryz.prog 348=some (1,false):=by kernel_rfl
theorem Wf3:Uc Tryz.prog 348=none:=by kernel_rfl
theorem Ufq:Yd Tryz.prog 348=false:=by kernel_rfl
theorem Yf6:Ve Tryz.prog 348=none:=by kernel_rfl
theorem Uez:Vd Tryz.prog 348=0:=by kernel_rfl
theorem Zhy:Xg Tryz.prog 348=false:=by kernel_rfl
theorem Yeg:Ye Tryz.prog 348=4:=by kernel_rfl
theorem Vdz:tby Tryz.prog 348=8:=by kernel_rfl
theorem Zgs:tz Tryz.prog 348=some (.nilf):=by kernel_rfl
theorem Whm:tzk Tryz.prog 348 1=true:=by kernel_rfl
theorem Zct:tsa Tryz.prog 349=some (1,false):=by kernel_rfl
theorem Zgm:Uc Tryz.prog 349=none:=by kernel_rfl
theorem Ueb:Yd Tryz.prog 349=false:=by kernel_rfl
theorem Yde:Ve Tryz.prog 349=none:=by kernel_rfl
theorem Xg3:Vd Tryz.prog 349=0:=by kernel_rfl
theorem Whg:Xg Tryz.prog 349=false:=by kernel_rfl
theorem Vhz:Ye Tryz.prog 349=4:=by kernel_rfl
theorem Ufn:tby Tryz.prog 349=8:=by kernel_rfl
theorem Wfg:tz Tryz.prog 349=some (.nilf):=by kernel_rfl
theorem Vcw:tzk Tryz.prog 349 1=true:=by kernel_rfl
theorem Vdr:Um Tryz.prog 352=some (24,5):=by kernel_rfl
theorem Uhh:apl Tryz.prog 352 0=some (0,1):=by kernel_rfl
theorem Xhg:apl Tryz.prog 352 1=some (1,1):=by kernel_rfl
theorem Ygq:apl Tryz.prog 352 2=some (2,1):=by kernel_rfl
theorem Xgy:apl Tryz.prog 352 3=some (3,1):=by kernel_rfl
theorem Vf2:apl Tryz.prog 352 4=some (4,1):=by kernel_rfl
theorem Yej:apl Tryz.prog 352 5=some (5,1):=by kernel_rfl
theorem Vf0:apl Tryz.prog 352 6=some (6,1):=by kernel_rfl
theorem Xdu:apl Tryz.prog 352 7=some (7,1):=by kernel_rfl
theorem Zf8:apl Tryz.prog 352 8=some (8,1):=by kernel_rfl
theorem Zh4:apl Tryz.prog 352 9=some (9,1):=by kernel_rfl
theorem We2:apl Tryz.prog 352 10=some (10,1):=by kernel_rfl
theorem Vd4:apl Tryz.prog 352 11=some (11,1):=by kernel_rfl
theorem Zen:apl Tryz.prog 352 12=some (12,1):=by kernel_rfl
theorem Xd4:apl Tryz.prog 352 13=some (13,1):=by kernel_rfl
theorem Wet:apl Tryz.prog 352 14=some (14,1):=by kernel_rfl
theorem Wfz:apl Tryz.prog 352 15=some (15,1):=by kernel_rfl
theorem Ufb:Yk Tryz.prog 352=some [1,1,1,1,1,1,1,1,1,1,1,1,1,1,1,1,1,1,1,1,1,1,1,1]:=by kernel_rfl
theorem Vf9:Xi Tryz.prog 352=some [1,1,1,1,1,1,1,1,1,1,1,1,1,1,1,1,1,1,1,1,1,1,1,1]:=by kernel_rfl
theorem Wcz (parts:List (Nat × AV)):Xe Tryz.prog 352 parts=(Ud (apl Tryz.prog 352) [.int .u8 0,.int .u8 0,.int .u8 0,.int .u8 0,.int .u8 0,.int .u8 0,.int .u8 0,.int .u8 0,.int .u8 0,.int .u8 0,.int .u8 0,.int .u8 0,.int .u8 0,.int .u8 0,.int .u8 0,.int .u8 0,.int .u8 0,.int .u8 0,.int .u8 0,.int .u8 0,.int .u8 0,.int .u8 0,.int .u8 0,.int .u8 0] parts).map AV.agg:=Uf (by kernel_rfl) (by decide) (by kernel_rfl) parts
theorem Xf9:Xi Tryz.prog 363=some [3]:=by kernel_rfl
theorem Zgg:tsa Tryz.prog 371=some (5,true):=by kernel_rfl
theorem Udd:Uc Tryz.prog 371=none:=by kernel_rfl
theorem Yfn:Yd Tryz.prog 371=false:=by kernel_rfl
theorem Uha:Ve Tryz.prog 371=none:=by kernel_rfl
theorem Udp:Vd Tryz.prog 371=0:=by kernel_rfl
theorem Wfi:Xg Tryz.prog 371=false:=by kernel_rfl
theorem Udo:Ye Tryz.prog 371=0:=by kernel_rfl
theorem Ydo:tby Tryz.prog 371=88:=by kernel_rfl
theorem Zd9:tz Tryz.prog 371=some (.agg [.int .i64 0,.int .i64 0,.nils,.nils,.nils]):=by kernel_rfl
theorem Xc2:tzk Tryz.prog 371 5=true:=by kernel_rfl
theorem Uga:Vj Tryz.prog 371 0=some (0,100):=by kernel_rfl
theorem Vgg:apl Tryz.prog 371 0=some (0,5):=by kernel_rfl
theorem Xgl (parts:List (Nat × AV)):Xe Tryz.prog 371 parts=(Ud (apl Tryz.prog 371) [.int .i64 0,.int .i64 0,.nils,.nils,.nils] parts).map AV.agg:=Uf (by kernel_rfl) (by decide) (by kernel_rfl) parts
theorem Yfy:tsa Tryz.prog 372=some (1,false):=by kernel_rfl
theorem Xen:Uc Tryz.prog 372=some 377:=by kernel_rfl
theorem Vdj:Yd Tryz.prog 372=false:=by kernel_rfl
theorem Xg6:Ve Tryz.prog 372=none:=by kernel_rfl
theorem Xdq:Vd Tryz.prog 372=0:=by kernel_rfl
theorem Vfr:Xg Tryz.prog 372=false:=by kernel_rfl
theorem Whh:Ye Tryz.prog 372=2:=by kernel_rfl
theorem Uf3:tby Tryz.prog 372=24:=by kernel_rfl
theorem Wg4:tz Tryz.prog 372=some (.nils):=by kernel_rfl
theorem Zh3:tzk Tryz.prog 372 1=true:=by kernel_rfl
theorem Zd4:tsa Tryz.prog 373=some (1,false):=by kernel_rfl
theorem Wh1:Uc Tryz.prog 373=none:=by kernel_rfl
theorem Vep:Yd Tryz.prog 373=false:=by kernel_rfl
theorem Uct:Ve Tryz.prog 373=none:=by kernel_rfl
theorem Ze7:Vd Tryz.prog 373=0:=by kernel_rfl
theorem Zha:Xg Tryz.prog 373=false:=by kernel_rfl
theorem Vfq:Ye Tryz.prog 373=3:=by kernel_rfl
theorem Xdb:tby Tryz.prog 373=8:=by kernel_rfl
theorem Xef:tz Tryz.prog 373=some (.nilm):=by kernel_rfl
theorem Wez:tzk Tryz.prog 373 1=true:=by kernel_rfl
theorem Wdc:Zq Tryz.prog 373=some (375,4):=by kernel_rfl
theorem Ufw:tsa Tryz.prog 375=some (25,true):=by kernel_rfl
theorem Wdy:Uc Tryz.prog 375=none:=by kernel_rfl
theorem Ud1:Yd Tryz.prog 375=false:=by kernel_rfl
theorem Vd5:Ve Tryz.prog 375=none:=by kernel_rfl
theorem Ygy:Vd Tryz.prog 375=0:=by kernel_rfl
theorem Xf6:Xg Tryz.prog 375=false:=by kernel_rfl
theorem Vc3:Ye Tryz.prog 375=0:=by kernel_rfl
theorem Uf1:tby Tryz.prog 375=32:=by kernel_rfl
theorem Zg6:tz Tryz.prog 375=some (.agg [.int .i64 0,.bool false,.bool false,.bool false,.bool false,.bool false,.bool false,.bool false,.bool false,.bool false,.bool false,.bool false,.bool false,.bool false,.bool false,.bool false,.bool false,.bool false,.bool false,.bool false,.bool false,.bool false,.bool false,.bool false,.bool false]):=by kernel_rfl
theorem Zgl:tzk Tryz.prog 375 25=true:=by kernel_rfl
theorem Yhl:Vj Tryz.prog 375 0=some (0,3):=by kernel_rfl
theorem Xfl:apl Tryz.prog 375 0=some (0,1):=by kernel_rfl
theorem Ue1:Vj Tryz.prog 375 1=some (1,230):=by kernel_rfl
theorem Wd7:apl Tryz.prog 375 1=some (1,24):=by kernel_rfl
theorem Vdo:Yk Tryz.prog 375=some [1,2,2,2,2,2,2,2,2,2,2,2,2,2,2,2,2,2,2,2,2,2,2,2,2]:=by kernel_rfl
theorem Wdg:Xi Tryz.prog 375=some [1,2,2,2,2,2,2,2,2,2,2,2,2,2,2,2,2,2,2,2,2,2,2,2,2]:=by kernel_rfl
theorem Ufs (parts:List (Nat × AV)):Xe Tryz.prog 375 parts=(Ud (apl Tryz.prog 375) [.int .i64 0,.bool false,.bool false,.bool false,.bool false,.bool false,.bool false,.bool false,.bool false,.bool false,.bool false,.bool false,.bool false,.bool false,.bool false,.bool false,.bool false,.bool false,.bool false,.bool false,.bool false,.bool false,.bool false,.bool false,.bool false] parts).map AV.agg:=Uf (by kernel_rfl) (by decide) (by kernel_rfl) parts
theorem Ves:tsa Tryz.prog 377=some (26,true):=by kernel_rfl
theorem Zg7:Uc Tryz.prog 377=none:=by kernel_rfl
theorem Ucp:Yd Tryz.prog 377=false:=by kernel_rfl
theorem Wgr:Ve Tryz.prog 377=none:=by kernel_rfl
theorem Xev:Vd Tryz.prog 377=0:=by kernel_rfl
theorem Xhy:Xg Tryz.prog 377=false:=by kernel_rfl
theorem Xh1:Ye Tryz.prog 377=0:=by kernel_rfl
theorem Xh2:tby Tryz.prog 377=56:=by kernel_rfl
theorem Xdw:tz Tryz.prog 377=some (.agg [.int .i64 0,.bool false,.bool false,.bool false,.bool false,.bool false,.bool false,.bool false,.bool false,.bool false,.bool false,.bool false,.bool false,.bool false,.bool false,.bool false,.bool false,.bool false,.bool false,.bool false,.bool false,.bool false,.bool false,.bool false,.bool false,.nils]):=by kernel_rfl
theorem Zcv:tzk Tryz.prog 377 26=true:=by kernel_rfl
theorem Xhj:Vj Tryz.prog 377 0=some (0,375):=by kernel_rfl
theorem Wgh:apl Tryz.prog 377 0=some (0,25):=by kernel_rfl
theorem Vg7:Vj Tryz.prog 377 1=some (25,32):=by kernel_rfl
theorem Xf4:apl Tryz.prog 377 1=some (25,1):=by kernel_rfl
theorem Zgt (parts:List (Nat × AV)):Xe Tryz.prog 377 parts=(Ud (apl Tryz.prog 377) [.int .i64 0,.bool false,.bool false,.bool false,.bool false,.bool false,.bool false,.bool false,.bool false,.bool false,.bool false,.bool false,.bool false,.bool false,.bool false,.bool false,.bool false,.bool false,.bool false,.bool false,.bool false,.bool false,.bool false,.bool false,.bool false,.nils] parts).map AV.agg:=Uf (by kernel_rfl) (by decide) (by kernel_rfl) parts
theorem Wee:tsa Tryz.prog 379=some (1,false):=by kernel_rfl
theorem Xe5:Uc Tryz.prog 379=none:=by kernel_rfl
theorem Xhx:Yd Tryz.prog 379=false:=by kernel_rfl
theorem Zhr:Ve Tryz.prog 379=none:=by kernel_rfl
theorem Wfd:Vd Tryz.prog 379=0:=by kernel_rfl
theorem Vgi:Xg Tryz.prog 379=false:=by kernel_rfl
theorem Wc6:Ye Tryz.prog 379=4:=by kernel_rfl
theorem Vd7:tby Tryz.prog 379=8:=by kernel_rfl
theorem Wd3:tz Tryz.prog 379=some (.nilf):=by kernel_rfl
theorem Vcz:tzk Tryz.prog 379 1=true:=by kernel_rfl
theorem Vg6:tsa Tryz.prog 382=some (1,false):=by kernel_rfl
theorem Zfc:Uc Tryz.prog 382=none:=by kernel_rfl
theorem Zcz:Yd Tryz.prog 382=false:=by kernel_rfl
theorem Vfc:Ve Tryz.prog 382=none:=by kernel_rfl
theorem Zg4:Vd Tryz.prog 382=0:=by kernel_rfl
theorem Uc1:Xg Tryz.prog 382=false:=by kernel_rfl
theorem Xc9:Ye Tryz.prog 382=4:=by kernel_rfl
theorem Zff:tby Tryz.prog 382=8:=by kernel_rfl
theorem Wfh:tz Tryz.prog 382=some (.nilf):=by kernel_rfl
theorem Wg3:tzk Tryz.prog 382 1=true:=by kernel_rfl
theorem Yhy:Um Tryz.prog 403=some (20,308):=by kernel_rfl
theorem Yg4:apl Tryz.prog 403 0=some (0,1):=by kernel_rfl
theorem Ue0:apl Tryz.prog 403 1=some (1,1):=by kernel_rfl
theorem Xe0:apl Tryz.prog 403 2=some (2,1):=by kernel_rfl
theorem Why:apl Tryz.prog 403 3=some (3,1):=by kernel_rfl
theorem Ueh:apl Tryz.prog 403 4=some (4,1):=by kernel_rfl
theorem Vhc:apl Tryz.prog 403 5=some (5,1):=by kernel_rfl
theorem Uff:apl Tryz.prog 403 6=some (6,1):=by kernel_rfl
theorem Vfg:apl Tryz.prog 403 7=some (7,1):=by kernel_rfl
theorem Xgw:apl Tryz.prog 403 8=some (8,1):=by kernel_rfl
theorem Vht:apl Tryz.prog 403 9=some (9,1):=by kernel_rfl
theorem Wc9:apl Tryz.prog 403 10=some (10,1):=by kernel_rfl
theorem Wdl:apl Tryz.prog 403 11=some (11,1):=by kernel_rfl
theorem Ud7:apl Tryz.prog 403 12=some (12,1):=by kernel_rfl
theorem Ycp:apl Tryz.prog 403 13=some (13,1):=by kernel_rfl
theorem Uee:apl Tryz.prog 403 14=some (14,1):=by kernel_rfl
theorem Ydx:apl Tryz.prog 403 15=some (15,1):=by kernel_rfl
theorem Ygp:Yk Tryz.prog 403=some [1,1,1,1,1,1,1,1,1,1,1,1,1,1,1,1,1,1,1,1]:=by kernel_rfl
theorem Xez:Xi Tryz.prog 403=some [1,1,1,1,1,1,1,1,1,1,1,1,1,1,1,1,1,1,1,1]:=by kernel_rfl
theorem Xcp (parts:List (Nat × AV)):Xe Tryz.prog 403 parts=(Ud (apl Tryz.prog 403) [.int .u64 0,.int .u64 0,.int .u64 0,.int .u64 0,.int .u64 0,.int .u64 0,.int .u64 0,.int .u64 0,.int .u64 0,.int .u64 0,.int .u64 0,.int .u64 0,.int .u64 0,.int .u64 0,.int .u64 0,.int .u64 0,.int .u64 0,.int .u64 0,.int .u64 0,.int .u64 0] parts).map AV.agg:=Uf (by kernel_rfl) (by decide) (by kernel_rfl) parts
theorem Xds:Um Tryz.prog 404=some (65,5):=by kernel_rfl
theorem Uft:apl Tryz.prog 404 0=some (0,1):=by kernel_rfl
theorem Vgs:apl Tryz.prog 404 1=some (1,1):=by kernel_rfl
theorem Wc5:apl Tryz.prog 404 2=some (2,1):=by kernel_rfl
theorem Uhf:apl Tryz.prog 404 3=some (3,1):=by kernel_rfl
theorem Wdp:apl Tryz.prog 404 4=some (4,1):=by kernel_rfl
theorem Ydz:apl Tryz.prog 404 5=some (5,1):=by kernel_rfl
theorem Ygl:apl Tryz.prog 404 6=some (6,1):=by kernel_rfl
theorem Zee:apl Tryz.prog 404 7=some (7,1):=by kernel_rfl
theorem Wd4:apl Tryz.prog 404 8=some (8,1):=by kernel_rfl
theorem Uc0:apl Tryz.prog 404 9=some (9,1):=by kernel_rfl
theorem Zex:apl Tryz.prog 404 10=some (10,1):=by kernel_rfl
theorem Xcs:apl Tryz.prog 404 11=some (11,1):=by kernel_rfl
theorem Xd5:apl Tryz.prog 404 12=some (12,1):=by kernel_rfl
theorem Ze2:apl Tryz.prog 404 13=some (13,1):=by kernel_rfl
theorem Vdp:apl Tryz.prog 404 14=some (14,1):=by kernel_rfl
theorem Vc5:apl Tryz.prog 404 15=some (15,1):=by kernel_rfl
theorem Xcq:Yk Tryz.prog 404=some [1,1,1,1,1,1,1,1,1,1,1,1,1,1,1,1,1,1,1,1,1,1,1,1,1,1,1,1,1,1,1,1,1,1,1,1,1,1,1,1,1,1,1,1,1,1,1,1,1,1,1,1,1,1,1,1,1,1,1,1,1,1,1,1,1]:=by kernel_rfl
theorem Wfq:Xi Tryz.prog 404=some [1,1,1,1,1,1,1,1,1,1,1,1,1,1,1,1,1,1,1,1,1,1,1,1,1,1,1,1,1,1,1,1,1,1,1,1,1,1,1,1,1,1,1,1,1,1,1,1,1,1,1,1,1,1,1,1,1,1,1,1,1,1,1,1,1]:=by kernel_rfl
theorem Yet:Xi Tryz.prog 411=some [3]:=by kernel_rfl
theorem Uc2:tsa Tryz.prog 414=some (1,false):=by kernel_rfl
theorem Wgy:Uc Tryz.prog 414=none:=by kernel_rfl
theorem Yfg:Yd Tryz.prog 414=false:=by kernel_rfl
theorem Ycz:Ve Tryz.prog 414=none:=by kernel_rfl
theorem Wg8:Vd Tryz.prog 414=0:=by kernel_rfl
theorem Ydl:Xg Tryz.prog 414=false:=by kernel_rfl
theorem Uc5:Ye Tryz.prog 414=4:=by kernel_rfl
theorem Ze6:tby Tryz.prog 414=8:=by kernel_rfl
theorem Ygu:tz Tryz.prog 414=some (.nilf):=by kernel_rfl
theorem Vf5:tzk Tryz.prog 414 1=true:=by kernel_rfl
theorem Xgj:tsa Tryz.prog 426=some (1,false):=by kernel_rfl
theorem Ugf:Uc Tryz.prog 426=none:=by kernel_rfl
theorem Vha:Yd Tryz.prog 426=false:=by kernel_rfl
theorem Yhi:Ve Tryz.prog 426=none:=by kernel_rfl
theorem Ven:Vd Tryz.prog 426=0:=by kernel_rfl
theorem Xet:Xg Tryz.prog 426=false:=by kernel_rfl
theorem Yho:Ye Tryz.prog 426=4:=by kernel_rfl
theorem Zhu:tby Tryz.prog 426=8:=by kernel_rfl
theorem Xd7:tz Tryz.prog 426=some (.nilf):=by kernel_rfl
theorem Vhm:tzk Tryz.prog 426 1=true:=by kernel_rfl
theorem Vhe:Um Tryz.prog 429=some (32,5):=by kernel_rfl
theorem Yg9:apl Tryz.prog 429 0=some (0,1):=by kernel_rfl
theorem Uh2:apl Tryz.prog 429 1=some (1,1):=by kernel_rfl
theorem Xgs:apl Tryz.prog 429 2=some (2,1):=by kernel_rfl
theorem Ygm:apl Tryz.prog 429 3=some (3,1):=by kernel_rfl
theorem Yef:apl Tryz.prog 429 4=some (4,1):=by kernel_rfl
theorem Wgp:apl Tryz.prog 429 5=some (5,1):=by kernel_rfl
theorem Wgv:apl Tryz.prog 429 6=some (6,1):=by kernel_rfl
theorem Zhn:apl Tryz.prog 429 7=some (7,1):=by kernel_rfl
theorem Xd8:apl Tryz.prog 429 8=some (8,1):=by kernel_rfl
theorem Zfw:apl Tryz.prog 429 9=some (9,1):=by kernel_rfl
theorem Xdv:apl Tryz.prog 429 10=some (10,1):=by kernel_rfl
theorem Whx:apl Tryz.prog 429 11=some (11,1):=by kernel_rfl
theorem Vfk:apl Tryz.prog 429 12=some (12,1):=by kernel_rfl
theorem Xf7:apl Tryz.prog 429 13=some (13,1):=by kernel_rfl
theorem Wdb:apl Tryz.prog 429 14=some (14,1):=by kernel_rfl
theorem Xgm:apl Tryz.prog 429 15=some (15,1):=by kernel_rfl
theorem Zd6:Yk Tryz.prog 429=some [1,1,1,1,1,1,1,1,1,1,1,1,1,1,1,1,1,1,1,1,1,1,1,1,1,1,1,1,1,1,1,1]:=by kernel_rfl
theorem We3:Xi Tryz.prog 429=some [1,1,1,1,1,1,1,1,1,1,1,1,1,1,1,1,1,1,1,1,1,1,1,1,1,1,1,1,1,1,1,1]:=by kernel_rfl
theorem Xdn (parts:List (Nat × AV)):Xe Tryz.prog 429 parts=(Ud (apl Tryz.prog 429) [.int .u8 0,.int .u8 0,.int .u8 0,.int .u8 0,.int .u8 0,.int .u8 0,.int .u8 0,.int .u8 0,.int .u8 0,.int .u8 0,.int .u8 0,.int .u8 0,.int .u8 0,.int .u8 0,.int .u8 0,.int .u8 0,.int .u8 0,.int .u8 0,.int .u8 0,.int .u8 0,.int .u8 0,.int .u8 0,.int .u8 0,.int .u8 0,.int .u8 0,.int .u8 0,.int .u8 0,.int .u8 0,.int .u8 0,.int .u8 0,.int .u8 0,.int .u8 0] parts).map AV.agg:=Uf (by kernel_rfl) (by decide) (by kernel_rfl) parts
theorem Wgn:Um Tryz.prog 430=some (64,5):=by kernel_rfl
theorem Xfy:apl Tryz.prog 430 0=some (0,1):=by kernel_rfl
theorem Uea:apl Tryz.prog 430 1=some (1,1):=by kernel_rfl
theorem Vhb:apl Tryz.prog 430 2=some (2,1):=by kernel_rfl
theorem Yei:apl Tryz.prog 430 3=some (3,1):=by kernel_rfl
theorem Yga:apl Tryz.prog 430 4=some (4,1):=by kernel_rfl
theorem Ydp:apl Tryz.prog 430 5=some (5,1):=by kernel_rfl
theorem Zcu:apl Tryz.prog 430 6=some (6,1):=by kernel_rfl
theorem Xda:apl Tryz.prog 430 7=some (7,1):=by kernel_rfl
theorem Xgg:apl Tryz.prog 430 8=some (8,1):=by kernel_rfl
theorem Xgk:apl Tryz.prog 430 9=some (9,1):=by kernel_rfl
theorem Wfk:apl Tryz.prog 430 10=some (10,1):=by kernel_rfl
theorem Ygb:apl Tryz.prog 430 11=some (11,1):=by kernel_rfl
theorem Zfx:apl Tryz.prog 430 12=some (12,1):=by kernel_rfl
theorem Xf8:apl Tryz.prog 430 13=some (13,1):=by kernel_rfl
theorem Wgj:apl Tryz.prog 430 14=some (14,1):=by kernel_rfl
theorem Yg7:apl Tryz.prog 430 15=some (15,1):=by kernel_rfl
theorem Yes:Yk Tryz.prog 430=some [1,1,1,1,1,1,1,1,1,1,1,1,1,1,1,1,1,1,1,1,1,1,1,1,1,1,1,1,1,1,1,1,1,1,1,1,1,1,1,1,1,1,1,1,1,1,1,1,1,1,1,1,1,1,1,1,1,1,1,1,1,1,1,1]:=by kernel_rfl
theorem Xe1:Xi Tryz.prog 430=some [1,1,1,1,1,1,1,1,1,1,1,1,1,1,1,1,1,1,1,1,1,1,1,1,1,1,1,1,1,1,1,1,1,1,1,1,1,1,1,1,1,1,1,1,1,1,1,1,1,1,1,1,1,1,1,1,1,1,1,1,1,1,1,1]:=by kernel_rfl
theorem Zgd (parts:List (Nat × AV)):Xe Tryz.prog 430 parts=(Ud (apl Tryz.prog 430) [.int .u8 0,.int .u8 0,.int .u8 0,.int .u8 0,.int .u8 0,.int .u8 0,.int .u8 0,.int .u8 0,.int .u8 0,.int .u8 0,.int .u8 0,.int .u8 0,.int .u8 0,.int .u8 0,.int .u8 0,.int .u8 0,.int .u8 0,.int .u8 0,.int .u8 0,.int .u8 0,.int .u8 0,.int .u8 0,.int .u8 0,.int .u8 0,.int .u8 0,.int .u8 0,.int .u8 0,.int .u8 0,.int .u8 0,.int .u8 0,.int .u8 0,.int .u8 0,.int .u8 0,.int .u8 0,.int .u8 0,.int .u8 0,.int .u8 0,.int .u8 0,.int .u8 0,.int .u8 0,.int .u8 0,.int .u8 0,.int .u8 0,.int .u8 0,.int .u8 0,.int .u8 0,.int .u8 0,.int .u8 0,.int .u8 0,.int .u8 0,.int .u8 0,.int .u8 0,.int .u8 0,.int .u8 0,.int .u8 0,.int .u8 0,.int .u8 0,.int .u8 0,.int .u8 0,.int .u8 0,.int .u8 0,.int .u8 0,.int .u8 0,.int .u8 0] parts).map AV.agg:=Uf (by kernel_rfl) (by decide) (by kernel_rfl) parts
attribute [simp] Vgb Vfe Vfn Xfz Vdy Yhp Vh2 Zc8 Xd6 Uc7 Zea Yfp Vcp Xgz Wf8 Xh6 Zh2 Zcp Ygd Uhy Zgu Zcw Ufv Yek Vcu Yds Zht Zf4 Vdh We1 Xgx Wc1 Ud8 Zg8 Whs Ueu Uht Ud9 Wc2 Uhp Xfi Zfb Yc2 Vgl Vfw Wgg Wdx Vhy Ugm Ydw Vdl Xg0 Uf8 Zhq Xcz Uf7 Vdm Zhk Xee Xej Zcx Wg9 Ueg Xh3 Ygf Zhg Weo Uhb Xh4 Zdl Zho Ued Yfk Vfj Zcq Vg2 Vhd Xdm Vg3 Zgp Xfr Zgq Zfm Xhf Zdx Zfk Ydm Ug3 Yfh Uc6 Udf Zei Whb Yhn Whn Wgi Zeu Ydd Vh5 Xc5 Zc4 Zdg Vgv Yhb Zgw Uec Wft Vff Xho Ufc Xge Zdk We4 Xe8 Vft Xf1 Zg9 Wec Zg2 Zcs Xhe Uh4 Ygn Uej Wew Vga Xhv Vh0 Zec Wfr Vh4 We6 Zgr Uh1 Yeq Uhs Vhp Vc0 Vc2 Wcw Ufd Yev Xei Xfb Wfw Wha Xg2 Ufk Ydg We7 Yhh Xhh Xg9 Xga Xgf Yf1 Xe2 Wev Wgt Yep Uc3 Ueq Ugo Wcu Zfy Wh0 Xd9 Vgx Xc7 Zhi Wff Yfc Udr Wdt Xgo Yg0 Yhs Wfl Vf7 Ycq Zdo Zds Ugq Udz Wh2 Yd0 Xff Vdg Ufy Ugd Wdd Xhk Whf Zfd Vge Vgj Zd7 Uem Xfu Wfa Xex Yc4 Wh3 Vcr Vhq Xg7 Ycy Ydr Zeh Yfz Vf3 Wf9 Zh5 Wc7 Zgv Uhd Ydn Ygi Xed Wf3 Ufq Yf6 Uez Zhy Yeg Vdz Zgs Whm Zct Zgm Ueb Yde Xg3 Whg Vhz Ufn Wfg Vcw Vdr Uhh Xhg Ygq Xgy Vf2 Yej Vf0 Xdu Zf8 Zh4 We2 Vd4 Zen Xd4 Wet Wfz Ufb Vf9 Wcz Xf9 Zgg Udd Yfn Uha Udp Wfi Udo Ydo Zd9 Xc2 Uga Vgg Xgl Yfy Xen Vdj Xg6 Xdq Vfr Whh Uf3 Wg4 Zh3 Zd4 Wh1 Vep Uct Ze7 Zha Vfq Xdb Xef Wez Wdc Ufw Wdy Ud1 Vd5 Ygy Xf6 Vc3 Uf1 Zg6 Zgl Yhl Xfl Ue1 Wd7 Vdo Wdg Ufs Ves Zg7 Ucp Wgr Xev Xhy Xh1 Xh2 Xdw Zcv Xhj Wgh Vg7 Xf4 Zgt Wee Xe5 Xhx Zhr Wfd Vgi Wc6 Vd7 Wd3 Vcz Vg6 Zfc Zcz Vfc Zg4 Uc1 Xc9 Zff Wfh Wg3 Yhy Yg4 Ue0 Xe0 Why Ueh Vhc Uff Vfg Xgw Vht Wc9 Wdl Ud7 Ycp Uee Ydx Ygp Xez Xcp Xds Uft Vgs Wc5 Uhf Wdp Ydz Ygl Zee Wd4 Uc0 Zex Xcs Xd5 Ze2 Vdp Vc5 Xcq Wfq Yet Uc2 Wgy Yfg Ycz Wg8 Ydl Uc5 Ze6 Ygu Vf5 Xgj Ugf Vha Yhi Ven Xet Yho Zhu Xd7 Vhm Vhe Yg9 Uh2 Xgs Ygm Yef Wgp Wgv Zhn Xd8 Zfw Xdv Whx Vfk Xf7 Wdb Xgm Zd6 We3 Xdn Wgn Xfy Uea Vhb Yei Yga Ydp Zcu Xda Xgg Xgk Wfk Ygb Zfx Xf8 Wgj Yg7 Yes Xe1 Zgd
end Ab

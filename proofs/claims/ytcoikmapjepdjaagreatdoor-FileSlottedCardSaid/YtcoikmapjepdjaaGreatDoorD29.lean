/-
  Texts packed for a claim.
-/
import Derived.Test.YtcoikmapjepdjaaGreatDoorD04
set_option linter.all false
namespace Ab
open Go Go.Proofs
theorem Yf9:tsa Tryz.prog 97=some (1,false):=by kernel_rfl
theorem Zez:Yd Tryz.prog 97=some 38:=by kernel_rfl
theorem Zga:Wd Tryz.prog 97=false:=by kernel_rfl
theorem Zeu:Vf Tryz.prog 97=none:=by kernel_rfl
theorem Ufc:Ud Tryz.prog 97=0:=by kernel_rfl
theorem Xc1:Yh Tryz.prog 97=false:=by kernel_rfl
theorem Zdj:Xe Tryz.prog 97=2:=by kernel_rfl
theorem Zcv:tby Tryz.prog 97=24:=by kernel_rfl
theorem Whf:tz Tryz.prog 97=some (.nils):=by kernel_rfl
theorem Vc5:tzk Tryz.prog 97 1=true:=by kernel_rfl
theorem Zgy:tsa Tryz.prog 98=some (1,false):=by kernel_rfl
theorem Wfh:Yd Tryz.prog 98=some 108:=by kernel_rfl
theorem Xd8:Wd Tryz.prog 98=false:=by kernel_rfl
theorem Ufq:Vf Tryz.prog 98=none:=by kernel_rfl
theorem Zg1:Ud Tryz.prog 98=0:=by kernel_rfl
theorem Xfm:Yh Tryz.prog 98=false:=by kernel_rfl
theorem Ydz:Xe Tryz.prog 98=2:=by kernel_rfl
theorem Wc4:tby Tryz.prog 98=24:=by kernel_rfl
theorem Ye0:tz Tryz.prog 98=some (.nils):=by kernel_rfl
theorem Wfn:tzk Tryz.prog 98 1=true:=by kernel_rfl
theorem Wgt:tsa Tryz.prog 100=some (5,true):=by kernel_rfl
theorem Wfp:Yd Tryz.prog 100=none:=by kernel_rfl
theorem Vem:Wd Tryz.prog 100=false:=by kernel_rfl
theorem Yez:Vf Tryz.prog 100=none:=by kernel_rfl
theorem Wda:Ud Tryz.prog 100=0:=by kernel_rfl
theorem Xfo:Yh Tryz.prog 100=false:=by kernel_rfl
theorem Ygb:Xe Tryz.prog 100=0:=by kernel_rfl
theorem Zhc:tby Tryz.prog 100=88:=by kernel_rfl
theorem Xgq:tz Tryz.prog 100=some (.agg [.int .i64 0,.int .i64 0,.nils,.nils,.nils]):=by kernel_rfl
theorem Zd0:tzk Tryz.prog 100 5=true:=by kernel_rfl
theorem Vc8:Xk Tryz.prog 100 0=some (0,3):=by kernel_rfl
theorem Yew:apl Tryz.prog 100 0=some (0,1):=by kernel_rfl
theorem Yf0:Xk Tryz.prog 100 1=some (1,3):=by kernel_rfl
theorem Ug9:apl Tryz.prog 100 1=some (1,1):=by kernel_rfl
theorem Uet:Xk Tryz.prog 100 2=some (2,97):=by kernel_rfl
theorem Udy:apl Tryz.prog 100 2=some (2,1):=by kernel_rfl
theorem Ug7:Xk Tryz.prog 100 3=some (3,32):=by kernel_rfl
theorem Zeq:apl Tryz.prog 100 3=some (3,1):=by kernel_rfl
theorem Uem:Xk Tryz.prog 100 4=some (4,98):=by kernel_rfl
theorem Zea:apl Tryz.prog 100 4=some (4,1):=by kernel_rfl
theorem Zc3 (parts:List (Nat × AV)):Zh Tryz.prog 100 parts=(Xg (apl Tryz.prog 100) [.int .i64 0,.int .i64 0,.nils,.nils,.nils] parts).map AV.agg:=Xi (by kernel_rfl) (by decide) (by kernel_rfl) parts
theorem Xea:tsa Tryz.prog 108=some (3,true):=by kernel_rfl
theorem Ygj:Yd Tryz.prog 108=none:=by kernel_rfl
theorem Wc0:Wd Tryz.prog 108=false:=by kernel_rfl
theorem Ueh:Vf Tryz.prog 108=none:=by kernel_rfl
theorem Zc5:Ud Tryz.prog 108=0:=by kernel_rfl
theorem Vfe:Yh Tryz.prog 108=false:=by kernel_rfl
theorem Vdr:Xe Tryz.prog 108=0:=by kernel_rfl
theorem Ueg:tby Tryz.prog 108=24:=by kernel_rfl
theorem Vds:tz Tryz.prog 108=some (.agg [.int .i64 0,.int .i64 0,.int .i64 0]):=by kernel_rfl
theorem Ygu:tzk Tryz.prog 108 3=true:=by kernel_rfl
theorem Udk:Xk Tryz.prog 108 0=some (0,3):=by kernel_rfl
theorem Ud7:apl Tryz.prog 108 0=some (0,1):=by kernel_rfl
theorem Wgs:Xk Tryz.prog 108 1=some (1,3):=by kernel_rfl
theorem Vc3:apl Tryz.prog 108 1=some (1,1):=by kernel_rfl
theorem Wff:Xk Tryz.prog 108 2=some (2,3):=by kernel_rfl
theorem Wcz:apl Tryz.prog 108 2=some (2,1):=by kernel_rfl
theorem Wd3:Vm Tryz.prog 108=some [1,1,1]:=by kernel_rfl
theorem Xeq:Yk Tryz.prog 108=some [1,1,1]:=by kernel_rfl
theorem Xff (parts:List (Nat × AV)):Zh Tryz.prog 108 parts=(Xg (apl Tryz.prog 108) [.int .i64 0,.int .i64 0,.int .i64 0] parts).map AV.agg:=Xi (by kernel_rfl) (by decide) (by kernel_rfl) parts
theorem Zhg:tsa Tryz.prog 109=some (1,false):=by kernel_rfl
theorem Xe7:Yd Tryz.prog 109=some 112:=by kernel_rfl
theorem Xez:Wd Tryz.prog 109=false:=by kernel_rfl
theorem Xgv:Vf Tryz.prog 109=none:=by kernel_rfl
theorem Vd7:Ud Tryz.prog 109=0:=by kernel_rfl
theorem Xed:Yh Tryz.prog 109=false:=by kernel_rfl
theorem Yf5:Xe Tryz.prog 109=2:=by kernel_rfl
theorem Wcy:tby Tryz.prog 109=24:=by kernel_rfl
theorem Uc7:tz Tryz.prog 109=some (.nils):=by kernel_rfl
theorem Ze3:tzk Tryz.prog 109 1=true:=by kernel_rfl
theorem Zdm:tsa Tryz.prog 112=some (1,false):=by kernel_rfl
theorem Ye8:Yd Tryz.prog 112=some 113:=by kernel_rfl
theorem Ycz:Wd Tryz.prog 112=false:=by kernel_rfl
theorem Xhn:Vf Tryz.prog 112=none:=by kernel_rfl
theorem Xg9:Ud Tryz.prog 112=0:=by kernel_rfl
theorem Xdr:Yh Tryz.prog 112=false:=by kernel_rfl
theorem Ucr:Xe Tryz.prog 112=2:=by kernel_rfl
theorem Uc8:tby Tryz.prog 112=24:=by kernel_rfl
theorem Yc0:tz Tryz.prog 112=some (.nils):=by kernel_rfl
theorem Wf4:tzk Tryz.prog 112 1=true:=by kernel_rfl
theorem Ueb:tsa Tryz.prog 113=some (1,false):=by kernel_rfl
theorem Yfe:Yd Tryz.prog 113=none:=by kernel_rfl
theorem Ygp:Wd Tryz.prog 113=false:=by kernel_rfl
theorem Yft:Vf Tryz.prog 113=some .i64:=by kernel_rfl
theorem Ud9:Ud Tryz.prog 113=1:=by kernel_rfl
theorem Vf4:Yh Tryz.prog 113=false:=by kernel_rfl
theorem Uc4:Xe Tryz.prog 113=0:=by kernel_rfl
theorem Yhb:tby Tryz.prog 113=8:=by kernel_rfl
theorem Ud6:tz Tryz.prog 113=some (.int .i64 0):=by kernel_rfl
theorem Zdp:tzk Tryz.prog 113 1=true:=by kernel_rfl
theorem Uez:tsa Tryz.prog 118=some (1,false):=by kernel_rfl
theorem Zdi:Yd Tryz.prog 118=some 122:=by kernel_rfl
theorem Uey:Wd Tryz.prog 118=false:=by kernel_rfl
theorem Wcu:Vf Tryz.prog 118=none:=by kernel_rfl
theorem Ye7:Ud Tryz.prog 118=0:=by kernel_rfl
theorem Zf9:Yh Tryz.prog 118=false:=by kernel_rfl
theorem Yc3:Xe Tryz.prog 118=2:=by kernel_rfl
theorem Wge:tby Tryz.prog 118=24:=by kernel_rfl
theorem Zcn:tz Tryz.prog 118=some (.nils):=by kernel_rfl
theorem Yhe:tzk Tryz.prog 118 1=true:=by kernel_rfl
theorem Weu:tsa Tryz.prog 122=some (3,true):=by kernel_rfl
theorem Ud4:Yd Tryz.prog 122=none:=by kernel_rfl
theorem Yd1:Wd Tryz.prog 122=false:=by kernel_rfl
theorem Vg1:Vf Tryz.prog 122=none:=by kernel_rfl
theorem Vgr:Ud Tryz.prog 122=0:=by kernel_rfl
theorem Whe:Yh Tryz.prog 122=false:=by kernel_rfl
theorem Zcu:Xe Tryz.prog 122=0:=by kernel_rfl
theorem Xfk:tby Tryz.prog 122=24:=by kernel_rfl
theorem Wde:tz Tryz.prog 122=some (.agg [.int .i64 0,.int .i64 0,.bool false]):=by kernel_rfl
theorem Uex:tzk Tryz.prog 122 3=true:=by kernel_rfl
theorem Vcp:Xk Tryz.prog 122 0=some (0,3):=by kernel_rfl
theorem Ugk:apl Tryz.prog 122 0=some (0,1):=by kernel_rfl
theorem Xd6:Xk Tryz.prog 122 1=some (1,3):=by kernel_rfl
theorem Wdl:apl Tryz.prog 122 1=some (1,1):=by kernel_rfl
theorem Vd3:Xk Tryz.prog 122 2=some (2,4):=by kernel_rfl
theorem Xf6:apl Tryz.prog 122 2=some (2,1):=by kernel_rfl
theorem Zgk:Vm Tryz.prog 122=some [1,1,2]:=by kernel_rfl
theorem Ugq:Yk Tryz.prog 122=some [1,1,2]:=by kernel_rfl
theorem Ugd (parts:List (Nat × AV)):Zh Tryz.prog 122 parts=(Xg (apl Tryz.prog 122) [.int .i64 0,.int .i64 0,.bool false] parts).map AV.agg:=Xi (by kernel_rfl) (by decide) (by kernel_rfl) parts
theorem Zdr:Wq Tryz.prog 211=some (2,3):=by kernel_rfl
theorem Zc2:apl Tryz.prog 211 0=some (0,1):=by kernel_rfl
theorem Vho:apl Tryz.prog 211 1=some (1,1):=by kernel_rfl
theorem Xcp:Vm Tryz.prog 211=some [1,1]:=by kernel_rfl
theorem Zem:Yk Tryz.prog 211=some [1,1]:=by kernel_rfl
theorem Yds (parts:List (Nat × AV)):Zh Tryz.prog 211 parts=(Xg (apl Tryz.prog 211) [.int .i64 0,.int .i64 0] parts).map AV.agg:=Xi (by kernel_rfl) (by decide) (by kernel_rfl) parts
theorem Veo:tsa Tryz.prog 224=some (1,false):=by kernel_rfl
theorem Wgx:Yd Tryz.prog 224=none:=by kernel_rfl
theorem Zdu:Wd Tryz.prog 224=false:=by kernel_rfl
theorem Whm:Vf Tryz.prog 224=none:=by kernel_rfl
theorem Vcx:Ud Tryz.prog 224=0:=by kernel_rfl
theorem Wd1:Yh Tryz.prog 224=false:=by kernel_rfl
theorem Vga:Xe Tryz.prog 224=1:=by kernel_rfl
theorem Vei:tby Tryz.prog 224=8:=by kernel_rfl
theorem Udg:tz Tryz.prog 224=some (.nilp):=by kernel_rfl
theorem Zdv:tzk Tryz.prog 224 1=true:=by kernel_rfl
theorem Ugp:tsa Tryz.prog 225=some (1,false):=by kernel_rfl
theorem Uhg:Yd Tryz.prog 225=some 232:=by kernel_rfl
theorem Xe3:Wd Tryz.prog 225=false:=by kernel_rfl
theorem Vft:Vf Tryz.prog 225=none:=by kernel_rfl
theorem Xfw:Ud Tryz.prog 225=0:=by kernel_rfl
theorem Ugt:Yh Tryz.prog 225=false:=by kernel_rfl
theorem Zeb:Xe Tryz.prog 225=2:=by kernel_rfl
theorem Ve3:tby Tryz.prog 225=24:=by kernel_rfl
theorem Zgi:tz Tryz.prog 225=some (.nils):=by kernel_rfl
theorem Yhp:tzk Tryz.prog 225 1=true:=by kernel_rfl
theorem Vd1:tsa Tryz.prog 228=some (4,true):=by kernel_rfl
theorem Xd4:Yd Tryz.prog 228=none:=by kernel_rfl
theorem Yc2:Wd Tryz.prog 228=false:=by kernel_rfl
theorem Vf3:Vf Tryz.prog 228=none:=by kernel_rfl
theorem Udx:Ud Tryz.prog 228=0:=by kernel_rfl
theorem Yga:Yh Tryz.prog 228=false:=by kernel_rfl
theorem Vhm:Xe Tryz.prog 228=0:=by kernel_rfl
theorem Wfl:tby Tryz.prog 228=4:=by kernel_rfl
theorem Zf4:tz Tryz.prog 228=some (.agg [.bool false,.bool false,.bool false,.bool false]):=by kernel_rfl
theorem Vdo:tzk Tryz.prog 228 4=true:=by kernel_rfl
theorem Ud8:Wq Tryz.prog 228=some (4,4):=by kernel_rfl
theorem Wfq:apl Tryz.prog 228 0=some (0,1):=by kernel_rfl
theorem Ygt:apl Tryz.prog 228 1=some (1,1):=by kernel_rfl
theorem Ufa:apl Tryz.prog 228 2=some (2,1):=by kernel_rfl
theorem Ud0:apl Tryz.prog 228 3=some (3,1):=by kernel_rfl
theorem Vdv:Vm Tryz.prog 228=some [2,2,2,2]:=by kernel_rfl
theorem Zg6:Yk Tryz.prog 228=some [2,2,2,2]:=by kernel_rfl
theorem Wdd (parts:List (Nat × AV)):Zh Tryz.prog 228 parts=(Xg (apl Tryz.prog 228) [.bool false,.bool false,.bool false,.bool false] parts).map AV.agg:=Xi (by kernel_rfl) (by decide) (by kernel_rfl) parts
theorem Vfk:tsa Tryz.prog 230=some (24,true):=by kernel_rfl
theorem Yd2:Yd Tryz.prog 230=none:=by kernel_rfl
theorem Ycx:Wd Tryz.prog 230=false:=by kernel_rfl
theorem Zd7:Vf Tryz.prog 230=none:=by kernel_rfl
theorem Xf7:Ud Tryz.prog 230=0:=by kernel_rfl
theorem Xeb:Yh Tryz.prog 230=false:=by kernel_rfl
theorem Wek:Xe Tryz.prog 230=0:=by kernel_rfl
theorem Zgd:tby Tryz.prog 230=24:=by kernel_rfl
theorem Ydx:tz Tryz.prog 230=some (.agg [.bool false,.bool false,.bool false,.bool false,.bool false,.bool false,.bool false,.bool false,.bool false,.bool false,.bool false,.bool false,.bool false,.bool false,.bool false,.bool false,.bool false,.bool false,.bool false,.bool false,.bool false,.bool false,.bool false,.bool false]):=by kernel_rfl
theorem Uee:tzk Tryz.prog 230 24=true:=by kernel_rfl
theorem Vex:Wq Tryz.prog 230=some (6,228):=by kernel_rfl
theorem Zc9:apl Tryz.prog 230 0=some (0,4):=by kernel_rfl
theorem Ves:apl Tryz.prog 230 1=some (4,4):=by kernel_rfl
theorem Xhc:apl Tryz.prog 230 2=some (8,4):=by kernel_rfl
theorem Ucv:apl Tryz.prog 230 3=some (12,4):=by kernel_rfl
theorem Xee:apl Tryz.prog 230 4=some (16,4):=by kernel_rfl
theorem Yhf:apl Tryz.prog 230 5=some (20,4):=by kernel_rfl
theorem Ugc:Vm Tryz.prog 230=some [2,2,2,2,2,2,2,2,2,2,2,2,2,2,2,2,2,2,2,2,2,2,2,2]:=by kernel_rfl
theorem Xeu:Yk Tryz.prog 230=some [2,2,2,2,2,2,2,2,2,2,2,2,2,2,2,2,2,2,2,2,2,2,2,2]:=by kernel_rfl
theorem Zes (parts:List (Nat × AV)):Zh Tryz.prog 230 parts=(Xg (apl Tryz.prog 230) [.bool false,.bool false,.bool false,.bool false,.bool false,.bool false,.bool false,.bool false,.bool false,.bool false,.bool false,.bool false,.bool false,.bool false,.bool false,.bool false,.bool false,.bool false,.bool false,.bool false,.bool false,.bool false,.bool false,.bool false] parts).map AV.agg:=Xi (by kernel_rfl) (by decide) (by kernel_rfl) parts
theorem Wc2:tsa Tryz.prog 232=some (25,true):=by kernel_rfl
theorem Zfn:Yd Tryz.prog 232=none:=by kernel_rfl
theorem Ue1:Wd Tryz.prog 232=false:=by kernel_rfl
theorem Ucw:Vf Tryz.prog 232=none:=by kernel_rfl
theorem Wf8:Ud Tryz.prog 232=0:=by kernel_rfl
theorem Zdq:Yh Tryz.prog 232=false:=by kernel_rfl
theorem Ue4:Xe Tryz.prog 232=0:=by kernel_rfl
theorem Whd:tby Tryz.prog 232=48:=by kernel_rfl
theorem Zey:tz Tryz.prog 232=some (.agg [.bool false,.bool false,.bool false,.bool false,.bool false,.bool false,.bool false,.bool false,.bool false,.bool false,.bool false,.bool false,.bool false,.bool false,.bool false,.bool false,.bool false,.bool false,.bool false,.bool false,.bool false,.bool false,.bool false,.bool false,.nils]):=by kernel_rfl
theorem Zdb:tzk Tryz.prog 232 25=true:=by kernel_rfl
theorem Wd6:Xk Tryz.prog 232 0=some (0,230):=by kernel_rfl
theorem Uhc:apl Tryz.prog 232 0=some (0,24):=by kernel_rfl
theorem Whg:Xk Tryz.prog 232 1=some (24,32):=by kernel_rfl
theorem Xgo:apl Tryz.prog 232 1=some (24,1):=by kernel_rfl
theorem Vdm (parts:List (Nat × AV)):Zh Tryz.prog 232 parts=(Xg (apl Tryz.prog 232) [.bool false,.bool false,.bool false,.bool false,.bool false,.bool false,.bool false,.bool false,.bool false,.bool false,.bool false,.bool false,.bool false,.bool false,.bool false,.bool false,.bool false,.bool false,.bool false,.bool false,.bool false,.bool false,.bool false,.bool false,.nils] parts).map AV.agg:=Xi (by kernel_rfl) (by decide) (by kernel_rfl) parts
theorem Xdf:tsa Tryz.prog 240=some (1,false):=by kernel_rfl
theorem Ugb:Yd Tryz.prog 240=none:=by kernel_rfl
theorem Vdb:Wd Tryz.prog 240=false:=by kernel_rfl
theorem Ugy:Vf Tryz.prog 240=none:=by kernel_rfl
theorem Ydq:Ud Tryz.prog 240=0:=by kernel_rfl
theorem Zds:Yh Tryz.prog 240=false:=by kernel_rfl
theorem Zfw:Xe Tryz.prog 240=4:=by kernel_rfl
theorem Wgp:tby Tryz.prog 240=8:=by kernel_rfl
theorem We5:tz Tryz.prog 240=some (.nilf):=by kernel_rfl
theorem Vfw:tzk Tryz.prog 240 1=true:=by kernel_rfl
theorem Zg4:tsa Tryz.prog 260=some (1,false):=by kernel_rfl
theorem Xdv:Yd Tryz.prog 260=none:=by kernel_rfl
theorem Xe6:Wd Tryz.prog 260=false:=by kernel_rfl
theorem Uf3:Vf Tryz.prog 260=none:=by kernel_rfl
theorem Uco:Ud Tryz.prog 260=0:=by kernel_rfl
theorem Yhd:Yh Tryz.prog 260=false:=by kernel_rfl
theorem Wef:Xe Tryz.prog 260=4:=by kernel_rfl
theorem Vev:tby Tryz.prog 260=8:=by kernel_rfl
theorem Zeg:tz Tryz.prog 260=some (.nilf):=by kernel_rfl
theorem Xfp:tzk Tryz.prog 260 1=true:=by kernel_rfl
theorem Zfc:tsa Tryz.prog 348=some (1,false):=by kernel_rfl
theorem Yfq:Yd Tryz.prog 348=none:=by kernel_rfl
theorem Ygx:Wd Tryz.prog 348=false:=by kernel_rfl
theorem Wgm:Vf Tryz.prog 348=none:=by kernel_rfl
theorem Xdj:Ud Tryz.prog 348=0:=by kernel_rfl
theorem Vgj:Yh Tryz.prog 348=false:=by kernel_rfl
theorem Xdx:Xe Tryz.prog 348=4:=by kernel_rfl
theorem Xcy:tby Tryz.prog 348=8:=by kernel_rfl
theorem Udp:tz Tryz.prog 348=some (.nilf):=by kernel_rfl
theorem Zc7:tzk Tryz.prog 348 1=true:=by kernel_rfl
theorem Zgj:tsa Tryz.prog 349=some (1,false):=by kernel_rfl
theorem Vc0:Yd Tryz.prog 349=none:=by kernel_rfl
theorem Vc1:Wd Tryz.prog 349=false:=by kernel_rfl
theorem Yee:Vf Tryz.prog 349=none:=by kernel_rfl
theorem Wc7:Ud Tryz.prog 349=0:=by kernel_rfl
theorem Xet:Yh Tryz.prog 349=false:=by kernel_rfl
theorem Ufm:Xe Tryz.prog 349=4:=by kernel_rfl
theorem Uf2:tby Tryz.prog 349=8:=by kernel_rfl
theorem Zei:tz Tryz.prog 349=some (.nilf):=by kernel_rfl
theorem Veu:tzk Tryz.prog 349 1=true:=by kernel_rfl
theorem Xgs:Wq Tryz.prog 352=some (24,5):=by kernel_rfl
theorem Zgg:apl Tryz.prog 352 0=some (0,1):=by kernel_rfl
theorem Wc5:apl Tryz.prog 352 1=some (1,1):=by kernel_rfl
theorem Yf4:apl Tryz.prog 352 2=some (2,1):=by kernel_rfl
theorem Wdq:apl Tryz.prog 352 3=some (3,1):=by kernel_rfl
theorem Zgq:apl Tryz.prog 352 4=some (4,1):=by kernel_rfl
theorem Zgv:apl Tryz.prog 352 5=some (5,1):=by kernel_rfl
theorem Ude:apl Tryz.prog 352 6=some (6,1):=by kernel_rfl
theorem Wfz:apl Tryz.prog 352 7=some (7,1):=by kernel_rfl
theorem Zfv:apl Tryz.prog 352 8=some (8,1):=by kernel_rfl
theorem Xha:apl Tryz.prog 352 9=some (9,1):=by kernel_rfl
theorem Zgx:apl Tryz.prog 352 10=some (10,1):=by kernel_rfl
theorem Wfb:apl Tryz.prog 352 11=some (11,1):=by kernel_rfl
theorem Uew:apl Tryz.prog 352 12=some (12,1):=by kernel_rfl
theorem Vgp:apl Tryz.prog 352 13=some (13,1):=by kernel_rfl
theorem Zg8:apl Tryz.prog 352 14=some (14,1):=by kernel_rfl
theorem Zcq:apl Tryz.prog 352 15=some (15,1):=by kernel_rfl
theorem Xg3:Vm Tryz.prog 352=some [1,1,1,1,1,1,1,1,1,1,1,1,1,1,1,1,1,1,1,1,1,1,1,1]:=by kernel_rfl
theorem Zd9:Yk Tryz.prog 352=some [1,1,1,1,1,1,1,1,1,1,1,1,1,1,1,1,1,1,1,1,1,1,1,1]:=by kernel_rfl
theorem Zcw (parts:List (Nat × AV)):Zh Tryz.prog 352 parts=(Xg (apl Tryz.prog 352) [.int .u8 0,.int .u8 0,.int .u8 0,.int .u8 0,.int .u8 0,.int .u8 0,.int .u8 0,.int .u8 0,.int .u8 0,.int .u8 0,.int .u8 0,.int .u8 0,.int .u8 0,.int .u8 0,.int .u8 0,.int .u8 0,.int .u8 0,.int .u8 0,.int .u8 0,.int .u8 0,.int .u8 0,.int .u8 0,.int .u8 0,.int .u8 0] parts).map AV.agg:=Xi (by kernel_rfl) (by decide) (by kernel_rfl) parts
theorem Ugr:Yk Tryz.prog 363=some [3]:=by kernel_rfl
theorem Vfn:tsa Tryz.prog 371=some (5,true):=by kernel_rfl
theorem Xc5:Yd Tryz.prog 371=none:=by kernel_rfl
theorem Zfg:Wd Tryz.prog 371=false:=by kernel_rfl
theorem Yer:Vf Tryz.prog 371=none:=by kernel_rfl
theorem Zet:Ud Tryz.prog 371=0:=by kernel_rfl
theorem Xe9:Yh Tryz.prog 371=false:=by kernel_rfl
theorem Wfm:Xe Tryz.prog 371=0:=by kernel_rfl
theorem Zfl:tby Tryz.prog 371=88:=by kernel_rfl
theorem Wfd:tz Tryz.prog 371=some (.agg [.int .i64 0,.int .i64 0,.nils,.nils,.nils]):=by kernel_rfl
theorem Yde:tzk Tryz.prog 371 5=true:=by kernel_rfl
theorem Zgn:Xk Tryz.prog 371 0=some (0,100):=by kernel_rfl
theorem Wf6:apl Tryz.prog 371 0=some (0,5):=by kernel_rfl
theorem Ygg (parts:List (Nat × AV)):Zh Tryz.prog 371 parts=(Xg (apl Tryz.prog 371) [.int .i64 0,.int .i64 0,.nils,.nils,.nils] parts).map AV.agg:=Xi (by kernel_rfl) (by decide) (by kernel_rfl) parts
theorem Yg4:tsa Tryz.prog 372=some (1,false):=by kernel_rfl
theorem Whb:Yd Tryz.prog 372=some 377:=by kernel_rfl
theorem Xco:Wd Tryz.prog 372=false:=by kernel_rfl
theorem Zfd:Vf Tryz.prog 372=none:=by kernel_rfl
theorem Vf1:Ud Tryz.prog 372=0:=by kernel_rfl
theorem Xdq:Yh Tryz.prog 372=false:=by kernel_rfl
theorem Ufo:Xe Tryz.prog 372=2:=by kernel_rfl
theorem Wfw:tby Tryz.prog 372=24:=by kernel_rfl
theorem Xgl:tz Tryz.prog 372=some (.nils):=by kernel_rfl
theorem Xgc:tzk Tryz.prog 372 1=true:=by kernel_rfl
theorem Xej:tsa Tryz.prog 373=some (1,false):=by kernel_rfl
theorem Ug1:Yd Tryz.prog 373=none:=by kernel_rfl
theorem Zco:Wd Tryz.prog 373=false:=by kernel_rfl
theorem Ygr:Vf Tryz.prog 373=none:=by kernel_rfl
theorem Zgw:Ud Tryz.prog 373=0:=by kernel_rfl
theorem Zhm:Yh Tryz.prog 373=false:=by kernel_rfl
theorem Ueo:Xe Tryz.prog 373=3:=by kernel_rfl
theorem Ycn:tby Tryz.prog 373=8:=by kernel_rfl
theorem Yeg:tz Tryz.prog 373=some (.nilm):=by kernel_rfl
theorem Xen:tzk Tryz.prog 373 1=true:=by kernel_rfl
theorem Wfj:Yv Tryz.prog 373=some (375,4):=by kernel_rfl
theorem Yd4:tsa Tryz.prog 375=some (25,true):=by kernel_rfl
theorem Xde:Yd Tryz.prog 375=none:=by kernel_rfl
theorem Uge:Wd Tryz.prog 375=false:=by kernel_rfl
theorem Yc6:Vf Tryz.prog 375=none:=by kernel_rfl
theorem Zf0:Ud Tryz.prog 375=0:=by kernel_rfl
theorem Udh:Yh Tryz.prog 375=false:=by kernel_rfl
theorem Uct:Xe Tryz.prog 375=0:=by kernel_rfl
theorem Whk:tby Tryz.prog 375=32:=by kernel_rfl
theorem Udu:tz Tryz.prog 375=some (.agg [.int .i64 0,.bool false,.bool false,.bool false,.bool false,.bool false,.bool false,.bool false,.bool false,.bool false,.bool false,.bool false,.bool false,.bool false,.bool false,.bool false,.bool false,.bool false,.bool false,.bool false,.bool false,.bool false,.bool false,.bool false,.bool false]):=by kernel_rfl
theorem Wdh:tzk Tryz.prog 375 25=true:=by kernel_rfl
theorem Xec:Xk Tryz.prog 375 0=some (0,3):=by kernel_rfl
theorem Vdi:apl Tryz.prog 375 0=some (0,1):=by kernel_rfl
theorem Ydk:Xk Tryz.prog 375 1=some (1,230):=by kernel_rfl
theorem Udl:apl Tryz.prog 375 1=some (1,24):=by kernel_rfl
theorem Ygy:Vm Tryz.prog 375=some [1,2,2,2,2,2,2,2,2,2,2,2,2,2,2,2,2,2,2,2,2,2,2,2,2]:=by kernel_rfl
theorem Vgq:Yk Tryz.prog 375=some [1,2,2,2,2,2,2,2,2,2,2,2,2,2,2,2,2,2,2,2,2,2,2,2,2]:=by kernel_rfl
theorem Yf3 (parts:List (Nat × AV)):Zh Tryz.prog 375 parts=(Xg (apl Tryz.prog 375) [.int .i64 0,.bool false,.bool false,.bool false,.bool false,.bool false,.bool false,.bool false,.bool false,.bool false,.bool false,.bool false,.bool false,.bool false,.bool false,.bool false,.bool false,.bool false,.bool false,.bool false,.bool false,.bool false,.bool false,.bool false,.bool false] parts).map AV.agg:=Xi (by kernel_rfl) (by decide) (by kernel_rfl) parts
theorem Wg1:tsa Tryz.prog 377=some (26,true):=by kernel_rfl
theorem Wd0:Yd Tryz.prog 377=none:=by kernel_rfl
theorem Ze4:Wd Tryz.prog 377=false:=by kernel_rfl
theorem Zfu:Vf Tryz.prog 377=none:=by kernel_rfl
theorem Vg2:Ud Tryz.prog 377=0:=by kernel_rfl
theorem Wcp:Yh Tryz.prog 377=false:=by kernel_rfl
theorem Vgc:Xe Tryz.prog 377=0:=by kernel_rfl
theorem Ydn:tby Tryz.prog 377=56:=by kernel_rfl
theorem Uff:tz Tryz.prog 377=some (.agg [.int .i64 0,.bool false,.bool false,.bool false,.bool false,.bool false,.bool false,.bool false,.bool false,.bool false,.bool false,.bool false,.bool false,.bool false,.bool false,.bool false,.bool false,.bool false,.bool false,.bool false,.bool false,.bool false,.bool false,.bool false,.bool false,.nils]):=by kernel_rfl
theorem Zgm:tzk Tryz.prog 377 26=true:=by kernel_rfl
theorem Yfx:Xk Tryz.prog 377 0=some (0,375):=by kernel_rfl
theorem Ugg:apl Tryz.prog 377 0=some (0,25):=by kernel_rfl
theorem Vcq:Xk Tryz.prog 377 1=some (25,32):=by kernel_rfl
theorem Wdk:apl Tryz.prog 377 1=some (25,1):=by kernel_rfl
theorem Vep (parts:List (Nat × AV)):Zh Tryz.prog 377 parts=(Xg (apl Tryz.prog 377) [.int .i64 0,.bool false,.bool false,.bool false,.bool false,.bool false,.bool false,.bool false,.bool false,.bool false,.bool false,.bool false,.bool false,.bool false,.bool false,.bool false,.bool false,.bool false,.bool false,.bool false,.bool false,.bool false,.bool false,.bool false,.bool false,.nils] parts).map AV.agg:=Xi (by kernel_rfl) (by decide) (by kernel_rfl) parts
theorem Udb:tsa Tryz.prog 379=some (1,false):=by kernel_rfl
theorem Wf5:Yd Tryz.prog 379=none:=by kernel_rfl
theorem Ufd:Wd Tryz.prog 379=false:=by kernel_rfl
theorem Vg8:Vf Tryz.prog 379=none:=by kernel_rfl
theorem Yfm:Ud Tryz.prog 379=0:=by kernel_rfl
theorem Wdf:Yh Tryz.prog 379=false:=by kernel_rfl
theorem Xfy:Xe Tryz.prog 379=4:=by kernel_rfl
theorem Vct:tby Tryz.prog 379=8:=by kernel_rfl
theorem Xfn:tz Tryz.prog 379=some (.nilf):=by kernel_rfl
theorem Xcr:tzk Tryz.prog 379 1=true:=by kernel_rfl
theorem Xhi:tsa Tryz.prog 382=some (1,false):=by kernel_rfl
theorem Yfo:Yd Tryz.prog 382=none:=by kernel_rfl
theorem Vf5:Wd Tryz.prog 382=false:=by kernel_rfl
theorem Yfa:Vf Tryz.prog 382=none:=by kernel_rfl
theorem Zef:Ud Tryz.prog 382=0:=by kernel_rfl
theorem Vgz:Yh Tryz.prog 382=false:=by kernel_rfl
theorem Uc5:Xe Tryz.prog 382=4:=by kernel_rfl
theorem Uej:tby Tryz.prog 382=8:=by kernel_rfl
theorem Zc6:tz Tryz.prog 382=some (.nilf):=by kernel_rfl
theorem Xei:tzk Tryz.prog 382 1=true:=by kernel_rfl
theorem Uds:Wq Tryz.prog 403=some (20,308):=by kernel_rfl
theorem Vfg:apl Tryz.prog 403 0=some (0,1):=by kernel_rfl
theorem Wdw:apl Tryz.prog 403 1=some (1,1):=by kernel_rfl
theorem Zen:apl Tryz.prog 403 2=some (2,1):=by kernel_rfl
theorem Wd9:apl Tryz.prog 403 3=some (3,1):=by kernel_rfl
theorem Zdd:apl Tryz.prog 403 4=some (4,1):=by kernel_rfl
theorem Ufh:apl Tryz.prog 403 5=some (5,1):=by kernel_rfl
theorem Yc4:apl Tryz.prog 403 6=some (6,1):=by kernel_rfl
theorem Vfs:apl Tryz.prog 403 7=some (7,1):=by kernel_rfl
theorem Vgi:apl Tryz.prog 403 8=some (8,1):=by kernel_rfl
theorem Ucm:apl Tryz.prog 403 9=some (9,1):=by kernel_rfl
theorem Xf5:apl Tryz.prog 403 10=some (10,1):=by kernel_rfl
theorem Xdo:apl Tryz.prog 403 11=some (11,1):=by kernel_rfl
theorem Zc0:apl Tryz.prog 403 12=some (12,1):=by kernel_rfl
theorem Ufe:apl Tryz.prog 403 13=some (13,1):=by kernel_rfl
theorem Wdx:apl Tryz.prog 403 14=some (14,1):=by kernel_rfl
theorem Vhb:apl Tryz.prog 403 15=some (15,1):=by kernel_rfl
theorem Wej:Vm Tryz.prog 403=some [1,1,1,1,1,1,1,1,1,1,1,1,1,1,1,1,1,1,1,1]:=by kernel_rfl
theorem Zgp:Yk Tryz.prog 403=some [1,1,1,1,1,1,1,1,1,1,1,1,1,1,1,1,1,1,1,1]:=by kernel_rfl
theorem Zc8 (parts:List (Nat × AV)):Zh Tryz.prog 403 parts=(Xg (apl Tryz.prog 403) [.int .u64 0,.int .u64 0,.int .u64 0,.int .u64 0,.int .u64 0,.int .u64 0,.int .u64 0,.int .u64 0,.int .u64 0,.int .u64 0,.int .u64 0,.int .u64 0,.int .u64 0,.int .u64 0,.int .u64 0,.int .u64 0,.int .u64 0,.int .u64 0,.int .u64 0,.int .u64 0] parts).map AV.agg:=Xi (by kernel_rfl) (by decide) (by kernel_rfl) parts
theorem Wep:Wq Tryz.prog 404=some (65,5):=by kernel_rfl
theorem Xf8:apl Tryz.prog 404 0=some (0,1):=by kernel_rfl
theorem Vf8:apl Tryz.prog 404 1=some (1,1):=by kernel_rfl
theorem Zdw:apl Tryz.prog 404 2=some (2,1):=by kernel_rfl
theorem Uhn:apl Tryz.prog 404 3=some (3,1):=by kernel_rfl
theorem Xft:apl Tryz.prog 404 4=some (4,1):=by kernel_rfl
theorem Xga:apl Tryz.prog 404 5=some (5,1):=by kernel_rfl
theorem Yeh:apl Tryz.prog 404 6=some (6,1):=by kernel_rfl
theorem Ydm:apl Tryz.prog 404 7=some (7,1):=by kernel_rfl
theorem Udv:apl Tryz.prog 404 8=some (8,1):=by kernel_rfl
theorem Ugh:apl Tryz.prog 404 9=some (9,1):=by kernel_rfl
theorem Zge:apl Tryz.prog 404 10=some (10,1):=by kernel_rfl
theorem Zf3:apl Tryz.prog 404 11=some (11,1):=by kernel_rfl
theorem Wfo:apl Tryz.prog 404 12=some (12,1):=by kernel_rfl
theorem Vdf:apl Tryz.prog 404 13=some (13,1):=by kernel_rfl
theorem Ygm:apl Tryz.prog 404 14=some (14,1):=by kernel_rfl
theorem Yeu:apl Tryz.prog 404 15=some (15,1):=by kernel_rfl
theorem Veh:Vm Tryz.prog 404=some [1,1,1,1,1,1,1,1,1,1,1,1,1,1,1,1,1,1,1,1,1,1,1,1,1,1,1,1,1,1,1,1,1,1,1,1,1,1,1,1,1,1,1,1,1,1,1,1,1,1,1,1,1,1,1,1,1,1,1,1,1,1,1,1,1]:=by kernel_rfl
theorem Yd8:Yk Tryz.prog 404=some [1,1,1,1,1,1,1,1,1,1,1,1,1,1,1,1,1,1,1,1,1,1,1,1,1,1,1,1,1,1,1,1,1,1,1,1,1,1,1,1,1,1,1,1,1,1,1,1,1,1,1,1,1,1,1,1,1,1,1,1,1,1,1,1,1]:=by kernel_rfl
theorem Yfu:Yk Tryz.prog 411=some [3]:=by kernel_rfl
theorem Vdn:tsa Tryz.prog 414=some (1,false):=by kernel_rfl
theorem Ufu:Yd Tryz.prog 414=none:=by kernel_rfl
theorem Whh:Wd Tryz.prog 414=false:=by kernel_rfl
theorem Xdw:Vf Tryz.prog 414=none:=by kernel_rfl
theorem Yfi:Ud Tryz.prog 414=0:=by kernel_rfl
theorem Ygz:Yh Tryz.prog 414=false:=by kernel_rfl
theorem Ydy:Xe Tryz.prog 414=4:=by kernel_rfl
theorem Yf7:tby Tryz.prog 414=8:=by kernel_rfl
theorem Uhh:tz Tryz.prog 414=some (.nilf):=by kernel_rfl
theorem Ydh:tzk Tryz.prog 414 1=true:=by kernel_rfl
theorem Zc1:tsa Tryz.prog 426=some (1,false):=by kernel_rfl
theorem Xex:Yd Tryz.prog 426=none:=by kernel_rfl
theorem Ugm:Wd Tryz.prog 426=false:=by kernel_rfl
theorem Vgh:Vf Tryz.prog 426=none:=by kernel_rfl
theorem Zcz:Ud Tryz.prog 426=0:=by kernel_rfl
theorem Yff:Yh Tryz.prog 426=false:=by kernel_rfl
theorem Wfy:Xe Tryz.prog 426=4:=by kernel_rfl
theorem Yfb:tby Tryz.prog 426=8:=by kernel_rfl
theorem Xdc:tz Tryz.prog 426=some (.nilf):=by kernel_rfl
theorem Xep:tzk Tryz.prog 426 1=true:=by kernel_rfl
theorem Xey:Wq Tryz.prog 429=some (32,5):=by kernel_rfl
theorem Vej:apl Tryz.prog 429 0=some (0,1):=by kernel_rfl
theorem Uhm:apl Tryz.prog 429 1=some (1,1):=by kernel_rfl
theorem Xds:apl Tryz.prog 429 2=some (2,1):=by kernel_rfl
theorem Uha:apl Tryz.prog 429 3=some (3,1):=by kernel_rfl
theorem Zfk:apl Tryz.prog 429 4=some (4,1):=by kernel_rfl
theorem Wcn:apl Tryz.prog 429 5=some (5,1):=by kernel_rfl
theorem Yho:apl Tryz.prog 429 6=some (6,1):=by kernel_rfl
theorem Xgg:apl Tryz.prog 429 7=some (7,1):=by kernel_rfl
theorem Ze6:apl Tryz.prog 429 8=some (8,1):=by kernel_rfl
theorem Xhk:apl Tryz.prog 429 9=some (9,1):=by kernel_rfl
theorem Vfu:apl Tryz.prog 429 10=some (10,1):=by kernel_rfl
theorem Xc9:apl Tryz.prog 429 11=some (11,1):=by kernel_rfl
theorem Xd9:apl Tryz.prog 429 12=some (12,1):=by kernel_rfl
theorem Wft:apl Tryz.prog 429 13=some (13,1):=by kernel_rfl
theorem Ve5:apl Tryz.prog 429 14=some (14,1):=by kernel_rfl
theorem Vdq:apl Tryz.prog 429 15=some (15,1):=by kernel_rfl
theorem Vgn:Vm Tryz.prog 429=some [1,1,1,1,1,1,1,1,1,1,1,1,1,1,1,1,1,1,1,1,1,1,1,1,1,1,1,1,1,1,1,1]:=by kernel_rfl
theorem Ud3:Yk Tryz.prog 429=some [1,1,1,1,1,1,1,1,1,1,1,1,1,1,1,1,1,1,1,1,1,1,1,1,1,1,1,1,1,1,1,1]:=by kernel_rfl
theorem Whl (parts:List (Nat × AV)):Zh Tryz.prog 429 parts=(Xg (apl Tryz.prog 429) [.int .u8 0,.int .u8 0,.int .u8 0,.int .u8 0,.int .u8 0,.int .u8 0,.int .u8 0,.int .u8 0,.int .u8 0,.int .u8 0,.int .u8 0,.int .u8 0,.int .u8 0,.int .u8 0,.int .u8 0,.int .u8 0,.int .u8 0,.int .u8 0,.int .u8 0,.int .u8 0,.int .u8 0,.int .u8 0,.int .u8 0,.int .u8 0,.int .u8 0,.int .u8 0,.int .u8 0,.int .u8 0,.int .u8 0,.int .u8 0,.int .u8 0,.int .u8 0] parts).map AV.agg:=Xi (by kernel_rfl) (by decide) (by kernel_rfl) parts
theorem Xg4:Wq Tryz.prog 430=some (64,5):=by kernel_rfl
theorem Wgf:apl Tryz.prog 430 0=some (0,1):=by kernel_rfl
theorem Wdb:apl Tryz.prog 430 1=some (1,1):=by kernel_rfl
theorem Zdl:apl Tryz.prog 430 2=some (2,1):=by kernel_rfl
theorem Zfz:apl Tryz.prog 430 3=some (3,1):=by kernel_rfl
theorem Uei:apl Tryz.prog 430 4=some (4,1):=by kernel_rfl
theorem Wga:apl Tryz.prog 430 5=some (5,1):=by kernel_rfl
theorem Wg6:apl Tryz.prog 430 6=some (6,1):=by kernel_rfl
theorem Uen:apl Tryz.prog 430 7=some (7,1):=by kernel_rfl
theorem Uft:apl Tryz.prog 430 8=some (8,1):=by kernel_rfl
theorem Zew:apl Tryz.prog 430 9=some (9,1):=by kernel_rfl
theorem Zgr:apl Tryz.prog 430 10=some (10,1):=by kernel_rfl
theorem Ye6:apl Tryz.prog 430 11=some (11,1):=by kernel_rfl
theorem Yhn:apl Tryz.prog 430 12=some (12,1):=by kernel_rfl
theorem Vhg:apl Tryz.prog 430 13=some (13,1):=by kernel_rfl
theorem Vg4:apl Tryz.prog 430 14=some (14,1):=by kernel_rfl
theorem Ud1:apl Tryz.prog 430 15=some (15,1):=by kernel_rfl
theorem Vg5:Vm Tryz.prog 430=some [1,1,1,1,1,1,1,1,1,1,1,1,1,1,1,1,1,1,1,1,1,1,1,1,1,1,1,1,1,1,1,1,1,1,1,1,1,1,1,1,1,1,1,1,1,1,1,1,1,1,1,1,1,1,1,1,1,1,1,1,1,1,1,1]:=by kernel_rfl
theorem Ufl:Yk Tryz.prog 430=some [1,1,1,1,1,1,1,1,1,1,1,1,1,1,1,1,1,1,1,1,1,1,1,1,1,1,1,1,1,1,1,1,1,1,1,1,1,1,1,1,1,1,1,1,1,1,1,1,1,1,1,1,1,1,1,1,1,1,1,1,1,1,1,1]:=by kernel_rfl
theorem Uc9 (parts:List (Nat × AV)):Zh Tryz.prog 430 parts=(Xg (apl Tryz.prog 430) [.int .u8 0,.int .u8 0,.int .u8 0,.int .u8 0,.int .u8 0,.int .u8 0,.int .u8 0,.int .u8 0,.int .u8 0,.int .u8 0,.int .u8 0,.int .u8 0,.int .u8 0,.int .u8 0,.int .u8 0,.int .u8 0,.int .u8 0,.int .u8 0,.int .u8 0,.int .u8 0,.int .u8 0,.int .u8 0,.int .u8 0,.int .u8 0,.int .u8 0,.int .u8 0,.int .u8 0,.int .u8 0,.int .u8 0,.int .u8 0,.int .u8 0,.int .u8 0,.int .u8 0,.int .u8 0,.int .u8 0,.int .u8 0,.int .u8 0,.int .u8 0,.int .u8 0,.int .u8 0,.int .u8 0,.int .u8 0,.int .u8 0,.int .u8 0,.int .u8 0,.int .u8 0,.int .u8 0,.int .u8 0,.int .u8 0,.int .u8 0,.int .u8 0,.int .u8 0,.int .u8 0,.int .u8 0,.int .u8 0,.int .u8 0,.int .u8 0,.int .u8 0,.int .u8 0,.int .u8 0,.int .u8 0,.int .u8 0,.int .u8 0,.int .u8 0] parts).map AV.agg:=Xi (by kernel_rfl) (by decide) (by kernel_rfl) parts
attribute [simp] Yf9 Zez Zga Zeu Ufc Xc1 Zdj Zcv Whf Vc5 Zgy Wfh Xd8 Ufq Zg1 Xfm Ydz Wc4 Ye0 Wfn Wgt Wfp Vem Yez Wda Xfo Ygb Zhc Xgq Zd0 Vc8 Yew Yf0 Ug9 Uet Udy Ug7 Zeq Uem Zea Zc3 Xea Ygj Wc0 Ueh Zc5 Vfe Vdr Ueg Vds Ygu Udk Ud7 Wgs Vc3 Wff Wcz Wd3 Xeq Xff Zhg Xe7 Xez Xgv Vd7 Xed Yf5 Wcy Uc7 Ze3 Zdm Ye8 Ycz Xhn Xg9 Xdr Ucr Uc8 Yc0 Wf4 Ueb Yfe Ygp Yft Ud9 Vf4 Uc4 Yhb Ud6 Zdp Uez Zdi Uey Wcu Ye7 Zf9 Yc3 Wge Zcn Yhe Weu Ud4 Yd1 Vg1 Vgr Whe Zcu Xfk Wde Uex Vcp Ugk Xd6 Wdl Vd3 Xf6 Zgk Ugq Ugd Zdr Zc2 Vho Xcp Zem Yds Veo Wgx Zdu Whm Vcx Wd1 Vga Vei Udg Zdv Ugp Uhg Xe3 Vft Xfw Ugt Zeb Ve3 Zgi Yhp Vd1 Xd4 Yc2 Vf3 Udx Yga Vhm Wfl Zf4 Vdo Ud8 Wfq Ygt Ufa Ud0 Vdv Zg6 Wdd Vfk Yd2 Ycx Zd7 Xf7 Xeb Wek Zgd Ydx Uee Vex Zc9 Ves Xhc Ucv Xee Yhf Ugc Xeu Zes Wc2 Zfn Ue1 Ucw Wf8 Zdq Ue4 Whd Zey Zdb Wd6 Uhc Whg Xgo Vdm Xdf Ugb Vdb Ugy Ydq Zds Zfw Wgp We5 Vfw Zg4 Xdv Xe6 Uf3 Uco Yhd Wef Vev Zeg Xfp Zfc Yfq Ygx Wgm Xdj Vgj Xdx Xcy Udp Zc7 Zgj Vc0 Vc1 Yee Wc7 Xet Ufm Uf2 Zei Veu Xgs Zgg Wc5 Yf4 Wdq Zgq Zgv Ude Wfz Zfv Xha Zgx Wfb Uew Vgp Zg8 Zcq Xg3 Zd9 Zcw Ugr Vfn Xc5 Zfg Yer Zet Xe9 Wfm Zfl Wfd Yde Zgn Wf6 Ygg Yg4 Whb Xco Zfd Vf1 Xdq Ufo Wfw Xgl Xgc Xej Ug1 Zco Ygr Zgw Zhm Ueo Ycn Yeg Xen Wfj Yd4 Xde Uge Yc6 Zf0 Udh Uct Whk Udu Wdh Xec Vdi Ydk Udl Ygy Vgq Yf3 Wg1 Wd0 Ze4 Zfu Vg2 Wcp Vgc Ydn Uff Zgm Yfx Ugg Vcq Wdk Vep Udb Wf5 Ufd Vg8 Yfm Wdf Xfy Vct Xfn Xcr Xhi Yfo Vf5 Yfa Zef Vgz Uc5 Uej Zc6 Xei Uds Vfg Wdw Zen Wd9 Zdd Ufh Yc4 Vfs Vgi Ucm Xf5 Xdo Zc0 Ufe Wdx Vhb Wej Zgp Zc8 Wep Xf8 Vf8 Zdw Uhn Xft Xga Yeh Ydm Udv Ugh Zge Zf3 Wfo Vdf Ygm Yeu Veh Yd8 Yfu Vdn Ufu Whh Xdw Yfi Ygz Ydy Yf7 Uhh Ydh Zc1 Xex Ugm Vgh Zcz Yff Wfy Yfb Xdc Xep Xey Vej Uhm Xds Uha Zfk Wcn Yho Xgg Ze6 Xhk Vfu Xc9 Xd9 Wft Ve5 Vdq Vgn Ud3 Whl Xg4 Wgf Wdb Zdl Zfz Uei Wga Wg6 Uen Uft Zew Zgr Ye6 Yhn Vhg Vg4 Ud1 Vg5 Ufl Uc9
end Ab

/-
  Texts packed for a claim.
-/
import Derived.Test.YtcoikmapjepdjaaGreatDoorO04
set_option linter.all false
namespace Ab
open Go Go.Proofs
theorem Vdx:tsa Tryz.prog 97=some (1,false):=by kernel_rfl
theorem Wdz:Wc Tryz.prog 97=some 38:=by kernel_rfl
theorem Ygm:Ud Tryz.prog 97=false:=by kernel_rfl
theorem Xg6:Vf Tryz.prog 97=none:=by kernel_rfl
theorem Yfl:Xe Tryz.prog 97=0:=by kernel_rfl
theorem Yhl:Vg Tryz.prog 97=false:=by kernel_rfl
theorem Wd9:Ue Tryz.prog 97=2:=by kernel_rfl
theorem Xgf:tby Tryz.prog 97=24:=by kernel_rfl
theorem Zha:tz Tryz.prog 97=some (.nils):=by kernel_rfl
theorem Yej:tzk Tryz.prog 97 1=true:=by kernel_rfl
theorem Ydk:tsa Tryz.prog 98=some (1,false):=by kernel_rfl
theorem Yfx:Wc Tryz.prog 98=some 108:=by kernel_rfl
theorem Wff:Ud Tryz.prog 98=false:=by kernel_rfl
theorem Zge:Vf Tryz.prog 98=none:=by kernel_rfl
theorem Zgu:Xe Tryz.prog 98=0:=by kernel_rfl
theorem Zdd:Vg Tryz.prog 98=false:=by kernel_rfl
theorem Zdb:Ue Tryz.prog 98=2:=by kernel_rfl
theorem Ueh:tby Tryz.prog 98=24:=by kernel_rfl
theorem We7:tz Tryz.prog 98=some (.nils):=by kernel_rfl
theorem Vhr:tzk Tryz.prog 98 1=true:=by kernel_rfl
theorem Zdu:tsa Tryz.prog 100=some (5,true):=by kernel_rfl
theorem Whd:Wc Tryz.prog 100=none:=by kernel_rfl
theorem Wf7:Ud Tryz.prog 100=false:=by kernel_rfl
theorem Zec:Vf Tryz.prog 100=none:=by kernel_rfl
theorem Wh4:Xe Tryz.prog 100=0:=by kernel_rfl
theorem Vg4:Vg Tryz.prog 100=false:=by kernel_rfl
theorem Zdc:Ue Tryz.prog 100=0:=by kernel_rfl
theorem Wgg:tby Tryz.prog 100=88:=by kernel_rfl
theorem Uhd:tz Tryz.prog 100=some (.agg [.int .i64 0,.int .i64 0,.nils,.nils,.nils]):=by kernel_rfl
theorem Vig:tzk Tryz.prog 100 5=true:=by kernel_rfl
theorem Yew:Wl Tryz.prog 100 0=some (0,3):=by kernel_rfl
theorem Yf9:apl Tryz.prog 100 0=some (0,1):=by kernel_rfl
theorem Wc4:Wl Tryz.prog 100 1=some (1,3):=by kernel_rfl
theorem We9:apl Tryz.prog 100 1=some (1,1):=by kernel_rfl
theorem Vhm:Wl Tryz.prog 100 2=some (2,97):=by kernel_rfl
theorem Wg2:apl Tryz.prog 100 2=some (2,1):=by kernel_rfl
theorem Vhc:Wl Tryz.prog 100 3=some (3,32):=by kernel_rfl
theorem Udm:apl Tryz.prog 100 3=some (3,1):=by kernel_rfl
theorem Zc4:Wl Tryz.prog 100 4=some (4,98):=by kernel_rfl
theorem Xd0:apl Tryz.prog 100 4=some (4,1):=by kernel_rfl
theorem Yei (parts:List (Nat × AV)):Ve Tryz.prog 100 parts=(Ye (apl Tryz.prog 100) [.int .i64 0,.int .i64 0,.nils,.nils,.nils] parts).map AV.agg:=Zg (by kernel_rfl) (by decide) (by kernel_rfl) parts
theorem Wfa:tsa Tryz.prog 108=some (3,true):=by kernel_rfl
theorem Whp:Wc Tryz.prog 108=none:=by kernel_rfl
theorem Yg6:Ud Tryz.prog 108=false:=by kernel_rfl
theorem Ugy:Vf Tryz.prog 108=none:=by kernel_rfl
theorem Ygw:Xe Tryz.prog 108=0:=by kernel_rfl
theorem Uek:Vg Tryz.prog 108=false:=by kernel_rfl
theorem Zc8:Ue Tryz.prog 108=0:=by kernel_rfl
theorem Xet:tby Tryz.prog 108=24:=by kernel_rfl
theorem Wei:tz Tryz.prog 108=some (.agg [.int .i64 0,.int .i64 0,.int .i64 0]):=by kernel_rfl
theorem Wc5:tzk Tryz.prog 108 3=true:=by kernel_rfl
theorem Wij:Wl Tryz.prog 108 0=some (0,3):=by kernel_rfl
theorem Vf5:apl Tryz.prog 108 0=some (0,1):=by kernel_rfl
theorem Uhy:Wl Tryz.prog 108 1=some (1,3):=by kernel_rfl
theorem Yfp:apl Tryz.prog 108 1=some (1,1):=by kernel_rfl
theorem Vfw:Wl Tryz.prog 108 2=some (2,3):=by kernel_rfl
theorem Yh1:apl Tryz.prog 108 2=some (2,1):=by kernel_rfl
theorem Xc3:Uk Tryz.prog 108=some [1,1,1]:=by kernel_rfl
theorem Vda:Vi Tryz.prog 108=some [1,1,1]:=by kernel_rfl
theorem Wfg (parts:List (Nat × AV)):Ve Tryz.prog 108 parts=(Ye (apl Tryz.prog 108) [.int .i64 0,.int .i64 0,.int .i64 0] parts).map AV.agg:=Zg (by kernel_rfl) (by decide) (by kernel_rfl) parts
theorem Ufa:tsa Tryz.prog 109=some (1,false):=by kernel_rfl
theorem Yf8:Wc Tryz.prog 109=some 112:=by kernel_rfl
theorem Zh4:Ud Tryz.prog 109=false:=by kernel_rfl
theorem Vhp:Vf Tryz.prog 109=none:=by kernel_rfl
theorem Ygf:Xe Tryz.prog 109=0:=by kernel_rfl
theorem Wg4:Vg Tryz.prog 109=false:=by kernel_rfl
theorem Wdq:Ue Tryz.prog 109=2:=by kernel_rfl
theorem Yg2:tby Tryz.prog 109=24:=by kernel_rfl
theorem Yfc:tz Tryz.prog 109=some (.nils):=by kernel_rfl
theorem Zh7:tzk Tryz.prog 109 1=true:=by kernel_rfl
theorem Wgr:tsa Tryz.prog 112=some (1,false):=by kernel_rfl
theorem Vif:Wc Tryz.prog 112=some 113:=by kernel_rfl
theorem Zh1:Ud Tryz.prog 112=false:=by kernel_rfl
theorem Zf9:Vf Tryz.prog 112=none:=by kernel_rfl
theorem Zei:Xe Tryz.prog 112=0:=by kernel_rfl
theorem Vfh:Vg Tryz.prog 112=false:=by kernel_rfl
theorem Xfg:Ue Tryz.prog 112=2:=by kernel_rfl
theorem Xdu:tby Tryz.prog 112=24:=by kernel_rfl
theorem Zd7:tz Tryz.prog 112=some (.nils):=by kernel_rfl
theorem Uc3:tzk Tryz.prog 112 1=true:=by kernel_rfl
theorem Wd1:tsa Tryz.prog 113=some (1,false):=by kernel_rfl
theorem Xex:Wc Tryz.prog 113=none:=by kernel_rfl
theorem Xhq:Ud Tryz.prog 113=false:=by kernel_rfl
theorem Xeh:Vf Tryz.prog 113=some .i64:=by kernel_rfl
theorem Wel:Xe Tryz.prog 113=1:=by kernel_rfl
theorem Zeq:Vg Tryz.prog 113=false:=by kernel_rfl
theorem Xhi:Ue Tryz.prog 113=0:=by kernel_rfl
theorem Xgv:tby Tryz.prog 113=8:=by kernel_rfl
theorem Wh0:tz Tryz.prog 113=some (.int .i64 0):=by kernel_rfl
theorem Uhz:tzk Tryz.prog 113 1=true:=by kernel_rfl
theorem Ue1:tsa Tryz.prog 118=some (1,false):=by kernel_rfl
theorem Xeq:Wc Tryz.prog 118=some 122:=by kernel_rfl
theorem Wha:Ud Tryz.prog 118=false:=by kernel_rfl
theorem Yfr:Vf Tryz.prog 118=none:=by kernel_rfl
theorem Yel:Xe Tryz.prog 118=0:=by kernel_rfl
theorem Xhv:Vg Tryz.prog 118=false:=by kernel_rfl
theorem Ygk:Ue Tryz.prog 118=2:=by kernel_rfl
theorem Wgx:tby Tryz.prog 118=24:=by kernel_rfl
theorem Yds:tz Tryz.prog 118=some (.nils):=by kernel_rfl
theorem Xdn:tzk Tryz.prog 118 1=true:=by kernel_rfl
theorem Yc4:tsa Tryz.prog 122=some (3,true):=by kernel_rfl
theorem Whz:Wc Tryz.prog 122=none:=by kernel_rfl
theorem Uf1:Ud Tryz.prog 122=false:=by kernel_rfl
theorem Vhz:Vf Tryz.prog 122=none:=by kernel_rfl
theorem Zgo:Xe Tryz.prog 122=0:=by kernel_rfl
theorem Ueg:Vg Tryz.prog 122=false:=by kernel_rfl
theorem Uh5:Ue Tryz.prog 122=0:=by kernel_rfl
theorem Xe1:tby Tryz.prog 122=24:=by kernel_rfl
theorem Xde:tz Tryz.prog 122=some (.agg [.int .i64 0,.int .i64 0,.bool false]):=by kernel_rfl
theorem Xd3:tzk Tryz.prog 122 3=true:=by kernel_rfl
theorem Xe6:Wl Tryz.prog 122 0=some (0,3):=by kernel_rfl
theorem Udp:apl Tryz.prog 122 0=some (0,1):=by kernel_rfl
theorem Wfi:Wl Tryz.prog 122 1=some (1,3):=by kernel_rfl
theorem Wfv:apl Tryz.prog 122 1=some (1,1):=by kernel_rfl
theorem Uhr:Wl Tryz.prog 122 2=some (2,4):=by kernel_rfl
theorem Xej:apl Tryz.prog 122 2=some (2,1):=by kernel_rfl
theorem Zde:Uk Tryz.prog 122=some [1,1,2]:=by kernel_rfl
theorem Zff:Vi Tryz.prog 122=some [1,1,2]:=by kernel_rfl
theorem Zg9 (parts:List (Nat × AV)):Ve Tryz.prog 122 parts=(Ye (apl Tryz.prog 122) [.int .i64 0,.int .i64 0,.bool false] parts).map AV.agg:=Zg (by kernel_rfl) (by decide) (by kernel_rfl) parts
theorem Xdw:Un Tryz.prog 211=some (2,3):=by kernel_rfl
theorem Yfh:apl Tryz.prog 211 0=some (0,1):=by kernel_rfl
theorem Zdl:apl Tryz.prog 211 1=some (1,1):=by kernel_rfl
theorem Uez:Uk Tryz.prog 211=some [1,1]:=by kernel_rfl
theorem Whs:Vi Tryz.prog 211=some [1,1]:=by kernel_rfl
theorem Vih (parts:List (Nat × AV)):Ve Tryz.prog 211 parts=(Ye (apl Tryz.prog 211) [.int .i64 0,.int .i64 0] parts).map AV.agg:=Zg (by kernel_rfl) (by decide) (by kernel_rfl) parts
theorem Uhf:tsa Tryz.prog 224=some (1,false):=by kernel_rfl
theorem Vhq:Wc Tryz.prog 224=none:=by kernel_rfl
theorem Vdv:Ud Tryz.prog 224=false:=by kernel_rfl
theorem Uhw:Vf Tryz.prog 224=none:=by kernel_rfl
theorem Yd1:Xe Tryz.prog 224=0:=by kernel_rfl
theorem Wf6:Vg Tryz.prog 224=false:=by kernel_rfl
theorem Ze9:Ue Tryz.prog 224=1:=by kernel_rfl
theorem Xeo:tby Tryz.prog 224=8:=by kernel_rfl
theorem Zgd:tz Tryz.prog 224=some (.nilp):=by kernel_rfl
theorem Yfb:tzk Tryz.prog 224 1=true:=by kernel_rfl
theorem Ze8:tsa Tryz.prog 225=some (1,false):=by kernel_rfl
theorem Zik:Wc Tryz.prog 225=some 232:=by kernel_rfl
theorem Zfg:Ud Tryz.prog 225=false:=by kernel_rfl
theorem Zg4:Vf Tryz.prog 225=none:=by kernel_rfl
theorem Ufl:Xe Tryz.prog 225=0:=by kernel_rfl
theorem Wgd:Vg Tryz.prog 225=false:=by kernel_rfl
theorem Uij:Ue Tryz.prog 225=2:=by kernel_rfl
theorem Wf3:tby Tryz.prog 225=24:=by kernel_rfl
theorem Whh:tz Tryz.prog 225=some (.nils):=by kernel_rfl
theorem Yc9:tzk Tryz.prog 225 1=true:=by kernel_rfl
theorem Ufr:tsa Tryz.prog 228=some (4,true):=by kernel_rfl
theorem Zd5:Wc Tryz.prog 228=none:=by kernel_rfl
theorem Yg1:Ud Tryz.prog 228=false:=by kernel_rfl
theorem Xgd:Vf Tryz.prog 228=none:=by kernel_rfl
theorem Vgx:Xe Tryz.prog 228=0:=by kernel_rfl
theorem Vfu:Vg Tryz.prog 228=false:=by kernel_rfl
theorem Zft:Ue Tryz.prog 228=0:=by kernel_rfl
theorem Uhn:tby Tryz.prog 228=4:=by kernel_rfl
theorem Zgr:tz Tryz.prog 228=some (.agg [.bool false,.bool false,.bool false,.bool false]):=by kernel_rfl
theorem Yfj:tzk Tryz.prog 228 4=true:=by kernel_rfl
theorem Yeu:Un Tryz.prog 228=some (4,4):=by kernel_rfl
theorem Uga:apl Tryz.prog 228 0=some (0,1):=by kernel_rfl
theorem Wc8:apl Tryz.prog 228 1=some (1,1):=by kernel_rfl
theorem Xfx:apl Tryz.prog 228 2=some (2,1):=by kernel_rfl
theorem Xe0:apl Tryz.prog 228 3=some (3,1):=by kernel_rfl
theorem Wfs:Uk Tryz.prog 228=some [2,2,2,2]:=by kernel_rfl
theorem Yd4:Vi Tryz.prog 228=some [2,2,2,2]:=by kernel_rfl
theorem Vgb (parts:List (Nat × AV)):Ve Tryz.prog 228 parts=(Ye (apl Tryz.prog 228) [.bool false,.bool false,.bool false,.bool false] parts).map AV.agg:=Zg (by kernel_rfl) (by decide) (by kernel_rfl) parts
theorem Vgc:tsa Tryz.prog 230=some (24,true):=by kernel_rfl
theorem Yhk:Wc Tryz.prog 230=none:=by kernel_rfl
theorem Vdi:Ud Tryz.prog 230=false:=by kernel_rfl
theorem Xep:Vf Tryz.prog 230=none:=by kernel_rfl
theorem Uhq:Xe Tryz.prog 230=0:=by kernel_rfl
theorem Uf8:Vg Tryz.prog 230=false:=by kernel_rfl
theorem Xf8:Ue Tryz.prog 230=0:=by kernel_rfl
theorem Udg:tby Tryz.prog 230=24:=by kernel_rfl
theorem Zeg:tz Tryz.prog 230=some (.agg [.bool false,.bool false,.bool false,.bool false,.bool false,.bool false,.bool false,.bool false,.bool false,.bool false,.bool false,.bool false,.bool false,.bool false,.bool false,.bool false,.bool false,.bool false,.bool false,.bool false,.bool false,.bool false,.bool false,.bool false]):=by kernel_rfl
theorem Yg7:tzk Tryz.prog 230 24=true:=by kernel_rfl
theorem Yhm:Un Tryz.prog 230=some (6,228):=by kernel_rfl
theorem Zh9:apl Tryz.prog 230 0=some (0,4):=by kernel_rfl
theorem Zex:apl Tryz.prog 230 1=some (4,4):=by kernel_rfl
theorem Udr:apl Tryz.prog 230 2=some (8,4):=by kernel_rfl
theorem Ufg:apl Tryz.prog 230 3=some (12,4):=by kernel_rfl
theorem Xdz:apl Tryz.prog 230 4=some (16,4):=by kernel_rfl
theorem Uhx:apl Tryz.prog 230 5=some (20,4):=by kernel_rfl
theorem Yem:Uk Tryz.prog 230=some [2,2,2,2,2,2,2,2,2,2,2,2,2,2,2,2,2,2,2,2,2,2,2,2]:=by kernel_rfl
theorem Wfy:Vi Tryz.prog 230=some [2,2,2,2,2,2,2,2,2,2,2,2,2,2,2,2,2,2,2,2,2,2,2,2]:=by kernel_rfl
theorem Zen (parts:List (Nat × AV)):Ve Tryz.prog 230 parts=(Ye (apl Tryz.prog 230) [.bool false,.bool false,.bool false,.bool false,.bool false,.bool false,.bool false,.bool false,.bool false,.bool false,.bool false,.bool false,.bool false,.bool false,.bool false,.bool false,.bool false,.bool false,.bool false,.bool false,.bool false,.bool false,.bool false,.bool false] parts).map AV.agg:=Zg (by kernel_rfl) (by decide) (by kernel_rfl) parts
theorem Uhl:tsa Tryz.prog 232=some (25,true):=by kernel_rfl
theorem Udn:Wc Tryz.prog 232=none:=by kernel_rfl
theorem Xgy:Ud Tryz.prog 232=false:=by kernel_rfl
theorem Yha:Vf Tryz.prog 232=none:=by kernel_rfl
theorem Uih:Xe Tryz.prog 232=0:=by kernel_rfl
theorem Uia:Vg Tryz.prog 232=false:=by kernel_rfl
theorem Vde:Ue Tryz.prog 232=0:=by kernel_rfl
theorem Xc8:tby Tryz.prog 232=48:=by kernel_rfl
theorem Yfy:tz Tryz.prog 232=some (.agg [.bool false,.bool false,.bool false,.bool false,.bool false,.bool false,.bool false,.bool false,.bool false,.bool false,.bool false,.bool false,.bool false,.bool false,.bool false,.bool false,.bool false,.bool false,.bool false,.bool false,.bool false,.bool false,.bool false,.bool false,.nils]):=by kernel_rfl
theorem Vdz:tzk Tryz.prog 232 25=true:=by kernel_rfl
theorem Ue2:Wl Tryz.prog 232 0=some (0,230):=by kernel_rfl
theorem Ufu:apl Tryz.prog 232 0=some (0,24):=by kernel_rfl
theorem Xfn:Wl Tryz.prog 232 1=some (24,32):=by kernel_rfl
theorem Xec:apl Tryz.prog 232 1=some (24,1):=by kernel_rfl
theorem Wgh (parts:List (Nat × AV)):Ve Tryz.prog 232 parts=(Ye (apl Tryz.prog 232) [.bool false,.bool false,.bool false,.bool false,.bool false,.bool false,.bool false,.bool false,.bool false,.bool false,.bool false,.bool false,.bool false,.bool false,.bool false,.bool false,.bool false,.bool false,.bool false,.bool false,.bool false,.bool false,.bool false,.bool false,.nils] parts).map AV.agg:=Zg (by kernel_rfl) (by decide) (by kernel_rfl) parts
theorem Wd4:tsa Tryz.prog 240=some (1,false):=by kernel_rfl
theorem Whu:Wc Tryz.prog 240=none:=by kernel_rfl
theorem Ugd:Ud Tryz.prog 240=false:=by kernel_rfl
theorem Yfd:Vf Tryz.prog 240=none:=by kernel_rfl
theorem Zhq:Xe Tryz.prog 240=0:=by kernel_rfl
theorem Zez:Vg Tryz.prog 240=false:=by kernel_rfl
theorem Uic:Ue Tryz.prog 240=4:=by kernel_rfl
theorem Weq:tby Tryz.prog 240=8:=by kernel_rfl
theorem Wfl:tz Tryz.prog 240=some (.nilf):=by kernel_rfl
theorem Yhq:tzk Tryz.prog 240 1=true:=by kernel_rfl
theorem Wfc:tsa Tryz.prog 260=some (1,false):=by kernel_rfl
theorem Veh:Wc Tryz.prog 260=none:=by kernel_rfl
theorem Zhe:Ud Tryz.prog 260=false:=by kernel_rfl
theorem Vic:Vf Tryz.prog 260=none:=by kernel_rfl
theorem Ud0:Xe Tryz.prog 260=0:=by kernel_rfl
theorem Xgx:Vg Tryz.prog 260=false:=by kernel_rfl
theorem Wd0:Ue Tryz.prog 260=4:=by kernel_rfl
theorem Uf4:tby Tryz.prog 260=8:=by kernel_rfl
theorem Wej:tz Tryz.prog 260=some (.nilf):=by kernel_rfl
theorem Wgb:tzk Tryz.prog 260 1=true:=by kernel_rfl
theorem Zgz:tsa Tryz.prog 348=some (1,false):=by kernel_rfl
theorem Zh3:Wc Tryz.prog 348=none:=by kernel_rfl
theorem Zes:Ud Tryz.prog 348=false:=by kernel_rfl
theorem Wgj:Vf Tryz.prog 348=none:=by kernel_rfl
theorem Yhp:Xe Tryz.prog 348=0:=by kernel_rfl
theorem Zfz:Vg Tryz.prog 348=false:=by kernel_rfl
theorem Vfz:Ue Tryz.prog 348=4:=by kernel_rfl
theorem Vh9:tby Tryz.prog 348=8:=by kernel_rfl
theorem Zg0:tz Tryz.prog 348=some (.nilf):=by kernel_rfl
theorem We5:tzk Tryz.prog 348 1=true:=by kernel_rfl
theorem Ygd:tsa Tryz.prog 349=some (1,false):=by kernel_rfl
theorem Vg8:Wc Tryz.prog 349=none:=by kernel_rfl
theorem Ydo:Ud Tryz.prog 349=false:=by kernel_rfl
theorem Xgg:Vf Tryz.prog 349=none:=by kernel_rfl
theorem Yee:Xe Tryz.prog 349=0:=by kernel_rfl
theorem Ugr:Vg Tryz.prog 349=false:=by kernel_rfl
theorem Wgw:Ue Tryz.prog 349=4:=by kernel_rfl
theorem Wdu:tby Tryz.prog 349=8:=by kernel_rfl
theorem Yhf:tz Tryz.prog 349=some (.nilf):=by kernel_rfl
theorem Wgm:tzk Tryz.prog 349 1=true:=by kernel_rfl
theorem Uec:Un Tryz.prog 352=some (24,5):=by kernel_rfl
theorem Vgp:apl Tryz.prog 352 0=some (0,1):=by kernel_rfl
theorem Wdi:apl Tryz.prog 352 1=some (1,1):=by kernel_rfl
theorem Xgn:apl Tryz.prog 352 2=some (2,1):=by kernel_rfl
theorem Ydj:apl Tryz.prog 352 3=some (3,1):=by kernel_rfl
theorem Wgk:apl Tryz.prog 352 4=some (4,1):=by kernel_rfl
theorem Zhn:apl Tryz.prog 352 5=some (5,1):=by kernel_rfl
theorem Xev:apl Tryz.prog 352 6=some (6,1):=by kernel_rfl
theorem Wga:apl Tryz.prog 352 7=some (7,1):=by kernel_rfl
theorem Xha:apl Tryz.prog 352 8=some (8,1):=by kernel_rfl
theorem Zc6:apl Tryz.prog 352 9=some (9,1):=by kernel_rfl
theorem Zd8:apl Tryz.prog 352 10=some (10,1):=by kernel_rfl
theorem Zfx:apl Tryz.prog 352 11=some (11,1):=by kernel_rfl
theorem Xh6:apl Tryz.prog 352 12=some (12,1):=by kernel_rfl
theorem Ygx:apl Tryz.prog 352 13=some (13,1):=by kernel_rfl
theorem Vff:apl Tryz.prog 352 14=some (14,1):=by kernel_rfl
theorem Ydm:apl Tryz.prog 352 15=some (15,1):=by kernel_rfl
theorem Xfd:Uk Tryz.prog 352=some [1,1,1,1,1,1,1,1,1,1,1,1,1,1,1,1,1,1,1,1,1,1,1,1]:=by kernel_rfl
theorem Xea:Vi Tryz.prog 352=some [1,1,1,1,1,1,1,1,1,1,1,1,1,1,1,1,1,1,1,1,1,1,1,1]:=by kernel_rfl
theorem Vdb (parts:List (Nat × AV)):Ve Tryz.prog 352 parts=(Ye (apl Tryz.prog 352) [.int .u8 0,.int .u8 0,.int .u8 0,.int .u8 0,.int .u8 0,.int .u8 0,.int .u8 0,.int .u8 0,.int .u8 0,.int .u8 0,.int .u8 0,.int .u8 0,.int .u8 0,.int .u8 0,.int .u8 0,.int .u8 0,.int .u8 0,.int .u8 0,.int .u8 0,.int .u8 0,.int .u8 0,.int .u8 0,.int .u8 0,.int .u8 0] parts).map AV.agg:=Zg (by kernel_rfl) (by decide) (by kernel_rfl) parts
theorem Wf4:Vi Tryz.prog 363=some [3]:=by kernel_rfl
theorem Wd2:tsa Tryz.prog 371=some (5,true):=by kernel_rfl
theorem Xfi:Wc Tryz.prog 371=none:=by kernel_rfl
theorem Vf8:Ud Tryz.prog 371=false:=by kernel_rfl
theorem Zem:Vf Tryz.prog 371=none:=by kernel_rfl
theorem Xeg:Xe Tryz.prog 371=0:=by kernel_rfl
theorem Uh7:Vg Tryz.prog 371=false:=by kernel_rfl
theorem Uf5:Ue Tryz.prog 371=0:=by kernel_rfl
theorem Yfn:tby Tryz.prog 371=88:=by kernel_rfl
theorem Xg0:tz Tryz.prog 371=some (.agg [.int .i64 0,.int .i64 0,.nils,.nils,.nils]):=by kernel_rfl
theorem Vib:tzk Tryz.prog 371 5=true:=by kernel_rfl
theorem Xf9:Wl Tryz.prog 371 0=some (0,100):=by kernel_rfl
theorem Ugc:apl Tryz.prog 371 0=some (0,5):=by kernel_rfl
theorem Xhc (parts:List (Nat × AV)):Ve Tryz.prog 371 parts=(Ye (apl Tryz.prog 371) [.int .i64 0,.int .i64 0,.nils,.nils,.nils] parts).map AV.agg:=Zg (by kernel_rfl) (by decide) (by kernel_rfl) parts
theorem Veq:tsa Tryz.prog 372=some (1,false):=by kernel_rfl
theorem Uda:Wc Tryz.prog 372=some 377:=by kernel_rfl
theorem Wh1:Ud Tryz.prog 372=false:=by kernel_rfl
theorem Yd2:Vf Tryz.prog 372=none:=by kernel_rfl
theorem Zeo:Xe Tryz.prog 372=0:=by kernel_rfl
theorem Vhd:Vg Tryz.prog 372=false:=by kernel_rfl
theorem Ugh:Ue Tryz.prog 372=2:=by kernel_rfl
theorem Xf4:tby Tryz.prog 372=24:=by kernel_rfl
theorem Wfh:tz Tryz.prog 372=some (.nils):=by kernel_rfl
theorem Vei:tzk Tryz.prog 372 1=true:=by kernel_rfl
theorem Wdw:tsa Tryz.prog 373=some (1,false):=by kernel_rfl
theorem Vh5:Wc Tryz.prog 373=none:=by kernel_rfl
theorem Yh6:Ud Tryz.prog 373=false:=by kernel_rfl
theorem Wdh:Vf Tryz.prog 373=none:=by kernel_rfl
theorem Ydd:Xe Tryz.prog 373=0:=by kernel_rfl
theorem Ugm:Vg Tryz.prog 373=false:=by kernel_rfl
theorem Udk:Ue Tryz.prog 373=3:=by kernel_rfl
theorem Wfw:tby Tryz.prog 373=8:=by kernel_rfl
theorem Udo:tz Tryz.prog 373=some (.nilm):=by kernel_rfl
theorem Uhv:tzk Tryz.prog 373 1=true:=by kernel_rfl
theorem Vdc:Xr Tryz.prog 373=some (375,4):=by kernel_rfl
theorem Yde:tsa Tryz.prog 375=some (25,true):=by kernel_rfl
theorem Vg6:Wc Tryz.prog 375=none:=by kernel_rfl
theorem Zf3:Ud Tryz.prog 375=false:=by kernel_rfl
theorem Xib:Vf Tryz.prog 375=none:=by kernel_rfl
theorem Vg5:Xe Tryz.prog 375=0:=by kernel_rfl
theorem Ydn:Vg Tryz.prog 375=false:=by kernel_rfl
theorem Udh:Ue Tryz.prog 375=0:=by kernel_rfl
theorem Vd7:tby Tryz.prog 375=32:=by kernel_rfl
theorem Xdi:tz Tryz.prog 375=some (.agg [.int .i64 0,.bool false,.bool false,.bool false,.bool false,.bool false,.bool false,.bool false,.bool false,.bool false,.bool false,.bool false,.bool false,.bool false,.bool false,.bool false,.bool false,.bool false,.bool false,.bool false,.bool false,.bool false,.bool false,.bool false,.bool false]):=by kernel_rfl
theorem Wez:tzk Tryz.prog 375 25=true:=by kernel_rfl
theorem Why:Wl Tryz.prog 375 0=some (0,3):=by kernel_rfl
theorem Xh8:apl Tryz.prog 375 0=some (0,1):=by kernel_rfl
theorem Ydh:Wl Tryz.prog 375 1=some (1,230):=by kernel_rfl
theorem Wgf:apl Tryz.prog 375 1=some (1,24):=by kernel_rfl
theorem Xgl:Uk Tryz.prog 375=some [1,2,2,2,2,2,2,2,2,2,2,2,2,2,2,2,2,2,2,2,2,2,2,2,2]:=by kernel_rfl
theorem Ud2:Vi Tryz.prog 375=some [1,2,2,2,2,2,2,2,2,2,2,2,2,2,2,2,2,2,2,2,2,2,2,2,2]:=by kernel_rfl
theorem Wde (parts:List (Nat × AV)):Ve Tryz.prog 375 parts=(Ye (apl Tryz.prog 375) [.int .i64 0,.bool false,.bool false,.bool false,.bool false,.bool false,.bool false,.bool false,.bool false,.bool false,.bool false,.bool false,.bool false,.bool false,.bool false,.bool false,.bool false,.bool false,.bool false,.bool false,.bool false,.bool false,.bool false,.bool false,.bool false] parts).map AV.agg:=Zg (by kernel_rfl) (by decide) (by kernel_rfl) parts
theorem Vd3:tsa Tryz.prog 377=some (26,true):=by kernel_rfl
theorem Xf2:Wc Tryz.prog 377=none:=by kernel_rfl
theorem Yge:Ud Tryz.prog 377=false:=by kernel_rfl
theorem Yf6:Vf Tryz.prog 377=none:=by kernel_rfl
theorem Xe9:Xe Tryz.prog 377=0:=by kernel_rfl
theorem Zdq:Vg Tryz.prog 377=false:=by kernel_rfl
theorem Ud1:Ue Tryz.prog 377=0:=by kernel_rfl
theorem Wc7:tby Tryz.prog 377=56:=by kernel_rfl
theorem Ugg:tz Tryz.prog 377=some (.agg [.int .i64 0,.bool false,.bool false,.bool false,.bool false,.bool false,.bool false,.bool false,.bool false,.bool false,.bool false,.bool false,.bool false,.bool false,.bool false,.bool false,.bool false,.bool false,.bool false,.bool false,.bool false,.bool false,.bool false,.bool false,.bool false,.nils]):=by kernel_rfl
theorem Zig:tzk Tryz.prog 377 26=true:=by kernel_rfl
theorem Ve9:Wl Tryz.prog 377 0=some (0,375):=by kernel_rfl
theorem Ye2:apl Tryz.prog 377 0=some (0,25):=by kernel_rfl
theorem Yic:Wl Tryz.prog 377 1=some (25,32):=by kernel_rfl
theorem Ygz:apl Tryz.prog 377 1=some (25,1):=by kernel_rfl
theorem Vep (parts:List (Nat × AV)):Ve Tryz.prog 377 parts=(Ye (apl Tryz.prog 377) [.int .i64 0,.bool false,.bool false,.bool false,.bool false,.bool false,.bool false,.bool false,.bool false,.bool false,.bool false,.bool false,.bool false,.bool false,.bool false,.bool false,.bool false,.bool false,.bool false,.bool false,.bool false,.bool false,.bool false,.bool false,.bool false,.nils] parts).map AV.agg:=Zg (by kernel_rfl) (by decide) (by kernel_rfl) parts
theorem Yih:tsa Tryz.prog 379=some (1,false):=by kernel_rfl
theorem Weo:Wc Tryz.prog 379=none:=by kernel_rfl
theorem Zdi:Ud Tryz.prog 379=false:=by kernel_rfl
theorem Yh8:Vf Tryz.prog 379=none:=by kernel_rfl
theorem Wdk:Xe Tryz.prog 379=0:=by kernel_rfl
theorem Xdg:Vg Tryz.prog 379=false:=by kernel_rfl
theorem Zda:Ue Tryz.prog 379=4:=by kernel_rfl
theorem Uc5:tby Tryz.prog 379=8:=by kernel_rfl
theorem Vdy:tz Tryz.prog 379=some (.nilf):=by kernel_rfl
theorem Yf4:tzk Tryz.prog 379 1=true:=by kernel_rfl
theorem Zgy:tsa Tryz.prog 382=some (1,false):=by kernel_rfl
theorem Vfj:Wc Tryz.prog 382=none:=by kernel_rfl
theorem Yhd:Ud Tryz.prog 382=false:=by kernel_rfl
theorem Uel:Vf Tryz.prog 382=none:=by kernel_rfl
theorem Xew:Xe Tryz.prog 382=0:=by kernel_rfl
theorem Ue0:Vg Tryz.prog 382=false:=by kernel_rfl
theorem Ygc:Ue Tryz.prog 382=4:=by kernel_rfl
theorem Zeh:tby Tryz.prog 382=8:=by kernel_rfl
theorem Uff:tz Tryz.prog 382=some (.nilf):=by kernel_rfl
theorem Zhr:tzk Tryz.prog 382 1=true:=by kernel_rfl
theorem Uc6:Un Tryz.prog 403=some (20,308):=by kernel_rfl
theorem Uh8:apl Tryz.prog 403 0=some (0,1):=by kernel_rfl
theorem Zfc:apl Tryz.prog 403 1=some (1,1):=by kernel_rfl
theorem Yii:apl Tryz.prog 403 2=some (2,1):=by kernel_rfl
theorem Ygr:apl Tryz.prog 403 3=some (3,1):=by kernel_rfl
theorem Zie:apl Tryz.prog 403 4=some (4,1):=by kernel_rfl
theorem Xgs:apl Tryz.prog 403 5=some (5,1):=by kernel_rfl
theorem Zd1:apl Tryz.prog 403 6=some (6,1):=by kernel_rfl
theorem Zh2:apl Tryz.prog 403 7=some (7,1):=by kernel_rfl
theorem Zhj:apl Tryz.prog 403 8=some (8,1):=by kernel_rfl
theorem Zed:apl Tryz.prog 403 9=some (9,1):=by kernel_rfl
theorem Vdd:apl Tryz.prog 403 10=some (10,1):=by kernel_rfl
theorem Ufk:apl Tryz.prog 403 11=some (11,1):=by kernel_rfl
theorem Zho:apl Tryz.prog 403 12=some (12,1):=by kernel_rfl
theorem Zdx:apl Tryz.prog 403 13=some (13,1):=by kernel_rfl
theorem Vh7:apl Tryz.prog 403 14=some (14,1):=by kernel_rfl
theorem Xh1:apl Tryz.prog 403 15=some (15,1):=by kernel_rfl
theorem Vd8:Uk Tryz.prog 403=some [1,1,1,1,1,1,1,1,1,1,1,1,1,1,1,1,1,1,1,1]:=by kernel_rfl
theorem Wey:Vi Tryz.prog 403=some [1,1,1,1,1,1,1,1,1,1,1,1,1,1,1,1,1,1,1,1]:=by kernel_rfl
theorem Ydg (parts:List (Nat × AV)):Ve Tryz.prog 403 parts=(Ye (apl Tryz.prog 403) [.int .u64 0,.int .u64 0,.int .u64 0,.int .u64 0,.int .u64 0,.int .u64 0,.int .u64 0,.int .u64 0,.int .u64 0,.int .u64 0,.int .u64 0,.int .u64 0,.int .u64 0,.int .u64 0,.int .u64 0,.int .u64 0,.int .u64 0,.int .u64 0,.int .u64 0,.int .u64 0] parts).map AV.agg:=Zg (by kernel_rfl) (by decide) (by kernel_rfl) parts
theorem Vg7:Un Tryz.prog 404=some (65,5):=by kernel_rfl
theorem Wgo:apl Tryz.prog 404 0=some (0,1):=by kernel_rfl
theorem Ze1:apl Tryz.prog 404 1=some (1,1):=by kernel_rfl
theorem Wek:apl Tryz.prog 404 2=some (2,1):=by kernel_rfl
theorem Ud3:apl Tryz.prog 404 3=some (3,1):=by kernel_rfl
theorem Zdp:apl Tryz.prog 404 4=some (4,1):=by kernel_rfl
theorem Vfs:apl Tryz.prog 404 5=some (5,1):=by kernel_rfl
theorem Ve1:apl Tryz.prog 404 6=some (6,1):=by kernel_rfl
theorem Yez:apl Tryz.prog 404 7=some (7,1):=by kernel_rfl
theorem Vgd:apl Tryz.prog 404 8=some (8,1):=by kernel_rfl
theorem Xhe:apl Tryz.prog 404 9=some (9,1):=by kernel_rfl
theorem Wgs:apl Tryz.prog 404 10=some (10,1):=by kernel_rfl
theorem Zhy:apl Tryz.prog 404 11=some (11,1):=by kernel_rfl
theorem Zep:apl Tryz.prog 404 12=some (12,1):=by kernel_rfl
theorem Wg6:apl Tryz.prog 404 13=some (13,1):=by kernel_rfl
theorem Ud4:apl Tryz.prog 404 14=some (14,1):=by kernel_rfl
theorem Ued:apl Tryz.prog 404 15=some (15,1):=by kernel_rfl
theorem Yeg:Uk Tryz.prog 404=some [1,1,1,1,1,1,1,1,1,1,1,1,1,1,1,1,1,1,1,1,1,1,1,1,1,1,1,1,1,1,1,1,1,1,1,1,1,1,1,1,1,1,1,1,1,1,1,1,1,1,1,1,1,1,1,1,1,1,1,1,1,1,1,1,1]:=by kernel_rfl
theorem Vel:Vi Tryz.prog 404=some [1,1,1,1,1,1,1,1,1,1,1,1,1,1,1,1,1,1,1,1,1,1,1,1,1,1,1,1,1,1,1,1,1,1,1,1,1,1,1,1,1,1,1,1,1,1,1,1,1,1,1,1,1,1,1,1,1,1,1,1,1,1,1,1,1]:=by kernel_rfl
theorem Xft:Vi Tryz.prog 411=some [3]:=by kernel_rfl
theorem Ugu:tsa Tryz.prog 414=some (1,false):=by kernel_rfl
theorem Ugz:Wc Tryz.prog 414=none:=by kernel_rfl
theorem Zhv:Ud Tryz.prog 414=false:=by kernel_rfl
theorem Via:Vf Tryz.prog 414=none:=by kernel_rfl
theorem Ug8:Xe Tryz.prog 414=0:=by kernel_rfl
theorem Uie:Vg Tryz.prog 414=false:=by kernel_rfl
theorem Yg9:Ue Tryz.prog 414=4:=by kernel_rfl
theorem Yil:tby Tryz.prog 414=8:=by kernel_rfl
theorem Zfr:tz Tryz.prog 414=some (.nilf):=by kernel_rfl
theorem Uhs:tzk Tryz.prog 414 1=true:=by kernel_rfl
theorem Yh2:tsa Tryz.prog 426=some (1,false):=by kernel_rfl
theorem Yhu:Wc Tryz.prog 426=none:=by kernel_rfl
theorem Wdg:Ud Tryz.prog 426=false:=by kernel_rfl
theorem Xhk:Vf Tryz.prog 426=none:=by kernel_rfl
theorem Vdu:Xe Tryz.prog 426=0:=by kernel_rfl
theorem Ufc:Vg Tryz.prog 426=false:=by kernel_rfl
theorem Ufp:Ue Tryz.prog 426=4:=by kernel_rfl
theorem Vc5:tby Tryz.prog 426=8:=by kernel_rfl
theorem Ugs:tz Tryz.prog 426=some (.nilf):=by kernel_rfl
theorem Vex:tzk Tryz.prog 426 1=true:=by kernel_rfl
theorem Whg:Un Tryz.prog 429=some (32,5):=by kernel_rfl
theorem Whl:apl Tryz.prog 429 0=some (0,1):=by kernel_rfl
theorem Udx:apl Tryz.prog 429 1=some (1,1):=by kernel_rfl
theorem Uc9:apl Tryz.prog 429 2=some (2,1):=by kernel_rfl
theorem Xel:apl Tryz.prog 429 3=some (3,1):=by kernel_rfl
theorem Xhu:apl Tryz.prog 429 4=some (4,1):=by kernel_rfl
theorem Zgt:apl Tryz.prog 429 5=some (5,1):=by kernel_rfl
theorem Wc6:apl Tryz.prog 429 6=some (6,1):=by kernel_rfl
theorem Yfs:apl Tryz.prog 429 7=some (7,1):=by kernel_rfl
theorem Zh5:apl Tryz.prog 429 8=some (8,1):=by kernel_rfl
theorem Zfw:apl Tryz.prog 429 9=some (9,1):=by kernel_rfl
theorem Yhe:apl Tryz.prog 429 10=some (10,1):=by kernel_rfl
theorem Xd9:apl Tryz.prog 429 11=some (11,1):=by kernel_rfl
theorem Wf5:apl Tryz.prog 429 12=some (12,1):=by kernel_rfl
theorem Wfx:apl Tryz.prog 429 13=some (13,1):=by kernel_rfl
theorem Wc3:apl Tryz.prog 429 14=some (14,1):=by kernel_rfl
theorem Web:apl Tryz.prog 429 15=some (15,1):=by kernel_rfl
theorem Vdq:Uk Tryz.prog 429=some [1,1,1,1,1,1,1,1,1,1,1,1,1,1,1,1,1,1,1,1,1,1,1,1,1,1,1,1,1,1,1,1]:=by kernel_rfl
theorem Xho:Vi Tryz.prog 429=some [1,1,1,1,1,1,1,1,1,1,1,1,1,1,1,1,1,1,1,1,1,1,1,1,1,1,1,1,1,1,1,1]:=by kernel_rfl
theorem Zf4 (parts:List (Nat × AV)):Ve Tryz.prog 429 parts=(Ye (apl Tryz.prog 429) [.int .u8 0,.int .u8 0,.int .u8 0,.int .u8 0,.int .u8 0,.int .u8 0,.int .u8 0,.int .u8 0,.int .u8 0,.int .u8 0,.int .u8 0,.int .u8 0,.int .u8 0,.int .u8 0,.int .u8 0,.int .u8 0,.int .u8 0,.int .u8 0,.int .u8 0,.int .u8 0,.int .u8 0,.int .u8 0,.int .u8 0,.int .u8 0,.int .u8 0,.int .u8 0,.int .u8 0,.int .u8 0,.int .u8 0,.int .u8 0,.int .u8 0,.int .u8 0] parts).map AV.agg:=Zg (by kernel_rfl) (by decide) (by kernel_rfl) parts
theorem Yc8:Un Tryz.prog 430=some (64,5):=by kernel_rfl
theorem Yhy:apl Tryz.prog 430 0=some (0,1):=by kernel_rfl
theorem Uer:apl Tryz.prog 430 1=some (1,1):=by kernel_rfl
theorem Zdw:apl Tryz.prog 430 2=some (2,1):=by kernel_rfl
theorem Xhx:apl Tryz.prog 430 3=some (3,1):=by kernel_rfl
theorem Zhi:apl Tryz.prog 430 4=some (4,1):=by kernel_rfl
theorem Veg:apl Tryz.prog 430 5=some (5,1):=by kernel_rfl
theorem Uf2:apl Tryz.prog 430 6=some (6,1):=by kernel_rfl
theorem Zic:apl Tryz.prog 430 7=some (7,1):=by kernel_rfl
theorem Zfm:apl Tryz.prog 430 8=some (8,1):=by kernel_rfl
theorem Whq:apl Tryz.prog 430 9=some (9,1):=by kernel_rfl
theorem Udb:apl Tryz.prog 430 10=some (10,1):=by kernel_rfl
theorem Wgy:apl Tryz.prog 430 11=some (11,1):=by kernel_rfl
theorem Xg1:apl Tryz.prog 430 12=some (12,1):=by kernel_rfl
theorem Vhw:apl Tryz.prog 430 13=some (13,1):=by kernel_rfl
theorem Ud9:apl Tryz.prog 430 14=some (14,1):=by kernel_rfl
theorem Vgq:apl Tryz.prog 430 15=some (15,1):=by kernel_rfl
theorem Yeq:Uk Tryz.prog 430=some [1,1,1,1,1,1,1,1,1,1,1,1,1,1,1,1,1,1,1,1,1,1,1,1,1,1,1,1,1,1,1,1,1,1,1,1,1,1,1,1,1,1,1,1,1,1,1,1,1,1,1,1,1,1,1,1,1,1,1,1,1,1,1,1]:=by kernel_rfl
theorem Ye1:Vi Tryz.prog 430=some [1,1,1,1,1,1,1,1,1,1,1,1,1,1,1,1,1,1,1,1,1,1,1,1,1,1,1,1,1,1,1,1,1,1,1,1,1,1,1,1,1,1,1,1,1,1,1,1,1,1,1,1,1,1,1,1,1,1,1,1,1,1,1,1]:=by kernel_rfl
theorem Uev (parts:List (Nat × AV)):Ve Tryz.prog 430 parts=(Ye (apl Tryz.prog 430) [.int .u8 0,.int .u8 0,.int .u8 0,.int .u8 0,.int .u8 0,.int .u8 0,.int .u8 0,.int .u8 0,.int .u8 0,.int .u8 0,.int .u8 0,.int .u8 0,.int .u8 0,.int .u8 0,.int .u8 0,.int .u8 0,.int .u8 0,.int .u8 0,.int .u8 0,.int .u8 0,.int .u8 0,.int .u8 0,.int .u8 0,.int .u8 0,.int .u8 0,.int .u8 0,.int .u8 0,.int .u8 0,.int .u8 0,.int .u8 0,.int .u8 0,.int .u8 0,.int .u8 0,.int .u8 0,.int .u8 0,.int .u8 0,.int .u8 0,.int .u8 0,.int .u8 0,.int .u8 0,.int .u8 0,.int .u8 0,.int .u8 0,.int .u8 0,.int .u8 0,.int .u8 0,.int .u8 0,.int .u8 0,.int .u8 0,.int .u8 0,.int .u8 0,.int .u8 0,.int .u8 0,.int .u8 0,.int .u8 0,.int .u8 0,.int .u8 0,.int .u8 0,.int .u8 0,.int .u8 0,.int .u8 0,.int .u8 0,.int .u8 0,.int .u8 0] parts).map AV.agg:=Zg (by kernel_rfl) (by decide) (by kernel_rfl) parts
attribute [simp] Vdx Wdz Ygm Xg6 Yfl Yhl Wd9 Xgf Zha Yej Ydk Yfx Wff Zge Zgu Zdd Zdb Ueh We7 Vhr Zdu Whd Wf7 Zec Wh4 Vg4 Zdc Wgg Uhd Vig Yew Yf9 Wc4 We9 Vhm Wg2 Vhc Udm Zc4 Xd0 Yei Wfa Whp Yg6 Ugy Ygw Uek Zc8 Xet Wei Wc5 Wij Vf5 Uhy Yfp Vfw Yh1 Xc3 Vda Wfg Ufa Yf8 Zh4 Vhp Ygf Wg4 Wdq Yg2 Yfc Zh7 Wgr Vif Zh1 Zf9 Zei Vfh Xfg Xdu Zd7 Uc3 Wd1 Xex Xhq Xeh Wel Zeq Xhi Xgv Wh0 Uhz Ue1 Xeq Wha Yfr Yel Xhv Ygk Wgx Yds Xdn Yc4 Whz Uf1 Vhz Zgo Ueg Uh5 Xe1 Xde Xd3 Xe6 Udp Wfi Wfv Uhr Xej Zde Zff Zg9 Xdw Yfh Zdl Uez Whs Vih Uhf Vhq Vdv Uhw Yd1 Wf6 Ze9 Xeo Zgd Yfb Ze8 Zik Zfg Zg4 Ufl Wgd Uij Wf3 Whh Yc9 Ufr Zd5 Yg1 Xgd Vgx Vfu Zft Uhn Zgr Yfj Yeu Uga Wc8 Xfx Xe0 Wfs Yd4 Vgb Vgc Yhk Vdi Xep Uhq Uf8 Xf8 Udg Zeg Yg7 Yhm Zh9 Zex Udr Ufg Xdz Uhx Yem Wfy Zen Uhl Udn Xgy Yha Uih Uia Vde Xc8 Yfy Vdz Ue2 Ufu Xfn Xec Wgh Wd4 Whu Ugd Yfd Zhq Zez Uic Weq Wfl Yhq Wfc Veh Zhe Vic Ud0 Xgx Wd0 Uf4 Wej Wgb Zgz Zh3 Zes Wgj Yhp Zfz Vfz Vh9 Zg0 We5 Ygd Vg8 Ydo Xgg Yee Ugr Wgw Wdu Yhf Wgm Uec Vgp Wdi Xgn Ydj Wgk Zhn Xev Wga Xha Zc6 Zd8 Zfx Xh6 Ygx Vff Ydm Xfd Xea Vdb Wf4 Wd2 Xfi Vf8 Zem Xeg Uh7 Uf5 Yfn Xg0 Vib Xf9 Ugc Xhc Veq Uda Wh1 Yd2 Zeo Vhd Ugh Xf4 Wfh Vei Wdw Vh5 Yh6 Wdh Ydd Ugm Udk Wfw Udo Uhv Vdc Yde Vg6 Zf3 Xib Vg5 Ydn Udh Vd7 Xdi Wez Why Xh8 Ydh Wgf Xgl Ud2 Wde Vd3 Xf2 Yge Yf6 Xe9 Zdq Ud1 Wc7 Ugg Zig Ve9 Ye2 Yic Ygz Vep Yih Weo Zdi Yh8 Wdk Xdg Zda Uc5 Vdy Yf4 Zgy Vfj Yhd Uel Xew Ue0 Ygc Zeh Uff Zhr Uc6 Uh8 Zfc Yii Ygr Zie Xgs Zd1 Zh2 Zhj Zed Vdd Ufk Zho Zdx Vh7 Xh1 Vd8 Wey Ydg Vg7 Wgo Ze1 Wek Ud3 Zdp Vfs Ve1 Yez Vgd Xhe Wgs Zhy Zep Wg6 Ud4 Ued Yeg Vel Xft Ugu Ugz Zhv Via Ug8 Uie Yg9 Yil Zfr Uhs Yh2 Yhu Wdg Xhk Vdu Ufc Ufp Vc5 Ugs Vex Whg Whl Udx Uc9 Xel Xhu Zgt Wc6 Yfs Zh5 Zfw Yhe Xd9 Wf5 Wfx Wc3 Web Vdq Xho Zf4 Yc8 Yhy Uer Zdw Xhx Zhi Veg Uf2 Zic Zfm Whq Udb Wgy Xg1 Vhw Ud9 Vgq Yeq Ye1 Uev
end Ab

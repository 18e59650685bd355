/-
  Texts packed for a claim.
-/
import Derived.Test.YtdifgaapdnbliaaGreatDoorS00
import Derived.Shelf.Strings.Builder1
import Derived.Shelf.Strings.OnBuilder
import Derived.Shelf.LaysM
import Derived.Shelf.Strconv.Itoa3
import Derived.Shelf.LaysC
import Derived.Shelf.Strconv.ErrVarAll
import Derived.Ground.Names2Prog
import Derived.Ground.SlgnProg
import Derived.Test.YtdifgaapdnbliaaGreatDoorProg
import Derived.Lib.Bytealg
import Derived.Test.YtdifgaapdnbliaaGreatDoorS11
set_option linter.all false
namespace Go.Proofs
open Go.Shelf
def Tryz.lays169_ren:Go.Shelf.Ren:=⟨fun | 169=>121 | n=>n,fun | 70=>177 | 9=>9 | 0=>0 | 72=>179 | 37=>75 | 127=>222 | 3=>3 | 5=>5 | n=>n,fun | n=>n⟩
theorem Tryz.lays169:Go.Proofs.Lays.n169 Tryz.prog Tryz.lays169_ren:={
 mixed:=by kernel_rfl
 f169:=Tryz.func121.trans (congrArg some (by kernel_rfl))
 t0:=Tryz.underlying0
 a0:=Tryz.isAgg0
 z0:=Tryz.sizeOf0
 v0:=Tryz.zeroValue0
 t3:=Tryz.underlying3
 a3:=Tryz.isAgg3
 z3:=Tryz.sizeOf3
 v3:=Tryz.zeroValue3
 t9:=Tryz.underlying9
 a9:=Tryz.isAgg9
 z9:=Tryz.sizeOf9
 v9:=Tryz.zeroValue9
 t37:=Tryz.underlying75
 a37:=Tryz.isAgg75
 z37:=Tryz.sizeOf75
 v37:=Tryz.zeroValue75
 t70:=Tryz.underlying177
 a70:=Tryz.isAgg177
 z70:=Tryz.sizeOf177
 v70:=Tryz.zeroValue177
 t72:=Tryz.underlying179
 a72:=Tryz.isAgg179
 z72:=Tryz.sizeOf179
 v72:=Tryz.zeroValue179
 t127:=Tryz.underlying222
 a127:=Tryz.isAgg222
 z127:=Tryz.sizeOf222
 v127:=Tryz.zeroValue222 }
theorem Tryz.Builder_Extra_169:Builder.Extra Tryz.prog Tryz.lays169_ren:={
 sizeBuilder:=by kernel_rfl
 liesBuilder:=by kernel_rfl
 t5:=Tryz.underlying5
 a5:=Tryz.isAgg5
 z5:=Tryz.sizeOf5
 v5:=Tryz.zeroValue5
 infoByte:=by kernel_rfl
 cellsByte:=by kernel_rfl
 sizeByte:=by kernel_rfl
 neB5:=by decide }
def Tryz.lays156_ren:Go.Shelf.Ren:=⟨fun | 156=>49 | 165=>123 | 166=>119 | 169=>121 | 240=>168 | 241=>172 | 276=>207 | 277=>211 | n=>n,fun | 31=>55 | 9=>9 | 3=>3 | 4=>4 | 0=>0 | 20=>20 | 72=>179 | 76=>182 | 70=>177 | 37=>75 | 75=>181 | 127=>222 | 164=>259 | 5=>5 | 80=>184 | n=>n,fun | n=>n⟩
theorem Tryz.lays156:Go.Proofs.Lays.n156 Tryz.prog Tryz.lays156_ren:={
 mixed:=by kernel_rfl
 f156:=Tryz.func49.trans (congrArg some (by kernel_rfl))
 f165:=Tryz.func123.trans (congrArg some (by kernel_rfl))
 f166:=Tryz.func119.trans (congrArg some (by kernel_rfl))
 f169:=Tryz.func121.trans (congrArg some (by kernel_rfl))
 f240:=Tryz.func168.trans (congrArg some (by kernel_rfl))
 f241:=Tryz.func172.trans (congrArg some (by kernel_rfl))
 f276:=Tryz.func207.trans (congrArg some (by kernel_rfl))
 f277:=Tryz.func211.trans (congrArg some (by kernel_rfl))
 t0:=Tryz.underlying0
 a0:=Tryz.isAgg0
 z0:=Tryz.sizeOf0
 v0:=Tryz.zeroValue0
 t3:=Tryz.underlying3
 a3:=Tryz.isAgg3
 z3:=Tryz.sizeOf3
 v3:=Tryz.zeroValue3
 t4:=Tryz.underlying4
 a4:=Tryz.isAgg4
 z4:=Tryz.sizeOf4
 v4:=Tryz.zeroValue4
 t9:=Tryz.underlying9
 a9:=Tryz.isAgg9
 z9:=Tryz.sizeOf9
 v9:=Tryz.zeroValue9
 t20:=Tryz.underlying20
 a20:=Tryz.isAgg20
 z20:=Tryz.sizeOf20
 v20:=Tryz.zeroValue20
 t31:=Tryz.underlying55
 a31:=Tryz.isAgg55
 z31:=Tryz.sizeOf55
 v31:=Tryz.zeroValue55
 t37:=Tryz.underlying75
 a37:=Tryz.isAgg75
 z37:=Tryz.sizeOf75
 v37:=Tryz.zeroValue75
 t70:=Tryz.underlying177
 a70:=Tryz.isAgg177
 z70:=Tryz.sizeOf177
 v70:=Tryz.zeroValue177
 t72:=Tryz.underlying179
 a72:=Tryz.isAgg179
 z72:=Tryz.sizeOf179
 v72:=Tryz.zeroValue179
 t75:=Tryz.underlying181
 a75:=Tryz.isAgg181
 z75:=Tryz.sizeOf181
 v75:=Tryz.zeroValue181
 t76:=Tryz.underlying182
 a76:=Tryz.isAgg182
 z76:=Tryz.sizeOf182
 v76:=Tryz.zeroValue182
 t127:=Tryz.underlying222
 a127:=Tryz.isAgg222
 z127:=Tryz.sizeOf222
 v127:=Tryz.zeroValue222
 t164:=Tryz.underlying259
 a164:=Tryz.isAgg259
 z164:=Tryz.sizeOf259
 v164:=Tryz.zeroValue259 }
theorem Tryz.Builder_Extra_156:Builder.Extra Tryz.prog Tryz.lays156_ren:={
 sizeBuilder:=by kernel_rfl
 liesBuilder:=by kernel_rfl
 t5:=Tryz.underlying5
 a5:=Tryz.isAgg5
 z5:=Tryz.sizeOf5
 v5:=Tryz.zeroValue5
 infoByte:=by kernel_rfl
 cellsByte:=by kernel_rfl
 sizeByte:=by kernel_rfl
 neB5:=by decide }
open Go.RowKit in
open Go.RowKit in
theorem Tryz.strings_Join (bk o c:Nat) (xs:List ByteArray) (sep:ByteArray) (w:World) (hcells:∀ (j:Nat) x,xs[j]? = some x→w.cell? ⟨bk,o+j,none⟩=some (.string x)) (hbk:bk<w.heap.size) (hN:xs.length≤140737488355328) (hcap:xs.length≤c) (hlen:(Lib.join (xs.map (·.data.toList)) sep.data.toList).length≤140737488355328) :
  Calls Tryz.prog 49 #[.slice (some ⟨bk,o,none⟩) xs.length c,.string sep] w fun e w'=>e=.returned (.string ⟨(Lib.join (xs.map (·.data.toList)) sep.data.toList).toArray⟩)∧Below w.heap.size w w':=Any.strings_Join Tryz.lays156 Tryz.Builder_Extra_156 bk o c xs sep w hcells hbk hN hcap hlen
def Tryz.laysM171_ren:Go.Shelf.Ren:=⟨fun | 171=>160 | 243=>193 | 246=>223 | 283=>250 | 284=>251 | 285=>252 | 286=>253 | 129=>206 | 317=>264 | 318=>265 | 319=>266 | 320=>267 | 337=>271 | 338=>272 | n=>n,fun | 3=>3 | 9=>9 | 2=>2 | 4=>4 | 171=>289 | 0=>0 | 53=>240 | 37=>75 | 5=>5 | 173=>291 | 212=>308 | 51=>174 | 20=>20 | 213=>309 | 46=>91 | 232=>315 | 233=>316 | n=>n,fun | 17=>5 | 18=>6 | 19=>7 | n=>n⟩
theorem Tryz.laysM171:Go.Proofs.LaysM.n171 Tryz.prog Tryz.laysM171_ren:={
 mixed:=by kernel_rfl
 f129:=Tryz.func206.trans (congrArg some (by kernel_rfl))
 f171:=Tryz.func160.trans (congrArg some (by kernel_rfl))
 f243:=Tryz.func193.trans (congrArg some (by kernel_rfl))
 f246:=Tryz.func223.trans (congrArg some (by kernel_rfl))
 f283:=Tryz.func250.trans (congrArg some (by kernel_rfl))
 f284:=Tryz.func251.trans (congrArg some (by kernel_rfl))
 f285:=Tryz.func252.trans (congrArg some (by kernel_rfl))
 f286:=Tryz.func253.trans (congrArg some (by kernel_rfl))
 f317:=Tryz.func264.trans (congrArg some (by kernel_rfl))
 f318:=Tryz.func265.trans (congrArg some (by kernel_rfl))
 f319:=Tryz.func266.trans (congrArg some (by kernel_rfl))
 f320:=Tryz.func267.trans (congrArg some (by kernel_rfl))
 f337:=Tryz.func271.trans (congrArg some (by kernel_rfl))
 f338:=Tryz.func272.trans (congrArg some (by kernel_rfl))
 t0:=Tryz.underlying0
 a0:=Tryz.isAgg0
 z0:=Tryz.sizeOf0
 v0:=Tryz.zeroValue0
 t2:=Tryz.underlying2
 a2:=Tryz.isAgg2
 z2:=Tryz.sizeOf2
 v2:=Tryz.zeroValue2
 t3:=Tryz.underlying3
 a3:=Tryz.isAgg3
 z3:=Tryz.sizeOf3
 v3:=Tryz.zeroValue3
 t4:=Tryz.underlying4
 a4:=Tryz.isAgg4
 z4:=Tryz.sizeOf4
 v4:=Tryz.zeroValue4
 t5:=Tryz.underlying5
 a5:=Tryz.isAgg5
 z5:=Tryz.sizeOf5
 v5:=Tryz.zeroValue5
 t9:=Tryz.underlying9
 a9:=Tryz.isAgg9
 z9:=Tryz.sizeOf9
 v9:=Tryz.zeroValue9
 t20:=Tryz.underlying20
 a20:=Tryz.isAgg20
 z20:=Tryz.sizeOf20
 v20:=Tryz.zeroValue20
 t37:=Tryz.underlying75
 a37:=Tryz.isAgg75
 z37:=Tryz.sizeOf75
 v37:=Tryz.zeroValue75
 t46:=Tryz.underlying91
 a46:=Tryz.isAgg91
 z46:=Tryz.sizeOf91
 v46:=Tryz.zeroValue91
 t51:=Tryz.underlying174
 a51:=Tryz.isAgg174
 z51:=Tryz.sizeOf174
 v51:=Tryz.zeroValue174
 t53:=Tryz.underlying240
 a53:=Tryz.isAgg240
 z53:=Tryz.sizeOf240
 v53:=Tryz.zeroValue240
 t171:=Tryz.underlying289
 a171:=Tryz.isAgg289
 z171:=Tryz.sizeOf289
 v171:=Tryz.zeroValue289
 t173:=Tryz.underlying291
 a173:=Tryz.isAgg291
 z173:=Tryz.sizeOf291
 v173:=Tryz.zeroValue291
 t212:=Tryz.underlying308
 a212:=Tryz.isAgg308
 z212:=Tryz.sizeOf308
 v212:=Tryz.zeroValue308
 t213:=Tryz.underlying309
 a213:=Tryz.isAgg309
 z213:=Tryz.sizeOf309
 t232:=Tryz.underlying315
 a232:=Tryz.isAgg315
 z232:=Tryz.sizeOf315
 v232:=Tryz.zeroValue315
 t233:=Tryz.underlying316
 a233:=Tryz.isAgg316
 z233:=Tryz.sizeOf316
 v233:=Tryz.zeroValue316
 g17:=by kernel_rfl
 g18:=by kernel_rfl
 g19:=by kernel_rfl
 i0:=by kernel_rfl
 i2:=by kernel_rfl
 i3:=by kernel_rfl
 i4:=by kernel_rfl
 i5:=by kernel_rfl
 i9:=by kernel_rfl
 i20:=by kernel_rfl
 i37:=by kernel_rfl
 i46:=by kernel_rfl
 i51:=by kernel_rfl
 i53:=by kernel_rfl
 i171:=by kernel_rfl
 i173:=by kernel_rfl
 i212:=by kernel_rfl
 i232:=by kernel_rfl
 i233:=by kernel_rfl
 m17:=by kernel_rfl
 m18:=by kernel_rfl
 m19:=by kernel_rfl }
open Go.RowKit Go.Sort Go.Lib in
theorem Tryz.strconv_Itoa (n:Int) (h0:-9223372036854775808≤n) (h1:n≤9223372036854775807) (w:World) (htab:Lib.TabIs Tryz.prog w "internal/strconv.uint64pow10" .u64 Lib.pow10Tab) :
  Calls Tryz.prog 160 #[.int .i64 n] w fun e w'=>e=.returned (.string ⟨(Lib.itoa n).toArray⟩)∧∃ k os,w'=grow (w.drewN k) os:=Any.strconv_Itoa Tryz.laysM171 n h0 h1 w htab
def Tryz.laysC172_ren:Go.Shelf.Ren:=⟨fun | 172=>188 | 244=>220 | 245=>221 | 247=>244 | 279=>245 | 280=>246 | 281=>247 | 282=>248 | 287=>259 | 316=>260 | 171=>160 | 205=>261 | 321=>269 | 322=>270 | 243=>193 | 246=>223 | 283=>250 | 284=>251 | 285=>252 | 286=>253 | 129=>206 | 317=>264 | 318=>265 | 319=>266 | 320=>267 | 337=>271 | 338=>272 | n=>n,fun | 9=>9 | 3=>3 | 75=>181 | 76=>182 | 4=>4 | 5=>5 | 167=>282 | 37=>75 | 0=>0 | 85=>283 | 2=>2 | 168=>285 | 53=>240 | 175=>302 | 46=>91 | 210=>305 | 127=>222 | 145=>314 | 143=>312 | 21=>21 | 171=>289 | 173=>291 | 212=>308 | 51=>174 | 20=>20 | 213=>309 | 232=>315 | 233=>316 | 80=>184 | n=>n,fun | 15=>3 | 16=>4 | 17=>5 | 18=>6 | 19=>7 | n=>n⟩
theorem Tryz.laysC172:Go.Proofs.LaysC.n172 Tryz.prog Tryz.laysC172_ren:={
 mixed:=by kernel_rfl
 f129:=Tryz.func206.trans (congrArg some (by kernel_rfl))
 f171:=Tryz.func160.trans (congrArg some (by kernel_rfl))
 f172:=Tryz.func188.trans (congrArg some (by kernel_rfl))
 f205:=Tryz.func261.trans (congrArg some (by kernel_rfl))
 f243:=Tryz.func193.trans (congrArg some (by kernel_rfl))
 f244:=Tryz.func220.trans (congrArg some (by kernel_rfl))
 f245:=Tryz.func221.trans (congrArg some (by kernel_rfl))
 f246:=Tryz.func223.trans (congrArg some (by kernel_rfl))
 f247:=Tryz.func244.trans (congrArg some (by kernel_rfl))
 f279:=Tryz.func245.trans (congrArg some (by kernel_rfl))
 f280:=Tryz.func246.trans (congrArg some (by kernel_rfl))
 f281:=Tryz.func247.trans (congrArg some (by kernel_rfl))
 f282:=Tryz.func248.trans (congrArg some (by kernel_rfl))
 f283:=Tryz.func250.trans (congrArg some (by kernel_rfl))
 f284:=Tryz.func251.trans (congrArg some (by kernel_rfl))
 f285:=Tryz.func252.trans (congrArg some (by kernel_rfl))
 f286:=Tryz.func253.trans (congrArg some (by kernel_rfl))
 f287:=Tryz.func259.trans (congrArg some (by kernel_rfl))
 f316:=Tryz.func260.trans (congrArg some (by kernel_rfl))
 f317:=Tryz.func264.trans (congrArg some (by kernel_rfl))
 f318:=Tryz.func265.trans (congrArg some (by kernel_rfl))
 f319:=Tryz.func266.trans (congrArg some (by kernel_rfl))
 f320:=Tryz.func267.trans (congrArg some (by kernel_rfl))
 f321:=Tryz.func269.trans (congrArg some (by kernel_rfl))
 f322:=Tryz.func270.trans (congrArg some (by kernel_rfl))
 f337:=Tryz.func271.trans (congrArg some (by kernel_rfl))
 f338:=Tryz.func272.trans (congrArg some (by kernel_rfl))
 t0:=Tryz.underlying0
 a0:=Tryz.isAgg0
 z0:=Tryz.sizeOf0
 v0:=Tryz.zeroValue0
 t2:=Tryz.underlying2
 a2:=Tryz.isAgg2
 z2:=Tryz.sizeOf2
 v2:=Tryz.zeroValue2
 t3:=Tryz.underlying3
 a3:=Tryz.isAgg3
 z3:=Tryz.sizeOf3
 v3:=Tryz.zeroValue3
 t4:=Tryz.underlying4
 a4:=Tryz.isAgg4
 z4:=Tryz.sizeOf4
 v4:=Tryz.zeroValue4
 t5:=Tryz.underlying5
 a5:=Tryz.isAgg5
 z5:=Tryz.sizeOf5
 v5:=Tryz.zeroValue5
 t9:=Tryz.underlying9
 a9:=Tryz.isAgg9
 z9:=Tryz.sizeOf9
 v9:=Tryz.zeroValue9
 t20:=Tryz.underlying20
 a20:=Tryz.isAgg20
 z20:=Tryz.sizeOf20
 v20:=Tryz.zeroValue20
 t21:=Tryz.underlying21
 a21:=Tryz.isAgg21
 z21:=Tryz.sizeOf21
 v21:=Tryz.zeroValue21
 t37:=Tryz.underlying75
 a37:=Tryz.isAgg75
 z37:=Tryz.sizeOf75
 v37:=Tryz.zeroValue75
 t46:=Tryz.underlying91
 a46:=Tryz.isAgg91
 z46:=Tryz.sizeOf91
 v46:=Tryz.zeroValue91
 t51:=Tryz.underlying174
 a51:=Tryz.isAgg174
 z51:=Tryz.sizeOf174
 v51:=Tryz.zeroValue174
 t53:=Tryz.underlying240
 a53:=Tryz.isAgg240
 z53:=Tryz.sizeOf240
 v53:=Tryz.zeroValue240
 t75:=Tryz.underlying181
 a75:=Tryz.isAgg181
 z75:=Tryz.sizeOf181
 v75:=Tryz.zeroValue181
 t76:=Tryz.underlying182
 a76:=Tryz.isAgg182
 z76:=Tryz.sizeOf182
 v76:=Tryz.zeroValue182
 t85:=Tryz.underlying283
 a85:=Tryz.isAgg283
 z85:=Tryz.sizeOf283
 v85:=Tryz.zeroValue283
 t127:=Tryz.underlying222
 a127:=Tryz.isAgg222
 z127:=Tryz.sizeOf222
 v127:=Tryz.zeroValue222
 t143:=Tryz.underlying312
 a143:=Tryz.isAgg312
 z143:=Tryz.sizeOf312
 v143:=Tryz.zeroValue312
 t145:=Tryz.underlying314
 a145:=Tryz.isAgg314
 z145:=Tryz.sizeOf314
 v145:=Tryz.zeroValue314
 t167:=Tryz.underlying282
 a167:=Tryz.isAgg282
 z167:=Tryz.sizeOf282
 v167:=Tryz.zeroValue282
 t168:=Tryz.underlying285
 a168:=Tryz.isAgg285
 z168:=Tryz.sizeOf285
 v168:=Tryz.zeroValue285
 t171:=Tryz.underlying289
 a171:=Tryz.isAgg289
 z171:=Tryz.sizeOf289
 v171:=Tryz.zeroValue289
 t173:=Tryz.underlying291
 a173:=Tryz.isAgg291
 z173:=Tryz.sizeOf291
 v173:=Tryz.zeroValue291
 t175:=Tryz.underlying302
 a175:=Tryz.isAgg302
 z175:=Tryz.sizeOf302
 v175:=Tryz.zeroValue302
 t210:=Tryz.underlying305
 a210:=Tryz.isAgg305
 z210:=Tryz.sizeOf305
 v210:=Tryz.zeroValue305
 t212:=Tryz.underlying308
 a212:=Tryz.isAgg308
 z212:=Tryz.sizeOf308
 v212:=Tryz.zeroValue308
 t213:=Tryz.underlying309
 a213:=Tryz.isAgg309
 z213:=Tryz.sizeOf309
 t232:=Tryz.underlying315
 a232:=Tryz.isAgg315
 z232:=Tryz.sizeOf315
 v232:=Tryz.zeroValue315
 t233:=Tryz.underlying316
 a233:=Tryz.isAgg316
 z233:=Tryz.sizeOf316
 v233:=Tryz.zeroValue316
 g15:=by kernel_rfl
 g16:=by kernel_rfl
 g17:=by kernel_rfl
 g18:=by kernel_rfl
 g19:=by kernel_rfl
 t80:=Tryz.underlying184
 a80:=Tryz.isAgg184
 z80:=Tryz.sizeOf184
 v80:=Tryz.zeroValue184
 i0:=by kernel_rfl
 i2:=by kernel_rfl
 i3:=by kernel_rfl
 i4:=by kernel_rfl
 i5:=by kernel_rfl
 i9:=by kernel_rfl
 i20:=by kernel_rfl
 i21:=by kernel_rfl
 i37:=by kernel_rfl
 i46:=by kernel_rfl
 i51:=by kernel_rfl
 i53:=by kernel_rfl
 i75:=by kernel_rfl
 i76:=by kernel_rfl
 i80:=by kernel_rfl
 i85:=by kernel_rfl
 i127:=by kernel_rfl
 i143:=by kernel_rfl
 i145:=by kernel_rfl
 i167:=by kernel_rfl
 i168:=by kernel_rfl
 i171:=by kernel_rfl
 i173:=by kernel_rfl
 i175:=by kernel_rfl
 i210:=by kernel_rfl
 i212:=by kernel_rfl
 i232:=by kernel_rfl
 i233:=by kernel_rfl
 m15:=by kernel_rfl
 m16:=by kernel_rfl
 m17:=by kernel_rfl
 m18:=by kernel_rfl
 m19:=by kernel_rfl
 c0:=by kernel_rfl
 c2:=by kernel_rfl
 c3:=by kernel_rfl
 c4:=by kernel_rfl
 c5:=by kernel_rfl
 c9:=by kernel_rfl
 c20:=by kernel_rfl
 c21:=by kernel_rfl
 c37:=by kernel_rfl
 c46:=by kernel_rfl
 c51:=by kernel_rfl
 c53:=by kernel_rfl
 c75:=by kernel_rfl
 c76:=by kernel_rfl
 c80:=by kernel_rfl
 c85:=by kernel_rfl
 c127:=by kernel_rfl
 c143:=by kernel_rfl
 c145:=by kernel_rfl
 c167:=by kernel_rfl
 c168:=by kernel_rfl
 c171:=by kernel_rfl
 c173:=by kernel_rfl
 c175:=by kernel_rfl
 c210:=by kernel_rfl
 c212:=by kernel_rfl
 c213:=by kernel_rfl
 c232:=by kernel_rfl
 c233:=by kernel_rfl }
open Go.RowKit in
theorem Tryz.strconv_Atoi_ok (s:ByteArray) (hmax:s.size≤9223372036854775806) (v:Int) (h:Lib.atoiAll s.data.toList=.ok v) (w:World) :
  Calls Tryz.prog 188 #[.string s] w fun e w'=>e=.returned (.tuple #[.int .i64 v,.nilIface])∧(w'=w∨∃ t,w'=Lib.bytesWorld w 5 t):=Any.strconv_Atoi_ok Tryz.laysC172 s hmax v h w
open Go.RowKit in
theorem Tryz.strconv_Atoi_bad_var (s:ByteArray) (hlim:s.size≤281474976710656) (h:Lib.atoiAll s.data.toList=Lib.atoiAll []) (tp:TypeId) (p:Value) (w:World) (hvar:w.var? Tryz.prog "strconv.ErrSyntax"=some #[.iface tp p]) :
  Calls Tryz.prog 188 #[.string s] w fun e w'=>∃ N,e=.returned (.tuple #[.int .i64 0,.iface 285 (.pointer (some ⟨N,0,none⟩))])∧w.heap.size≤N∧w'.heap[N]? = some (.cells #[.string ⟨#[65,116,111,105]⟩,.string s,.iface tp p] 305 (0,0))∧Below w.heap.size w w':=Any.strconv_Atoi_syntax_var Tryz.laysC172 s hlim (h.trans rfl) tp p w hvar
open Go.RowKit in
theorem Tryz.strconv_Atoi_range_var (s:ByteArray) (hlim:s.size≤281474976710656) (h:Lib.atoiAll s.data.toList=.range) (tp:TypeId) (p:Value) (w:World) (hvar:w.var? Tryz.prog "strconv.ErrRange"=some #[.iface tp p]) :
  Calls Tryz.prog 188 #[.string s] w fun e w'=>∃ N,e=.returned (.tuple #[.int .i64 (Lib.atoiSat s.data.toList),.iface 285 (.pointer (some ⟨N,0,none⟩))])∧w.heap.size≤N∧w'.heap[N]? = some (.cells #[.string ⟨#[65,116,111,105]⟩,.string s,.iface tp p] 305 (0,0))∧Below w.heap.size w w':=Any.strconv_Atoi_range_var Tryz.laysC172 s hlim h tp p w hvar
end Go.Proofs
namespace Ab
open Go Go.RowKit Go.Proofs
attribute [local irreducible] aws awp aw1 Og Om Oc Oa Ogd Ov Ot awd Ub Zc Wc QFn Zd ACode AYield
theorem APure.kit {f:FuncId} {args:List AV} {v:AV} (hen:Enters Tryz.prog f)
  (h:∀ (C:Ctx) (cargs:List Value) (σ:Za),Inv C σ→VRs C args cargs→Calls Tryz.prog f cargs.toArray C.w fun e w'=>∃ c,e=.returned c∧VR C v c∧Below C.w.heap.size C.w w'):APure Tryz.prog f args v:=by
 intro σ
 refine .inl ⟨hen,fun C cargs hI hv=>callsIn_wide.2 ((h C cargs σ hI hv).mono ?_)⟩
 rintro e w' ⟨c,rfl,hc,hb⟩
 have hE:=Ext.below hI.plt hb (fun h=>False.elim h)
 exact ⟨c,C.at_ w',v,σ,rfl,rfl,hE,hI.below hb,hc.ext hE,rfl,rfl⟩
theorem APure.ext {f:FuncId} {args:List AV} {v:AV} (h:∀ (C:Ctx) (cargs:List Value),VRs C args cargs→∃ c,(callFunc f cargs.toArray).run Tryz.prog C.w=.ok (.value c) C.w∧VR C v c):APure Tryz.prog f args v:=by
 intro σ
 refine .inr fun C cargs hI hv=>?_
 obtain ⟨c,h1,h2⟩:=h C cargs hv
 exact ⟨c,C,v,σ,h1,Ext.refl C,hI,h2,rfl,rfl⟩
theorem Ube {C:Ctx} {σ:Za} (hI:Inv C σ):GoodW C.w:=hI.glob.below hI.base
theorem below_grow (w:World) (n:Nat) (os:Array Obj):Below w.heap.size w (Go.Sort.grow (w.drewN n) os):=by
 refine ⟨rfl,rfl,rfl,?_,fun k hk=>?_⟩
 ·show w.heap.size≤(w.heap++os).size
  simp
 ·show (w.heap++os)[k]? = w.heap[k]?
  rw [Array.getElem?_append_left hk]
theorem Udd (s:List UInt8) (c:UInt8):APure Tryz.prog 242 [.str s,.int .u8 c.toNat] (.int .i64 (Lib.indexByte s c)):=by
 refine APure.ext fun C cargs hv=>?_
 obtain ⟨x,r,rfl,h1,h2⟩:=hv.inv
 obtain ⟨y,r,rfl,h4,h3⟩:=h2.inv
 obtain rfl:=h3.of_nil
 rw [h1.str_inv,h4.int_inv]
 refine ⟨.int .i64 (Lib.indexByte s c),?_,.int _ _⟩
 rw [run_callFunc_extern Tryz.func242 (by kernel_rfl) (by kernel_rfl) (by kernel_rfl) (e:=Extern.BytealgIndexByte.indexByte) (by kernel_rfl)]
 have:=Lib.run_indexByteString (P:=Tryz.prog) ⟨⟨s⟩⟩ (c.toNat:Int) C.w
 simp only [Int.toNat_natCast] at this
 rw [this]
 simp [Result.andThen]
def Xf (c:UInt8):List UInt8→List UInt8 × List UInt8 × Bool
 | []=>([],[],false)
 | b::t=>if b=c then ([],t,true) else (b::(Xf c t).1,(Xf c t).2.1,(Xf c t).2.2)
theorem Xe0 (c:UInt8) (s:List UInt8):if (Xf c s).2.2=true then
   ∃ n:Nat,Lib.indexByte s c=n∧n<s.length∧(Xf c s).1=s.take n∧(Xf c s).2.1=s.drop (n+1)
  else Lib.indexByte s c=-1∧(Xf c s).1=s∧(Xf c s).2.1=[]:=by
 induction s with
 | nil=>simp [Xf,Lib.indexByte]
 | cons b t ih =>
  unfold Xf Lib.indexByte
  by_cases h:b=c
  ·simp [h]
   exact ⟨0,rfl,by omega,rfl,rfl⟩
  ·have hb:(b == c)=false:=by simpa using h
   simp only [if_neg h,hb,Bool.false_eq_true,if_false]
   cases hf:(Xf c t).2.2 with
   | true =>
    rw [hf] at ih
    simp only [if_true] at ih ⊢
    obtain ⟨n,h1,h2,h3,h4⟩:=ih
    have h5:(Lib.indexByte t c == -1)=false:=by rw [h1];simp
    refine ⟨n+1,by rw [h5,h1];simp,by simpa using h2,by simp [h3],by simpa using h4⟩
   | false =>
    rw [hf] at ih
    simp only [Bool.false_eq_true,if_false] at ih ⊢
    obtain ⟨h1,h2,h3⟩:=ih
    simp [h1,h2,h3]
theorem Zcc (s:List UInt8) (c:UInt8):APure Tryz.prog 216 [.str s,.int .u8 c.toNat] (.int .i64 (Lib.indexByte s c)):=by
 intro σ
 refine Ua Tryz.func216 rfl (Wa Tryz.func216 (by decide) rfl) ?_
 simp [Tryz.ntmps216]
 refine (Udd s c).use ?_
 simp
set_option maxRecDepth 4000 in
theorem Ycx (s:List UInt8) (c:UInt8):APure Tryz.prog 186 [.str s,.str [c]] (.int .i64 (Lib.indexByte s c)):=by
 intro σ
 refine Ua Tryz.func186 rfl (Wa Tryz.func186 (by decide) rfl) ?_
 by_cases h:[c]=s
 ·subst h
  simp [Tryz.ntmps186,Lib.indexByte]
 ·simp [Tryz.ntmps186,h]
  refine (Zcc s c).use ?_
  simp
set_option maxRecDepth 4000 in
theorem Xbx (s:List UInt8) (c:UInt8) (hs:s.length≤2^50):APure Tryz.prog 81 [.str s,.str [c]] (.tup [.str (Xf c s).1,.str (Xf c s).2.1,.bool (Xf c s).2.2]):=by
 have h1:APure Tryz.prog 144 [.str s,.str [c]] (.tup [.str (Xf c s).1,.str (Xf c s).2.1,.bool (Xf c s).2.2]):=by
  intro σ
  refine Ua Tryz.func144 rfl (Wa Tryz.func144 (by decide) rfl) ?_
  have hx:=Xe0 c s
  simp [Tryz.ntmps144]
  refine (Ycx s c).use ?_
  cases hf:(Xf c s).2.2 with
  | true =>
   rw [hf] at hx
   simp only [if_true] at hx
   obtain ⟨n,h1,h2,h3,h4⟩:=hx
   rw [h1,h3,h4]
   have h0:(0:Int)≤(n:Int):=by omega
   simp [h0]
   refine Zg mixed (by kernel_rfl) ?_
   have hw:=w64 (n:=(n:Int)+1) (by omega) (by omega)
   have h5:(0:Int)≤(n:Int)+1:=by omega
   have h6:n≤s.length:=by omega
   have h7:n+1≤s.length:=by omega
   simp [hw,h0,h5,h6,h7]
  | false =>
   rw [hf] at hx
   simp only [Bool.false_eq_true,if_false] at hx
   obtain ⟨h1,h2,h3⟩:=hx
   rw [h1,h2,h3]
   simp
 intro σ
 refine Ua Tryz.func81 rfl (Wa Tryz.func81 (by decide) rfl) ?_
 simp [Tryz.ntmps81]
 refine h1.use ?_
 simp
theorem Vcu (s:List UInt8):Oyez.cutLine s=((Xf 10 s).1,(Xf 10 s).2.2,(Xf 10 s).2.1):=by
 induction s with
 | nil=>rfl
 | cons b t ih =>
  unfold Oyez.cutLine Xf
  by_cases h:b=10
  ·simp [h]
  ·simp [h,ih]
theorem Zev (s:List UInt8):Oyez.words s=if (Xf 32 s).2.2 then (Xf 32 s).1::Oyez.words (Xf 32 s).2.1 else [(Xf 32 s).1]:=by
 induction s with
 | nil=>rfl
 | cons b t ih =>
  by_cases h:b=32
  ·subst h;rw [Xa7];simp [Xf]
  ·have e:Xf 32 (b::t)=(b::(Xf 32 t).1,(Xf 32 t).2.1,(Xf 32 t).2.2):=by rw [Xf,if_neg h]
   rw [Va1 b t h,ih,e]
   cases (Xf 32 t).2.2<;>simp [Yu]
theorem Vb6 (c:UInt8) (s:List UInt8):(Xf c s).2.1.length≤s.length∧(Xf c s).1.length≤s.length∧((Xf c s).2.2=true→(Xf c s).2.1.length<s.length):=by
 induction s with
 | nil=>simp [Xf]
 | cons b t ih =>
  unfold Xf
  split
  ·simp
  ·refine ⟨by simp;omega,by simp;omega,fun h=>?_⟩
   have:=ih.2.2 h
   simp;omega
theorem Ucf (s:List UInt8) (c:UInt8) (hs:s.length≤2^50):APure Tryz.prog 192 [.str s,.str [c]] (.bool (decide (s.getLast? = some c))):=by
 intro σ
 refine Ua Tryz.func192 rfl (Wa Tryz.func192 (by decide) rfl) ?_
 obtain rfl | ⟨t,b,rfl⟩:s=[]∨∃ t b,s=t++[b]:=by
  rcases List.eq_nil_or_concat s with h | ⟨t,b,h⟩
  ·exact .inl h
  ·exact .inr ⟨t,b,by simpa using h⟩
 ·simp [Tryz.ntmps192]
 ·simp at hs
  have h1:(1:Int)≤(t.length:Int)+1:=by omega
  have hw:=w64 (n:=(t.length:Int)) (by omega) (by omega)
  have h2:(0:Int)≤(t.length:Int):=by omega
  have h3:List.drop t.length (List.take (t.length+1) (t++[b]))=[b]:=by
   rw [List.take_of_length_le (by simp),List.drop_left]
  by_cases h:b=c
  ·subst h
   simp [Tryz.ntmps192,h1,hw,h2,h3]
  ·simp [Tryz.ntmps192,h1,hw,h2,h3,h]
theorem Ye1 (s:List UInt8) (c:UInt8) (hs:s.length≤2^50):APure Tryz.prog 158 [.str s,.str [c]] (.bool (decide (s.getLast? = some c))):=by
 intro σ
 refine Ua Tryz.func158 rfl (Wa Tryz.func158 (by decide) rfl) ?_
 simp [Tryz.ntmps158]
 refine (Ucf s c hs).use ?_
 simp
theorem Ydp (s:List UInt8) (c:UInt8) (hs:s.length≤2^50):APure Tryz.prog 161 [.str s,.str [c]] (.tup [.str (if s.getLast? = some c then s.dropLast else s),.bool (decide (s.getLast? = some c))]):=by
 have h1:APure Tryz.prog 194 [.str s,.str [c]] (.tup [.str (if s.getLast? = some c then s.dropLast else s),.bool (decide (s.getLast? = some c))]):=by
  intro σ
  refine Ua Tryz.func194 rfl (Wa Tryz.func194 (by decide) rfl) ?_
  simp [Tryz.ntmps194]
  refine (Ucf s c hs).use ?_
  by_cases h:s.getLast? = some c
  ·obtain ⟨t,rfl⟩:=List.getLast?_eq_some_iff.1 h
   simp at hs
   have hw:=w64 (n:=(t.length:Int)) (by omega) (by omega)
   have h2:(0:Int)≤(t.length:Int):=by omega
   simp [hw,h2]
  ·simp [h]
 intro σ
 refine Ua Tryz.func161 rfl (Wa Tryz.func161 (by decide) rfl) ?_
 simp [Tryz.ntmps161]
 refine h1.use ?_
 simp
theorem decDigits_eq (n:Nat):Lib.decDigits n=Oyez.digitsN n:=by
 induction n using Nat.strongRecOn with
 | _ n ih =>
  rw [Lib.decDigits]
  rcases Qzn n 10 with h | h
  ·rw [dif_pos h,Oyez.digitsN_lt h]
  ·rw [dif_neg (by omega),Oyez.digitsN_ge h,ih (n / 10) (by omega)]
theorem Yav (n:Int) (h0:-9223372036854775808≤n) (h1:n≤9223372036854775807):APure Tryz.prog 160 [.int .i64 n] (.str (Lib.itoa n)):=by
 refine APure.kit (Wa Tryz.func160 (by decide) rfl) fun C cargs σ hI hv=>?_
 obtain ⟨x,r,rfl,h2,h3⟩:=hv.inv
 obtain rfl:=h3.of_nil
 rw [h2.int_inv]
 refine (Tryz.strconv_Itoa n h0 h1 C.w (Ube hI).pow).mono ?_
 rintro e w' ⟨rfl,k,os,rfl⟩
 exact ⟨_,rfl,by simpa using VR.str (C:=C) (Lib.itoa n),below_grow _ _ _⟩
theorem Wa4 (n:Nat):Lib.itoa n=Oyez.digitsN n:=by
 unfold Lib.itoa
 rw [if_neg (by omega),Int.toNat_natCast,decDigits_eq]
end Ab

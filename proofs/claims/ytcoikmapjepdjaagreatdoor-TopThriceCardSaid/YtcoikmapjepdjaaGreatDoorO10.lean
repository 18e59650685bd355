/-
  Texts packed for a claim.
-/
import Derived.Test.YtcoikmapjepdjaaGreatDoorO00
import Derived.Shelf.Strings.Builder1
import Derived.Shelf.Strings.OnBuilder
import Derived.Shelf.LaysM
import Derived.Shelf.Strconv.Itoa3
import Derived.Shelf.LaysC
import Derived.Shelf.Strconv.ErrVarAll
import Derived.Ground.Names2Prog
import Derived.Ground.SlgnProg
import Derived.Test.YtcoikmapjepdjaaGreatDoorProg
import Derived.Lib.Bytealg
import Derived.Test.YtcoikmapjepdjaaGreatDoorO06
import Derived.Test.YtcoikmapjepdjaaGreatDoorO07
import Derived.Test.YtcoikmapjepdjaaGreatDoorO09
set_option linter.all false
namespace Ab
open Go Go.Proofs
instance loose:Mode:=⟨False⟩
attribute [local irreducible] aws awp aw1 Og Om Oc Oa Xb Vb QFn ACode ACalls AYield
theorem Wbn (n:Nat):(Oyez.digitsN n).length≤n+1:=by
 induction n using Nat.strongRecOn with
 | _ n ih =>
  rcases Qzn n 10 with h | h
  ·rw [Oyez.digitsN_lt h];simp
  ·rw [Oyez.digitsN_ge h,List.length_append]
   have:=ih (n / 10) (by omega)
   simp only [List.length_cons,List.length_nil]
   omega
theorem Wgv (c:UInt8) (n:Nat) (h:n<256):c.toNat=n↔c=UInt8.ofNat n:=by
 constructor
 ·intro e;rw [← e];simp
 ·intro e;rw [e];simp;omega
theorem Yfk (c:UInt8):Oyez.isDig c=true↔48≤c.toNat∧c.toNat≤57:=by
 simp [Oyez.isDig,UInt8.le_iff_toNat_le]
end Ab
namespace Ab
open Go Go.Proofs
attribute [local irreducible] aws awp aw1 Og Om Oc Oa Ogd Ov Ot awd Zb Xb Vb QFn Ub ACode ACalls AYield
theorem mixed:Tryz.prog.follows .mixedOrders=true:=by kernel_rfl
def strs (ws:List (List UInt8)):List AV:=ws.map AV.str
def Xl (ws:List (List UInt8)):AV:=.pl 1 (strs ws)
def Xx (ws:List (List UInt8)):Nat:=(ws.map fun w=>w.length+1).sum
theorem Vc2 (ws:List (List UInt8)):(ws.flatMap fun w=>(32:UInt8)::w).length=Xx ws:=by
 induction ws with
 | nil=>rfl
 | cons w t ih=>simp [Xx] at *;omega
theorem Zg3 {ws:List (List UInt8)} {w:List UInt8} (h:w∈ws):w.length+1≤Xx ws:=by
 induction ws with
 | nil=>simp at h
 | cons x t ih =>
  rcases List.mem_cons.1 h with rfl | h
  ·simp [Xx]
  ·have:=ih h;simp [Xx] at *;omega
theorem Yex (k:Int):(Oyez.name k).length≤6:=by
 unfold Oyez.name
 generalize k.toNat=n
 match n with
 | 0=>decide
 | 1=>decide
 | 2=>decide
 | 3=>decide
 | _+4=>exact (by decide:([112,108,101,97]:List UInt8).length≤6)
end Ab
namespace Ab
open Go Go.Proofs
attribute [local irreducible] aws awp aw1 Og Om Oc Oa Ogd Ov Ot awd Zb Xb Vb QFn Ub ACode ACalls AYield
def Yg (r:Oyez.Rec):AV:=.agg [.int .i64 r.kind,.int .i64 r.number,Xl r.words]
def Yk (f:List Oyez.Rec):AV:=.pl 3 (f.map Yg)
attribute [simp] Xl strs Yg Yk
def Wk (w:List UInt8):Int:=match Oyez.kindOf w with | some k=>k | none=>-1
theorem Ycg (s:List UInt8):Oyez.words s≠[]:=by
 unfold Oyez.words
 cases s with
 | nil=>simp [Oyez.splitAt]
 | cons b t =>
  unfold Oyez.splitAt
  split
  ·simp
  ·split<;>simp
def Wa3 (w:List UInt8):List (List UInt8)→List (List UInt8)
 | []=>[w]
 | x::r=>(w++x)::r
theorem Zbs (t:List UInt8):Oyez.words (32::t)=[]::Oyez.words t:=by simp [Oyez.words,Oyez.splitAt]
theorem Ybs (b:UInt8) (t:List UInt8) (h:b≠32):Oyez.words (b::t)=Wa3 [b] (Oyez.words t):=by
 unfold Oyez.words
 rw [Oyez.splitAt,if_neg h]
 cases hx:Oyez.splitAt 32 t with
 | nil=>rfl
 | cons w r=>rfl
theorem Zdy (ws:List (List UInt8)):(strs ws).length=ws.length:=by simp [strs]
theorem Ue5 (s:List UInt8):(Oyez.words s).length≤s.length+1:=by
 induction s with
 | nil=>simp [Oyez.words,Oyez.splitAt]
 | cons b t ih =>
  by_cases h:b=32
  ·subst h;rw [Zbs];simp;omega
  ·rw [Ybs b t h]
   revert ih
   cases Oyez.words t<;>simp [Wa3]<;>omega
end Ab
namespace Go.Proofs
open Go.Shelf
def Tryz.lays169_ren:Go.Shelf.Ren:=⟨fun | 169=>115 | n=>n,fun | 70=>205 | 9=>9 | 0=>0 | 72=>207 | 37=>22 | 127=>292 | 3=>3 | 5=>5 | n=>n,fun | n=>n⟩
theorem Tryz.lays169:Go.Proofs.Lays.n169 Tryz.prog Tryz.lays169_ren:={
 mixed:=by kernel_rfl
 f169:=Tryz.func115.trans (congrArg some (by kernel_rfl))
 t0:=Tryz.underlying0
 a0:=Tryz.isAgg0
 z0:=Tryz.sizeOf0
 v0:=Tryz.zeroValue0
 t3:=Tryz.underlying3
 a3:=Tryz.isAgg3
 z3:=Tryz.sizeOf3
 v3:=Tryz.zeroValue3
 t9:=Tryz.underlying9
 a9:=Tryz.isAgg9
 z9:=Tryz.sizeOf9
 v9:=Tryz.zeroValue9
 t37:=Tryz.underlying22
 a37:=Tryz.isAgg22
 z37:=Tryz.sizeOf22
 v37:=Tryz.zeroValue22
 t70:=Tryz.underlying205
 a70:=Tryz.isAgg205
 z70:=Tryz.sizeOf205
 v70:=Tryz.zeroValue205
 t72:=Tryz.underlying207
 a72:=Tryz.isAgg207
 z72:=Tryz.sizeOf207
 v72:=Tryz.zeroValue207
 t127:=Tryz.underlying292
 a127:=Tryz.isAgg292
 z127:=Tryz.sizeOf292
 v127:=Tryz.zeroValue292 }
theorem Tryz.Builder_Extra_169:Builder.Extra Tryz.prog Tryz.lays169_ren:={
 sizeBuilder:=by kernel_rfl
 liesBuilder:=by kernel_rfl
 t5:=Tryz.underlying5
 a5:=Tryz.isAgg5
 z5:=Tryz.sizeOf5
 v5:=Tryz.zeroValue5
 infoByte:=by kernel_rfl
 cellsByte:=by kernel_rfl
 sizeByte:=by kernel_rfl
 neB5:=by decide }
def Tryz.lays156_ren:Go.Shelf.Ren:=⟨fun | 156=>259 | 165=>307 | 166=>113 | 169=>115 | 240=>188 | 241=>341 | 276=>258 | 277=>353 | n=>n,fun | 31=>66 | 9=>9 | 3=>3 | 4=>4 | 0=>0 | 20=>20 | 72=>207 | 76=>105 | 70=>205 | 37=>22 | 75=>104 | 127=>292 | 164=>356 | 5=>5 | 80=>208 | n=>n,fun | n=>n⟩
theorem Tryz.lays156:Go.Proofs.Lays.n156 Tryz.prog Tryz.lays156_ren:={
 mixed:=by kernel_rfl
 f156:=Tryz.func259.trans (congrArg some (by kernel_rfl))
 f165:=Tryz.func307.trans (congrArg some (by kernel_rfl))
 f166:=Tryz.func113.trans (congrArg some (by kernel_rfl))
 f169:=Tryz.func115.trans (congrArg some (by kernel_rfl))
 f240:=Tryz.func188.trans (congrArg some (by kernel_rfl))
 f241:=Tryz.func341.trans (congrArg some (by kernel_rfl))
 f276:=Tryz.func258.trans (congrArg some (by kernel_rfl))
 f277:=Tryz.func353.trans (congrArg some (by kernel_rfl))
 t0:=Tryz.underlying0
 a0:=Tryz.isAgg0
 z0:=Tryz.sizeOf0
 v0:=Tryz.zeroValue0
 t3:=Tryz.underlying3
 a3:=Tryz.isAgg3
 z3:=Tryz.sizeOf3
 v3:=Tryz.zeroValue3
 t4:=Tryz.underlying4
 a4:=Tryz.isAgg4
 z4:=Tryz.sizeOf4
 v4:=Tryz.zeroValue4
 t9:=Tryz.underlying9
 a9:=Tryz.isAgg9
 z9:=Tryz.sizeOf9
 v9:=Tryz.zeroValue9
 t20:=Tryz.underlying20
 a20:=Tryz.isAgg20
 z20:=Tryz.sizeOf20
 v20:=Tryz.zeroValue20
 t31:=Tryz.underlying66
 a31:=Tryz.isAgg66
 z31:=Tryz.sizeOf66
 v31:=Tryz.zeroValue66
 t37:=Tryz.underlying22
 a37:=Tryz.isAgg22
 z37:=Tryz.sizeOf22
 v37:=Tryz.zeroValue22
 t70:=Tryz.underlying205
 a70:=Tryz.isAgg205
 z70:=Tryz.sizeOf205
 v70:=Tryz.zeroValue205
 t72:=Tryz.underlying207
 a72:=Tryz.isAgg207
 z72:=Tryz.sizeOf207
 v72:=Tryz.zeroValue207
 t75:=Tryz.underlying104
 a75:=Tryz.isAgg104
 z75:=Tryz.sizeOf104
 v75:=Tryz.zeroValue104
 t76:=Tryz.underlying105
 a76:=Tryz.isAgg105
 z76:=Tryz.sizeOf105
 v76:=Tryz.zeroValue105
 t127:=Tryz.underlying292
 a127:=Tryz.isAgg292
 z127:=Tryz.sizeOf292
 v127:=Tryz.zeroValue292
 t164:=Tryz.underlying356
 a164:=Tryz.isAgg356
 z164:=Tryz.sizeOf356
 v164:=Tryz.zeroValue356 }
theorem Tryz.Builder_Extra_156:Builder.Extra Tryz.prog Tryz.lays156_ren:={
 sizeBuilder:=by kernel_rfl
 liesBuilder:=by kernel_rfl
 t5:=Tryz.underlying5
 a5:=Tryz.isAgg5
 z5:=Tryz.sizeOf5
 v5:=Tryz.zeroValue5
 infoByte:=by kernel_rfl
 cellsByte:=by kernel_rfl
 sizeByte:=by kernel_rfl
 neB5:=by decide }
open Go.RowKit in
theorem Tryz.strings_Join (bk o c:Nat) (xs:List ByteArray) (sep:ByteArray) (w:World) (hcells:∀ (j:Nat) x,xs[j]? = some x→w.cell? ⟨bk,o+j,none⟩=some (.string x)) (hbk:bk<w.heap.size) (hN:xs.length≤140737488355328) (hcap:xs.length≤c) (hlen:(Lib.join (xs.map (·.data.toList)) sep.data.toList).length≤140737488355328) :
  Calls Tryz.prog 259 #[.slice (some ⟨bk,o,none⟩) xs.length c,.string sep] w fun e w'=>e=.returned (.string ⟨(Lib.join (xs.map (·.data.toList)) sep.data.toList).toArray⟩)∧Below w.heap.size w w':=Any.strings_Join Tryz.lays156 Tryz.Builder_Extra_156 bk o c xs sep w hcells hbk hN hcap hlen
def Tryz.laysM171_ren:Go.Shelf.Ren:=⟨fun | 171=>38 | 243=>111 | 246=>186 | 283=>254 | 284=>255 | 285=>256 | 286=>257 | 129=>223 | 317=>303 | 318=>304 | 319=>305 | 320=>306 | 337=>339 | 338=>340 | n=>n,fun | 3=>3 | 9=>9 | 2=>2 | 4=>4 | 171=>352 | 0=>0 | 53=>308 | 37=>22 | 5=>5 | 173=>354 | 212=>403 | 51=>135 | 20=>20 | 213=>404 | 46=>92 | 232=>429 | 233=>430 | n=>n,fun | 17=>2 | 18=>4 | 19=>5 | n=>n⟩
theorem Tryz.laysM171:Go.Proofs.LaysM.n171 Tryz.prog Tryz.laysM171_ren:={
 mixed:=by kernel_rfl
 f129:=Tryz.func223.trans (congrArg some (by kernel_rfl))
 f171:=Tryz.func38.trans (congrArg some (by kernel_rfl))
 f243:=Tryz.func111.trans (congrArg some (by kernel_rfl))
 f246:=Tryz.func186.trans (congrArg some (by kernel_rfl))
 f283:=Tryz.func254.trans (congrArg some (by kernel_rfl))
 f284:=Tryz.func255.trans (congrArg some (by kernel_rfl))
 f285:=Tryz.func256.trans (congrArg some (by kernel_rfl))
 f286:=Tryz.func257.trans (congrArg some (by kernel_rfl))
 f317:=Tryz.func303.trans (congrArg some (by kernel_rfl))
 f318:=Tryz.func304.trans (congrArg some (by kernel_rfl))
 f319:=Tryz.func305.trans (congrArg some (by kernel_rfl))
 f320:=Tryz.func306.trans (congrArg some (by kernel_rfl))
 f337:=Tryz.func339.trans (congrArg some (by kernel_rfl))
 f338:=Tryz.func340.trans (congrArg some (by kernel_rfl))
 t0:=Tryz.underlying0
 a0:=Tryz.isAgg0
 z0:=Tryz.sizeOf0
 v0:=Tryz.zeroValue0
 t2:=Tryz.underlying2
 a2:=Tryz.isAgg2
 z2:=Tryz.sizeOf2
 v2:=Tryz.zeroValue2
 t3:=Tryz.underlying3
 a3:=Tryz.isAgg3
 z3:=Tryz.sizeOf3
 v3:=Tryz.zeroValue3
 t4:=Tryz.underlying4
 a4:=Tryz.isAgg4
 z4:=Tryz.sizeOf4
 v4:=Tryz.zeroValue4
 t5:=Tryz.underlying5
 a5:=Tryz.isAgg5
 z5:=Tryz.sizeOf5
 v5:=Tryz.zeroValue5
 t9:=Tryz.underlying9
 a9:=Tryz.isAgg9
 z9:=Tryz.sizeOf9
 v9:=Tryz.zeroValue9
 t20:=Tryz.underlying20
 a20:=Tryz.isAgg20
 z20:=Tryz.sizeOf20
 v20:=Tryz.zeroValue20
 t37:=Tryz.underlying22
 a37:=Tryz.isAgg22
 z37:=Tryz.sizeOf22
 v37:=Tryz.zeroValue22
 t46:=Tryz.underlying92
 a46:=Tryz.isAgg92
 z46:=Tryz.sizeOf92
 v46:=Tryz.zeroValue92
 t51:=Tryz.underlying135
 a51:=Tryz.isAgg135
 z51:=Tryz.sizeOf135
 v51:=Tryz.zeroValue135
 t53:=Tryz.underlying308
 a53:=Tryz.isAgg308
 z53:=Tryz.sizeOf308
 v53:=Tryz.zeroValue308
 t171:=Tryz.underlying352
 a171:=Tryz.isAgg352
 z171:=Tryz.sizeOf352
 v171:=Tryz.zeroValue352
 t173:=Tryz.underlying354
 a173:=Tryz.isAgg354
 z173:=Tryz.sizeOf354
 v173:=Tryz.zeroValue354
 t212:=Tryz.underlying403
 a212:=Tryz.isAgg403
 z212:=Tryz.sizeOf403
 v212:=Tryz.zeroValue403
 t213:=Tryz.underlying404
 a213:=Tryz.isAgg404
 z213:=Tryz.sizeOf404
 t232:=Tryz.underlying429
 a232:=Tryz.isAgg429
 z232:=Tryz.sizeOf429
 v232:=Tryz.zeroValue429
 t233:=Tryz.underlying430
 a233:=Tryz.isAgg430
 z233:=Tryz.sizeOf430
 v233:=Tryz.zeroValue430
 g17:=by kernel_rfl
 g18:=by kernel_rfl
 g19:=by kernel_rfl
 i0:=by kernel_rfl
 i2:=by kernel_rfl
 i3:=by kernel_rfl
 i4:=by kernel_rfl
 i5:=by kernel_rfl
 i9:=by kernel_rfl
 i20:=by kernel_rfl
 i37:=by kernel_rfl
 i46:=by kernel_rfl
 i51:=by kernel_rfl
 i53:=by kernel_rfl
 i171:=by kernel_rfl
 i173:=by kernel_rfl
 i212:=by kernel_rfl
 i232:=by kernel_rfl
 i233:=by kernel_rfl
 m17:=by kernel_rfl
 m18:=by kernel_rfl
 m19:=by kernel_rfl }
open Go.RowKit Go.Sort Go.Lib in
theorem Tryz.strconv_Itoa (n:Int) (h0:-9223372036854775808≤n) (h1:n≤9223372036854775807) (w:World) (htab:Lib.TabIs Tryz.prog w "internal/strconv.uint64pow10" .u64 Lib.pow10Tab) :
  Calls Tryz.prog 38 #[.int .i64 n] w fun e w'=>e=.returned (.string ⟨(Lib.itoa n).toArray⟩)∧∃ k os,w'=grow (w.drewN k) os:=Any.strconv_Itoa Tryz.laysM171 n h0 h1 w htab
def Tryz.laysC172_ren:Go.Shelf.Ren:=⟨fun | 172=>46 | 244=>126 | 245=>127 | 247=>204 | 279=>205 | 280=>206 | 281=>207 | 282=>208 | 287=>267 | 316=>268 | 171=>38 | 205=>269 | 321=>314 | 322=>315 | 243=>111 | 246=>186 | 283=>254 | 284=>255 | 285=>256 | 286=>257 | 129=>223 | 317=>303 | 318=>304 | 319=>305 | 320=>306 | 337=>339 | 338=>340 | n=>n,fun | 9=>9 | 3=>3 | 75=>104 | 76=>105 | 4=>4 | 5=>5 | 167=>311 | 37=>22 | 0=>0 | 85=>312 | 2=>2 | 168=>314 | 53=>308 | 175=>364 | 46=>92 | 210=>367 | 127=>292 | 145=>411 | 143=>409 | 21=>21 | 171=>352 | 173=>354 | 212=>403 | 51=>135 | 20=>20 | 213=>404 | 232=>429 | 233=>430 | 80=>208 | n=>n,fun | 15=>0 | 16=>1 | 17=>2 | 18=>4 | 19=>5 | n=>n⟩
theorem Tryz.laysC172:Go.Proofs.LaysC.n172 Tryz.prog Tryz.laysC172_ren:={
 mixed:=by kernel_rfl
 f129:=Tryz.func223.trans (congrArg some (by kernel_rfl))
 f171:=Tryz.func38.trans (congrArg some (by kernel_rfl))
 f172:=Tryz.func46.trans (congrArg some (by kernel_rfl))
 f205:=Tryz.func269.trans (congrArg some (by kernel_rfl))
 f243:=Tryz.func111.trans (congrArg some (by kernel_rfl))
 f244:=Tryz.func126.trans (congrArg some (by kernel_rfl))
 f245:=Tryz.func127.trans (congrArg some (by kernel_rfl))
 f246:=Tryz.func186.trans (congrArg some (by kernel_rfl))
 f247:=Tryz.func204.trans (congrArg some (by kernel_rfl))
 f279:=Tryz.func205.trans (congrArg some (by kernel_rfl))
 f280:=Tryz.func206.trans (congrArg some (by kernel_rfl))
 f281:=Tryz.func207.trans (congrArg some (by kernel_rfl))
 f282:=Tryz.func208.trans (congrArg some (by kernel_rfl))
 f283:=Tryz.func254.trans (congrArg some (by kernel_rfl))
 f284:=Tryz.func255.trans (congrArg some (by kernel_rfl))
 f285:=Tryz.func256.trans (congrArg some (by kernel_rfl))
 f286:=Tryz.func257.trans (congrArg some (by kernel_rfl))
 f287:=Tryz.func267.trans (congrArg some (by kernel_rfl))
 f316:=Tryz.func268.trans (congrArg some (by kernel_rfl))
 f317:=Tryz.func303.trans (congrArg some (by kernel_rfl))
 f318:=Tryz.func304.trans (congrArg some (by kernel_rfl))
 f319:=Tryz.func305.trans (congrArg some (by kernel_rfl))
 f320:=Tryz.func306.trans (congrArg some (by kernel_rfl))
 f321:=Tryz.func314.trans (congrArg some (by kernel_rfl))
 f322:=Tryz.func315.trans (congrArg some (by kernel_rfl))
 f337:=Tryz.func339.trans (congrArg some (by kernel_rfl))
 f338:=Tryz.func340.trans (congrArg some (by kernel_rfl))
 t0:=Tryz.underlying0
 a0:=Tryz.isAgg0
 z0:=Tryz.sizeOf0
 v0:=Tryz.zeroValue0
 t2:=Tryz.underlying2
 a2:=Tryz.isAgg2
 z2:=Tryz.sizeOf2
 v2:=Tryz.zeroValue2
 t3:=Tryz.underlying3
 a3:=Tryz.isAgg3
 z3:=Tryz.sizeOf3
 v3:=Tryz.zeroValue3
 t4:=Tryz.underlying4
 a4:=Tryz.isAgg4
 z4:=Tryz.sizeOf4
 v4:=Tryz.zeroValue4
 t5:=Tryz.underlying5
 a5:=Tryz.isAgg5
 z5:=Tryz.sizeOf5
 v5:=Tryz.zeroValue5
 t9:=Tryz.underlying9
 a9:=Tryz.isAgg9
 z9:=Tryz.sizeOf9
 v9:=Tryz.zeroValue9
 t20:=Tryz.underlying20
 a20:=Tryz.isAgg20
 z20:=Tryz.sizeOf20
 v20:=Tryz.zeroValue20
 t21:=Tryz.underlying21
 a21:=Tryz.isAgg21
 z21:=Tryz.sizeOf21
 v21:=Tryz.zeroValue21
 t37:=Tryz.underlying22
 a37:=Tryz.isAgg22
 z37:=Tryz.sizeOf22
 v37:=Tryz.zeroValue22
 t46:=Tryz.underlying92
 a46:=Tryz.isAgg92
 z46:=Tryz.sizeOf92
 v46:=Tryz.zeroValue92
 t51:=Tryz.underlying135
 a51:=Tryz.isAgg135
 z51:=Tryz.sizeOf135
 v51:=Tryz.zeroValue135
 t53:=Tryz.underlying308
 a53:=Tryz.isAgg308
 z53:=Tryz.sizeOf308
 v53:=Tryz.zeroValue308
 t75:=Tryz.underlying104
 a75:=Tryz.isAgg104
 z75:=Tryz.sizeOf104
 v75:=Tryz.zeroValue104
 t76:=Tryz.underlying105
 a76:=Tryz.isAgg105
 z76:=Tryz.sizeOf105
 v76:=Tryz.zeroValue105
 t85:=Tryz.underlying312
 a85:=Tryz.isAgg312
 z85:=Tryz.sizeOf312
 v85:=Tryz.zeroValue312
 t127:=Tryz.underlying292
 a127:=Tryz.isAgg292
 z127:=Tryz.sizeOf292
 v127:=Tryz.zeroValue292
 t143:=Tryz.underlying409
 a143:=Tryz.isAgg409
 z143:=Tryz.sizeOf409
 v143:=Tryz.zeroValue409
 t145:=Tryz.underlying411
 a145:=Tryz.isAgg411
 z145:=Tryz.sizeOf411
 v145:=Tryz.zeroValue411
 t167:=Tryz.underlying311
 a167:=Tryz.isAgg311
 z167:=Tryz.sizeOf311
 v167:=Tryz.zeroValue311
 t168:=Tryz.underlying314
 a168:=Tryz.isAgg314
 z168:=Tryz.sizeOf314
 v168:=Tryz.zeroValue314
 t171:=Tryz.underlying352
 a171:=Tryz.isAgg352
 z171:=Tryz.sizeOf352
 v171:=Tryz.zeroValue352
 t173:=Tryz.underlying354
 a173:=Tryz.isAgg354
 z173:=Tryz.sizeOf354
 v173:=Tryz.zeroValue354
 t175:=Tryz.underlying364
 a175:=Tryz.isAgg364
 z175:=Tryz.sizeOf364
 v175:=Tryz.zeroValue364
 t210:=Tryz.underlying367
 a210:=Tryz.isAgg367
 z210:=Tryz.sizeOf367
 v210:=Tryz.zeroValue367
 t212:=Tryz.underlying403
 a212:=Tryz.isAgg403
 z212:=Tryz.sizeOf403
 v212:=Tryz.zeroValue403
 t213:=Tryz.underlying404
 a213:=Tryz.isAgg404
 z213:=Tryz.sizeOf404
 t232:=Tryz.underlying429
 a232:=Tryz.isAgg429
 z232:=Tryz.sizeOf429
 v232:=Tryz.zeroValue429
 t233:=Tryz.underlying430
 a233:=Tryz.isAgg430
 z233:=Tryz.sizeOf430
 v233:=Tryz.zeroValue430
 g15:=by kernel_rfl
 g16:=by kernel_rfl
 g17:=by kernel_rfl
 g18:=by kernel_rfl
 g19:=by kernel_rfl
 t80:=Tryz.underlying208
 a80:=Tryz.isAgg208
 z80:=Tryz.sizeOf208
 v80:=Tryz.zeroValue208
 i0:=by kernel_rfl
 i2:=by kernel_rfl
 i3:=by kernel_rfl
 i4:=by kernel_rfl
 i5:=by kernel_rfl
 i9:=by kernel_rfl
 i20:=by kernel_rfl
 i21:=by kernel_rfl
 i37:=by kernel_rfl
 i46:=by kernel_rfl
 i51:=by kernel_rfl
 i53:=by kernel_rfl
 i75:=by kernel_rfl
 i76:=by kernel_rfl
 i80:=by kernel_rfl
 i85:=by kernel_rfl
 i127:=by kernel_rfl
 i143:=by kernel_rfl
 i145:=by kernel_rfl
 i167:=by kernel_rfl
 i168:=by kernel_rfl
 i171:=by kernel_rfl
 i173:=by kernel_rfl
 i175:=by kernel_rfl
 i210:=by kernel_rfl
 i212:=by kernel_rfl
 i232:=by kernel_rfl
 i233:=by kernel_rfl
 m15:=by kernel_rfl
 m16:=by kernel_rfl
 m17:=by kernel_rfl
 m18:=by kernel_rfl
 m19:=by kernel_rfl
 c0:=by kernel_rfl
 c2:=by kernel_rfl
 c3:=by kernel_rfl
 c4:=by kernel_rfl
 c5:=by kernel_rfl
 c9:=by kernel_rfl
 c20:=by kernel_rfl
 c21:=by kernel_rfl
 c37:=by kernel_rfl
 c46:=by kernel_rfl
 c51:=by kernel_rfl
 c53:=by kernel_rfl
 c75:=by kernel_rfl
 c76:=by kernel_rfl
 c80:=by kernel_rfl
 c85:=by kernel_rfl
 c127:=by kernel_rfl
 c143:=by kernel_rfl
 c145:=by kernel_rfl
 c167:=by kernel_rfl
 c168:=by kernel_rfl
 c171:=by kernel_rfl
 c173:=by kernel_rfl
 c175:=by kernel_rfl
 c210:=by kernel_rfl
 c212:=by kernel_rfl
 c213:=by kernel_rfl
 c232:=by kernel_rfl
 c233:=by kernel_rfl }
open Go.RowKit in
theorem Tryz.strconv_Atoi_ok (s:ByteArray) (hmax:s.size≤9223372036854775806) (v:Int) (h:Lib.atoiAll s.data.toList=.ok v) (w:World) :
  Calls Tryz.prog 46 #[.string s] w fun e w'=>e=.returned (.tuple #[.int .i64 v,.nilIface])∧(w'=w∨∃ t,w'=Lib.bytesWorld w 5 t):=Any.strconv_Atoi_ok Tryz.laysC172 s hmax v h w
open Go.RowKit in
theorem Tryz.strconv_Atoi_bad_var (s:ByteArray) (hlim:s.size≤281474976710656) (h:Lib.atoiAll s.data.toList=Lib.atoiAll []) (tp:TypeId) (p:Value) (w:World) (hvar:w.var? Tryz.prog "strconv.ErrSyntax"=some #[.iface tp p]) :
  Calls Tryz.prog 46 #[.string s] w fun e w'=>∃ N,e=.returned (.tuple #[.int .i64 0,.iface 314 (.pointer (some ⟨N,0,none⟩))])∧w.heap.size≤N∧w'.heap[N]? = some (.cells #[.string ⟨#[65,116,111,105]⟩,.string s,.iface tp p] 367 (0,0))∧Below w.heap.size w w':=Any.strconv_Atoi_syntax_var Tryz.laysC172 s hlim (h.trans rfl) tp p w hvar
open Go.RowKit in
theorem Tryz.strconv_Atoi_range_var (s:ByteArray) (hlim:s.size≤281474976710656) (h:Lib.atoiAll s.data.toList=.range) (tp:TypeId) (p:Value) (w:World) (hvar:w.var? Tryz.prog "strconv.ErrRange"=some #[.iface tp p]) :
  Calls Tryz.prog 46 #[.string s] w fun e w'=>∃ N,e=.returned (.tuple #[.int .i64 (Lib.atoiSat s.data.toList),.iface 314 (.pointer (some ⟨N,0,none⟩))])∧w.heap.size≤N∧w'.heap[N]? = some (.cells #[.string ⟨#[65,116,111,105]⟩,.string s,.iface tp p] 367 (0,0))∧Below w.heap.size w w':=Any.strconv_Atoi_range_var Tryz.laysC172 s hlim h tp p w hvar
end Go.Proofs
namespace Ab
open Go Go.RowKit Go.Proofs
attribute [local irreducible] aws awp aw1 Og Om Oc Oa Ogd Ov Ot awd Zb Xb Vb QFn Ub ACode AYield
theorem APure.kit {f:FuncId} {args:List AV} {v:AV} (hen:Enters Tryz.prog f)
  (h:∀ (C:Ctx) (cargs:List Value) (σ:Za),Inv C σ→VRs C args cargs→Calls Tryz.prog f cargs.toArray C.w fun e w'=>∃ c,e=.returned c∧VR C v c∧Below C.w.heap.size C.w w'):APure Tryz.prog f args v:=by
 intro σ
 refine .inl ⟨hen,fun C cargs hI hv=>callsIn_wide.2 ((h C cargs σ hI hv).mono ?_)⟩
 rintro e w' ⟨c,rfl,hc,hb⟩
 have hE:=Ext.below hI.plt hb (fun h=>False.elim h)
 exact ⟨c,C.at_ w',v,σ,rfl,rfl,hE,hI.below hb,hc.ext hE,rfl,rfl⟩
theorem APure.ext {f:FuncId} {args:List AV} {v:AV} (h:∀ (C:Ctx) (cargs:List Value),VRs C args cargs→∃ c,(callFunc f cargs.toArray).run Tryz.prog C.w=.ok (.value c) C.w∧VR C v c):APure Tryz.prog f args v:=by
 intro σ
 refine .inr fun C cargs hI hv=>?_
 obtain ⟨c,h1,h2⟩:=h C cargs hv
 exact ⟨c,C,v,σ,h1,Ext.refl C,hI,h2,rfl,rfl⟩
theorem Vbo {C:Ctx} {σ:Za} (hI:Inv C σ):GoodW C.w:=hI.glob.below hI.base
theorem below_grow (w:World) (n:Nat) (os:Array Obj):Below w.heap.size w (Go.Sort.grow (w.drewN n) os):=by
 refine ⟨rfl,rfl,rfl,?_,fun k hk=>?_⟩
 ·show w.heap.size≤(w.heap++os).size
  simp
 ·show (w.heap++os)[k]? = w.heap[k]?
  rw [Array.getElem?_append_left hk]
theorem Xdf (s:List UInt8) (c:UInt8):APure Tryz.prog 342 [.str s,.int .u8 c.toNat] (.int .i64 (Lib.indexByte s c)):=by
 refine APure.ext fun C cargs hv=>?_
 obtain ⟨x,r,rfl,h1,h2⟩:=hv.inv
 obtain ⟨y,r,rfl,h4,h3⟩:=h2.inv
 obtain rfl:=h3.of_nil
 rw [h1.str_inv,h4.int_inv]
 refine ⟨.int .i64 (Lib.indexByte s c),?_,.int _ _⟩
 rw [run_callFunc_extern Tryz.func342 (by kernel_rfl) (by kernel_rfl) (by kernel_rfl) (e:=Extern.BytealgIndexByte.indexByte) (by kernel_rfl)]
 have:=Lib.run_indexByteString (P:=Tryz.prog) ⟨⟨s⟩⟩ (c.toNat:Int) C.w
 simp only [Int.toNat_natCast] at this
 rw [this]
 simp [Result.andThen]
def We (c:UInt8):List UInt8→List UInt8 × List UInt8 × Bool
 | []=>([],[],false)
 | b::t=>if b=c then ([],t,true) else (b::(We c t).1,(We c t).2.1,(We c t).2.2)
theorem Zgv (c:UInt8) (s:List UInt8):if (We c s).2.2=true then
   ∃ n:Nat,Lib.indexByte s c=n∧n<s.length∧(We c s).1=s.take n∧(We c s).2.1=s.drop (n+1)
  else Lib.indexByte s c=-1∧(We c s).1=s∧(We c s).2.1=[]:=by
 induction s with
 | nil=>simp [We,Lib.indexByte]
 | cons b t ih =>
  unfold We Lib.indexByte
  by_cases h:b=c
  ·simp [h]
   exact ⟨0,rfl,by omega,rfl,rfl⟩
  ·have hb:(b == c)=false:=by simpa using h
   simp only [if_neg h,hb,Bool.false_eq_true,if_false]
   cases hf:(We c t).2.2 with
   | true =>
    rw [hf] at ih
    simp only [if_true] at ih ⊢
    obtain ⟨n,h1,h2,h3,h4⟩:=ih
    have h5:(Lib.indexByte t c == -1)=false:=by rw [h1];simp
    refine ⟨n+1,by rw [h5,h1];simp,by simpa using h2,by simp [h3],by simpa using h4⟩
   | false =>
    rw [hf] at ih
    simp only [Bool.false_eq_true,if_false] at ih ⊢
    obtain ⟨h1,h2,h3⟩:=ih
    simp [h1,h2,h3]
theorem Wb7 (s:List UInt8) (c:UInt8):APure Tryz.prog 309 [.str s,.int .u8 c.toNat] (.int .i64 (Lib.indexByte s c)):=by
 intro σ
 refine Yb Tryz.func309 rfl (Ua Tryz.func309 (by decide) rfl) ?_
 simp [Tryz.ntmps309]
 refine (Xdf s c).use ?_
 simp
set_option maxRecDepth 4000 in
theorem Vht (s:List UInt8) (c:UInt8):APure Tryz.prog 265 [.str s,.str [c]] (.int .i64 (Lib.indexByte s c)):=by
 intro σ
 refine Yb Tryz.func265 rfl (Ua Tryz.func265 (by decide) rfl) ?_
 by_cases h:[c]=s
 ·subst h
  simp [Tryz.ntmps265,Lib.indexByte]
 ·simp [Tryz.ntmps265,h]
  refine (Wb7 s c).use ?_
  simp
set_option maxRecDepth 4000 in
theorem Uc0 (s:List UInt8) (c:UInt8) (hs:s.length≤2^50):APure Tryz.prog 122 [.str s,.str [c]] (.tup [.str (We c s).1,.str (We c s).2.1,.bool (We c s).2.2]):=by
 have h1:APure Tryz.prog 196 [.str s,.str [c]] (.tup [.str (We c s).1,.str (We c s).2.1,.bool (We c s).2.2]):=by
  intro σ
  refine Yb Tryz.func196 rfl (Ua Tryz.func196 (by decide) rfl) ?_
  have hx:=Zgv c s
  simp [Tryz.ntmps196]
  refine (Vht s c).use ?_
  cases hf:(We c s).2.2 with
  | true =>
   rw [hf] at hx
   simp only [if_true] at hx
   obtain ⟨n,h1,h2,h3,h4⟩:=hx
   rw [h1,h3,h4]
   have h0:(0:Int)≤(n:Int):=by omega
   simp [h0]
   refine Ym mixed (by kernel_rfl) ?_
   have hw:=w64 (n:=(n:Int)+1) (by omega) (by omega)
   have h5:(0:Int)≤(n:Int)+1:=by omega
   have h6:n≤s.length:=by omega
   have h7:n+1≤s.length:=by omega
   simp [hw,h0,h5,h6,h7]
  | false =>
   rw [hf] at hx
   simp only [Bool.false_eq_true,if_false] at hx
   obtain ⟨h1,h2,h3⟩:=hx
   rw [h1,h2,h3]
   simp
 intro σ
 refine Yb Tryz.func122 rfl (Ua Tryz.func122 (by decide) rfl) ?_
 simp [Tryz.ntmps122]
 refine h1.use ?_
 simp
theorem Yhw (s:List UInt8):Oyez.cutLine s=((We 10 s).1,(We 10 s).2.2,(We 10 s).2.1):=by
 induction s with
 | nil=>rfl
 | cons b t ih =>
  unfold Oyez.cutLine We
  by_cases h:b=10
  ·simp [h]
  ·simp [h,ih]
theorem Vdh (s:List UInt8):Oyez.words s=if (We 32 s).2.2 then (We 32 s).1::Oyez.words (We 32 s).2.1 else [(We 32 s).1]:=by
 induction s with
 | nil=>rfl
 | cons b t ih =>
  by_cases h:b=32
  ·subst h;rw [Zbs];simp [We]
  ·have e:We 32 (b::t)=(b::(We 32 t).1,(We 32 t).2.1,(We 32 t).2.2):=by rw [We,if_neg h]
   rw [Ybs b t h,ih,e]
   cases (We 32 t).2.2<;>simp [Wa3]
theorem Ub6 (c:UInt8) (s:List UInt8):(We c s).2.1.length≤s.length∧(We c s).1.length≤s.length∧((We c s).2.2=true→(We c s).2.1.length<s.length):=by
 induction s with
 | nil=>simp [We]
 | cons b t ih =>
  unfold We
  split
  ·simp
  ·refine ⟨by simp;omega,by simp;omega,fun h=>?_⟩
   have:=ih.2.2 h
   simp;omega
theorem Zch (s:List UInt8) (c:UInt8) (hs:s.length≤2^50):APure Tryz.prog 260 [.str s,.str [c]] (.bool (decide (s.getLast? = some c))):=by
 intro σ
 refine Yb Tryz.func260 rfl (Ua Tryz.func260 (by decide) rfl) ?_
 obtain rfl | ⟨t,b,rfl⟩:s=[]∨∃ t b,s=t++[b]:=by
  rcases List.eq_nil_or_concat s with h | ⟨t,b,h⟩
  ·exact .inl h
  ·exact .inr ⟨t,b,by simpa using h⟩
 ·simp [Tryz.ntmps260]
 ·simp at hs
  have h1:(1:Int)≤(t.length:Int)+1:=by omega
  have hw:=w64 (n:=(t.length:Int)) (by omega) (by omega)
  have h2:(0:Int)≤(t.length:Int):=by omega
  have h3:List.drop t.length (List.take (t.length+1) (t++[b]))=[b]:=by
   rw [List.take_of_length_le (by simp),List.drop_left]
  by_cases h:b=c
  ·subst h
   simp [Tryz.ntmps260,h1,hw,h2,h3]
  ·simp [Tryz.ntmps260,h1,hw,h2,h3,h]
theorem Xia (s:List UInt8) (c:UInt8) (hs:s.length≤2^50):APure Tryz.prog 191 [.str s,.str [c]] (.bool (decide (s.getLast? = some c))):=by
 intro σ
 refine Yb Tryz.func191 rfl (Ua Tryz.func191 (by decide) rfl) ?_
 simp [Tryz.ntmps191]
 refine (Zch s c hs).use ?_
 simp
theorem Ydy (s:List UInt8) (c:UInt8) (hs:s.length≤2^50):APure Tryz.prog 192 [.str s,.str [c]] (.tup [.str (if s.getLast? = some c then s.dropLast else s),.bool (decide (s.getLast? = some c))]):=by
 have h1:APure Tryz.prog 261 [.str s,.str [c]] (.tup [.str (if s.getLast? = some c then s.dropLast else s),.bool (decide (s.getLast? = some c))]):=by
  intro σ
  refine Yb Tryz.func261 rfl (Ua Tryz.func261 (by decide) rfl) ?_
  simp [Tryz.ntmps261]
  refine (Zch s c hs).use ?_
  by_cases h:s.getLast? = some c
  ·obtain ⟨t,rfl⟩:=List.getLast?_eq_some_iff.1 h
   simp at hs
   have hw:=w64 (n:=(t.length:Int)) (by omega) (by omega)
   have h2:(0:Int)≤(t.length:Int):=by omega
   simp [hw,h2]
  ·simp [h]
 intro σ
 refine Yb Tryz.func192 rfl (Ua Tryz.func192 (by decide) rfl) ?_
 simp [Tryz.ntmps192]
 refine h1.use ?_
 simp
theorem decDigits_eq (n:Nat):Lib.decDigits n=Oyez.digitsN n:=by
 induction n using Nat.strongRecOn with
 | _ n ih =>
  rw [Lib.decDigits]
  rcases Qzn n 10 with h | h
  ·rw [dif_pos h,Oyez.digitsN_lt h]
  ·rw [dif_neg (by omega),Oyez.digitsN_ge h,ih (n / 10) (by omega)]
theorem Xa1 (n:Int) (h0:-9223372036854775808≤n) (h1:n≤9223372036854775807):APure Tryz.prog 38 [.int .i64 n] (.str (Lib.itoa n)):=by
 refine APure.kit (Ua Tryz.func38 (by decide) rfl) fun C cargs σ hI hv=>?_
 obtain ⟨x,r,rfl,h2,h3⟩:=hv.inv
 obtain rfl:=h3.of_nil
 rw [h2.int_inv]
 refine (Tryz.strconv_Itoa n h0 h1 C.w (Vbo hI).pow).mono ?_
 rintro e w' ⟨rfl,k,os,rfl⟩
 exact ⟨_,rfl,by simpa using VR.str (C:=C) (Lib.itoa n),below_grow _ _ _⟩
theorem Ybd (n:Nat):Lib.itoa n=Oyez.digitsN n:=by
 unfold Lib.itoa
 rw [if_neg (by omega),Int.toNat_natCast,decDigits_eq]
end Ab
namespace Ab
open Go Go.Proofs
attribute [local irreducible] aws awp aw1 Og Om Oc Oa Ogd Ov Ot awd Zb Xb Vb QFn Ub ACode ACalls AYield
def Yiz (f:List Oyez.Rec):Prop:=∀ r∈f,Xx r.words≤2^49∧r.words.length≤2^49
def Wao (f:List Oyez.Rec) (i:Nat):Option Oyez.Place:=if i=0 then none else (f[i - 1]?).map Oyez.Rec.place
end Ab
namespace Ab
open Go Go.Proofs
attribute [local irreducible] aws awp aw1 Og Om Oc Oa Ogd Ov Ot awd Zb Xb Vb QFn Ub ACode ACalls AYield
def Yiw (x:Except (Nat × Int) Oyez.Rec):AV:=match x with
 | .ok r=>.tup [Yg r,.int .i64 0,.int .i64 0]
 | .error (w,e)=>.tup [Yg ⟨0,0,[]⟩,.int .i64 w,.int .i64 e]
theorem Zfq {s w:List UInt8} (h:w∈Oyez.words s):w.length≤s.length:=by
 induction s generalizing w with
 | nil=>simp [Oyez.words,Oyez.splitAt] at h;subst h;simp
 | cons b t ih =>
  by_cases hb:b=32
  ·subst hb
   rw [Zbs] at h
   rcases List.mem_cons.1 h with rfl | h
   ·simp
   ·have:=ih h;simp;omega
  ·rw [Ybs b t hb] at h
   cases hx:Oyez.words t with
   | nil=>rw [hx] at h;simp [Wa3] at h;subst h;simp
   | cons x r =>
    rw [hx] at h ih
    simp only [Wa3,List.mem_cons] at h
    rcases h with rfl | h
    ·have:=ih (List.mem_cons_self);simp;omega
    ·have:=ih (List.mem_cons_of_mem _ h);simp;omega
theorem Xcq (n:Nat) (σ:Za) (ws:List (List UInt8)):Fz n σ (.pl 1 (List.map AV.str ws)) (.pl 1 (List.map AV.str ws))↔True:=by
 refine ⟨fun _=>trivial,fun _=>.pl 1 _ fun i x hx j y hy=>?_⟩
 rw [Qzp,Qzm] at hx
 obtain ⟨w,_,rfl⟩:=hx
 cases j with
 | zero=>simp [AV.cells] at hy;subst hy;exact .str w
 | succ j=>simp [AV.cells] at hy
attribute [simp] Xcq
end Ab
namespace Ab
open Go Go.Proofs
attribute [local irreducible] aws awp aw1 Og Om Oc Oa Ogd Ov Ot awd Zb Xb Vb QFn Ub ACode ACalls AYield
def Xav (p:Oyez.Parsed):AV:=.tup [Yk p.recs,.int .i64 p.line,.int .i64 p.word,.int .i64 p.err]
def Vac (r:Oyez.Rec):List AV:=[.int .i64 r.kind,.int .i64 r.number,Xl r.words]
theorem Vbs (f:List Oyez.Rec) (i j:Nat) (h:i<f.length) (hj:j<3):((f.map Yg).flatMap AV.cells)[i*3+j]? = (Vac f[i])[j]?:=by
 have:=flat_get (f.map Yg) (k:=3) (fun x hx=>by obtain ⟨r,_,rfl⟩:=List.mem_map.1 hx;rfl) (by decide) (i*3+j)
 rw [this,show (i*3+j) / 3=i by omega,show (i*3+j) % 3=j by omega]
 simp [h,Vac,AV.cells]
theorem Yhv {own:List UInt8} {fed:Bool} {n:Nat} {r:Oyez.Rec} (h:Oyez.readLine own fed n=.ok r):n<40∧own.length≤64∧fed=true:=by
 unfold Oyez.readLine at h
 split at h
 ·cases h
 ·split at h
  ·cases h
  ·split at h
   ·cases h
   ·rename_i h1 h2 h3
    refine ⟨by omega,by omega,?_⟩
    cases fed<;>simp_all
def cutAt (s:List UInt8):List UInt8:=(Oyez.cutLine s).2.2
theorem Acc.more {σ g:Za} {k:Nat} {v:AV} {l:List AV} {o:Option Nat} (h:Acc σ g k v l o) (y:Za):Acc σ (g++y) k v l o:=⟨h.len,by
 have:=h.val
 cases o with
 | none=>exact this
 | some j=>exact ⟨this.1,by rw [Qzl (Qzs.1 this.2).1];exact this.2⟩⟩
theorem Acc.base {σ σ' g:Za} {k:Nat} {v:AV} {l:List AV} {o:Option Nat} (h:Acc σ g k v l o) (hl:σ.length=σ'.length):Acc σ' g k v l o:=⟨h.len,by
 have hv:=h.val
 cases o with
 | none=>exact hv
 | some j=>rw [← hl];exact hv⟩
def glue (f:List Oyez.Rec) (p:Oyez.Parsed):Oyez.Parsed:=if p.err=0 then ⟨f++p.recs,0,0,0⟩ else p
theorem Wbk {own:List UInt8} {fed:Bool} {n:Nat} {w:Nat} {e:Int} (h:Oyez.readLine own fed n=.error (w,e)):e≠0:=by
 unfold Oyez.readLine at h
 repeat' split at h
 all_goals first
  | (cases h;decide)
  | cases h
theorem Udw:∀ (l:List (Oyez.S × Bool)) (p:Option Oyez.Place) (n:Nat),(Oyez.parseLines l p n).err=0→(Oyez.parseLines l p n).line=0∧(Oyez.parseLines l p n).word=0:=by
 intro l
 induction l with
 | nil=>intro p n _;exact ⟨rfl,rfl⟩
 | cons x t ih =>
  intro p n h
  obtain ⟨own,ended⟩:=x
  rw [Oyez.parseLines] at h ⊢
  split at h
  ·rename_i w e he
   exact absurd h (Wbk he)
  ·rename_i r hr
   simp only at h ⊢
   split at h
   ·cases h
   ·rename_i h2
    rw [if_neg h2]
    split at h
    ·rename_i h3;rw [if_pos h3];exact ⟨rfl,rfl⟩
    ·rename_i h3;exact absurd h h3
theorem Uh3 (s:List UInt8):glue [] (Oyez.parse s)=Oyez.parse s:=by
 unfold glue
 split
 ·rename_i h
  have:=Udw _ _ _ h
  unfold Oyez.parse at h ⊢
  generalize Oyez.parseLines (Oyez.linesOf s) none 0=p at *
  obtain ⟨a,b,c,d⟩:=p
  simp_all
 ·rfl
def Yai (f:List Oyez.Rec):Option Oyez.Place:=f.getLast?.map Oyez.Rec.place
def Wix (s:List UInt8) (at_:Nat) (f:List Oyez.Rec):Oyez.Parsed:=glue f (Oyez.parseLines (Oyez.linesOf (s.drop at_)) (Yai f) f.length)
end Ab
namespace Ab
open Go Go.Proofs
attribute [local irreducible] aws awp aw1 Og Om Oc Oa Ogd Ov Ot awd Zb Xb Vb QFn Ub ACode ACalls AYield
end Ab
namespace Ab
open Go Go.Proofs
attribute [local irreducible] aws awp aw1 Og Om Oc Oa Ogd Ov Ot awd Zb Xb Vb QFn Ub ACode ACalls AYield
theorem Vbu (s:Oyez.S):(Oyez.sums s).1<65537∧(Oyez.sums s).2<65537:=by
 rw [Oyez.sums_eq];exact ⟨Nat.mod_lt _ (by decide),Nat.mod_lt _ (by decide)⟩
theorem Vcz {w:List UInt8} {most n:Nat} (h:Oyez.value w most=some n):n≤most:=by
 unfold Oyez.value at h
 split at h
 ·cases h
 ·split at h
  ·cases h
  ·split at h
   ·cases h
   ·split at h
    ·split at h
     ·cases h
     ·cases h;omega
    ·cases h
def Yir (x:Except Int (List UInt8 × Nat × Nat)):AV:=match x with
 | .error e=>.tup [.str [],.int .i64 e]
 | .ok (b,m,n)=>.tup [.str b,.int .i64 (if Oyez.sums b=(m,n) then 0 else 8)]
end Ab
namespace Ab
open Go Go.RowKit Go.Proofs
attribute [local irreducible] aws awp aw1 Og Om Oc Oa Ogd Ov Ot awd Zb awh Wb Ogh Ohd awl Ogl Ohl Xb Vb QFn Ub ACode AYield
def inF (t:List UInt8) (i c:Nat):Option (List UInt8 × Nat):=(List.range' c (256 - c)).findSome? fun c=>Oyez.mendAt t i c
def Zit (t:List UInt8) (L i:Nat):Option (List UInt8 × Nat):=(List.range' i (L - i)).findSome? fun i=>inF t i 0
def Wi8 (X:Option (List UInt8 × Nat)):AV:=match X with
 | some (m,i)=>.tup [.str m,.int .i64 i,.int .i64 0]
 | none=>.tup [.str [],.int .i64 0,.int .i64 6]
end Ab
namespace Ab
open Go Go.RowKit Go.Proofs
def Ucu (ws:List (List UInt8)) (xs:List AV):Prop:=xs=strs ws
def Vba (ws:List (List UInt8)) (xs:List AV):Prop:=xs.length=ws.length
theorem Yg4 {τ:Za} {q:Nat} (ws:List (List UInt8)) (h:τ[q]? = some (.cells (strs ws))):Fz 0 τ (.arr 1 q 0 ws.length) (Xl ws):=by
 have hl:ws.length=(strs ws).length:=by simp [strs]
 rw [hl]
 refine Fz.arr 1 q 0 (strs ws) (strs ws) (fun i _=>(strs ws).getD i .any) (Nat.zero_le _) h (fun i x hx=>?_) (fun i x hx j y hy=>?_)
 ·have hx':=hx
  simp only [strs,Qzp,Qzm] at hx
  obtain ⟨s,hs,rfl⟩:=hx
  refine ⟨rfl,fun j y hy=>?_⟩
  match j,hy with
  | 0,hy =>
   simp [AV.cells] at hy;subst hy
   refine ⟨rfl,?_⟩
   rw [Nat.zero_add,Nat.mul_one,Nat.add_zero,List.getD_eq_getElem?_getD,hx']
   rfl
  | j+1,hy=>simp [AV.cells] at hy
 ·have hx':=hx
  simp only [strs,Qzp,Qzm] at hx
  obtain ⟨s,hs,rfl⟩:=hx
  match j,hy with
  | 0,hy =>
   simp [AV.cells] at hy;subst hy
   rw [List.getD_eq_getElem?_getD,hx']
   exact .str _
  | j+1,hy=>simp [AV.cells] at hy
end Ab

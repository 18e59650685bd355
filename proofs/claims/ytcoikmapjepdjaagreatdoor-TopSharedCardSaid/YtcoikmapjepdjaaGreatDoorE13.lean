/-
  Texts packed for a claim.
-/
import Derived.Test.YtcoikmapjepdjaaGreatDoorE00
import Derived.Shelf.Strings.Builder1
import Derived.Shelf.Strings.OnBuilder
import Derived.Shelf.LaysM
import Derived.Shelf.Strconv.Itoa3
import Derived.Shelf.LaysC
import Derived.Shelf.Strconv.ErrVarAll
import Derived.Ground.Names2Prog
import Derived.Ground.SlgnProg
import Derived.Test.YtcoikmapjepdjaaGreatDoorProg
import Derived.Lib.Bytealg
import Derived.Test.YtcoikmapjepdjaaGreatDoorE08
import Derived.Test.YtcoikmapjepdjaaGreatDoorE10
import Derived.Test.YtcoikmapjepdjaaGreatDoorE11
import Derived.Test.YtcoikmapjepdjaaGreatDoorE12
set_option linter.all false
namespace Go.Proofs
open Go.Shelf
def Tryz.lays169_ren:Go.Shelf.Ren:=⟨fun | 169=>115 | n=>n,fun | 70=>205 | 9=>9 | 0=>0 | 72=>207 | 37=>22 | 127=>292 | 3=>3 | 5=>5 | n=>n,fun | n=>n⟩
theorem Tryz.lays169:Go.Proofs.Lays.n169 Tryz.prog Tryz.lays169_ren:={
 mixed:=by kernel_rfl
 f169:=Tryz.func115.trans (congrArg some (by kernel_rfl))
 t0:=Tryz.underlying0
 a0:=Tryz.isAgg0
 z0:=Tryz.sizeOf0
 v0:=Tryz.zeroValue0
 t3:=Tryz.underlying3
 a3:=Tryz.isAgg3
 z3:=Tryz.sizeOf3
 v3:=Tryz.zeroValue3
 t9:=Tryz.underlying9
 a9:=Tryz.isAgg9
 z9:=Tryz.sizeOf9
 v9:=Tryz.zeroValue9
 t37:=Tryz.underlying22
 a37:=Tryz.isAgg22
 z37:=Tryz.sizeOf22
 v37:=Tryz.zeroValue22
 t70:=Tryz.underlying205
 a70:=Tryz.isAgg205
 z70:=Tryz.sizeOf205
 v70:=Tryz.zeroValue205
 t72:=Tryz.underlying207
 a72:=Tryz.isAgg207
 z72:=Tryz.sizeOf207
 v72:=Tryz.zeroValue207
 t127:=Tryz.underlying292
 a127:=Tryz.isAgg292
 z127:=Tryz.sizeOf292
 v127:=Tryz.zeroValue292 }
theorem Tryz.Builder_Extra_169:Builder.Extra Tryz.prog Tryz.lays169_ren:={
 sizeBuilder:=by kernel_rfl
 liesBuilder:=by kernel_rfl
 t5:=Tryz.underlying5
 a5:=Tryz.isAgg5
 z5:=Tryz.sizeOf5
 v5:=Tryz.zeroValue5
 infoByte:=by kernel_rfl
 cellsByte:=by kernel_rfl
 sizeByte:=by kernel_rfl
 neB5:=by decide }
def Tryz.lays156_ren:Go.Shelf.Ren:=⟨fun | 156=>259 | 165=>307 | 166=>113 | 169=>115 | 240=>188 | 241=>341 | 276=>258 | 277=>353 | n=>n,fun | 31=>66 | 9=>9 | 3=>3 | 4=>4 | 0=>0 | 20=>20 | 72=>207 | 76=>105 | 70=>205 | 37=>22 | 75=>104 | 127=>292 | 164=>356 | 5=>5 | 80=>208 | n=>n,fun | n=>n⟩
theorem Tryz.lays156:Go.Proofs.Lays.n156 Tryz.prog Tryz.lays156_ren:={
 mixed:=by kernel_rfl
 f156:=Tryz.func259.trans (congrArg some (by kernel_rfl))
 f165:=Tryz.func307.trans (congrArg some (by kernel_rfl))
 f166:=Tryz.func113.trans (congrArg some (by kernel_rfl))
 f169:=Tryz.func115.trans (congrArg some (by kernel_rfl))
 f240:=Tryz.func188.trans (congrArg some (by kernel_rfl))
 f241:=Tryz.func341.trans (congrArg some (by kernel_rfl))
 f276:=Tryz.func258.trans (congrArg some (by kernel_rfl))
 f277:=Tryz.func353.trans (congrArg some (by kernel_rfl))
 t0:=Tryz.underlying0
 a0:=Tryz.isAgg0
 z0:=Tryz.sizeOf0
 v0:=Tryz.zeroValue0
 t3:=Tryz.underlying3
 a3:=Tryz.isAgg3
 z3:=Tryz.sizeOf3
 v3:=Tryz.zeroValue3
 t4:=Tryz.underlying4
 a4:=Tryz.isAgg4
 z4:=Tryz.sizeOf4
 v4:=Tryz.zeroValue4
 t9:=Tryz.underlying9
 a9:=Tryz.isAgg9
 z9:=Tryz.sizeOf9
 v9:=Tryz.zeroValue9
 t20:=Tryz.underlying20
 a20:=Tryz.isAgg20
 z20:=Tryz.sizeOf20
 v20:=Tryz.zeroValue20
 t31:=Tryz.underlying66
 a31:=Tryz.isAgg66
 z31:=Tryz.sizeOf66
 v31:=Tryz.zeroValue66
 t37:=Tryz.underlying22
 a37:=Tryz.isAgg22
 z37:=Tryz.sizeOf22
 v37:=Tryz.zeroValue22
 t70:=Tryz.underlying205
 a70:=Tryz.isAgg205
 z70:=Tryz.sizeOf205
 v70:=Tryz.zeroValue205
 t72:=Tryz.underlying207
 a72:=Tryz.isAgg207
 z72:=Tryz.sizeOf207
 v72:=Tryz.zeroValue207
 t75:=Tryz.underlying104
 a75:=Tryz.isAgg104
 z75:=Tryz.sizeOf104
 v75:=Tryz.zeroValue104
 t76:=Tryz.underlying105
 a76:=Tryz.isAgg105
 z76:=Tryz.sizeOf105
 v76:=Tryz.zeroValue105
 t127:=Tryz.underlying292
 a127:=Tryz.isAgg292
 z127:=Tryz.sizeOf292
 v127:=Tryz.zeroValue292
 t164:=Tryz.underlying356
 a164:=Tryz.isAgg356
 z164:=Tryz.sizeOf356
 v164:=Tryz.zeroValue356 }
theorem Tryz.Builder_Extra_156:Builder.Extra Tryz.prog Tryz.lays156_ren:={
 sizeBuilder:=by kernel_rfl
 liesBuilder:=by kernel_rfl
 t5:=Tryz.underlying5
 a5:=Tryz.isAgg5
 z5:=Tryz.sizeOf5
 v5:=Tryz.zeroValue5
 infoByte:=by kernel_rfl
 cellsByte:=by kernel_rfl
 sizeByte:=by kernel_rfl
 neB5:=by decide }
open Go.RowKit in
theorem Tryz.strings_Join (bk o c:Nat) (xs:List ByteArray) (sep:ByteArray) (w:World) (hcells:∀ (j:Nat) x,xs[j]? = some x→w.cell? ⟨bk,o+j,none⟩=some (.string x)) (hbk:bk<w.heap.size) (hN:xs.length≤140737488355328) (hcap:xs.length≤c) (hlen:(Lib.join (xs.map (·.data.toList)) sep.data.toList).length≤140737488355328) :
  Calls Tryz.prog 259 #[.slice (some ⟨bk,o,none⟩) xs.length c,.string sep] w fun e w'=>e=.returned (.string ⟨(Lib.join (xs.map (·.data.toList)) sep.data.toList).toArray⟩)∧Below w.heap.size w w':=Any.strings_Join Tryz.lays156 Tryz.Builder_Extra_156 bk o c xs sep w hcells hbk hN hcap hlen
def Tryz.laysM171_ren:Go.Shelf.Ren:=⟨fun | 171=>38 | 243=>111 | 246=>186 | 283=>254 | 284=>255 | 285=>256 | 286=>257 | 129=>223 | 317=>303 | 318=>304 | 319=>305 | 320=>306 | 337=>339 | 338=>340 | n=>n,fun | 3=>3 | 9=>9 | 2=>2 | 4=>4 | 171=>352 | 0=>0 | 53=>308 | 37=>22 | 5=>5 | 173=>354 | 212=>403 | 51=>135 | 20=>20 | 213=>404 | 46=>92 | 232=>429 | 233=>430 | n=>n,fun | 17=>2 | 18=>4 | 19=>5 | n=>n⟩
theorem Tryz.laysM171:Go.Proofs.LaysM.n171 Tryz.prog Tryz.laysM171_ren:={
 mixed:=by kernel_rfl
 f129:=Tryz.func223.trans (congrArg some (by kernel_rfl))
 f171:=Tryz.func38.trans (congrArg some (by kernel_rfl))
 f243:=Tryz.func111.trans (congrArg some (by kernel_rfl))
 f246:=Tryz.func186.trans (congrArg some (by kernel_rfl))
 f283:=Tryz.func254.trans (congrArg some (by kernel_rfl))
 f284:=Tryz.func255.trans (congrArg some (by kernel_rfl))
 f285:=Tryz.func256.trans (congrArg some (by kernel_rfl))
 f286:=Tryz.func257.trans (congrArg some (by kernel_rfl))
 f317:=Tryz.func303.trans (congrArg some (by kernel_rfl))
 f318:=Tryz.func304.trans (congrArg some (by kernel_rfl))
 f319:=Tryz.func305.trans (congrArg some (by kernel_rfl))
 f320:=Tryz.func306.trans (congrArg some (by kernel_rfl))
 f337:=Tryz.func339.trans (congrArg some (by kernel_rfl))
 f338:=Tryz.func340.trans (congrArg some (by kernel_rfl))
 t0:=Tryz.underlying0
 a0:=Tryz.isAgg0
 z0:=Tryz.sizeOf0
 v0:=Tryz.zeroValue0
 t2:=Tryz.underlying2
 a2:=Tryz.isAgg2
 z2:=Tryz.sizeOf2
 v2:=Tryz.zeroValue2
 t3:=Tryz.underlying3
 a3:=Tryz.isAgg3
 z3:=Tryz.sizeOf3
 v3:=Tryz.zeroValue3
 t4:=Tryz.underlying4
 a4:=Tryz.isAgg4
 z4:=Tryz.sizeOf4
 v4:=Tryz.zeroValue4
 t5:=Tryz.underlying5
 a5:=Tryz.isAgg5
 z5:=Tryz.sizeOf5
 v5:=Tryz.zeroValue5
 t9:=Tryz.underlying9
 a9:=Tryz.isAgg9
 z9:=Tryz.sizeOf9
 v9:=Tryz.zeroValue9
 t20:=Tryz.underlying20
 a20:=Tryz.isAgg20
 z20:=Tryz.sizeOf20
 v20:=Tryz.zeroValue20
 t37:=Tryz.underlying22
 a37:=Tryz.isAgg22
 z37:=Tryz.sizeOf22
 v37:=Tryz.zeroValue22
 t46:=Tryz.underlying92
 a46:=Tryz.isAgg92
 z46:=Tryz.sizeOf92
 v46:=Tryz.zeroValue92
 t51:=Tryz.underlying135
 a51:=Tryz.isAgg135
 z51:=Tryz.sizeOf135
 v51:=Tryz.zeroValue135
 t53:=Tryz.underlying308
 a53:=Tryz.isAgg308
 z53:=Tryz.sizeOf308
 v53:=Tryz.zeroValue308
 t171:=Tryz.underlying352
 a171:=Tryz.isAgg352
 z171:=Tryz.sizeOf352
 v171:=Tryz.zeroValue352
 t173:=Tryz.underlying354
 a173:=Tryz.isAgg354
 z173:=Tryz.sizeOf354
 v173:=Tryz.zeroValue354
 t212:=Tryz.underlying403
 a212:=Tryz.isAgg403
 z212:=Tryz.sizeOf403
 v212:=Tryz.zeroValue403
 t213:=Tryz.underlying404
 a213:=Tryz.isAgg404
 z213:=Tryz.sizeOf404
 t232:=Tryz.underlying429
 a232:=Tryz.isAgg429
 z232:=Tryz.sizeOf429
 v232:=Tryz.zeroValue429
 t233:=Tryz.underlying430
 a233:=Tryz.isAgg430
 z233:=Tryz.sizeOf430
 v233:=Tryz.zeroValue430
 g17:=by kernel_rfl
 g18:=by kernel_rfl
 g19:=by kernel_rfl
 i0:=by kernel_rfl
 i2:=by kernel_rfl
 i3:=by kernel_rfl
 i4:=by kernel_rfl
 i5:=by kernel_rfl
 i9:=by kernel_rfl
 i20:=by kernel_rfl
 i37:=by kernel_rfl
 i46:=by kernel_rfl
 i51:=by kernel_rfl
 i53:=by kernel_rfl
 i171:=by kernel_rfl
 i173:=by kernel_rfl
 i212:=by kernel_rfl
 i232:=by kernel_rfl
 i233:=by kernel_rfl
 m17:=by kernel_rfl
 m18:=by kernel_rfl
 m19:=by kernel_rfl }
open Go.RowKit Go.Sort Go.Lib in
theorem Tryz.strconv_Itoa (n:Int) (h0:-9223372036854775808≤n) (h1:n≤9223372036854775807) (w:World) (htab:Lib.TabIs Tryz.prog w "internal/strconv.uint64pow10" .u64 Lib.pow10Tab) :
  Calls Tryz.prog 38 #[.int .i64 n] w fun e w'=>e=.returned (.string ⟨(Lib.itoa n).toArray⟩)∧∃ k os,w'=grow (w.drewN k) os:=Any.strconv_Itoa Tryz.laysM171 n h0 h1 w htab
def Tryz.laysC172_ren:Go.Shelf.Ren:=⟨fun | 172=>46 | 244=>126 | 245=>127 | 247=>204 | 279=>205 | 280=>206 | 281=>207 | 282=>208 | 287=>267 | 316=>268 | 171=>38 | 205=>269 | 321=>314 | 322=>315 | 243=>111 | 246=>186 | 283=>254 | 284=>255 | 285=>256 | 286=>257 | 129=>223 | 317=>303 | 318=>304 | 319=>305 | 320=>306 | 337=>339 | 338=>340 | n=>n,fun | 9=>9 | 3=>3 | 75=>104 | 76=>105 | 4=>4 | 5=>5 | 167=>311 | 37=>22 | 0=>0 | 85=>312 | 2=>2 | 168=>314 | 53=>308 | 175=>364 | 46=>92 | 210=>367 | 127=>292 | 145=>411 | 143=>409 | 21=>21 | 171=>352 | 173=>354 | 212=>403 | 51=>135 | 20=>20 | 213=>404 | 232=>429 | 233=>430 | 80=>208 | n=>n,fun | 15=>0 | 16=>1 | 17=>2 | 18=>4 | 19=>5 | n=>n⟩
end Go.Proofs
namespace Ab
open Go Go.RowKit Go.Proofs
attribute [local irreducible] aws awp aw1 Og Om Oc Oa Ogd Ov Ot awd Ua Wb Vb QFn Zc ACode AYield
theorem APure.kit {f:FuncId} {args:List AV} {v:AV} (hen:Enters Tryz.prog f)
  (h:∀ (C:Ctx) (cargs:List Value) (σ:Za),Inv C σ→VRs C args cargs→Calls Tryz.prog f cargs.toArray C.w fun e w'=>∃ c,e=.returned c∧VR C v c∧Below C.w.heap.size C.w w'):APure Tryz.prog f args v:=by
 intro σ
 refine .inl ⟨hen,fun C cargs hI hv=>callsIn_wide.2 ((h C cargs σ hI hv).mono ?_)⟩
 rintro e w' ⟨c,rfl,hc,hb⟩
 have hE:=Ext.below hI.plt hb (fun h=>False.elim h)
 exact ⟨c,C.at_ w',v,σ,rfl,rfl,hE,hI.below hb,hc.ext hE,rfl,rfl⟩
theorem APure.ext {f:FuncId} {args:List AV} {v:AV} (h:∀ (C:Ctx) (cargs:List Value),VRs C args cargs→∃ c,(callFunc f cargs.toArray).run Tryz.prog C.w=.ok (.value c) C.w∧VR C v c):APure Tryz.prog f args v:=by
 intro σ
 refine .inr fun C cargs hI hv=>?_
 obtain ⟨c,h1,h2⟩:=h C cargs hv
 exact ⟨c,C,v,σ,h1,Ext.refl C,hI,h2,rfl,rfl⟩
theorem Uh0 {C:Ctx} {σ:Za} (hI:Inv C σ):GoodW C.w:=hI.glob.below hI.base
theorem below_grow (w:World) (n:Nat) (os:Array Obj):Below w.heap.size w (Go.Sort.grow (w.drewN n) os):=by
 refine ⟨rfl,rfl,rfl,?_,fun k hk=>?_⟩
 ·show w.heap.size≤(w.heap++os).size
  simp
 ·show (w.heap++os)[k]? = w.heap[k]?
  rw [Array.getElem?_append_left hk]
theorem Vg1 (s:List UInt8) (c:UInt8):APure Tryz.prog 342 [.str s,.int .u8 c.toNat] (.int .i64 (Lib.indexByte s c)):=by
 refine APure.ext fun C cargs hv=>?_
 obtain ⟨x,r,rfl,h1,h2⟩:=hv.inv
 obtain ⟨y,r,rfl,h4,h3⟩:=h2.inv
 obtain rfl:=h3.of_nil
 rw [h1.str_inv,h4.int_inv]
 refine ⟨.int .i64 (Lib.indexByte s c),?_,.int _ _⟩
 rw [run_callFunc_extern Tryz.func342 (by kernel_rfl) (by kernel_rfl) (by kernel_rfl) (e:=Extern.BytealgIndexByte.indexByte) (by kernel_rfl)]
 have:=Lib.run_indexByteString (P:=Tryz.prog) ⟨⟨s⟩⟩ (c.toNat:Int) C.w
 simp only [Int.toNat_natCast] at this
 rw [this]
 simp [Result.andThen]
def Ya8 (c:UInt8):List UInt8→List UInt8 × List UInt8 × Bool
 | []=>([],[],false)
 | b::t=>if b=c then ([],t,true) else (b::(Ya8 c t).1,(Ya8 c t).2.1,(Ya8 c t).2.2)
theorem Yf4 (s:List UInt8) (c:UInt8):APure Tryz.prog 309 [.str s,.int .u8 c.toNat] (.int .i64 (Lib.indexByte s c)):=by
 intro σ
 refine Yb Tryz.func309 rfl (Zb Tryz.func309 (by decide) rfl) ?_
 simp [Tryz.ntmps309]
 refine (Vg1 s c).use ?_
 simp
theorem decDigits_eq (n:Nat):Lib.decDigits n=Oyez.digitsN n:=by
 induction n using Nat.strongRecOn with
 | _ n ih =>
  rw [Lib.decDigits]
  rcases Qzn n 10 with h | h
  ·rw [dif_pos h,Oyez.digitsN_lt h]
  ·rw [dif_neg (by omega),Oyez.digitsN_ge h,ih (n / 10) (by omega)]
theorem Ycr (n:Int) (h0:-9223372036854775808≤n) (h1:n≤9223372036854775807):APure Tryz.prog 38 [.int .i64 n] (.str (Lib.itoa n)):=by
 refine APure.kit (Zb Tryz.func38 (by decide) rfl) fun C cargs σ hI hv=>?_
 obtain ⟨x,r,rfl,h2,h3⟩:=hv.inv
 obtain rfl:=h3.of_nil
 rw [h2.int_inv]
 refine (Tryz.strconv_Itoa n h0 h1 C.w (Uh0 hI).pow).mono ?_
 rintro e w' ⟨rfl,k,os,rfl⟩
 exact ⟨_,rfl,by simpa using VR.str (C:=C) (Lib.itoa n),below_grow _ _ _⟩
theorem Vdn (n:Nat):Lib.itoa n=Oyez.digitsN n:=by
 unfold Lib.itoa
 rw [if_neg (by omega),Int.toNat_natCast,decDigits_eq]
end Ab
namespace Ab
open Go Go.RowKit Go.Proofs
attribute [local irreducible] aws awp aw1 Og Om Oc Oa Ogd Ov Ot awd Ua awh Xb Ogh Ohd Wb Vb QFn Zc ACode AYield
def Wio (s:List UInt8):AV:=match Lib.atoiAll s with
 | .ok m=>.tup [.int .i64 m,.nili]
 | .range=>.tup [.int .i64 (Lib.atoiSat s),.iface 314 .any]
 | _=>.tup [.int .i64 0,.iface 314 .any]
theorem Za1 (n lo hi:Int):APure Tryz.prog 121 [.int .i64 n,.int .i64 lo,.int .i64 hi] (.bool (decide (lo≤n)&&decide (n≤hi))):=by
 intro σ
 refine Yb Tryz.func121 rfl (Zb Tryz.func121 (by decide) rfl) ?_
 by_cases h:lo≤n
 ·simp [Tryz.ntmps121,h]
 ·simp [Tryz.ntmps121,h]
def Xa5 (w:List UInt8) (most:Int):Bool:=match Lib.atoiAll w with
 | .ok m=>decide (0≤m)&&decide (m≤most)&&decide (Lib.itoa m=w)
 | _=>false
def Vbk (w:List UInt8):Int:=match Lib.atoiAll w with
 | .ok m=>m
 | .range=>Lib.atoiSat w
 | _=>0
theorem Uax (n:Int):APure Tryz.prog 243 [.int .i64 n] (.bool false)∧APure Tryz.prog 229 [.int .i64 n] (.bool false):=by
 constructor
 ·intro σ
  refine Yb Tryz.func243 rfl (Zb Tryz.func243 (by decide) rfl) ?_
  simp [Tryz.ntmps243]
 ·intro σ
  refine Yb Tryz.func229 rfl (Zb Tryz.func229 (by decide) rfl) ?_
  simp [Tryz.ntmps229]
def Wo (a b:Int):Int:=if a<b then -1 else if b<a then 1 else 0
theorem Ydk (a b:Int):APure Tryz.prog 175 [.int .i64 a,.int .i64 b] (.int .i64 (Wo a b)):=by
 intro σ
 refine Yb Tryz.func175 rfl (Zb Tryz.func175 (by decide) rfl) ?_
 simp [Tryz.ntmps175]
 refine (Uax _).1.use ?_
 refine (Uax _).1.use ?_
 by_cases h:a<b
 ·simp [Wo,h]
 ·by_cases h2:b<a
  ·simp [Wo,h,h2]
  ·simp [Wo,h,h2]
theorem Ybs (a b:Int):APure Tryz.prog 155 [.int .i64 a,.int .i64 b] (.int .i64 (Wo a b)):=by
 intro σ
 refine Yb Tryz.func155 rfl (Zb Tryz.func155 (by decide) rfl) ?_
 simp [Tryz.ntmps155]
 refine (Uax _).2.use ?_
 refine (Uax _).2.use ?_
 by_cases h:a<b
 ·simp [Wo,h]
 ·by_cases h2:b<a
  ·simp [Wo,h,h2]
  ·simp [Wo,h,h2]
def Zap (p:Oyez.Place):AV:=.agg [.int .i64 p.kind,.int .i64 p.number]
attribute [simp] Zap
theorem Zbl (r:Oyez.Rec):APure Tryz.prog 124 [Zm r] (Zap r.place):=by
 refine APure.of fun σ=>?_
 refine Yb Tryz.func124 rfl (Zb Tryz.func124 (by decide) rfl) ?_
 simp [Tryz.ntmps124,Oyez.Rec.place]
def Uat (p q:Oyez.Place):Int:=if Wo p.kind q.kind≠0 then Wo p.kind q.kind else Wo p.number q.number
theorem Wel (a b:Int) (σ:Za) (r:Nat) (h:σ[r]? = some (.cells [.int .i64 a,.int .i64 b])):ACalls Tryz.prog 174 [.arr 1 r 0 2] σ (fun v σ'=>v=.int .i64 (if a≠0 then a else b)∧σ'=σ):=by
 refine Yb Tryz.func174 rfl (Zb Tryz.func174 (by decide) rfl) ?_
 simp [Tryz.ntmps174]
 refine Wd (fun env σ'=>∃ (u:List AV) (i:Nat),env={ t:=u }∧u.length=18∧tg u 3=.int .i64 0∧tg u 6=.arr 1 r 0 2∧tg u 7=.int .i64 2∧tg u 8=.int .i64 i∧σ'=σ∧i≤2∧(0<i→a=0)∧(1<i→b=0))
  (fun env _=>match tg env.t 8 with | .int _ i=>2 - i.toNat | _=>0) ⟨_,0,rfl,by simp,by simp,by simp,by simp,by simp,rfl,by omega,by omega,by omega⟩ ?_
 rintro env σ' ⟨u,i,rfl,hl,g3,g6,g7,g8,rfl,hi,ha,hb⟩
 match i,hi with
 | 0,_ =>
  by_cases h0:a=0
  ·have hw:=w64 (n:=(1:Int)) (by omega) (by omega)
   simp [hl,g3,g6,g7,g8,h,h0,hw]
   exact ⟨1,rfl,by omega,by omega⟩
  ·simp [hl,g3,g6,g7,g8,h,h0]
 | 1,_ =>
  have h0:=ha (by omega)
  by_cases h1:b=0
  ·have hw:=w64 (n:=(2:Int)) (by omega) (by omega)
   simp [hl,g3,g6,g7,g8,h,h0,h1,hw]
   exact ⟨2,rfl,by omega⟩
  ·simp [hl,g3,g6,g7,g8,h,h0,h1]
 | 2,_ =>
  have h0:=ha (by omega)
  have h1:=hb (by omega)
  simp [hl,g3,g6,g7,g8,h,h0,h1]
theorem Wem (p q:Oyez.Place):APure Tryz.prog 100 [Zap p,Zap q] (.int .i64 (Uat p q)):=by
 refine APure.of fun σ=>?_
 refine Yb Tryz.func100 rfl (Zb Tryz.func100 (by decide) rfl) ?_
 simp [Tryz.ntmps100]
 refine Vgd [10] mixed (by kernel_rfl) ?_
 simp
 refine Xal (Ydk _ _) ?_
 refine Xal (Ybs _ _) ?_
 simp
 refine Yay (Wel (Wo p.kind q.kind) (Wo p.number q.number) _ (σ.length+2) (by simp)) ?_
 unfold Uat
 simp
theorem Uey (p q:Oyez.Place):(Uat p q<0)↔p.lt q=true:=by
 rw [Oyez.Place.lt_iff]
 unfold Uat Wo
 repeat' split
 all_goals omega
end Ab
namespace Ab
open Go Go.RowKit Go.Proofs
attribute [local irreducible] aws awp aw1 Og Om Oc Oa Ogd Ov Ot awd Ua awh Xb Ogh Ohd awl Ogl Ohl awv Ogv Ohv Wb Vb QFn Zc QRo QBe ACode AYield
def recAt (rv:AV) (i:Int) (σ:Za):Option AV:=match rv with
 | .pl 3 l=>if 0≤i∧i.toNat<l.length then (l[i.toNat]?).bind (fun x=>if x.cells.length=3 then x.cells[2]? else none) else none
 | .arr 3 r 0 len=>if 0≤i∧i.toNat<len then (match σ[r]? with
  | some (.cells cs)=>if i.toNat*3+3≤cs.length then cs[i.toNat*3+2]? else none
  | _=>none) else none
 | _=>none
def Vex (rv:AV) (es:List (AV × AV)) (k n:Int) (σ:Za):Option (AV × Bool) :=
 match Ym [1,1] [.int .i64 k,.int .i64 n] es 0 with
 | some none=>some (.nils,false)
 | some (some (_,.int .i64 i))=>(recAt rv i σ).map (·,true)
 | _=>none
end Ab

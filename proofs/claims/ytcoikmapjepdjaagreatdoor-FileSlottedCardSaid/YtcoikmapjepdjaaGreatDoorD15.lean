/-
  Texts packed for a claim.
-/
import Derived.Test.YtcoikmapjepdjaaGreatDoorD00
import Derived.Lib.Bytealg
import Derived.Test.YtcoikmapjepdjaaGreatDoorD07
import Derived.Test.YtcoikmapjepdjaaGreatDoorD09
import Derived.Test.YtcoikmapjepdjaaGreatDoorD12
import Derived.Test.YtcoikmapjepdjaaGreatDoorD11
import Derived.Test.YtcoikmapjepdjaaGreatDoorD13
import Derived.Test.YtcoikmapjepdjaaGreatDoorD14
set_option linter.all false
namespace Ab
open Go Go.RowKit Go.Proofs
attribute [local irreducible] aws awp aw1 Og Om Oc Oa Ogd Ov Ot awd Zb Wb Vb QFn Ub ACode AYield
theorem APure.kit {f:FuncId} {args:List AV} {v:AV} (hen:Enters Tryz.prog f)
  (h:∀ (C:Ctx) (cargs:List Value) (σ:Za),Inv C σ→VRs C args cargs→Calls Tryz.prog f cargs.toArray C.w fun e w'=>∃ c,e=.returned c∧VR C v c∧Below C.w.heap.size C.w w'):APure Tryz.prog f args v:=by
 intro σ
 refine .inl ⟨hen,fun C cargs hI hv=>callsIn_wide.2 ((h C cargs σ hI hv).mono ?_)⟩
 rintro e w' ⟨c,rfl,hc,hb⟩
 have hE:=Ext.below hI.plt hb (fun h=>False.elim h)
 exact ⟨c,C.at_ w',v,σ,rfl,rfl,hE,hI.below hb,hc.ext hE,rfl,rfl⟩
theorem APure.ext {f:FuncId} {args:List AV} {v:AV} (h:∀ (C:Ctx) (cargs:List Value),VRs C args cargs→∃ c,(callFunc f cargs.toArray).run Tryz.prog C.w=.ok (.value c) C.w∧VR C v c):APure Tryz.prog f args v:=by
 intro σ
 refine .inr fun C cargs hI hv=>?_
 obtain ⟨c,h1,h2⟩:=h C cargs hv
 exact ⟨c,C,v,σ,h1,Ext.refl C,hI,h2,rfl,rfl⟩
theorem Xbg {C:Ctx} {σ:Za} (hI:Inv C σ):GoodW C.w:=hI.glob.below hI.base
theorem below_grow (w:World) (n:Nat) (os:Array Obj):Below w.heap.size w (Go.Sort.grow (w.drewN n) os):=by
 refine ⟨rfl,rfl,rfl,?_,fun k hk=>?_⟩
 ·show w.heap.size≤(w.heap++os).size
  simp
 ·show (w.heap++os)[k]? = w.heap[k]?
  rw [Array.getElem?_append_left hk]
theorem Vcu (s:List UInt8) (c:UInt8):APure Tryz.prog 342 [.str s,.int .u8 c.toNat] (.int .i64 (Lib.indexByte s c)):=by
 refine APure.ext fun C cargs hv=>?_
 obtain ⟨x,r,rfl,h1,h2⟩:=hv.inv
 obtain ⟨y,r,rfl,h4,h3⟩:=h2.inv
 obtain rfl:=h3.of_nil
 rw [h1.str_inv,h4.int_inv]
 refine ⟨.int .i64 (Lib.indexByte s c),?_,.int _ _⟩
 rw [run_callFunc_extern Tryz.func342 (by kernel_rfl) (by kernel_rfl) (by kernel_rfl) (e:=Extern.BytealgIndexByte.indexByte) (by kernel_rfl)]
 have:=Lib.run_indexByteString (P:=Tryz.prog) ⟨⟨s⟩⟩ (c.toNat:Int) C.w
 simp only [Int.toNat_natCast] at this
 rw [this]
 simp [Result.andThen]
def Ye (c:UInt8):List UInt8→List UInt8 × List UInt8 × Bool
 | []=>([],[],false)
 | b::t=>if b=c then ([],t,true) else (b::(Ye c t).1,(Ye c t).2.1,(Ye c t).2.2)
theorem Zdy (c:UInt8) (s:List UInt8):if (Ye c s).2.2=true then
   ∃ n:Nat,Lib.indexByte s c=n∧n<s.length∧(Ye c s).1=s.take n∧(Ye c s).2.1=s.drop (n+1)
  else Lib.indexByte s c=-1∧(Ye c s).1=s∧(Ye c s).2.1=[]:=by
 induction s with
 | nil=>simp [Ye,Lib.indexByte]
 | cons b t ih =>
  unfold Ye Lib.indexByte
  by_cases h:b=c
  ·simp [h]
   exact ⟨0,rfl,by omega,rfl,rfl⟩
  ·have hb:(b == c)=false:=by simpa using h
   simp only [if_neg h,hb,Bool.false_eq_true,if_false]
   cases hf:(Ye c t).2.2 with
   | true =>
    rw [hf] at ih
    simp only [if_true] at ih ⊢
    obtain ⟨n,h1,h2,h3,h4⟩:=ih
    have h5:(Lib.indexByte t c == -1)=false:=by rw [h1];simp
    refine ⟨n+1,by rw [h5,h1];simp,by simpa using h2,by simp [h3],by simpa using h4⟩
   | false =>
    rw [hf] at ih
    simp only [Bool.false_eq_true,if_false] at ih ⊢
    obtain ⟨h1,h2,h3⟩:=ih
    simp [h1,h2,h3]
theorem Ubw (s:List UInt8) (c:UInt8):APure Tryz.prog 309 [.str s,.int .u8 c.toNat] (.int .i64 (Lib.indexByte s c)):=by
 intro σ
 refine Yb Tryz.func309 rfl (Va Tryz.func309 (by decide) rfl) ?_
 simp [Tryz.ntmps309]
 refine (Vcu s c).use ?_
 simp
set_option maxRecDepth 4000 in
theorem Yha (s:List UInt8) (c:UInt8):APure Tryz.prog 265 [.str s,.str [c]] (.int .i64 (Lib.indexByte s c)):=by
 intro σ
 refine Yb Tryz.func265 rfl (Va Tryz.func265 (by decide) rfl) ?_
 by_cases h:[c]=s
 ·subst h
  simp [Tryz.ntmps265,Lib.indexByte]
 ·simp [Tryz.ntmps265,h]
  refine (Ubw s c).use ?_
  simp
set_option maxRecDepth 4000 in
theorem Ucd (s:List UInt8) (c:UInt8) (hs:s.length≤2^50):APure Tryz.prog 122 [.str s,.str [c]] (.tup [.str (Ye c s).1,.str (Ye c s).2.1,.bool (Ye c s).2.2]):=by
 have h1:APure Tryz.prog 196 [.str s,.str [c]] (.tup [.str (Ye c s).1,.str (Ye c s).2.1,.bool (Ye c s).2.2]):=by
  intro σ
  refine Yb Tryz.func196 rfl (Va Tryz.func196 (by decide) rfl) ?_
  have hx:=Zdy c s
  simp [Tryz.ntmps196]
  refine (Yha s c).use ?_
  cases hf:(Ye c s).2.2 with
  | true =>
   rw [hf] at hx
   simp only [if_true] at hx
   obtain ⟨n,h1,h2,h3,h4⟩:=hx
   rw [h1,h3,h4]
   have h0:(0:Int)≤(n:Int):=by omega
   simp [h0]
   refine Zj mixed (by kernel_rfl) ?_
   have hw:=w64 (n:=(n:Int)+1) (by omega) (by omega)
   have h5:(0:Int)≤(n:Int)+1:=by omega
   have h6:n≤s.length:=by omega
   have h7:n+1≤s.length:=by omega
   simp [hw,h0,h5,h6,h7]
  | false =>
   rw [hf] at hx
   simp only [Bool.false_eq_true,if_false] at hx
   obtain ⟨h1,h2,h3⟩:=hx
   rw [h1,h2,h3]
   simp
 intro σ
 refine Yb Tryz.func122 rfl (Va Tryz.func122 (by decide) rfl) ?_
 simp [Tryz.ntmps122]
 refine h1.use ?_
 simp
theorem Ycr (s:List UInt8):Oyez.cutLine s=((Ye 10 s).1,(Ye 10 s).2.2,(Ye 10 s).2.1):=by
 induction s with
 | nil=>rfl
 | cons b t ih =>
  unfold Oyez.cutLine Ye
  by_cases h:b=10
  ·simp [h]
  ·simp [h,ih]
theorem Ve8 (s:List UInt8):Oyez.words s=if (Ye 32 s).2.2 then (Ye 32 s).1::Oyez.words (Ye 32 s).2.1 else [(Ye 32 s).1]:=by
 induction s with
 | nil=>rfl
 | cons b t ih =>
  by_cases h:b=32
  ·subst h;rw [Wbb];simp [Ye]
  ·have e:Ye 32 (b::t)=(b::(Ye 32 t).1,(Ye 32 t).2.1,(Ye 32 t).2.2):=by rw [Ye,if_neg h]
   rw [Zbb b t h,ih,e]
   cases (Ye 32 t).2.2<;>simp [Xar]
theorem Ybt (c:UInt8) (s:List UInt8):(Ye c s).2.1.length≤s.length∧(Ye c s).1.length≤s.length∧((Ye c s).2.2=true→(Ye c s).2.1.length<s.length):=by
 induction s with
 | nil=>simp [Ye]
 | cons b t ih =>
  unfold Ye
  split
  ·simp
  ·refine ⟨by simp;omega,by simp;omega,fun h=>?_⟩
   have:=ih.2.2 h
   simp;omega
theorem Ycg (s:List UInt8) (c:UInt8) (hs:s.length≤2^50):APure Tryz.prog 260 [.str s,.str [c]] (.bool (decide (s.getLast? = some c))):=by
 intro σ
 refine Yb Tryz.func260 rfl (Va Tryz.func260 (by decide) rfl) ?_
 obtain rfl | ⟨t,b,rfl⟩:s=[]∨∃ t b,s=t++[b]:=by
  rcases List.eq_nil_or_concat s with h | ⟨t,b,h⟩
  ·exact .inl h
  ·exact .inr ⟨t,b,by simpa using h⟩
 ·simp [Tryz.ntmps260]
 ·simp at hs
  have h1:(1:Int)≤(t.length:Int)+1:=by omega
  have hw:=w64 (n:=(t.length:Int)) (by omega) (by omega)
  have h2:(0:Int)≤(t.length:Int):=by omega
  have h3:List.drop t.length (List.take (t.length+1) (t++[b]))=[b]:=by
   rw [List.take_of_length_le (by simp),List.drop_left]
  by_cases h:b=c
  ·subst h
   simp [Tryz.ntmps260,h1,hw,h2,h3]
  ·simp [Tryz.ntmps260,h1,hw,h2,h3,h]
theorem Vgw (s:List UInt8) (c:UInt8) (hs:s.length≤2^50):APure Tryz.prog 191 [.str s,.str [c]] (.bool (decide (s.getLast? = some c))):=by
 intro σ
 refine Yb Tryz.func191 rfl (Va Tryz.func191 (by decide) rfl) ?_
 simp [Tryz.ntmps191]
 refine (Ycg s c hs).use ?_
 simp
theorem Zf5 (s:List UInt8) (c:UInt8) (hs:s.length≤2^50):APure Tryz.prog 192 [.str s,.str [c]] (.tup [.str (if s.getLast? = some c then s.dropLast else s),.bool (decide (s.getLast? = some c))]):=by
 have h1:APure Tryz.prog 261 [.str s,.str [c]] (.tup [.str (if s.getLast? = some c then s.dropLast else s),.bool (decide (s.getLast? = some c))]):=by
  intro σ
  refine Yb Tryz.func261 rfl (Va Tryz.func261 (by decide) rfl) ?_
  simp [Tryz.ntmps261]
  refine (Ycg s c hs).use ?_
  by_cases h:s.getLast? = some c
  ·obtain ⟨t,rfl⟩:=List.getLast?_eq_some_iff.1 h
   simp at hs
   have hw:=w64 (n:=(t.length:Int)) (by omega) (by omega)
   have h2:(0:Int)≤(t.length:Int):=by omega
   simp [hw,h2]
  ·simp [h]
 intro σ
 refine Yb Tryz.func192 rfl (Va Tryz.func192 (by decide) rfl) ?_
 simp [Tryz.ntmps192]
 refine h1.use ?_
 simp
theorem decDigits_eq (n:Nat):Lib.decDigits n=Oyez.digitsN n:=by
 induction n using Nat.strongRecOn with
 | _ n ih =>
  rw [Lib.decDigits]
  rcases Qzn n 10 with h | h
  ·rw [dif_pos h,Oyez.digitsN_lt h]
  ·rw [dif_neg (by omega),Oyez.digitsN_ge h,ih (n / 10) (by omega)]
theorem Yap (n:Int) (h0:-9223372036854775808≤n) (h1:n≤9223372036854775807):APure Tryz.prog 38 [.int .i64 n] (.str (Lib.itoa n)):=by
 refine APure.kit (Va Tryz.func38 (by decide) rfl) fun C cargs σ hI hv=>?_
 obtain ⟨x,r,rfl,h2,h3⟩:=hv.inv
 obtain rfl:=h3.of_nil
 rw [h2.int_inv]
 refine (Tryz.strconv_Itoa n h0 h1 C.w (Xbg hI).pow).mono ?_
 rintro e w' ⟨rfl,k,os,rfl⟩
 exact ⟨_,rfl,by simpa using VR.str (C:=C) (Lib.itoa n),below_grow _ _ _⟩
theorem Yay (n:Nat):Lib.itoa n=Oyez.digitsN n:=by
 unfold Lib.itoa
 rw [if_neg (by omega),Int.toNat_natCast,decDigits_eq]
end Ab
namespace Ab
open Go Go.RowKit Go.Proofs
attribute [local irreducible] aws awp aw1 Og Om Oc Oa Ogd Ov Ot awd Zb awh Xb Ogh Ohd Wb Vb QFn Ub ACode AYield
def Vaq (s:List UInt8):AV:=match Lib.atoiAll s with
 | .ok m=>.tup [.int .i64 m,.nili]
 | .range=>.tup [.int .i64 (Lib.atoiSat s),.iface 314 .any]
 | _=>.tup [.int .i64 0,.iface 314 .any]
theorem Wcc (s:List UInt8) (hs:s.length≤2^40):APure Tryz.prog 46 [.str s] (Vaq s):=by
 refine APure.kit (Va Tryz.func46 (by decide) rfl) fun C cargs σ hI hv=>?_
 obtain ⟨x,r,rfl,h2,h3⟩:=hv.inv
 obtain rfl:=h3.of_nil
 rw [h2.str_inv]
 have hsz:(ByteArray.mk ⟨s⟩).size=s.length:=rfl
 unfold Vaq
 cases h:Lib.atoiAll s with
 | ok m =>
  refine (Tryz.strconv_Atoi_ok ⟨⟨s⟩⟩ (by rw [hsz];omega) m h C.w).mono ?_
  rintro e w' ⟨rfl,hw⟩
  refine ⟨_,rfl,.tup _ [_,_] rfl (VRs.cons (.int _ _) (.cons .nili (.nil C))).at_,?_⟩
  rcases hw with rfl | ⟨t,rfl⟩
  ·exact Below.refl _ _
  ·exact Lib.bytesWorld_below _ _ _
 | range =>
  obtain ⟨tp,p,hg⟩:=(Xbg hI).rng
  refine (Tryz.strconv_Atoi_range_var ⟨⟨s⟩⟩ (by rw [hsz];omega) h tp p C.w hg).mono ?_
  rintro e w' ⟨N,rfl,_,_,hb⟩
  exact ⟨_,rfl,.tup _ [_,_] rfl (VRs.cons (.int _ _) (.cons (.iface _ _ _ (.any _)) (.nil C))).at_,hb⟩
 | _ =>
  obtain ⟨tp,p,hg⟩:=(Xbg hI).syn
  refine (Tryz.strconv_Atoi_bad_var ⟨⟨s⟩⟩ (by rw [hsz];omega) (h.trans rfl) tp p C.w hg).mono ?_
  rintro e w' ⟨N,rfl,_,_,hb⟩
  exact ⟨_,rfl,.tup _ [_,_] rfl (VRs.cons (.int _ _) (.cons (.iface _ _ _ (.any _)) (.nil C))).at_,hb⟩
theorem Xac (n lo hi:Int):APure Tryz.prog 121 [.int .i64 n,.int .i64 lo,.int .i64 hi] (.bool (decide (lo≤n)&&decide (n≤hi))):=by
 intro σ
 refine Yb Tryz.func121 rfl (Va Tryz.func121 (by decide) rfl) ?_
 by_cases h:lo≤n
 ·simp [Tryz.ntmps121,h]
 ·simp [Tryz.ntmps121,h]
def Ur (w:List UInt8) (most:Int):Bool:=match Lib.atoiAll w with
 | .ok m=>decide (0≤m)&&decide (m≤most)&&decide (Lib.itoa m=w)
 | _=>false
def Zaa (w:List UInt8):Int:=match Lib.atoiAll w with
 | .ok m=>m
 | .range=>Lib.atoiSat w
 | _=>0
theorem Vbv (w:List UInt8) (most:Int) (hw:w.length≤2^40) (hm:most≤2^40):APure Tryz.prog 195 [.str w,.int .i64 most] (.tup [.int .i64 (Zaa w),.bool (Ur w most)]):=by
 intro σ
 refine Yb Tryz.func195 rfl (Va Tryz.func195 (by decide) rfl) ?_
 simp [Tryz.ntmps195]
 refine (Wcc w hw).use ?_
 unfold Vaq Zaa Ur
 cases h:Lib.atoiAll w with
 | ok m =>
  simp
  refine (Xac _ _ _).use ?_
  by_cases h0:0≤m∧m≤most
  ·have:(decide (0≤m)&&decide (m≤most))=true:=by simpa using h0
   rw [this]
   simp
   refine (Yap m (by omega) (by omega)).use ?_
   simp [h0.1,h0.2]
  ·have:(decide (0≤m)&&decide (m≤most))=false:=by rw [Bool.eq_false_iff];simpa using h0
   rw [this]
   simp
 | range=>simp
 | _=>simp
theorem Va5 (n:Int):APure Tryz.prog 243 [.int .i64 n] (.bool false)∧APure Tryz.prog 229 [.int .i64 n] (.bool false):=by
 constructor
 ·intro σ
  refine Yb Tryz.func243 rfl (Va Tryz.func243 (by decide) rfl) ?_
  simp [Tryz.ntmps243]
 ·intro σ
  refine Yb Tryz.func229 rfl (Va Tryz.func229 (by decide) rfl) ?_
  simp [Tryz.ntmps229]
def Uk (a b:Int):Int:=if a<b then -1 else if b<a then 1 else 0
theorem Yg2 (a b:Int):APure Tryz.prog 175 [.int .i64 a,.int .i64 b] (.int .i64 (Uk a b)):=by
 intro σ
 refine Yb Tryz.func175 rfl (Va Tryz.func175 (by decide) rfl) ?_
 simp [Tryz.ntmps175]
 refine (Va5 _).1.use ?_
 refine (Va5 _).1.use ?_
 by_cases h:a<b
 ·simp [Uk,h]
 ·by_cases h2:b<a
  ·simp [Uk,h,h2]
  ·simp [Uk,h,h2]
theorem Wgz (a b:Int):APure Tryz.prog 155 [.int .i64 a,.int .i64 b] (.int .i64 (Uk a b)):=by
 intro σ
 refine Yb Tryz.func155 rfl (Va Tryz.func155 (by decide) rfl) ?_
 simp [Tryz.ntmps155]
 refine (Va5 _).2.use ?_
 refine (Va5 _).2.use ?_
 by_cases h:a<b
 ·simp [Uk,h]
 ·by_cases h2:b<a
  ·simp [Uk,h,h2]
  ·simp [Uk,h,h2]
def Ve (p:Oyez.Place):AV:=.agg [.int .i64 p.kind,.int .i64 p.number]
attribute [simp] Ve
theorem Yai (r:Oyez.Rec):APure Tryz.prog 124 [Yg r] (Ve r.place):=by
 refine APure.of fun σ=>?_
 refine Yb Tryz.func124 rfl (Va Tryz.func124 (by decide) rfl) ?_
 simp [Tryz.ntmps124,Oyez.Rec.place]
def Ws (p q:Oyez.Place):Int:=if Uk p.kind q.kind≠0 then Uk p.kind q.kind else Uk p.number q.number
theorem Yg5 (a b:Int) (σ:Za) (r:Nat) (h:σ[r]? = some (.cells [.int .i64 a,.int .i64 b])):ACalls Tryz.prog 174 [.arr 1 r 0 2] σ (fun v σ'=>v=.int .i64 (if a≠0 then a else b)∧σ'=σ):=by
 refine Yb Tryz.func174 rfl (Va Tryz.func174 (by decide) rfl) ?_
 simp [Tryz.ntmps174]
 refine Vd (fun env σ'=>∃ (u:List AV) (i:Nat),env={ t:=u }∧u.length=18∧tg u 3=.int .i64 0∧tg u 6=.arr 1 r 0 2∧tg u 7=.int .i64 2∧tg u 8=.int .i64 i∧σ'=σ∧i≤2∧(0<i→a=0)∧(1<i→b=0))
  (fun env _=>match tg env.t 8 with | .int _ i=>2 - i.toNat | _=>0) ⟨_,0,rfl,by simp,by simp,by simp,by simp,by simp,rfl,by omega,by omega,by omega⟩ ?_
 rintro env σ' ⟨u,i,rfl,hl,g3,g6,g7,g8,rfl,hi,ha,hb⟩
 match i,hi with
 | 0,_ =>
  by_cases h0:a=0
  ·have hw:=w64 (n:=(1:Int)) (by omega) (by omega)
   simp [hl,g3,g6,g7,g8,h,h0,hw]
   exact ⟨1,rfl,by omega,by omega⟩
  ·simp [hl,g3,g6,g7,g8,h,h0]
 | 1,_ =>
  have h0:=ha (by omega)
  by_cases h1:b=0
  ·have hw:=w64 (n:=(2:Int)) (by omega) (by omega)
   simp [hl,g3,g6,g7,g8,h,h0,h1,hw]
   exact ⟨2,rfl,by omega⟩
  ·simp [hl,g3,g6,g7,g8,h,h0,h1]
 | 2,_ =>
  have h0:=ha (by omega)
  have h1:=hb (by omega)
  simp [hl,g3,g6,g7,g8,h,h0,h1]
theorem Zcg (p q:Oyez.Place):APure Tryz.prog 100 [Ve p,Ve q] (.int .i64 (Ws p q)):=by
 refine APure.of fun σ=>?_
 refine Yb Tryz.func100 rfl (Va Tryz.func100 (by decide) rfl) ?_
 simp [Tryz.ntmps100]
 refine Vag [10] mixed (by kernel_rfl) ?_
 simp
 refine Wy (Yg2 _ _) ?_
 refine Wy (Wgz _ _) ?_
 simp
 refine Ya4 (Yg5 (Uk p.kind q.kind) (Uk p.number q.number) _ (σ.length+2) (by simp)) ?_
 unfold Ws
 simp
theorem Va8 (p q:Oyez.Place):(Ws p q<0)↔p.lt q=true:=by
 rw [Oyez.Place.lt_iff]
 unfold Ws Uk
 repeat' split
 all_goals omega
theorem Va6 (w:List UInt8) (most:Nat) (hm:most≤999999):Ur w most=(Oyez.value w most).isSome∧∀ n,Oyez.value w most=some n→Zaa w=n:=by
 constructor
 ·cases h:Oyez.value w most with
  | some n =>
   obtain ⟨h1,h2,h3,h4⟩:=Oyez.atoi_value h
   simp [Ur,h1,h2,h3]
   omega
  | none =>
   rw [Option.isSome_none,Bool.eq_false_iff]
   intro ho
   unfold Ur at ho
   split at ho
   ·rename_i m hm1
    simp only [Bool.and_eq_true,decide_eq_true_eq] at ho
    obtain ⟨⟨h1,h2⟩,h3⟩:=ho
    obtain ⟨n,rfl⟩:∃ n:Nat,m=n:=⟨m.toNat,by omega⟩
    rw [Yay] at h3
    have:=Oyez.value_digits (n:=n) (most:=most) (by omega) hm
    rw [h3,h] at this
    cases this
   ·cases ho
 ·intro n h
  obtain ⟨h1,_⟩:=Oyez.atoi_value h
  simp [Zaa,h1]
end Ab
namespace Ab
open Go Go.RowKit Go.Proofs
attribute [local irreducible] aws awp aw1 Og Om Oc Oa Ogd Ov Ot awd Zb awh Xb Ogh Ohd awl Ogl Ohl awv Ogv Ohv Wb Vb QFn Ub QRo QBe ACode AYield
def recAt (rv:AV) (i:Int) (σ:Za):Option AV:=match rv with
 | .pl 3 l=>if 0≤i∧i.toNat<l.length then (l[i.toNat]?).bind (fun x=>if x.cells.length=3 then x.cells[2]? else none) else none
 | .arr 3 r 0 len=>if 0≤i∧i.toNat<len then (match σ[r]? with
  | some (.cells cs)=>if i.toNat*3+3≤cs.length then cs[i.toNat*3+2]? else none
  | _=>none) else none
 | _=>none
def Wab (rv:AV) (es:List (AV × AV)) (k n:Int) (σ:Za):Option (AV × Bool) :=
 match Xt [1,1] [.int .i64 k,.int .i64 n] es 0 with
 | some none=>some (.nils,false)
 | some (some (_,.int .i64 i))=>(recAt rv i σ).map (·,true)
 | _=>none
theorem Vfa (σ:Za) (d m:Nat) (rv:AV) (es:List (AV × AV)) (h1:σ[d]? = some (.cells [rv,.mp m])) (h2:σ[m]? = some (.map es)) (k n:Int) (w:AV) (is:Bool) (h:Wab rv es k n σ=some (w,is)) :
  ACalls Tryz.prog 170 [.ptr d 0,.agg [.int .i64 k,.int .i64 n]] σ (fun v σ'=>v=.tup [w,.bool is]∧∃ g,σ'=σ++g):=by
 have hd:=(Qzs.1 h1).1
 have hm:=(Qzs.1 h2).1
 have h1':∀ g:Za,(σ++g)[d]? = some (.cells [rv,.mp m]):=fun g=>by rw [Qzl hd];exact h1
 have h2':∀ g:Za,(σ++g)[m]? = some (.map es):=fun g=>by rw [Qzl hm];exact h2
 refine Yb Tryz.func170 rfl (Va Tryz.func170 (by decide) rfl) ?_
 unfold Wab at h
 split at h
 ·rename_i hf
  simp only [Option.some.injEq,Prod.mk.injEq] at h
  obtain ⟨rfl,rfl⟩:=h
  simp [Tryz.ntmps170]
  refine Zj mixed (by kernel_rfl) ?_
  simp [h1',h2',Uaa,hf]
 ·rename_i j i hf
  rw [Qzm] at h
  obtain ⟨w',hw,h⟩:=h
  simp only [Prod.mk.injEq] at h
  obtain ⟨rfl,rfl⟩:=h
  unfold recAt at hw
  split at hw
  ·rename_i l
   split at hw
   ·rename_i hi
    rw [Option.bind_eq_some_iff] at hw
    obtain ⟨x,hx,hw⟩:=hw
    split at hw
    ·rename_i hx3
     obtain ⟨l3,rfl⟩:∃ l3,x=.agg l3:=by cases x<;>simp [AV.cells] at hx3<;>exact ⟨_,rfl⟩
     simp only [AV.cells] at hx3 hw
     have hil:i<(l.length:Int):=by omega
     have hx2:∀ h:i.toNat<l.length,l[i.toNat]'h=.agg l3:=fun h=>by
      rw [Qze h] at hx
      exact Option.some.inj hx
     simp [Tryz.ntmps170]
     refine Zj mixed (by kernel_rfl) ?_
     have hw2:∀ h:2<l3.length,l3[2]'h=w':=fun h=>by
      rw [Qze h] at hw
      exact Option.some.inj hw
     simp [h1',h2',Uaa,hf,hi.1,hil,hx,hx2,hx3,hw,hw2]
    ·cases hw
   ·cases hw
  ·rename_i r len
   split at hw
   ·rename_i hi
    split at hw
    ·rename_i cs hr
     split at hw
     ·rename_i hc
      have hil:i<(len:Int):=by omega
      have hr':∀ g:Za,(σ++g)[r]? = some (.cells cs):=fun g=>by rw [Qzl (Qzs.1 hr).1];exact hr
      have hc2:i.toNat*3+2+1≤cs.length:=by omega
      simp [Tryz.ntmps170]
      refine Zj mixed (by kernel_rfl) ?_
      simp [h1',h2',Uaa,hf,hi.1,hil,hr',hc2,hw]
     ·cases hw
    ·cases hw
   ·cases hw
  ·cases hw
 ·cases h
theorem Zat {σ g:Za} {r:Nat} {o:AObj} (h:σ[r]? = some o):(σ++g)[r]? = some o:=by
 rw [Qzl (Qzs.1 h).1];exact h
theorem Zd6 {rv:AV} {i:Int} {σ g:Za} {w:AV} (h:recAt rv i σ=some w):recAt rv i (σ++g)=some w:=by
 unfold recAt at h ⊢
 split at h
 ·exact h
 ·split at h
  ·rename_i hi
   rw [if_pos hi]
   split at h
   ·rename_i cs hr
    rw [Zat hr]
    exact h
   ·cases h
  ·cases h
 ·cases h
theorem Zbp {rv:AV} {es:List (AV × AV)} {k n:Int} {σ g:Za} {w:AV × Bool} (h:Wab rv es k n σ=some w):Wab rv es k n (σ++g)=some w:=by
 unfold Wab at h ⊢
 split at h
 ·exact h
 ·rw [Qzm] at h
  obtain ⟨x,hx,h⟩:=h
  rw [Zd6 hx,Option.map_some,h]
 ·cases h
theorem Xbm (σ:Za) (d m:Nat) (rv:AV) (es:List (AV × AV)) (h1:σ[d]? = some (.cells [rv,.mp m])) (h2:σ[m]? = some (.map es)) (k n:Int) (w:AV) (is:Bool) (h:Wab rv es k n σ=some (w,is)) (hw:w.one=true)
  (hz:∀ S:Za,Fz σ.length S w w):ACalls Tryz.prog 91 [.ptr d 0,.agg [.int .i64 k,.int .i64 n]] σ (fun v σ'=>v=.agg [.bool is,w]∧σ'=σ):=by
 have hc:w.cells=[w]:=by cases w<;>first | rfl | (simp [AV.one] at hw)
 have hr:w.known=true:=by cases w<;>first | rfl | (simp [AV.one] at hw)
 refine ACalls.forget (ACalls.mono (R:=fun v σ'=>v=.agg [.bool is,w]∧∃ g,σ'=σ++g) ?_ fun v σ'=>?_)
 ·refine Yb Tryz.func91 rfl (Va Tryz.func91 (by decide) rfl) ?_
  simp [Tryz.ntmps91]
  refine StA.of ((Vfa (σ++[.cells [.int .i64 k,.int .i64 n],.cells [.bool false,.nils]]) d m rv es (Zat h1) (Zat h2) k n w is (Zbp h)).mono ?_)
  rintro v σ' ⟨rfl,g,rfl⟩
  clear hz h
  cases w<;>first | (simp [AV.one] at hw;done) | simp
 ·rintro ⟨rfl,g,rfl⟩
  have hf:Fz σ.length (σ++g) (.agg [.bool is,w]) (.agg [.bool is,w]):=.agg _ _ rfl fun i x y hx hy=>by
   rw [hx] at hy
   obtain rfl:=Option.some.inj hy
   match i,hx with
   | 0,hx=>simp at hx;subst hx;exact .bool _
   | 1,hx=>simp at hx;subst hx;exact hz _
   | i+2,hx=>simp at hx
  exact ⟨g,_,rfl,hf,rfl,rfl⟩
end Ab

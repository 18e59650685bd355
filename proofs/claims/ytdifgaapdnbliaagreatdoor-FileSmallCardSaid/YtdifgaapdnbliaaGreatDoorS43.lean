/-
  Texts packed for a claim.
-/
import Derived.Test.YtdifgaapdnbliaaGreatDoorS00
import Derived.Shelf.LaysM
import Derived.Shelf.LaysC
import Derived.Shelf.Strings.Repeat
import Derived.Ground.Names2Prog
import Derived.Ground.SlgnProg
import Derived.Test.YtdifgaapdnbliaaGreatDoorProg
import Derived.Test.YtdifgaapdnbliaaGreatDoorS07
import Derived.Test.YtdifgaapdnbliaaGreatDoorS10
import Derived.Test.YtdifgaapdnbliaaGreatDoorS19
import Derived.Test.YtdifgaapdnbliaaGreatDoorS21
import Derived.Test.YtdifgaapdnbliaaGreatDoorS31
import Derived.Test.YtdifgaapdnbliaaGreatDoorS41
import Derived.Test.YtdifgaapdnbliaaGreatDoorS42
import Derived.Test.YtdifgaapdnbliaaGreatDoorS40
set_option linter.all false
namespace Ab
open Go Go.RowKit Go.Proofs
attribute [local irreducible] aws awp aw1 Og Om Oc Oa Ogd Ov Ot awd Ub awh Xc Ogh Ohd awl Ogl Ohl Zc Wc QFn Zd ACode AYield
def inF (t:List UInt8) (i c:Nat):Option (List UInt8 × Nat):=(List.range' c (256 - c)).findSome? fun c=>Oyez.mendAt t i c
def Wz (t:List UInt8) (L i:Nat):Option (List UInt8 × Nat):=(List.range' i (L - i)).findSome? fun i=>inF t i 0
theorem Ydd (t:List UInt8) (i:Nat):inF t i 256=none:=rfl
theorem Ucs (t:List UInt8) (i:Nat) {c:Nat} (h:c<256):inF t i c=match Oyez.mendAt t i c with | some r=>some r | none=>inF t i (c+1):=by
 unfold inF
 rw [show 256 - c=(256 - (c+1))+1 by omega,List.range'_succ,List.findSome?_cons]
 cases Oyez.mendAt t i c<;>rfl
theorem Wdd (t:List UInt8) (L:Nat):Wz t L L=none:=by simp [Wz]
theorem Ue5 (t:List UInt8) {L i:Nat} (h:i<L):Wz t L i=match inF t i 0 with | some r=>some r | none=>Wz t L (i+1):=by
 unfold Wz
 rw [show L - i=(L - (i+1))+1 by omega,List.range'_succ,List.findSome?_cons]
 cases inF t i 0<;>rfl
theorem Uec (t:List UInt8) (L:Nat):((List.range L).findSome? fun i=>(List.range 256).findSome? fun c=>Oyez.mendAt t i c)=Wz t L 0:=by
 simp only [Wz,inF,List.range_eq_range',Nat.sub_zero]
def Ua7 (X:Option (List UInt8 × Nat)):AV:=match X with
 | some (m,i)=>.tup [.str m,.int .i64 i,.int .i64 0]
 | none=>.tup [.str [],.int .i64 0,.int .i64 6]
set_option maxHeartbeats 4000000 in
set_option maxRecDepth 8000 in
theorem Udi (s:List UInt8):APure Tryz.prog 26 [.str s] (.tup [.str (Oyez.mendOf s).1,.int .i64 (Oyez.mendOf s).2.1,.int .i64 (Oyez.mendOf s).2.2]):=by
 refine APure.of fun σ=>?_
 have ho:=Ybj s
 generalize hR:Oyez.mendOf s=R
 unfold Oyez.mendOf Oyez.openOf at hR
 cases hE:Oyez.openedOf s with
 | error e =>
  have he:¬ e=0:=by rcases Oyez.openedOf_err hE with h | h<;>omega
  have he8:¬ e=8:=by rcases Oyez.openedOf_err hE with h | h<;>omega
  rw [hE] at hR ho
  simp only [Yn] at hR ho
  rw [if_neg he,if_pos he8] at hR
  subst hR
  refine Ua Tryz.func26 rfl (Wa Tryz.func26 (by decide) rfl) ?_
  simp [Tryz.ntmps26]
  refine ho.use ?_
  simp [he,he8]
 | ok r =>
  obtain ⟨b,m,n⟩:=r
  obtain ⟨line,a,k,hS⟩:=Oyez.openedOf_inv hE
  have hbm:=hS.most
  have hs:s.length≤2^40:=by have:=hS.len;omega
  have hbs:b.length<s.length:=by have:=congrArg List.length hS.text;simp at this;omega
  rw [hE] at hR ho
  simp only [Yn] at hR ho
  by_cases hq:Oyez.sums b=(m,n)
  ·rw [if_pos hq] at hR ho
   simp at hR
   subst hR
   refine Ua Tryz.func26 rfl (Wa Tryz.func26 (by decide) rfl) ?_
   simp [Tryz.ntmps26]
   refine ho.use ?_
   simp
  ·rw [if_neg hq] at hR ho
   simp only [Uec] at hR
   rw [if_neg (by decide),if_neg (by decide)] at hR
   have hRv:(AV.tup [.str R.1,.int .i64 R.2.1,.int .i64 R.2.2])=Ua7 (Wz s b.length 0):=by
    rw [← hR]
    unfold Ua7
    split
    ·rename_i h;simp only [h]
    ·rename_i h;simp only [h]
     rfl
   rw [hRv]
   generalize hX:Wz s b.length 0=X
   refine Ua Tryz.func26 rfl (Wa Tryz.func26 (by decide) rfl) ?_
   simp [Tryz.ntmps26]
   refine ho.use ?_
   simp
   refine Yc (fun env σ'=>∃ (u:List AV) (i:Nat) (g:Za),env={ t:=u }∧u.length=57∧tg u 0=.str s∧tg u 5=.str b∧tg u 7=.int .i64 i∧σ'=σ++g∧i≤b.length∧Wz s b.length i=X)
    (fun env _=>match tg env.t 7 with | .int _ i=>b.length - i.toNat | _=>0) ⟨_,0,[],rfl,by simp,by simp,by simp,by simp,by simp,by omega,hX⟩ ?_
   rintro env σ' ⟨u,i,g,rfl,hl,g0,g5,g7,rfl,hi,hd⟩
   rcases Qzn i b.length with hlt | hge
   ·have hlt':(i:Int)<(b.length:Int):=by omega
    rw [Ue5 s hlt] at hd
    simp [hl,g0,g5,g7,hlt',hlt]
    refine Yc (fun env σ'=>∃ (u:List AV) (c:Nat) (g:Za),env={ t:=u }∧u.length=57∧tg u 0=.str s∧tg u 5=.str b∧tg u 7=.int .i64 i∧tg u 8=.int .i64 c∧σ'=σ++g∧c≤256∧(match inF s i c with | some r=>some r | none=>Wz s b.length (i+1))=X)
     (fun env _=>match tg env.t 8 with | .int _ c=>256 - c.toNat | _=>0) ⟨_,0,g,rfl,by simp [hl],by simp [g0],by simp [g5],by simp [g7],by simp [hl],rfl,by omega,hd⟩ ?_
    clear hd hl g0 g5 g7 u g
    rintro env σ' ⟨u,c,g,rfl,hl,g0,g5,g7,g8,rfl,hc,hd⟩
    rcases Qzn c 256 with hc1 | hc1
    ·have hc':(c:Int)<256:=by omega
     rw [Ucs s i hc1] at hd
     simp [hl,g0,g5,g7,g8,hc',hc1]
     refine Zaw [5] [(0,1),(1,1),(2,1),(8,0),(9,0),(10,0),(11,0)] mixed (by kernel_rfl) (by kernel_rfl) ?_
     have hz:(i:Int)≤(s.length:Int):=by omega
     have hz2:i≤s.length:=by omega
     have hz3:i≤9223372036854775806:=by omega
     have hz4:(0:Int)≤(i:Int)+1:=by omega
     have hz5:((i:Int)+1).toNat=i+1:=by omega
     have hz6:i+1≤s.length:=by omega
     have w1:=w64 (n:=(i:Int)+1) (by omega) (by omega)
     have w2:=w64 (n:=(c:Int)+1) (by omega) (by omega)
     have w3:=w8 (n:=(c:Int)) (by omega) (by omega)
     have hown:Oyez.tryByte s i c=s.take i++UInt8.ofNat c::s.drop (i+1):=by simp [Oyez.tryByte]
     have hol:(Oyez.tryByte s i c).length=s.length:=by rw [hown];simp;omega
     have hz7:s.length≤9223372036854775807:=by omega
     unfold Oyez.mendAt at hd
     simp [hl,g0,g5,g7,g8,hz,hz2,hz3,hz4,hz5,hz6,hz7,w1,w2,w3]
     rw [← hown]
     generalize hownd:Oyez.tryByte s i c=own at hd hol
     by_cases hsame:own=s
     ·rw [if_pos hsame] at hd
      simp only at hd
      have hdc:decide (own=s)=true:=by simpa using hsame
      rw [hdc]
      simp [hl,g0,g5,g7,g8,w2]
      exact ⟨⟨c+1,by simp,by omega,hd⟩,by omega⟩
     ·rw [if_neg hsame] at hd
      have hdc:decide (own=s)=false:=by simpa using hsame
      rw [hdc]
      simp [hl,g0,g5,g7,g8,w2]
      have ho2:=Ybj own
      unfold Oyez.openOf at hd
      cases hE2:Oyez.openedOf own with
      | error e =>
       have he:¬ e=0:=by rcases Oyez.openedOf_err hE2 with h | h<;>omega
       rw [hE2] at hd ho2
       simp only [Yn,if_neg he] at hd ho2
       refine ho2.use ?_
       simp [hl,g0,g5,g7,g8,w2,he]
       exact ⟨⟨c+1,by simp,by omega,hd⟩,by omega⟩
      | ok q =>
       obtain ⟨b2,m2,n2⟩:=q
       rw [hE2] at hd ho2
       simp only [Yn] at hd ho2
       by_cases hq2:Oyez.sums b2=(m2,n2)
       ·rw [if_pos hq2] at ho2
        simp only [if_pos hq2,if_true] at hd
        refine ho2.use ?_
        subst hd
        simp [hl,g0,g5,g7,g8,w2,Ua7]
       ·rw [if_neg hq2] at ho2
        simp only [if_neg hq2] at hd
        rw [if_neg (by decide)] at hd
        refine ho2.use ?_
        simp [hl,g0,g5,g7,g8,w2]
        exact ⟨⟨c+1,by simp,by omega,hd⟩,by omega⟩
    ·obtain rfl:c=256:=by omega
     rw [Ydd] at hd
     simp only at hd
     have w1:=w64 (n:=(i:Int)+1) (by omega) (by omega)
     simp [hl,g0,g5,g7,g8,w1]
     exact ⟨⟨i+1,by simp,hlt,hd⟩,by omega⟩
   ·obtain rfl:i=b.length:=by omega
    rw [Wdd] at hd
    subst hd
    simp [hl,g0,g5,g7,Ua7]
end Ab
namespace Ab
open Go Go.RowKit Go.Proofs
attribute [local irreducible] aws awp aw1 Og Om Oc Oa Ogd Ov Ot awd Ub awh Xc Ogh Ohd awl Ogl Ohl awv Ogv Ohv Zc Wc QFn Zd QRo QBe ACode AYield
theorem Vdq (s:List UInt8):(Uw s).1=(Oyez.mendOf s).1∧(Uw s).2.1=((Oyez.mendOf s).2.1:Int)∧(Uw s).2.2=(Oyez.mendOf s).2.2:=by
 unfold Uw
 cases h:Oyez.openedOf s with
 | error e =>
  have he:=Oyez.openedOf_err h
  have ho:Oyez.openOf s=([],e):=by unfold Oyez.openOf;rw [h]
  have hm:Oyez.mendOf s=([],0,e):=by
   unfold Oyez.mendOf
   rw [ho]
   simp only
   rw [if_neg (by omega),if_pos (by omega)]
  rw [hm]
  exact ⟨rfl,rfl,rfl⟩
 | ok x =>
  obtain ⟨b,m,n⟩:=x
  simp only
  by_cases hs:Oyez.sums b=(m,n)
  ·rw [if_pos hs]
   have ho:Oyez.openOf s=(b,0):=by unfold Oyez.openOf;rw [h];simp only;rw [if_pos hs]
   have hm:Oyez.mendOf s=([],0,5):=by
    unfold Oyez.mendOf
    rw [ho]
    simp
   rw [hm]
   exact ⟨rfl,rfl,rfl⟩
  ·rw [if_neg hs,Oyez.mendOf_eq h hs]
   exact ⟨rfl,rfl,rfl⟩
theorem Wa1 (s:List UInt8):APure Tryz.prog 4 [.str s] (.bool true):=by
 intro σ
 refine Ua Tryz.func4 rfl (Wa Tryz.func4 (by decide) rfl) ?_
 simp [Tryz.ntmps4]
 refine (Zbl s).use ?_
 simp
 refine (Vd6 s).use ?_
 simp
 refine (Wbk s).use ?_
 simp
 refine (Ybj s).use ?_
 have hm:=Vdq s
 have hI:Yn (Oyez.openedOf s)=.tup [.str (match Oyez.openedOf s with | .error e=>[] | .ok (b,_,_)=>b),.int .i64 (Xs s).2]:=by
  unfold Xs Yn
  cases Oyez.openedOf s with
  | error e=>rfl
  | ok x =>
   obtain ⟨b,m,n⟩:=x
   simp only
   by_cases hs:Oyez.sums b=(m,n)
   ·rw [if_pos hs];simp [hs]
   ·rw [if_neg hs];simp [hs]
 have hb:(Xs s).1=if (Xs s).2=0 then (match Oyez.openedOf s with | .error e=>[] | .ok (b,_,_)=>b) else []:=by
  unfold Xs
  cases h:Oyez.openedOf s with
  | error e=>have:=Oyez.openedOf_err h;simp
  | ok x =>
   obtain ⟨b,m,n⟩:=x
   simp only
   by_cases hs:Oyez.sums b=(m,n)
   ·rw [if_pos hs];simp
   ·rw [if_neg hs];simp
 rw [hI]
 generalize (match Oyez.openedOf s with | .error e=>[] | .ok (b,_,_)=>b)=B at hb
 generalize (Xs s).1=a at hb
 generalize (Xs s).2=e at hb
 have am:=Vbv s
 have bm:=Udi s
 rw [hm.1,hm.2.1,hm.2.2] at am
 have hl:(70:Int)<(s.length:Int)∨¬ (70:Int)<(s.length:Int):=Classical.em _
 by_cases he:e=0
 ·rw [if_pos he] at hb
  subst he
  subst hb
  simp
  rcases hl with hl | hl<;>(
   simp [hl]
   refine am.use ?_
   simp
   refine bm.use ?_
   simp
   refine awake_calls.use ?_
   simp)
 ·rw [if_neg he] at hb
  subst hb
  simp [he]
  by_cases h8:e=8
  ·subst h8
   rcases hl with hl | hl
   ·simp [hl]
    refine awake_calls.use ?_
    simp
   ·simp [hl]
    refine am.use ?_
    simp
    refine bm.use ?_
    simp
    refine awake_calls.use ?_
    simp
  ·rcases hl with hl | hl<;>(
    simp [hl,h8]
    refine am.use ?_
    simp
    refine bm.use ?_
    simp
    refine awake_calls.use ?_
    simp)
end Ab
namespace Go.Proofs
open Go.Shelf
def Tryz.lays105_ren:Go.Shelf.Ren:=⟨fun | 105=>80 | 212=>142 | 99=>55 | 165=>123 | 166=>119 | 170=>143 | 169=>121 | 263=>184 | 264=>185 | 206=>128 | 240=>168 | 241=>172 | 276=>207 | 277=>211 | n=>n,fun | 9=>9 | 3=>3 | 4=>4 | 20=>20 | 0=>0 | 46=>91 | 109=>200 | 5=>5 | 72=>179 | 76=>182 | 51=>174 | 146=>238 | 53=>240 | 148=>241 | 70=>177 | 37=>75 | 75=>181 | 127=>222 | 164=>259 | 80=>184 | n=>n,fun | n=>n⟩
theorem Tryz.lays105:Go.Proofs.Lays.n105 Tryz.prog Tryz.lays105_ren:={
 mixed:=by kernel_rfl
 f99:=Tryz.func55.trans (congrArg some (by kernel_rfl))
 f105:=Tryz.func80.trans (congrArg some (by kernel_rfl))
 f165:=Tryz.func123.trans (congrArg some (by kernel_rfl))
 f166:=Tryz.func119.trans (congrArg some (by kernel_rfl))
 f169:=Tryz.func121.trans (congrArg some (by kernel_rfl))
 f170:=Tryz.func143.trans (congrArg some (by kernel_rfl))
 f206:=Tryz.func128.trans (congrArg some (by kernel_rfl))
 f212:=Tryz.func142.trans (congrArg some (by kernel_rfl))
 f240:=Tryz.func168.trans (congrArg some (by kernel_rfl))
 f241:=Tryz.func172.trans (congrArg some (by kernel_rfl))
 f263:=Tryz.func184.trans (congrArg some (by kernel_rfl))
 f264:=Tryz.func185.trans (congrArg some (by kernel_rfl))
 f276:=Tryz.func207.trans (congrArg some (by kernel_rfl))
 f277:=Tryz.func211.trans (congrArg some (by kernel_rfl))
 t0:=Tryz.underlying0
 a0:=Tryz.isAgg0
 z0:=Tryz.sizeOf0
 v0:=Tryz.zeroValue0
 t3:=Tryz.underlying3
 a3:=Tryz.isAgg3
 z3:=Tryz.sizeOf3
 v3:=Tryz.zeroValue3
 t4:=Tryz.underlying4
 a4:=Tryz.isAgg4
 z4:=Tryz.sizeOf4
 v4:=Tryz.zeroValue4
 t5:=Tryz.underlying5
 a5:=Tryz.isAgg5
 z5:=Tryz.sizeOf5
 v5:=Tryz.zeroValue5
 t9:=Tryz.underlying9
 a9:=Tryz.isAgg9
 z9:=Tryz.sizeOf9
 v9:=Tryz.zeroValue9
 t20:=Tryz.underlying20
 a20:=Tryz.isAgg20
 z20:=Tryz.sizeOf20
 v20:=Tryz.zeroValue20
 t37:=Tryz.underlying75
 a37:=Tryz.isAgg75
 z37:=Tryz.sizeOf75
 v37:=Tryz.zeroValue75
 t46:=Tryz.underlying91
 a46:=Tryz.isAgg91
 z46:=Tryz.sizeOf91
 v46:=Tryz.zeroValue91
 t51:=Tryz.underlying174
 a51:=Tryz.isAgg174
 z51:=Tryz.sizeOf174
 v51:=Tryz.zeroValue174
 t53:=Tryz.underlying240
 a53:=Tryz.isAgg240
 z53:=Tryz.sizeOf240
 v53:=Tryz.zeroValue240
 t70:=Tryz.underlying177
 a70:=Tryz.isAgg177
 z70:=Tryz.sizeOf177
 v70:=Tryz.zeroValue177
 t72:=Tryz.underlying179
 a72:=Tryz.isAgg179
 z72:=Tryz.sizeOf179
 v72:=Tryz.zeroValue179
 t75:=Tryz.underlying181
 a75:=Tryz.isAgg181
 z75:=Tryz.sizeOf181
 v75:=Tryz.zeroValue181
 t76:=Tryz.underlying182
 a76:=Tryz.isAgg182
 z76:=Tryz.sizeOf182
 v76:=Tryz.zeroValue182
 t109:=Tryz.underlying200
 a109:=Tryz.isAgg200
 z109:=Tryz.sizeOf200
 v109:=Tryz.zeroValue200
 t127:=Tryz.underlying222
 a127:=Tryz.isAgg222
 z127:=Tryz.sizeOf222
 v127:=Tryz.zeroValue222
 t146:=Tryz.underlying238
 a146:=Tryz.isAgg238
 z146:=Tryz.sizeOf238
 v146:=Tryz.zeroValue238
 t148:=Tryz.underlying241
 a148:=Tryz.isAgg241
 z148:=Tryz.sizeOf241
 v148:=Tryz.zeroValue241
 t164:=Tryz.underlying259
 a164:=Tryz.isAgg259
 z164:=Tryz.sizeOf259
 v164:=Tryz.zeroValue259 }
theorem Tryz.Builder_Extra_105:Builder.Extra Tryz.prog Tryz.lays105_ren:={
 sizeBuilder:=by kernel_rfl
 liesBuilder:=by kernel_rfl
 t5:=Tryz.underlying5
 a5:=Tryz.isAgg5
 z5:=Tryz.sizeOf5
 v5:=Tryz.zeroValue5
 infoByte:=by kernel_rfl
 cellsByte:=by kernel_rfl
 sizeByte:=by kernel_rfl
 neB5:=by decide }
open Go.RowKit Go.Lib in
theorem Tryz.strings_Repeat (s:ByteArray) (c:Nat) (w:World) (hc:c≤9223372036854775807) (hlen:s.size*c≤140737488355328) :
  Calls Tryz.prog 80 #[.string s,.int .i64 c] w fun e w'=>e=.returned (.string ⟨(Lib.repeatL s.data.toList c).toArray⟩)∧Below w.heap.size w w':=Any.strings_Repeat Tryz.lays105 Tryz.Builder_Extra_105 s c w hc hlen
end Go.Proofs
namespace Ab
open Go Go.RowKit Go.Proofs
attribute [local irreducible] aws awp aw1 Og Om Oc Oa Ogd Ov Ot awd Ub awh Xc Ogh Ohd awl Ogl Ohl awv Ogv Ohv Zc Wc QFn Zd QRo QBe ACode AYield
theorem Wdz:Enters Tryz.prog 80:=Wa Tryz.func80 (by decide) rfl
theorem Ych (s:List UInt8) (n:Nat) (hs:s.length*n≤140737488355328) (hn:n≤9223372036854775807):APure Tryz.prog 80 [.str s,.int .i64 n] (.str (Lib.repeatL s n)):=by
 refine APure.kitA Wdz (fun σ x hx=>?_) fun C hC cargs hv=>?_
 ·simp only [List.mem_cons,List.not_mem_nil,or_false] at hx
  rcases hx with rfl | rfl
  ·exact .str _
  ·exact .int _ _
 ·obtain ⟨c,cs,rfl,h1,h2⟩:=hv.inv
  obtain ⟨d,ds,rfl,h3,h4⟩:=h2.inv
  obtain rfl:=h4.of_nil
  cases h1
  cases h3
  refine (Tryz.strings_Repeat ⟨⟨s⟩⟩ n C.w hn (by simpa [ByteArray.size] using hs)).mono ?_
  rintro e w' ⟨rfl,hb⟩
  exact ⟨⟨_,rfl,fun C'=>.str _⟩,hb⟩
theorem Yx (s:List UInt8):APure Tryz.prog 79 [.str s] (.bool true):=by
 intro σ
 refine Ua Tryz.func79 rfl (Wa Tryz.func79 (by decide) rfl) ?_
 simp [Tryz.ntmps79]
 refine (Yb7 s).use ?_
 simp
 refine (Wa1 s).use ?_
 simp
theorem Wdq (σ:Za):ACalls Tryz.prog 77 [] σ fun v s=>v=.arr 3 (σ.length+1) 0 2∧s=σ++[.cells (strs [[116,105,100,101],[97,116],[115,105,120]]),.cells [.int .i64 1,.int .i64 3,.arr 1 σ.length 0 3,.int .i64 3,.int .i64 12,.nils]]:=by
 refine Ua Tryz.func77 rfl (Wa Tryz.func77 (by decide) rfl) ?_
 simp [Tryz.ntmps77,strs]
theorem Ya9 {τ:Za} {q:Nat} (Y:List (Oyez.Rec × AV)) (h:τ[q]? = some (.cells (We (Y.map pvY)))) (hw:∀ y∈Y,y.2.one=true∧Fz 0 τ y.2 (Zb y.1.words)):Fz 0 τ (.arr 3 q 0 Y.length) (Xa (Y.map Prod.fst)):=by
 have hl:Y.length=((Y.map Prod.fst).map Yd).length:=by simp
 rw [hl]
 have hcell:∀ (i:Nat) (r:Oyez.Rec),(Y.map Prod.fst)[i]? = some r→∃ w,(∀ j,j<3→(We (Y.map pvY))[i*3+j]? = [AV.int .i64 r.kind,.int .i64 r.number,w][j]?)∧Fz 0 τ w (Zb r.words):=by
  intro i r hr
  rw [Qzp,Qzm] at hr
  obtain ⟨y,hy,rfl⟩:=hr
  obtain ⟨hi,hyi⟩:=Qzs.1 hy
  have hs:=Yaf (Y.map pvY) (i:=i) (by simpa using hi)
  rw [List.getElem_map,hyi] at hs
  refine ⟨y.2,fun j hj=>?_,(hw y (Qzg hy)).2⟩
  have:=congrArg (fun l=>l[j]?) hs
  simp only [List.getElem?_take_of_lt hj,List.getElem?_drop] at this
  exact this
 refine Fz.arr 3 q 0 (We (Y.map pvY)) ((Y.map Prod.fst).map Yd) (fun i j=>((We (Y.map pvY))[i*3+j]?).getD .any) (Nat.zero_le _) h (fun i x hx=>?_) (fun i x hx j y hy=>?_)
 ·rw [Qzp,Qzm] at hx
  obtain ⟨r,hr,rfl⟩:=hx
  obtain ⟨w,g1,g2⟩:=hcell i r hr
  refine ⟨rfl,fun j y hy=>?_⟩
  have hj:j<3:=(Qzs.1 hy).1
  refine ⟨?_,?_⟩
  ·match j,hj,hy with
   | 0,_,hy=>simp [AV.cells] at hy;subst hy;rfl
   | 1,_,hy=>simp [AV.cells] at hy;subst hy;rfl
   | 2,_,hy=>simp [AV.cells] at hy;subst hy;rfl
  ·have:=g1 j hj
   rw [Nat.zero_add,this]
   match j,hj with
   | 0,_=>rfl
   | 1,_=>rfl
   | 2,_=>rfl
 ·rw [Qzp,Qzm] at hx
  obtain ⟨r,hr,rfl⟩:=hx
  obtain ⟨w,g1,g2⟩:=hcell i r hr
  have hj:j<3:=(Qzs.1 hy).1
  rw [g1 j hj]
  match j,hj,hy with
  | 0,_,hy=>simp [AV.cells] at hy;subst hy;exact .int _ _
  | 1,_,hy=>simp [AV.cells] at hy;subst hy;exact .int _ _
  | 2,_,hy=>simp [AV.cells] at hy;subst hy;exact g2
theorem Ua2 {f:FuncId} {args args':List AV} {b:Bool} {τ:Za} (h:APure Tryz.prog f args (.bool b)) (hz:FzL 0 τ args' args):ACalls Tryz.prog f args' τ fun v s=>v=.bool b∧s=τ :=
 APure.lend h hz.1 hz.2 fun C C' c hv=>by cases hv;exact .bool _
def Uo (Y:List (Oyez.Chg × AV × AV)):List AV:=Y.flatMap fun y=>[.int .i64 y.1.kind,.int .i64 y.1.number,.bool y.1.had,.bool y.1.has,y.2.1,y.2.2]
theorem Ya6:∀ (Y:List (Oyez.Chg × AV × AV)) {i j:Nat} (hi:i<Y.length) (hj:j<6),(Uo Y)[i*6+j]? = [AV.int .i64 Y[i].1.kind,.int .i64 Y[i].1.number,.bool Y[i].1.had,.bool Y[i].1.has,Y[i].2.1,Y[i].2.2][j]?:=by
 intro Y i j hi hj
 have h:=flat_get (k:=6) (Y.map fun y=>AV.agg [.int .i64 y.1.kind,.int .i64 y.1.number,.bool y.1.had,.bool y.1.has,y.2.1,y.2.2]) (fun x hx=>by obtain ⟨c,_,rfl⟩:=List.mem_map.1 hx;rfl) (by decide) (i*6+j)
 rw [List.flatMap_map,show (i*6+j) / 6=i by omega,show (i*6+j) % 6=j by omega,Qzp,Qze hi] at h
 exact h
theorem Vbn {τ:Za} {q:Nat} (Y:List (Oyez.Chg × AV × AV)) (h:τ[q]? = some (.cells (Uo Y))) (hw:∀ y∈Y,Fz 0 τ y.2.1 (Zb y.1.old)∧Fz 0 τ y.2.2 (Zb y.1.new)):Fz 0 τ (.arr 6 q 0 Y.length) (Wb (Y.map Prod.fst)):=by
 have hl:Y.length=((Y.map Prod.fst).map Ze).length:=by simp
 rw [hl]
 refine Fz.arr 6 q 0 (Uo Y) ((Y.map Prod.fst).map Ze) (fun i j=>((Uo Y)[i*6+j]?).getD .any) (Nat.zero_le _) h (fun i x hx=>?_) (fun i x hx j y hy=>?_)
 ·rw [Qzp,Qzm] at hx
  obtain ⟨c,hc,rfl⟩:=hx
  rw [Qzp,Qzm] at hc
  obtain ⟨z,hz,rfl⟩:=hc
  obtain ⟨hi,rfl⟩:=Qzs.1 hz
  refine ⟨rfl,fun j y hy=>?_⟩
  have hj:j<6:=(Qzs.1 hy).1
  refine ⟨?_,?_⟩
  ·match j,hj,hy with
   | 0,_,hy=>simp [AV.cells] at hy;subst hy;rfl
   | 1,_,hy=>simp [AV.cells] at hy;subst hy;rfl
   | 2,_,hy=>simp [AV.cells] at hy;subst hy;rfl
   | 3,_,hy=>simp [AV.cells] at hy;subst hy;rfl
   | 4,_,hy=>simp [AV.cells] at hy;subst hy;rfl
   | 5,_,hy=>simp [AV.cells] at hy;subst hy;rfl
  ·rw [Nat.zero_add,Ya6 Y hi hj]
   match j,hj with
   | 0,_=>rfl
   | 1,_=>rfl
   | 2,_=>rfl
   | 3,_=>rfl
   | 4,_=>rfl
   | 5,_=>rfl
 ·rw [Qzp,Qzm] at hx
  obtain ⟨c,hc,rfl⟩:=hx
  rw [Qzp,Qzm] at hc
  obtain ⟨z,hz,rfl⟩:=hc
  obtain ⟨hi,rfl⟩:=Qzs.1 hz
  have hj:j<6:=(Qzs.1 hy).1
  have hwz:=hw _ (List.getElem_mem hi)
  rw [Ya6 Y hi hj]
  match j,hj,hy with
  | 0,_,hy=>simp [AV.cells] at hy;subst hy;exact .int _ _
  | 1,_,hy=>simp [AV.cells] at hy;subst hy;exact .int _ _
  | 2,_,hy=>simp [AV.cells] at hy;subst hy;exact .bool _
  | 3,_,hy=>simp [AV.cells] at hy;subst hy;exact .bool _
  | 4,_,hy=>simp [AV.cells] at hy;subst hy;exact hwz.1
  | 5,_,hy=>simp [AV.cells] at hy;subst hy;exact hwz.2
theorem Xdr (n:Nat) (S:Za) (l:List Bool):Fz n S (Uj l) (Uj l):=.pl 1 _ fun i x hx j y hy=>by
 obtain ⟨b,_,rfl⟩:=List.mem_map.1 (Qzg hx)
 have:=Qzg hy
 simp [AV.cells] at this
 subst this
 exact .bool _
def okF (F:List Oyez.Rec):Prop:=F.length≤1000∧∀ r∈F,r.words.length≤1000
def okC (L:List Oyez.Chg):Prop:=L.length≤1000∧∀ c∈L,c.old.length≤1000∧c.new.length≤1000
theorem Uat {τ:Za} {a b:AV} {F:List Oyez.Rec} {r:Oyez.Rec} {k n:Int} (ha:Fz 0 τ a (Xa F)) (hb:Fz 0 τ b (Yd r)) (oF:okF F) (oR:r.words.length≤1000):ACalls Tryz.prog 10 [a,b,.agg [.int .i64 k,.int .i64 n]] τ fun v s=>v=.bool true∧s=τ :=
 Ua2 (Vei F r ⟨k,n⟩ (by have:=oF.1;omega) (fun x hx=>by have:=oF.2 x hx;omega) (by omega)) (FzL.cons_iff.2 ⟨ha,FzL.cons_iff.2 ⟨hb,FzL.cons_iff.2 ⟨Fz.agg2 (.int _ _) (.int _ _),FzL.nil_iff.2 trivial⟩⟩⟩)
theorem Vau {τ:Za} {a b c:AV} {F G:List Oyez.Rec} {L:List Oyez.Chg} (ha:Fz 0 τ a (Xa F)) (hb:Fz 0 τ b (Xa G)) (hc:Fz 0 τ c (Wb L)) (oF:okF F) (oG:okF G) (oL:okC L):ACalls Tryz.prog 13 [a,b,c] τ fun v s=>v=.bool true∧s=τ :=
 Ua2 (Ydk F G L (by have:=oF.1;omega) (by have:=oG.1;omega) (by have:=oL.1;omega) (fun x hx=>by have:=oF.2 x hx;omega) (fun x hx=>by have:=oG.2 x hx;omega) (fun x hx=>by have:=oL.2 x hx;omega)) (FzL.cons_iff.2 ⟨ha,FzL.cons_iff.2 ⟨hb,FzL.cons_iff.2 ⟨hc,FzL.nil_iff.2 trivial⟩⟩⟩)
theorem Ya8 {τ:Za} {a b:AV} {L M:List Oyez.Chg} (ha:Fz 0 τ a (Wb L)) (hb:Fz 0 τ b (Wb M)) (oL:okC L) (oM:okC M):ACalls Tryz.prog 6 [a,b] τ fun v s=>v=.bool true∧s=τ :=
 Ua2 (Uez L M (by have:=oL.1;omega) (by have:=oM.1;omega) (fun x hx=>by have:=oL.2 x hx;omega) (fun x hx=>by have:=oM.2 x hx;omega)) (FzL.cons_iff.2 ⟨ha,FzL.cons_iff.2 ⟨hb,FzL.nil_iff.2 trivial⟩⟩)
theorem Za3 {τ:Za} {a b c d:AV} {F G H:List Oyez.Rec} {l:List Bool} (ha:Fz 0 τ a (Xa F)) (hb:Fz 0 τ b (Xa G)) (hc:Fz 0 τ c (Xa H)) (hd:Fz 0 τ d (Uj l)) (oF:okF F) (oG:okF G) (oH:okF H) (ol:l.length≤1000):ACalls Tryz.prog 5 [a,b,c,d] τ fun v s=>v=.bool true∧s=τ :=
 Ua2 (Xcw F G H l (by have:=oF.1;omega) (by have:=oG.1;omega) (by have:=oH.1;omega) (by omega) (fun x hx=>by have:=oF.2 x hx;omega) (fun x hx=>by have:=oG.2 x hx;omega) (fun x hx=>by have:=oH.2 x hx;omega)) (FzL.cons_iff.2 ⟨ha,FzL.cons_iff.2 ⟨hb,FzL.cons_iff.2 ⟨hc,FzL.cons_iff.2 ⟨hd,FzL.nil_iff.2 trivial⟩⟩⟩⟩)
end Ab

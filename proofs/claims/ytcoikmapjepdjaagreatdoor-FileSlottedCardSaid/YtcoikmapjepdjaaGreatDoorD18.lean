/-
  Texts packed for a claim.
-/
import Derived.Test.YtcoikmapjepdjaaGreatDoorD00
import Derived.Test.YtcoikmapjepdjaaGreatDoorD07
import Derived.Test.YtcoikmapjepdjaaGreatDoorD09
import Derived.Test.YtcoikmapjepdjaaGreatDoorD16
import Derived.Test.YtcoikmapjepdjaaGreatDoorD15
set_option linter.all false
namespace Ab
open Go Go.RowKit Go.Proofs
attribute [local irreducible] aws awp aw1 Og Om Oc Oa Ogd Ov Ot awd Zb awh Xb Ogh Ohd awl Ogl Ohl Wb Vb QFn Ub ACode
theorem AYield.mono {P:Program} {r:Nat} {args:List AV} {σ:Za} {K K':AV→Za→Prop} (h:AYield P r args σ K) (hk:∀ v s,K v s→K' v s):AYield P r args σ K':=by
 have h1:∀ e env s,Ab.QRound r K e env s→Ab.QRound r K' e env s:=by
  intro e env s hq
  cases e<;>unfold Ab.QRound at hq ⊢<;>simp only at hq ⊢<;>first
   | (split at hq
      · exact hk _ _ hq
      · cases hq)
   | cases hq
 unfold AYield at h ⊢
 split at h
 ·rename_i hr
  refine ⟨h.1,h.2.mono fun e env s hq=>?_⟩
  cases e with
  | normal =>
   unfold Ab.QBegin at hq ⊢
   simp only at hq ⊢
   split at hq
   ·exact ⟨hq.1,hq.2.mono h1⟩
   ·cases hq
  | _=>cases hq
 ·cases h
theorem StY.of {P:Program} {r:Nat} {args:List AV} {σ:Za} {K R:AV→Za→Prop} (h:AYield P r args σ K) (hk:∀ v s,K v s→R v s):@StY _ P r args σ ⟨R⟩:=h.mono hk
set_option maxRecDepth 8000 in
theorem Ucu (s:List UInt8) (hs:s.length≤2^50):APure Tryz.prog 262 [.str s,.int .u8 10] (.int .i64 ((Oyez.lastLine s:Int) - 1)):=by
 intro σ
 refine Yb Tryz.func262 rfl (Va Tryz.func262 (by decide) rfl) ?_
 obtain ⟨hl1,hl2⟩:=Oyez.lastLine_split _ s rfl
 have hll:Oyez.lastLine s≤s.length:=Nat.sub_le _ _
 generalize Oyez.lastLine s=L at hl1 hl2 hll
 have hw0:=w64 (n:=(s.length:Int) - 1) (by omega) (by omega)
 simp [Tryz.ntmps262,hw0]
 refine Vd (fun env σ'=>∃ (u:List AV) (j:Nat),env={ t:=u }∧u.length=19∧tg u 0=.str s∧tg u 1=.int .u8 10∧tg u 5=.int .i64 ((j:Int) - 1)∧σ'=σ∧L≤j∧j≤s.length)
  (fun env _=>match tg env.t 5 with | .int _ i=>(i+1).toNat | _=>0) ⟨_,s.length,rfl,by simp,by simp,by simp,by simp,rfl,hll,by omega⟩ ?_
 rintro env σ' ⟨u,j,rfl,hl,g0,g1,g5,rfl,hj,hj2⟩
 rcases Nat.eq_zero_or_pos j with hz | hz
 ·subst hz
  obtain rfl:L=0:=by omega
  simp [hl,g0,g1,g5]
 ·obtain ⟨k,rfl⟩:∃ k,j=k+1:=⟨j - 1,by omega⟩
  have hk:k<s.length:=by omega
  have hk':(k:Int)<(s.length:Int):=by omega
  have hw:=w64 (n:=(k:Int) - 1) (by omega) (by omega)
  rw [show ((k+1:Nat):Int) - 1=(k:Int) by omega] at g5
  rcases Qzn L (k+1) with hlt | hge
  ·have hne:¬ ((s[k].toNat:Nat):Int)=10:=by
    intro e
    have e1:s[k]=10:=(Vc7 _ 10 (by decide)).1 (by omega)
    apply hl1
    rw [← e1]
    have:(s.drop L)[k - L]? = some s[k]:=by rw [List.getElem?_drop,show L+(k - L)=k by omega,Qze hk]
    exact Qzg this
   simp [hl,g0,g1,g5,hk,hk',hne,hw]
   exact ⟨k,rfl,by omega,by omega⟩
  ·obtain rfl:L=k+1:=by omega
   have h10:((s[k].toNat:Nat):Int)=10:=by
    rcases hl2 with e | e
    ·have e3:=congrArg List.length e
     rw [List.length_take,Nat.min_eq_left hll] at e3
     simp at e3
    ·have e2:(s.take (k+1)).getLast? = some s[k]:=by rw [List.take_add_one,Qze hk];exact List.getLast?_concat
     rw [e2] at e
     simp at e
     rw [e];rfl
   simp [hl,g0,g1,g5,hk,hk',h10]
theorem Xew (s:List UInt8) (hs:s.length≤2^50):APure Tryz.prog 193 [.str s,.str [10]] (.int .i64 ((Oyez.lastLine s:Int) - 1)):=by
 intro σ
 refine Yb Tryz.func193 rfl (Va Tryz.func193 (by decide) rfl) ?_
 simp [Tryz.ntmps193]
 refine (Ucu s hs).use ?_
 simp
theorem Vbq (s:List UInt8) (σ:Za):ACalls Tryz.prog 194 [.str s] σ (fun v σ'=>v=.fn (.func 264) [] [.ptr σ.length 0]∧σ'=σ++[.cells [.str s]]):=by
 refine Yb Tryz.func194 rfl (Va Tryz.func194 (by decide) rfl) ?_
 simp [Tryz.ntmps194]
theorem Yby (s:List UInt8) (hs:s.length≤2^40) (r q:Nat) (I:List (List UInt8)→List UInt8→Za→Prop)
  (hq:∀ pre x σ,I pre x σ→σ[q]? = some (.cells [.str x]))
  (hset:∀ pre x y σ,I pre x σ→I pre y (σ.set q (.cells [.str y])))
  (hy:∀ pre x w σ,I pre x σ→pre.length≤2^41→w.length≤s.length→AYield Tryz.prog r [.int .i64 pre.length,.str w] σ (fun v σ'=>v=.bool true∧I (pre++[w]) x σ'))
  (σ:Za) (h0:I [] s σ):AEnter Tryz.prog 264 [.yld r,.ptr q 0] σ (fun _ σ'=>∃ x,I (Oyez.words s) x σ'):=by
 refine Wb9 Tryz.func264 rfl (Va Tryz.func264 (by decide) rfl) ?_
 simp [Tryz.ntmps264]
 refine Vd (fun env σ'=>∃ (u:List AV) (pre:List (List UInt8)) (x:List UInt8),env={ t:=u }∧u.length=25∧tg u 0=.yld r∧tg u 1=.ptr q 0∧tg u 3=.int .i64 pre.length∧I pre x σ'∧pre++Oyez.words x=Oyez.words s∧x.length+pre.length≤s.length)
  (fun _ σ'=>match σ'[q]? with | some (.cells [.str x])=>x.length+1 | _=>0) ⟨_,[],s,rfl,by simp,by simp,by simp,by simp,h0,rfl,by simp⟩ ?_
 rintro env σ' ⟨u,pre,x,rfl,hl,g0,g1,g3,hI,hd,hlen⟩
 have hqx:=hq _ _ _ hI
 have hxl:x.length≤s.length:=by omega
 have hc:=Ybt 32 x
 have hw:=Ve8 x
 simp [hl,g0,g1,g3,hqx]
 refine (Ucd x 32 (by omega)).use ?_
 simp [hl,g0,g1,g3]
 refine StY.of (hy pre x (Ye 32 x).1 σ' hI (by omega) (by omega)) ?_
 rintro v σ2 ⟨rfl,hI2⟩
 have hqx2:=hq _ _ _ hI2
 cases hf:(Ye 32 x).2.2 with
 | true =>
  rw [hf,if_pos rfl] at hw
  have hlt:=hc.2.2 hf
  have hw1:=w64 (n:=(pre.length:Int)+1) (by omega) (by omega)
  have hI3:=hset _ _ (Ye 32 x).2.1 _ hI2
  have hqx3:=hq _ _ _ hI3
  simp [hl,g0,g1,g3,hf,hqx2,hw1,hqx3]
  exact ⟨⟨pre++[(Ye 32 x).1],by simp,(Ye 32 x).2.1,hI3,by rw [← hd,hw];simp,by simp;omega⟩,hlt⟩
 | false =>
  rw [hf,if_neg (by simp)] at hw
  simp [hl,g0,g1,g3,hf]
  exact ⟨x,by rw [← hd,hw];exact hI2⟩
end Ab
namespace Ab
open Go Go.RowKit Go.Proofs
attribute [local irreducible] aws awp aw1 Og Om Oc Oa Ogd Ov Ot awd Zb awh Xb Ogh Ohd awl Ogl Ohl Wb Vb QFn Ub ACode AYield
theorem Vbd:Wq Tryz.prog 211=some (2,3):=by kernel_rfl
attribute [simp] Vbd
def Wad (p:Nat × Nat):AV:=.agg [.int .i64 p.1,.int .i64 p.2]
set_option maxHeartbeats 1000000 in
set_option maxRecDepth 8000 in
theorem Ubj (s:List UInt8) (hs:s.length<2^50):APure Tryz.prog 117 [.str s] (Wad (Oyez.sums s)):=by
 refine APure.of fun σ=>?_
 refine Yb Tryz.func117 rfl (Va Tryz.func117 (by decide) rfl) ?_
 simp [Tryz.ntmps117]
 refine Vd (fun env σ'=>∃ (u:List AV) (i a b:Nat),env={ t:=u }∧u.length=33∧tg u 0=.str s∧tg u 2=.ptr σ.length 0∧tg u 3=.ptr (σ.length+1) 0∧tg u 6=.int .i64 s.length∧tg u 7=.int .i64 i ∧
   σ'=σ++[.cells [.int .i64 0,.int .i64 0],.cells [.int .i64 a,.int .i64 b]]∧a<65537∧b<65537∧i≤s.length∧Oyez.sumsFrom (s.drop i) i a b=Oyez.sums s)
  (fun env _=>match tg env.t 7 with | .int _ i=>s.length - i.toNat | _=>0) ⟨_,0,0,0,rfl,by simp,by simp,by simp,by simp,by simp,by simp,rfl,by decide,by decide,by omega,rfl⟩ ?_
 rintro env σ' ⟨u,i,a,b,rfl,hl,g0,g2,g3,g6,g7,rfl,ha,hb,hi,hd⟩
 rcases Qzn i s.length with hlt | hge
 ·have hlt':(i:Int)<(s.length:Int):=by omega
  have hb8:=Wbg s[i]
  have hm:(i+1)*s[i].toNat≤2^50*256:=Nat.mul_le_mul (by omega) (by omega)
  have hm2:((i:Int)+1)*(s[i].toNat:Int)=(((i+1)*s[i].toNat:Nat):Int):=by simp
  have w1:=w64 (n:=(i:Int)+1) (by omega) (by omega)
  have w2:=w64 (n:=(s[i].toNat:Int)) (by omega) (by omega)
  have w3:=w64 (n:=((i:Int)+1)*(s[i].toNat:Int)) (by omega) (by omega)
  have w4:=w64 (n:=(a:Int)+(s[i].toNat:Int)) (by omega) (by omega)
  have w5:=w64 (n:=(b:Int)+((i:Int)+1)*(s[i].toNat:Int)) (by omega) (by omega)
  simp [hl,g0,g2,g3,g6,g7,hlt',hlt]
  refine Vag [9] mixed (by kernel_rfl) ?_
  simp [hl,g0,g2,g3,g6,g7,hlt',hlt,w1,w2,w3,w4,w5]
  refine Vag [12] mixed (by kernel_rfl) ?_
  simp [hl,g0,g2,g3,g6,g7,hlt',hlt,w1,w2,w3,w4,w5]
  refine ⟨⟨i+1,by simp,(a+s[i].toNat) % 65537,(b+(i+1)*s[i].toNat) % 65537,⟨?_,?_⟩,Nat.mod_lt _ (by decide),Nat.mod_lt _ (by decide),hlt,?_⟩,by omega⟩
  ·rw [← Int.natCast_add];exact (Int.ofNat_tmod _ _).symm
  ·rw [hm2,← Int.natCast_add];exact (Int.ofNat_tmod _ _).symm
  ·rw [← hd,List.drop_eq_getElem_cons hlt]
   rfl
 ·have hge':¬ (i:Int)<(s.length:Int):=by omega
  rw [List.drop_eq_nil_of_le hge] at hd
  simp [hl,g0,g2,g3,g6,g7,hge',Wad,← hd,Oyez.sumsFrom]
theorem Xby (s:List UInt8) (hs:s.length≤2^50):APure Tryz.prog 116 [.str s] (.bool (decide (s.getLast? = some 10))):=by
 intro σ
 refine Yb Tryz.func116 rfl (Va Tryz.func116 (by decide) rfl) ?_
 simp [Tryz.ntmps116]
 refine (Vgw s 10 hs).use ?_
 simp
set_option maxHeartbeats 1000000 in
set_option maxRecDepth 8000 in
theorem Wf3 (s:List UInt8) (m n:Nat) (hs:s.length≤2^40) (hm:m<65537) (hn:n<65537):APure Tryz.prog 118 [Wad (m,n),.str s] (.str (s++[115,101,97,108,32]++Oyez.digitsN m++[32]++Oyez.digitsN n++[10])):=by
 refine APure.of fun σ=>?_
 have d1:=Vbe m
 have d2:=Vbe n
 have i1:APure Tryz.prog 38 [.int .i64 m] (.str (Oyez.digitsN m)):=by rw [← Yay];exact Yap m (by omega) (by omega)
 have i2:APure Tryz.prog 38 [.int .i64 n] (.str (Oyez.digitsN n)):=by rw [← Yay];exact Yap n (by omega) (by omega)
 refine Yb Tryz.func118 rfl (Va Tryz.func118 (by decide) rfl) ?_
 simp [Tryz.ntmps118,Wad]
 refine Uaz [7] [(0,1)] mixed (by kernel_rfl) (by kernel_rfl) ?_
 simp
 refine Ut i1 ?_
 refine Ut i2 ?_
 simp
 have hj:=Za9 (σ++[.cells [.int .i64 m,.int .i64 n],.cells [.str [115,101,97,108],.str (Oyez.digitsN m),.str (Oyez.digitsN n)]]) (σ.length+1) [[115,101,97,108],Oyez.digitsN m,Oyez.digitsN n] (by simp) (by simp) (by simp [Un,List.intercalate];omega)
 refine Xbq hj ?_
 have hjl:Un [[115,101,97,108],Oyez.digitsN m,Oyez.digitsN n]=[115,101,97,108,32]++Oyez.digitsN m++[32]++Oyez.digitsN n:=by simp [Un,List.intercalate]
 rw [hjl]
 simp
 rw [if_pos (by omega)]
 simp
 rw [if_pos (by omega)]
 simp
theorem Zff (s:List UInt8):APure Tryz.prog 40 [.str s] (.tup [.str (Oyez.sealOf s).1,.int .i64 (Oyez.sealOf s).2]):=by
 intro σ
 refine Yb Tryz.func40 rfl (Va Tryz.func40 (by decide) rfl) ?_
 generalize hX:Oyez.sealOf s=X
 unfold Oyez.sealOf at hX
 by_cases h1:4096<s.length
 ·have h1':(4096:Int)<(s.length:Int):=by omega
  rw [if_pos h1] at hX
  subst hX
  simp [Tryz.ntmps40,h1']
 have h1':¬ (4096:Int)<(s.length:Int):=by omega
 have hs:s.length≤2^50:=by omega
 rw [if_neg h1] at hX
 simp [Tryz.ntmps40,h1']
 refine (Xby s hs).use ?_
 by_cases h2:s.getLast? = some 10
 ·rw [if_neg (by simpa using h2)] at hX
  subst hX
  simp [h2]
  refine (Ubj s (by omega)).use ?_
  have hs1:=Oyez.sums_eq s
  refine (Wf3 s (Oyez.sums s).1 (Oyez.sums s).2 (by omega) (by rw [hs1];exact Nat.mod_lt _ (by decide)) (by rw [hs1];exact Nat.mod_lt _ (by decide))).use ?_
  simp [Oyez.sealed]
 ·rw [if_pos h2] at hX
  subst hX
  simp [h2]
end Ab
namespace Ab
open Go Go.RowKit Go.Proofs
attribute [local irreducible] aws awp aw1 Og Om Oc Oa Ogd Ov Ot awd Zb awh Xb Ogh Ohd awl Ogl Ohl Wb Vb QFn Ub QRo QBe ACode AYield
theorem Wbw:Zh Tryz.prog 211 []=some (.agg [.int .i64 0,.int .i64 0]):=by kernel_rfl
attribute [local simp] Vbd Wbw
theorem wl0:IntKind.i64.wrap 0=0:=w64 (by decide) (by decide)
theorem wl1:IntKind.i64.wrap 1=1:=w64 (by decide) (by decide)
theorem wl2:IntKind.i64.wrap 2=2:=w64 (by decide) (by decide)
theorem wl3:IntKind.i64.wrap 3=3:=w64 (by decide) (by decide)
attribute [local simp] wl0 wl1 wl2 wl3
def Vaj:List UInt8:=[115,101,97,108]
def sA (pre:List (List UInt8)):Int:=match pre with | _::w::_=>Zaa w | _=>0
def sB (pre:List (List UInt8)):Int:=match pre with | _::_::w::_=>Zaa w | _=>0
def sOk (b:Bool) (pre:List (List UInt8)):Bool:=match pre with
 | []=>b
 | [x]=>b&&decide (x=Vaj)
 | [x,y]=>b&&decide (x=Vaj)&&Ur y 65536
 | x::y::z::_=>b&&decide (x=Vaj)&&Ur y 65536&&Ur z 65536
def Uz (t:List UInt8):List UInt8 × Int × Int × Int :=
 match Oyez.openedOf t with
 | .error e=>([],0,0,e)
 | .ok (b,m,n)=>(b,m,n,0)
theorem Xdt (s:List UInt8) (h1:¬ 4116<s.length) {u:List UInt8} (hu:(if s.getLast? = some 10 then s.dropLast else s)=u) {L:Nat} (hL:Oyez.lastLine u=L) {b0:Bool}
  (hb:(decide (s.getLast? = some 10)&&decide ((u.take L).getLast? = some 10)&&decide (L≤4096))=b0) :
  Uz s=if sOk b0 (Oyez.words (u.drop L))=true∧(Oyez.words (u.drop L)).length=3 then (u.take L,sA (Oyez.words (u.drop L)),sB (Oyez.words (u.drop L)),0) else ([],0,0,11):=by
 unfold Uz Oyez.openedOf
 rw [if_neg h1]
 by_cases he:s.getLast? = some 10
 ·rw [if_pos he] at hu
  subst hu
  rw [if_neg (by simpa using he),hL]
  have hLu:L≤s.dropLast.length:=by rw [← hL];exact Nat.sub_le _ _
  have htk:s.take L=s.dropLast.take L:=by
   rw [List.dropLast_eq_take,List.take_take,Nat.min_eq_left (by simpa using hLu)]
  rw [htk]
  obtain ⟨_,hl2⟩:=Oyez.lastLine_split _ s.dropLast rfl
  rw [hL] at hl2
  have hb2:b0=(decide (L≠0)&&decide (L≤4096)):=by
   rw [← hb,he]
   have:(s.dropLast.take L).getLast? = some 10↔L≠0:=by
    constructor
    ·intro h h0
     subst h0
     simp at h
    ·intro h0
     rcases hl2 with h | h
     ·have:=congrArg List.length h
      rw [List.length_take,Nat.min_eq_left hLu] at this
      exact absurd this h0
     ·exact h
   simp [this]
  clear hb
  generalize Oyez.words (s.dropLast.drop L)=ws
  generalize s.dropLast.take L=B
  have h6:=Va6
  rcases ws with _ | ⟨k,_ | ⟨a,_ | ⟨b,_ | ⟨c,r⟩⟩⟩⟩
  ·simp
  ·simp
  ·simp
  ·obtain ⟨a1,a2⟩:=Va6 a 65536 (by decide)
   obtain ⟨b1,b2⟩:=Va6 b 65536 (by decide)
   have ea:Ur a 65536=(Oyez.value a 65536).isSome:=a1
   have eb:Ur b 65536=(Oyez.value b 65536).isSome:=b1
   simp only [sOk,ea,eb,hb2,sA,sB]
   by_cases c:L=0∨4096<L∨k≠[115,101,97,108]
   ·rw [if_pos c,if_neg]
    rintro ⟨h,_⟩
    simp only [Bool.and_eq_true,decide_eq_true_eq] at h
    obtain ⟨⟨⟨⟨c1,c2⟩,c3⟩,_⟩,_⟩:=h
    rcases c with c | c | c
    ·exact c1 c
    ·omega
    ·exact c c3
   ·rw [if_neg c]
    have c1:L≠0:=fun h=>c (.inl h)
    have c2:L≤4096:=by omega
    have c3:k=Vaj:=Classical.byContradiction fun h=>c (.inr (.inr h))
    cases hva:Oyez.value a 65536 with
    | none=>simp
    | some m =>
     cases hvb:Oyez.value b 65536 with
     | none=>simp
     | some n=>simp [c1,c2,c3,a2 m hva,b2 n hvb]
  ·simp
 ·rw [if_pos (by simpa using he)]
  have:b0=false:=by rw [← hb];simp [he]
  subst this
  have hs:sOk false (Oyez.words (u.drop L))=false:=by
   generalize Oyez.words (u.drop L)=ws
   rcases ws with _ | ⟨k,_ | ⟨a,_ | ⟨b,r⟩⟩⟩<;>simp [sOk]
  rw [hs]
  simp
set_option maxHeartbeats 2000000 in
set_option maxRecDepth 8000 in
theorem Xb6 (s:List UInt8):APure Tryz.prog 119 [.str s] (.tup [.str (Uz s).1,.agg [.int .i64 (Uz s).2.1,.int .i64 (Uz s).2.2.1],.int .i64 (Uz s).2.2.2]):=by
 refine APure.of fun σ=>?_
 generalize hX:Uz s=X
 by_cases h1:4116<s.length
 ·have h1':(4116:Int)<(s.length:Int):=by omega
  have hE:X=([],0,0,10):=by rw [← hX];unfold Uz Oyez.openedOf;rw [if_pos h1]
  subst hE
  refine Zaz Tryz.func119 rfl (Va Tryz.func119 (by decide) rfl) ?_
  simp [Tryz.ntmps119,h1']
 have h1':¬ (4116:Int)<(s.length:Int):=by omega
 have hs:s.length≤2^40:=by omega
 generalize hu:(if s.getLast? = some 10 then s.dropLast else s)=u
 have hul:u.length≤s.length:=by rw [← hu];split<;>simp
 generalize hL:Oyez.lastLine u=L
 have hLu:L≤u.length:=by rw [← hL];exact Nat.sub_le _ _
 generalize hb:(decide (s.getLast? = some 10)&&decide ((u.take L).getLast? = some 10)&&decide (L≤4096))=b0
 refine Zb0 7 (fun env σ'=>∃ t,env={ t }∧t.length=83∧tg t 3=.ptr σ.length 0∧tg t 5=.str (u.drop L)∧tg t 8=.str (u.take L)∧tg t 9=.ptr (σ.length+1) 0∧tg t 10=.ptr (σ.length+2) 0 ∧
  σ'=σ++[.cells [.int .i64 0,.int .i64 0],.cells [.int .i64 0,.int .i64 0],.cells [.bool b0]]) Tryz.func119 rfl (Va Tryz.func119 (by decide) rfl) ?_ ?_
 ·simp [Tryz.ntmps119,h1']
  refine (Zf5 s 10 (by omega)).use ?_
  rw [hu]
  simp
  refine (Xew u (by omega)).use ?_
  rw [hL]
  have hLi:(L:Int)≤(u.length:Int):=by omega
  have hw:=w64 (n:=(L:Int)) (by omega) (by omega)
  simp [hw]
  refine Zj mixed (by kernel_rfl) ?_
  simp [hLi,hLu]
  by_cases he:s.getLast? = some 10
  ·simp [he]
   refine (Xby (u.take L) (by simp;omega)).use ?_
   by_cases he2:(u.take L).getLast? = some 10
   ·simp [he2]
    simp [he,he2] at hb
    rw [Nat.min_eq_left hLu,← hb]
    simp
    omega
   ·simp [he2]
    simp [he2] at hb
    exact hb
  ·simp [he]
   simp [he] at hb
   exact hb
 ·rintro env σ' ⟨t,rfl,hl,g3,g5,g8,g9,g10,rfl⟩
  simp [hl,g3,g5,g8,g9,g10]
  refine StA.of ((Vbq _ _).mono ?_)
  rintro v σ' ⟨rfl,rfl⟩
  simp [hl,g3,g5,g8,g9,g10]
  refine Zci (gf:=264) (first:=[]) (caps:=[.ptr (σ.length+4) 0]) (σ.length+5) (σ.length+6) (by simp) rfl (by simp [hl]) fun fn D o σ2 ho hrd hσ2=>?_
  simp only [List.append_assoc,List.cons_append,List.nil_append] at hσ2
  subst hσ2
  refine AEnter.mono (Yby (u.drop L) (by simp;omega) _ _ (fun pre x σ'=>σ'=σ++[.cells [.int .i64 0,.int .i64 0],.cells [.int .i64 (sA pre),.int .i64 (sB pre)],.cells [.bool (sOk b0 pre)],.cells [.int .i64 pre.length],.cells [.str x],.deferred,o]) ?_ ?_ ?_ _ ?_) ?_
  ·rintro pre x σ' rfl
   simp
  ·rintro pre x y σ' rfl
   simp
  ·rintro pre x w σ' rfl hp hw
   refine AYield.round ho (by simp) (by simp) fun o'=>?_
   have hw1:=w64 (n:=(pre.length:Int)+1) (by omega) (by omega)
   clear ho
   have hwl:w.length≤2^40:=by simp at hw;omega
   have hnum:=Vbv w 65536 hwl (by decide)
   rcases pre with _ | ⟨a1,_ | ⟨a2,_ | ⟨a3,pre⟩⟩⟩
   ·simp [hl,g9,g10,sOk,sA,sB]
    cases b0 with
    | false=>simp [hl,g9,g10]
    | true =>
     simp [hl,g9,g10,Vaj]
     exact decide_eq_decide.2 Iff.rfl
   ·simp [hl,g9,g10,sOk,sA,sB]
    refine hnum.use ?_
    simp [hl,g9,g10,sOk,sA,sB]
    refine Uaz [8,9] [(5,1),(6,1)] mixed (by kernel_rfl) (by kernel_rfl) ?_
    simp [hl,g9,g10,sOk,sA,sB]
    cases hq:(b0&&decide (a1=Vaj)) with
    | false=>simp [hl,g9,g10,hq]
    | true=>simp [hl,g9,g10,hq]
   ·simp [hl,g9,g10,sOk,sA,sB]
    refine hnum.use ?_
    simp [hl,g9,g10,sOk,sA,sB]
    refine Uaz [8,9] [(5,1),(6,1)] mixed (by kernel_rfl) (by kernel_rfl) ?_
    simp [hl,g9,g10,sOk,sA,sB]
    cases hq:(b0&&decide (a1=Vaj)&&Ur a2 65536) with
    | false=>simp [hl,g9,g10,hq]
    | true=>simp [hl,g9,g10,hq]
   ·have h0:¬ ((pre.length:Int)+1+1+1=0):=by omega
    have h01:¬ ((pre.length:Int)+1+1+1=1):=by omega
    have h02:¬ ((pre.length:Int)+1+1+1=2):=by omega
    simp at hw1 hp
    simp [hl,g9,g10,sOk,sA,sB,hw1,h0,h01,h02]
  ·simp [sA,sB,sOk]
  rintro v σ' ⟨x,rfl⟩
  clear ho
  have hE:=Xdt s h1 hu hL hb
  rw [hX] at hE
  generalize Oyez.words (u.drop L)=ws at hE
  cases hk:sOk b0 ws with
  | false =>
   rw [if_neg (by simp [hk])] at hE
   subst hE
   simp [hl,g3,g5,g8,g9,g10,hrd,hk]
  | true =>
   by_cases h3:ws.length=3
   ·rw [if_pos ⟨hk,h3⟩] at hE
    subst hE
    have h3':(ws.length:Int)=3:=by omega
    simp [hl,g3,g5,g8,g9,g10,hrd,hk,h3']
    refine Vag [3] mixed (by kernel_rfl) ?_
    simp [hl,g3,g5,g8,g9,g10]
   ·rw [if_neg (fun h=>h3 h.2)] at hE
    subst hE
    have h3':¬ (ws.length:Int)=3:=by omega
    simp [hl,g3,g5,g8,g9,g10,hrd,hk,h3']
end Ab

/-
  Texts packed for a claim.
-/
import Derived.Test.YtdifgaapdnbliaaGreatDoorS00
import Derived.Test.YtdifgaapdnbliaaGreatDoorS10
import Derived.Test.YtdifgaapdnbliaaGreatDoorS11
import Derived.Test.YtdifgaapdnbliaaGreatDoorS18
set_option linter.all false
namespace Ab
open Go Go.Proofs
attribute [local irreducible] aws awp aw1 Og Om Oc Oa Ogd Ov Ot awd Ub Zc Wc QFn Zd ACode ACalls AYield
theorem Ub9 (s:Oyez.S):(Oyez.sums s).1<65537∧(Oyez.sums s).2<65537:=by
 rw [Oyez.sums_eq];exact ⟨Nat.mod_lt _ (by decide),Nat.mod_lt _ (by decide)⟩
set_option maxHeartbeats 1000000 in
set_option maxRecDepth 8000 in
theorem Vd6 (s:List UInt8):APure Tryz.prog 22 [.str s] (.tup [.str (Oyez.sealOf s).1,.int .i64 (Oyez.sealOf s).2]):=by
 intro σ
 refine Ua Tryz.func22 rfl (Wa Tryz.func22 (by decide) rfl) ?_
 generalize hX:Oyez.sealOf s=X
 by_cases h1:4096<s.length
 ·have h1':(4096:Int)<(s.length:Int):=by omega
  have hE:X=([],10):=by rw [← hX];unfold Oyez.sealOf;rw [if_pos h1]
  subst hE
  simp [Tryz.ntmps22,h1']
 have h1':¬ (4096:Int)<(s.length:Int):=by omega
 by_cases h0:s=[]
 ·have hE:X=([],11):=by rw [← hX];subst h0;rfl
  subst hE
  subst h0
  simp [Tryz.ntmps22]
 obtain ⟨t,c,rfl⟩:∃ t c,s=t++[c]:=⟨s.dropLast,s.getLast h0,(List.dropLast_concat_getLast h0).symm⟩
 have hx:=w64 (n:=(t.length:Int)) (by simp at h1;omega) (by simp at h1;omega)
 by_cases hc:c=10
 ·have hc':(c.toNat:Int)=10:=by rw [hc];rfl
  have hE:X=(Oyez.sealed (t++[c]),0):=by rw [← hX];unfold Oyez.sealOf;rw [if_neg h1,if_neg (by simp [hc])]
  have h1':¬ (4096:Int)<(t.length:Int)+1:=by simp at h1;omega
  simp [Tryz.ntmps22,h1',hx,hc']
  refine StA.of ((Ubx (t++[c]) σ (by omega)).mono ?_)
  rintro v σ' ⟨rfl,rfl⟩
  have hs:=Ub9 (t++[c])
  simp at h1
  have e1:t.length+1+5≤9223372036854775807:=by omega
  have e1':t.length≤9223372036854775801:=by omega
  simp [e1,e1']
  generalize hm:(Oyez.sums (t++[c])).1=m at *
  generalize hn:(Oyez.sums (t++[c])).2=n at *
  refine (Zbs m (by omega)).use ?_
  have d1:=Zag m
  have d2:=Zag n
  simp
  rw [if_pos (by omega)]
  simp
  rw [if_pos (by omega)]
  simp
  refine (Zbs n (by omega)).use ?_
  simp
  rw [if_pos (by omega)]
  simp
  rw [if_pos (by omega)]
  simp [hE,Oyez.sealed,hm,hn]
 ·have hc':¬ (c.toNat:Int)=10:=fun e=>hc ((Wal c 10 (by decide)).1 (by omega))
  have hE:X=([],11):=by rw [← hX];unfold Oyez.sealOf;rw [if_neg h1,if_pos (by simpa using hc)]
  subst hE
  have h1':¬ (4096:Int)<(t.length:Int)+1:=by simp at h1;omega
  simp [Tryz.ntmps22,h1',hx,hc']
theorem Ycp {w:List UInt8} {most n:Nat} (h:Oyez.value w most=some n):n≤most:=by
 unfold Oyez.value at h
 split at h
 ·cases h
 ·split at h
  ·cases h
  ·split at h
   ·cases h
   ·split at h
    ·split at h
     ·cases h
     ·cases h;omega
    ·cases h
def Yn (x:Except Int (List UInt8 × Nat × Nat)):AV:=match x with
 | .error e=>.tup [.str [],.int .i64 e]
 | .ok (b,m,n)=>.tup [.str b,.int .i64 (if Oyez.sums b=(m,n) then 0 else 8)]
set_option maxHeartbeats 2000000 in
set_option maxRecDepth 8000 in
theorem Ybj (s:List UInt8):APure Tryz.prog 24 [.str s] (Yn (Oyez.openedOf s)):=by
 intro σ
 refine Ua Tryz.func24 rfl (Wa Tryz.func24 (by decide) rfl) ?_
 generalize hX:Oyez.openedOf s=X
 by_cases h1:4116<s.length
 ·have h1':(4116:Int)<(s.length:Int):=by omega
  have hE:X=.error 10:=by rw [← hX];unfold Oyez.openedOf;rw [if_pos h1]
  subst hE
  simp [Tryz.ntmps24,h1',Yn]
 have h1':¬ (4116:Int)<(s.length:Int):=by omega
 by_cases h0:s=[]
 ·have hE:X=.error 11:=by rw [← hX];subst h0;rfl
  subst hE
  subst h0
  simp [Tryz.ntmps24,Yn]
 obtain ⟨t,c,rfl⟩:∃ t c,s=t++[c]:=⟨s.dropLast,s.getLast h0,(List.dropLast_concat_getLast h0).symm⟩
 have hx:=w64 (n:=(t.length:Int)) (by simp at h1;omega) (by simp at h1;omega)
 have h1':¬ (4116:Int)<(t.length:Int)+1:=by simp at h1;omega
 have htl:t.length≤4115:=by simp at h1;omega
 by_cases hc:¬ c=10
 ·have hc':¬ (c.toNat:Int)=10:=fun e=>hc ((Wal c 10 (by decide)).1 (by omega))
  have hE:X=.error 11:=by rw [← hX];unfold Oyez.openedOf;rw [if_neg h1,if_pos (by simpa using hc)]
  subst hE
  simp [Tryz.ntmps24,h1',hx,hc',Yn]
 simp only [Classical.not_not] at hc
 have hc':(c.toNat:Int)=10:=by rw [hc];rfl
 obtain ⟨hl1,hl2⟩:=Oyez.lastLine_split _ t rfl
 have hll:Oyez.lastLine t≤t.length:=Nat.sub_le _ _
 generalize hL:Oyez.lastLine t=L at hl1 hl2 hll
 simp [Tryz.ntmps24,h1',hx,hc']
 refine Yc (fun env σ'=>∃ (u:List AV) (i:Nat),env={ t:=u }∧u.length=100∧tg u 0=.str (t++[c])∧tg u 4=.int .i64 i∧σ'=σ∧L≤i∧i≤t.length)
  (fun env _=>match tg env.t 4 with | .int _ i=>i.toNat | _=>0) ⟨_,t.length,rfl,by simp,by simp,by simp,rfl,hll,by omega⟩ ?_
 rintro env σ' ⟨u,i,rfl,hl,g0,g4,rfl,hi,hi2⟩
 rcases Qzn L i with hlt | hge
 ·obtain ⟨j,rfl⟩:∃ j,i=j+1:=⟨i - 1,by omega⟩
  have hz:(0:Int)<(j:Int)+1:=by omega
  have hxj:=w64 (n:=(j:Int)) (by omega) (by omega)
  have hj:j<t.length:=by omega
  have hj2:j<(t++[c]).length:=by simp;omega
  have hne:¬ ((t[j].toNat:Nat):Int)=10:=by
   intro e
   have e1:t[j]=10:=(Wal _ 10 (by decide)).1 (by omega)
   apply hl1
   rw [← e1]
   have:(t.drop L)[j - L]? = some t[j]:=by rw [List.getElem?_drop,show L+(j - L)=j by omega,Qze hj]
   exact Qzg this
  have hg:(t++[c])[j]? = some t[j]:=by rw [Qzl hj,Qze hj]
  simp [hl,g0,g4,hz,hxj,hj,hg,hne]
  exact ⟨j,rfl,by omega,by omega⟩
 ·obtain rfl:i=L:=by omega
  have hsl:List.drop i (List.take t.length (t++[c]))=t.drop i:=by rw [List.take_left]
  have hil:(i:Int)≤(t.length:Int):=by omega
  have htl':(t.length:Int)≤(t.length:Int)+1:=by omega
  have hsplit:=Wce (t.drop i) (by rw [List.length_drop];omega)
  have hW:=hX
  unfold Oyez.openedOf at hW
  rw [if_neg h1,if_neg (by simp [hc]),List.dropLast_concat,hL] at hW
  rcases Nat.eq_zero_or_pos i with hz | hz
  ·subst hz
   have hE:X=.error 11:=by
    rw [← hW]
    split
    ·rw [if_pos (.inl rfl)]
    ·rfl
   subst hE
   simp [hl,g0,g4,hx,hil,htl',hsl]
   refine hsplit.use ?_
   simp [hl,g0,g4,Yn]
  ·obtain ⟨j,rfl⟩:∃ j,i=j+1:=⟨i - 1,by omega⟩
   have hj:j<t.length:=by omega
   have hz':(0:Int)<(j:Int)+1:=by omega
   have hz'':¬ (j:Int)+1=0:=by omega
   have hxj:=w64 (n:=(j:Int)) (by omega) (by omega)
   have hg:(t++[c])[j]? = some t[j]:=by rw [Qzl hj,Qze hj]
   have h10:((t[j].toNat:Nat):Int)=10:=by
    rcases hl2 with e | e
    ·have e3:=congrArg List.length e
     rw [List.length_take,Nat.min_eq_left hll] at e3
     simp at e3
    ·have e2:(t.take (j+1)).getLast? = some t[j]:=by rw [List.take_add_one,Qze hj];exact List.getLast?_concat
     rw [e2] at e
     simp at e
     rw [e];rfl
   have hj0:(0:Int)≤(j:Int)+1:=by omega
   have hj1:j+1≤t.length+1:=by omega
   have hj2:j+1≤t.length:=by omega
   have hjt:((j:Int)+1).toNat=j+1:=by omega
   have htk:List.take (j+1) (t++[c])=t.take (j+1):=List.take_append_of_le_length hj2
   rw [htk] at hW
   simp [hl,g0,g4,hx,hil,htl',hsl,hz',hxj,hg,hj,h10,hj0,hj1,hj2,hjt]
   refine hsplit.use ?_
   by_cases h4:4096<j+1
   ·have h4':(4096:Int)<(j:Int)+1:=by omega
    have hE:X=.error 11:=by
     rw [← hW]
     split
     ·rw [if_pos (.inr (.inl h4))]
     ·rfl
    subst hE
    simp [hl,g0,g4,Yn,hz'',h4']
   have h4':¬ (4096:Int)<(j:Int)+1:=by omega
   match hws:Oyez.words (t.drop (j+1)) with
   | []=>exact absurd hws (Zao _)
   | [a] =>
    rw [hws] at hW
    subst hW
    simp [hl,g0,g4,Yn,hz'',h4']
   | [a,b] =>
    rw [hws] at hW
    subst hW
    simp [hl,g0,g4,Yn,hz'',h4']
   | a::b::d::e::r =>
    rw [hws] at hW
    subst hW
    have:¬ ((r.length:Int)+1+1+1+1=3):=by omega
    simp [hl,g0,g4,Yn,hz'',h4',this]
   | [k,a,b] =>
    rw [hws] at hW
    have va:APure Tryz.prog 94 [.str a,.int .i64 65536] (.int .i64 (match Oyez.value a 65536 with | some n=>n | none=>-1)):=Zbp a 65536
    have vb:APure Tryz.prog 94 [.str b,.int .i64 65536] (.int .i64 (match Oyez.value b 65536 with | some n=>n | none=>-1)):=Zbp b 65536
    by_cases hk:k=[115,101,97,108]
    ·simp only at hW
     rw [if_neg (by simp [hk];omega)] at hW
     simp [hl,g0,g4,Yn,hz'',h4',hk]
     refine va.use ?_
     cases hva:Oyez.value a 65536 with
     | none =>
      rw [hva] at hW
      subst hW
      simp [hl,g0,g4,Yn]
     | some m =>
      rw [hva] at va hW
      have hm0:¬ ((m:Int)<0):=by omega
      simp [hl,g0,g4,hm0]
      refine vb.use ?_
      cases hvb:Oyez.value b 65536 with
      | none =>
       rw [hvb] at hW
       subst hW
       simp [hl,g0,g4,Yn]
      | some n =>
       rw [hvb] at vb hW
       simp only at hW
       subst hW
       have hn0:¬ ((n:Int)<0):=by omega
       simp [hl,g0,g4,hn0,hj0,hj1,hjt,htk]
       refine StA.of ((Ubx (t.take (j+1)) σ' (by rw [List.length_take];omega)).mono ?_)
       rintro v σ'' ⟨rfl,rfl⟩
       simp [hl,g0,g4]
       refine va.use ?_
       generalize Oyez.sums (t.take (j+1))=S
       obtain ⟨p,q⟩:=S
       by_cases h1:p=m
       ·subst h1
        simp [hl,g0,g4]
        refine vb.use ?_
        by_cases h2:q=n
        ·subst h2
         simp [hl,g0,g4,hj0,hj1,hjt,htk]
        ·have h2':¬ (q:Int)=n:=by omega
         simp [hl,g0,g4,hj0,hj1,hjt,htk,h2,h2']
       ·have h1':¬ (p:Int)=m:=by omega
        simp [hl,g0,g4,hj0,hj1,hjt,htk,h1,h1']
    ·simp only at hW
     rw [if_pos (.inr (.inr hk))] at hW
     subst hW
     simp [hl,g0,g4,Yn,hz'',h4',hk]
end Ab
namespace Ab
open Go Go.RowKit Go.Proofs
attribute [local irreducible] aws awp aw1 Og Om Oc Oa Ogd Ov Ot awd Ub awh Xc Ogh Ohd awl Ogl Ohl Zc Wc QFn Zd QRo QBe ACode AYield
theorem Xez:Vu Tryz.prog 140=some [1,1]:=by kernel_rfl
attribute [local simp] Vbi Wcc Xez Ug Vad
def Xs (t:List UInt8):List UInt8 × Int :=
 match Oyez.openedOf t with
 | .error e=>([],e)
 | .ok (b,m,n)=>if Oyez.sums b=(m,n) then (b,0) else ([],8)
set_option maxHeartbeats 1000000 in
set_option maxRecDepth 8000 in
theorem Wbk (s:List UInt8):APure Tryz.prog 23 [.str s] (.tup [.str (Xs s).1,.int .i64 (Xs s).2]):=by
 refine APure.of fun σ=>?_
 generalize hX:Xs s=X
 have ho:=Ub3 s
 unfold Uaa at ho
 unfold Xs at hX
 cases hE:Oyez.openedOf s with
 | error e =>
  have he:¬ e=0:=by rcases Oyez.openedOf_err hE with h | h<;>omega
  rw [hE] at hX ho
  simp only at hX ho
  subst hX
  refine Ua Tryz.func23 rfl (Wa Tryz.func23 (by decide) rfl) ?_
  simp [Tryz.ntmps23]
  refine ho.use ?_
  simp [he]
 | ok r =>
  obtain ⟨b,m,n⟩:=r
  obtain ⟨line,a,k,hS⟩:=Oyez.openedOf_inv hE
  have hbl:b.length≤2^40:=by have:=hS.most;omega
  rw [hE] at hX ho
  simp only at hX ho
  refine Ua Tryz.func23 rfl (Wa Tryz.func23 (by decide) rfl) ?_
  simp [Tryz.ntmps23]
  refine ho.use ?_
  simp
  refine Zg mixed (by kernel_rfl) ?_
  simp
  refine Vd (Ybh b (by omega)) ?_
  by_cases hq:Oyez.sums b=(m,n)
  ·rw [if_pos hq] at hX
   subst hX
   simp [Waf,hq]
  ·rw [if_neg hq] at hX
   subst hX
   have hq2:¬ ((Oyez.sums b).1=m∧(Oyez.sums b).2=n):=fun h=>hq (Prod.ext h.1 h.2)
   have hq3:(!decide (((Oyez.sums b).1:Int)=(m:Int))||!decide (((Oyez.sums b).2:Int)=(n:Int)))=true:=by
    rw [← Bool.not_and,Bool.not_eq_true',Bool.eq_false_iff]
    intro h
    rw [Bool.and_eq_true,decide_eq_true_eq,decide_eq_true_eq] at h
    exact hq2 ⟨by omega,by omega⟩
   simp [Waf,hq3]
theorem Xci (a b j p:Nat):(a % p)*(b % p)^j % p=a*b^j % p:=by
 rw [Nat.mul_mod,Nat.mod_mod,← Nat.pow_mod,← Nat.mul_mod]
theorem Wc7 (n:Nat) (hn:n<65537):APure Tryz.prog 95 [.int .i64 n] (.int .i64 (Oyez.inv n:Nat)):=by
 intro σ
 refine Ua Tryz.func95 rfl (Wa Tryz.func95 (by decide) rfl) ?_
 simp [Tryz.ntmps95]
 refine Yc (fun env σ'=>∃ (u:List AV) (o m k:Nat),env={ t:=u }∧u.length=21∧tg u 0=.int .i64 m∧tg u 3=.int .i64 o∧tg u 4=.int .i64 k∧σ'=σ∧m<65537∧o<65537∧k≤65535∧(o*m^k) % 65537=Oyez.inv n)
  (fun env _=>match tg env.t 4 with | .int _ k=>k.toNat | _=>0) ⟨_,1,n,65535,rfl,by simp,by simp,by simp,by simp,rfl,hn,by decide,by decide,by simp [Oyez.inv]⟩ ?_
 rintro env σ' ⟨u,o,m,k,rfl,hl,g0,g3,g4,rfl,hm,ho,hk,hd⟩
 rcases Nat.eq_zero_or_pos k with rfl | hpos
 ·have:o=Oyez.inv n:=by simpa [Nat.mod_eq_of_lt ho] using hd
  subst this
  simp [hl,g0,g3,g4]
 ·have hpos':(0:Int)<(k:Int):=by omega
  have hmm:m*m≤65536*65536:=Nat.mul_le_mul (by omega) (by omega)
  have hom:o*m≤65536*65536:=Nat.mul_le_mul (by omega) (by omega)
  have e1:(m:Int)*(m:Int)=((m*m:Nat):Int):=by simp
  have e2:(o:Int)*(m:Int)=((o*m:Nat):Int):=by simp
  have w1:=w64 (n:=(m:Int)*(m:Int)) (by omega) (by omega)
  have w2:=w64 (n:=(o:Int)*(m:Int)) (by omega) (by omega)
  have t2:(k:Int).tmod 2=((k % 2:Nat):Int):=(Int.ofNat_tmod _ _).symm
  have t1:((m:Int)*(m:Int)).tmod 65537=((m*m % 65537:Nat):Int):=by rw [e1];exact (Int.ofNat_tmod _ _).symm
  have t3:((o:Int)*(m:Int)).tmod 65537=((o*m % 65537:Nat):Int):=by rw [e2];exact (Int.ofNat_tmod _ _).symm
  have t4:(k:Int).tdiv 2=((k / 2:Nat):Int):=(Int.ofNat_tdiv _ _).symm
  have hm1:m*m % 65537<65537:=Nat.mod_lt _ (by decide)
  have ho1:o*m % 65537<65537:=Nat.mod_lt _ (by decide)
  have w3:=w64 (n:=((m*m % 65537:Nat):Int)) (by omega) (by omega)
  have w4:=w64 (n:=((o*m % 65537:Nat):Int)) (by omega) (by omega)
  have w7:=w64 (n:=(k:Int) / 2) (by omega) (by omega)
  have w5:=w64 (n:=((k / 2:Nat):Int)) (by omega) (by omega)
  have w6:=w64 (n:=((k % 2:Nat):Int)) (by omega) (by omega)
  rcases Nat.mod_two_eq_zero_or_one k with h2 | h2
  ·rw [h2] at t2 w6
   simp [hl,g0,g3,g4,hpos,t2,w6]
   refine ⟨⟨o,m*m % 65537,by rw [w1,t1],rfl,k / 2,by rw [w7];simp,hm1,ho,by omega,?_⟩,by rw [w7];omega⟩
   have h3:=Xci o (m*m) (k / 2) 65537
   rw [Nat.mod_eq_of_lt ho] at h3
   rw [h3,← hd,← Nat.pow_two,← Nat.pow_mul,show 2*(k / 2)=k by omega]
  ·rw [h2] at t2 w6
   simp [hl,g0,g3,g4,hpos,t2,w6]
   refine ⟨⟨o*m % 65537,m*m % 65537,by rw [w1,t1],by rw [w2,t3],k / 2,by rw [w7];simp,hm1,ho1,by omega,?_⟩,by rw [w7];omega⟩
   rw [Xci,← hd,← Nat.pow_two,← Nat.pow_mul,Nat.mul_assoc,← Nat.pow_succ',show (2*(k / 2)).succ=k by omega]
theorem Zcw (n:Nat):Oyez.inv n<65537:=by
 have h:∀ a:Nat,a % 65537<65537:=fun a=>Nat.mod_lt _ (by decide)
 rw [show Oyez.inv n=n^65535 % 65537 from Oyez.inv.eq_1 n]
 generalize n^65535=a
 exact h a
theorem Wb9 (t:List UInt8):(Xs t).2=(Oyez.openOf t).2:=by
 unfold Xs Oyez.openOf
 cases Oyez.openedOf t with
 | error e=>rfl
 | ok q =>
  obtain ⟨b,m,n⟩:=q
  simp only
  split<;>rfl
theorem Wb2 (s:List UInt8):Yaa (s.map fun c=>AV.int .u8 c.toNat)=some s:=by
 induction s with
 | nil=>rfl
 | cons c s ih=>simp [Yaa,ih]
theorem Ucj (s:List UInt8) (j:Nat) (hj:j<s.length) (v:Int) (h0:0≤v) (h1:v≤255) :
  List.take j (s.map fun c=>AV.int .u8 c.toNat)++AV.int .u8 v::List.drop (j+1) (s.map fun c=>AV.int .u8 c.toNat)=(s.set j (UInt8.ofNat v.toNat)).map fun c=>AV.int .u8 c.toNat:=by
 rw [List.set_eq_take_append_cons_drop,if_pos hj,List.map_append,List.map_cons,List.map_take,List.map_drop]
 have:((UInt8.ofNat v.toNat).toNat:Int)=v:=by simp;omega
 rw [this]
theorem Wb7 (s:List UInt8) (σ:Za):Vk Tryz.prog 9 75 (.str s) σ=some (.arr 1 σ.length 0 s.length,σ++[.cells (s.map fun c=>AV.int .u8 c.toNat)]):=by simp [Vk]
theorem Zco (n:Int) (σ:Za):Vk Tryz.prog 5 3 (.int .u8 n) σ=some (.int .i64 (IntKind.i64.wrap n),σ):=by simp [Vk]
theorem Wbz (n:Int) (σ:Za):Vk Tryz.prog 3 5 (.int .i64 n) σ=some (.int .u8 (IntKind.u8.wrap n),σ):=by simp [Vk]
theorem Vcg {r n:Nat} {t:List UInt8} {σ:Za} (h:σ[r]? = some (.cells (t.map fun c=>AV.int .u8 c.toNat))) (hn:t.length=n):Vk Tryz.prog 75 9 (.arr 1 r 0 n) σ=some (.str t,σ):=by
 subst hn
 have h1:(t.map fun c=>AV.int .u8 c.toNat).all AV.one=true:=by
  rw [List.all_eq_true]
  intro x hx
  obtain ⟨c,_,rfl⟩:=List.mem_map.1 hx
  rfl
 have h2:Xi 1 (.arr 1 r 0 t.length) σ=some (t.map fun c=>AV.int .u8 c.toNat,t.length):=by
  simp only [Xi]
  rw [h]
  have h3:sub (t.map fun c=>AV.int .u8 c.toNat) (0*1) (t.length*1)=t.map fun c=>AV.int .u8 c.toNat:=by
   unfold sub
   rw [Nat.zero_mul,Nat.mul_one,List.drop_zero,List.take_of_length_le (by simp)]
  simp only [h3]
  rw [if_pos ⟨trivial,by simp,h1⟩]
 have h4:Xg Tryz.prog 75=some 5:=by simp
 have h5:Xp Tryz.prog 5=some .u8∧Xj Tryz.prog 9=true:=by simp
 simp only [Vk,abstr,h4,if_pos h5,h2,Wb2]
 rfl
def Uw (t:List UInt8):List UInt8 × Int × Int :=
 match Oyez.openedOf t with
 | .error e=>([],0,e)
 | .ok (b,m,n)=>if Oyez.sums b=(m,n) then ([],0,5) else ((Oyez.mendC t b m n).1,(Oyez.mendC t b m n).2.1,(Oyez.mendC t b m n).2.2)
set_option maxHeartbeats 4000000 in
set_option maxRecDepth 8000 in
theorem Vbv (s:List UInt8):APure Tryz.prog 25 [.str s] (.tup [.str (Uw s).1,.int .i64 (Uw s).2.1,.int .i64 (Uw s).2.2]):=by
 refine APure.of fun σ=>?_
 generalize hX:Uw s=X
 have ho:=Ub3 s
 unfold Uaa at ho
 unfold Uw at hX
 cases hE:Oyez.openedOf s with
 | error e =>
  have he:¬ e=0:=by rcases Oyez.openedOf_err hE with h | h<;>omega
  rw [hE] at hX ho
  simp only at hX ho
  subst hX
  refine Ua Tryz.func25 rfl (Wa Tryz.func25 (by decide) rfl) ?_
  simp [Tryz.ntmps25]
  refine ho.use ?_
  simp [he]
 | ok r =>
  obtain ⟨b,m,n⟩:=r
  obtain ⟨line,a,k,hS⟩:=Oyez.openedOf_inv hE
  have hbm:=hS.most
  have hs:s.length≤2^40:=by have:=hS.len;omega
  have hbs:b.length<s.length:=by have:=congrArg List.length hS.text;simp at this;omega
  have hm:=Ycp hS.one
  have hn:=Ycp hS.two
  have hsl:=Ub9 b
  rw [hE] at hX ho
  simp only at hX ho
  refine Ua Tryz.func25 rfl (Wa Tryz.func25 (by decide) rfl) ?_
  simp [Tryz.ntmps25]
  refine ho.use ?_
  simp
  refine (Ybh b (by omega)).use ?_
  by_cases hq:Oyez.sums b=(m,n)
  ·rw [if_pos hq] at hX
   subst hX
   simp [Waf,hq]
  ·rw [if_neg hq] at hX
   have hq2:¬ ((Oyez.sums b).1=m∧(Oyez.sums b).2=n):=fun h=>hq (Prod.ext h.1 h.2)
   have hq3:(decide (((Oyez.sums b).1:Int)=(m:Int))&&decide (((Oyez.sums b).2:Int)=(n:Int)))=false:=by
    rw [Bool.eq_false_iff]
    intro h
    rw [Bool.and_eq_true,decide_eq_true_eq,decide_eq_true_eq] at h
    exact hq2 ⟨by omega,by omega⟩
   have hX2:((Oyez.mendC s b m n).1,((Oyez.mendC s b m n).2.1:Int),(Oyez.mendC s b m n).2.2)=X:=hX
   clear hX
   generalize hC:Oyez.mendC s b m n=C at hX2
   unfold Oyez.mendC at hC
   generalize Oyez.sums b=sm at *
   obtain ⟨x,y⟩:=sm
   obtain ⟨hx1,hy1⟩:=hsl
   simp only at hC hq3 hx1 hy1
   generalize hmd:(x+65537 - m) % 65537=more at hC
   generalize hbd:(y+65537 - n) % 65537=byy at hC
   have hm1:more<65537:=hmd▸Nat.mod_lt _ (by decide)
   have hb1:byy<65537:=hbd▸Nat.mod_lt _ (by decide)
   have hinv:=Wc7 more hm1
   have hiv1:Oyez.inv more<65537:=Zcw more
   generalize Oyez.inv more=iv at hC hinv hiv1
   have hbi:byy*iv≤65536*65536:=Nat.mul_le_mul (by omega) (by omega)
   have e3:(byy:Int)*(iv:Int)=((byy*iv:Nat):Int):=by simp
   have i1:((x:Int) - m+65537).tmod 65537=(more:Int):=by
    rw [show (x:Int) - m+65537=((x+65537 - m:Nat):Int) by omega,← hmd];exact (Int.ofNat_tmod _ _).symm
   have i2:((y:Int) - n+65537).tmod 65537=(byy:Int):=by
    rw [show (y:Int) - n+65537=((y+65537 - n:Nat):Int) by omega,← hbd];exact (Int.ofNat_tmod _ _).symm
   have w3:=w64 (n:=(byy:Int)*(iv:Int)) (by omega) (by omega)
   have i3:((byy:Int)*(iv:Int)).tmod 65537=((byy*iv % 65537:Nat):Int):=by rw [e3];exact (Int.ofNat_tmod _ _).symm
   have hat1:byy*iv % 65537<65537:=Nat.mod_lt _ (by decide)
   generalize byy*iv % 65537=at1 at hC i3 hat1
   have w1:=w64 (n:=(x:Int) - m) (by omega) (by omega)
   have w2:=w64 (n:=(y:Int) - n) (by omega) (by omega)
   have w4:=w64 (n:=(x:Int) - m+65537) (by omega) (by omega)
   have w5:=w64 (n:=(y:Int) - n+65537) (by omega) (by omega)
   have w6:=w64 (n:=(at1:Int) - 1) (by omega) (by omega)
   have w7:=w64 (n:=(more:Int) - 65537) (by omega) (by omega)
   have w9:=w64 (n:=(b.length:Int) - 1) (by omega) (by omega)
   clear hmd hbd hx1 hy1 e3 hbi
   simp [Waf,hq3]
   refine Zg mixed (by kernel_rfl) ?_
   simp [w1,w2,w4,w5,i1,i2]
   refine hinv.use ?_
   simp [w3,i3,w6]
   by_cases h32:(32768:Int)<(more:Int)
   ·have hg:Oyez.sgn more=(more:Int) - 65537:=by unfold Oyez.sgn;rw [if_pos (by omega)]
    rw [hg] at hC
    simp [h32,w7]
    refine (Yae _ _ _).use ?_
    by_cases c1:at1=0∨b.length<at1
    ·have e:(decide (1≤(at1:Int))&&decide (at1≤b.length))=false:=by rw [Bool.eq_false_iff];simp;omega
     rw [if_pos c1] at hC
     subst hC
     subst hX2
     simp [w9,e]
    ·rw [if_neg c1] at hC
     obtain ⟨j,rfl⟩:∃ j,at1=j+1:=⟨at1 - 1,by omega⟩
     have hj:j<b.length:=by omega
     have hjz:((j+1:Nat):Int) - 1=(j:Int):=by omega
     have hj2:(j:Int)≤(b.length:Int) - 1:=by omega
     have hgd:b.getD (j+1 - 1) 0=b[j]:=by simp [hj]
     have hb8:=Yan b[j]
     rw [hgd] at hC
     have v1:=w64 (n:=(b[j].toNat:Int)) (by omega) (by omega)
     obtain ⟨v,hv⟩:∃ v:Int,(b[j].toNat:Int) - ((more:Int) - 65537)=v:=⟨_,rfl⟩
     have v2:IntKind.i64.wrap ((b[j].toNat:Int) - ((more:Int) - 65537))=v:=by rw [← hv];exact w64 (by omega) (by omega)
     rw [hv] at hC
     clear hv
     simp [w9,hjz,hj,hj2,v1,w7,v2]
     refine (Yae _ _ _).use ?_
     by_cases c2:v<0∨255<v
     ·have e2:(decide (0≤v)&&decide (v≤255))=false:=by rw [Bool.eq_false_iff];simp;omega
      rw [if_pos c2] at hC
      subst hC
      subst hX2
      simp [e2]
     ·have e2:(decide (0≤v)&&decide (v≤255))=true:=by simp;omega
      rw [if_neg c2] at hC
      have hv0:0≤v:=by omega
      have hv1:v≤255:=by omega
      have hw8:=w8 hv0 hv1
      have hjs:j<s.length:=by omega
      have hjs2:j+1≤s.length:=by omega
      have hset:=Ucj s j hjs v hv0 hv1
      rw [Nat.add_sub_cancel] at hC
      generalize ht:s.set j (UInt8.ofNat v.toNat)=t at hC hset
      have htl:t.length=s.length:=by rw [← ht];simp
      have hcv:=fun (σ:Za) (r:Nat) (h:σ[r]? = some (.cells (t.map fun c=>AV.int .u8 c.toNat)))=>Vcg h htl
      simp [-Vk,Wb7,Zco,Wbz,e2,hjz,hj,v1,w7,v2,hw8,hjs,hjs2]
      rw [hset]
      simp [-Vk,hcv]
      refine (Wbk t).use ?_
      have hoe:=Wb9 t
      by_cases h0:(Oyez.openOf t).2=0
      ·rw [if_pos h0] at hC
       rw [h0] at hoe
       subst hC
       subst hX2
       simp [-Vk,hcv,hoe]
      ·rw [if_neg h0] at hC
       have h0':¬ (Xs t).2=0:=by rw [hoe];exact h0
       subst hC
       subst hX2
       simp [-Vk,hcv,h0']
   ·have hg:Oyez.sgn more=(more:Int):=by unfold Oyez.sgn;rw [if_neg (by omega)]
    rw [hg] at hC
    simp [h32,w7]
    refine (Yae _ _ _).use ?_
    by_cases c1:at1=0∨b.length<at1
    ·have e:(decide (1≤(at1:Int))&&decide (at1≤b.length))=false:=by rw [Bool.eq_false_iff];simp;omega
     rw [if_pos c1] at hC
     subst hC
     subst hX2
     simp [w9,e]
    ·rw [if_neg c1] at hC
     obtain ⟨j,rfl⟩:∃ j,at1=j+1:=⟨at1 - 1,by omega⟩
     have hj:j<b.length:=by omega
     have hjz:((j+1:Nat):Int) - 1=(j:Int):=by omega
     have hj2:(j:Int)≤(b.length:Int) - 1:=by omega
     have hgd:b.getD (j+1 - 1) 0=b[j]:=by simp [hj]
     have hb8:=Yan b[j]
     rw [hgd] at hC
     have v1:=w64 (n:=(b[j].toNat:Int)) (by omega) (by omega)
     obtain ⟨v,hv⟩:∃ v:Int,(b[j].toNat:Int) - ((more:Int))=v:=⟨_,rfl⟩
     have v2:IntKind.i64.wrap ((b[j].toNat:Int) - ((more:Int)))=v:=by rw [← hv];exact w64 (by omega) (by omega)
     rw [hv] at hC
     clear hv
     simp [w9,hjz,hj,hj2,v1,v2]
     refine (Yae _ _ _).use ?_
     by_cases c2:v<0∨255<v
     ·have e2:(decide (0≤v)&&decide (v≤255))=false:=by rw [Bool.eq_false_iff];simp;omega
      rw [if_pos c2] at hC
      subst hC
      subst hX2
      simp [e2]
     ·have e2:(decide (0≤v)&&decide (v≤255))=true:=by simp;omega
      rw [if_neg c2] at hC
      have hv0:0≤v:=by omega
      have hv1:v≤255:=by omega
      have hw8:=w8 hv0 hv1
      have hjs:j<s.length:=by omega
      have hjs2:j+1≤s.length:=by omega
      have hset:=Ucj s j hjs v hv0 hv1
      rw [Nat.add_sub_cancel] at hC
      generalize ht:s.set j (UInt8.ofNat v.toNat)=t at hC hset
      have htl:t.length=s.length:=by rw [← ht];simp
      have hcv:=fun (σ:Za) (r:Nat) (h:σ[r]? = some (.cells (t.map fun c=>AV.int .u8 c.toNat)))=>Vcg h htl
      simp [-Vk,Wb7,Zco,Wbz,e2,hjz,hj,v1,v2,hw8,hjs,hjs2]
      rw [hset]
      simp [-Vk,hcv]
      refine (Wbk t).use ?_
      have hoe:=Wb9 t
      by_cases h0:(Oyez.openOf t).2=0
      ·rw [if_pos h0] at hC
       rw [h0] at hoe
       subst hC
       subst hX2
       simp [-Vk,hcv,hoe]
      ·rw [if_neg h0] at hC
       have h0':¬ (Xs t).2=0:=by rw [hoe];exact h0
       subst hC
       subst hX2
       simp [-Vk,hcv,h0']
end Ab

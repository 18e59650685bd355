/-
  Texts packed for a claim.
-/
import Derived.Test.YtdifgaapdnbliaaGreatDoorS00
import Derived.Lib.Overlaps
import Derived.Test.YtdifgaapdnbliaaGreatDoorS06
import Derived.Test.YtdifgaapdnbliaaGreatDoorS09
import Derived.Test.YtdifgaapdnbliaaGreatDoorS10
set_option linter.all false
namespace Ab
open Go Go.Proofs
instance loose:Mode:=⟨False⟩
attribute [local irreducible] aws awp aw1 Og Om Oc Oa Zc Wc QFn ACode ACalls AYield
set_option maxRecDepth 4000 in
theorem Ubx (s:List UInt8) (σ:Za) (hs:s.length<2^50):ACalls Tryz.prog 90 [.str s] σ (fun v σ'=>v=.tup [.int .i64 (Oyez.sums s).1,.int .i64 (Oyez.sums s).2]∧σ'=σ):=by
 refine Ua Tryz.func90 rfl (Wa Tryz.func90 (by decide) rfl) ?_
 simp [Tryz.ntmps90]
 refine Yc (fun env σ'=>∃ (t:List AV) (i a b:Nat),env={ t:=t }∧t.length=32∧tg t 0=.str s∧tg t 6=.int .i64 i∧tg t 4=.int .i64 a∧tg t 5=.int .i64 b∧σ'=σ∧a<65537∧b<65537∧i≤s.length∧Oyez.sumsFrom (s.drop i) i a b=Oyez.sums s)
  (fun env _=>match tg env.t 6 with | .int _ i=>s.length - i.toNat | _=>0) ⟨_,0,0,0,rfl,by simp,by simp,by simp,by simp,by simp,rfl,by decide,by decide,by omega,rfl⟩ ?_
 rintro env σ' ⟨t,i,a,b,rfl,hl,h0,h6,h4,h5,rfl,ha,hb,hi,hd⟩
 rcases Qzn i s.length with hlt | hge
 ·have hc:s[i]? = some s[i]:=Qze hlt
  simp [hl,h0,h6,h4,h5,hc,hlt]
  have hb8:=Yan s[i]
  have hm:(i+1)*s[i].toNat≤2^50*256:=Nat.mul_le_mul (by omega) (by omega)
  have hm2:((i:Int)+1)*(s[i].toNat:Int)=(((i+1)*s[i].toNat:Nat):Int):=by simp
  rw [w64 (n:=(i:Int)+1) (by omega) (by omega),w64 (n:=(s[i].toNat:Int)) (by omega) (by omega),hm2,w64 (n:=(((i+1)*s[i].toNat:Nat):Int)) (by omega) (by omega),
   w64 (by omega) (by omega),w64 (by omega) (by omega)]
  refine ⟨⟨i+1,by simp,(a+s[i].toNat) % 65537,by rw [← Int.natCast_add];exact (Int.ofNat_tmod _ _).symm,(b+(i+1)*s[i].toNat) % 65537,by rw [← Int.natCast_add];exact (Int.ofNat_tmod _ _).symm,Nat.mod_lt _ (by decide),Nat.mod_lt _ (by decide),hlt,?_⟩,by omega⟩
  rw [← hd,List.drop_eq_getElem_cons hlt]
  rfl
 ·simp [hl,h0,h6,h4,h5,Nat.not_lt.2 hge]
  rw [List.drop_eq_nil_of_le hge] at hd
  rw [← hd]
  exact ⟨rfl,rfl⟩
theorem Vas (n lo hi:Int):APure Tryz.prog 163 [.int .i64 n,.int .i64 lo,.int .i64 hi] (.bool (decide (n<lo)||decide (hi<n))):=by
 intro σ
 refine Ua Tryz.func163 rfl (Wa Tryz.func163 (by decide) rfl) ?_
 by_cases h:n<lo
 ·simp [Tryz.ntmps163,h]
 ·simp [Tryz.ntmps163,h]
theorem Zag (n:Nat):(Oyez.digitsN n).length≤n+1:=by
 induction n using Nat.strongRecOn with
 | _ n ih =>
  rcases Qzn n 10 with h | h
  ·rw [Oyez.digitsN_lt h];simp
  ·rw [Oyez.digitsN_ge h,List.length_append]
   have:=ih (n / 10) (by omega)
   simp only [List.length_cons,List.length_nil]
   omega
set_option maxRecDepth 4000 in
theorem Zbs:∀ n:Nat,n≤2^50→APure Tryz.prog 91 [.int .i64 n] (.str (Oyez.digitsN n)):=by
 intro n
 induction n using Nat.strongRecOn with
 | _ n ih =>
  intro hn
  refine APure.of fun σ=>?_
  refine Ua Tryz.func91 rfl (Wa Tryz.func91 (by decide) rfl) ?_
  rcases Qzn n 10 with h | h
  ·have h':(n:Int)<10:=by omega
   simp [Tryz.ntmps91,h']
   rw [w64 (by omega) (by omega),w8 (by omega) (by omega),Oyez.digitsN_lt h]
   rfl
  ·have h':¬ (n:Int)<10:=by omega
   simp [Tryz.ntmps91,h']
   rw [w64 (by omega) (by omega),show (n:Int) / 10=((n / 10:Nat):Int) by omega]
   refine (ih (n / 10) (by omega) (by omega)).use ?_
   rw [show (n:Int).tmod 10=((n % 10:Nat):Int) from (Int.ofNat_tmod _ _).symm]
   refine (ih (n % 10) (by omega) (by omega)).use ?_
   have e1:=Zag (n / 10)
   have e2:=Zag (n % 10)
   rw [Oyez.digitsN_ge h,← Oyez.digitsN_lt (Nat.mod_lt n (by decide))]
   have e3:(Oyez.digitsN (n / 10)).length+(Oyez.digitsN (n % 10)).length≤9223372036854775807:=by omega
   simp [e3]
theorem Wal (c:UInt8) (n:Nat) (h:n<256):c.toNat=n↔c=UInt8.ofNat n:=by
 constructor
 ·intro e;rw [← e];simp
 ·intro e;rw [e];simp;omega
theorem Wa3 (c:UInt8):Oyez.isDig c=true↔48≤c.toNat∧c.toNat≤57:=by
 simp [Oyez.isDig,UInt8.le_iff_toNat_le]
theorem Zcb (c:UInt8) (h:¬ (48≤c.toNat∧c.toNat≤57)):Oyez.isDig c=false:=by
 rw [Bool.eq_false_iff];intro e;exact h ((Wa3 c).1 e)
set_option maxRecDepth 4000 in
theorem Zbp (w:List UInt8) (most:Nat):APure Tryz.prog 94 [.str w,.int .i64 most] (.int .i64 (match Oyez.value w most with | some n=>n | none=>-1)):=by
 refine APure.of fun σ=>?_
 refine Ua Tryz.func94 rfl (Wa Tryz.func94 (by decide) rfl) ?_
 cases w with
 | nil=>simp [Tryz.ntmps94,Oyez.value]
 | cons c t =>
  by_cases h6:6<t.length+1
  ·have h6':(6:Int)<(t.length:Int)+1:=by omega
   simp [Tryz.ntmps94,Oyez.value,h6,h6']
  ·have h6':¬ (6:Int)<(t.length:Int)+1:=by omega
   by_cases hz:c=48∧1<t.length+1
   ·obtain ⟨rfl,h2⟩:=hz
    have h2':(1:Int)<(t.length:Int)+1:=by omega
    simp [Tryz.ntmps94,Oyez.value,h6,h6',h2,h2']
   ·have hv:Oyez.value (c::t) most=match Oyez.valueN (c::t) 0 with | some n=>if most<n then none else some n | none=>none:=by
     have e1:¬ (c=48∧0<t.length):=fun e=>hz ⟨e.1,by omega⟩
     simp [Oyez.value,h6,e1]
     cases Oyez.valueN (c::t) 0<;>rfl
    rw [hv]
    by_cases h1:c.toNat=48
    all_goals first
     | (have h1':(c.toNat:Int)=48:=by omega
        have h2':¬ (1:Int)<(t.length:Int)+1:=fun e=>hz ⟨(Wal c 48 (by decide)).1 h1,by omega⟩
        simp [Tryz.ntmps94,h6',h1',h2'])
     | (have h1':¬ (c.toNat:Int)=48:=by omega
        simp [Tryz.ntmps94,h6',h1'])
    all_goals
     refine Yc (fun env σ'=>∃ (u:List AV) (i n:Nat),env={ t:=u }∧u.length=47∧tg u 0=.str (c::t)∧tg u 1=.int .i64 most∧tg u 6=.int .i64 i∧tg u 5=.int .i64 n∧σ'=σ∧i≤t.length+1∧n<10^i∧Oyez.valueN ((c::t).drop i) n=Oyez.valueN (c::t) 0)
      (fun env _=>match tg env.t 6 with | .int _ i=>t.length+1 - i.toNat | _=>0) ⟨_,0,0,rfl,by simp,by simp,by simp,by simp,by simp,rfl,by omega,by decide,rfl⟩ ?_
     rintro env σ' ⟨u,i,n,rfl,hl,g0,g1,g6,g5,rfl,hi,hn,hd⟩
     rcases Qzn i (t.length+1) with hlt | hge
     ·have hlt':(i:Int)<(t.length:Int)+1:=by omega
      have hc:(c::t)[i]? = some ((c::t)[i]'(by simpa using hlt)):=Qze (by simpa using hlt)
      have hdr:(c::t).drop i=(c::t)[i]'(by simpa using hlt)::(c::t).drop (i+1):=List.drop_eq_getElem_cons (by simpa using hlt)
      generalize (c::t)[i]'(by simpa using hlt)=b at hc hdr
      have hb:=Yan b
      simp [hl,g0,g1,g6,g5,hc,hlt']
      refine (Vas _ _ _).use ?_
      rw [w64 (by omega) (by omega)]
      have h10:10^i≤10^6:=Nat.pow_le_pow_right (by decide) (by omega)
      have h10s:10^(i+1)=10^i*10:=Nat.pow_succ ..
      rw [hdr] at hd
      by_cases hdig:48≤b.toNat∧b.toNat≤57
      ·have e1:¬ (b.toNat:Int)<48:=by omega
       have e2:¬ (57:Int)<(b.toNat:Int):=by omega
       simp [hl,g0,g1,g6,g5,hc,e1,e2]
       rw [w64 (n:=10*(n:Int)) (by omega) (by omega),w64 (n:=10*(n:Int)+b.toNat) (by omega) (by omega),w64 (by omega) (by omega),w64 (by omega) (by omega)]
       refine ⟨⟨i+1,by simp,10*n+(b.toNat - 48),by omega,by omega,by omega,?_⟩,by omega⟩
       rw [← hd]
       simp only [Oyez.valueN,(Wa3 b).2 hdig,if_true]
      ·have hbad:(decide ((b.toNat:Int)<48)||decide ((57:Int)<(b.toNat:Int)))=true:=by
        simp;omega
       rw [hbad]
       rw [Oyez.valueN,Zcb b hdig] at hd
       simp only [Bool.false_eq_true,if_false] at hd
       simp [hl,g0,g1,g6,g5,hc,← hd]
     ·have hge':¬ (i:Int)<(t.length:Int)+1:=by omega
      rw [List.drop_eq_nil_of_le (by simpa using hge),Oyez.valueN] at hd
      by_cases hm:most<n
      ·have hm':(most:Int)<n:=by omega
       simp [hl,g0,g1,g6,g5,hge',← hd,hm,hm']
      ·have hm':¬ (most:Int)<n:=by omega
       simp [hl,g0,g1,g6,g5,hge',← hd,hm,hm']
end Ab
namespace Ab
open Go Go.Proofs
attribute [local irreducible] aws awp aw1 Og Om Oc Oa Ogd Ov Ot awd Ub Zc Wc QFn Zd ACode ACalls AYield
theorem mixed:Tryz.prog.follows .mixedOrders=true:=by kernel_rfl
theorem Uai (k n k' n':Int):APure Tryz.prog 86 [.int .i64 k,.int .i64 n,.int .i64 k',.int .i64 n'] (.bool ((⟨k',n'⟩:Oyez.Place).lt ⟨k,n⟩)):=by
 intro σ
 refine Ua Tryz.func86 rfl (Wa Tryz.func86 (by decide) rfl) ?_
 by_cases h:k'<k
 ·simp [Tryz.ntmps86,h,Oyez.Place.lt]
 ·by_cases h2:k=k'
  ·simp [Tryz.ntmps86,h,h2,Oyez.Place.lt]
  ·have h3:¬ k'=k:=fun e=>h2 e.symm
   simp [Tryz.ntmps86,h,h2,h3,Oyez.Place.lt]
theorem Xb7 (k:Int) (h0:0≤k):APure Tryz.prog 177 [.int .i64 k] (.str (Oyez.name k)):=by
 intro σ
 refine Ua Tryz.func177 rfl (Wa Tryz.func177 (by decide) rfl) ?_
 by_cases e0:k=0
 ·subst e0;simp [Tryz.ntmps177];rfl
 ·by_cases e1:k=1
  ·subst e1;simp [Tryz.ntmps177];rfl
  ·by_cases e2:k=2
   ·subst e2;simp [Tryz.ntmps177];rfl
   ·by_cases e3:k=3
    ·subst e3;simp [Tryz.ntmps177];rfl
    ·simp [Tryz.ntmps177,e0,e1,e2,e3]
     obtain ⟨m,rfl⟩:∃ m:Nat,k=(m:Int)+4:=⟨(k - 4).toNat,by omega⟩
     unfold Oyez.name
     rw [show ((m:Int)+4).toNat=m+4 by omega]
     rfl
theorem Ucm (w:List UInt8) (hw:w.length<2^50):APure Tryz.prog 157 [.str w] (.bool (Oyez.word w)):=by
 intro σ
 refine Ua Tryz.func157 rfl (Wa Tryz.func157 (by decide) rfl) ?_
 simp [Tryz.ntmps157]
 refine Yc (fun env σ'=>∃ (u:List AV) (i:Nat),env={ t:=u }∧u.length=26∧tg u 0=.str w∧tg u 3=.int .i64 i∧σ'=σ∧i≤w.length∧(w.take i).all Oyez.isWordByte=true)
  (fun env _=>match tg env.t 3 with | .int _ i=>w.length - i.toNat | _=>0) ⟨_,0,rfl,by simp,by simp,by simp,rfl,by omega,rfl⟩ ?_
 rintro env σ' ⟨u,i,rfl,hl,g0,g3,rfl,hi,hd⟩
 rcases Qzn i w.length with hlt | hge
 ·have hc:w[i]? = some w[i]:=Qze hlt
  have htake:w.take (i+1)=w.take i++[w[i]]:=by rw [List.take_add_one,hc];rfl
  have hb:=Yan w[i]
  have hlow:Oyez.isLow w[i]=true↔97≤w[i].toNat∧w[i].toNat≤122:=by simp [Oyez.isLow,UInt8.le_iff_toNat_le]
  have hdig:=Wa3 w[i]
  generalize w[i]=b at *
  have hlt':(i:Int)<(w.length:Int):=by omega
  simp [hl,g0,g3,hc,hlt']
  refine (Vas _ _ _).use ?_
  rw [w64 (n:=(b.toNat:Int)) (by omega) (by omega)]
  by_cases h1:97≤b.toNat∧b.toNat≤122
  ·have e1:¬ (b.toNat:Int)<97:=by omega
   have e2:¬ (122:Int)<(b.toNat:Int):=by omega
   simp [hl,g0,g3,hc,e1,e2]
   rw [w64 (by omega) (by omega)]
   refine ⟨⟨i+1,by simp,hlt,?_⟩,by omega⟩
   rw [htake]
   intro x hx
   rcases List.mem_append.1 hx with h | h
   ·exact List.all_eq_true.1 hd x h
   ·simp at h;subst h;simp [Oyez.isWordByte,hlow.2 h1]
  ·have hbad:(decide ((b.toNat:Int)<97)||decide ((122:Int)<(b.toNat:Int)))=true:=by
    simp;omega
   rw [hbad]
   simp [hl,g0,g3,hc]
   refine (Vas _ _ _).use ?_
   rw [w64 (n:=(b.toNat:Int)) (by omega) (by omega)]
   have hl2:Oyez.isLow b=false:=by rw [Bool.eq_false_iff];intro e;exact h1 (hlow.1 e)
   by_cases h2:48≤b.toNat∧b.toNat≤57
   ·have e1:¬ (b.toNat:Int)<48:=by omega
    have e2:¬ (57:Int)<(b.toNat:Int):=by omega
    simp [hl,g0,g3,hc,e1,e2]
    rw [w64 (by omega) (by omega)]
    refine ⟨⟨i+1,by simp,hlt,?_⟩,by omega⟩
    rw [htake]
    intro x hx
    rcases List.mem_append.1 hx with h | h
    ·exact List.all_eq_true.1 hd x h
    ·simp at h;subst h;simp [Oyez.isWordByte,hdig.2 h2]
   ·have hbad:(decide ((b.toNat:Int)<48)||decide ((57:Int)<(b.toNat:Int)))=true:=by
     simp;omega
    rw [hbad]
    have hd2:Oyez.isDig b=false:=Zcb b h2
    simp [hl,g0,g3,hc]
    have hm:b∈w:=Qzg hc
    have:w.all Oyez.isWordByte=false:=by
     rw [Bool.eq_false_iff];intro e
     have:=List.all_eq_true.1 e b hm
     simp [Oyez.isWordByte,hl2,hd2] at this
    simp [Oyez.word,this]
 ·have hge':¬ i<w.length:=Nat.not_lt.2 hge
  simp [hl,g0,g3,hge']
  refine (Vas _ _ _).use ?_
  rw [List.take_of_length_le hge] at hd
  simp [hl,g0,g3,Oyez.word,hd]
  rw [Bool.eq_iff_iff]
  simp
  omega
def strs (ws:List (List UInt8)):List AV:=ws.map AV.str
def Zb (ws:List (List UInt8)):AV:=.pl 1 (strs ws)
def Yh (ws:List (List UInt8)):Nat:=(ws.map fun w=>w.length+1).sum
theorem Va8 (ws:List (List UInt8)):(ws.flatMap fun w=>(32:UInt8)::w).length=Yh ws:=by
 induction ws with
 | nil=>rfl
 | cons w t ih=>simp [Yh] at *;omega
theorem Ucz (ws:List (List UInt8)) (i:Nat):Yh (ws.take i)≤Yh ws:=by
 induction ws generalizing i with
 | nil=>simp
 | cons w t ih =>
  cases i with
  | zero=>simp [Yh]
  | succ i=>have:=ih i;simp [Yh] at *;omega
theorem Xbc {ws:List (List UInt8)} {w:List UInt8} (h:w∈ws):w.length+1≤Yh ws:=by
 induction ws with
 | nil=>simp at h
 | cons x t ih =>
  rcases List.mem_cons.1 h with rfl | h
  ·simp [Yh]
  ·have:=ih h;simp [Yh] at *;omega
theorem Vb2 (k:Int):(Oyez.name k).length≤6:=by
 unfold Oyez.name
 generalize k.toNat=n
 match n with
 | 0=>decide
 | 1=>decide
 | 2=>decide
 | 3=>decide
 | _+4=>exact (by decide:([112,108,101,97]:List UInt8).length≤6)
set_option maxRecDepth 4000 in
theorem Xch (k n:Int) (ws:List (List UInt8)) (hk:0≤k) (hn:0≤n) (hn2:n≤2^20) (hw:Yh ws≤2^50) (hwl:ws.length≤2^50):APure Tryz.prog 129 [.int .i64 k,.int .i64 n,Zb ws] (.str (Oyez.line k n ws)):=by
 intro σ
 refine Ua Tryz.func129 rfl (Wa Tryz.func129 (by decide) rfl) ?_
 obtain ⟨m,rfl⟩:∃ m:Nat,n=m:=⟨n.toNat,by omega⟩
 have hnl:=Vb2 k
 have hdl:=Zag m
 have hm:m≤2^20:=by omega
 simp [Tryz.ntmps129]
 refine (Xb7 k hk).use ?_
 have e1:(Oyez.name k).length+1≤9223372036854775807:=by omega
 simp [e1]
 refine (Zbs m (by omega)).use ?_
 have e2:(Oyez.name k).length+(1+(Oyez.digitsN m).length)≤9223372036854775807:=by omega
 have e2':(Oyez.name k).length+1+(Oyez.digitsN m).length≤9223372036854775807:=by omega
 simp [e2,e2']
 refine Yc (fun env σ'=>∃ (u:List AV) (i:Nat),env={ t:=u }∧u.length=29∧tg u 2=Zb ws∧tg u 8=.int .i64 i∧tg u 7=.str (Oyez.name k++[32]++Oyez.digitsN m++(ws.take i).flatMap (fun w=>32::w))∧σ'=σ∧i≤ws.length)
  (fun env _=>match tg env.t 8 with | .int _ i=>ws.length - i.toNat | _=>0) ⟨_,0,rfl,by simp,by simp,by simp,by simp,rfl,by omega⟩ ?_
 rintro env σ' ⟨u,i,rfl,hl,g2,g8,g7,rfl,hi⟩
 generalize hX:Oyez.name k++[32]++Oyez.digitsN m++(ws.take i).flatMap (fun w=>32::w)=X at g7
 have hXl:X.length≤2^52:=by
  rw [← hX,List.length_append,Va8]
  have:=Ucz ws i
  simp
  omega
 rcases Qzn i ws.length with hlt | hge
 ·have hlt':(i:Int)<(ws.length:Int):=by omega
  have hc:ws[i]? = some ws[i]:=Qze hlt
  have htake:ws.take (i+1)=ws.take i++[ws[i]]:=by rw [List.take_add_one,hc];rfl
  have hwi:=Xbc (List.getElem_mem hlt)
  have e3:X.length+(1+ws[i].length)≤9223372036854775807:=by omega
  have e4:X.length+1≤9223372036854775807:=by omega
  have e5:X.length+1+ws[i].length≤9223372036854775807:=by omega
  simp [hl,g2,g8,g7,Zb,strs,hlt',hlt,e3,e4,e5]
  rw [w64 (by omega) (by omega)]
  refine ⟨⟨i+1,by simp,?_,hlt⟩,by omega⟩
  rw [← hX]
  simp
  rw [htake,List.flatMap_append]
  simp only [List.flatMap_cons,List.flatMap_nil,List.append_nil]
 ·have hge':¬ (i:Int)<(ws.length:Int):=by omega
  simp [hl,g2,g8,g7,Zb,strs,hge']
  rw [List.take_of_length_le hge] at hX
  rw [← hX]
  simp [Oyez.line,Oyez.digits]
end Ab
namespace Ab
open Go Go.Proofs
attribute [local irreducible] aws awp aw1 Og Om Oc Oa Ogd Ov Ot awd Ub Zc Wc QFn Zd ACode ACalls AYield
def Yd (r:Oyez.Rec):AV:=.agg [.int .i64 r.kind,.int .i64 r.number,Zb r.words]
def Xa (f:List Oyez.Rec):AV:=.pl 3 (f.map Yd)
attribute [simp] Zb strs Yd Xa
def Xh (w:List UInt8):Int:=match Oyez.kindOf w with | some k=>k | none=>-1
theorem Udw (w:List UInt8):APure Tryz.prog 156 [.str w] (.int .i64 (Xh w)):=by
 intro σ
 refine Ua Tryz.func156 rfl (Wa Tryz.func156 (by decide) rfl) ?_
 simp [Tryz.ntmps156]
 refine Yc (fun env σ'=>∃ (u:List AV) (i:Nat),env={ t:=u }∧u.length=13∧tg u 0=.str w∧tg u 3=.int .i64 i∧σ'=σ∧i≤5∧∀ j,j<i→Oyez.nameN j≠w)
  (fun env _=>match tg env.t 3 with | .int _ i=>5 - i.toNat | _=>0) ⟨_,0,rfl,by simp,by simp,by simp,rfl,by omega,fun j h=>by omega⟩ ?_
 rintro env σ' ⟨u,i,rfl,hl,g0,g3,rfl,hi,hd⟩
 have hkn:Oyez.name (i:Int)=Oyez.nameN i:=by simp [Oyez.name]
 rcases Qzn i 5 with hlt | hge
 ·have hlt':(i:Int)<5:=by omega
  simp [hl,g0,g3,hlt']
  refine (Xb7 i (by omega)).use ?_
  rw [hkn]
  by_cases h:Oyez.nameN i=w
  ·have hk:Xh w=i:=by
    subst h
    unfold Xh
    match i,hlt with
    | 0,_=>decide
    | 1,_=>decide
    | 2,_=>decide
    | 3,_=>decide
    | 4,_=>decide
   simp [hl,g0,g3,h,hk]
  ·simp [hl,g0,g3,h]
   rw [w64 (by omega) (by omega)]
   refine ⟨⟨i+1,by simp,by omega,fun j hj=>?_⟩,by omega⟩
   rcases Qzn j i with h2 | h2
   ·exact hd j h2
   ·obtain rfl:j=i:=by omega
    exact h
 ·obtain rfl:i=5:=by omega
  have hk:Xh w=-1:=by
   unfold Xh Oyez.kindOf
   rw [if_neg (fun e=>hd 0 (by omega) e.symm),if_neg (fun e=>hd 1 (by omega) e.symm),if_neg (fun e=>hd 2 (by omega) e.symm),if_neg (fun e=>hd 3 (by omega) e.symm),if_neg (fun e=>hd 4 (by omega) e.symm)]
  simp [hl,g0,g3,hk]
theorem Ucn (k n:Int):APure Tryz.prog 106 [.int .i64 k,.int .i64 n] (.int .i64 (Oyez.placeErr k n)):=by
 intro σ
 refine Ua Tryz.func106 rfl (Wa Tryz.func106 (by decide) rfl) ?_
 simp [Tryz.ntmps106]
 refine (Vas _ _ _).use ?_
 unfold Oyez.placeErr
 by_cases h:k<0∨4<k
 ·have:(decide (k<0)||decide (4<k))=true:=by simpa using h
  rw [this]
  simp [h]
 ·have:(decide (k<0)||decide (4<k))=false:=by rw [Bool.eq_false_iff];simpa using h
  rw [this]
  simp
  refine (Vas _ _ _).use ?_
  by_cases h2:n<0∨999<n
  ·have:(decide (n<0)||decide (999<n))=true:=by simpa using h2
   rw [this]
   simp [h,h2]
  ·have:(decide (n<0)||decide (999<n))=false:=by rw [Bool.eq_false_iff];simpa using h2
   rw [this]
   simp [h,h2]
set_option maxRecDepth 4000 in
theorem Vbf (k n:Int) (ws:List (List UInt8)) (hk:0≤k) (hn:0≤n) (hn2:n≤2^20) (hw:Yh ws≤2^49) (hwl:ws.length≤2^49):APure Tryz.prog 107 [.int .i64 k,.int .i64 n,Zb ws] (.int .i64 (Oyez.wordsErr k n ws)):=by
 intro σ
 refine Ua Tryz.func107 rfl (Wa Tryz.func107 (by decide) rfl) ?_
 by_cases h6:6<ws.length
 ·have h6':(6:Int)<(ws.length:Int):=by omega
  have hE:Oyez.wordsErr k n ws=2:=by unfold Oyez.wordsErr;rw [if_pos h6]
  simp [Tryz.ntmps107,Zb,strs,h6',hE]
 ·have h6':¬ (6:Int)<(ws.length:Int):=by omega
  simp [Tryz.ntmps107,Zb,strs,h6']
  refine Yc (fun env σ'=>∃ (u:List AV) (i:Nat),env={ t:=u }∧u.length=29∧tg u 0=.int .i64 k∧tg u 1=.int .i64 n∧tg u 2=Zb ws∧tg u 7=.int .i64 i∧σ'=σ∧i≤ws.length∧∀ x,x∈ws.take i→Oyez.word x=true)
   (fun env _=>match tg env.t 7 with | .int _ i=>ws.length - i.toNat | _=>0) ⟨_,0,rfl,by simp,by simp,by simp,by simp [Zb,strs],by simp,rfl,by omega,fun x hx=>by simp at hx⟩ ?_
  rintro env σ' ⟨u,i,rfl,hl,g0,g1,g2,g7,rfl,hi,hd⟩
  rcases Qzn i ws.length with hlt | hge
  ·have hlt':(i:Int)<(ws.length:Int):=by omega
   have hc:ws[i]? = some ws[i]:=Qze hlt
   have htake:ws.take (i+1)=ws.take i++[ws[i]]:=by rw [List.take_add_one,hc];rfl
   have hwi:=Xbc (List.getElem_mem hlt)
   simp [hl,g0,g1,g2,g7,Zb,strs,hlt',hlt]
   refine (Ucm ws[i] (by omega)).use ?_
   cases hx:Oyez.word ws[i] with
   | true =>
    simp [hl,g0,g1,g2,g7,Zb,strs]
    rw [w64 (by omega) (by omega)]
    refine ⟨⟨i+1,by simp,hlt,?_⟩,by omega⟩
    rw [htake]
    intro x hx'
    rcases List.mem_append.1 hx' with h | h
    ·exact hd x h
    ·simp at h;subst h;exact hx
   | false =>
    have hE:Oyez.wordsErr k n ws=11:=by
     have:ws.all Oyez.word=false:=by
      rw [Bool.eq_false_iff];intro e
      rw [List.all_eq_true.1 e _ (List.getElem_mem hlt)] at hx
      cases hx
     unfold Oyez.wordsErr
     rw [if_neg h6,if_pos this]
    simp [hl,g0,g1,g2,g7,hE]
  ·have hge':¬ (i:Int)<(ws.length:Int):=by omega
   rw [List.take_of_length_le hge] at hd
   have hall:ws.all Oyez.word=true:=List.all_eq_true.2 hd
   simp [hl,g0,g1,g2,g7,Zb,strs,hge']
   have:=Xch k n ws hk hn hn2 (by omega) (by omega)
   simp only [Zb,strs] at this
   refine this.use ?_
   by_cases h64:64<(Oyez.line k n ws).length
   ·have h64':(64:Int)<((Oyez.line k n ws).length:Int):=by omega
    have hE:Oyez.wordsErr k n ws=10:=by unfold Oyez.wordsErr;rw [if_neg h6,hall,if_neg (by simp),if_pos h64]
    simp [hl,g0,g1,g2,g7,h64',hE]
   ·have h64':¬ (64:Int)<((Oyez.line k n ws).length:Int):=by omega
    have hE:Oyez.wordsErr k n ws=0:=by unfold Oyez.wordsErr;rw [if_neg h6,hall,if_neg (by simp),if_neg h64]
    simp [hl,g0,g1,g2,g7,h64',hE]
theorem Xbd (r:Oyez.Rec) (hw:Yh r.words≤2^49) (hwl:r.words.length≤2^49):APure Tryz.prog 61 [Yd r] (.int .i64 (Oyez.recErr r)):=by
 refine APure.of fun σ=>?_
 refine Ua Tryz.func61 rfl (Wa Tryz.func61 (by decide) rfl) ?_
 simp [Tryz.ntmps61,Yd]
 refine (Ucn _ _).use ?_
 unfold Oyez.recErr Oyez.oneErr
 by_cases h:Oyez.placeErr r.kind r.number=0
 ·simp [h]
  have hp:=h
  unfold Oyez.placeErr at hp
  have hp1:¬ (r.kind<0∨4<r.kind):=fun e=>by rw [if_pos e] at hp;cases hp
  rw [if_neg hp1] at hp
  have hp2:¬ (r.number<0∨999<r.number):=fun e=>by rw [if_pos e] at hp;cases hp
  refine (Vbf _ _ _ (by omega) (by omega) (by omega) hw hwl).use ?_
  simp [h]
 ·simp [h]
theorem Zao (s:List UInt8):Oyez.words s≠[]:=by
 unfold Oyez.words
 cases s with
 | nil=>simp [Oyez.splitAt]
 | cons b t =>
  unfold Oyez.splitAt
  split
  ·simp
  ·split<;>simp
def Yu (w:List UInt8):List (List UInt8)→List (List UInt8)
 | []=>[w]
 | x::r=>(w++x)::r
theorem Xa7 (t:List UInt8):Oyez.words (32::t)=[]::Oyez.words t:=by simp [Oyez.words,Oyez.splitAt]
theorem Va1 (b:UInt8) (t:List UInt8) (h:b≠32):Oyez.words (b::t)=Yu [b] (Oyez.words t):=by
 unfold Oyez.words
 rw [Oyez.splitAt,if_neg h]
 cases hx:Oyez.splitAt 32 t with
 | nil=>rfl
 | cons w r=>rfl
theorem Wem (w x:List UInt8) (r:List (List UInt8)):Yu w (Yu x r)=Yu (w++x) r:=by cases r<;>simp [Yu]
theorem We4 {l:List (List UInt8)} (h:l≠[]):Yu [] l=l:=by
 cases l with
 | nil=>exact absurd rfl h
 | cons x r=>rfl
theorem Zcr (ws:List (List UInt8)):(strs ws).length=ws.length:=by simp [strs]
theorem Wcf (s:List UInt8):(Oyez.words s).length≤s.length+1:=by
 induction s with
 | nil=>simp [Oyez.words,Oyez.splitAt]
 | cons b t ih =>
  by_cases h:b=32
  ·subst h;rw [Xa7];simp;omega
  ·rw [Va1 b t h]
   revert ih
   cases Oyez.words t<;>simp [Yu]<;>omega
set_option maxRecDepth 4000 in
theorem Wce (s:List UInt8) (hs:s.length≤2^20):APure Tryz.prog 93 [.str s] (Zb (Oyez.words s)):=by
 refine APure.of fun σ=>?_
 refine Ua Tryz.func93 rfl (Wa Tryz.func93 (by decide) rfl) ?_
 simp [Tryz.ntmps93]
 refine Yc (fun env σ'=>∃ (u:List AV) (i:Nat) (v:AV) (ws:List (List UInt8)) (w:List UInt8) (g:Za) (o:Option Nat),env={ t:=u }∧u.length=31∧tg u 0=.str s∧tg u 5=.int .i64 i∧tg u 3=v∧tg u 4=.str w∧σ'=σ++g∧Acc σ g 1 v (strs ws) o∧i≤s.length∧w.length≤i∧ws.length≤i∧ws++Yu w (Oyez.words (s.drop i))=Oyez.words s)
  (fun env _=>match tg env.t 5 with | .int _ i=>s.length - i.toNat | _=>0) ⟨_,0,.nils,[],[],[],none,rfl,by simp,by simp,by simp,by simp,by simp,by simp,Acc.nil _ _ _,by omega,by simp,by simp,?_⟩ ?_
 ·have h:=Zao s
  cases hx:Oyez.words s with
  | nil=>exact absurd hx h
  | cons x r=>simp [hx,Yu]
 rintro env σ' ⟨u,i,v,ws,w,g,o,rfl,hl,g0,g5,g3,g4,rfl,hA,hi,hwl,hwsl,hd⟩
 rcases Qzn i s.length with hlt | hge
 ·have hlt':(i:Int)<(s.length:Int):=by omega
  have hdr:s.drop i=s[i]::s.drop (i+1):=List.drop_eq_getElem_cons hlt
  by_cases hb:s[i]=32
  ·have hb':((s[i].toNat:Nat):Int)=32:=by rw [hb];rfl
   obtain ⟨v',g',o',he,hA',_⟩:=hA.push (P:=Tryz.prog) (t:=55) (e:=9) (ag:=false) (x:=.str w) (by simp) (by simp) (by simp) (by omega) ⟨by simp [AV.cells],by simp [AV.cells,AV.one]⟩ (by simp;omega)
   simp [-Ya] at he
   simp [-Ya,hl,g0,g5,g3,g4,hlt',hlt,hb',he]
   rw [w64 (by omega) (by omega)]
   refine ⟨⟨i+1,by simp,ws++[w],⟨o',by simpa using hA'⟩,hlt,by simp;omega,?_⟩,by omega⟩
   rw [← hd,hdr,hb,Xa7,We4 (Zao _)]
   simp [Yu]
  ·have hb':¬ ((s[i].toNat:Nat):Int)=32:=fun e=>hb ((Wal _ 32 (by decide)).1 (by omega))
   have hx:=w64 (n:=(i:Int)+1) (by omega) (by omega)
   have e0:(0:Int)≤(i:Int)+1:=by omega
   have e1:i+1≤s.length:=hlt
   have e2:w.length+1≤9223372036854775807:=by omega
   have e3:List.drop i (List.take (i+1) s)=[s[i]]:=by
    rw [List.take_add_one,Qze hlt,List.drop_append_of_le_length (by rw [List.length_take];omega),List.drop_eq_nil_of_le (by rw [List.length_take];omega)]
    rfl
   simp [-Ya,hl,g0,g5,g3,g4,hlt',hlt,hb',hx,e0,e1,e2,e3]
   refine ⟨⟨i+1,by simp,ws,⟨o,hA⟩,hlt,by omega,by omega,?_⟩,by omega⟩
   rw [← hd,hdr,Va1 _ _ hb,Wem]
 ·have hge':¬ (i:Int)<(s.length:Int):=by omega
  obtain ⟨v',g',o',he,hA',_⟩:=hA.push (P:=Tryz.prog) (t:=55) (e:=9) (ag:=false) (x:=.str w) (by simp) (by simp) (by simp) (by omega) ⟨by simp [AV.cells],by simp [AV.cells,AV.one]⟩ (by simp;omega)
  simp [-Ya] at he
  simp [-Ya,hl,g0,g5,g3,g4,hge',he]
  rw [List.drop_eq_nil_of_le hge] at hd
  rw [← hd]
  have hz:=hA'.fz (fun x hx y hy=>by
   simp [strs] at hx
   rcases hx with ⟨a,_,rfl⟩ | rfl<;>(simp [AV.cells] at hy;subst hy;exact .str _))
  simpa [Oyez.words,Oyez.splitAt,Yu] using hz
end Ab
namespace Ab
open Go Go.RowKit
variable [Mode]
variable {P:Program}
theorem Inv.retell {C:Ctx} {σ:Za} (hI:Inv C σ) {r b:Nat} {o o':AObj} (hb:C.blk[r]? = some b) (ho:σ[r]? = some o) (hl:o.live=true) (hR:∀ c,C.w.heap[b]? = some c→ORel C o c→ORel C o' c):Inv C (σ.set r o'):=by
 have hrl:=(Qzs.1 ho).1
 have old:∀ (q:Nat) (p:AObj),(σ.set r o')[q]? = some p→p.live=true→∃ p',σ[q]? = some p'∧p'.live=true:=by
  intro q p hq hp
  by_cases e:r=q
  ·subst e;exact ⟨o,ho,hl⟩
  ·rw [List.getElem?_set_ne e] at hq;exact ⟨p,hq,hp⟩
 refine ⟨by rw [List.length_set];exact hI.len,hI.glob,hI.base,hI.basep,hI.plt,fun q b' p hq hp hpl=>?_,fun q q' b' p p' hq hq' hp hp' hpl hpl'=>?_⟩
 ·by_cases e:r=q
  ·subst e
   rw [List.getElem?_set_self hrl] at hp
   obtain rfl:=Option.some.inj hp
   rw [hb] at hq
   obtain rfl:=Option.some.inj hq
   obtain ⟨h1,c,h2,h3⟩:=hI.live r b o hb ho hl
   exact ⟨h1,c,h2,hR c h2 h3⟩
  ·rw [List.getElem?_set_ne e] at hp
   exact hI.live q b' p hq hp hpl
 ·obtain ⟨x,hx,hxl⟩:=old q p hp hpl
  obtain ⟨x',hx',hxl'⟩:=old q' p' hp' hpl'
  exact hI.inj q q' b' x x' hq hq' hx hx' hxl hxl'
theorem ACalls.room {f:FuncId} {k r off len:Nat} {rest:List AV} {σ:Za} {cs:List AV} {R:AV→Za→Prop} (hen:Enters P f) (hr:σ[r]? = some (.cells cs)) (hcl:cs.length=(off+len)*k)
  (h:∀ cap,len≤cap→ACalls P f (.arc k r off len cap::rest) (σ.set r (.cells (cs++List.replicate ((cap - len)*k) .any))) fun v σ'=>∃ v' cs' tl,
   (v=v'∨∃ k2 r2 o2 l2 c2,v=.arc k2 r2 o2 l2 c2∧v'=.arr k2 r2 o2 l2)∧σ'[r]? = some (.cells (cs'++tl))∧R v' (σ'.set r (.cells cs'))):ACalls P f (.arr k r off len::rest) σ R:=by
 have hrl:=(Qzs.1 hr).1
 refine .inl ⟨hen,fun C cargs hI hv=>?_⟩
 obtain ⟨c,cs',rfl,hx,hrest⟩:=hv.inv
 obtain ⟨b,cap,e,n,hb,hcap,hsh,hbd,rfl⟩:=hx.arr_inv
 obtain ⟨hnp,carr,e',lo,hi,hc,hsz,hfr,hrel⟩:=hI.cells hb hr
 have hn:carr.size=n:=by
  simp [World.shape?,hc] at hsh
  exact hsh.2
 have hI2:Inv C (σ.set r (.cells (cs++List.replicate ((cap - len)*k) .any))):=hI.retell hb hr rfl fun c hc' _=>by
  rw [hc] at hc'
  obtain rfl:=Option.some.inj hc'
  refine .cells _ carr e' lo hi ?_ hfr fun i x d hx hd=>?_
  ·rw [List.length_append,List.length_replicate,hcl,hn,← Nat.add_mul,show off+len+(cap - len)=off+cap by omega]
   exact hbd.1
  ·rcases Qzn i cs.length with h1 | h1
   ·rw [Qzl h1] at hx
    exact hrel i x d hx hd
   ·rw [Qzr h1] at hx
    have:=Qzg hx
    rw [List.mem_replicate] at this
    rw [this.2]
    exact .any d
 have hv2:VRs C (.arc k r off len cap::rest) (.slice (some ⟨b,off*k,none⟩) len cap::cs'):=.cons (.arc k r off len b cap e n hb hcap hsh hbd) hrest
 have fin:∀ {C':Ctx} {v:AV} {d:Value} {σ':Za},Ext C C'→Inv C' σ'→VR C' v d→(∃ v' cs' tl,(v=v'∨∃ k2 r2 o2 l2 c2,v=.arc k2 r2 o2 l2 c2∧v'=.arr k2 r2 o2 l2)∧σ'[r]? = some (.cells (cs'++tl))∧R v' (σ'.set r (.cells cs'))) →
   ∃ (v':AV) (σ2:Za),Inv C' σ2∧VR C' v' d∧R v' σ2:=by
  rintro C' v d σ' hE hI' hv' ⟨v',ds,tl,hvv,hr',hR⟩
  refine ⟨v',_,hI'.retell (hE.blk_at hb) hr' rfl fun c hc' hrel=>?_,?_,hR⟩
  ·obtain ⟨carr,e,lo,hi,rfl,h1,h2,h3⟩:=hrel.cells_inv
   refine .cells ds carr e lo hi (by rw [List.length_append] at h1;omega) h2 fun i x d hx hd=>h3 i x d ?_ hd
   rw [Qzl (Qzs.1 hx).1]
   exact hx
  ·rcases hvv with rfl | ⟨k2,r2,o2,l2,c2,rfl,rfl⟩
   ·exact hv'
   ·obtain ⟨b2,e2,n2,q1,q2,q3,q4,rfl⟩:=hv'.arc_inv
    exact .arr k2 r2 o2 l2 b2 c2 e2 n2 q1 q2 q3 q4
 rcases h cap hcap with h | h
 ·refine (h.2 C _ hI2 hv2).mono ?_
  rintro en w' ⟨d,C',av,σ',rfl,rfl,hE,hI',hv',hR⟩
  obtain ⟨v',σ2,a1,a2,a3⟩:=fin hE hI' hv' hR
  exact ⟨d,C',v',σ2,rfl,rfl,hE,a1,a2,a3⟩
 ·obtain ⟨d,C',av,σ',hrun,_⟩:=h C _ hI2 hv2
  rw [hen] at hrun
  cases hrun
end Ab
namespace Ab
open Go Go.RowKit Go.Proofs
attribute [local irreducible] aws awp aw1 Og Om Oc Oa Ogd Ov Ot awd Ub awh Xc Ogh Ohd awl Ogl Ohl awv Ogv Ohv Zc Wc QFn Zd QRo QBe ACode AYield
theorem Fr.tail {n e lo hi k:Nat} (h:Fr n e lo hi) (hk:Kt k e) (h1:k≠1):¬ (lo≤n∧n<hi):=by
 rcases hk with hk | hk
 ·exact absurd hk h1
 ·exact h.2.resolve_left hk
set_option maxRecDepth 4000 in
theorem Xd4 {r r2 off len off2 len2 cap2:Nat} {cs ds:List AV} (σ:Za) (hne:r≠r2) (hr:σ[r]? = some (.cells cs)) (hr2:σ[r2]? = some (.cells ds)) (hl:off*3<cs.length) (hl2:0<ds.length) :
  ACalls Tryz.prog 173 [.arr 3 r off len,.arc 3 r2 off2 len2 cap2] σ fun v σ'=>v=.bool false∧σ'=σ:=by
 refine .inr fun C cargs hI hv=>?_
 obtain ⟨c,cs',rfl,hx,hrest⟩:=hv.inv
 obtain ⟨d,cs'',rfl,hy,hrest⟩:=hrest.inv
 obtain rfl:=hrest.of_nil
 obtain ⟨b,cap,e,n,hb,hcap,hsh,hbd,rfl⟩:=hx.arr_inv
 obtain ⟨b2,e2,n2,hb2,hcap2,hsh2,hbd2,rfl⟩:=hy.arc_inv
 obtain ⟨_,carr,e',lo,hi,hc,hsz,hfr,_⟩:=hI.cells hb hr
 obtain ⟨_,carr2,e2',lo2,hi2,hc2,hsz2,hfr2,_⟩:=hI.cells hb2 hr2
 have hbb:b≠b2:=fun h=>hne (hI.inj r r2 b _ _ hb (h▸hb2) hr hr2 rfl rfl)
 have he:e'=e∧carr.size=n:=by simpa [World.shape?,hc] using hsh
 have he2:e2'=e2∧carr2.size=n2:=by simpa [World.shape?,hc2] using hsh2
 refine ⟨.bool false,C,.bool false,σ,?_,Ext.refl C,hI,.bool _,rfl,rfl⟩
 have hrun:=Lib.run_overlaps_apart (P:=Tryz.prog) C.w 23 4 59 (by kernel_rfl) 3 (fun w=>Vr w (b:=true) (by kernel_rfl)) ⟨b,off*3,none⟩ ⟨b2,off2*3,none⟩ len cap len2 cap2 hbb e e2 n n2 hsh hsh2 (by omega)
  (by simp only [World.frozen?,hc];simpa using hfr.1 (off*3) (by omega))
  (by simp only [World.frozen?,hc];rw [← he.2];rw [he.1] at hfr;simpa using hfr.tail hbd.2 (by decide))
 rw [run_callFunc_extern (P:=Tryz.prog) Tryz.func173 (by kernel_rfl) (by kernel_rfl) (by kernel_rfl) (e:=Extern.SlicesOverlaps.overlaps #[23,23] #[4]) (by kernel_rfl),hrun]
 rfl
def Ww (cs ds:List AV) (i:Nat):List AV:=cs.take (i*3)++ds++cs.drop (i*3)
theorem Ybg {N off len m:Nat} {y:AV} {σ:Za} {A news:List AV} (hN:σ[N]? = some (.cells A)) (hy:Xi 3 y σ=some (news,m)) (hm:m≤len) (hA:(off+m)*3≤A.length) :
  Ul Tryz.prog #[23,23] (.arr 3 N off len) y σ=some (.int .i64 m,σ.set N (.cells (wr A (off*3) news))):=by
 have he:Xg Tryz.prog 23=some 59:=by simp
 have hs:tsa Tryz.prog 59=some (3,true):=by simp
 simp [-Xi,Ul,he,hs,hy,hN,hm,hA]
theorem Ycb {N off len cap:Nat} {y:AV} {σ:Za}:Ul Tryz.prog #[23,23] (.arc 3 N off len cap) y σ=none:=by
 have he:Xg Tryz.prog 23=some 59:=by simp
 have hs:tsa Tryz.prog 59=some (3,true):=by simp
 simp only [Ul,he,hs]
 rw [if_pos (by decide)]
 split<;>rfl
theorem Xbi {k r off len:Nat} {σ:Za} {cs:List AV} (hr:σ[r]? = some (.cells cs)) (hl:(off+len)*k≤cs.length) (ho:∀ x∈sub cs (off*k) (len*k),AV.one x=true) :
  Xi k (.arr k r off len) σ=some (sub cs (off*k) (len*k),len):=by
 have h1:(sub cs (off*k) (len*k)).all AV.one=true:=List.all_eq_true.2 ho
 simp only [Xi,hr]
 rw [if_pos ⟨trivial,hl,h1⟩]
theorem Xeo {k r off len cap:Nat} {σ:Za} {cs:List AV} (hr:σ[r]? = some (.cells cs)) (hl:(off+len)*k≤cs.length) (ho:∀ x∈sub cs (off*k) (len*k),AV.one x=true) :
  Xi k (.arc k r off len cap) σ=some (sub cs (off*k) (len*k),len):=by
 have h1:(sub cs (off*k) (len*k)).all AV.one=true:=List.all_eq_true.2 ho
 simp only [Xi,hr]
 rw [if_pos ⟨trivial,hl,h1⟩]
theorem Vdc (n:Nat):∃ Z,Up Tryz.prog 59 n=some Z∧Z.length=n*3:=by
 have hs:tsa Tryz.prog 59=some (3,true):=by simp
 have hz:tz Tryz.prog 59=some (.agg [.int .i64 0,.int .i64 0,.nils]):=by simp
 unfold Up
 rw [hs,hz]
 exact ⟨_,if_pos (by decide),by simp⟩
theorem Zdm {r n i cap:Nat} {cs tl:List AV} {σ:Za} (hr:σ[r]? = some (.cells (cs++tl))) (hc:cs.length=n*3) (hi:i<n) (hcap:cap<n+1) (hn:n≤2^20) :
  ∃ Z,Z.length=(n+1 - i)*3∧Wy Tryz.prog #[23,3] (.arc 3 r 0 i cap) ((n:Int)+1 - i) σ=some (.arr 3 σ.length 0 (n+1),σ++[.cells (cs.take (i*3)++Z)]):=by
 have he:Xg Tryz.prog 23=some 59:=by simp
 have hs:tsa Tryz.prog 59=some (3,true):=by simp
 have hk:Xp Tryz.prog 3=some .i64:=by simp
 have hz:tzk Tryz.prog 59 3=true:=by simp
 have hb:tby Tryz.prog 59=40:=by simp
 obtain ⟨Z,hZ,hl⟩:=Vdc (n+1 - i)
 refine ⟨Z,hl,?_⟩
 have hm:(((n:Int)+1 - i).toNat)=n+1 - i:=by omega
 simp only [Wy,he,hs,hk,hm,hZ,hr]
 rw [if_pos ⟨hz,trivial,by omega,by omega,by rw [List.length_append,hc];omega,by rw [hb];omega⟩]
 rw [show i+(n+1 - i)=n+1 by omega]
 have:sub (cs++tl) (0*3) (i*3)=cs.take (i*3):=by
  simp [sub,List.take_append,hc]
  omega
 rw [this]
theorem Wdj {n i:Nat} {cs ds Z:List AV} (hc:cs.length=n*3) (hd:ds.length=3) (hZ:Z.length=(n+1 - i)*3) (hi:i<n) :
  wr (wr (cs.take (i*3)++Z) (i*3) ds) ((i+1)*3) (cs.drop (i*3))=Ww cs ds i:=by
 have e1:(cs.take (i*3)).length=i*3:=by rw [List.length_take];omega
 have h1:wr (cs.take (i*3)++Z) (i*3) ds=cs.take (i*3)++ds++Z.drop 3:=by
  unfold wr
  rw [List.take_append_of_le_length (by omega),List.take_of_length_le (by omega),List.drop_append,e1,List.drop_eq_nil_of_le (by omega),hd]
  simp
 rw [h1]
 unfold wr Ww
 have e2:(cs.take (i*3)++ds).length=(i+1)*3:=by rw [List.length_append,e1,hd];omega
 rw [List.take_append_of_le_length (by omega),List.take_of_length_le (by omega)]
 have e3:List.drop ((i+1)*3+(cs.drop (i*3)).length) (cs.take (i*3)++ds++Z.drop 3)=[] :=
  List.drop_eq_nil_of_le (by rw [List.length_append,List.length_drop,List.length_drop,e2,hZ,hc];omega)
 rw [e3,List.append_nil]
end Ab

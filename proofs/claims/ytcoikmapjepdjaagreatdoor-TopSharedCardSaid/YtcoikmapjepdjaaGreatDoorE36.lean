/-
  Texts packed for a claim.
-/
import Derived.Test.YtcoikmapjepdjaaGreatDoorE00
import Derived.Test.YtcoikmapjepdjaaGreatDoorE21
import Derived.Test.YtcoikmapjepdjaaGreatDoorE25
import Derived.Test.YtcoikmapjepdjaaGreatDoorE35
set_option linter.all false
namespace Ab
open Go Go.RowKit Go.Proofs
def Uac (a b:List Nat):Int:=cmpL (Wg a) (Wg b)
theorem Yhq {T g:Za} {v:AV} {l:List Int} {o:Option Nat} (h:Acc T g 1 v (Ya l) o):Ybd (T++g) v l:=by
 have hv:=h.val
 have hil:(Ya l).length=l.length:=by simp [Ya]
 cases o with
 | none=>exact .inl ⟨hv.1,by
   have:=hv.2
   cases l with
   | nil=>rfl
   | cons x l=>simp [Ya] at this⟩
 | some j =>
  refine .inr ⟨T.length+j,by rw [hv.1,hil],?_⟩
  rw [Qzr (by omega),Nat.add_sub_cancel_left,hv.2]
  congr 2
  unfold Ya
  exact Vaf l
def Ul (rs:List (Int × List Int)) (s:Nat):List Nat × Int:=(List.range s).foldl (Vo Uac rs) ([],0)
theorem Zbv (rs:List (Int × List Int)) (s:Nat):Ul rs (s+1)=Vo Uac rs (Ul rs s) s:=by
 unfold Ul
 rw [List.range_succ,List.foldl_append]
 rfl
theorem Xg4 {K s i:Nat} (h:i∈Xm K s):i<K:=(setB_mem.1 h).1
theorem Wdh (K s:Nat):(Xm K s).length≤K:=by
 unfold Xm
 have:=List.length_filter_le (fun i=>s.testBit i) (List.range K)
 simpa using this
def Zz (s k:Nat):List Nat:=(List.range k).filter fun i=>s.testBit i
theorem Zhm (s k:Nat):Zz s (k+1)=Zz s k++if s.testBit k=true then [k] else []:=by
 unfold Zz
 rw [List.range_succ,List.filter_append]
 by_cases h:s.testBit k=true<;>simp [h]
theorem Uf5 {rs:List (Int × List Int)} {acc:List Nat × Int} {s:Nat} (h:acc.1.length≤rs.length):(Vo Uac rs acc s).1.length≤rs.length:=by
 unfold Vo
 split
 ·exact Wdh _ _
 ·exact h
theorem Xb2 (rs:List (Int × List Int)):∀ s,(Ul rs s).1.length≤rs.length
 | 0=>by simp [Ul]
 | s+1=>by rw [Zbv];exact Uf5 (Xb2 rs s)
def GrO (b:Bx) (σ S:Za) (N:Nat) (env:Env) (σ':Za):Prop:=∃ (u:List AV) (s:Nat) (vo:AV) (g:Za),env={ t:=u }∧u.length=80∧tg u 1=.ptr σ.length 0∧tg u 5=.ptr (σ.length+2) 0∧tg u 7=vo∧tg u 8=.int .i64 (Ul b.rs s).2∧tg u 24=.int .i64 (N:Int)∧tg u 25=.int .i64 s∧s≤N∧σ'=S++g∧Vw (fun r=>decide (S.length≤r)) (S++g) vo (.pl 1 (Ya (Wg (Ul b.rs s).1)))
def GrI (b:Bx) (σ T:Za) (N K s:Nat) (env:Env) (σ':Za):Prop:=∃ (u:List AV) (k:Nat) (v:AV) (o:Option Nat) (g:Za),env={ t:=u }∧u.length=80∧tg u 1=.ptr σ.length 0∧tg u 5=.ptr (σ.length+2) 0∧tg u 7=.pl 1 (Ya (Wg (Ul b.rs s).1))∧tg u 8=.int .i64 (Ul b.rs s).2∧tg u 9=.int .i64 s∧tg u 10=v∧tg u 24=.int .i64 (N:Int)∧tg u 25=.int .i64 s∧tg u 30=.int .i64 K∧tg u 31=.int .i64 k∧k≤K∧σ'=T++g∧Acc T g 1 v (Ya (Wg (Zz s k))) o
theorem Ved {u:List AV} {a b c d e f:AV} (h:25<u.length):tg (Zh u [(1,a),(5,b),(7,c),(8,d),(24,e),(25,f)]) 1=a∧tg (Zh u [(1,a),(5,b),(7,c),(8,d),(24,e),(25,f)]) 5=b∧tg (Zh u [(1,a),(5,b),(7,c),(8,d),(24,e),(25,f)]) 7=c∧tg (Zh u [(1,a),(5,b),(7,c),(8,d),(24,e),(25,f)]) 8=d∧tg (Zh u [(1,a),(5,b),(7,c),(8,d),(24,e),(25,f)]) 24=e∧tg (Zh u [(1,a),(5,b),(7,c),(8,d),(24,e),(25,f)]) 25=f:=by
 have q1:1<u.length:=by omega
 have q5:5<u.length:=by omega
 have q7:7<u.length:=by omega
 have q8:8<u.length:=by omega
 have q24:24<u.length:=by omega
 unfold Zh
 simp [tg,ts,q1,q5,q7,q8,q24,h]
theorem Xfg (s k:Nat) (h:s<2^10) (hk:k≤10):IntKind.i64.wrap (((((s:Nat):Int).fdiv (2^min k IntKind.i64.bits) % 2^IntKind.i64.bits).toNat &&& ((1:Int) % 2^IntKind.i64.bits).toNat:Nat):Int)=if s.testBit k=true then 1 else 0:=by
 have hm:min k IntKind.i64.bits=k:=Nat.min_eq_left (by show k≤64;omega)
 have e1:((s:Nat):Int).fdiv (2^k)=((s / 2^k:Nat):Int):=by
  rw [Int.fdiv_eq_ediv_of_nonneg _ (Int.le_of_lt (Int.pow_pos (by omega)))]
  simp
 have hle:s / 2^k≤s:=Nat.div_le_self _ _
 obtain ⟨q,hq⟩:∃ q,s / 2^k=q:=⟨_,rfl⟩
 have e2:(((q:Nat):Int) % 2^IntKind.i64.bits).toNat=q:=by
  show (((q:Nat):Int) % 18446744073709551616).toNat=q
  omega
 have e3:((1:Int) % 2^IntKind.i64.bits).toNat=1:=by decide
 rw [hm,e1,hq,e2,e3,Nat.and_one_is_mod,Nat.testBit_eq_decide_div_mod_eq,hq]
 have h2:q % 2=0∨q % 2=1:=by omega
 rcases h2 with h2 | h2<;>rw [h2]<;>decide
attribute [local irreducible] aws awp aw1 Og Om Oc Oa Ogd Ov Ot awd Ua awh Xb Ogh Ohd awl Ogl Ohl awv Ogv Ohv Wb Vb QFn Zc Vg QRo QBe Yf Yg ACode AYield
set_option maxHeartbeats 8000000 in
theorem Wei (b:Bx) (h:b.Ok) (σ:Za):ACalls Tryz.prog 13 [Zi b] σ fun v s=>v=.tup [.pl 1 (Ya (Wg (Uw Uac b.rs).1)),.int .i64 (Uw Uac b.rs).2,.int .i64 0]∧s=σ:=by
 refine ACalls.forgetT ?_
 refine Yb Tryz.func13 rfl (Zb Tryz.func13 (by decide) rfl) ?_
 have hb0:Zi b=.agg [.int .i64 b.criers,.int .i64 b.word,.int .i64 b.stand,.int .i64 b.fine,.pl 3 (b.rounds.map Wc)]:=rfl
 have cO:=Va8 b h
 obtain ⟨K,hK⟩:∃ K,b.rounds.length=K:=⟨_,rfl⟩
 have hfew:=h.few
 have hrl:b.rs.length=K:=by simp [Bx.rs,hK]
 rw [hb0] at cO ⊢
 simp [-Xa,Tryz.ntmps13]
 refine StA.of ((cO _).mono ?_)
 rintro _ _ ⟨rfl,dd,rfl⟩
 obtain ⟨S,hS⟩:∃ S,(σ++[AObj.cells [.int .i64 b.criers,.int .i64 b.word,.int .i64 b.stand,.int .i64 b.fine,.pl 3 (b.rounds.map Wc)]])++(AObj.cells (AV.agg [.int .i64 b.criers,.int .i64 b.word,.int .i64 b.stand,.int .i64 b.fine,.pl 3 (b.rounds.map Wc)]).cells::AObj.cells (Xc b)::dd)=S:=⟨_,rfl⟩
 have hbx:∀ X:Za,(S++X)[σ.length]? = some (.cells [.int .i64 b.criers,.int .i64 b.word,.int .i64 b.stand,.int .i64 b.fine,.pl 3 (b.rounds.map Wc)]):=fun X=>by rw [← hS];simp
 have hq:∀ X:Za,(S++X)[σ.length+2]? = some (.cells (Xc b)):=fun X=>by rw [← hS];simp
 have hSs:∃ g,S=σ++g:=⟨_,by rw [← hS,List.append_assoc]⟩
 have hbx0:=hbx []
 rw [List.append_nil] at hbx0
 have hK7:K≤7:=by omega
 have hpw:(2:Nat)^K≤128:=Nat.le_trans (Nat.pow_le_pow_right (by omega) hK7) (by decide)
 obtain ⟨N,hN⟩:∃ N,2^K=N:=⟨_,rfl⟩
 rw [hN] at hpw
 have hshl:IntKind.i64.wrap (2^min K IntKind.i64.bits)=(N:Int):=by
  have hm:min K IntKind.i64.bits=K:=Nat.min_eq_left (by show K≤64;omega)
  rw [hm]
  have:((2:Int)^K)=(N:Int):=by rw [← hN];simp
  rw [this]
  exact w64 (by omega) (by omega)
 have hfin:Uw Uac b.rs=Ul b.rs N:=by unfold Uw Ul;rw [hrl,hN]
 rw [hfin]
 have hKn:¬ (K:Int)<0:=by omega
 have hrd:(b.rounds.map Wc).length=K:=by simp [hK]
 rw [hS]
 simp [-Xa,hbx0,hK,Nat.add_assoc,hshl,hKn]
 refine Xci (GrO b σ S N) (fun env _=>match tg env.t 25 with | .int _ i=>N - i.toNat | _=>0) ⟨_,0,.nils,[],rfl,by simp,by simp,by simp,by simp,by simp [Ul],by simp,by simp,by omega,by simp,.inr (.nils_pl 1)⟩ ?_
 rintro env _ ⟨u,s,vo,g,rfl,hl,g1,g5,g7,g8,g24,g25,hs,rfl,hvo⟩
 have e0:(match tg u 25 with | .int _ i=>N - i.toNat | _=>0)=N - s:=by rw [g25];simp
 refine .inr ⟨_,_,Zh u [(1,.ptr σ.length 0),(5,.ptr (σ.length+2) 0),(7,.pl 1 (Ya (Wg (Ul b.rs s).1))),(8,.int .i64 (Ul b.rs s).2),(24,.int .i64 (N:Int)),(25,.int .i64 s)],View.dropS S g,Yad _ _,Xa2 (by
   simp only [List.mem_cons,List.not_mem_nil,or_false]
   rintro p (rfl | rfl | rfl | rfl | rfl | rfl)<;>dsimp only<;>first | (rw [g1];exact .inl rfl) | (rw [g5];exact .inl rfl) | (rw [g7];exact hvo) | (rw [g8];exact .inl rfl) | (rw [g24];exact .inl rfl) | (rw [g25];exact .inl rfl)),?_⟩
 have hl2:=(Yad u [(1,.ptr σ.length 0),(5,.ptr (σ.length+2) 0),(7,.pl 1 (Ya (Wg (Ul b.rs s).1))),(8,.int .i64 (Ul b.rs s).2),(24,.int .i64 (N:Int)),(25,.int .i64 s)]).trans hl
 obtain ⟨k1,k5,k7,k8,k24,k25⟩:=Ved (u:=u) (a:=.ptr σ.length 0) (b:=.ptr (σ.length+2) 0) (c:=.pl 1 (Ya (Wg (Ul b.rs s).1))) (d:=.int .i64 (Ul b.rs s).2) (e:=.int .i64 (N:Int)) (f:=.int .i64 s) (by omega)
 obtain ⟨u',hu'⟩:∃ x,Zh u [(1,.ptr σ.length 0),(5,.ptr (σ.length+2) 0),(7,.pl 1 (Ya (Wg (Ul b.rs s).1))),(8,.int .i64 (Ul b.rs s).2),(24,.int .i64 (N:Int)),(25,.int .i64 s)]=x:=⟨_,rfl⟩
 rw [hu'] at hl2 k1 k5 k7 k8 k24 k25 ⊢
 dsimp only
 rw [e0]
 clear hl g1 g5 g7 g8 g24 g25 hvo hu' e0 u vo
 obtain ⟨D,hD⟩:∃ D,g.map (fun _=>AObj.dead)=D:=⟨_,rfl⟩
 rw [hD]
 obtain ⟨O,hO⟩:∃ O,Ul b.rs s=O:=⟨_,rfl⟩
 rw [hO] at k7 k8
 obtain ⟨T,hT⟩:∃ T,S++D=T:=⟨_,rfl⟩
 have hbxT:∀ X:Za,(T++X)[σ.length]? = some (.cells [.int .i64 b.criers,.int .i64 b.word,.int .i64 b.stand,.int .i64 b.fine,.pl 3 (b.rounds.map Wc)]):=fun X=>by rw [← hT,List.append_assoc];exact hbx _
 have hqT:∀ X:Za,(T++X)[σ.length+2]? = some (.cells (Xc b)):=fun X=>by rw [← hT,List.append_assoc];exact hq _
 have hbxT0:=hbxT []
 rw [List.append_nil] at hbxT0
 rw [hT]
 rcases Qzn s N with hlt | hge
 ·have hlt':(s:Int)<(N:Int):=by omega
  have hw:=w64 (n:=(s:Int)+1) (by omega) (by omega)
  simp [-Xa,hl2,k1,k5,k7,k8,k24,k25,hlt,hlt',hbxT0,hrd]
  have hgI:GrI b σ T N K s=GrI b σ T N K s:=rfl
  refine Wd (GrI b σ T N K s) (fun env _=>match tg env.t 31 with | .int _ i=>K - i.toNat | _=>0) ⟨_,0,.nils,none,[],rfl,by simp [hl2],by simp [hl2,k1],by simp [hl2,k5],by simp [hl2,k7,hO],by simp [hl2,k8,hO],by simp [hl2],by simp [hl2],by simp [hl2,k24],by simp [hl2,k25],by simp [hl2],by simp [hl2],by omega,by simp,by simpa [Ya,Wg,Zz] using Acc.nil _ _ _⟩ ?_
  clear hl2 k1 k5 k7 k8 k24 k25 hgI u'
  rintro env _ ⟨u,k,v,o,g,rfl,hl,g1,g5,g7,g8,g9,g10,g24,g25,g30,g31,hk,rfl,hA⟩
  rw [hO] at g7 g8
  have hstl:(Zz s k).length≤k:=by
   unfold Zz
   have:=List.length_filter_le (fun i=>s.testBit i) (List.range k)
   simpa using this
  rcases Qzn k K with hltk | hgek
  ·have hltk':(k:Int)<(K:Int):=by omega
   have hwk:=w64 (n:=(k:Int)+1) (by omega) (by omega)
   have hbit:=Xfg s k (by omega) (by omega)
   have hk0:¬ (k:Int)<0:=by omega
   have hsn:=Zhm s k
   by_cases hb:s.testBit k=true
   ·rw [if_pos hb] at hbit hsn
    obtain ⟨v',g',o',he,hA',_,_,_⟩:=hA.push (P:=Tryz.prog) (t:=32) (e:=3) (ag:=false) (x:=.int .i64 k) (by simp) (by simp) (by simp) (by omega) ⟨rfl,by simp [AV.cells,AV.one]⟩ (by simp [Ya,Wg];omega)
    have hsn2:Ya (Wg (Zz s k))++[.int .i64 k]=Ya (Wg (Zz s (k+1))):=by rw [hsn];simp [Ya,Wg]
    rw [hsn2] at hA'
    simp [-Xa,AV.cells] at he
    simp [-Xa,hl,g1,g5,g7,g8,g9,g10,g24,g25,g30,g31,hltk,hltk',hbit,hk0]
    rw [he,Wl]
    simp [-Xa,hl,g1,g5,g7,g8,g9,g10,g24,g25,g30,g31,hwk]
    exact ⟨⟨_,k+1,v',o',g',rfl,by simp [hl],by simp [hl,g1],by simp [hl,g5],by simp [hl,g7,hO],by simp [hl,g8,hO],by simp [hl,g9],by simp [hl],by simp [hl,g24],by simp [hl,g25],by simp [hl,g30],by simp [hl],hltk,rfl,hA'⟩,by omega⟩
   ·rw [if_neg hb] at hbit hsn
    rw [List.append_nil] at hsn
    simp [-Xa,hl,g1,g5,g7,g8,g9,g10,g24,g25,g30,g31,hltk,hltk',hbit,hwk,hk0]
    exact ⟨⟨_,k+1,v,o,g,rfl,by simp [hl],by simp [hl,g1],by simp [hl,g5],by simp [hl,g7,hO],by simp [hl,g8,hO],by simp [hl,g9],by simp [hl,g10],by simp [hl,g24],by simp [hl,g25],by simp [hl,g30],by simp [hl],hltk,rfl,by rw [hsn];exact hA⟩,by omega⟩
  ·obtain rfl:k=K:=by omega
   have hrv:=Yhq hA
   obtain ⟨L,hL⟩:∃ L,Zz s k=L:=⟨_,rfl⟩
   have hLB:Xm b.rs.length s=L:=by rw [hrl];exact hL
   have hLb:∀ i∈L,i<b.rounds.length:=fun i hi=>by rw [← hLB] at hi;have:=Xg4 hi;omega
   rw [hL] at hA hrv hstl
   have cB:=Ud0 b h (T++g) (σ.length+2) (hqT g) L hLb (by omega) v hrv
   have hOl:O.1.length≤7:=by have:=Xb2 b.rs s;rw [hO] at this;omega
   have hnl:(Wg L).length=L.length:=by simp [Wg]
   have hol:(Ya (Wg O.1)).length=O.1.length:=by simp [Ya,Wg]
   obtain ⟨n,hn⟩:∃ n,Ur b.rs L=n:=⟨_,rfl⟩
   rw [hn] at cB
   have hfzv:Fz 0 (T++g) v (.pl 1 (Ya (Wg L))):=Ua2 hA (Nat.zero_le _) fun j x hj=>by rw [Qzr (by omega),Nat.add_sub_cancel_left];exact hj
   have hTl:S.length≤T.length:=by rw [← hT];simp
   have hTg:T++g=S++(D++g):=by rw [← hT,List.append_assoc]
   have hvw:Vw (fun r=>decide (S.length≤r)) (S++(D++g)) v (.pl 1 (Ya (Wg L))):=.inr (Ua2 hA (Nat.zero_le _) fun j x hj=>by
    refine Yaf ?_ (by simp;omega)
    rw [← hTg,Qzr (by omega),Nat.add_sub_cancel_left]
    exact hj)
   have cC:=Xbo (Wfj (Wg L) (Wg O.1) (by simp [Wg];omega) (by simp [Wg];omega)) (τ:=T++g) (args':=[v,.pl 1 (Ya (Wg O.1))]) (FzL.cons_iff.2 ⟨hfzv,FzL.cons_iff.2 ⟨Vbh _,FzL.nil_iff.2 trivial⟩⟩)
   have hstep:Ul b.rs (s+1)=if O.2<n∨n=O.2∧(L.length<O.1.length∨L.length=O.1.length∧cmpL (Wg L) (Wg O.1)<0) then (L,n) else O:=by
    rw [Zbv,hO]
    unfold Vo
    rw [hLB,hn]
    rfl
   obtain ⟨cm,hcm⟩:∃ cm,cmpL (Wg L) (Wg O.1)=cm:=⟨_,rfl⟩
   rw [hcm] at cC hstep
   simp [-Xa,hl,g1,g5,g7,g8,g9,g10,g24,g25,g30,g31]
   refine StA.of (cB.mono ?_)
   rintro _ _ ⟨rfl,rfl⟩
   have good:∀ u:List AV,u.length=80→tg u 1=.ptr σ.length 0→tg u 5=.ptr (σ.length+2) 0→tg u 24=.int .i64 (N:Int)→tg u 25=.int .i64 (s+1:Nat)→tg u 7=v→tg u 8=.int .i64 n→(O.2<n∨n=O.2∧(L.length<O.1.length∨L.length=O.1.length∧cm<0))→GrO b σ S N { t:=u } (T++g):=fun u q0 q1 q5 q24 q25 q7 q8 hc=>by
    rw [if_pos hc] at hstep
    exact ⟨u,s+1,v,D++g,rfl,q0,q1,q5,q7,by rw [hstep];exact q8,q24,q25,hlt,hTg,by rw [hstep];exact hvw⟩
   have bad:∀ u:List AV,u.length=80→tg u 1=.ptr σ.length 0→tg u 5=.ptr (σ.length+2) 0→tg u 24=.int .i64 (N:Int)→tg u 25=.int .i64 (s+1:Nat)→tg u 7=.pl 1 (Ya (Wg O.1))→tg u 8=.int .i64 O.2→¬ (O.2<n∨n=O.2∧(L.length<O.1.length∨L.length=O.1.length∧cm<0))→GrO b σ S N { t:=u } (T++g):=fun u q0 q1 q5 q24 q25 q7 q8 hc=>by
    rw [if_neg hc] at hstep
    exact ⟨u,s+1,_,D++g,rfl,q0,q1,q5,q7,by rw [hstep];exact q8,q24,q25,hlt,hTg,by rw [hstep];exact .inl rfl⟩
   have hlenv:∃ m:Nat,m=L.length∧(v=.nils∧m=0∨∃ k,v=.arr 1 k 0 m):=by
    rcases hrv with ⟨h1,h2⟩ | ⟨k,h1,_⟩
    ·exact ⟨L.length,rfl,.inl ⟨h1,by rw [← hnl,h2];rfl⟩⟩
    ·exact ⟨L.length,rfl,.inr ⟨k,by rw [h1,hnl]⟩⟩
   obtain ⟨m,hm,hmv⟩:=hlenv
   rw [← hm] at good bad
   by_cases hA1:O.2<n
   ·simp [-Xa,hl,g1,g5,g7,g8,g9,g10,g24,g25,g30,g31,hw,hol,hA1]
    exact ⟨good _ (by simp [hl]) (by simp [hl,g1]) (by simp [hl,g5]) (by simp [hl,g24]) (by simp [hl]) (by simp [hl,g10]) (by simp [hl]) (.inl hA1),by omega⟩
   ·by_cases hB1:n=O.2
    ·rcases hmv with ⟨rfl,rfl⟩ | ⟨kk,rfl⟩
     ·by_cases hC1:0<O.1.length
      ·have hC1':(0:Int)<(O.1.length:Int):=by omega
       simp [-Xa,hl,g1,g5,g7,g8,g9,g10,g24,g25,g30,g31,hw,hol,hA1,hB1,hC1,hC1']
       exact ⟨good _ (by simp [hl]) (by simp [hl,g1]) (by simp [hl,g5]) (by simp [hl,g24]) (by simp [hl]) (by simp [hl,g10]) (by simp [hl,hB1]) (.inr ⟨hB1,.inl hC1⟩),by omega⟩
      ·have hC1':¬ (0:Int)<(O.1.length:Int):=by omega
       have hD1:O.1.length=0:=by omega
       simp [-Xa,hl,g1,g5,g7,g8,g9,g10,g24,g25,g30,g31,hw,hol,hA1,hB1,hC1,hC1',hD1]
       refine StA.of (cC.mono ?_)
       rintro _ _ ⟨rfl,rfl⟩
       by_cases hE1:cm<0
       ·simp [-Xa,hl,g1,g5,g7,g8,g9,g10,g24,g25,g30,g31,hw,hE1]
        exact ⟨good _ (by simp [hl]) (by simp [hl,g1]) (by simp [hl,g5]) (by simp [hl,g24]) (by simp [hl]) (by simp [hl,g10]) (by simp [hl,hB1]) (.inr ⟨hB1,.inr ⟨hD1.symm,hE1⟩⟩),by omega⟩
       ·simp [-Xa,hl,g1,g5,g7,g8,g9,g10,g24,g25,g30,g31,hw,hE1]
        exact ⟨bad _ (by simp [hl]) (by simp [hl,g1]) (by simp [hl,g5]) (by simp [hl,g24]) (by simp [hl]) (by simp [hl,g7]) (by simp [hl,g8]) (fun h=>by omega),by omega⟩
     ·by_cases hC1:m<O.1.length
      ·have hC1':(m:Int)<(O.1.length:Int):=by omega
       simp [-Xa,hl,g1,g5,g7,g8,g9,g10,g24,g25,g30,g31,hw,hol,hA1,hB1,hC1,hC1']
       exact ⟨good _ (by simp [hl]) (by simp [hl,g1]) (by simp [hl,g5]) (by simp [hl,g24]) (by simp [hl]) (by simp [hl,g10]) (by simp [hl,hB1]) (.inr ⟨hB1,.inl hC1⟩),by omega⟩
      ·have hC1':¬ (m:Int)<(O.1.length:Int):=by omega
       by_cases hD1:m=O.1.length
       ·have hD1':(m:Int)=(O.1.length:Int):=by omega
        rw [hD1] at cC
        simp [-Xa,hl,g1,g5,g7,g8,g9,g10,g24,g25,g30,g31,hw,hol,hA1,hB1,hC1,hC1',hD1,hD1']
        refine StA.of (cC.mono ?_)
        rintro _ _ ⟨rfl,rfl⟩
        by_cases hE1:cm<0
        ·simp [-Xa,hl,g1,g5,g7,g8,g9,g10,g24,g25,g30,g31,hw,hE1]
         exact ⟨good _ (by simp [hl]) (by simp [hl,g1]) (by simp [hl,g5]) (by simp [hl,g24]) (by simp [hl]) (by simp [hl,g10]) (by simp [hl,hB1]) (.inr ⟨hB1,.inr ⟨hD1,hE1⟩⟩),by omega⟩
        ·simp [-Xa,hl,g1,g5,g7,g8,g9,g10,g24,g25,g30,g31,hw,hE1]
         exact ⟨bad _ (by simp [hl]) (by simp [hl,g1]) (by simp [hl,g5]) (by simp [hl,g24]) (by simp [hl]) (by simp [hl,g7]) (by simp [hl,g8]) (fun h=>by omega),by omega⟩
       ·have hD1':¬ (m:Int)=(O.1.length:Int):=by omega
        simp [-Xa,hl,g1,g5,g7,g8,g9,g10,g24,g25,g30,g31,hw,hol,hA1,hB1,hC1,hC1',hD1,hD1']
        exact ⟨bad _ (by simp [hl]) (by simp [hl,g1]) (by simp [hl,g5]) (by simp [hl,g24]) (by simp [hl]) (by simp [hl,g7]) (by simp [hl,g8]) (fun h=>by omega),by omega⟩
    ·simp [-Xa,hl,g1,g5,g7,g8,g9,g10,g24,g25,g30,g31,hw,hol,hA1,hB1]
     exact ⟨bad _ (by simp [hl]) (by simp [hl,g1]) (by simp [hl,g5]) (by simp [hl,g24]) (by simp [hl]) (by simp [hl,g7]) (by simp [hl,g8]) (fun h=>by omega),by omega⟩
 ·obtain rfl:s=N:=by omega
  simp [-Xa,hl2,k1,k5,k7,k8,k24,k25]
  obtain ⟨x,hx⟩:=hSs
  refine ⟨σ,x++D,by rw [← hT,hx,List.append_assoc],rfl,fun r o h=>.inl h,_,Xbs (Vbh _),by rw [hO],rfl⟩
end Ab

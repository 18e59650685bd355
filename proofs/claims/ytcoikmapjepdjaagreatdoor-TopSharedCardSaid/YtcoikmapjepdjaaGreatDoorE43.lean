/-
  Texts packed for a claim.
-/
import Derived.Test.YtcoikmapjepdjaaGreatDoorE00
import Derived.Test.YtcoikmapjepdjaaGreatDoorE42
set_option linter.all false
namespace Ab
open Go Go.RowKit Go.Proofs
def Xf (r:Rl):Bx:=⟨r.men,0,1,0,r.ntcs.map fun x=>⟨1,1,x.men⟩⟩
theorem Zy (r:Rl):(Xf r).rs=Ze r:=by
 unfold Bx.rs Xf Ze
 simp [Bx.fee]
theorem Ycl {r:Rl} (ok:r.Ok) (h4:r.men≤4):(Xf r).Ok:=by
 refine ⟨ok.m1,h4,by simp [Xf],by simp [Xf],by simp [Xf],by simp [Xf],by simp [Xf],by simp [Xf],by have:=ok.few;simp [Xf];omega,fun x hx=>?_⟩
 obtain ⟨n,hn,rfl⟩:=List.mem_map.1 hx
 have h:=ok.each n hn
 have h1:=h.t1
 have h2:=h.le
 exact ⟨by simp,by simp,by simp,by simp,fun e=>by dsimp only at e;rw [e] at h2;simp at h2;omega,h.srt,h.mem⟩
theorem Zc7 (r:Rl):(Xf r).rounds.map Wc=r.ntcs.map Vah:=by
 unfold Xf
 rw [List.map_map]
 rfl
def Xd (r:Rl):Rl:=⟨r.men,r.ntcs.map Zv⟩
theorem Wbd {r:Rl} (ok:r.Ok):(Xd r).Ok:=by
 refine ⟨ok.m1,ok.m5,by simpa [Xd] using ok.few,fun x hx=>?_⟩
 obtain ⟨n,hn,rfl⟩:=List.mem_map.1 hx
 have h:=ok.each n hn
 have h1:=h.t1
 have h2:=h.le
 exact ⟨by simp [Zv],by simp [Zv],by simp [Zv];omega,h.srt,h.mem⟩
theorem Zdz (r:Rl):Un r r.ntcs.length=(Xd r).ntcs:=by simp [Un,Xd]
theorem View.keep2 {S g G:Za} {C4 C5 D4 D5:List AV} (h4:D4.length=C4.length) (h5:D5.length=C5.length)
  (hz4:∀ (i:Nat) (x y:AV),C4[i]? = some x→D4[i]? = some y→Vw (fun r=>decide (S.length≤r)&&decide (r≠S.length+g.length)&&decide (r≠S.length+g.length+1)) (S++g++(.cells C4::.cells C5::G)) x y)
  (hz5:∀ (i:Nat) (x y:AV),C5[i]? = some x→D5[i]? = some y→Vw (fun r=>decide (S.length≤r)&&decide (r≠S.length+g.length)&&decide (r≠S.length+g.length+1)) (S++g++(.cells C4::.cells C5::G)) x y) :
  View (fun r=>decide (S.length≤r)&&decide (r≠S.length+g.length)&&decide (r≠S.length+g.length+1)) (S++g++(.cells C4::.cells C5::G)) (S++(g.map fun _=>AObj.dead)++(.cells D4::.cells D5::G.map fun _=>AObj.dead)):=by
 refine ⟨by simp,fun r o' ho hlv=>?_⟩
 rcases Qzn r S.length with h | h
 ·rw [List.append_assoc,Qzl h] at ho
  exact ⟨by simp;omega,o',by rw [List.append_assoc,Qzl h];exact ho,hlv,.inl rfl⟩
 ·rw [List.append_assoc,Qzr h] at ho
  rcases Qzn (r - S.length) g.length with h' | h'
  ·rw [Qzl (by simpa using h'),Qzp,Qzm] at ho
   obtain ⟨x,_,rfl⟩:=ho
   cases hlv
  ·rw [Qzr (by simpa using h'),List.length_map] at ho
   have hS:∀ k,r=S.length+g.length+k→(S++g++(.cells C4::.cells C5::G))[r]? = (AObj.cells C4::.cells C5::G)[k]?:=fun k e=>by
    rw [Qzr (by simp;omega)]
    congr 1
    simp
    omega
   match hk:r - S.length - g.length,ho with
   | 0,ho =>
    simp at ho
    subst ho
    exact ⟨by simp;omega,.cells C4,by rw [hS 0 (by omega)];rfl,rfl,.inr ⟨C4,D4,rfl,rfl,h4,hz4⟩⟩
   | 1,ho =>
    simp at ho
    subst ho
    exact ⟨by simp;omega,.cells C5,by rw [hS 1 (by omega)];rfl,rfl,.inr ⟨C5,D5,rfl,rfl,h5,hz5⟩⟩
   | k+2,ho =>
    simp only [List.getElem?_cons_succ,Qzp,Qzm] at ho
    obtain ⟨x,_,rfl⟩:=ho
    cases hlv
theorem Ubd {u:List AV} {b d f:AV} (h:5<u.length):tg (Zh u [(3,b),(4,d),(5,f)]) 3=b∧tg (Zh u [(3,b),(4,d),(5,f)]) 4=d∧tg (Zh u [(3,b),(4,d),(5,f)]) 5=f:=by
 have q7:3<u.length:=by omega
 have q10:4<u.length:=by omega
 unfold Zh
 simp [tg,ts,q7,q10,h]
def ShJ (l1:List UInt8) (r:Rl) (p4:Nat) (σ:Za) (env:Env) (σ':Za):Prop:=∃ (u:List AV) (B:AObj) (X:Za),env={ t:=u }∧u.length=260∧tg u 3=.ptr σ.length 0∧tg u 4=.ptr p4 0∧tg u 5=.ptr (p4+1) 0∧Ual l1 B∧σ.length+1≤p4 ∧
 σ'=(σ++[B])++X∧σ'[p4]? = some (.cells [.int .i64 r.men,.pl 2 ((Xd r).ntcs.map Ub)])∧σ'[p4+1]? = some (.cells [.int .i64 r.men,.int .i64 0,.int .i64 1,.int .i64 0,.pl 3 ((Xf r).rounds.map Wc)])
theorem Uew (l1:List UInt8) {B:AObj} (hB:Ual l1 B) {r:Rl} {v1:AV} {o:Option Nat} {p4:Nat} {σ:Za} {env:Env} {s:Za} (hI:ShI r (σ++[B]) v1 o p4 σ env s) (h44:tg env.t 44=.int .i64 r.ntcs.length) {c:Code} {Q:Exit→Env→Za→Prop}
  (h:∀ (env:Env) (s:Za),ShJ l1 r p4 σ env s→ACode Tryz.prog none c Q env s):ACode Tryz.prog none c Q env s:=by
 obtain ⟨u,i,g,G,w,o2,rfl,hl,g3,g4,g5,g43,g44,hi,hp4,rfl,hA1,hA2⟩:=hI
 obtain rfl:i=r.ntcs.length:=by
  have h':tg u 44=.int .i64 r.ntcs.length:=h44
  rw [g44] at h'
  injection h' with _ e
  omega
 rw [Zdz] at hA1
 rw [List.take_length,← Zc7] at hA2
 obtain ⟨S,hS⟩:∃ S,σ++[B]=S:=⟨_,rfl⟩
 have hSl:S.length=σ.length+1:=by rw [← hS];simp
 rw [hS] at hA1 hA2 hp4 ⊢
 obtain ⟨P,hP⟩:∃ P:Nat→Bool,P=fun r=>decide (S.length≤r)&&decide (r≠S.length+g.length)&&decide (r≠S.length+g.length+1):=⟨_,rfl⟩
 have z4:Vw P (S++g++(.cells [.int .i64 r.men,v1]::.cells [.int .i64 r.men,.int .i64 0,.int .i64 1,.int .i64 0,w]::G)) v1 (.pl 2 ((Xd r).ntcs.map Ub)):=by
  refine .inr (hA1.fzG (by omega) (Nat.zero_le _) (fun j x _ e=>?_) rfl fun i x y hx hy=>?_)
  ·have hj:=(Qzs.1 e).1
   refine Yaf ?_ (by rw [hP];simp;omega)
   rw [List.append_assoc,Qzr (by omega),Nat.add_sub_cancel_left,Qzl hj]
   exact e
  ·rw [hx] at hy
   obtain rfl:=Option.some.inj hy
   obtain ⟨n,_,rfl⟩:=List.mem_map.1 (Qzg hx)
   refine ⟨rfl,fun z hz=>by simp [Ub,AV.cells] at hz;rcases hz with rfl | rfl<;>rfl,fun j a b ha hb=>?_⟩
   rw [ha] at hb
   obtain rfl:=Option.some.inj hb
   have:=Qzg ha
   simp [Ub,AV.cells] at this
   rcases this with rfl | rfl
   ·exact .int _ _
   ·exact Ya4 _ _ _
 have z5:Vw P (S++g++(.cells [.int .i64 r.men,v1]::.cells [.int .i64 r.men,.int .i64 0,.int .i64 1,.int .i64 0,w]::G)) w (.pl 3 ((Xf r).rounds.map Wc)):=by
  refine .inr (hA2.fzG (by omega) (Nat.zero_le _) (fun j x _ e=>?_) rfl fun i x y hx hy=>?_)
  ·have hj:=(Qzs.1 e).1
   have hSS:(S++g++[zRl,zRl]).length=(S++g).length+2:=by simp;omega
   refine Yaf ?_ (by rw [hP,hSS];simp;omega)
   rw [hSS,Qzr (by omega),show (S++g).length+2+j - (S++g).length=j+1+1 by omega]
   exact e
  ·rw [hx] at hy
   obtain rfl:=Option.some.inj hy
   obtain ⟨n,_,rfl⟩:=List.mem_map.1 (Qzg hx)
   refine ⟨rfl,fun z hz=>by simp [Wc,AV.cells] at hz;rcases hz with rfl | rfl | rfl<;>rfl,fun j a b ha hb=>?_⟩
   rw [ha] at hb
   obtain rfl:=Option.some.inj hb
   have:=Qzg ha
   simp [Wc,AV.cells] at this
   rcases this with rfl | rfl | rfl
   ·exact .int _ _
   ·exact .int _ _
   ·exact Ya4 _ _ _
 have hV:=View.keep2 (S:=S) (g:=g) (G:=G) (C4:=[.int .i64 r.men,v1]) (D4:=[.int .i64 r.men,.pl 2 ((Xd r).ntcs.map Ub)]) (C5:=[.int .i64 r.men,.int .i64 0,.int .i64 1,.int .i64 0,w]) (D5:=[.int .i64 r.men,.int .i64 0,.int .i64 1,.int .i64 0,.pl 3 ((Xf r).rounds.map Wc)]) rfl rfl
  (fun i x y hx hy=>by
   rw [hP] at z4
   match i,hx,hy with
   | 0,hx,hy=>simp at hx hy;subst hx;subst hy;exact .inl rfl
   | 1,hx,hy=>simp at hx hy;subst hx;subst hy;simpa using z4
   | i+2,hx,hy=>simp at hx)
  (fun i x y hx hy=>by
   rw [hP] at z5
   match i,hx,hy with
   | 0,hx,hy=>simp at hx hy;subst hx;subst hy;exact .inl rfl
   | 1,hx,hy=>simp at hx hy;subst hx;subst hy;exact .inl rfl
   | 2,hx,hy=>simp at hx hy;subst hx;subst hy;exact .inl rfl
   | 3,hx,hy=>simp at hx hy;subst hx;subst hy;exact .inl rfl
   | 4,hx,hy=>simp at hx hy;subst hx;subst hy;simpa using z5
   | i+5,hx,hy=>simp at hx)
 refine ACode.view (u':=Zh u [(3,.ptr σ.length 0),(4,.ptr p4 0),(5,.ptr (p4+1) 0)]) _ hV (h _ _ ?_) (Yad _ _) (Xa2 (by
   simp only [List.mem_cons,List.not_mem_nil,or_false]
   rintro p (rfl | rfl | rfl)<;>dsimp only<;>first | (rw [g3];exact .inl rfl) | (rw [g4];exact .inl rfl) | (rw [g5];exact .inl rfl)))
 refine ⟨_,B,_,rfl,by rw [Yad];exact hl,?_,?_,?_,hB,by omega,by rw [hS,List.append_assoc],?_,?_⟩
 ·exact (Ubd (by omega)).1
 ·exact (Ubd (by omega)).2.1
 ·exact (Ubd (by omega)).2.2
 ·rw [← hp4,List.append_assoc,Qzr (by omega),Nat.add_sub_cancel_left,Qzr (by simp)]
  simp
 ·rw [← hp4,List.append_assoc,Nat.add_assoc,Qzr (by omega),Nat.add_sub_cancel_left,Qzr (by simp)]
  simp
end Ab
namespace Ab
open Go Go.RowKit Go.Proofs
theorem Uaq (r:Rl):Ze (Xd r)=Ze r:=by unfold Ze Xd;rw [List.map_map];rfl
theorem Xhw (cmp:List Nat→List Nat→Int):(Uw cmp []).1=[]:=by
 unfold Uw
 rw [show List.range (2^([]:List (Int × List Int)).length)=[0] from rfl,List.foldl_cons,List.foldl_nil]
 unfold Vo
 split<;>rfl
theorem Xcw (cmp:List Nat→List Nat→Int):(Uw cmp []).2=0:=by
 unfold Uw
 rw [show List.range (2^([]:List (Int × List Int)).length)=[0] from rfl,List.foldl_cons,List.foldl_nil]
 unfold Vo
 split
 ·rfl
 ·rfl
def ShK (l1:List UInt8) (r:Rl) (n p4:Nat) (σ:Za) (env:Env) (σ':Za):Prop:=∃ (u:List AV) (B:AObj) (X:Za),env={ t:=u }∧u.length=260∧tg u 3=.ptr σ.length 0∧tg u 4=.ptr p4 0∧tg u 5=.ptr (p4+1) 0∧tg u 8=.int .i64 n∧tg u 10=.pl 1 (Ya (Xf r).best)∧tg u 18=.nils∧Ual l1 B∧σ.length+1≤p4 ∧
 σ'=(σ++[B])++X∧σ'[p4]? = some (.cells [.int .i64 r.men,.pl 2 ((Xd r).ntcs.map Ub)])∧σ'[p4+1]? = some (.cells [.int .i64 r.men,.int .i64 0,.int .i64 1,.int .i64 0,.pl 3 ((Xf r).rounds.map Wc)])
attribute [local irreducible] aws awp aw1 Og Om Oc Oa Ogd Ov Ot awd Ua awh Xb Ogh Ohd awl Ogl Ohl awv Ogv Ohv Wb Vb QFn Zc Vg QRo QBe Yf Yg ACode AYield
set_option maxRecDepth 20000 in
set_option maxHeartbeats 8000000 in
theorem Wfy (l1:List UInt8) {r:Rl} (ok:r.Ok) (h4:r.men≤4) {p4:Nat} {σ:Za} {env:Env} {s:Za} (hJ:ShJ l1 r p4 σ env s) (Q:AV→Za→Prop) (hQ:∀ g,Q (.bool true) (σ++g))
  (h3:∀ (env:Env) (s:Za) (n:Nat) (d:DS),LeastN (Xd r) n d→r.ntcs≠[]→ShK l1 r n p4 σ env s→ACode Tryz.prog none (Yh 9 (Yh 5 (Tryz.f3.body.getD .skip)).2).2 (QFn Tryz.prog Tryz.f3 Q) env s) :
  ACode Tryz.prog none (Yh 5 (Tryz.f3.body.getD .skip)).2 (QFn Tryz.prog Tryz.f3 Q) env s:=by
 obtain ⟨u,B,X,rfl,hl,g3,g4,g5,hB,hp,rfl,t4,t5⟩:=hJ
 have okR:=Wbd ok
 have h4R:(Xd r).men≤4:=h4
 have h1R:∀ x∈(Xd r).ntcs,x.times=1:=fun x hx=>by
  obtain ⟨n,_,rfl⟩:=List.mem_map.1 hx
  rfl
 have bok:=Ycl ok h4
 have hlenR:(Xd r).ntcs.length=r.ntcs.length:=by simp [Xd]
 have hmenR:(Xd r).men=r.men:=rfl
 obtain ⟨T,hT⟩:∃ T,σ++[B]++X=T:=⟨_,rfl⟩
 rw [hT] at t4 t5 ⊢
 have hp4:=(Qzs.1 t4).1
 have hp5:=(Qzs.1 t5).1
 have x4:∀ Y:Za,(T++Y)[p4]? = some (.cells [.int .i64 r.men,.pl 2 ((Xd r).ntcs.map Ub)]):=fun Y=>by rw [Qzl hp4];exact t4
 have x5:∀ Y:Za,(T++Y)[p4+1]? = some (.cells [.int .i64 r.men,.int .i64 0,.int .i64 1,.int .i64 0,.pl 3 ((Xf r).rounds.map Wc)]):=fun Y=>by rw [Qzl hp5];exact t5
 have cL:=fun Y=>Wd5 okR (T++Y)
 have cB:=fun Y=>Zdt (Xf r) bok (T++Y)
 have cG:=fun Y=>Wei (Xf r) bok (T++Y)
 have cT:=fun Y=>Wcr (Xd r) okR (T++Y)
 have hrl:Ug (Xd r)=.agg [.int .i64 r.men,.pl 2 ((Xd r).ntcs.map Ub)]:=rfl
 have hbx:Zi (Xf r)=.agg [.int .i64 r.men,.int .i64 0,.int .i64 1,.int .i64 0,.pl 3 ((Xf r).rounds.map Wc)]:=rfl
 rw [hrl] at cL cT
 rw [hbx] at cB cG
 obtain ⟨NN,hNN⟩:∃ NN,(Xd r).ntcs.map Ub=NN:=⟨_,rfl⟩
 have hNNl:NN.length=r.ntcs.length:=by rw [← hNN];simp [Xd]
 obtain ⟨RR,hRR⟩:∃ RR,(Xf r).rounds.map Wc=RR:=⟨_,rfl⟩
 rw [hNN] at t4 x4 cL cT
 rw [hRR] at t5 x5 cB cG
 refine Xbk (n:=9) (fun env s=>∃ (n:Nat) (d:DS),LeastN (Xd r) n d∧r.ntcs≠[]∧ShK l1 r n p4 σ env s) (fun env s ⟨n,d,h5,h6,h7⟩=>h3 env s n d h5 h6 h7) ?_
 dsimp only [Tryz.f3,Option.getD]
 simp [Ybc,Xbn,hl,g3,g4,g5,t4,t5]
 have cL0:=cL []
 rw [List.append_nil] at cL0
 refine StA.of (cL0.mono ?_)
 rintro _ _ ⟨⟨S,n,hS,rfl⟩,g1,rfl⟩
 obtain ⟨d,hd1,hd2,_⟩:=hS
 have hN:LeastN (Xd r) n d:=⟨hd1,hd2⟩
 have hbad:(Xf r).bad=n:=by
  have:=Vb8 okR h4R h1R hN
  rw [Uaq] at this
  unfold Bx.bad
  rw [Zy]
  exact this
 have hgr:(Uw Uac (Xf r).rs).2=n:=by
  have:=Vew Uac okR h4R h1R hN
  rw [Uaq] at this
  rw [Zy]
  exact this
 simp [hl,g3,g4,g5,x4,x5]
 refine StA.of ((cB _).mono ?_)
 rintro _ _ ⟨rfl,rfl⟩
 rw [hbad]
 simp [hl,g3,g4,g5,x4,x5]
 refine StA.of ((cG _).mono ?_)
 rintro _ _ ⟨rfl,rfl⟩
 rw [hgr]
 simp [hl,g3,g4,g5,x4,x5]
 refine StA.of ((cT _).mono ?_)
 rintro v _ ⟨hv,g2,rfl⟩
 have hTs:∀ Y,T++Y=σ++([B]++X++Y):=fun Y=>by rw [← hT];simp
 have hRn:(Xd r).ntcs=[]↔r.ntcs=[]:=by simp [Xd]
 by_cases hK:r.ntcs=[]
 ·rw [if_pos (hRn.2 hK)] at hv
  subst hv
  have hrs:(Xf r).rs=[]:=by rw [Zy];unfold Ze;rw [hK];rfl
  have hn0:n=0:=by rw [hrs,Xcw] at hgr;omega
  have hNN0:NN.length=0:=by rw [hNNl,hK];rfl
  have hg0:(Uw Uac (Xf r).rs).1=[]:=by rw [hrs];exact Xhw _
  rw [hg0]
  subst hn0
  simp [hl,g3,g4,g5,x4,x5,hNN0,Wg,Ya]
  refine awake11_calls.use ?_
  simp [hl]
  rw [hTs]
  exact hQ _
 ·rw [if_neg (fun h=>hK (hRn.1 h))] at hv
  subst hv
  have hKp:0<r.ntcs.length:=List.length_pos_iff.2 hK
  obtain ⟨q1,q2,q3⟩:=Vd1 okR h1R (fun h=>hK (hRn.1 h)) hN
  have hNN0:¬ NN.length=0:=by omega
  have cN:=fun Y hA hm=>Zfe (Xd r) okR (Zad (Xd r)).1 hA hm (T++Y)
  rw [hrl,hNN] at cN
  obtain ⟨A,hA⟩:∃ A,(Zad (Xd r)).1=A:=⟨_,rfl⟩
  rw [hA] at q1 q3 cN
  obtain ⟨a1,a2,a3⟩:=mem_tiAll.1 q1
  have hAne:A≠[]:=fun e=>by rw [e] at a1;exact a1 rfl
  have hlV:lV A=.pl 1 (Ya A):=by unfold lV;rw [if_neg hAne]
  have hm1:=okR.m1
  have hAr:∀ x∈A,0≤x∧x<(Xd r).men:=fun x hx=>by have:=a3 x hx;omega
  have hAl:A.length≤5:=by
   have:=Wam (m:=(Xd r).men.toNat) a2 fun x hx=>by have:=hAr x hx;omega
   have:=okR.m5
   omega
  have hiA:(Ya A).length=A.length:=by simp [Ya]
  have hfew:=ok.few
  have hnv:0≤Yaa (Xd r) A∧Yaa (Xd r) A≤6:=by
   rw [Ubc okR h1R]
   have:(Xk (Ue (Xd r)) (Xd r).ntcs.length A).length≤(Xd r).ntcs.length:=by
    unfold Xk
    refine Nat.le_trans (List.length_filter_le _ _) ?_
    simp
   omega
  obtain ⟨N,hNv⟩:∃ N,Yaa (Xd r) A=N:=⟨_,rfl⟩
  have hq:(N+(A.length:Int) - 1).tdiv A.length=n:=by rw [← hNv];exact q3
  rw [hNv] at cN hnv
  have w1:=w64 (n:=N+(A.length:Int)) (by omega) (by omega)
  have w2:=w64 (n:=N+(A.length:Int) - 1) (by omega) (by omega)
  have hn6:(n:Int)≤100:=by
   rw [← hq,Int.tdiv_eq_ediv_of_nonneg (by omega)]
   have:=Int.ediv_le_self (a:=N+(A.length:Int) - 1) (A.length:Int) (by omega)
   omega
  have w3:=w64 (n:=(n:Int)) (by omega) (by omega)
  have hA0:¬ A.length=0:=a1
  have hA0':¬ (A.length:Int)=0:=by omega
  rw [hA,hlV]
  simp [hl,g3,g4,g5,x4,x5,hNN0]
  refine StA.of ((cN _ a2 hAr).mono ?_)
  rintro _ _ ⟨rfl,g3',rfl⟩
  simp [hl,g3,g4,g5,x4,x5,hiA,hA0,hA0',w1,w2,hq,w3,hAne]
  refine ⟨n,⟨d,hN⟩,hK,_,B,X++(g1++(g2++g3')),rfl,by simp [hl],by simp [hl,g3],by simp [hl,g4],by simp [hl,g5],by simp [hl],by simp [hl],by simp [hl],hB,hp,by rw [← hT];simp,?_,?_⟩
  ·rw [hNN];exact x4 _
  ·rw [hRR];exact x5 _
end Ab
namespace Ab
open Go Go.RowKit Go.Proofs
theorem Ucc:∀ {rs:List (Int × List Int)} {cs:List Int},cs.length=rs.length→(∀ (i:Nat) (r:Int × List Int) (c:Int),rs[i]? = some r→cs[i]? = some c→c∈r.2)→ChF rs cs
 | [],[],_,_=>trivial
 | r::rs,c::cs,hl,h=>⟨h 0 r c rfl rfl,Ucc (by simpa using hl) fun i r' c' hr hc=>h (i+1) r' c' (by simpa using hr) (by simpa using hc)⟩
 | [],_::_,hl,_=>by simp at hl
 | _::_,[],hl,_=>by simp at hl
def Wt (S:List (List Int)):List Int:=S.map fun l=>l.headD 0
theorem Wcf {r:Rl} {S:List (List Int)} (hS:ShOk (Xd r) S):ChF (Ze r) (Wt S)∧∀ (i:Nat) (l:List Int),S[i]? = some l→∃ c,l=[c]:=by
 have one:∀ (i:Nat) (l:List Int),S[i]? = some l→∃ (x:Ntc) (c:Int),r.ntcs[i]? = some x∧l=[c]∧c∈x.men:=fun i l hl=>by
  have hi:=(Qzs.1 hl).1
  have hSl:=hS.len
  have hi2:i<r.ntcs.length:=by simp [Xd] at hSl;omega
  have hx:(Xd r).ntcs[i]? = some (Zv r.ntcs[i]):=by simp [Xd,Qze hi2]
  obtain ⟨h1,_,h3⟩:=hS.each i l _ hl hx
  match l,h1,h3 with
  | [c],_,h3=>exact ⟨r.ntcs[i],c,Qze hi2,rfl,h3 c (by simp)⟩
  | [],h1,_=>simp [Zv] at h1
  | _::_::_,h1,_=>simp [Zv] at h1;omega
 refine ⟨Ucc ?_ fun i q c hq hc=>?_,fun i l hl=>?_⟩
 ·have:=hS.len
  simp [Wt,Ze]
  simpa [Xd] using this
 ·unfold Wt at hc
  rw [Qzp,Qzm] at hc
  obtain ⟨l,hl,rfl⟩:=hc
  obtain ⟨x,c,hx,rfl,hm⟩:=one i l hl
  unfold Ze at hq
  rw [Qzp,hx] at hq
  obtain rfl:=Option.some.inj hq
  exact hm
 ·obtain ⟨_,c,_,h,_⟩:=one i l hl
  exact ⟨c,h⟩
theorem Veu {u:List AV} {a b c d e:AV} (h:18<u.length):tg (Zh u [(4,a),(5,b),(8,c),(10,d),(18,e)]) 4=a∧tg (Zh u [(4,a),(5,b),(8,c),(10,d),(18,e)]) 5=b∧tg (Zh u [(4,a),(5,b),(8,c),(10,d),(18,e)]) 8=c∧tg (Zh u [(4,a),(5,b),(8,c),(10,d),(18,e)]) 10=d∧tg (Zh u [(4,a),(5,b),(8,c),(10,d),(18,e)]) 18=e:=by
 have q4:4<u.length:=by omega
 have q5:5<u.length:=by omega
 have q8:8<u.length:=by omega
 have q10:10<u.length:=by omega
 unfold Zh
 simp [tg,ts,q4,q5,q8,q10,h]
def ShL (r:Rl) (n p4:Nat) (S:List (List Int)) (T:Za) (env:Env) (σ':Za):Prop:=∃ (u:List AV) (i:Nat) (v:AV) (G:Za) (o:Option Nat),env={ t:=u }∧u.length=260∧tg u 4=.ptr p4 0∧tg u 5=.ptr (p4+1) 0∧tg u 8=.int .i64 n∧tg u 10=.pl 1 (Ya (Xf r).best)∧tg u 18=v∧tg u 158=.pl 1 (S.map fun x=>.pl 1 (Ya x))∧tg u 159=.int .i64 S.length∧tg u 160=.int .i64 i∧i≤S.length ∧
 σ'=T++G∧Acc T G 1 v (Ya (Wt (S.take i))) o
def ShM (r:Rl) (n p4:Nat) (cs:List Int) (σ:Za) (env:Env) (σ':Za):Prop:=∃ (u:List AV) (X:Za),env={ t:=u }∧u.length=260∧tg u 4=.ptr p4 0∧tg u 5=.ptr (p4+1) 0∧tg u 8=.int .i64 n∧tg u 10=.pl 1 (Ya (Xf r).best)∧tg u 18=.pl 1 (Ya cs) ∧
 σ'=σ++X∧σ'[p4]? = some (.cells [.int .i64 r.men,.pl 2 ((Xd r).ntcs.map Ub)])∧σ'[p4+1]? = some (.cells [.int .i64 r.men,.int .i64 0,.int .i64 1,.int .i64 0,.pl 3 ((Xf r).rounds.map Wc)])
attribute [local irreducible] aws awp aw1 Og Om Oc Oa Ogd Ov Ot awd Ua awh Xb Ogh Ohd awl Ogl Ohl awv Ogv Ohv Wb Vb QFn Zc Vg QRo QBe Yf Yg ACode AYield
set_option maxRecDepth 20000 in
set_option maxHeartbeats 8000000 in
theorem Vh1 (l1:List UInt8) (h1:l1.length≤9223372036854775807) {r:Rl} (ok:r.Ok) (h4:r.men≤4) {n p4:Nat} {σ:Za} {env:Env} {s:Za} (hJ:ShK l1 r n p4 σ env s) (Q:AV→Za→Prop)
  (h3:∀ (env:Env) (s:Za) (cs:List Int),ChF (Ze r) cs→ShM r n p4 cs σ env s→ACode Tryz.prog none (Yh 1 (Yh 9 (Yh 5 (Tryz.f3.body.getD .skip)).2).2).2 (QFn Tryz.prog Tryz.f3 Q) env s) :
  ACode Tryz.prog none (Yh 9 (Yh 5 (Tryz.f3.body.getD .skip)).2).2 (QFn Tryz.prog Tryz.f3 Q) env s:=by
 obtain ⟨u,B,X,rfl,hl,g3,g4,g5,g8,g10,g18,⟨a,c,ha,rfl⟩,hp,rfl,t4,t5⟩:=hJ
 have hass:σ++[Yc l1 a c]++X=σ++Yc l1 a c::X:=by simp
 rw [hass] at t4 t5 ⊢
 have okR:=Wbd ok
 have hd:(σ++Yc l1 a c::X)[σ.length]? = some (Yc l1 a c):=by simp
 have cD:=Yfa (Xd r) okR (σ++Yc l1 a c::X) σ.length l1 a c hd ha h1
 have hrl:Ug (Xd r)=.agg [.int .i64 r.men,.pl 2 ((Xd r).ntcs.map Ub)]:=rfl
 rw [hrl] at cD
 have hset:∀ a' c',(σ++Yc l1 a c::X).set σ.length (Yc l1 a' c')=σ++Yc l1 a' c'::X:=fun a' c'=>by simp
 have k4:∀ a' c',(σ++Yc l1 a' c'::X)[p4]? = some (.cells [.int .i64 r.men,.pl 2 ((Xd r).ntcs.map Ub)]):=fun a' c'=>by
  rw [← hset,List.getElem?_set_ne (by omega)];exact t4
 have k5:∀ a' c',(σ++Yc l1 a' c'::X)[p4+1]? = some (.cells [.int .i64 r.men,.int .i64 0,.int .i64 1,.int .i64 0,.pl 3 ((Xf r).rounds.map Wc)]):=fun a' c'=>by
  rw [← hset,List.getElem?_set_ne (by omega)];exact t5
 obtain ⟨NN,hNN⟩:∃ NN,(Xd r).ntcs.map Ub=NN:=⟨_,rfl⟩
 rw [hNN] at t4 cD
 refine Xbk (n:=1) (fun env s=>∃ (S:List (List Int)) (a':Nat) (c':Int),ShOk (Xd r) S∧ShL r n p4 S (σ++Yc l1 a' c'::X) env s∧tg env.t 160=.int .i64 S.length) (fun env s hh=>?_) ?_
 ·obtain ⟨S,a',c',hS,⟨u,i,v,G,o,rfl,hl,g4,g5,g8,g10,g18,g158,g159,g160,hi,rfl,hA⟩,h160⟩:=hh
  obtain rfl:i=S.length:=by
   have h':tg u 160=.int .i64 S.length:=h160
   rw [g160] at h'
   injection h' with _ e
   omega
  rw [List.take_length] at hA
  have q4:=k4 a' c'
  have q5:=k5 a' c'
  obtain ⟨T,hT⟩:∃ T,σ++Yc l1 a' c'::X=T:=⟨_,rfl⟩
  rw [hT] at q4 q5 hA ⊢
  have hz:Vw (fun r=>decide (T.length≤r)) (T++G) v (.pl 1 (Ya (Wt S))):=by
   have:=hA.vw (p:=fun r=>decide (T.length≤r)) (fun r hr=>by simpa using hr)
   exact this
  refine ACode.view (u':=Zh u [(4,.ptr p4 0),(5,.ptr (p4+1) 0),(8,.int .i64 n),(10,.pl 1 (Ya (Xf r).best)),(18,.pl 1 (Ya (Wt S)))]) _ (View.dropS T G) (h3 _ _ (Wt S) (Wcf hS).1 ?_) (Yad _ _) (Xa2 (by
   simp only [List.mem_cons,List.not_mem_nil,or_false]
   rintro p (rfl | rfl | rfl | rfl | rfl)<;>dsimp only<;>first | (rw [g4];exact .inl rfl) | (rw [g5];exact .inl rfl) | (rw [g8];exact .inl rfl) | (rw [g10];exact .inl rfl) | (rw [g18];exact hz)))
  obtain ⟨p1,p2,p3,p5,p6⟩:=Veu (u:=u) (a:=.ptr p4 0) (b:=.ptr (p4+1) 0) (c:=.int .i64 n) (d:=.pl 1 (Ya (Xf r).best)) (e:=.pl 1 (Ya (Wt S))) (by omega)
  exact ⟨_,_,rfl,by rw [Yad];exact hl,p1,p2,p3,p5,p6,by rw [← hT,List.append_assoc],by rw [Qzl (Qzs.1 q4).1];exact q4,by rw [Qzl (Qzs.1 q5).1];exact q5⟩
 ·dsimp only [Tryz.f3,Option.getD]
  simp [-Xa,Ybc,Xbn,hl,g3,g4,g5,g18,t4]
  refine StA.of (cD.mono ?_)
  rintro _ _ ⟨S,a',c',rfl,hS,ha',rfl⟩
  rw [hset]
  obtain ⟨T,hT⟩:∃ T,σ++Yc l1 a' c'::X=T:=⟨_,rfl⟩
  have hSl:S.length≤6:=by have:=hS.len;have:=okR.few;omega
  have hone:=(Wcf hS).2
  have hrS:Uj S=.pl 1 (S.map fun x=>.pl 1 (Ya x)):=rfl
  rw [hT,hrS]
  simp [-Xa,hl,g3,g4,g5,g18]
  refine Wd (ShL r n p4 S T) (fun env _=>match tg env.t 160 with | .int _ i=>S.length - i.toNat | _=>0) ⟨_,0,.nils,[],none,rfl,by simp [hl],by simp [hl,g4],by simp [hl,g5],by simp [hl,g8],by simp [hl,g10],by simp [hl,g18],by simp [hl],by simp [hl],by simp [hl],by omega,by simp,by simpa [Wt,Ya] using Acc.nil _ _ _⟩ ?_
  clear hl g3 g4 g5 g8 g10 g18
  rintro env _ ⟨u,i,v,G,o,rfl,hl,g4,g5,g8,g10,g18,g158,g159,g160,hi,rfl,hA⟩
  rcases Qzn i S.length with hlt | hge
  ·have hlt':(i:Int)<(S.length:Int):=by omega
   have hw:=w64 (n:=(i:Int)+1) (by omega) (by omega)
   obtain ⟨k,hk⟩:=hone i S[i] (Qze hlt)
   have hSx:(S.map fun x=>AV.pl 1 (Ya x))[i]'(by simpa using hlt)=.pl 1 [.int .i64 k]:=by simp [hk,Ya]
   have hSl2:(S.map fun x=>AV.pl 1 (Ya x)).length=S.length:=by simp
   obtain ⟨v',G',o',he,hA',_,_,_⟩:=hA.push (P:=Tryz.prog) (t:=32) (e:=3) (ag:=false) (x:=.int .i64 k) (by simp) (by simp) (by simp) (by omega) ⟨rfl,by simp [AV.cells,AV.one]⟩ (by simp [Ya,Wt];omega)
   simp [-Xa,Nat.add_assoc] at he
   simp [-Xa,Nat.add_assoc,hl,g4,g5,g8,g10,g18,g158,g159,g160,hlt,hlt',hk,Ya]
   rw [he,Wl]
   refine ⟨⟨_,i+1,v',G',o',rfl,by simp [hl],by simp [hl,g4],by simp [hl,g5],by simp [hl,g8],by simp [hl,g10],by simp [hl],by simp [hl,g158],by simp [hl,g159],by simp [hl,hw],hlt,rfl,?_⟩,by rw [hw];omega⟩
   have e1:Ya (Wt (S.take (i+1)))=Ya (Wt (S.take i))++[.int .i64 k]:=by
    rw [Qzt hlt,hk]
    simp [Wt,Ya]
   rw [e1]
   exact hA'
  ·have hge':¬ (i:Int)<(S.length:Int):=by omega
   obtain rfl:i=S.length:=by omega
   simp [-Xa,hl,g4,g5,g8,g10,g18,g158,g159,g160]
   refine ⟨S,hS,⟨a',c',?_⟩,rfl⟩
   rw [hT]
   exact ⟨_,S.length,v,G,o,rfl,by simp [hl],by simp [hl,g4],by simp [hl,g5],by simp [hl,g8],by simp [hl,g10],by simp [hl,g18],by simp [hl,g158],by simp [hl,g159],by simp [hl,g160],by omega,rfl,hA⟩
end Ab

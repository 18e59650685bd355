/-
  Texts packed for a claim.
-/
import Derived.Test.YtcoikmapjepdjaaGreatDoorE00
import Derived.Test.YtcoikmapjepdjaaGreatDoorE43
set_option linter.all false
namespace Ab
open Go Go.RowKit Go.Proofs
theorem Xcr (S:Za) (l:List Int) (hne:l≠[]) (hl:l.length≤8):Xa Tryz.prog #[32,32] (.arr 1 S.length 0 1) (.pl 1 (Ya l)) (S++[.cells [.int .i64 1]])=some (.arr 1 (S.length+1) 0 (l.length+1),S++[.dead,.cells (Ya (1::l))]):=by
 match l,hne with
 | x::l,_ =>
  have h1:(l.length+1+1)*8≤140737488355328:=by simp at hl;omega
  simp [Ya,Vaf,h1]
  omega
theorem Ygj {r:Rl} (ok:r.Ok) (h4:r.men≤4):ChF (Ze r) (Xf r).best∧Zf r.men.toNat (Vi (Ze r) (Xf r).best fee0)=(Xf r).bad:=by
 have h:=Ubz (bad:=(Xf r).bad) (Ze r) fee0 (Vbw ok) Za0 (by unfold Bx.bad;rw [Zy];rfl)
 unfold Bx.best
 rw [Zy]
 exact h
structure OwnR (T G:Za) (v:AV) (P:List (Int × AV)) (o:Option Nat):Prop where
 acc:Acc T G 1 v (P.map Prod.snd) o
 row:∀ p∈P,RowAt T.length G o p.2 [p.1]
theorem Vhk {u:List AV} {a b c d e f g h i j k:AV} (hu:192<u.length):tg (Zh u [(4,a),(5,b),(8,c),(23,d),(24,e),(25,f),(183,g),(184,h),(185,i),(191,j),(192,k)]) 4=a∧tg (Zh u [(4,a),(5,b),(8,c),(23,d),(24,e),(25,f),(183,g),(184,h),(185,i),(191,j),(192,k)]) 5=b∧tg (Zh u [(4,a),(5,b),(8,c),(23,d),(24,e),(25,f),(183,g),(184,h),(185,i),(191,j),(192,k)]) 8=c∧tg (Zh u [(4,a),(5,b),(8,c),(23,d),(24,e),(25,f),(183,g),(184,h),(185,i),(191,j),(192,k)]) 23=d∧tg (Zh u [(4,a),(5,b),(8,c),(23,d),(24,e),(25,f),(183,g),(184,h),(185,i),(191,j),(192,k)]) 24=e∧tg (Zh u [(4,a),(5,b),(8,c),(23,d),(24,e),(25,f),(183,g),(184,h),(185,i),(191,j),(192,k)]) 25=f ∧
  tg (Zh u [(4,a),(5,b),(8,c),(23,d),(24,e),(25,f),(183,g),(184,h),(185,i),(191,j),(192,k)]) 183=g∧tg (Zh u [(4,a),(5,b),(8,c),(23,d),(24,e),(25,f),(183,g),(184,h),(185,i),(191,j),(192,k)]) 184=h∧tg (Zh u [(4,a),(5,b),(8,c),(23,d),(24,e),(25,f),(183,g),(184,h),(185,i),(191,j),(192,k)]) 185=i∧tg (Zh u [(4,a),(5,b),(8,c),(23,d),(24,e),(25,f),(183,g),(184,h),(185,i),(191,j),(192,k)]) 191=j∧tg (Zh u [(4,a),(5,b),(8,c),(23,d),(24,e),(25,f),(183,g),(184,h),(185,i),(191,j),(192,k)]) 192=k:=by
 have q:∀ x,x≤192→x<u.length:=fun x hx=>by omega
 unfold Zh
 simp [tg,ts,q]
def ShN (r:Rl) (n p4:Nat) (L:List (List Int)) (T:Za) (env:Env) (σ':Za):Prop:=∃ (u:List AV) (w:Nat) (G:Za),env={ t:=u }∧u.length=260∧tg u 4=.ptr p4 0∧tg u 5=.ptr (p4+1) 0∧tg u 8=.int .i64 n∧tg u 183=.arr 1 (T.length - 1) 0 3∧tg u 184=.int .i64 3∧tg u 185=.int .i64 w∧w≤3∧σ'=T++G
def ShO (r:Rl) (n p4 w:Nat) (c:List Int) (T:Za) (env:Env) (σ':Za):Prop:=∃ (u:List AV) (j:Nat) (v:AV) (P:List (Int × AV)) (G:Za) (o:Option Nat),env={ t:=u }∧u.length=260∧tg u 4=.ptr p4 0∧tg u 5=.ptr (p4+1) 0∧tg u 8=.int .i64 n∧tg u 183=.arr 1 (T.length - 1) 0 3∧tg u 184=.int .i64 3∧tg u 185=.int .i64 w∧tg u 23=.int .i64 w∧tg u 24=.pl 1 (Ya c)∧tg u 25=v∧tg u 190=.pl 1 (Ya c)∧tg u 191=.int .i64 c.length∧tg u 192=.int .i64 j∧j≤c.length∧P.map Prod.fst=c.take j∧σ'=T++G∧OwnR T G v P o
attribute [local irreducible] aws awp aw1 Og Om Oc Oa Ogd Ov Ot awd Ua awh Xb Ogh Ohd awl Ogl Ohl awv Ogv Ohv Wb Vb QFn Zc Vg QRo QBe Yf Yg ACode AYield
set_option maxRecDepth 20000 in
set_option maxHeartbeats 8000000 in
theorem Yft {r:Rl} (ok:r.Ok) (h4:r.men≤4) {n p4:Nat} {d:DS} (hN:LeastN (Xd r) n d) (hK:r.ntcs≠[]) {cs:List Int} (hcs:ChF (Ze r) cs) {σ:Za} {env:Env} {s:Za} (hJ:ShM r n p4 cs σ env s) (Q:AV→Za→Prop) (hQ:∀ g,Q (.bool true) (σ++g)) :
  ACode Tryz.prog none (Yh 1 (Yh 9 (Yh 5 (Tryz.f3.body.getD .skip)).2).2).2 (QFn Tryz.prog Tryz.f3 Q) env s:=by
 obtain ⟨u,X,rfl,hl,g4,g5,g8,g10,g18,rfl,t4,t5⟩:=hJ
 have okR:=Wbd ok
 have bok:=Ycl ok h4
 have h1R:∀ x∈(Xd r).ntcs,x.times=1:=fun x hx=>by
  obtain ⟨n,_,rfl⟩:=List.mem_map.1 hx
  rfl
 have hcs':=hcs
 rw [← Zy] at hcs'
 obtain ⟨T0,hT0⟩:∃ T,σ++X=T:=⟨_,rfl⟩
 rw [hT0] at t4 t5 ⊢
 have cS:=Xek (Xf r) bok ok h4 (Zy r) cs hcs' T0
 have hbx:Zi (Xf r)=.agg [.int .i64 r.men,.int .i64 0,.int .i64 1,.int .i64 0,.pl 3 ((Xf r).rounds.map Wc)]:=rfl
 rw [hbx] at cS
 obtain ⟨RR,hRR⟩:∃ RR,(Xf r).rounds.map Wc=RR:=⟨_,rfl⟩
 obtain ⟨NN,hNN⟩:∃ NN,(Xd r).ntcs.map Ub=NN:=⟨_,rfl⟩
 obtain ⟨hb1,hb2⟩:=Ygj ok h4
 obtain ⟨bs,hbs⟩:∃ x,(Xf r).best=x:=⟨_,rfl⟩
 rw [hNN] at t4
 rw [hRR] at t5 cS
 rw [hbs] at g10 hb1 hb2
 refine Vk _ ?_
 dsimp only [Tryz.f3,Option.getD]
 simp [-Xa,Ybc,Xbn,hl,g4,g5,g8,g10,g18,t5]
 refine StA.of (cS.mono ?_)
 rintro _ s ⟨c2,k,hc2,rfl,hs⟩
 rw [hs]
 clear hs
 rw [Zy] at hc2
 simp [-Xa,hl,g4,g5,g8,g10,g18,t5]
 obtain ⟨T,hT⟩:∃ T,T0++[AObj.cells [.pl 1 (Ya cs),.pl 1 (Ya c2),.pl 1 (Ya bs)]]=T:=⟨_,rfl⟩
 have hTl:T.length=T0.length+1:=by rw [← hT];simp
 have hp4:=(Qzs.1 t4).1
 have hp5:=(Qzs.1 t5).1
 have x4:∀ Y:Za,(T++Y)[p4]? = some (.cells [.int .i64 r.men,.pl 2 NN]):=fun Y=>by rw [← hT,List.append_assoc,Qzl hp4];exact t4
 have x5:∀ Y:Za,(T++Y)[p4+1]? = some (.cells [.int .i64 r.men,.int .i64 0,.int .i64 1,.int .i64 0,.pl 3 RR]):=fun Y=>by rw [← hT,List.append_assoc,Qzl hp5];exact t5
 have xL:∀ Y:Za,(T++Y)[T.length - 1]? = some (.cells [.pl 1 (Ya cs),.pl 1 (Ya c2),.pl 1 (Ya bs)]):=fun Y=>by rw [hTl,← hT];simp
 have hTs:∀ Y,T++Y=σ++(X++[AObj.cells [.pl 1 (Ya cs),.pl 1 (Ya c2),.pl 1 (Ya bs)]]++Y):=fun Y=>by rw [← hT,← hT0];simp
 rw [hT]
 obtain ⟨L,hL⟩:∃ L,[cs,c2,bs]=L:=⟨_,rfl⟩
 refine Wd (ShN r n p4 L T) (fun env _=>match tg env.t 185 with | .int _ i=>3 - i.toNat | _=>0) ⟨_,0,[],rfl,by simp [hl],by simp [hl,g4],by simp [hl,g5],by simp [hl,g8],by simp [hl,hTl],by simp [hl],by simp [hl],by omega,by simp⟩ ?_
 clear hl g4 g5 g8 g10 g18
 rintro env _ ⟨u,w,G,rfl,hl,g4,g5,g8,g183,g184,g185,hw,rfl⟩
 rcases Qzn w 3 with hlt | hge
 ·have hlt':(w:Int)<3:=by omega
  have hww:=w64 (n:=(w:Int)+1) (by omega) (by omega)
  obtain ⟨c,hc,hcw⟩:∃ c,ChF (Ze r) c∧[AV.pl 1 (Ya cs),.pl 1 (Ya c2),.pl 1 (Ya bs)][w]? = some (.pl 1 (Ya c))∧(w=2→c=bs):=by
   match w,hlt with
   | 0,_=>exact ⟨cs,hcs,rfl,by omega⟩
   | 1,_=>exact ⟨c2,hc2,rfl,by omega⟩
   | 2,_=>exact ⟨bs,hb1,rfl,fun _=>rfl⟩
  obtain ⟨hcw,hw2⟩:=hcw
  have hle3:w+1≤3:=hlt
  have hcw3:=(Qzs.1 hcw).2
  have hil:(Ya c).length=c.length:=by simp [Ya]
  have hcl:c.length≤6:=by
   have:=hc.len
   have h2:=ok.few
   simp [Ze] at this
   omega
  simp [-Xa,hl,g4,g5,g8,g183,g184,g185,hlt',hlt,xL,hle3,hcw3,hil]
  refine Xci (ShO r n p4 w c T) (fun env _=>match tg env.t 192 with | .int _ i=>c.length - i.toNat | _=>0) ⟨_,0,.nils,[],G,none,rfl,by simp [hl],by simp [hl,g4],by simp [hl,g5],by simp [hl,g8],by simp [hl,g183],by simp [hl,g184],by simp [hl,g185],by simp [hl],by simp [hl],by simp [hl],by simp [hl],by simp [hl],by simp [hl],by omega,by simp,rfl,⟨Acc.nil _ _ _,fun p hp=>by simp at hp⟩⟩ ?_
  clear hl g4 g5 g8 g183 g184 g185
  rintro env _ ⟨u,j,v,P,G,o,rfl,hl,g4,g5,g8,g183,g184,g185,g23,g24,g25,g190,g191,g192,hj,hP,rfl,hA⟩
  rcases Qzn j c.length with hlj | hgj
  ·have hlj':(j:Int)<(c.length:Int):=by omega
   have hwj:=w64 (n:=(j:Int)+1) (by omega) (by omega)
   obtain ⟨m,hm⟩:∃ m,c[j]=m:=⟨_,rfl⟩
   have hmx:(Ya c)[j]'(by omega)=.int .i64 m:=by simp [Ya,hm]
   have hPl:P.length=j:=by have:=congrArg List.length hP;simp at this;omega
   obtain ⟨v',G',o',he,hA',hlen,hkeep,ho⟩:=((hA.acc.more [.cells [.int .i64 m]]).push (P:=Tryz.prog) (t:=38) (e:=32) (ag:=false) (x:=.arr 1 (T.length+G.length) 0 1) (by simp) (by simp) (by simp) (by omega) ⟨rfl,by simp [AV.cells,AV.one]⟩ (by simp;omega))
   simp [-Xa,Nat.add_assoc] at he
   refine .inl ?_
   simp [-Xa,Nat.add_assoc,hl,g4,g5,g8,g183,g184,g185,g23,g24,g25,g190,g191,g192,hlj,hlj',hil,hmx]
   rw [he,Wl]
   have hol:∀ k,o=some k→k<G.length:=fun k e=>by
    have:=hA.acc.val
    rw [e] at this
    exact (Qzs.1 this.2).1
   have ho2:o'=o∨∀ k,o'=some k→G.length+1≤k:=by
    rcases ho with h | ⟨k,h,e⟩
    ·exact .inl h
    ·exact .inr fun k' e'=>by rw [e] at e';have:=Option.some.inj e';simp at h;omega
   refine ⟨⟨_,j+1,v',P++[(m,.arr 1 (T.length+G.length) 0 1)],G',o',rfl,by simp [hl],by simp [hl,g4],by simp [hl,g5],by simp [hl,g8],by simp [hl,g183],by simp [hl,g184],by simp [hl,g185],by simp [hl,g23],by simp [hl,g24],by simp [hl],by simp [hl,g190],by simp [hl,g191],by simp [hl,hwj],hlj,?_,rfl,⟨by simpa using hA',fun p hp=>?_⟩⟩,by rw [hwj];omega⟩
   ·rw [Qzt hlj,List.map_append,hP,hm];rfl
   ·rcases List.mem_append.1 hp with hp | hp
    ·exact ((hA.row p hp).more [.cells [.int .i64 m]]).kept hkeep (by
      rcases ho2 with h | h
      ·exact .inl h
      ·exact .inr fun k e=>by have:=h k e;simp;omega)
    ·rw [List.mem_singleton.1 hp]
     have hne:some G.length≠o':=fun e=>by
      rcases ho2 with h | h
      ·have:=hol _ (h▸e.symm);omega
      ·have:=h _ e.symm;omega
     have hne0:some G.length≠o:=fun e=>by have:=hol _ e.symm;omega
     exact ⟨G.length,[],rfl,hne,by rw [hkeep _ hne0 (by simp)];simp [Ya]⟩
  ·have hgj':¬ (j:Int)<(c.length:Int):=by omega
   obtain rfl:j=c.length:=by omega
   rw [List.take_length] at hP
   have hz:Vw (fun r=>decide (T.length≤r)) (T++G) v (Uj (Wi c)):=by
    refine .inr (hA.acc.fzG (L':=(Wi c).map fun x=>.pl 1 (Ya x)) (by omega) (Nat.zero_le _) (fun k x _ e=>?_) (by have:=congrArg List.length hP;simp [Wi] at this ⊢;omega) fun i x y hx hy=>?_)
    ·exact Yaf (by rw [Qzr (by omega),Nat.add_sub_cancel_left];exact e) (by simp)
    ·rw [Qzp,Qzm] at hx
     obtain ⟨p,hp,rfl⟩:=hx
     have hcp:c[i]? = some p.1:=by rw [← hP,Qzp,hp];rfl
     have hy':y=.pl 1 (Ya [p.1]):=by
      unfold Wi at hy
      rw [List.map_map,Qzp,hcp] at hy
      exact (Option.some.inj hy).symm
     obtain ⟨q,rest,hq1,_,hq2⟩:=hA.row p (Qzg hp)
     subst hy'
     rw [hq1]
     refine ⟨rfl,fun z hz=>by simp [AV.cells] at hz;subst hz;rfl,fun k a b ha hb=>?_⟩
     match k,ha,hb with
     | 0,ha,hb =>
      simp [AV.cells] at ha hb
      subst ha;subst hb
      have hT':(T++G)[T.length+q]? = some (.cells (Ya [p.1]++rest)):=by rw [Qzr (by omega),Nat.add_sub_cancel_left];exact hq2
      exact Wag (l:=[p.1]) (Nat.zero_le _) (Yaf (p:=fun r=>decide (T.length≤r)) hT' (by simp)) fun i x hx=>by
       match i,hx with
       | 0,hx=>simp at hx;subst hx;rfl
       | i+1,hx=>simp at hx
     | k+1,ha,hb=>simp [AV.cells] at ha
   refine .inr ⟨_,_,Zh u [(4,.ptr p4 0),(5,.ptr (p4+1) 0),(8,.int .i64 n),(23,.int .i64 w),(24,.pl 1 (Ya c)),(25,Uj (Wi c)),(183,.arr 1 (T.length - 1) 0 3),(184,.int .i64 3),(185,.int .i64 w),(191,.int .i64 c.length),(192,.int .i64 c.length)],View.dropS T G,Yad _ _,Xa2 (by
    simp only [List.mem_cons,List.not_mem_nil,or_false]
    rintro p (rfl | rfl | rfl | rfl | rfl | rfl | rfl | rfl | rfl | rfl | rfl)<;>dsimp only<;>first | (rw [g4];exact .inl rfl) | (rw [g5];exact .inl rfl) | (rw [g8];exact .inl rfl) | (rw [g23];exact .inl rfl) | (rw [g24];exact .inl rfl) | (rw [g25];exact hz) | (rw [g183];exact .inl rfl) | (rw [g184];exact .inl rfl) | (rw [g185];exact .inl rfl) | (rw [g191];exact .inl rfl) | (rw [g192];exact .inl rfl)),?_⟩
   obtain ⟨p1,p2,p3,p5,p6,p7,p8,p9,p10,p11,p12⟩:=Vhk (u:=u) (a:=.ptr p4 0) (b:=.ptr (p4+1) 0) (c:=.int .i64 n) (d:=.int .i64 w) (e:=.pl 1 (Ya c)) (f:=Uj (Wi c)) (g:=.arr 1 (T.length - 1) 0 3) (h:=.int .i64 3) (i:=.int .i64 w) (j:=.int .i64 c.length) (k:=.int .i64 c.length) (by omega)
   have hl3:=(Yad u [(4,.ptr p4 0),(5,.ptr (p4+1) 0),(8,.int .i64 n),(23,.int .i64 w),(24,.pl 1 (Ya c)),(25,Uj (Wi c)),(183,.arr 1 (T.length - 1) 0 3),(184,.int .i64 3),(185,.int .i64 w),(191,.int .i64 c.length),(192,.int .i64 c.length)]).trans hl
   obtain ⟨u3,hu3⟩:∃ x,Zh u [(4,.ptr p4 0),(5,.ptr (p4+1) 0),(8,.int .i64 n),(23,.int .i64 w),(24,.pl 1 (Ya c)),(25,Uj (Wi c)),(183,.arr 1 (T.length - 1) 0 3),(184,.int .i64 3),(185,.int .i64 w),(191,.int .i64 c.length),(192,.int .i64 c.length)]=x:=⟨_,rfl⟩
   rw [hu3] at hl3 p1 p2 p3 p5 p6 p7 p8 p9 p10 p11 p12 ⊢
   have hcR:ChF (Ze (Xd r)) c:=by rw [Uaq];exact hc
   have hcB:ChF (Xf r).rs c:=by rw [Zy];exact hc
   have cLd:=fun Y=>Zdj (Xd r) (Wi c) okR (Ub9 okR h1R hcR) (T++Y)
   have cSl:=fun Y=>Wf7 (Xd r) (Wi c) okR (Ub9 okR h1R hcR) (T++Y)
   have cF:=Wg1 (Xf r) bok c hcB
   have hrl:Ug (Xd r)=.agg [.int .i64 r.men,.pl 2 ((Xd r).ntcs.map Ub)]:=rfl
   have hrS:Uj (Wi c)=.pl 1 ((Wi c).map fun x=>.pl 1 (Ya x)):=rfl
   obtain ⟨XS,hXS⟩:∃ X,Uj (Wi c)=X:=⟨_,rfl⟩
   rw [hrl,hNN,hXS] at cLd cSl
   rw [hbx,hRR] at cF
   rw [hXS] at p7
   obtain ⟨s1,s2,s3⟩:=Vhr okR h4 h1R (fun h=>hK (by simpa [Xd] using h)) hN hcR
   have hld:=Wb2 okR h4 hcR
   rw [Uaq] at hld s3
   have hfe:(Xf r).fees c=Vi (Ze r) c fee0:=by unfold Bx.fees;rw [Zy];rfl
   have hcr:(Xf r).criers.toNat=(Xd r).men.toNat:=rfl
   rw [hfe,hcr,← hld] at cF
   obtain ⟨LD,hLD⟩:∃ x,Zs (Xd r).men.toNat (Wi c)=x:=⟨_,rfl⟩
   rw [hLD] at s1 hld cLd cF
   have hLl:LD.length≤4:=by rw [hld];simp;have:(Vi (Ze r) c fee0).length=4:=Yaj _ _ _;omega
   have hLi:(Ya LD).length=LD.length:=by simp [Ya]
   clear hl g4 g5 g8 g183 g184 g185 g23 g24 g25 g190 g191 g192 hz hA
   simp [-Xa,hl3,p1,p2,p3,p5,p6,p7,p8,p9,p10,p11,p12,x4]
   refine StA.of ((cLd _).mono ?_)
   rintro _ _ ⟨rfl,G1,rfl⟩
   simp [-Xa,hl3,p1,p2,p3,p5,p6,p7,p8,p9,p10,p11,p12,x4,x5]
   refine cF.use ?_
   simp [-Xa,hl3,p1,p2,p3,p5,p6,p7,p8,p9,p10,p11,p12,x4,x5]
   refine StA.of ((cSl _).mono ?_)
   rintro _ _ ⟨rfl,G2,rfl⟩
   simp [-Xa,hl3,p1,p2,p3,p5,p6,p7,p8,p9,p10,p11,p12,x4,x5]
   refine (Vda LD (by omega)).use ?_
   simp [-Xa,hl3,p1,p2,p3,p5,p6,p7,p8,p9,p10,p11,p12,x4,x5]
   have hLn:LD≠[]:=fun e=>by
    have h1:=congrArg List.length hld
    have h2:=okR.m1
    have h3:(Vi (Ze r) c fee0).length=4:=Yaj _ _ _
    rw [e] at h1
    simp [h3] at h1
    omega
   obtain ⟨S9,hS9⟩:∃ x,T++((G.map fun _=>AObj.dead)++(G1++G2))=x:=⟨_,rfl⟩
   have hS9l:S9.length=T.length+(G.length+(G1.length+G2.length)):=by rw [← hS9];simp
   have hS9h:T++((G.map fun _=>AObj.dead)++(G1++(G2++[AObj.cells [AV.int IntKind.i64 1]])))=S9++[.cells [.int .i64 1]]:=by rw [← hS9];simp
   rw [← hS9l,hS9h,Xcr S9 LD hLn (by omega),Wl]
   have hmx:=Ybw (1::LD) (by simp) (by simp;omega)
   have hbad:(Xf r).bad=n:=by
    have:=Vb8 okR h4 h1R hN
    rw [Uaq] at this
    unfold Bx.bad
    rw [Zy]
    exact this
   refine StA.of ((APure.lend (args':=[.arr 1 (S9.length+1) 0 (LD.length+1)]) hmx (σ:=S9++[.dead,.cells (Ya (1::LD))]) rfl (fun i x y hx hy=>?_) (fun C C' c hv=>by cases hv;exact .int _ _)).mono ?_)
   ·match i,hx,hy with
    | 0,hx,hy =>
     simp at hx hy
     subst hx;subst hy
     have:=Wbh (n:=0) (S:=S9++[.dead,.cells (Ya (1::LD))]) (r:=S9.length+1) (l:=1::LD) (Nat.zero_le _) (by simp)
     simpa using this
    | i+1,hx,hy=>simp at hx
   ·rintro _ _ ⟨rfl,rfl⟩
    rw [← s1]
    have hs2:¬ slotsOf (Xd r) (Wi c)<n:=by omega
    simp [-Xa,hl3,p1,p2,p3,p5,p6,p7,p8,p9,p10,p11,p12,hs2]
    by_cases e:(w:Int)=2
    ·have hsn:slotsOf (Xd r) (Wi c)=n:=s3 (by rw [hw2 (by omega)];exact hb2.trans hbad)
     have hsn':¬ (n:Int)<n:=by omega
     simp [-Xa,hl3,p1,p2,p3,p5,p6,p7,p8,p9,p10,p11,p12,hs2,e,hsn,hww]
     have hw3:IntKind.i64.wrap 3=3:=by decide
     have e':w=2:=by omega
     refine ⟨⟨_,3,(G.map fun _=>AObj.dead)++(G1++(G2++[.dead,.cells (Ya (1::LD))])),rfl,by simp [hl3],by simp [hl3,p1],by simp [hl3,p2],by simp [hl3,p3],by simp [hl3,p8],by simp [hl3,p9],by simp [hl3,hw3],by omega,by rw [← hS9];simp⟩,by rw [hw3];omega⟩
    ·simp [-Xa,hl3,p1,p2,p3,p5,p6,p7,p8,p9,p10,p11,p12,hs2,e,hww]
     refine ⟨⟨_,w+1,(G.map fun _=>AObj.dead)++(G1++(G2++[.dead,.cells (Ya (1::LD))])),rfl,by simp [hl3],by simp [hl3,p1],by simp [hl3,p2],by simp [hl3,p3],by simp [hl3,p8],by simp [hl3,p9],by simp [hl3],by omega,by rw [← hS9];simp⟩,by omega⟩
 ·have hge':¬ (w:Int)<3:=by omega
  simp [-Xa,hl,g4,g5,g8,g183,g184,g185,hge']
  refine awake11_calls.use ?_
  try simp [hl]
  rw [hTs]
  exact hQ _
end Ab
namespace Ab
open Go Go.RowKit Go.Proofs
theorem Ygz (l1:List UInt8) (h1:l1.length≤9223372036854775807):APure Tryz.prog 3 [.pl 1 (Zn l1)] (.bool true):=by
 refine APure.of fun σ=>Wgs l1 h1 σ _ fun env s h=>?_
 obtain ⟨B,r,v1,o,p4,hB,ok,hm4,hn6,hI,h44⟩:=h
 refine Uew l1 hB hI h44 fun env s hJ=>?_
 refine Wfy l1 ok hm4 hJ _ (fun g=>⟨g,rfl,.bool _⟩) fun env s n d hN hK hKs=>?_
 refine Vh1 l1 h1 ok hm4 hKs _ fun env s cs hcs hM=>?_
 exact Yft ok hm4 hN hK hcs hM _ (fun g=>⟨g,rfl,.bool _⟩)
end Ab

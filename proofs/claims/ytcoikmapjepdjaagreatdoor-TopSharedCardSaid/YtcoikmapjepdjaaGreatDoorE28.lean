/-
  Texts packed for a claim.
-/
import Derived.Test.YtcoikmapjepdjaaGreatDoorE00
import Derived.Test.YtcoikmapjepdjaaGreatDoorE27
set_option linter.all false
namespace Ab
open Go Go.RowKit Go.Proofs
def Vt (t:List Int→Int) (rs:List (Int × List Int)) (bad:Int) (i:Nat) (f:List Int) (x:Int):List Int→List (AV × AV)→Nat→Nat × List (AV × AV)
 | [],es,k=>(k,es)
 | c::cs,es,k=>if (Wk t rs (i+1) (Zd f c x) es).1=bad then (k,(Wk t rs (i+1) (Zd f c x) es).2) else Vt t rs bad i f x cs (Wk t rs (i+1) (Zd f c x) es).2 (k+1)
theorem Xhl {t:List Int→Int} {R rs:List (Int × List Int)} {bad:Int} {i:Nat} {f:List Int} {x:Int} (hR:R.drop (i+1)=rs) (hf:f.length=4):∀ (cs:List Int) (es:List (AV × AV)) (k:Nat),Memo t R es→(∃ c∈cs,Uh t rs (Zd f c x)=bad) →
  Memo t R (Vt t rs bad i f x cs es k).2∧k≤(Vt t rs bad i f x cs es k).1∧∃ c,cs[(Vt t rs bad i f x cs es k).1 - k]? = some c∧(cs.find? fun c=>Uh t rs (Zd f c x) == bad)=some c:=by
 intro cs
 induction cs with
 | nil=>intro es k _ h;obtain ⟨c,hc,_⟩:=h;cases hc
 | cons c cs ih =>
  intro es k hm h
  obtain ⟨q1,q2⟩:=Wav (t:=t) (R:=R) rs (i+1) (Zd f c x) es hR (by rw [Uy];exact hf) hm
  rw [Vt,q1]
  by_cases e:Uh t rs (Zd f c x)=bad
  ·rw [if_pos e]
   refine ⟨q2,Nat.le_refl _,c,by simp,?_⟩
   rw [List.find?_cons_of_pos (by simpa using e)]
  ·rw [if_neg e]
   obtain ⟨d,hd,hd2⟩:=h
   have hd':d∈cs:=by
    rcases List.mem_cons.1 hd with rfl | h
    ·exact absurd hd2 e
    ·exact h
   obtain ⟨r1,r2,d',r3,r4⟩:=ih _ (k+1) q2 ⟨d,hd',hd2⟩
   refine ⟨r1,by omega,d',?_,?_⟩
   ·rw [show (Vt t rs bad i f x cs (Wk t rs (i+1) (Zd f c x) es).2 (k+1)).1 - k=((Vt t rs bad i f x cs (Wk t rs (i+1) (Zd f c x) es).2 (k+1)).1 - (k+1))+1 by omega,List.getElem?_cons_succ]
    exact r3
   ·rw [List.find?_cons_of_neg (by simpa using e)]
    exact r4
structure AsAt (b:Bx) (σ:Za) (q a bb c e j s bd:Nat) (i:Nat) (f:List Int) (bad:Int):Prop where
 rs:RsAt b σ q a bb c e j
 st:σ[s]? = some (.cells (.int .i64 i::Ya f))
 bd:σ[bd]? = some (.cells [.int .i64 bad])
theorem AsAt.turn {b:Bx} {σ:Za} {q a bb c e j s bd i:Nat} {f:List Int} {bad:Int} (h:AsAt b σ q a bb c e j s bd i f bad) {es es':List (AV × AV)} (hj:σ[j]? = some (.map es)):AsAt b (σ.set j (.map es')) q a bb c e j s bd i f bad:=by
 have key:∀ (k:Nat) (cs:List AV),σ[k]? = some (.cells cs)→(σ.set j (.map es'))[k]? = some (.cells cs):=fun k cs hk=>by
  rw [List.getElem?_set_ne (fun e=>by subst e;rw [hj] at hk;cases hk)]
  exact hk
 exact ⟨h.rs.turn hj,key _ _ h.st,key _ _ h.bd⟩
attribute [local irreducible] aws awp aw1 Og Om Oc Oa Ogd Ov Ot awd Ua awh Xb Ogh Ohd awl Ogl Ohl awv Ogv Ohv Wb Vb QFn Zc Vg QRo QBe Yf Yg ACode AYield
set_option maxHeartbeats 4000000 in
theorem We5 (b:Bx) (h:b.Ok) {q a bb c e j s bd i:Nat} {f:List Int} {bad:Int} {σ:Za} (hat:AsAt b σ q a bb c e j s bd i f bad) {es:List (AV × AV)} (hj:σ[j]? = some (.map es)) (hm:Memo (Zf b.criers.toNat) b.rs es) (hf:FeeB i f) {r:Rnd} (hr:b.rounds[i]? = some r) {d:Int} (hd:d∈r.may) :
  ACalls Tryz.prog 153 [.int .i64 d,.ptr e 0,.ptr a 0,.ptr s 0,.ptr bd 0] σ fun v s=>v=.bool (decide ((Wk (Zf b.criers.toNat) (b.rs.drop (i+1)) (i+1) (Zd f d (b.fee r)) es).1=bad))∧s=σ.set j (.map (Wk (Zf b.criers.toNat) (b.rs.drop (i+1)) (i+1) (Zd f d (b.fee r)) es).2):=by
 refine Yb Tryz.func153 rfl (Zb Tryz.func153 (by decide) rfl) ?_
 obtain ⟨hi,hri⟩:=Qzs.1 hr
 have ok:r.Ok b.criers:=hri▸h.each _ (List.getElem_mem hi)
 have hfew:=h.few
 have cG:=Wbi b h σ q hat.rs.hdk i r hr f hf.1 (fun x hx=>by have:=hf.2 x hx;omega) d hd
 have cR:=Xcc b h q a bb c e j (b.rounds.length - (i+1)) (i+1) (Zd f d (b.fee r)) es σ (by omega) (hf.add h ok hd) hat.rs hj hm
 have hat2:=hat.turn (es':=(Wk (Zf b.criers.toNat) (b.rs.drop (i+1)) (i+1) (Zd f d (b.fee r)) es).2) hj
 match f,hf with
 | [a0,a1,a2,a3],hf =>
  have hst:=hat.st
  have e0:Ya [a0,a1,a2,a3]=[.int .i64 a0,.int .i64 a1,.int .i64 a2,.int .i64 a3]:=rfl
  rw [e0] at hst
  have hst2:AV.agg [.int .i64 i,.int .i64 a0,.int .i64 a1,.int .i64 a2,.int .i64 a3]=stF i [a0,a1,a2,a3]:=rfl
  rw [← hst2] at cG
  simp [Tryz.ntmps153]
  refine Xp [5] [(6,0)] mixed (by kernel_rfl) (by kernel_rfl) ?_
  have hset:∀ es2,σ.set j (.map es2)=σ.set j (.map es2):=fun _=>rfl
  simp [hat.rs.ha,hat.rs.hdk,hat.rs.he,hst,hat.bd]
  refine Wa1 cG ?_
  try simp [hat.rs.ha,hat.rs.hdk,hat.rs.he,hst,hat.bd]
  refine Zab (xs:=[]) (args:=[stF (i+1) (Zd [a0,a1,a2,a3] d (b.fee r))]) (ys:=[.ptr a 0,.ptr bb 0,.ptr c 0,.ptr e 0]) cR ?_
  simp [hat2.bd]
theorem Xfs {σ:Za} {j:Nat} {es:List (AV × AV)} (h:σ[j]? = some (.map es)) (es' es2:List (AV × AV)):(σ.set j (.map es'))[j]? = some (.map es')∧(σ.set j (.map es')).set j (.map es2)=σ.set j (.map es2) :=
 ⟨List.getElem?_set_self (Qzs.1 h).1,by rw [List.set_set]⟩
set_option maxHeartbeats 4000000 in
theorem Zfl (b:Bx) (h:b.Ok) {q a bb c e j s bd i:Nat} {f:List Int} {bad:Int} {σ:Za} (hat:AsAt b σ q a bb c e j s bd i f bad) {es:List (AV × AV)} (hj:σ[j]? = some (.map es)) (hm:Memo (Zf b.criers.toNat) b.rs es) (hf:FeeB i f) {r:Rnd} (hr:b.rounds[i]? = some r) (hex:∃ d∈r.may,Uh (Zf b.criers.toNat) (b.rs.drop (i+1)) (Zd f d (b.fee r))=bad) :
  ACalls Tryz.prog 152 [.pl 1 (Ya r.may),.fn (.func 153) [] [.ptr e 0,.ptr a 0,.ptr s 0,.ptr bd 0]] σ fun v st=>v=.int .i64 ((Vt (Zf b.criers.toNat) (b.rs.drop (i+1)) bad i f (b.fee r) r.may es 0).1:Nat)∧st=σ.set j (.map (Vt (Zf b.criers.toNat) (b.rs.drop (i+1)) bad i f (b.fee r) r.may es 0).2):=by
 refine Yb Tryz.func152 rfl (Zb Tryz.func152 (by decide) rfl) ?_
 obtain ⟨hi,hri⟩:=Qzs.1 hr
 have ok:r.Ok b.criers:=hri▸h.each _ (List.getElem_mem hi)
 have hms:=ok.short h.c4
 obtain ⟨R,hR⟩:∃ R,Vt (Zf b.criers.toNat) (b.rs.drop (i+1)) bad i f (b.fee r) r.may es 0=R:=⟨_,rfl⟩
 rw [hR]
 have hil:(Ya r.may).length=r.may.length:=by simp [Ya]
 simp [Tryz.ntmps152]
 refine Wd (fun env σ'=>∃ (u:List AV) (k:Nat) (es':List (AV × AV)),env={ t:=u }∧u.length=19∧tg u 0=.pl 1 (Ya r.may)∧tg u 1=.fn (.func 153) [] [.ptr e 0,.ptr a 0,.ptr s 0,.ptr bd 0]∧tg u 7=.int .i64 r.may.length∧tg u 8=.int .i64 k∧k≤r.may.length∧σ'=σ.set j (.map es')∧Memo (Zf b.criers.toNat) b.rs es' ∧
   Vt (Zf b.criers.toNat) (b.rs.drop (i+1)) bad i f (b.fee r) (r.may.drop k) es' k=R∧∃ d∈r.may.drop k,Uh (Zf b.criers.toNat) (b.rs.drop (i+1)) (Zd f d (b.fee r))=bad)
  (fun env _=>match tg env.t 8 with | .int _ i=>r.may.length - i.toNat | _=>0) ⟨_,0,es,rfl,by simp,by simp,by simp,by simp [hil],by simp,by omega,(Xa4 hj).symm,hm,by simpa using hR,by simpa using hex⟩ ?_
 rintro env _ ⟨u,k,es',rfl,hl0,g0,g1,g7,g8,hk,rfl,hm',hsk,hex'⟩
 rcases Qzn k r.may.length with hlt | hge
 ·have hlt':(k:Int)<(r.may.length:Int):=by omega
  have hw1:=w64 (n:=(k:Int)+1) (by omega) (by omega)
  obtain ⟨d,hde⟩:∃ d,r.may[k]=d:=⟨_,rfl⟩
  have hd0:d∈r.may:=hde▸List.getElem_mem hlt
  have hmx:(Ya r.may)[k]'(by omega)=.int .i64 d:=by simp [Ya,hde]
  have hdrop:r.may.drop k=d::r.may.drop (k+1):=by rw [List.drop_eq_getElem_cons hlt,hde]
  have hj':=(Xfs hj es' es').1
  have cA:=We5 b h (hat.turn (es':=es') hj) hj' hm' hf hr hd0
  obtain ⟨q1,q2⟩:=Wav (t:=Zf b.criers.toNat) (R:=b.rs) (b.rs.drop (i+1)) (i+1) (Zd f d (b.fee r)) es' rfl (by rw [Uy];exact hf.1) hm'
  rw [hdrop,Vt] at hsk
  rw [hdrop] at hex'
  obtain ⟨Y,hY⟩:∃ Y,Wk (Zf b.criers.toNat) (b.rs.drop (i+1)) (i+1) (Zd f d (b.fee r)) es'=Y:=⟨_,rfl⟩
  rw [hY] at cA q1 q2 hsk
  simp [hl0,g0,g1,g7,g8,hlt',hlt,hil,hmx]
  refine StA.of (cA.mono ?_)
  rintro _ _ ⟨rfl,rfl⟩
  by_cases hb:Y.1=bad
  ·rw [if_pos hb] at hsk
   subst hsk
   simp [hl0,g0,g1,g7,g8,hlt',hlt,hb]
  ·rw [if_neg hb] at hsk
   simp [hl0,g0,g1,g7,g8,hlt',hlt,hb,hw1]
   refine ⟨⟨k+1,by simp,hlt,Y.2,rfl,q2,hsk,?_⟩,by omega⟩
   obtain ⟨d',h1,h2⟩:=hex'
   rcases List.mem_cons.1 h1 with rfl | h1
   ·exact absurd (q1.trans h2) hb
   ·exact ⟨d',h1,h2⟩
 ·obtain ⟨d',h1,_⟩:=hex'
  rw [List.drop_eq_nil_of_le hge] at h1
  cases h1
def Vbs (f:List Int):Prop:=f.length=4∧∀ x∈f,0≤x
theorem Bx.TF (b:Bx) (h:b.Ok):Ab.TF (Zf b.criers.toNat) Vbs b.rs:=by
 refine ⟨fun f hf=>Wbz hf.2,fun x hx c hc f hf=>⟨by rw [Uy];exact hf.1,Xb8 ?_ hf.2⟩,fun x hx=>?_⟩
 ·obtain ⟨r,hr,rfl⟩:=List.mem_map.1 hx
  exact (Bx.fee_le h (h.each r hr)).2.1
 ·obtain ⟨r,hr,rfl⟩:=List.mem_map.1 hx
  exact (h.each r hr).ne
theorem TF.drop {t:List Int→Int} {P:List Int→Prop} {rs:List (Int × List Int)} (h:Ab.TF t P rs) (i:Nat):Ab.TF t P (rs.drop i):=⟨h.pos,fun x hx=>h.step x (List.mem_of_mem_drop hx),fun x hx=>h.ne x (List.mem_of_mem_drop hx)⟩
def Bx.bad (b:Bx):Int:=Uh (Zf b.criers.toNat) b.rs [0,0,0,0]
def Bx.best (b:Bx):List Int:=Ww (Zf b.criers.toNat) b.bad b.rs [0,0,0,0]
theorem Ua2 {n:Nat} {b g T:Za} {v:AV} {l:List Int} {o:Option Nat} (h:Acc b g 1 v (Ya l) o) (hn:n≤b.length) (hT:∀ (j:Nat) x,g[j]? = some (.cells x)→T[b.length+j]? = some (.cells x)):Fz n T v (.pl 1 (Ya l)):=by
 refine h.fzG (by omega) hn (fun j x _ e=>hT j x e) rfl fun i x y hx hy=>?_
 rw [hx] at hy
 obtain rfl:=Option.some.inj hy
 have hm:=Qzg hx
 unfold Ya at hm
 obtain ⟨z,_,rfl⟩:=List.mem_map.1 hm
 refine ⟨rfl,fun z hz=>?_,fun j a b ha hb=>?_⟩
 ·simp [AV.cells] at hz;subst hz;rfl
 ·rw [ha] at hb
  obtain rfl:=Option.some.inj hb
  have:=Qzg ha
  simp [AV.cells] at this
  subst this
  exact .int _ _
theorem Yd4 {n:Nat} {σ:Za} {a a':AV} {x:Int} (h1:Fz n σ a a'):Fz n σ (.tup [a,.int .i64 x]) (.tup [a',.int .i64 x]):=by simp [h1]
def lsO (σ:Za) (q:Nat) (es:List (AV × AV)) (i:Nat) (f:List Int) (bad:Int):Za:=[.cells [.ptr q 0],.cells [.fn (.func 68) [.ptr q 0] []],.map es,.cells [.mp (σ.length+2)],.cells [.fn (.func 150) [] [.ptr σ.length 0,.ptr (σ.length+1) 0,.ptr (σ.length+3) 0,.ptr (σ.length+4) 0]],.cells (.int .i64 i::Ya f),.cells [.int .i64 bad]]
set_option maxHeartbeats 4000000 in
theorem Vhl (b:Bx) (h:b.Ok) (σ:Za) (q:Nat) (hq:σ[q]? = some (.cells (Xc b))) :
  ACalls Tryz.prog 67 [.ptr q 0,.agg [.fn (.func 68) [.ptr q 0] []]] σ fun v s=>v=.tup [.pl 1 (Ya b.best),.int .i64 b.bad]∧s=σ:=by
 refine ACalls.forgetT ?_
 refine Yb Tryz.func67 rfl (Zb Tryz.func67 (by decide) rfl) ?_
 have hql:=(Qzs.1 hq).1
 have hfew:=h.few
 have cR:=Xcc b h q σ.length (σ.length+1) (σ.length+3) (σ.length+4) (σ.length+2) b.rounds.length 0 [0,0,0,0] [] (σ++[.cells [.ptr q 0],.cells [.fn (.func 68) [.ptr q 0] []],.map [],.cells [.mp (σ.length+2)],.cells [.fn (.func 150) [] [.ptr σ.length 0,.ptr (σ.length+1) 0,.ptr (σ.length+3) 0,.ptr (σ.length+4) 0]],.cells [.int .i64 0,.int .i64 0,.int .i64 0,.int .i64 0,.int .i64 0]]) (by omega) ⟨rfl,fun x hx=>by simp at hx;omega⟩ ⟨by rw [Qzl hql];exact hq,by simp,by simp,by simp,by simp⟩ (by simp) (fun e he=>by cases he)
 obtain ⟨m1,m2⟩:=Wav (t:=Zf b.criers.toNat) (R:=b.rs) b.rs 0 [0,0,0,0] [] rfl rfl (fun e he=>by cases he)
 rw [List.drop_zero] at cR
 simp [-Xa,Tryz.ntmps67,Nat.add_assoc]
 refine StA.of (cR.mono ?_)
 rintro _ _ ⟨rfl,rfl⟩
 obtain ⟨es0,hes0⟩:∃ x,(Wk (Zf b.criers.toNat) b.rs 0 [0,0,0,0] []).2=x:=⟨_,rfl⟩
 rw [m1,hes0]
 rw [hes0] at m2
 have hbad:Uh (Zf b.criers.toNat) b.rs [0,0,0,0]=b.bad:=rfl
 rw [hbad]
 have hset:(σ++[AObj.cells [.ptr q 0],.cells [.fn (.func 68) [.ptr q 0] []],.map [],.cells [.mp (σ.length+2)],.cells [.fn (.func 150) [] [.ptr σ.length 0,.ptr (σ.length+1) 0,.ptr (σ.length+3) 0,.ptr (σ.length+4) 0]],.cells [.int .i64 0,.int .i64 0,.int .i64 0,.int .i64 0,.int .i64 0]]).set (σ.length+2) (.map es0)=σ++[AObj.cells [.ptr q 0],.cells [.fn (.func 68) [.ptr q 0] []],.map es0,.cells [.mp (σ.length+2)],.cells [.fn (.func 150) [] [.ptr σ.length 0,.ptr (σ.length+1) 0,.ptr (σ.length+3) 0,.ptr (σ.length+4) 0]],.cells [.int .i64 0,.int .i64 0,.int .i64 0,.int .i64 0,.int .i64 0]]:=by simp
 rw [hset]
 simp [-Xa,Nat.add_assoc]
 refine Wd (fun env σ'=>∃ (u:List AV) (i:Nat) (f:List Int) (es:List (AV × AV)) (v:AV) (out:List Int) (o:Option Nat) (g:Za),env={ t:=u }∧u.length=53∧tg u 2=.ptr σ.length 0∧tg u 7=.ptr (σ.length+4) 0∧tg u 8=v∧tg u 9=.ptr (σ.length+5) 0∧tg u 10=.ptr (σ.length+6) 0∧i≤b.rounds.length ∧
   σ'=σ++(lsO σ q es i f b.bad++g)∧Acc (σ++[zFe,zFe,zFe,zFe,zFe,zFe,zFe]) g 1 v (Ya out) o∧FeeB i f∧Memo (Zf b.criers.toNat) b.rs es∧Uh (Zf b.criers.toNat) (b.rs.drop i) f=b.bad∧out++Ww (Zf b.criers.toNat) b.bad (b.rs.drop i) f=b.best∧out.length=i)
  (fun env σ'=>match σ'[σ.length+5]? with | some (.cells (.int _ i::_))=>b.rounds.length - i.toNat | _=>0) ⟨_,0,[0,0,0,0],es0,.nils,[],none,[],rfl,by simp,by simp,by simp,by simp,by simp,by simp,by omega,by simp [lsO,Ya],by simpa [Ya] using Acc.nil _ _ _,⟨rfl,fun x hx=>by simp at hx;omega⟩,m2,rfl,rfl,rfl⟩ ?_
 clear cR m1 m2 hes0 hset
 rintro env _ ⟨u,i,f,es,v,out,o,g,rfl,hl,g2,g7,g8,g9,g10,hi,rfl,hA,hf,hm,hrest,hpick,hol⟩
 match f,hf with
 | [a0,a1,a2,a3],hf =>
  have e0:Ya [a0,a1,a2,a3]=[.int .i64 a0,.int .i64 a1,.int .i64 a2,.int .i64 a3]:=rfl
  have hqX:∀ X:Za,(σ++X)[q]? = some (.cells (Xc b)):=fun X=>by rw [Qzl hql];exact hq
  have hrl:(b.rounds.map Wc).length=b.rounds.length:=by simp
  rcases Qzn i b.rounds.length with hlt | hge
  ·have hlt':(i:Int)<(b.rounds.length:Int):=by omega
   obtain ⟨r,hr⟩:∃ r,b.rounds[i]=r:=⟨_,rfl⟩
   have hr?:b.rounds[i]? = some r:=by rw [Qze hlt,hr]
   have ok:r.Ok b.criers:=hr▸h.each _ (List.getElem_mem hlt)
   have hd:b.rs.drop i=(b.fee r,r.may)::b.rs.drop (i+1):=by
    rw [List.drop_eq_getElem_cons (by simp [Bx.rs];exact hlt)]
    simp [Bx.rs,hr]
   have hil:i<(b.rounds.map Wc).length:=by simpa using hlt
   have hix:(b.rounds.map Wc)[i]'hil=.agg [.int .i64 r.words,.int .i64 r.stands,.pl 1 (Ya r.may)]:=by simp [hr,Wc]
   have hml:(Ya r.may).length=r.may.length:=by simp [Ya]
   have hP:Vbs [a0,a1,a2,a3]:=⟨rfl,fun x hx=>(hf.2 x hx).1⟩
   obtain ⟨d0,hd0,hd1⟩:=Zb5 (f:=[a0,a1,a2,a3]) (hd▸(b.TF h).drop i) hP
   rw [← hd,hrest] at hd1
   have hex:∃ d∈r.may,Uh (Zf b.criers.toNat) (b.rs.drop (i+1)) (Zd [a0,a1,a2,a3] d (b.fee r))=b.bad:=⟨d0,hd0,hd1⟩
   have hat:AsAt b (σ++(lsO σ q es i [a0,a1,a2,a3] b.bad++g)) q σ.length (σ.length+1) (σ.length+3) (σ.length+4) (σ.length+2) (σ.length+5) (σ.length+6) i [a0,a1,a2,a3] b.bad :=
    ⟨⟨hqX _,by simp [lsO],by simp [lsO],by simp [lsO],by simp [lsO]⟩,by simp [lsO],by simp [lsO]⟩
   have hj:(σ++(lsO σ q es i [a0,a1,a2,a3] b.bad++g))[σ.length+2]? = some (.map es):=by simp [lsO]
   have cS:=Zfl b h hat hj hm hf hr? hex
   obtain ⟨q1,_,d,q3,q4⟩:=Xhl (t:=Zf b.criers.toNat) (R:=b.rs) (rs:=b.rs.drop (i+1)) (bad:=b.bad) (i:=i) (f:=[a0,a1,a2,a3]) (x:=b.fee r) rfl rfl r.may es 0 hm hex
   obtain ⟨⟨kk,es2⟩,hke⟩:∃ Y,Vt (Zf b.criers.toNat) (b.rs.drop (i+1)) b.bad i [a0,a1,a2,a3] (b.fee r) r.may es 0=Y:=⟨_,rfl⟩
   rw [hke] at cS q1 q3
   rw [Nat.sub_zero] at q3
   dsimp only at cS q1 q3
   have hset:(σ++(lsO σ q es i [a0,a1,a2,a3] b.bad++g)).set (σ.length+2) (.map es2)=σ++(lsO σ q es2 i [a0,a1,a2,a3] b.bad++g):=by simp [lsO]
   rw [hset] at cS
   have hkl:=(Qzs.1 q3).1
   have hdm:d∈r.may:=Qzg q3
   have hkx:(Ya r.may)[kk]'(by omega)=.int .i64 d:=by simp [Ya,(Qzs.1 q3).2]
   have hgo:Uh (Zf b.criers.toNat) (b.rs.drop (i+1)) (Zd [a0,a1,a2,a3] d (b.fee r))=b.bad:=by simpa using List.find?_some q4
   have hpick2:Ww (Zf b.criers.toNat) b.bad (b.rs.drop i) [a0,a1,a2,a3]=d::Ww (Zf b.criers.toNat) b.bad (b.rs.drop (i+1)) (Zd [a0,a1,a2,a3] d (b.fee r)):=by
    rw [hd,Ww]
    dsimp only
    rw [q4]
    rfl
   have hms:=ok.short h.c4
   simp only [lsO,e0] at cS
   simp [-Xa,hl,g2,g7,g8,g9,g10,lsO,e0]
   refine Yl mixed (by kernel_rfl) ?_
   simp [-Xa,hl,g2,g7,g8,g9,g10,hqX,Xc,hlt,hlt']
   refine Yl mixed (by kernel_rfl) ?_
   simp [-Xa,hl,g2,g7,g8,g9,g10,hqX,Xc,hlt,hlt',hil,hix]
   refine StA.of (cS.mono ?_)
   rintro _ _ ⟨rfl,rfl⟩
   simp [-Xa,hl,g2,g7,g8,g9,g10,hqX,Xc,hml,hkl,hkx]
   obtain ⟨v',g',o',he,hA',_,_,_⟩:=(hA.base (σ':=σ++lsO σ q es2 i [a0,a1,a2,a3] b.bad) (by simp [lsO])).app (P:=Tryz.prog) (t:=32) (e:=3) (ag:=false) (ys:=[.int .i64 d]) (y:=.pl 1 [.int .i64 d]) (by simp) (by simp) (by simp) (by omega) (fun y hy=>by
    rw [List.mem_singleton.1 hy]
    exact ⟨rfl,by simp [AV.cells,AV.one]⟩) (by simp [AV.cells]) (by simp [Ya];omega)
   have e1:Ya out++[.int .i64 d]=Ya (out++[d]):=by simp [Ya]
   rw [e1] at hA'
   simp [-Xa,lsO,e0] at he
   have cG:=Wbi b h (σ++(lsO σ q es2 i [a0,a1,a2,a3] b.bad++g')) q (hqX _) i r hr? [a0,a1,a2,a3] rfl (fun x hx=>by have:=hf.2 x hx;omega) d hdm
   have hst2:stF i [a0,a1,a2,a3]=AV.agg [.int .i64 i,.int .i64 a0,.int .i64 a1,.int .i64 a2,.int .i64 a3]:=rfl
   simp only [lsO,e0] at cG
   rw [hst2] at cG
   refine Xp [3,9] [(4,0),(5,0),(6,0)] mixed (by kernel_rfl) (by kernel_rfl) ?_
   simp [-Xa,hl,g2,g7,g8,g9,g10,hqX,Xc]
   rw [he,Wl]
   simp [-Xa,hl,g2,g7,g8,g9,g10,hqX,Xc]
   refine Wa1 cG ?_
   have hfl:(Zd [a0,a1,a2,a3] d (b.fee r)).length=4:=by rw [Uy];rfl
   have hf2:=hf.add h ok hdm
   rw [hpick2] at hpick
   obtain ⟨f2,hf2e⟩:∃ f2,Zd [a0,a1,a2,a3] d (b.fee r)=f2:=⟨_,rfl⟩
   rw [hf2e] at hf2 hfl hpick hgo ⊢
   match f2,hfl with
   | [b0,b1,b2,b3],_ =>
    have hst3:stF (i+1) [b0,b1,b2,b3]=AV.agg [.int .i64 ((i+1:Nat):Int),.int .i64 b0,.int .i64 b1,.int .i64 b2,.int .i64 b3]:=rfl
    rw [hst3]
    simp [-Xa,hl,g2,g7,g8,g9,g10,hqX,Xc]
    exact ⟨⟨i+1,hlt,[b0,b1,b2,b3],es2,out++[d],o',g',⟨rfl,⟨by simp,rfl⟩,rfl⟩,hA'.base (σ':=σ++[zFe,zFe,zFe,zFe,zFe,zFe,zFe]) (by simp [lsO]),hf2,q1,hgo,by rw [List.append_assoc];exact hpick,by simp [hol]⟩,by omega⟩
  ·obtain rfl:i=b.rounds.length:=by omega
   have hdn:b.rs.drop b.rounds.length=[]:=List.drop_eq_nil_of_le (by simp [Bx.rs])
   rw [hdn,Ww,List.append_nil] at hpick
   subst hpick
   simp [-Xa,hl,g2,g7,g8,g9,g10,lsO,e0]
   refine Yl mixed (by kernel_rfl) ?_
   simp [-Xa,hl,g2,g7,g8,g9,g10,lsO,e0,hqX,Xc]
   refine Yl mixed (by kernel_rfl) ?_
   simp [-Xa,hl,g2,g7,g8,g9,g10,lsO,e0,hqX,Xc]
   refine ⟨σ,_,rfl,rfl,fun r o h=>.inl h,_,Yd4 (Ua2 hA (by simp) fun j x hj=>?_),rfl,rfl⟩
   rw [Qzr (by simp;omega),show (σ++[zFe,zFe,zFe,zFe,zFe,zFe,zFe]).length+j - σ.length=j+7 by simp;omega]
   simpa using hj
theorem Vbh {n:Nat} {σ:Za} (l:List Int):Fz n σ (.pl 1 (Ya l)) (.pl 1 (Ya l)):=by
 refine .pl 1 _ fun i x hx j y hy=>?_
 have:=Qzg hx
 unfold Ya at this
 obtain ⟨z,_,rfl⟩:=List.mem_map.1 this
 have:=Qzg hy
 simp [AV.cells] at this
 subst this
 exact .int _ _
theorem Xbs {n:Nat} {σ:Za} {a a':AV} {x y:Int} (h1:Fz n σ a a'):Fz n σ (.tup [a,.int .i64 x,.int .i64 y]) (.tup [a',.int .i64 x,.int .i64 y]):=by
 refine .tup _ _ rfl fun i x y hx hy=>?_
 match i,hx,hy with
 | 0,hx,hy=>simp at hx hy;subst hx;subst hy;exact h1
 | 1,hx,hy=>simp at hx hy;subst hx;subst hy;exact .int _ _
 | 2,hx,hy=>simp at hx hy;subst hx;subst hy;exact .int _ _
 | i+3,hx,hy=>simp at hx
theorem Zdt (b:Bx) (h:b.Ok) (σ:Za):ACalls Tryz.prog 12 [Zi b] σ fun v s=>v=.tup [.pl 1 (Ya b.best),.int .i64 b.bad,.int .i64 0]∧s=σ:=by
 refine ACalls.forgetT ?_
 refine Yb Tryz.func12 rfl (Zb Tryz.func12 (by decide) rfl) ?_
 have hb0:Zi b=.agg [.int .i64 b.criers,.int .i64 b.word,.int .i64 b.stand,.int .i64 b.fine,.pl 3 (b.rounds.map Wc)]:=rfl
 have cO:=Va8 b h
 rw [hb0] at cO ⊢
 simp [-Xa,Tryz.ntmps12]
 refine StA.of ((cO _).mono ?_)
 rintro _ _ ⟨rfl,dd,rfl⟩
 simp [-Xa]
 refine StA.of ((Vhl b h _ (σ.length+1+1) ?_).mono ?_)
 ·rw [Qzr (by omega),show σ.length+1+1 - σ.length=2 by omega]
  rfl
 rintro _ _ ⟨rfl,rfl⟩
 try simp [-Xa]
 exact ⟨σ,_,rfl,rfl,fun r o h=>.inl h,_,Xbs (Vbh _),rfl,rfl⟩
end Ab

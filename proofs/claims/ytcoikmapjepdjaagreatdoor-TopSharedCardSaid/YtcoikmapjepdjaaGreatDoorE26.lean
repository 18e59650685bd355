/-
  Texts packed for a claim.
-/
import Derived.Test.YtcoikmapjepdjaaGreatDoorE00
import Derived.Test.YtcoikmapjepdjaaGreatDoorE21
import Derived.Test.YtcoikmapjepdjaaGreatDoorE23
set_option linter.all false
namespace Ab
def Zd (f:List Int) (c x:Int):List Int:=f.set c.toNat (f.getD c.toNat 0+x)
theorem Uy (f:List Int) (c x:Int):(Zd f c x).length=f.length:=by simp [Zd]
def Uh (t:List Int→Int):List (Int × List Int)→List Int→Int
 | [],f=>t f
 | r::rs,f=>r.2.foldl (fun best c=>if best<0∨Uh t rs (Zd f c r.1)<best then Uh t rs (Zd f c r.1) else best) (-1)
def Ww (t:List Int→Int) (bad:Int):List (Int × List Int)→List Int→List Int
 | [],_=>[]
 | r::rs,f=>let c:=(r.2.find? fun c=>Uh t rs (Zd f c r.1) == bad).getD 0;c::Ww t bad rs (Zd f c r.1)
def ChF:List (Int × List Int)→List Int→Prop
 | [],[]=>True
 | r::rs,c::cs=>c∈r.2∧ChF rs cs
 | _,_=>False
def Vi:List (Int × List Int)→List Int→List Int→List Int
 | r::rs,c::cs,f=>Vi rs cs (Zd f c r.1)
 | _,_,f=>f
def Vae (g:Int→Int) (l:List Int) (b:Int):Int:=l.foldl (fun best c=>if best<0∨g c<best then g c else best) b
theorem Wbg (g:Int→Int):∀ (l:List Int) (b:Int),(∀ c∈l,0≤g c)→(0≤b→Vae g l b≤b)∧(∀ c∈l,Vae g l b≤g c)∧(Vae g l b=b∨∃ c∈l,Vae g l b=g c)∧(l≠[]∨0≤b→0≤Vae g l b):=by
 intro l
 induction l with
 | nil=>intro b _;exact ⟨fun _=>Int.le_refl _,⟨fun c hc=>(by cases hc),⟨Or.inl rfl,fun h=>(Or.resolve_left h (fun h=>h rfl):0≤b)⟩⟩⟩
 | cons x l ih =>
  intro b hg
  have hx:=hg x (by simp)
  have hl:=fun c hc=>hg c (List.mem_cons_of_mem _ hc)
  have hstep:Vae g (x::l) b=Vae g l (if b<0∨g x<b then g x else b):=rfl
  rw [hstep]
  obtain ⟨h1,h2,h3,h4⟩:=ih (if b<0∨g x<b then g x else b) hl
  by_cases h:b<0∨g x<b
  ·rw [if_pos h] at h1 h2 h3 h4 ⊢
   refine ⟨fun hb=>by have:=h1 hx;omega,fun c hc=>?_,.inr ?_,fun _=>h4 (.inr hx)⟩
   ·rcases List.mem_cons.1 hc with rfl | hc
    ·exact h1 hx
    ·exact h2 c hc
   ·rcases h3 with h3 | ⟨c,hc,h3⟩
    ·exact ⟨x,by simp,h3⟩
    ·exact ⟨c,by simp [hc],h3⟩
  ·rw [if_neg h] at h1 h2 h3 h4 ⊢
   have hb:0≤b:=by omega
   refine ⟨h1,fun c hc=>?_,?_,fun _=>h4 (.inr hb)⟩
   ·rcases List.mem_cons.1 hc with rfl | hc
    ·have:=h1 hb;omega
    ·exact h2 c hc
   ·rcases h3 with h3 | ⟨c,hc,h3⟩
    ·exact .inl h3
    ·exact .inr ⟨c,by simp [hc],h3⟩
theorem Ybh (t:List Int→Int) (r:Int × List Int) (rs:List (Int × List Int)) (f:List Int):Uh t (r::rs) f=Vae (fun c=>Uh t rs (Zd f c r.1)) r.2 (-1):=rfl
structure TF (t:List Int→Int) (P:List Int→Prop) (rs:List (Int × List Int)):Prop where
 pos:∀ f,P f→0≤t f
 step:∀ r∈rs,∀ c∈r.2,∀ f,P f→P (Zd f c r.1)
 ne:∀ r∈rs,r.2≠[]
theorem TF.tail {t:List Int→Int} {P:List Int→Prop} {r:Int × List Int} {rs:List (Int × List Int)} (h:TF t P (r::rs)):TF t P rs:=⟨h.pos,fun x hx=>h.step x (by simp [hx]),fun x hx=>h.ne x (by simp [hx])⟩
theorem Vbe {t:List Int→Int} {P:List Int→Prop}:∀ (rs:List (Int × List Int)) (f:List Int),TF t P rs→P f→0≤Uh t rs f:=by
 intro rs
 induction rs with
 | nil=>intro f ht hf;exact ht.pos f hf
 | cons r rs ih =>
  intro f h hf
  rw [Ybh]
  exact (Wbg _ r.2 (-1) fun c hc=>ih _ h.tail (h.step r (by simp) c hc f hf)).2.2.2 (.inl (h.ne r (by simp)))
theorem Xeg {t:List Int→Int} {P:List Int→Prop}:∀ (rs:List (Int × List Int)) (f cs:List Int),TF t P rs→P f→ChF rs cs→Uh t rs f≤t (Vi rs cs f):=by
 intro rs
 induction rs with
 | nil=>intro f cs _ _ h;match cs,h with | [],_=>exact Int.le_refl _
 | cons r rs ih =>
  intro f cs hne hf h
  match cs,h with
  | c::cs,h =>
   rw [Ybh]
   exact Int.le_trans ((Wbg _ r.2 (-1) fun c hc=>Vbe rs _ hne.tail (hne.step r (by simp) c hc f hf)).2.1 c h.1) (ih _ cs hne.tail (hne.step r (by simp) c h.1 f hf) h.2)
theorem Zb5 {t:List Int→Int} {P:List Int→Prop} {r:Int × List Int} {rs:List (Int × List Int)} {f:List Int} (hne:TF t P (r::rs)) (hf:P f):∃ c∈r.2,Uh t rs (Zd f c r.1)=Uh t (r::rs) f:=by
 rw [Ybh]
 have hs:=Wbg (fun c=>Uh t rs (Zd f c r.1)) r.2 (-1) fun c hc=>Vbe rs _ hne.tail (hne.step r (by simp) c hc f hf)
 have h0:=hs.2.2.2 (.inl (hne.ne r (by simp)))
 rcases hs.2.2.1 with h | ⟨c,hc,h⟩
 ·omega
 ·exact ⟨c,hc,h.symm⟩
theorem Ubz {t:List Int→Int} {P:List Int→Prop} {bad:Int}:∀ (rs:List (Int × List Int)) (f:List Int),TF t P rs→P f→Uh t rs f=bad→ChF rs (Ww t bad rs f)∧t (Vi rs (Ww t bad rs f) f)=bad:=by
 intro rs
 induction rs with
 | nil=>intro f _ _ h;exact ⟨trivial,h⟩
 | cons r rs ih =>
  intro f hne hf hb
  obtain ⟨c,hc,h⟩:=Zb5 (f:=f) hne hf
  rw [hb] at h
  have hsome:(r.2.find? fun c=>Uh t rs (Zd f c r.1) == bad).isSome=true:=by
   rw [List.find?_isSome]
   exact ⟨c,hc,by simpa using h⟩
  obtain ⟨d,hd⟩:=Option.isSome_iff_exists.1 hsome
  have hd1:=List.find?_some hd
  have hd2:=List.mem_of_find?_eq_some hd
  have hdd:Uh t rs (Zd f d r.1)=bad:=by simpa using hd1
  obtain ⟨q1,q2⟩:=ih (Zd f d r.1) hne.tail (hne.step r (by simp) d hd2 f hf) hdd
  have e:Ww t bad (r::rs) f=d::Ww t bad rs (Zd f d r.1):=by
   rw [Ww,hd];rfl
  rw [e]
  exact ⟨⟨hd2,q1⟩,q2⟩
def Zg (l:List Int):Int:=l.foldl (fun a b=>a+b) 0
def Uz:List Int→Int
 | []=>0
 | x::l=>l.foldl (fun a b=>if a<b then b else a) x
theorem Va4:∀ (l:List Int) (n:Int),n≤l.foldl (fun a b=>if a<b then b else a) n∧(∀ x∈l,x≤l.foldl (fun a b=>if a<b then b else a) n)∧(l.foldl (fun a b=>if a<b then b else a) n=n∨l.foldl (fun a b=>if a<b then b else a) n∈l)
 | [],n=>⟨Int.le_refl _,fun x h=>(by cases h),.inl rfl⟩
 | y::l,n=>by
  rw [List.foldl_cons]
  obtain ⟨h1,h2,h3⟩:=Va4 l (if n<y then y else n)
  have hy:y≤(if n<y then y else n)∧n≤(if n<y then y else n)∧((if n<y then y else n)=n∨(if n<y then y else n)=y):=by split<;>omega
  refine ⟨Int.le_trans hy.2.1 h1,fun x hx=>?_,?_⟩
  ·rcases List.mem_cons.1 hx with rfl | hx
   ·exact Int.le_trans hy.1 h1
   ·exact h2 x hx
  ·rcases h3 with h3 | h3
   ·rw [h3]
    rcases hy.2.2 with h | h
    ·exact .inl h
    ·rw [h];exact .inr (by simp)
   ·exact .inr (by simp [h3])
theorem Ubi {l:List Int} (h:l≠[]):Uz l∈l:=by
 match l,h with
 | x::l,_ =>
  show l.foldl (fun a b=>if a<b then b else a) x∈x::l
  rcases (Va4 l x).2.2 with h | h
  ·rw [h];simp
  ·exact List.mem_cons_of_mem _ h
theorem Xay {l:List Int} {x:Int} (h:x∈l):x≤Uz l:=by
 match l,h with
 | y::l,h =>
  rcases List.mem_cons.1 h with rfl | h
  ·exact (Va4 l _).1
  ·exact (Va4 l y).2.1 x h
theorem Ud4 (f:List Int) {c x:Int} (h:0≤c∧c<(f.length:Int)) (m:Nat):(Zd f c x).getD m 0=f.getD m 0+if (m:Int)=c then x else 0:=by
 unfold Zd
 rw [List.getD_eq_getElem?_getD,List.getElem?_set]
 by_cases e:c.toNat=m
 ·subst e
  rw [if_pos rfl,if_pos (by omega),if_pos (by omega)]
  rfl
 ·rw [if_neg e,if_neg (by omega)]
  simp
theorem Yaj:∀ (rs:List (Int × List Int)) (cs f:List Int),(Vi rs cs f).length=f.length
 | [],_,_=>by simp [Vi]
 | _::_,[],_=>by simp [Vi]
 | r::rs,c::cs,f=>by rw [Vi,Yaj rs cs,Uy]
theorem Xc4:∀ (rs:List (Int × List Int)) (cs f:List Int),ChF rs cs→(∀ c∈cs,0≤c∧c<(f.length:Int))→(∀ r∈rs,r.1=1)→∀ m:Nat,(Vi rs cs f).getD m 0=f.getD m 0+((cs.filter fun c=>c == (m:Int)).length:Int):=by
 intro rs
 induction rs with
 | nil=>intro cs f h _ _ m;match cs,h with | [],_=>simp [Vi]
 | cons r rs ih =>
  intro cs f h hc h1 m
  match cs,h with
  | c::cs,h =>
   rw [Vi,ih cs _ h.2 (fun d hd=>by rw [Uy];exact hc d (by simp [hd])) (fun r hr=>h1 r (by simp [hr])),Ud4 f (hc c (by simp)),h1 r (by simp)]
   by_cases e:(m:Int)=c
   ·subst e;simp;omega
   ·have e':¬ c=(m:Int):=fun h=>e h.symm
    simp [e,e']
def Wq (men:Nat):Nat→Nat→List (List Int)
 | _,0=>[[]]
 | frm,left+1=>((List.range men).filter fun m=>decide (frm≤m)).flatMap fun m=>(Wq men (m+1) left).map fun l=>(m:Int)::l
theorem mem_combs {men:Nat}:∀ {left frm:Nat} {l:List Int},l∈Wq men frm left↔l.length=left∧l.Pairwise (·<·)∧∀ x∈l,(frm:Int)≤x∧x<(men:Int):=by
 intro left
 induction left with
 | zero =>
  intro frm l
  rw [Wq]
  constructor
  ·intro h;simp at h;subst h;simp
  ·rintro ⟨h,_,_⟩;simp [List.eq_nil_of_length_eq_zero h]
 | succ left ih =>
  intro frm l
  rw [Wq,List.mem_flatMap]
  constructor
  ·rintro ⟨m,hm,hl⟩
   rw [List.mem_filter] at hm
   have hm1:=List.mem_range.1 hm.1
   have hm2:=of_decide_eq_true hm.2
   obtain ⟨l',hl',rfl⟩:=List.mem_map.1 hl
   obtain ⟨q1,q2,q3⟩:=ih.1 hl'
   refine ⟨by simp [q1],List.pairwise_cons.2 ⟨fun x hx=>?_,q2⟩,fun x hx=>?_⟩
   ·have:=q3 x hx;omega
   ·rcases List.mem_cons.1 hx with rfl | hx
    ·omega
    ·have:=q3 x hx;omega
  ·rintro ⟨h1,h2,h3⟩
   match l,h1,h2,h3 with
   | x::l,h1,h2,h3 =>
    rw [List.pairwise_cons] at h2
    have hx:=h3 x (by simp)
    refine ⟨x.toNat,?_,List.mem_map.2 ⟨l,ih.2 ⟨by simpa using h1,h2.2,fun y hy=>?_⟩,?_⟩⟩
    ·rw [List.mem_filter]
     exact ⟨List.mem_range.2 (by omega),decide_eq_true (by omega)⟩
    ·have:=h2.1 y hy
     have:=h3 y (by simp [hy])
     omega
    ·rw [show ((x.toNat:Nat):Int)=x by omega]
theorem Ybu (p:Nat→Bool):∀ K:Nat,∃ s:Nat,s<2^K∧∀ i,i<K→s.testBit i=p i
 | 0=>⟨0,by simp,fun i h=>by omega⟩
 | K+1=>by
  obtain ⟨s,h1,h2⟩:=Ybu p K
  cases hp:p K with
  | false =>
   refine ⟨s,by rw [Nat.pow_succ];omega,fun i hi=>?_⟩
   rcases Qzn i K with h | h
   ·exact h2 i h
   ·obtain rfl:i=K:=by omega
    rw [hp]
    exact Nat.testBit_lt_two_pow h1
  | true =>
   refine ⟨2^K+s,by rw [Nat.pow_succ];omega,fun i hi=>?_⟩
   rcases Qzn i K with h | h
   ·rw [Nat.testBit_two_pow_add_gt h];exact h2 i h
   ·obtain rfl:i=K:=by omega
    rw [hp,Nat.testBit_two_pow_add_eq,Nat.testBit_lt_two_pow h1]
    rfl
def Zf (criers:Nat) (f:List Int):Int:=Uz (f.take criers)
theorem Wbz {criers:Nat} {f:List Int} (h:∀ x∈f,0≤x):0≤Zf criers f:=by
 unfold Zf
 by_cases e:f.take criers=[]
 ·rw [e];exact Int.le_refl _
 ·exact h _ (List.mem_of_mem_take (Ubi e))
theorem Xb8 {f:List Int} {c x:Int} (hx:0≤x) (h:∀ y∈f,0≤y):∀ y∈Zd f c x,0≤y:=fun y hy=>by
 unfold Zd at hy
 rcases List.mem_or_eq_of_mem_set hy with h1 | h1
 ·exact h y h1
 ·subst h1
  have:0≤f.getD c.toNat 0:=by
   rw [List.getD_eq_getElem?_getD]
   cases e:f[c.toNat]? with
   | none=>exact Int.le_refl _
   | some z=>exact h z (Qzg e)
  omega
def Yao (rs:List (Int × List Int)) (l:List Nat):List Bool:=(List.range 4).map fun c:Nat=>l.any fun i=>(rs[i]?.map fun r=>decide ((c:Int)∈r.2)).getD false
def Ur (rs:List (Int × List Int)) (l:List Nat):Int :=
 let many:Int:=((Yao rs l).filter id).length
 if many=0 then 0 else (Zg (l.map fun i=>(rs[i]?.map Prod.fst).getD 0)+many - 1).tdiv many
def Xm (K s:Nat):List Nat:=(List.range K).filter fun i=>s.testBit i
end Ab
namespace Ab
open Go Go.RowKit Go.Proofs
structure Rnd where
 words:Int
 stands:Int
 may:List Int
structure Bx where
 criers:Int
 word:Int
 stand:Int
 fine:Int
 rounds:List Rnd
def Wc (r:Rnd):AV:=.agg [.int .i64 r.words,.int .i64 r.stands,.pl 1 (Ya r.may)]
def Zi (b:Bx):AV:=.agg [.int .i64 b.criers,.int .i64 b.word,.int .i64 b.stand,.int .i64 b.fine,.pl 3 (b.rounds.map Wc)]
structure Rnd.Ok (c:Int) (r:Rnd):Prop where
 w1:1≤r.words
 w9:r.words≤9
 s1:1≤r.stands
 s5:r.stands≤5
 ne:r.may≠[]
 srt:r.may.Pairwise (·<·)
 mem:∀ x∈r.may,0≤x∧x<c
structure Bx.Ok (b:Bx):Prop where
 c1:1≤b.criers
 c4:b.criers≤4
 w0:0≤b.word
 w20:b.word≤20
 s0:0≤b.stand
 s20:b.stand≤20
 f0:0≤b.fine
 f20:b.fine≤20
 few:b.rounds.length≤7
 each:∀ r∈b.rounds,r.Ok b.criers
def Bx.fee (b:Bx) (r:Rnd):Int:=r.stands*(b.stand+r.words*b.word)
theorem Bx.fee_le {b:Bx} (h:b.Ok) {r:Rnd} (hr:r.Ok b.criers):(0≤r.words*b.word∧r.words*b.word≤180)∧0≤b.fee r∧b.fee r≤1000:=by
 have h1:0≤r.words*b.word:=Int.mul_nonneg (by have:=hr.w1;omega) h.w0
 have h2:r.words*b.word≤9*20:=Int.mul_le_mul hr.w9 h.w20 h.w0 (by omega)
 have h3:0≤b.stand+r.words*b.word:=by have:=h.s0;omega
 have h4:b.stand+r.words*b.word≤200:=by have:=h.s20;omega
 have h5:b.fee r≤5*200:=Int.mul_le_mul hr.s5 h4 h3 (by omega)
 exact ⟨⟨h1,by omega⟩,Int.mul_nonneg (by have:=hr.s1;omega) h3,by omega⟩
def Bx.rs (b:Bx):List (Int × List Int):=b.rounds.map fun r=>(b.fee r,r.may)
theorem Rnd.Ok.short {c:Int} {r:Rnd} (h:r.Ok c) (hc:c≤4):r.may.length≤4:=Wam h.srt fun x hx=>by have:=h.mem x hx;omega
attribute [local irreducible] aws awp aw1 Og Om Oc Oa Ogd Ov Ot awd Ua awh Xb Ogh Ohd awl Ogl Ohl awv Ogv Ohv Wb Vb QFn Zc Vg QRo QBe Yf Yg ACode AYield
theorem Uaj (n lo hi:Int):APure Tryz.prog 226 [.int .i64 n,.int .i64 lo,.int .i64 hi] (.bool (Xj n lo hi)):=by
 intro σ
 refine Yb Tryz.func226 rfl (Zb Tryz.func226 (by decide) rfl) ?_
 simp [Tryz.ntmps226,Xj]
 by_cases h:lo≤n<;>by_cases h2:n≤hi<;>simp [h,h2]
theorem Vcm (b:Bx) (n:Int) (h:b.Ok):APure Tryz.prog 157 [Zi b,.int .i64 n] (.bool (Xj n 0 (b.criers - 1))):=by
 refine APure.of fun σ=>?_
 refine Yb Tryz.func157 rfl (Zb Tryz.func157 (by decide) rfl) ?_
 have:=h.c1
 have:=h.c4
 have hw:=w64 (n:=b.criers - 1) (by omega) (by omega)
 simp [Tryz.ntmps157,Zi,hw]
 refine (Uaj _ _ _).use ?_
 simp
theorem Ug2 (l:List Int) (q f:Nat) (fs cs:List AV) (σ:Za) (hq:σ[q]? = some (.cells [.fn (.func f) fs cs])) (hl:l.length≤2^40) (h:∀ x∈l,∀ g,ACalls Tryz.prog f (fs++[.int .i64 x]++cs) (σ++g) fun v s=>v=.bool true∧∃ g',s=σ++g++g') :
  ACalls Tryz.prog 152 [.pl 1 (Ya l),.fn (.func 230) [] [.ptr q 0]] σ fun v s=>v=.int .i64 (-1)∧∃ g,s=σ++g:=by
 refine Yb Tryz.func152 rfl (Zb Tryz.func152 (by decide) rfl) ?_
 have hql:=(Qzs.1 hq).1
 simp [Tryz.ntmps152]
 refine Wd (fun env σ'=>∃ (u:List AV) (i:Nat) (g:Za),env={ t:=u }∧u.length=19∧tg u 0=.pl 1 (Ya l)∧tg u 1=.fn (.func 230) [] [.ptr q 0]∧tg u 7=.int .i64 l.length∧tg u 8=.int .i64 i∧σ'=σ++g∧i≤l.length)
  (fun env _=>match tg env.t 8 with | .int _ i=>l.length - i.toNat | _=>0) ⟨_,0,[],rfl,by simp,by simp,by simp,by simp [Ya],by simp,by simp,by omega⟩ ?_
 rintro env σ' ⟨u,i,g,rfl,hl0,g0,g1,g7,g8,rfl,hi⟩
 rcases Qzn i l.length with hlt | hge
 ·have hlt':(i:Int)<(l.length:Int):=by omega
  have hw1:=w64 (n:=(i:Int)+1) (by omega) (by omega)
  have hil:i<(Ya l).length:=by simpa [Ya] using hlt
  have hx':(Ya l)[i]=.int .i64 l[i]:=by simp [Ya]
  have h1:ACalls Tryz.prog 230 [.int .i64 l[i],.ptr q 0] (σ++g) fun v s=>v=.bool false∧∃ g',s=σ++g++g':=by
   refine Yb Tryz.func230 rfl (Zb Tryz.func230 (by decide) rfl) ?_
   have hq2:(σ++g)[q]? = some (.cells [.fn (.func f) fs cs]):=by rw [Qzl hql];exact hq
   generalize hT:σ++g=T at hq2
   have h2:=h l[i] (List.getElem_mem hlt) g
   rw [hT] at h2
   simp [Tryz.ntmps230,hq2]
   refine StA.of ((by simpa using h2:ACalls Tryz.prog f (fs++.int .i64 l[i]::cs) T fun v s=>v=.bool true∧∃ g',s=T++g').mono ?_)
   rintro v s ⟨rfl,g',rfl⟩
   simp
  simp [hl0,g0,g1,g7,g8,hlt',hlt,hil,hx']
  refine StA.of (h1.mono ?_)
  rintro v s ⟨rfl,g',rfl⟩
  simp [hl0,g0,g1,g7,g8,hlt',hlt,hw1]
  exact ⟨⟨i+1,by simp,hlt⟩,by omega⟩
 ·have hge':¬ (i:Int)<(l.length:Int):=by omega
  simp [hl0,g0,g1,g7,g8,hge']
theorem Zb7 (l:List Int) (f:Nat) (fs cs:List AV) (σ:Za) (hl:l.length≤2^40) (h:∀ x∈l,∀ g,ACalls Tryz.prog f (fs++[.int .i64 x]++cs) (σ++g) fun v s=>v=.bool true∧∃ g',s=σ++g++g') :
  ACalls Tryz.prog 156 [.pl 1 (Ya l),.fn (.func f) fs cs] σ fun v s=>v=.bool true∧s=σ:=by
 refine ACalls.forgetT ?_
 refine Yb Tryz.func156 rfl (Zb Tryz.func156 (by decide) rfl) ?_
 simp [Tryz.ntmps156]
 have h2:ACalls Tryz.prog 184 [.pl 1 (Ya l),.fn (.func 230) [] [.ptr σ.length 0]] (σ++[.cells [.fn (.func f) fs cs]]) fun v s=>v=.bool false∧∃ g,s=σ++g:=by
  refine Yb Tryz.func184 rfl (Zb Tryz.func184 (by decide) rfl) ?_
  simp [Tryz.ntmps184]
  refine StA.of ((Ug2 l σ.length f fs cs _ (by simp) hl fun x hx g=>?_).mono ?_)
  ·have:=h x hx (.cells [.fn (.func f) fs cs]::g)
   simpa using this
  ·rintro v s ⟨rfl,g,rfl⟩
   simp
 refine StA.of (h2.mono ?_)
 rintro v s ⟨rfl,g,rfl⟩
 simp
 exact ⟨σ,g,rfl,rfl,fun r o h=>.inl h,.bool true,.bool _,rfl,rfl⟩
theorem Zdd (l:List Rnd) (hl:l.length≤2^40) (c:Int) (h:∀ x∈l,x.Ok c):APure Tryz.prog 227 [.pl 3 (l.map Wc),.fn (.func 228) [] []] (.bool true):=by
 refine APure.of fun σ=>?_
 have c0:∀ x∈l,APure Tryz.prog 228 [Wc x] (.bool true):=fun x hx=>by
  have hx:=h x hx
  have i1:Xj x.words 1 9=true:=by have:=hx.w1;have:=hx.w9;simp [Xj];omega
  have i2:Xj x.stands 1 5=true:=by have:=hx.s1;have:=hx.s5;simp [Xj];omega
  refine APure.of fun σ=>?_
  refine Yb Tryz.func228 rfl (Zb Tryz.func228 (by decide) rfl) ?_
  simp [Tryz.ntmps228,Wc]
  refine (Uaj _ _ _).use ?_
  simp [i1]
  refine (Uaj _ _ _).use ?_
  simp [i2]
 have c1:∀ (T:Za) (q:Nat),T[q]? = some (.cells [.fn (.func 228) [] []])→∀ x∈l,ACalls Tryz.prog 286 [Wc x,.ptr q 0] T fun v s=>v=.bool false∧∃ g',s=T++g':=fun T q hq x hx=>by
  have hql:=(Qzs.1 hq).1
  refine Yb Tryz.func286 rfl (Zb Tryz.func286 (by decide) rfl) ?_
  have hq2:∀ X:Za,(T++X)[q]? = some (.cells [.fn (.func 228) [] []]):=fun X=>by rw [Qzl hql];exact hq
  have c2:=c0 x hx
  unfold Wc at c2 ⊢
  simp [Tryz.ntmps286,hq2]
  refine c2.use ?_
  simp
 have c3:∀ (T:Za) (q:Nat),T[q]? = some (.cells [.fn (.func 228) [] []])→ACalls Tryz.prog 332 [.pl 3 (l.map Wc),.fn (.func 286) [] [.ptr q 0]] T fun v s=>v=.int .i64 (-1)∧∃ g,s=T++g:=fun T q hq=>by
  have hql:=(Qzs.1 hq).1
  refine Yb Tryz.func332 rfl (Zb Tryz.func332 (by decide) rfl) ?_
  simp [Tryz.ntmps332]
  refine Wd (fun env σ'=>∃ (u:List AV) (i:Nat) (g:Za),env={ t:=u }∧u.length=19∧tg u 0=.pl 3 (l.map Wc)∧tg u 1=.fn (.func 286) [] [.ptr q 0]∧tg u 7=.int .i64 l.length∧tg u 8=.int .i64 i∧σ'=T++g∧i≤l.length)
   (fun env _=>match tg env.t 8 with | .int _ i=>l.length - i.toNat | _=>0) ⟨_,0,[],rfl,by simp,by simp,by simp,by simp,by simp,by simp,by omega⟩ ?_
  rintro env σ' ⟨u,i,g,rfl,hl0,g0,g1,g7,g8,rfl,hi⟩
  rcases Qzn i l.length with hlt | hge
  ·have hlt':(i:Int)<(l.length:Int):=by omega
   have hw1:=w64 (n:=(i:Int)+1) (by omega) (by omega)
   obtain ⟨x,hx⟩:∃ x,l[i]=x:=⟨_,rfl⟩
   have h1:=c1 (T++g) q (by rw [Qzl hql];exact hq) x (hx▸List.getElem_mem hlt)
   unfold Wc at h1
   simp [hl0,g0,g1,g7,g8,hlt',hlt,hx,Wc]
   refine StA.of (h1.mono ?_)
   rintro v s ⟨rfl,g',rfl⟩
   simp [hl0,g0,g1,g7,g8,hlt',hlt,hw1]
   exact ⟨⟨i+1,by simp,hlt⟩,by omega⟩
  ·have hge':¬ (i:Int)<(l.length:Int):=by omega
   simp [hl0,g0,g1,g7,g8,hge']
 refine Yb Tryz.func227 rfl (Zb Tryz.func227 (by decide) rfl) ?_
 simp [Tryz.ntmps227]
 have h2:ACalls Tryz.prog 285 [.pl 3 (l.map Wc),.fn (.func 286) [] [.ptr σ.length 0]] (σ++[.cells [.fn (.func 228) [] []]]) fun v s=>v=.bool false∧∃ g,s=σ++g:=by
  refine Yb Tryz.func285 rfl (Zb Tryz.func285 (by decide) rfl) ?_
  simp [Tryz.ntmps285]
  refine StA.of ((c3 _ σ.length (by simp)).mono ?_)
  rintro v s ⟨rfl,g,rfl⟩
  simp
 refine StA.of (h2.mono ?_)
 rintro v s ⟨rfl,g,rfl⟩
 simp
theorem Yh6 (b:Bx) (h:b.Ok):APure Tryz.prog 149 [Zi b] (.int .i64 0):=by
 refine APure.of fun σ=>?_
 refine Yb Tryz.func149 rfl (Zb Tryz.func149 (by decide) rfl) ?_
 have:=h.c1
 have:=h.c4
 have:=h.few
 have hnf:¬ (7:Int)<(b.rounds.length:Int):=by omega
 have i1:Xj b.criers 1 4=true:=by simp [Xj];omega
 have i2:Xj b.word 0 20=true:=by have:=h.w0;have:=h.w20;simp [Xj];omega
 have i3:Xj b.stand 0 20=true:=by have:=h.s0;have:=h.s20;simp [Xj];omega
 have i4:Xj b.fine 0 20=true:=by have:=h.f0;have:=h.f20;simp [Xj];omega
 simp [Tryz.ntmps149,Zi]
 refine (Uaj _ _ _).use ?_
 simp [i1,hnf]
 refine (Uaj _ _ _).use ?_
 simp [i2]
 refine (Uaj _ _ _).use ?_
 simp [i3]
 refine (Uaj _ _ _).use ?_
 simp [i4]
 refine (Zdd b.rounds (by omega) b.criers h.each).use ?_
 simp
 refine Wd (fun env σ'=>∃ (u:List AV) (i:Nat) (g:Za),env={ t:=u }∧u.length=79∧tg u 1=.ptr σ.length 0∧tg u 40=.pl 3 (b.rounds.map Wc)∧tg u 41=.int .i64 b.rounds.length∧tg u 42=.int .i64 i∧σ'=σ++(.cells (Zi b).cells::g)∧i≤b.rounds.length)
  (fun env _=>match tg env.t 42 with | .int _ i=>b.rounds.length - i.toNat | _=>0) ⟨_,0,[],rfl,by simp,by simp,by simp,by simp,by simp,by simp [Zi],by omega⟩ ?_
 rintro env σ' ⟨u,i,g,rfl,hl0,g1,g40,g41,g42,rfl,hi⟩
 rcases Qzn i b.rounds.length with hlt | hge
 ·have hlt':(i:Int)<(b.rounds.length:Int):=by omega
  have hw1:=w64 (n:=(i:Int)+1) (by omega) (by omega)
  obtain ⟨r,hr⟩:∃ r,b.rounds[i]=r:=⟨_,rfl⟩
  have ok:r.Ok b.criers:=hr▸h.each _ (List.getElem_mem hlt)
  have hs:=ok.short h.c4
  have hne:=List.length_pos_iff.2 ok.ne
  have hne':¬ r.may.length=0:=by omega
  have hev:∀ σ,ACalls Tryz.prog 156 [.pl 1 (Ya r.may),.fn (.func 157) [Zi b] []] σ fun v s=>v=.bool true∧s=σ:=fun σ=>Zb7 r.may 157 [Zi b] [] σ (by omega) fun x hx g=>by
   have hxm:=ok.mem x hx
   have e:Xj x 0 (b.criers - 1)=true:=by simp [Xj];omega
   have:=Vcm b x h (σ++g)
   rw [e] at this
   exact this.mono fun v s hh=>⟨hh.1,[],by rw [hh.2];simp⟩
  obtain ⟨T,hT⟩:∃ T,σ++.cells (Zi b).cells::g=T:=⟨_,rfl⟩
  have hnext:∀ X:Za,(T++X)[σ.length]? = some (.cells [.int .i64 b.criers,.int .i64 b.word,.int .i64 b.stand,.int .i64 b.fine,.pl 3 (b.rounds.map Wc)]):=fun X=>by rw [← hT];simp [Zi]
  have hx1:∀ (x:AObj) (Y:Za),(T++x::Y)[T.length]? = some x:=fun x Y=>by simp
  have hil:(Ya r.may).length=r.may.length:=by simp [Ya]
  rw [hT]
  simp [hl0,g1,g40,g41,g42,hlt',hlt,hr,Wc,hx1,hil,hne',hnext]
  refine StA.of ((hev _).mono ?_)
  rintro v s ⟨rfl,rfl⟩
  have h1n:1≤r.may.length:=hne
  simp [hl0,g1,g40,g41,g42,hnext,hx1,hil,h1n]
  refine Wd (fun env σ'=>∃ (u:List AV) (k:Nat),env={ t:=u }∧u.length=79∧tg u 1=.ptr σ.length 0∧tg u 4=.ptr T.length 0∧tg u 40=.pl 3 (b.rounds.map Wc)∧tg u 41=.int .i64 b.rounds.length∧tg u 42=.int .i64 i∧tg u 61=.int .i64 ((r.may.length - 1:Nat):Int)∧tg u 62=.int .i64 k∧σ'=T++[.cells [.int .i64 r.words,.int .i64 r.stands,.pl 1 (Ya r.may)]]∧k≤r.may.length - 1)
   (fun env _=>match tg env.t 62 with | .int _ i=>r.may.length - i.toNat | _=>0) ⟨_,0,rfl,by simp [hl0],by simp [hl0,g1],by simp [hl0],by simp [hl0,g40],by simp [hl0,g41],by simp [hl0,g42],by simp [hl0],by simp [hl0],rfl,by omega⟩ ?_
  clear hl0 g1 g40 g41 g42
  rintro env σ' ⟨u,k,rfl,hl0,g1,g4,g40,g41,g42,g61,g62,rfl,hk⟩
  rcases Qzn k (r.may.length - 1) with hkl | hkg
  ·have hkl':(k:Int)<((r.may.length - 1:Nat):Int):=by omega
   have hw2:=w64 (n:=(k:Int)+1) (by omega) (by omega)
   have hk1:k+1<r.may.length:=by omega
   have hk0:k<r.may.length:=by omega
   have hlt2:=(List.pairwise_iff_getElem.1 ok.srt) k (k+1) hk0 hk1 (by omega)
   have hn:¬ r.may[k+1]≤r.may[k]:=by omega
   have e0:(Ya r.may)[k]'(by omega)=.int .i64 r.may[k]:=by simp [Ya]
   have e1:(Ya r.may)[k+1]'(by omega)=.int .i64 r.may[k+1]:=by simp [Ya]
   have c1:(0:Int)≤(k:Int)+1:=by omega
   have c2:(k:Int)+1<(r.may.length:Int):=by omega
   simp [hl0,g1,g4,g40,g41,g42,g61,g62,hkl,hkl']
   refine Yl mixed (by kernel_rfl) ?_
   simp [hl0,g1,g4,g40,g41,g42,g61,g62,hkl,hkl',hx1,hil,hw2,hk0,hk1,e0,e1,c1,c2,hn]
   exact ⟨⟨k+1,by simp,hkl⟩,by omega⟩
  ·have hkg':¬ (k:Int)<((r.may.length - 1:Nat):Int):=by omega
   simp [hl0,g1,g4,g40,g41,g42,g61,g62,hkg',hw1]
   exact ⟨⟨i+1,by simp,⟨_,by rw [← hT];simp [Zi];rfl⟩,hlt⟩,by omega⟩
 ·have hge':¬ (i:Int)<(b.rounds.length:Int):=by omega
  simp [hl0,g1,g40,g41,g42,hge']
end Ab
namespace Ab
open Go Go.RowKit Go.Proofs
theorem Acc.fzG {S g T:Za} {k n:Nat} {v:AV} {L L':List AV} {o:Option Nat} (h:Acc S g k v L o) (hk:0<k) (hn:n≤S.length) (hT:∀ j x,o=some j→g[j]? = some (.cells x)→T[S.length+j]? = some (.cells x)) (hl:L'.length=L.length)
  (h1:∀ (i:Nat) (x y:AV),L[i]? = some x→L'[i]? = some y→y.cells.length=k∧(∀ z∈y.cells,z.one=true)∧∀ (j:Nat) (a b:AV),x.cells[j]? = some a→y.cells[j]? = some b→Fz n T a b):Fz n T v (.pl k L'):=by
 have hv:=h.val
 cases o with
 | none =>
  obtain ⟨rfl,e⟩:=hv
  rw [e] at hl
  rw [List.eq_nil_of_length_eq_zero hl]
  exact .nils_pl k
 | some jo =>
  obtain ⟨rfl,hjo⟩:=hv
  rw [← hl]
  refine .arr k _ 0 (L.flatMap AV.cells) L' (fun i j=>((L[i]?).bind fun x=>x.cells[j]?).getD .any) (by omega) (hT jo _ rfl hjo) (fun i y hy=>?_) fun i y hy j b hb=>?_
  ·have hi:=(Qzs.1 hy).1
   have hx:L[i]? = some (L[i]'(by omega)):=Qze (by omega)
   obtain ⟨q1,q2,_⟩:=h1 i _ y hx hy
   refine ⟨q1,fun j b hb=>⟨q2 b (Qzg hb),?_⟩⟩
   have hj:=(Qzs.1 hb).1
   rw [q1] at hj
   have hc:=(h.len _ (Qzg hx)).1
   rw [flat_get L (fun x hx=>(h.len x hx).1) hk,show (0+i)*k+j=j+k*i by rw [Nat.zero_add,Nat.mul_comm,Nat.add_comm],Nat.add_mul_div_left _ _ hk,Nat.div_eq_of_lt hj,Nat.zero_add,Nat.add_mul_mod_self_left,Nat.mod_eq_of_lt hj,hx]
   simp only [Option.bind_some]
   rw [Qze (by omega)]
   rfl
  ·have hi:=(Qzs.1 hy).1
   have hx:L[i]? = some (L[i]'(by omega)):=Qze (by omega)
   obtain ⟨q1,q2,q3⟩:=h1 i _ y hx hy
   have hj:=(Qzs.1 hb).1
   have hc:=(h.len _ (Qzg hx)).1
   have ha:(L[i]'(by omega)).cells[j]? = some ((L[i]'(by omega)).cells[j]'(by omega)):=Qze (by omega)
   rw [hx]
   simp only [Option.bind_some,ha,Option.getD_some]
   exact q3 j _ b ha hb
end Ab
namespace Ab
open Go Go.RowKit Go.Proofs
theorem Xc0 {b g T:Za} {v:AV} {l:List Int} {o:Option Nat} (h:Acc b g 1 v (Ya l) o) (hT:∀ (j:Nat) x,g[j]? = some (.cells x)→T[b.length+j]? = some (.cells x)):Fz 0 T v (.pl 1 (Ya l)):=by
 refine h.fzG (by omega) (Nat.zero_le _) (fun j x _ e=>hT j x e) rfl fun i x y hx hy=>?_
 rw [hx] at hy
 obtain rfl:=Option.some.inj hy
 have hm:=Qzg hx
 unfold Ya at hm
 obtain ⟨z,_,rfl⟩:=List.mem_map.1 hm
 refine ⟨rfl,fun z hz=>?_,fun j a b ha hb=>?_⟩
 ·simp [AV.cells] at hz;subst hz;rfl
 ·rw [ha] at hb
  obtain rfl:=Option.some.inj hb
  have:=Qzg ha
  simp [AV.cells] at this
  subst this
  exact .int _ _
def zFe:AObj:=.dead
def Zl (b:Bx):List Int:=b.rounds.map b.fee
def Xc (b:Bx):List AV:=[.int .i64 b.criers,.int .i64 b.word,.int .i64 b.stand,.int .i64 b.fine,.pl 3 (b.rounds.map Wc),.pl 1 (Ya (Zl b))]
def dkV (b:Bx) (v:AV):AObj:=.cells [.int .i64 b.criers,.int .i64 b.word,.int .i64 b.stand,.int .i64 b.fine,.pl 3 (b.rounds.map Wc),v]
attribute [local irreducible] aws awp aw1 Og Om Oc Oa Ogd Ov Ot awd Ua awh Xb Ogh Ohd awl Ogl Ohl awv Ogv Ohv Wb Vb QFn Zc Vg QRo QBe Yf Yg ACode AYield
set_option maxHeartbeats 4000000 in
theorem Va8 (b:Bx) (h:b.Ok) (σ:Za):ACalls Tryz.prog 66 [Zi b] σ fun v s=>v=.tup [.ptr (σ.length+1) 0,.int .i64 0]∧∃ dd,s=σ++(.cells (Zi b).cells::.cells (Xc b)::dd):=by
 refine ACalls.viewR ?_
 refine Yb Tryz.func66 rfl (Zb Tryz.func66 (by decide) rfl) ?_
 have:=h.c1
 have:=h.c4
 have:=h.few
 have cC:=Yh6 b h
 have hb0:Zi b=.agg [.int .i64 b.criers,.int .i64 b.word,.int .i64 b.stand,.int .i64 b.fine,.pl 3 (b.rounds.map Wc)]:=rfl
 rw [hb0] at cC ⊢
 simp [-Xa,Tryz.ntmps66]
 refine cC.use ?_
 simp [-Xa]
 refine Wd (fun env σ'=>∃ (u:List AV) (i:Nat) (v:AV) (o:Option Nat) (g:Za),env={ t:=u }∧u.length=45∧tg u 1=.ptr σ.length 0∧tg u 5=.ptr (σ.length+1) 0∧tg u 17=.pl 3 (b.rounds.map Wc)∧tg u 18=.int .i64 b.rounds.length∧tg u 19=.int .i64 i∧i≤b.rounds.length ∧
   σ'=(σ++[.cells [.int .i64 b.criers,.int .i64 b.word,.int .i64 b.stand,.int .i64 b.fine,.pl 3 (b.rounds.map Wc)],dkV b v])++g∧Acc (σ++[zFe,zFe]) g 1 v (Ya ((b.rounds.take i).map b.fee)) o)
  (fun env _=>match tg env.t 19 with | .int _ i=>b.rounds.length - i.toNat | _=>0) ⟨_,0,.nils,none,[],rfl,by simp,by simp,by simp,by simp,by simp,by simp,by omega,by simp [dkV],by simpa [Ya] using Acc.nil _ _ _⟩ ?_
 rintro env _ ⟨u,i,v,o,g,rfl,hl,g1,g5,g17,g18,g19,hi,rfl,hA⟩
 rcases Qzn i b.rounds.length with hlt | hge
 ·have hlt':(i:Int)<(b.rounds.length:Int):=by omega
  have hw1:=w64 (n:=(i:Int)+1) (by omega) (by omega)
  obtain ⟨r,hr⟩:∃ r,b.rounds[i]=r:=⟨_,rfl⟩
  have ok:r.Ok b.criers:=hr▸h.each _ (List.getElem_mem hlt)
  obtain ⟨⟨f1,f2⟩,f3,f4⟩:=Bx.fee_le h ok
  have s0:=h.s0
  have s20:=h.s20
  have ww1:=w64 (n:=r.words*b.word) (by omega) (by omega)
  have ww2:=w64 (n:=b.stand+r.words*b.word) (by omega) (by omega)
  have ww3:=w64 (n:=b.fee r) (by omega) (by omega)
  unfold Bx.fee at ww3
  have htk:b.rounds.take (i+1)=b.rounds.take i++[r]:=by rw [Qzt hlt,hr]
  obtain ⟨v',g',o',he,hA',_,_,_⟩:=((hA.more [.cells [.int .i64 r.words,.int .i64 r.stands,.pl 1 (Ya r.may)]]).base (σ':=σ++[.cells [.int .i64 b.criers,.int .i64 b.word,.int .i64 b.stand,.int .i64 b.fine,.pl 3 (b.rounds.map Wc)],dkV b v]) (by simp)).app (P:=Tryz.prog) (t:=32) (e:=3) (ag:=false) (ys:=[.int .i64 (b.fee r)]) (y:=.pl 1 [.int .i64 (b.fee r)]) (by simp) (by simp) (by simp) (by omega) (fun y hy=>by
   rw [List.mem_singleton.1 hy]
   exact ⟨rfl,by simp [AV.cells,AV.one]⟩) (by simp [AV.cells]) (by simp [Ya];omega)
  have e1:Ya ((b.rounds.take i).map b.fee)++[.int .i64 (b.fee r)]=Ya ((b.rounds.take (i+1)).map b.fee):=by rw [htk];simp [Ya]
  rw [e1] at hA'
  have hx1:∀ (x:AObj) (Y:Za),((σ++[.cells [.int .i64 b.criers,.int .i64 b.word,.int .i64 b.stand,.int .i64 b.fine,.pl 3 (b.rounds.map Wc)],dkV b v])++g++x::Y)[((σ++[.cells [.int .i64 b.criers,.int .i64 b.word,.int .i64 b.stand,.int .i64 b.fine,.pl 3 (b.rounds.map Wc)],dkV b v])++g).length]? = some x:=fun x Y=>by simp
  obtain ⟨jo,rfl⟩:∃ jo,o'=some jo:=by
   cases o' with
   | none=>exact absurd hA'.val.2 (by rw [htk];simp [Ya])
   | some jo=>exact ⟨jo,rfl⟩
  obtain ⟨rfl,_⟩:=hA'.val
  simp [-Xa,dkV] at he
  unfold Bx.fee at he
  simp [-Xa,hl,g1,g5,g17,g18,g19,hlt',hlt,hr,Wc]
  refine Xp [17,20] [(0,1)] mixed (by kernel_rfl) (by kernel_rfl) ?_
  simp [-Xa,hl,g1,g5,g17,g18,g19,dkV,ww1,ww2,ww3]
  have hA2:=hA'.base (σ':=σ++[zFe,zFe]) (by simp)
  rw [List.map_take,show (σ++[AObj.cells [.int .i64 b.criers,.int .i64 b.word,.int .i64 b.stand,.int .i64 b.fine,.pl 3 (b.rounds.map Wc)],dkV b v]).length=σ.length+2 by simp] at hA2
  rw [he,Wl]
  simp [-Xa,hl,g1,g5,g17,g18,g19,dkV,hw1]
  exact ⟨⟨i+1,by simp,hlt,_,_,g',⟨rfl,rfl⟩,hA2⟩,by omega⟩
 ·obtain rfl:i=b.rounds.length:=by omega
  rw [List.take_length] at hA
  have hv:=Xc0 (T:=barP (fun r=>decide ((σ++[AObj.cells (Zi b).cells]).length+1≤r)) ((σ++[.cells (Zi b).cells])++(dkV b v::g))) hA fun j x hj=>by
   refine Yaf ?_ (by simp)
   rw [Qzr (by simp;omega),show (σ++[zFe,zFe]).length+j - (σ++[AObj.cells (Zi b).cells]).length=j+1 by simp;omega]
   simpa using hj
  have hC:dkV b v=.cells ([.int .i64 b.criers,.int .i64 b.word,.int .i64 b.stand,.int .i64 b.fine,.pl 3 (b.rounds.map Wc)]++[v]):=rfl
  simp [-Xa,hl,g1,g5,g17,g18,g19]
  have e:(σ++(AObj.cells [.int .i64 b.criers,.int .i64 b.word,.int .i64 b.stand,.int .i64 b.fine,.pl 3 (b.rounds.map Wc)]::dkV b v::g))=(σ++[.cells (Zi b).cells])++(.cells [.int .i64 b.criers,.int .i64 b.word,.int .i64 b.stand,.int .i64 b.fine,.pl 3 (b.rounds.map Wc),v]::g):=by simp [Zi,dkV]
  have hd:dkV b v=.cells [.int .i64 b.criers,.int .i64 b.word,.int .i64 b.stand,.int .i64 b.fine,.pl 3 (b.rounds.map Wc),v]:=rfl
  rw [e]
  rw [hd] at hv
  refine ⟨_,_,View.rows (C':=Xc b) rfl (fun k x y hx hy=>?_),_,.inl rfl,rfl,g.map fun _=>AObj.dead,by simp [Zi]⟩
  match k,hx,hy with
  | 0,hx,hy=>simp [Xc] at hx hy;subst hx;subst hy;exact .inl rfl
  | 1,hx,hy=>simp [Xc] at hx hy;subst hx;subst hy;exact .inl rfl
  | 2,hx,hy=>simp [Xc] at hx hy;subst hx;subst hy;exact .inl rfl
  | 3,hx,hy=>simp [Xc] at hx hy;subst hx;subst hy;exact .inl rfl
  | 4,hx,hy=>simp [Xc] at hx hy;subst hx;subst hy;exact .inl rfl
  | 5,hx,hy=>simp [Xc] at hx hy;subst hx;subst hy;exact .inr hv
  | k+6,hx,hy=>simp at hx
end Ab

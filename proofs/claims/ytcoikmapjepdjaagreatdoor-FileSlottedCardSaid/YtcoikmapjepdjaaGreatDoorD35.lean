/-
  Texts packed for a claim.
-/
import Derived.Test.YtcoikmapjepdjaaGreatDoorD00
import Derived.Test.YtcoikmapjepdjaaGreatDoorD33
import Derived.Test.YtcoikmapjepdjaaGreatDoorD34
set_option linter.all false
namespace Ab
open Go Go.RowKit Go.Proofs
def Zd (t:Tab):List AV:=(List.range 40).map fun k=>.int .i64 (t (k / 5) (k % 5))
theorem Zp (t:Tab):(Zd t).length=40:=by simp [Zd]
theorem Van (t:Tab) {s m:Nat} (hs:s<8) (hm:m<5):(Zd t)[s*5+m]? = some (.int .i64 (t s m)):=by
 unfold Zd
 rw [Qzp,List.getElem?_range (by omega)]
 have h1:(s*5+m) / 5=s:=by omega
 have h2:(s*5+m) % 5=m:=by omega
 simp [h1,h2]
theorem Yda (t:Tab) {s m:Nat} (hs:s<8) (hm:m<5) (v:Int):(Zd t).set (s*5+m) (.int .i64 v)=Zd (Zg t s m v):=by
 apply List.ext_getElem?
 intro k
 unfold Zd Zg
 rw [List.getElem?_set]
 by_cases hk:s*5+m=k
 ·subst hk
  have h1:(s*5+m) / 5=s:=by omega
  have h2:(s*5+m) % 5=m:=by omega
  simp [h1,h2]
  rw [List.getElem?_range (by omega)]
  simp [h1,h2]
  omega
 ·rw [if_neg hk,Qzp,Qzp]
  rcases Qzn k 40 with h | h
  ·rw [List.getElem?_range h]
   simp
   intro h1 h2
   omega
  ·rw [List.getElem?_eq_none (by simpa using h)]
   rfl
def rowT (t:Tab) (s:Nat):List Int:=(List.range 5).map (t s)
theorem Uaq {n:Nat} {σ:Za} {r off:Nat} {cs:List AV} {l:List Int} (hn:n≤r) (hr:σ[r]? = some (.cells cs)) (h:∀ (i:Nat) (x:Int),l[i]? = some x→cs[off+i]? = some (.int .i64 x)):Fz n σ (.arr 1 r off l.length) (.pl 1 (Ya l)):=by
 have e:l.length=(Ya l).length:=by simp [Ya]
 rw [e]
 refine .arr 1 _ off cs (Ya l) (fun i _=>.int .i64 ((l[i]?).getD 0)) hn hr (fun i x hx=>?_) fun i x hx j y hy=>?_
 ·unfold Ya at hx
  rw [Qzp,Qzm] at hx
  obtain ⟨z,hz,rfl⟩:=hx
  refine ⟨rfl,fun j y hy=>?_⟩
  cases j with
  | zero =>
   simp [AV.cells] at hy
   subst hy
   exact ⟨rfl,by rw [show (off+i)*1+0=off+i by omega,h i z hz,hz];rfl⟩
  | succ j=>simp [AV.cells] at hy
 ·unfold Ya at hx
  rw [Qzp,Qzm] at hx
  obtain ⟨z,hz,rfl⟩:=hx
  cases j with
  | zero =>
   simp [AV.cells] at hy
   subst hy
   rw [hz]
   exact .int _ _
  | succ j=>simp [AV.cells] at hy
def Xz (t:Tab) (s:Nat) (n:Int):Int:=Wz (rowT t s) fun x=>decide (n=x)
theorem Uba {t:Tab} {s:Nat} {n:Int} (h:Xz t s n=-1):∀ m,m<5→t s m≠n:=by
 intro m hm e
 have:=Ub5 (rowT t s) fun x=>decide (n=x)
 unfold Xz at h
 rw [h] at this
 have h2:((rowT t s).any fun x=>decide (n=x))=true:=List.any_eq_true.2 ⟨n,List.mem_map.2 ⟨m,List.mem_range.2 hm,e⟩,by simp⟩
 rw [h2] at this
 simp at this
theorem Zcc (t:Tab) (s:Nat) (n:Int):Xz t s n=-1∨∃ m:Nat,Xz t s n=m∧m<5∧t s m=n:=by
 by_cases h:∃ i,∃ hi:i<(rowT t s).length,(∀ x∈(rowT t s).take i,decide (n=x)=false)∧decide (n=(rowT t s)[i])=true
 ·obtain ⟨i,hi,h1,h2⟩:=h
  have:=Ybs hi h1 h2
  have hl:(rowT t s).length=5:=by simp [rowT]
  refine .inr ⟨i,this,by omega,?_⟩
  simp [rowT] at h2
  exact h2.symm
 ·left
  refine Zb2 fun x hx=>?_
  cases hd:decide (n=x) with
  | false=>rfl
  | true =>
   exfalso
   have:∀ (l:List Int),(∃ x∈l,decide (n=x)=true)→∃ i,∃ hi:i<l.length,(∀ x∈l.take i,decide (n=x)=false)∧decide (n=l[i])=true:=by
    intro l
    induction l with
    | nil=>rintro ⟨x,hx,_⟩;simp at hx
    | cons y l ih =>
     rintro ⟨x,hx,hd⟩
     cases hy:decide (n=y) with
     | true=>exact ⟨0,by simp,by simp,by simpa using hy⟩
     | false =>
      rcases List.mem_cons.1 hx with rfl | hx
      ·rw [hy] at hd;cases hd
      ·obtain ⟨i,hi,h1,h2⟩:=ih ⟨x,hx,hd⟩
       refine ⟨i+1,by simpa using hi,fun z hz=>?_,by simpa using h2⟩
       rw [List.take_succ_cons] at hz
       rcases List.mem_cons.1 hz with rfl | hz
       ·exact hy
       ·exact h1 z hz
   exact h (this _ ⟨x,hx,hd⟩)
attribute [local irreducible] aws awp aw1 Og Om Oc Oa Ogd Ov Ot awd Zb awh Xb Ogh Ohd awl Ogl Ohl awv Ogv Ohv Wb Vb QFn Ub QRo QBe Ul Vn ACode AYield
theorem Vay (t:Tab) (σ:Za) (q s:Nat) (n:Int) (hq:σ[q]? = some (.cells (Zd t))) (hs:s<8):ACalls Tryz.prog 251 [.ptr q 0,.int .i64 s,.int .i64 n] σ fun v σ'=>v=.int .i64 (Xz t s n)∧σ'=σ:=by
 refine Yb Tryz.func251 rfl (Va Tryz.func251 (by decide) rfl) ?_
 have hs':(s:Int)<8:=by omega
 have hle:s*5+5≤(Zd t).length:=by rw [Zp];omega
 simp [Tryz.ntmps251,hs',hq,hle]
 have hz:Fz 0 σ (.arr 1 q (s*5) 5) (.pl 1 (Ya (rowT t s))):=by
  have hl:(rowT t s).length=5:=by simp [rowT]
  have hh:=Uaq (n:=0) (r:=q) (off:=s*5) (l:=rowT t s) (Nat.zero_le _) hq fun i x hx=>?_
  ·rw [hl] at hh;exact hh
  have hi:=(Qzs.1 hx).1
  rw [hl] at hi
  rw [Van t hs hi]
  unfold rowT at hx
  rw [Qzp,List.getElem?_range hi] at hx
  simp at hx
  rw [hx]
 refine StA.of ((APure.lend (args':=[.arr 1 q (s*5) 5,.int .i64 n]) (Uby (rowT t s) n (by simp [rowT])) (σ:=σ) rfl (fun i x y hx hy=>?_) (fun C C' c hv=>by cases hv;exact .int _ _)).mono ?_)
 ·match i,hx,hy with
  | 0,hx,hy=>simp at hx hy;subst hx;subst hy;exact hz
  | 1,hx,hy=>simp at hx hy;subst hx;subst hy;exact .int _ _
  | i+2,hx,hy=>simp at hx
 ·rintro v s' ⟨rfl,rfl⟩
  simp [Xz]
theorem Ybe {σ:Za} {q:Nat} {t:Tab} {n:Nat} {S:Za}:∀ (r:Nat) (o:AObj),(σ.set q (.cells (Zd t)))[r]? = some o→σ[r]? = some o∨∃ cs,o=.cells cs∧∀ y∈cs,Fz n S y y:=by
 intro r o h
 rw [List.getElem?_set] at h
 split at h
 ·split at h
  ·obtain rfl:=Option.some.inj h
   refine .inr ⟨_,rfl,fun y hy=>?_⟩
   obtain ⟨k,_,rfl⟩:=List.mem_map.1 hy
   exact .int _ _
  ·cases h
 ·exact .inl h
theorem Ub0 (σ:Za) (q:Nat) (m n:Int):ACalls Tryz.prog 250 [.ptr q 0,.int .i64 m,.int .i64 n] σ fun v s=>v=.fn (.func 302) [] [.ptr (σ.length+2) 0,.ptr σ.length 0,.ptr (σ.length+1) 0]∧s=σ++[.cells [.ptr q 0],.cells [.int .i64 m],.cells [.int .i64 n]]:=by
 refine Yb Tryz.func250 rfl (Va Tryz.func250 (by decide) rfl) ?_
 simp [Tryz.ntmps250]
theorem Wb8 (t:Tab) (r a b c q man slots:Nat) (hm:man<5) (hs:slots≤8) (I:Nat→Za→Prop) (Fin:Za→Prop)
  (hq:∀ k σ,I k σ→σ[a]? = some (.cells [.int .i64 slots])∧σ[b]? = some (.cells [.ptr q 0])∧σ[c]? = some (.cells [.int .i64 man])∧σ[q]? = some (.cells (Zd t)))
  (hy:∀ k σ,I k σ→k<slots→t k man=-1→∃ (x:Bool) (s:Za),AYield Tryz.prog r [.int .i64 k] σ (fun v' s'=>v'=.bool x∧s'=s)∧if x then I (k+1) s else Fin s)
  (hn:∀ k σ,I k σ→k<slots→t k man≠-1→I (k+1) σ)
  (σ:Za) (h0:I 0 σ):AEnter Tryz.prog 302 [.yld r,.ptr a 0,.ptr b 0,.ptr c 0] σ (fun _ σ'=>I slots σ'∨Fin σ'):=by
 refine Wb9 Tryz.func302 rfl (Va Tryz.func302 (by decide) rfl) ?_
 have ha0:=(hq _ _ h0).1
 simp [Tryz.ntmps302,ha0]
 refine Vd (fun env σ'=>∃ (u:List AV) (k:Nat),env={ t:=u }∧u.length=25∧tg u 0=.yld r∧tg u 2=.ptr b 0∧tg u 3=.ptr c 0∧tg u 6=.int .i64 slots∧tg u 7=.int .i64 k∧k≤slots∧I k σ')
  (fun env _=>match tg env.t 7 with | .int _ k=>slots - k.toNat | _=>0) ⟨_,0,rfl,by simp,by simp,by simp,by simp,by simp,by simp,by omega,h0⟩ ?_
 rintro env σ' ⟨u,k,rfl,hl,g0,g2,g3,g6,g7,hk,hI⟩
 rcases Qzn k slots with hlt | hge
 ·have hlt':(k:Int)<(slots:Int):=by omega
  have hw1:=w64 (n:=(k:Int)+1) (by omega) (by omega)
  obtain ⟨_,hqb,hqc,hqt⟩:=hq _ _ hI
  have hget:=Van t (show k<8 by omega) hm
  have hk8:(k:Int)<8:=by omega
  have hm5:(man:Int)<5:=by omega
  have hle:k*5+man+1≤(Zd t).length:=by rw [Zp];omega
  have hlt2:k*5+man<(Zd t).length:=by rw [Zp];omega
  have hget':(Zd t)[k*5+man]'hlt2=.int .i64 (t k man):=Option.some.inj ((Qze hlt2).symm.trans hget)
  simp [hl,g0,g2,g3,g6,g7,hlt']
  refine Us [11] [] mixed (by kernel_rfl) (by kernel_rfl) ?_
  by_cases hb:t k man=-1
  ·obtain ⟨x,s,hys,hx⟩:=hy k σ' hI hlt hb
   simp [hl,g0,g2,g3,g6,g7,hqb,hqc,hqt,hk8,hm5,hle,hlt2,hget',hb]
   refine Yhh hys ?_
   cases x with
   | true =>
    simp [hl,g0,g2,g3,g6,g7,hw1]
    exact ⟨⟨k+1,by simp,hlt,by simpa using hx⟩,by omega⟩
   | false =>
    simp [hl,g0,g2,g3,g6,g7,hw1]
    exact .inr (by simpa using hx)
  ·have hI2:=hn k σ' hI hlt hb
   simp [hl,g0,g2,g3,g6,g7,hqb,hqc,hqt,hk8,hm5,hle,hlt2,hget',hb,hw1]
   exact ⟨⟨k+1,by simp,hlt,hI2⟩,by omega⟩
 ·obtain rfl:k=slots:=by omega
  simp [hl,g0,g2,g3,g6,g7]
  exact .inl hI
end Ab
namespace Ab
open Go Go.RowKit Go.Proofs
def Um (e:Ent):AV:=.agg [.int .i64 e.1,.int .i64 e.2.1,.int .i64 e.2.2]
theorem Vcc {S g:Za} {v:AV} {L:List Ent} {o:Option Nat} (hA:Acc S g 3 v (L.map Um) o) (x:Ent) (hl:L.length≤2^30) :
  ∃ v' g' jo,Xa Tryz.prog #[399,399] v (.arr 3 (S.length+g.length) 0 1) (S++(g++[.cells [.int .i64 x.1,.int .i64 x.2.1,.int .i64 x.2.2]]))=some (v',S++g')∧Acc S g' 3 v' ((L++[x]).map Um) (some jo)∧v'=.arr 3 (S.length+jo) 0 (L.length+1):=by
 obtain ⟨v',g',o',he,hA',hlen,hkeep,ho⟩:=hA.push (P:=Tryz.prog) (t:=399) (e:=401) (ag:=true) (x:=Um x) (by simp) (by simp) (by simp) (by omega) ⟨rfl,by simp [AV.cells,AV.one,Um]⟩ (by simp;omega)
 have e:L.map Um++[Um x]=(L++[x]).map Um:=by simp
 rw [e] at hA'
 obtain ⟨jo,rfl⟩:∃ jo,o'=some jo:=by
  cases o' with
  | none=>exact absurd hA'.val.2 (by simp)
  | some jo=>exact ⟨jo,rfl⟩
 exact ⟨v',g',jo,he,hA',by rw [hA'.val.1];simp⟩
theorem View.dropS (S g:Za):View (fun r=>decide (S.length≤r)) (S++g) (S++g.map fun _=>AObj.dead):=by
 refine ⟨by simp,fun r o' ho hlv=>?_⟩
 rcases Qzn r S.length with h | h
 ·rw [Qzl h] at ho
  exact ⟨by simp;omega,o',by rw [Qzl h];exact ho,hlv,.inl rfl⟩
 ·rw [Qzr h,Qzp,Qzm] at ho
  obtain ⟨x,_,rfl⟩:=ho
  cases hlv
def Zal (v:AV):Nat:=match v with
 | .arr _ _ _ n=>11 - n
 | _=>11
theorem Zfh {S g:Za} {v:AV} {L:List AV} {o:Option Nat} (hA:Acc S g 3 v L o):Zal v=11 - L.length:=by
 have hv:=hA.val
 cases o with
 | none=>rw [hv.1,hv.2];rfl
 | some jo=>rw [hv.1];rfl
def TuA (t:Tab) (σ:Za) (q a b man:Nat) (env:Env) (σ':Za):Prop:=∃ (u:List AV) (C:List Nat) (E:List Ent) (cur:Int) (v:AV) (g:Za) (o:Option Nat),env={ t:=u }∧u.length=89∧tg u 0=.ptr q 0∧tg u 1=.int .i64 cur∧tg u 2=.int .i64 a∧tg u 3=.int .i64 b∧tg u 8=v∧σ'=σ++g∧Acc σ g 3 v (E.map Um) o∧ChInv t a b man C E cur∧E.length≤2*C.length
def TuB (t:Tab) (σ:Za) (q a b:Nat) (E:List Ent) (env:Env) (σ':Za):Prop:=∃ (u:List AV) (i:Nat) (g:Za),env={ t:=u }∧u.length=89∧tg u 0=.ptr q 0∧tg u 2=.int .i64 a∧tg u 3=.int .i64 b∧tg u 8=.pl 3 (E.map Um)∧tg u 53=.pl 3 (E.map Um)∧tg u 54=.int .i64 E.length∧tg u 55=.int .i64 i∧i≤E.length∧σ'=σ.set q (.cells (Zd (Yw (E.take i) t)))++g
def TuC (t:Tab) (σ:Za) (q a b:Nat) (E:List Ent) (env:Env) (σ':Za):Prop:=∃ (u:List AV) (i:Nat) (g:Za),env={ t:=u }∧u.length=89∧tg u 0=.ptr q 0∧tg u 2=.int .i64 a∧tg u 3=.int .i64 b∧tg u 68=.pl 3 (E.map Um)∧tg u 69=.int .i64 E.length∧tg u 70=.int .i64 i∧i≤E.length∧σ'=σ.set q (.cells (Zd (Xab a b (E.take i) (Yw E t))))++g
theorem Vas (t:Tab) {s m:Nat} (hs:s<8) (hm:m<5) (v:Int):List.take (s*5+m) (Zd t)++.int .i64 v::List.drop (s*5+m+1) (Zd t)=Zd (Zg t s m v):=by
 rw [← Yda t hs hm,List.set_eq_take_append_cons_drop,if_pos (by rw [Zp];omega)]
attribute [local irreducible] aws awp aw1 Og Om Oc Oa Ogd Ov Ot awd Zb awh Xb Ogh Ohd awl Ogl Ohl awv Ogv Ohv Wb Vb QFn Ub QRo QBe Ul Vn ACode AYield
set_option maxHeartbeats 4000000 in
theorem Wdi {slots:Nat} {N:List (Nat × Int)} {t:Tab} (h:SlInv slots N t) (σ:Za) (q a b man:Nat) (hq:σ[q]? = some (.cells (Zd t))) (ha:a<8) (hb8:b<8) (hm:man<5) (hb:t b man=-1) (hab:a≠b) :
  ACalls Tryz.prog 252 [.ptr q 0,.int .i64 man,.int .i64 a,.int .i64 b] σ fun v s=>∃ C E cur,ChInv t a b man C E cur∧(∀ c:Nat,cur=c→t a c=-1)∧s=σ.set q (.cells (Zd (Xab a b E (Yw E t)))):=by
 have hql:=(Qzs.1 hq).1
 refine ACalls.forgetT ?_
 refine Vbu 2 (fun env σ'=>TuA t σ q a b man env σ'∧∀ c:Nat,tg env.t 1=.int .i64 c→t a c=-1) Tryz.func252 rfl (Va Tryz.func252 (by decide) rfl) ?_ ?_
 ·simp [-Xa,Tryz.ntmps252]
  refine Vd (TuA t σ q a b man) (fun env _=>Zal (tg env.t 8)) ⟨_,[],[],man,.nils,[],none,rfl,by simp,by simp,by simp,by simp,by simp,by simp,by simp,Acc.nil _ _ _,ChInv.zero hm,by simp⟩ ?_
  rintro env _ ⟨u,C,E,cur,v,g,o,rfl,hl,g0,g1,g2,g3,g8,rfl,hA,hC,hE⟩
  have hq':∀ X:Za,(σ++X)[q]? = some (.cells (Zd t)):=fun X=>by rw [Qzl hql];exact hq
  have hCl:=hC.len
  have hvl:Zal (tg u 8)=11 - E.length:=by rw [g8,Zfh hA];simp
  have e0:∀ (m:List Nat),Zal (tg ({ t:=u,m:=m }:Env).t 8)=11 - E.length:=fun _=>hvl
  rw [e0]
  by_cases hcm:cur=-1
  ·subst hcm
   simp [-Xa,hl,g0,g1,g2,g3,g8]
   exact ⟨_,C,E,-1,v,g,o,rfl,by simp [hl],by simp [hl,g0],by simp [hl,g1],by simp [hl,g2],by simp [hl,g3],by simp [hl,g8],rfl,hA,hC,hE⟩
  ·obtain ⟨c,rfl,hc5,hcC⟩:=hC.curc.resolve_left hcm
   have hget:=Van t ha hc5
   have hle:a*5+c+1≤(Zd t).length:=by rw [Zp];omega
   have hlt2:a*5+c<(Zd t).length:=by rw [Zp];omega
   have hget':(Zd t)[a*5+c]'hlt2=.int .i64 (t a c):=Option.some.inj ((Qze hlt2).symm.trans hget)
   have ha8':(a:Int)<8:=by omega
   have hc5':(c:Int)<5:=by omega
   have hcm':¬ (c:Int)=-1:=hcm
   by_cases hta:t a c=-1
   ·simp [-Xa,hl,g0,g1,g2,g3,g8,hcm',hq',ha8',hc5',hle,hlt2,hget',hta]
    exact ⟨⟨_,C,E,c,v,g,o,rfl,by simp [hl],by simp [hl,g0],by simp [hl,g1],by simp [hl,g2],by simp [hl,g3],by simp [hl,g8],rfl,hA,hC,hE⟩,fun c1 e=>by rw [← show c=c1 by omega];exact hta⟩
   ·obtain ⟨v1,g1',jo1,he1,hA1,hv1⟩:=Vcc hA (a,c,t a c) (by omega)
    obtain ⟨n,hn⟩:∃ n,t a c=n:=⟨_,rfl⟩
    rw [hn] at hget' he1
    have hta':¬ n=-1:=hn▸hta
    simp [-Xa,hl,g0,g1,g2,g3,g8,hcm',hq',ha8',hc5',hle,hlt2,hget',hta']
    simp only [] at he1
    rw [he1,Zn]
    refine StA.of ((Vay t (σ++g1') q b n (hq' _) hb8).mono ?_)
    rintro w s ⟨rfl,rfl⟩
    subst hv1
    rcases Zcc t b n with hw | ⟨w,hw,hw5,htw⟩
    ·have hno:∀ m,t b m≠t a c:=fun m e=>by
      rcases Qzn m 5 with h5 | h5
      ·exact Uba hw m h5 (e.trans hn)
      ·have:=h.col (s:=b) h5;rw [e] at this;exact hta this
     have hC2:=hC.stop h hta hno
     have hl2:=hC2.len
     simp at hl2
     simp [-Xa,hl,g0,g1,g2,g3,g8,hw]
     exact ⟨⟨_,C++[c],E++[(a,c,t a c)],-1,_,g1',some jo1,rfl,by simp [hl],by simp [hl,g0],by simp [hl],by simp [hl,g2],by simp [hl,g3],by simp [hl],rfl,hA1,hC2,by simp;omega⟩,by simp [Zal];omega⟩
    ·have hC2:=hC.go h hta hb hw5 (htw.trans hn.symm)
     have hl2:=hC2.len
     simp at hl2
     obtain ⟨v2,g2',jo2,he2,hA2,hv2⟩:=Vcc hA1 (b,w,t a c) (by simp;omega)
     rw [hn] at he2
     have hw1:¬ (w:Int)=-1:=by omega
     simp [-Xa,hl,g0,g1,g2,g3,g8,hw,hw1]
     simp only [] at he2
     rw [he2,Zn]
     exact ⟨⟨_,C++[c],E++[(a,c,t a c)]++[(b,w,t a c)],w,_,g2',some jo2,rfl,by simp [hl],by simp [hl,g0],by simp [hl,hw],by simp [hl,g2],by simp [hl,g3],by simp [hl],rfl,hA2,hC2,by simp;omega⟩,by simp [hl,hv2,Zal];omega⟩
 ·rintro env _ ⟨⟨u,C,E,cur,v,g,o,rfl,hl,g0,g1,g2,g3,g8,rfl,hA,hC,hE⟩,hend⟩
  have hend':∀ c:Nat,cur=c→t a c=-1:=fun c e=>hend c (by show tg u 1=_;rw [g1,e])
  have hv8:=hA.vwk (p:=fun r=>decide (σ.length≤r)) (fun r hr=>by simpa using hr) (by omega) (fun x hx y hy T=>by
   obtain ⟨z,_,rfl⟩:=List.mem_map.1 hx
   simp [AV.cells,Um] at hy
   rcases hy with rfl | rfl | rfl<;>exact .int _ _)
  have hEs:∀ e∈E,(e.1=a∨e.1=b)∧e.2.1<5:=fun e he=>by
   have hc:=((hC.ent e).1 he).2
   rcases hc with ⟨h1,h2⟩ | ⟨h1,h2 | h2,_⟩
   ·exact ⟨.inl h1,hC.lt _ h2⟩
   ·exact ⟨.inr h1,hC.lt _ h2⟩
   ·rcases hC.curc with e1 | ⟨c,e1,h5,_⟩
    ·omega
    ·exact ⟨.inr h1,by omega⟩
  refine ACode.view (u':=Xj u [(0,.ptr q 0),(2,.int .i64 a),(3,.int .i64 b),(8,.pl 3 (E.map Um))]) _ (View.dropS σ g) (Yl _ ?_) (Ual _ _) (Za8 (by
   simp only [List.mem_cons,List.not_mem_nil,or_false]
   rintro p (rfl | rfl | rfl | rfl)<;>dsimp only<;>first | (rw [g0];exact .inl rfl) | (rw [g2];exact .inl rfl) | (rw [g3];exact .inl rfl) | (rw [g8];exact hv8)))
  have hl3:=(Ual u [(0,.ptr q 0),(2,.int .i64 a),(3,.int .i64 b),(8,.pl 3 (E.map Um))]).trans hl
  have k0:tg (Xj u [(0,.ptr q 0),(2,.int .i64 a),(3,.int .i64 b),(8,.pl 3 (E.map Um))]) 0=.ptr q 0:=by simp [Xj,hl]
  have k2:tg (Xj u [(0,.ptr q 0),(2,.int .i64 a),(3,.int .i64 b),(8,.pl 3 (E.map Um))]) 2=.int .i64 a:=by simp [Xj,hl]
  have k3:tg (Xj u [(0,.ptr q 0),(2,.int .i64 a),(3,.int .i64 b),(8,.pl 3 (E.map Um))]) 3=.int .i64 b:=by simp [Xj,hl]
  have k8:tg (Xj u [(0,.ptr q 0),(2,.int .i64 a),(3,.int .i64 b),(8,.pl 3 (E.map Um))]) 8=.pl 3 (E.map Um):=by simp [Xj,hl]
  obtain ⟨u',hu'⟩:∃ x,Xj u [(0,.ptr q 0),(2,.int .i64 a),(3,.int .i64 b),(8,.pl 3 (E.map Um))]=x:=⟨_,rfl⟩
  rw [hu'] at hl3 k0 k2 k3 k8 ⊢
  obtain ⟨dd,hdd⟩:∃ dd,g.map (fun _=>AObj.dead)=dd:=⟨_,rfl⟩
  rw [hdd]
  have hE10:E.length≤10:=by have:=hC.len;omega
  clear hv8 hA g0 g1 g2 g3 g8 hl hu' u hdd g hend
  have h0:σ.set q (.cells (Zd t))=σ:=by
   apply List.ext_getElem?
   intro i
   rw [List.getElem?_set]
   split
   ·rename_i e
    subst e
    first | exact hq.symm | (rw [if_pos hql];exact hq.symm)
   ·rfl
  simp [-Xa,Wfc,Zfq,hl3,k0,k2,k3,k8]
  refine Vd (TuB t σ q a b E) (fun env _=>match tg env.t 55 with | .int _ i=>E.length - i.toNat | _=>0) ⟨_,0,dd,rfl,by simp [hl3],by simp [hl3,k0],by simp [hl3,k2],by simp [hl3,k3],by simp [hl3,k8],by simp [hl3,k8],by simp [hl3],by simp [hl3],by omega,by simp [Yw,h0]⟩ ?_
  rintro env _ ⟨u,i,g,rfl,hl,g0,g2,g3,g8,g53,g54,g55,hi,rfl⟩
  rcases Qzn i E.length with hlt | hge
  ·have hlt':(i:Int)<(E.length:Int):=by omega
   have hx:=w64 (n:=(i:Int)+1) (by omega) (by omega)
   obtain ⟨e,he⟩:∃ e,E[i]=e:=⟨_,rfl⟩
   obtain ⟨hes,hem⟩:=hEs e (he▸List.getElem_mem hlt)
   obtain ⟨s1,m1,n1⟩:=e
   simp only at hes hem
   have hs8:(s1:Int)<8:=by omega
   have hm5:(m1:Int)<5:=by omega
   obtain ⟨t1,ht1⟩:∃ t1,Yw (E.take i) t=t1:=⟨_,rfl⟩
   have hle:s1*5+m1+1≤(Zd t1).length:=by rw [Zp];omega
   have hsuc:Yw (E.take (i+1)) t=Zg t1 s1 m1 (-1):=by
    rw [Qzt hlt,he,← ht1]
    unfold Yw
    rw [List.foldl_append]
    rfl
   obtain ⟨T,hT⟩:∃ T,σ.set q (.cells (Zd t1))++g=T:=⟨_,rfl⟩
   have hTq:∀ X:Za,(T++X)[q]? = some (.cells (Zd t1)):=fun X=>by rw [← hT,List.append_assoc,Qzl (by simpa using hql)];simp [hql]
   have hTs:∀ (X:Za) (Y:AObj),(T++X).set q Y=σ.set q Y++(g++X):=fun X Y=>by rw [← hT,List.append_assoc,List.set_append_left _ _ (by simpa using hql),List.set_set]
   have hTx:∀ (x:AObj) (Y:Za),(T++x::Y)[T.length]? = some x:=fun x Y=>by simp
   rw [ht1,hT]
   simp [-Xa,hl,g0,g2,g3,g8,g53,g54,g55,hlt,hlt',he,Um]
   refine Us [8] [] mixed (by kernel_rfl) (by kernel_rfl) ?_
   simp [-Xa,hl,g0,g2,g3,g8,g53,g54,g55,hTq,hTx,hTs,hs8,hm5,hle,hx]
   rw [Vas t1 (by omega) hem]
   exact ⟨⟨_,i+1,_,rfl,by simp [hl],by simp [hl,g0],by simp [hl,g2],by simp [hl,g3],by simp [hl,g8],by simp [hl,g53],by simp [hl,g54],by simp [hl],hlt,by rw [hsuc]⟩,by omega⟩
  ·obtain rfl:i=E.length:=by omega
   simp [-Xa,hl,g0,g2,g3,g8,g53,g54,g55]
   refine Vd (TuC t σ q a b E) (fun env _=>match tg env.t 70 with | .int _ i=>E.length - i.toNat | _=>0) ⟨_,0,g,rfl,by simp [hl],by simp [hl,g0],by simp [hl,g2],by simp [hl,g3],by simp [hl],by simp [hl],by simp [hl],by omega,by simp [Xab]⟩ ?_
   clear hl g0 g2 g3 g8 g53 g54 g55 hge u g
   rintro env _ ⟨u,i,g,rfl,hl,g0,g2,g3,g68,g69,g70,hi,rfl⟩
   rcases Qzn i E.length with hlt | hge
   ·have hlt':(i:Int)<(E.length:Int):=by omega
    have hx:=w64 (n:=(i:Int)+1) (by omega) (by omega)
    obtain ⟨e,he⟩:∃ e,E[i]=e:=⟨_,rfl⟩
    obtain ⟨hes,hem⟩:=hEs e (he▸List.getElem_mem hlt)
    obtain ⟨s1,m1,n1⟩:=e
    simp only at hes hem
    obtain ⟨s2,hs2⟩:∃ s2,a+b - s1=s2:=⟨_,rfl⟩
    have hs2':(a:Int)+b - s1=s2:=by omega
    have hw1:=w64 (n:=(a:Int)+b) (by omega) (by omega)
    have hw2:=w64 (n:=(s2:Int)) (by omega) (by omega)
    have hs8:(s2:Int)<8:=by omega
    have hm5:(m1:Int)<5:=by omega
    obtain ⟨t1,ht1⟩:∃ t1,Xab a b (E.take i) (Yw E t)=t1:=⟨_,rfl⟩
    have hle:s2*5+m1+1≤(Zd t1).length:=by rw [Zp];omega
    have hsuc:Xab a b (E.take (i+1)) (Yw E t)=Zg t1 s2 m1 n1:=by
     rw [Qzt hlt,he,← ht1,← hs2]
     unfold Xab
     rw [List.foldl_append]
     rfl
    obtain ⟨T,hT⟩:∃ T,σ.set q (.cells (Zd t1))++g=T:=⟨_,rfl⟩
    have hTq:∀ X:Za,(T++X)[q]? = some (.cells (Zd t1)):=fun X=>by rw [← hT,List.append_assoc,Qzl (by simpa using hql)];simp [hql]
    have hTs:∀ (X:Za) (Y:AObj),(T++X).set q Y=σ.set q Y++(g++X):=fun X Y=>by rw [← hT,List.append_assoc,List.set_append_left _ _ (by simpa using hql),List.set_set]
    have hTx:∀ (x:AObj) (Y:Za),(T++x::Y)[T.length]? = some x:=fun x Y=>by simp
    rw [ht1,hT]
    simp [-Xa,hl,g0,g2,g3,g68,g69,g70,hlt,hlt',he,Um]
    refine Us [14] [] mixed (by kernel_rfl) (by kernel_rfl) ?_
    simp [-Xa,hl,g0,g2,g3,g68,g69,g70,hTq,hTx,hTs,hs8,hm5,hle,hx,hw1,hs2',hw2]
    rw [Vas t1 (by omega) hem]
    exact ⟨⟨_,i+1,_,rfl,by simp [hl],by simp [hl,g0],by simp [hl,g2],by simp [hl,g3],by simp [hl,g68],by simp [hl,g69],by simp [hl],hlt,by rw [hsuc]⟩,by omega⟩
   ·obtain rfl:i=E.length:=by omega
    simp [-Xa,hl,g0,g2,g3,g68,g69,g70]
    refine ⟨_,g,rfl,by simp,Ybe,⟨.tup [],by simp⟩,C,E,cur,hC,hend',rfl⟩
end Ab

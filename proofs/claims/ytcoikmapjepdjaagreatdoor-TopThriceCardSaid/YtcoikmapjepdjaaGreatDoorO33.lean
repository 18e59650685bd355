/-
  Texts packed for a claim.
-/
import Derived.Test.YtcoikmapjepdjaaGreatDoorO00
import Derived.Test.YtcoikmapjepdjaaGreatDoorO28
import Derived.Test.YtcoikmapjepdjaaGreatDoorO32
set_option linter.all false
namespace Ab
open Go Go.RowKit Go.Proofs
def Yc (t:Tab):List AV:=(List.range 40).map fun k=>.int .i64 (t (k / 5) (k % 5))
theorem Vp (t:Tab):(Yc t).length=40:=by simp [Yc]
theorem Yas (t:Tab) {s m:Nat} (hs:s<8) (hm:m<5):(Yc t)[s*5+m]? = some (.int .i64 (t s m)):=by
 unfold Yc
 rw [Qzp,List.getElem?_range (by omega)]
 have h1:(s*5+m) / 5=s:=by omega
 have h2:(s*5+m) % 5=m:=by omega
 simp [h1,h2]
theorem Zia (t:Tab) {s m:Nat} (hs:s<8) (hm:m<5) (v:Int):(Yc t).set (s*5+m) (.int .i64 v)=Yc (Vj t s m v):=by
 apply List.ext_getElem?
 intro k
 unfold Yc Vj
 rw [List.getElem?_set]
 by_cases hk:s*5+m=k
 ·subst hk
  have h1:(s*5+m) / 5=s:=by omega
  have h2:(s*5+m) % 5=m:=by omega
  simp [h1,h2]
  rw [List.getElem?_range (by omega)]
  simp [h1,h2]
  omega
 ·rw [if_neg hk,Qzp,Qzp]
  rcases Qzn k 40 with h | h
  ·rw [List.getElem?_range h]
   simp
   intro h1 h2
   omega
  ·rw [List.getElem?_eq_none (by simpa using h)]
   rfl
def rowT (t:Tab) (s:Nat):List Int:=(List.range 5).map (t s)
theorem Ua4 {n:Nat} {σ:Za} {r off:Nat} {cs:List AV} {l:List Int} (hn:n≤r) (hr:σ[r]? = some (.cells cs)) (h:∀ (i:Nat) (x:Int),l[i]? = some x→cs[off+i]? = some (.int .i64 x)):Fz n σ (.arr 1 r off l.length) (.pl 1 (Ya l)):=by
 have e:l.length=(Ya l).length:=by simp [Ya]
 rw [e]
 refine .arr 1 _ off cs (Ya l) (fun i _=>.int .i64 ((l[i]?).getD 0)) hn hr (fun i x hx=>?_) fun i x hx j y hy=>?_
 ·unfold Ya at hx
  rw [Qzp,Qzm] at hx
  obtain ⟨z,hz,rfl⟩:=hx
  refine ⟨rfl,fun j y hy=>?_⟩
  cases j with
  | zero =>
   simp [AV.cells] at hy
   subst hy
   exact ⟨rfl,by rw [show (off+i)*1+0=off+i by omega,h i z hz,hz];rfl⟩
  | succ j=>simp [AV.cells] at hy
 ·unfold Ya at hx
  rw [Qzp,Qzm] at hx
  obtain ⟨z,hz,rfl⟩:=hx
  cases j with
  | zero =>
   simp [AV.cells] at hy
   subst hy
   rw [hz]
   exact .int _ _
  | succ j=>simp [AV.cells] at hy
def Uad (t:Tab) (s:Nat) (n:Int):Int:=Vv (rowT t s) fun x=>decide (n=x)
theorem Ubr {t:Tab} {s:Nat} {n:Int} (h:Uad t s n=-1):∀ m,m<5→t s m≠n:=by
 intro m hm e
 have:=Zav (rowT t s) fun x=>decide (n=x)
 unfold Uad at h
 rw [h] at this
 have h2:((rowT t s).any fun x=>decide (n=x))=true:=List.any_eq_true.2 ⟨n,List.mem_map.2 ⟨m,List.mem_range.2 hm,e⟩,by simp⟩
 rw [h2] at this
 simp at this
theorem Vb5 (t:Tab) (s:Nat) (n:Int):Uad t s n=-1∨∃ m:Nat,Uad t s n=m∧m<5∧t s m=n:=by
 by_cases h:∃ i,∃ hi:i<(rowT t s).length,(∀ x∈(rowT t s).take i,decide (n=x)=false)∧decide (n=(rowT t s)[i])=true
 ·obtain ⟨i,hi,h1,h2⟩:=h
  have:=War hi h1 h2
  have hl:(rowT t s).length=5:=by simp [rowT]
  refine .inr ⟨i,this,by omega,?_⟩
  simp [rowT] at h2
  exact h2.symm
 ·left
  refine Uav fun x hx=>?_
  cases hd:decide (n=x) with
  | false=>rfl
  | true =>
   exfalso
   have:∀ (l:List Int),(∃ x∈l,decide (n=x)=true)→∃ i,∃ hi:i<l.length,(∀ x∈l.take i,decide (n=x)=false)∧decide (n=l[i])=true:=by
    intro l
    induction l with
    | nil=>rintro ⟨x,hx,_⟩;simp at hx
    | cons y l ih =>
     rintro ⟨x,hx,hd⟩
     cases hy:decide (n=y) with
     | true=>exact ⟨0,by simp,by simp,by simpa using hy⟩
     | false =>
      rcases List.mem_cons.1 hx with rfl | hx
      ·rw [hy] at hd;cases hd
      ·obtain ⟨i,hi,h1,h2⟩:=ih ⟨x,hx,hd⟩
       refine ⟨i+1,by simpa using hi,fun z hz=>?_,by simpa using h2⟩
       rw [List.take_succ_cons] at hz
       rcases List.mem_cons.1 hz with rfl | hz
       ·exact hy
       ·exact h1 z hz
   exact h (this _ ⟨x,hx,hd⟩)
attribute [local irreducible] aws awp aw1 Og Om Oc Oa Ogd Ov Ot awd Zb awh Wb Ogh Ohd awl Ogl Ohl awv Ogv Ohv Xb Vb QFn Ub QRo QBe Ui Uj ACode AYield
theorem Vbb (t:Tab) (σ:Za) (q s:Nat) (n:Int) (hq:σ[q]? = some (.cells (Yc t))) (hs:s<8):ACalls Tryz.prog 251 [.ptr q 0,.int .i64 s,.int .i64 n] σ fun v σ'=>v=.int .i64 (Uad t s n)∧σ'=σ:=by
 refine Yb Tryz.func251 rfl (Ua Tryz.func251 (by decide) rfl) ?_
 have hs':(s:Int)<8:=by omega
 have hle:s*5+5≤(Yc t).length:=by rw [Vp];omega
 simp [Tryz.ntmps251,hs',hq,hle]
 have hz:Fz 0 σ (.arr 1 q (s*5) 5) (.pl 1 (Ya (rowT t s))):=by
  have hl:(rowT t s).length=5:=by simp [rowT]
  have hh:=Ua4 (n:=0) (r:=q) (off:=s*5) (l:=rowT t s) (Nat.zero_le _) hq fun i x hx=>?_
  ·rw [hl] at hh;exact hh
  have hi:=(Qzs.1 hx).1
  rw [hl] at hi
  rw [Yas t hs hi]
  unfold rowT at hx
  rw [Qzp,List.getElem?_range hi] at hx
  simp at hx
  rw [hx]
 refine StA.of ((APure.lend (args':=[.arr 1 q (s*5) 5,.int .i64 n]) (Zcp (rowT t s) n (by simp [rowT])) (σ:=σ) rfl (fun i x y hx hy=>?_) (fun C C' c hv=>by cases hv;exact .int _ _)).mono ?_)
 ·match i,hx,hy with
  | 0,hx,hy=>simp at hx hy;subst hx;subst hy;exact hz
  | 1,hx,hy=>simp at hx hy;subst hx;subst hy;exact .int _ _
  | i+2,hx,hy=>simp at hx
 ·rintro v s' ⟨rfl,rfl⟩
  simp [Uad]
theorem Wbp {σ:Za} {q:Nat} {t:Tab} {n:Nat} {S:Za}:∀ (r:Nat) (o:AObj),(σ.set q (.cells (Yc t)))[r]? = some o→σ[r]? = some o∨∃ cs,o=.cells cs∧∀ y∈cs,Fz n S y y:=by
 intro r o h
 rw [List.getElem?_set] at h
 split at h
 ·split at h
  ·obtain rfl:=Option.some.inj h
   refine .inr ⟨_,rfl,fun y hy=>?_⟩
   obtain ⟨k,_,rfl⟩:=List.mem_map.1 hy
   exact .int _ _
  ·cases h
 ·exact .inl h
theorem Uct (σ:Za) (q:Nat) (m n:Int):ACalls Tryz.prog 250 [.ptr q 0,.int .i64 m,.int .i64 n] σ fun v s=>v=.fn (.func 302) [] [.ptr (σ.length+2) 0,.ptr σ.length 0,.ptr (σ.length+1) 0]∧s=σ++[.cells [.ptr q 0],.cells [.int .i64 m],.cells [.int .i64 n]]:=by
 refine Yb Tryz.func250 rfl (Ua Tryz.func250 (by decide) rfl) ?_
 simp [Tryz.ntmps250]
theorem Xca (t:Tab) (r a b c q man slots:Nat) (hm:man<5) (hs:slots≤8) (I:Nat→Za→Prop) (Fin:Za→Prop)
  (hq:∀ k σ,I k σ→σ[a]? = some (.cells [.int .i64 slots])∧σ[b]? = some (.cells [.ptr q 0])∧σ[c]? = some (.cells [.int .i64 man])∧σ[q]? = some (.cells (Yc t)))
  (hy:∀ k σ,I k σ→k<slots→t k man=-1→∃ (x:Bool) (s:Za),AYield Tryz.prog r [.int .i64 k] σ (fun v' s'=>v'=.bool x∧s'=s)∧if x then I (k+1) s else Fin s)
  (hn:∀ k σ,I k σ→k<slots→t k man≠-1→I (k+1) σ)
  (σ:Za) (h0:I 0 σ):AEnter Tryz.prog 302 [.yld r,.ptr a 0,.ptr b 0,.ptr c 0] σ (fun _ σ'=>I slots σ'∨Fin σ'):=by
 refine Ubi Tryz.func302 rfl (Ua Tryz.func302 (by decide) rfl) ?_
 have ha0:=(hq _ _ h0).1
 simp [Tryz.ntmps302,ha0]
 refine Xc (fun env σ'=>∃ (u:List AV) (k:Nat),env={ t:=u }∧u.length=25∧tg u 0=.yld r∧tg u 2=.ptr b 0∧tg u 3=.ptr c 0∧tg u 6=.int .i64 slots∧tg u 7=.int .i64 k∧k≤slots∧I k σ')
  (fun env _=>match tg env.t 7 with | .int _ k=>slots - k.toNat | _=>0) ⟨_,0,rfl,by simp,by simp,by simp,by simp,by simp,by simp,by omega,h0⟩ ?_
 rintro env σ' ⟨u,k,rfl,hl,g0,g2,g3,g6,g7,hk,hI⟩
 rcases Qzn k slots with hlt | hge
 ·have hlt':(k:Int)<(slots:Int):=by omega
  have hw1:=w64 (n:=(k:Int)+1) (by omega) (by omega)
  obtain ⟨_,hqb,hqc,hqt⟩:=hq _ _ hI
  have hget:=Yas t (show k<8 by omega) hm
  have hk8:(k:Int)<8:=by omega
  have hm5:(man:Int)<5:=by omega
  have hle:k*5+man+1≤(Yc t).length:=by rw [Vp];omega
  have hlt2:k*5+man<(Yc t).length:=by rw [Vp];omega
  have hget':(Yc t)[k*5+man]'hlt2=.int .i64 (t k man):=Option.some.inj ((Qze hlt2).symm.trans hget)
  simp [hl,g0,g2,g3,g6,g7,hlt']
  refine Ut [11] [] mixed (by kernel_rfl) (by kernel_rfl) ?_
  by_cases hb:t k man=-1
  ·obtain ⟨x,s,hys,hx⟩:=hy k σ' hI hlt hb
   simp [hl,g0,g2,g3,g6,g7,hqb,hqc,hqt,hk8,hm5,hle,hlt2,hget',hb]
   refine Ygt hys ?_
   cases x with
   | true =>
    simp [hl,g0,g2,g3,g6,g7,hw1]
    exact ⟨⟨k+1,by simp,hlt,by simpa using hx⟩,by omega⟩
   | false =>
    simp [hl,g0,g2,g3,g6,g7,hw1]
    exact .inr (by simpa using hx)
  ·have hI2:=hn k σ' hI hlt hb
   simp [hl,g0,g2,g3,g6,g7,hqb,hqc,hqt,hk8,hm5,hle,hlt2,hget',hb,hw1]
   exact ⟨⟨k+1,by simp,hlt,hI2⟩,by omega⟩
 ·obtain rfl:k=slots:=by omega
  simp [hl,g0,g2,g3,g6,g7]
  exact .inl hI
end Ab
namespace Ab
open Go Go.RowKit Go.Proofs
def Yn (e:Ent):AV:=.agg [.int .i64 e.1,.int .i64 e.2.1,.int .i64 e.2.2]
theorem Vcb {S g:Za} {v:AV} {L:List Ent} {o:Option Nat} (hA:Acc S g 3 v (L.map Yn) o) (x:Ent) (hl:L.length≤2^30) :
  ∃ v' g' jo,Xa Tryz.prog #[399,399] v (.arr 3 (S.length+g.length) 0 1) (S++(g++[.cells [.int .i64 x.1,.int .i64 x.2.1,.int .i64 x.2.2]]))=some (v',S++g')∧Acc S g' 3 v' ((L++[x]).map Yn) (some jo)∧v'=.arr 3 (S.length+jo) 0 (L.length+1):=by
 obtain ⟨v',g',o',he,hA',hlen,hkeep,ho⟩:=hA.push (P:=Tryz.prog) (t:=399) (e:=401) (ag:=true) (x:=Yn x) (by simp) (by simp) (by simp) (by omega) ⟨rfl,by simp [AV.cells,AV.one,Yn]⟩ (by simp;omega)
 have e:L.map Yn++[Yn x]=(L++[x]).map Yn:=by simp
 rw [e] at hA'
 obtain ⟨jo,rfl⟩:∃ jo,o'=some jo:=by
  cases o' with
  | none=>exact absurd hA'.val.2 (by simp)
  | some jo=>exact ⟨jo,rfl⟩
 exact ⟨v',g',jo,he,hA',by rw [hA'.val.1];simp⟩
theorem View.dropS (S g:Za):View (fun r=>decide (S.length≤r)) (S++g) (S++g.map fun _=>AObj.dead):=by
 refine ⟨by simp,fun r o' ho hlv=>?_⟩
 rcases Qzn r S.length with h | h
 ·rw [Qzl h] at ho
  exact ⟨by simp;omega,o',by rw [Qzl h];exact ho,hlv,.inl rfl⟩
 ·rw [Qzr h,Qzp,Qzm] at ho
  obtain ⟨x,_,rfl⟩:=ho
  cases hlv
def Uaq (v:AV):Nat:=match v with
 | .arr _ _ _ n=>11 - n
 | _=>11
theorem Yg0 {S g:Za} {v:AV} {L:List AV} {o:Option Nat} (hA:Acc S g 3 v L o):Uaq v=11 - L.length:=by
 have hv:=hA.val
 cases o with
 | none=>rw [hv.1,hv.2];rfl
 | some jo=>rw [hv.1];rfl
def TuA (t:Tab) (σ:Za) (q a b man:Nat) (env:Env) (σ':Za):Prop:=∃ (u:List AV) (C:List Nat) (E:List Ent) (cur:Int) (v:AV) (g:Za) (o:Option Nat),env={ t:=u }∧u.length=89∧tg u 0=.ptr q 0∧tg u 1=.int .i64 cur∧tg u 2=.int .i64 a∧tg u 3=.int .i64 b∧tg u 8=v∧σ'=σ++g∧Acc σ g 3 v (E.map Yn) o∧ChInv t a b man C E cur∧E.length≤2*C.length
def TuB (t:Tab) (σ:Za) (q a b:Nat) (E:List Ent) (env:Env) (σ':Za):Prop:=∃ (u:List AV) (i:Nat) (g:Za),env={ t:=u }∧u.length=89∧tg u 0=.ptr q 0∧tg u 2=.int .i64 a∧tg u 3=.int .i64 b∧tg u 8=.pl 3 (E.map Yn)∧tg u 53=.pl 3 (E.map Yn)∧tg u 54=.int .i64 E.length∧tg u 55=.int .i64 i∧i≤E.length∧σ'=σ.set q (.cells (Yc (Vx (E.take i) t)))++g
def TuC (t:Tab) (σ:Za) (q a b:Nat) (E:List Ent) (env:Env) (σ':Za):Prop:=∃ (u:List AV) (i:Nat) (g:Za),env={ t:=u }∧u.length=89∧tg u 0=.ptr q 0∧tg u 2=.int .i64 a∧tg u 3=.int .i64 b∧tg u 68=.pl 3 (E.map Yn)∧tg u 69=.int .i64 E.length∧tg u 70=.int .i64 i∧i≤E.length∧σ'=σ.set q (.cells (Yc (Vaf a b (E.take i) (Vx E t))))++g
theorem Xa2 (t:Tab) {s m:Nat} (hs:s<8) (hm:m<5) (v:Int):List.take (s*5+m) (Yc t)++.int .i64 v::List.drop (s*5+m+1) (Yc t)=Yc (Vj t s m v):=by
 rw [← Zia t hs hm,List.set_eq_take_append_cons_drop,if_pos (by rw [Vp];omega)]
attribute [local irreducible] aws awp aw1 Og Om Oc Oa Ogd Ov Ot awd Zb awh Wb Ogh Ohd awl Ogl Ohl awv Ogv Ohv Xb Vb QFn Ub QRo QBe Ui Uj ACode AYield
set_option maxHeartbeats 4000000 in
theorem Xgi {slots:Nat} {N:List (Nat × Int)} {t:Tab} (h:SlInv slots N t) (σ:Za) (q a b man:Nat) (hq:σ[q]? = some (.cells (Yc t))) (ha:a<8) (hb8:b<8) (hm:man<5) (hb:t b man=-1) (hab:a≠b) :
  ACalls Tryz.prog 252 [.ptr q 0,.int .i64 man,.int .i64 a,.int .i64 b] σ fun v s=>∃ C E cur,ChInv t a b man C E cur∧(∀ c:Nat,cur=c→t a c=-1)∧s=σ.set q (.cells (Yc (Vaf a b E (Vx E t)))):=by
 have hql:=(Qzs.1 hq).1
 refine ACalls.forgetT ?_
 refine Wc0 2 (fun env σ'=>TuA t σ q a b man env σ'∧∀ c:Nat,tg env.t 1=.int .i64 c→t a c=-1) Tryz.func252 rfl (Ua Tryz.func252 (by decide) rfl) ?_ ?_
 ·simp [-Xa,Tryz.ntmps252]
  refine Xc (TuA t σ q a b man) (fun env _=>Uaq (tg env.t 8)) ⟨_,[],[],man,.nils,[],none,rfl,by simp,by simp,by simp,by simp,by simp,by simp,by simp,Acc.nil _ _ _,ChInv.zero hm,by simp⟩ ?_
  rintro env _ ⟨u,C,E,cur,v,g,o,rfl,hl,g0,g1,g2,g3,g8,rfl,hA,hC,hE⟩
  have hq':∀ X:Za,(σ++X)[q]? = some (.cells (Yc t)):=fun X=>by rw [Qzl hql];exact hq
  have hCl:=hC.len
  have hvl:Uaq (tg u 8)=11 - E.length:=by rw [g8,Yg0 hA];simp
  have e0:∀ (m:List Nat),Uaq (tg ({ t:=u,m:=m }:Env).t 8)=11 - E.length:=fun _=>hvl
  rw [e0]
  by_cases hcm:cur=-1
  ·subst hcm
   simp [-Xa,hl,g0,g1,g2,g3,g8]
   exact ⟨_,C,E,-1,v,g,o,rfl,by simp [hl],by simp [hl,g0],by simp [hl,g1],by simp [hl,g2],by simp [hl,g3],by simp [hl,g8],rfl,hA,hC,hE⟩
  ·obtain ⟨c,rfl,hc5,hcC⟩:=hC.curc.resolve_left hcm
   have hget:=Yas t ha hc5
   have hle:a*5+c+1≤(Yc t).length:=by rw [Vp];omega
   have hlt2:a*5+c<(Yc t).length:=by rw [Vp];omega
   have hget':(Yc t)[a*5+c]'hlt2=.int .i64 (t a c):=Option.some.inj ((Qze hlt2).symm.trans hget)
   have ha8':(a:Int)<8:=by omega
   have hc5':(c:Int)<5:=by omega
   have hcm':¬ (c:Int)=-1:=hcm
   by_cases hta:t a c=-1
   ·simp [-Xa,hl,g0,g1,g2,g3,g8,hcm',hq',ha8',hc5',hle,hlt2,hget',hta]
    exact ⟨⟨_,C,E,c,v,g,o,rfl,by simp [hl],by simp [hl,g0],by simp [hl,g1],by simp [hl,g2],by simp [hl,g3],by simp [hl,g8],rfl,hA,hC,hE⟩,fun c1 e=>by rw [← show c=c1 by omega];exact hta⟩
   ·obtain ⟨v1,g1',jo1,he1,hA1,hv1⟩:=Vcb hA (a,c,t a c) (by omega)
    obtain ⟨n,hn⟩:∃ n,t a c=n:=⟨_,rfl⟩
    rw [hn] at hget' he1
    have hta':¬ n=-1:=hn▸hta
    simp [-Xa,hl,g0,g1,g2,g3,g8,hcm',hq',ha8',hc5',hle,hlt2,hget',hta']
    simp only [] at he1
    rw [he1,Xk]
    refine StA.of ((Vbb t (σ++g1') q b n (hq' _) hb8).mono ?_)
    rintro w s ⟨rfl,rfl⟩
    subst hv1
    rcases Vb5 t b n with hw | ⟨w,hw,hw5,htw⟩
    ·have hno:∀ m,t b m≠t a c:=fun m e=>by
      rcases Qzn m 5 with h5 | h5
      ·exact Ubr hw m h5 (e.trans hn)
      ·have:=h.col (s:=b) h5;rw [e] at this;exact hta this
     have hC2:=hC.stop h hta hno
     have hl2:=hC2.len
     simp at hl2
     simp [-Xa,hl,g0,g1,g2,g3,g8,hw]
     exact ⟨⟨_,C++[c],E++[(a,c,t a c)],-1,_,g1',some jo1,rfl,by simp [hl],by simp [hl,g0],by simp [hl],by simp [hl,g2],by simp [hl,g3],by simp [hl],rfl,hA1,hC2,by simp;omega⟩,by simp [Uaq];omega⟩
    ·have hC2:=hC.go h hta hb hw5 (htw.trans hn.symm)
     have hl2:=hC2.len
     simp at hl2
     obtain ⟨v2,g2',jo2,he2,hA2,hv2⟩:=Vcb hA1 (b,w,t a c) (by simp;omega)
     rw [hn] at he2
     have hw1:¬ (w:Int)=-1:=by omega
     simp [-Xa,hl,g0,g1,g2,g3,g8,hw,hw1]
     simp only [] at he2
     rw [he2,Xk]
     exact ⟨⟨_,C++[c],E++[(a,c,t a c)]++[(b,w,t a c)],w,_,g2',some jo2,rfl,by simp [hl],by simp [hl,g0],by simp [hl,hw],by simp [hl,g2],by simp [hl,g3],by simp [hl],rfl,hA2,hC2,by simp;omega⟩,by simp [hl,hv2,Uaq];omega⟩
 ·rintro env _ ⟨⟨u,C,E,cur,v,g,o,rfl,hl,g0,g1,g2,g3,g8,rfl,hA,hC,hE⟩,hend⟩
  have hend':∀ c:Nat,cur=c→t a c=-1:=fun c e=>hend c (by show tg u 1=_;rw [g1,e])
  have hv8:=hA.vwk (p:=fun r=>decide (σ.length≤r)) (fun r hr=>by simpa using hr) (by omega) (fun x hx y hy T=>by
   obtain ⟨z,_,rfl⟩:=List.mem_map.1 hx
   simp [AV.cells,Yn] at hy
   rcases hy with rfl | rfl | rfl<;>exact .int _ _)
  have hEs:∀ e∈E,(e.1=a∨e.1=b)∧e.2.1<5:=fun e he=>by
   have hc:=((hC.ent e).1 he).2
   rcases hc with ⟨h1,h2⟩ | ⟨h1,h2 | h2,_⟩
   ·exact ⟨.inl h1,hC.lt _ h2⟩
   ·exact ⟨.inr h1,hC.lt _ h2⟩
   ·rcases hC.curc with e1 | ⟨c,e1,h5,_⟩
    ·omega
    ·exact ⟨.inr h1,by omega⟩
  refine ACode.view (u':=Uc u [(0,.ptr q 0),(2,.int .i64 a),(3,.int .i64 b),(8,.pl 3 (E.map Yn))]) _ (View.dropS σ g) (Yi _ ?_) (Yt _ _) (Xaj (by
   simp only [List.mem_cons,List.not_mem_nil,or_false]
   rintro p (rfl | rfl | rfl | rfl)<;>dsimp only<;>first | (rw [g0];exact .inl rfl) | (rw [g2];exact .inl rfl) | (rw [g3];exact .inl rfl) | (rw [g8];exact hv8)))
  have hl3:=(Yt u [(0,.ptr q 0),(2,.int .i64 a),(3,.int .i64 b),(8,.pl 3 (E.map Yn))]).trans hl
  have k0:tg (Uc u [(0,.ptr q 0),(2,.int .i64 a),(3,.int .i64 b),(8,.pl 3 (E.map Yn))]) 0=.ptr q 0:=by simp [Uc,hl]
  have k2:tg (Uc u [(0,.ptr q 0),(2,.int .i64 a),(3,.int .i64 b),(8,.pl 3 (E.map Yn))]) 2=.int .i64 a:=by simp [Uc,hl]
  have k3:tg (Uc u [(0,.ptr q 0),(2,.int .i64 a),(3,.int .i64 b),(8,.pl 3 (E.map Yn))]) 3=.int .i64 b:=by simp [Uc,hl]
  have k8:tg (Uc u [(0,.ptr q 0),(2,.int .i64 a),(3,.int .i64 b),(8,.pl 3 (E.map Yn))]) 8=.pl 3 (E.map Yn):=by simp [Uc,hl]
  obtain ⟨u',hu'⟩:∃ x,Uc u [(0,.ptr q 0),(2,.int .i64 a),(3,.int .i64 b),(8,.pl 3 (E.map Yn))]=x:=⟨_,rfl⟩
  rw [hu'] at hl3 k0 k2 k3 k8 ⊢
  obtain ⟨dd,hdd⟩:∃ dd,g.map (fun _=>AObj.dead)=dd:=⟨_,rfl⟩
  rw [hdd]
  have hE10:E.length≤10:=by have:=hC.len;omega
  clear hv8 hA g0 g1 g2 g3 g8 hl hu' u hdd g hend
  have h0:σ.set q (.cells (Yc t))=σ:=by
   apply List.ext_getElem?
   intro i
   rw [List.getElem?_set]
   split
   ·rename_i e
    subst e
    first | exact hq.symm | (rw [if_pos hql];exact hq.symm)
   ·rfl
  simp [-Xa,Ze5,Xfl,hl3,k0,k2,k3,k8]
  refine Xc (TuB t σ q a b E) (fun env _=>match tg env.t 55 with | .int _ i=>E.length - i.toNat | _=>0) ⟨_,0,dd,rfl,by simp [hl3],by simp [hl3,k0],by simp [hl3,k2],by simp [hl3,k3],by simp [hl3,k8],by simp [hl3,k8],by simp [hl3],by simp [hl3],by omega,by simp [Vx,h0]⟩ ?_
  rintro env _ ⟨u,i,g,rfl,hl,g0,g2,g3,g8,g53,g54,g55,hi,rfl⟩
  rcases Qzn i E.length with hlt | hge
  ·have hlt':(i:Int)<(E.length:Int):=by omega
   have hx:=w64 (n:=(i:Int)+1) (by omega) (by omega)
   obtain ⟨e,he⟩:∃ e,E[i]=e:=⟨_,rfl⟩
   obtain ⟨hes,hem⟩:=hEs e (he▸List.getElem_mem hlt)
   obtain ⟨s1,m1,n1⟩:=e
   simp only at hes hem
   have hs8:(s1:Int)<8:=by omega
   have hm5:(m1:Int)<5:=by omega
   obtain ⟨t1,ht1⟩:∃ t1,Vx (E.take i) t=t1:=⟨_,rfl⟩
   have hle:s1*5+m1+1≤(Yc t1).length:=by rw [Vp];omega
   have hsuc:Vx (E.take (i+1)) t=Vj t1 s1 m1 (-1):=by
    rw [Qzt hlt,he,← ht1]
    unfold Vx
    rw [List.foldl_append]
    rfl
   obtain ⟨T,hT⟩:∃ T,σ.set q (.cells (Yc t1))++g=T:=⟨_,rfl⟩
   have hTq:∀ X:Za,(T++X)[q]? = some (.cells (Yc t1)):=fun X=>by rw [← hT,List.append_assoc,Qzl (by simpa using hql)];simp [hql]
   have hTs:∀ (X:Za) (Y:AObj),(T++X).set q Y=σ.set q Y++(g++X):=fun X Y=>by rw [← hT,List.append_assoc,List.set_append_left _ _ (by simpa using hql),List.set_set]
   have hTx:∀ (x:AObj) (Y:Za),(T++x::Y)[T.length]? = some x:=fun x Y=>by simp
   rw [ht1,hT]
   simp [-Xa,hl,g0,g2,g3,g8,g53,g54,g55,hlt,hlt',he,Yn]
   refine Ut [8] [] mixed (by kernel_rfl) (by kernel_rfl) ?_
   simp [-Xa,hl,g0,g2,g3,g8,g53,g54,g55,hTq,hTx,hTs,hs8,hm5,hle,hx]
   rw [Xa2 t1 (by omega) hem]
   exact ⟨⟨_,i+1,_,rfl,by simp [hl],by simp [hl,g0],by simp [hl,g2],by simp [hl,g3],by simp [hl,g8],by simp [hl,g53],by simp [hl,g54],by simp [hl],hlt,by rw [hsuc]⟩,by omega⟩
  ·obtain rfl:i=E.length:=by omega
   simp [-Xa,hl,g0,g2,g3,g8,g53,g54,g55]
   refine Xc (TuC t σ q a b E) (fun env _=>match tg env.t 70 with | .int _ i=>E.length - i.toNat | _=>0) ⟨_,0,g,rfl,by simp [hl],by simp [hl,g0],by simp [hl,g2],by simp [hl,g3],by simp [hl],by simp [hl],by simp [hl],by omega,by simp [Vaf]⟩ ?_
   clear hl g0 g2 g3 g8 g53 g54 g55 hge u g
   rintro env _ ⟨u,i,g,rfl,hl,g0,g2,g3,g68,g69,g70,hi,rfl⟩
   rcases Qzn i E.length with hlt | hge
   ·have hlt':(i:Int)<(E.length:Int):=by omega
    have hx:=w64 (n:=(i:Int)+1) (by omega) (by omega)
    obtain ⟨e,he⟩:∃ e,E[i]=e:=⟨_,rfl⟩
    obtain ⟨hes,hem⟩:=hEs e (he▸List.getElem_mem hlt)
    obtain ⟨s1,m1,n1⟩:=e
    simp only at hes hem
    obtain ⟨s2,hs2⟩:∃ s2,a+b - s1=s2:=⟨_,rfl⟩
    have hs2':(a:Int)+b - s1=s2:=by omega
    have hw1:=w64 (n:=(a:Int)+b) (by omega) (by omega)
    have hw2:=w64 (n:=(s2:Int)) (by omega) (by omega)
    have hs8:(s2:Int)<8:=by omega
    have hm5:(m1:Int)<5:=by omega
    obtain ⟨t1,ht1⟩:∃ t1,Vaf a b (E.take i) (Vx E t)=t1:=⟨_,rfl⟩
    have hle:s2*5+m1+1≤(Yc t1).length:=by rw [Vp];omega
    have hsuc:Vaf a b (E.take (i+1)) (Vx E t)=Vj t1 s2 m1 n1:=by
     rw [Qzt hlt,he,← ht1,← hs2]
     unfold Vaf
     rw [List.foldl_append]
     rfl
    obtain ⟨T,hT⟩:∃ T,σ.set q (.cells (Yc t1))++g=T:=⟨_,rfl⟩
    have hTq:∀ X:Za,(T++X)[q]? = some (.cells (Yc t1)):=fun X=>by rw [← hT,List.append_assoc,Qzl (by simpa using hql)];simp [hql]
    have hTs:∀ (X:Za) (Y:AObj),(T++X).set q Y=σ.set q Y++(g++X):=fun X Y=>by rw [← hT,List.append_assoc,List.set_append_left _ _ (by simpa using hql),List.set_set]
    have hTx:∀ (x:AObj) (Y:Za),(T++x::Y)[T.length]? = some x:=fun x Y=>by simp
    rw [ht1,hT]
    simp [-Xa,hl,g0,g2,g3,g68,g69,g70,hlt,hlt',he,Yn]
    refine Ut [14] [] mixed (by kernel_rfl) (by kernel_rfl) ?_
    simp [-Xa,hl,g0,g2,g3,g68,g69,g70,hTq,hTx,hTs,hs8,hm5,hle,hx,hw1,hs2',hw2]
    rw [Xa2 t1 (by omega) hem]
    exact ⟨⟨_,i+1,_,rfl,by simp [hl],by simp [hl,g0],by simp [hl,g2],by simp [hl,g3],by simp [hl,g68],by simp [hl,g69],by simp [hl],hlt,by rw [hsuc]⟩,by omega⟩
   ·obtain rfl:i=E.length:=by omega
    simp [-Xa,hl,g0,g2,g3,g68,g69,g70]
    refine ⟨_,g,rfl,by simp,Wbp,⟨.tup [],by simp⟩,C,E,cur,hC,hend',rfl⟩
end Ab
namespace Ab
open Go Go.RowKit Go.Proofs
def LaA (t:Tab) (W:Za) (L:Nat) (n:Int) (slots s0:Nat) (env:Env) (σ':Za):Prop:=∃ (u:List AV) (a:Nat),env={ t:=u,m:=[L+6] }∧u.length=54∧tg u 3=.int .i64 slots∧tg u 4=.ptr L 0∧tg u 5=.ptr (L+1) 0∧tg u 6=.ptr (L+2) 0∧tg u 9=.int .i64 a∧tg u 10=.ptr (L+8) 0∧a≤s0∧σ'=W++[.dead,.cells [.int .i64 0]]
theorem Wfd {P:Program} {fn:Func} {R:AV→Za→Prop} {env:Env} {σ:Za}:Xi P fn R .ret env σ=Ws P fn R env env.m σ:=rfl
theorem Yfw {P:Program} {fn:Func} {R:AV→Za→Prop} {env:Env} {σ:Za}:Xi P fn R .normal env σ=Ws P fn R env env.m σ:=rfl
attribute [local irreducible] aws awp aw1 Og Om Oc Oa Ogd Ov Ot awd Zb awh Wb Ogh Ohd awl Ogl Ohl awv Ogv Ohv Xb Vb QFn Ub Xi QRo QBe Ui Uj ACode AYield
set_option maxHeartbeats 4000000 in
theorem Zgk {slots:Nat} {N:List (Nat × Int)} {t:Tab} (h:SlInv slots N t) (σ:Za) (q man:Nat) (n:Int) (hq:σ[q]? = some (.cells (Yc t))) (hs:slots≤8) (hm:man<5) (hn:0≤n) (hnew:(man,n)∉N)
  (hrow:(N.filter fun p=>p.2 == n).length<slots) (hman:(N.filter fun p=>p.1 == man).length<slots) :
  ACalls Tryz.prog 180 [.ptr q 0,.int .i64 man,.int .i64 n,.int .i64 slots] σ fun v s=>∃ t',SlInv slots (N++[(man,n)]) t'∧s=σ.set q (.cells (Yc t')):=by
 have hql:=(Qzs.1 hq).1
 refine ACalls.forgetT ?_
 refine Whj Tryz.func180 rfl (Ua Tryz.func180 (by decide) rfl) ?_
 simp [-Xa,Tryz.ntmps180]
 obtain ⟨T,hT⟩:∃ T,σ++[AObj.cells [.ptr q 0],.cells [.int .i64 man],.cells [.int .i64 n]]=T:=⟨_,rfl⟩
 have hTl:T.length=σ.length+3:=by rw [← hT];simp
 rw [hT]
 refine StA.of ((Uct T q man slots).mono ?_)
 rintro _ _ ⟨rfl,rfl⟩
 simp [-Xa,hTl]
 refine Xb5 (gf:=302) (first:=[]) (caps:=[.ptr (σ.length+5) 0,.ptr (σ.length+3) 0,.ptr (σ.length+4) 0]) (σ.length+6) (σ.length+7) (by simp [hTl]) rfl (by simp) fun fn D o σ2 ho hrd hσ2=>?_
 subst hσ2
 have hoL:∀ cs,o≠.cells cs:=fun cs e=>by rw [ho] at e;cases e
 obtain ⟨W,hW⟩:∃ W,T++[AObj.cells [.ptr q 0],.cells [.int .i64 man],.cells [.int .i64 slots],.deferred]=W:=⟨_,rfl⟩
 have hWl:W.length=σ.length+7:=by rw [← hW];simp [hTl]
 have hW0:(T++[AObj.cells [.ptr q 0],.cells [.int .i64 man],.cells [.int .i64 slots]]++[.deferred,o])=W++[o]:=by rw [← hW];simp
 rw [hW0]
 have w0:∀ X:Za,(W++X)[σ.length]? = some (.cells [.ptr q 0]):=fun X=>by rw [← hW,← hT];simp
 have w1:∀ X:Za,(W++X)[σ.length+1]? = some (.cells [.int .i64 man]):=fun X=>by rw [← hW,← hT];simp
 have w2:∀ X:Za,(W++X)[σ.length+2]? = some (.cells [.int .i64 n]):=fun X=>by rw [← hW,← hT];simp
 have w3:∀ X:Za,(W++X)[σ.length+3]? = some (.cells [.ptr q 0]):=fun X=>by rw [← hW,← hT];simp
 have w4:∀ X:Za,(W++X)[σ.length+4]? = some (.cells [.int .i64 man]):=fun X=>by rw [← hW,← hT];simp
 have w5:∀ X:Za,(W++X)[σ.length+5]? = some (.cells [.int .i64 slots]):=fun X=>by rw [← hW,← hT];simp
 have w6:∀ X:Za,(W++X)[σ.length+6]? = some .deferred:=fun X=>by rw [← hW,← hT];simp
 have wq:∀ X:Za,(W++X)[q]? = some (.cells (Yc t)):=fun X=>by rw [← hW,← hT,List.append_assoc,List.append_assoc,Qzl hql];exact hq
 have w7:∀ (x:AObj) (X:Za),(W++x::X)[σ.length+7]? = some x:=fun x X=>by rw [← hWl];simp
 have w7s:∀ (x y:AObj) (X:Za),(W++x::X).set (σ.length+7) y=W++y::X:=fun x y X=>by rw [← hWl];simp
 obtain ⟨G0,hG0⟩:∃ G0:Za,[AObj.cells [.ptr q 0],.cells [.int .i64 man],.cells [.int .i64 n],.cells [.ptr q 0],.cells [.int .i64 man],.cells [.int .i64 slots],.deferred]=G0:=⟨_,rfl⟩
 have hWs:W=σ++G0:=by rw [← hW,← hT,← hG0];simp
 have wqs:∀ (x:AObj) (X:Za),(W++X).set q x=W.set q x++X:=fun x X=>by rw [List.set_append_left _ _ (by omega)]
 have wqe:∀ x:AObj,W.set q x=σ.set q x++G0:=fun x=>by rw [hWs,List.set_append_left _ _ hql]
 have v7:∀ (z x:AObj) (X:Za),(W.set q z++x::X)[σ.length+7]? = some x:=fun z x X=>by rw [← hWl,Qzr (by simp)];simp
 have v7s:∀ (z x y:AObj) (X:Za),(W.set q z++x::X).set (σ.length+7) y=W.set q z++y::X:=fun z x y X=>by rw [← hWl,List.set_append_right _ _ (by simp)];simp
 have hrow':=h.free hn hrow
 have hman':=h.opens hman
 refine AEnter.mono (Xca t (σ.length+7) (σ.length+5) (σ.length+3) (σ.length+4) q man slots hm hs (fun k s=>s=W++[o]∧∀ s',s'<k→t s' man=-1→Uad t s' n≠-1)
  (fun s=>∃ s0,s0<slots∧t s0 man=-1∧Uad t s0 n=-1∧s=W.set q (.cells (Yc (Vj t s0 man n)))++[Vaw .ret o]) ?_ ?_ ?_ _ ?_) ?_
 ·rintro k s ⟨rfl,_⟩
  exact ⟨w5 _,w3 _,w4 _,wq _⟩
 ·rintro k s ⟨rfl,hk⟩ hks hto
  have hk8:(k:Int)<8:=by omega
  have hm5:(man:Int)<5:=by omega
  have hle:k*5+man+1≤(Yc t).length:=by rw [Vp];omega
  rcases Classical.em (Uad t k n=-1) with hw | hw
  ·refine ⟨false,W.set q (.cells (Yc (Vj t k man n)))++[Vaw .ret o],AYield.roundJ ho (w7 _ _) (by simp) fun oB hoB=>?_,?_⟩
   rotate_left
   ·simp
    exact ⟨k,hks,hto,hw,rfl⟩
   ·clear ho
    simp [-Xa,w7,w7s,w0,w1,w2]
    refine StA.of ((Vbb t _ q k n (wq _) (by omega)).mono ?_)
    rintro v s ⟨rfl,rfl⟩
    simp [-Xa,hw,w0,w1,w2]
    refine Ut [7] [] mixed (by kernel_rfl) (by kernel_rfl) ?_
    simp [-Xa,hw,w0,w1,w2,hk8,hm5,wq,hle]
    rw [Xa2 t (by omega) hm,wqs]
    exact ⟨v7 _ _ _,v7s _ _ _ _⟩
  ·refine ⟨true,W++[o],AYield.roundJ ho (w7 _ _) (by simp) fun oB hoB=>?_,?_⟩
   ·clear ho
    simp [-Xa,w7,w7s,w0,w1,w2]
    refine StA.of ((Vbb t _ q k n (wq _) (by omega)).mono ?_)
    rintro v s ⟨rfl,rfl⟩
    simp [-Xa,hw,w0,w1,w2,w7,w7s]
   ·simp
    intro s' hs' hts
    rcases Qzn s' k with h1 | h1
    ·exact hk s' h1 hts
    ·obtain rfl:s'=k:=by omega
     exact hw
 ·rintro k s ⟨rfl,hk⟩ hks hto
  refine ⟨rfl,fun s' hs' hts=>?_⟩
  rcases Qzn s' k with h1 | h1
  ·exact hk s' h1 hts
  ·obtain rfl:s'=k:=by omega
   exact absurd hts hto
 ·exact ⟨rfl,fun s' hs'=>by omega⟩
 ·rintro _ s (⟨rfl,hno⟩ | ⟨s0,hs0,hto,hw,rfl⟩)
  ·refine .inl ⟨by rw [w7];rw [hrd];trivial,?_⟩
   rw [w7s]
   clear ho
   obtain ⟨s0,hs0,hf0⟩:=hrow'
   obtain ⟨b0,hb0,ho0⟩:=hman'
   simp [-Xa,hWl]
   refine Xc (LaA t W σ.length n slots s0) (fun env _=>match tg env.t 9 with | .int _ i=>slots - i.toNat | _=>0) ⟨_,0,rfl,by simp,by simp,by simp,by simp,by simp,by simp,by simp,by omega,rfl⟩ ?_
   rintro env _ ⟨u,a,rfl,hl,g3,g4,g5,g6,g9,g10,ha,rfl⟩
   simp [-Xa,hl,g3,g4,g5,g6,g9,g10,w0,w1,w2]
   refine StA.of ((Vbb t _ q a n (wq _) (by omega)).mono ?_)
   rintro v s ⟨rfl,rfl⟩
   rcases Classical.em (Uad t a n=-1) with hw | hw
   ·simp [-Xa,hl,g3,g4,g5,g6,g9,g10,hw,w0,w1,w2]
    refine StA.of ((Uct _ q man slots).mono ?_)
    rintro _ _ ⟨rfl,rfl⟩
    obtain ⟨V,hV⟩:∃ V,W++[AObj.dead]=V:=⟨_,rfl⟩
    have hVl:V.length=σ.length+8:=by rw [← hV];simp [hWl]
    have hV0:∀ X:Za,W++[AObj.dead,.cells [.int .i64 0]]++X=V++.cells [.int .i64 0]::X:=fun X=>by rw [← hV];simp
    rw [hV0]
    have hl2:(W++[AObj.dead,.cells [.int .i64 0]]).length=σ.length+9:=by simp [hWl]
    rw [hl2]
    simp [-Xa,hl,g3,g4,g5,g6,g9,g10]
    refine Xb5 (gf:=302) (first:=[]) (caps:=[.ptr (σ.length+11) 0,.ptr (σ.length+9) 0,.ptr (σ.length+10) 0]) (σ.length+12) (σ.length+13) (by simp [hVl]) rfl (by simp [hl]) fun fn2 D2 o2 σ2 ho2 hrd2 hσ2=>?_
    subst hσ2
    obtain ⟨K,hK⟩:∃ K:Za,[AObj.cells [.ptr q 0],.cells [.int .i64 man],.cells [.int .i64 slots],.deferred]=K:=⟨_,rfl⟩
    have hH0:V++[AObj.cells [.int .i64 0],.cells [.ptr q 0],.cells [.int .i64 man],.cells [.int .i64 slots]]++[.deferred,o2]=V++.cells [.int .i64 (0:Nat)]::(K++[o2]):=by rw [← hK];simp
    rw [hH0]
    have e8:∀ X:Za,V++X=W++(.dead::X):=fun X=>by rw [← hV];simp
    have x0:∀ X:Za,(V++X)[σ.length]? = some (.cells [.ptr q 0]):=fun X=>by rw [e8];exact w0 _
    have x1:∀ X:Za,(V++X)[σ.length+1]? = some (.cells [.int .i64 man]):=fun X=>by rw [e8];exact w1 _
    have x2:∀ X:Za,(V++X)[σ.length+2]? = some (.cells [.int .i64 n]):=fun X=>by rw [e8];exact w2 _
    have xq:∀ X:Za,(V++X)[q]? = some (.cells (Yc t)):=fun X=>by rw [e8];exact wq _
    have x8:∀ (y:AObj) (X:Za),(V++y::X)[σ.length+8]? = some y:=fun y X=>by rw [← hVl];simp
    have x8s:∀ (y z:AObj) (X:Za),(V++y::X).set (σ.length+8) z=V++z::X:=fun y z X=>by rw [← hVl];simp
    have x9:∀ (y:AObj) (X:Za),(V++y::(K++X))[σ.length+9]? = some (.cells [.ptr q 0]):=fun y X=>by rw [show σ.length+9=V.length+1 by omega,← hK];simp
    have x10:∀ (y:AObj) (X:Za),(V++y::(K++X))[σ.length+10]? = some (.cells [.int .i64 man]):=fun y X=>by rw [show σ.length+10=V.length+2 by omega,← hK];simp
    have x11:∀ (y:AObj) (X:Za),(V++y::(K++X))[σ.length+11]? = some (.cells [.int .i64 slots]):=fun y X=>by rw [show σ.length+11=V.length+3 by omega,← hK];simp
    have x13:∀ (y z:AObj) (X:Za),(V++y::(K++z::X))[σ.length+13]? = some z:=fun y z X=>by rw [show σ.length+13=V.length+5 by omega,← hK];simp
    have x13s:∀ (y z w:AObj) (X:Za),(V++y::(K++z::X)).set (σ.length+13) w=V++y::(K++w::X):=fun y z w X=>by rw [show σ.length+13=V.length+5 by omega,← hK];simp
    refine AEnter.mono (Xca t (σ.length+13) (σ.length+11) (σ.length+9) (σ.length+10) q man slots hm hs (fun k s=>∃ b:Nat,s=V++.cells [.int .i64 b]::(K++[o2])∧(((∀ s',s'<k→t s' man≠-1)∧b=0)∨(b<k∧t b man=-1))) (fun _=>False) ?_ ?_ ?_ _ ?_) ?_
    ·rintro k s ⟨b,rfl,_⟩
     exact ⟨x11 _ _,x9 _ _,x10 _ _,xq _⟩
    ·rintro k s ⟨b,rfl,hk⟩ hks hto
     refine ⟨true,V++.cells [.int .i64 k]::(K++[o2]),AYield.roundJ ho2 (x13 _ _ _) (by simp) fun oB hoB=>?_,?_⟩
     ·clear ho2
      simp [-Xa,x13,x13s,hl,g3,g4,g5,g6,g9,g10,x8,x8s]
     ·simp
      exact ⟨k,rfl,.inr ⟨by omega,hto⟩⟩
    ·rintro k s ⟨b,rfl,hk⟩ hks hto
     refine ⟨b,rfl,?_⟩
     rcases hk with ⟨h1,h2⟩ | ⟨h1,h2⟩
     ·refine .inl ⟨fun s' hs'=>?_,h2⟩
      rcases Qzn s' k with h3 | h3
      ·exact h1 s' h3
      ·obtain rfl:s'=k:=by omega
       exact hto
     ·exact .inr ⟨by omega,h2⟩
    ·exact ⟨0,rfl,.inl ⟨fun s' hs'=>by omega,rfl⟩⟩
    ·rintro _ s (⟨b,rfl,hk⟩ | hF)
     ·have hbs:b<slots∧t b man=-1:=by
       rcases hk with ⟨h1,_⟩ | h1
       ·exact absurd ho0 (h1 b0 hb0)
       ·exact h1
      have hab:a≠b:=fun e=>hno a (by omega) (e▸hbs.2) hw
      refine .inl ⟨by rw [x13];rw [hrd2];trivial,?_⟩
      rw [x13s]
      clear ho2
      simp [-Xa,hl,g3,g4,g5,g6,g9,g10,x0,x1,x2,x8]
      refine StA.of ((Xgi h _ q a b man (xq _) (by omega) (by omega) hm hbs.2 hab).mono ?_)
      rintro v s ⟨C,E,cur,hC,hend,rfl⟩
      rw [Vc4 hab hC hbs.2 hend]
      have hfin:=h.lay2 (by omega) hbs.1 hm hn hC hbs.2 hend (fun m' e=>by
       rcases Qzn m' 5 with h5 | h5
       ·exact Ubr hw m' h5 e
       ·have:=h.col (s:=a) h5;omega) hnew
      obtain ⟨t2,ht2⟩:∃ t2,swT t a b (chC C cur)=t2:=⟨_,rfl⟩
      rw [ht2] at hfin ⊢
      have hqV:q<V.length:=by omega
      have hVs:V=σ++(G0++[.dead]):=by rw [← hV,hWs];simp
      have yqs:∀ (x:AObj) (X:Za),(V++X).set q x=V.set q x++X:=fun x X=>by rw [List.set_append_left _ _ hqV]
      have yqss:∀ (x y:AObj) (X:Za),(V.set q x++X).set q y=V.set q y++X:=fun x y X=>by rw [List.set_append_left _ _ (by simpa using hqV),List.set_set]
      have yqe:∀ x:AObj,V.set q x=σ.set q x++(G0++[.dead]):=fun x=>by rw [hVs,List.set_append_left _ _ hql]
      have yq:∀ (x:AObj) (X:Za),(V.set q x++X)[q]? = some x:=fun x X=>by rw [Qzl (by simpa using hqV)];simp [hqV]
      have yo:∀ (r:Nat) (x:AObj) (X:Za),q≠r→r<V.length→(V.set q x++X)[r]? = (V++X)[r]?:=fun r x X h1 h2=>by
       rw [Qzl (by simpa using h2),Qzl h2,List.getElem?_set_ne h1]
      have y0:∀ (x:AObj) (X:Za),(V.set q x++X)[σ.length]? = some (.cells [.ptr q 0]):=fun x X=>by rw [yo _ _ _ (by omega) (by omega)];exact x0 _
      have y1:∀ (x:AObj) (X:Za),(V.set q x++X)[σ.length+1]? = some (.cells [.int .i64 man]):=fun x X=>by rw [yo _ _ _ (by omega) (by omega)];exact x1 _
      have y2:∀ (x:AObj) (X:Za),(V.set q x++X)[σ.length+2]? = some (.cells [.int .i64 n]):=fun x X=>by rw [yo _ _ _ (by omega) (by omega)];exact x2 _
      have ha8:(a:Int)<8:=by omega
      have hm5:(man:Int)<5:=by omega
      have hle:a*5+man+1≤(Yc t2).length:=by rw [Vp];omega
      rw [yqs]
      simp [-Xa,hl,g3,g4,g5,g6,g9,g10]
      refine Ut [7] [] mixed (by kernel_rfl) (by kernel_rfl) ?_
      simp [-Xa,hl,g3,g4,g5,g6,g9,g10,y0,y1,y2,yq,yqss,ha8,hm5,hle]
      rw [Xa2 t2 (by omega) hm,yqe]
      subst hG0
      subst hK
      simp [-Xa,Yfw,Ws]
      exact ⟨_,_,rfl,by simp,Wbp,⟨.tup [],by simp⟩,_,hfin,rfl⟩
     ·exact hF.elim
   ·have hx:=w64 (n:=(a:Int)+1) (by omega) (by omega)
    have hne:a≠s0:=fun e=>by
     subst e
     rcases Vb5 t a n with h1 | ⟨m,_,_,h1⟩
     ·exact hw h1
     ·exact hf0 m h1
    simp [-Xa,hl,g3,g4,g5,g6,g9,g10,hw,w0,w1,w2,hx]
    exact ⟨⟨_,a+1,rfl,by simp [hl],by simp [hl,g3],by simp [hl,g4],by simp [hl,g5],by simp [hl,g6],by simp [hl],by simp [hl,g10],by omega,rfl⟩,by omega⟩
  ·refine .inr (.inl ⟨?_,?_⟩)
   ·rw [v7]
    exact Zg1 _ hrd
   ·have hget:∀ m',t s0 m'≠n:=fun m' e=>by
     rcases Qzn m' 5 with h5 | h5
     ·exact Ubr hw m' h5 e
     ·have:=h.col (s:=s0) h5;omega
    rw [v7s,wqe]
    subst hG0
    simp [-Xa,Wfd,Ws]
    exact ⟨_,_,rfl,by simp,Wbp,⟨.tup [],by simp⟩,_,h.add hs0 hm hn hto hget hnew,rfl⟩
end Ab

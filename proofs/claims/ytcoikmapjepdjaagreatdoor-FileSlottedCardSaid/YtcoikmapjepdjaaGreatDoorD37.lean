/-
  Texts packed for a claim.
-/
import Derived.Test.YtcoikmapjepdjaaGreatDoorD00
import Derived.Test.YtcoikmapjepdjaaGreatDoorD36
set_option linter.all false
namespace Ab
open Go Go.RowKit Go.Proofs
theorem Ya6 (t:Tab):List.take 40 (Zd t)=Zd t:=List.take_of_length_le (by rw [Zp];exact Nat.le_refl _)
theorem Ybn (t:Tab):∀ y∈Zd t,y.one=true:=fun y hy=>by
 obtain ⟨k,_,rfl⟩:=List.mem_map.1 hy
 rfl
theorem Xbz {t t':Tab} (h:∀ s m,s<8→m<5→t s m=t' s m):Zd t=Zd t':=by
 unfold Zd
 apply List.map_congr_left
 intro k hk
 rw [List.mem_range] at hk
 rw [h _ _ (by omega) (by omega)]
def blT (s m:Nat):Tab:=fun s' m'=>if s'<s∨(s'=s∧m'<m) then -1 else 0
theorem Wcr:Zd (blT 0 0)=List.replicate 40 (.int .i64 0):=rfl
theorem Ve9 (s m:Nat):Zg (blT s m) s m (-1)=blT s (m+1):=by
 funext s' m'
 unfold Zg blT
 by_cases h:s'=s∧m'=m
 ·rw [if_pos h,if_pos (by omega)]
 ·rw [if_neg h]
  by_cases h2:s'<s∨(s'=s∧m'<m)
  ·rw [if_pos h2,if_pos (by omega)]
  ·rw [if_neg h2,if_neg (by omega)]
theorem Ve0 (s:Nat):Zd (blT s 5)=Zd (blT (s+1) 0):=Xbz fun s' m' _ hm=>by
 unfold blT
 by_cases h2:s'<s∨(s'=s∧m'<5)
 ·rw [if_pos h2,if_pos (by omega)]
 ·rw [if_neg h2,if_neg (by omega)]
theorem Vdd:Zd (blT 8 0)=Zd fun _ _=>-1:=Xbz fun s' m' hs _=>by
 unfold blT
 rw [if_pos (by omega)]
def BlA (σ:Za) (z:AObj) (env:Env) (σ':Za):Prop:=∃ (u:List AV) (s:Nat),env={ t:=u }∧u.length=17∧tg u 0=.ptr σ.length 0∧tg u 1=.ptr (σ.length+1) 0∧tg u 4=.int .i64 s∧s≤8∧σ'=σ++[z,.cells (Zd (blT s 0))]
def BlB (σ:Za) (z:AObj) (s:Nat) (env:Env) (σ':Za):Prop:=∃ (u:List AV) (m:Nat),env={ t:=u }∧u.length=17∧tg u 0=.ptr σ.length 0∧tg u 1=.ptr (σ.length+1) 0∧tg u 2=.int .i64 s∧tg u 4=.int .i64 s∧tg u 7=.int .i64 m∧m≤5∧σ'=σ++[z,.cells (Zd (blT s m))]
theorem Zgh (n:Nat) (σ:Za) (t:Tab):FzL n σ (Zd t) (Zd t):=⟨rfl,fun i x y hx hy=>by
 rw [hx] at hy
 obtain rfl:=Option.some.inj hy
 obtain ⟨k,_,rfl⟩:=List.mem_map.1 (Qzg hx)
 exact .int _ _⟩
attribute [local irreducible] aws awp aw1 Og Om Oc Oa Ogd Ov Ot awd Zb awh Xb Ogh Ohd awl Ogl Ohl awv Ogv Ohv Wb Vb QFn Ub Wp QRo QBe Ul Vn ACode AYield
theorem We6 (r:Rl) (S:List (List Int)) (h:r.Ok) (hs:ShOk r S):APure Tryz.prog 82 [Uh r,Yf S] (.int .i64 (slotsOf r S)):=by
 refine APure.of fun σ=>?_
 refine Yb Tryz.func82 rfl (Va Tryz.func82 (by decide) rfl) ?_
 have hr0:Uh r=.agg [.int .i64 r.men,.pl 2 (r.ntcs.map Xc)]:=rfl
 have c1:=Ued r S h hs
 have c2:=Yb5 (Wt r.men.toNat S) (by have:=h.m5;simp [Wt];omega)
 have c3:=We3 r h
 rw [hr0] at c1 c3 ⊢
 simp [Tryz.ntmps82]
 refine Zj mixed (by kernel_rfl) ?_
 try simp
 refine Wy c1 ?_
 try simp
 refine Wy c2 ?_
 try simp
 refine Wy c3 ?_
 try simp
 unfold slotsOf
 simp
theorem Vhh:APure Tryz.prog 179 [] (.agg (Zd fun _ _=>-1)):=by
 refine APure.of fun σ=>?_
 refine Yb Tryz.func179 rfl (Va Tryz.func179 (by decide) rfl) ?_
 have hz:=Wcr
 simp [Tryz.ntmps179]
 refine Vd (BlA σ (.cells (Zd (blT 0 0)))) (fun env _=>match tg env.t 4 with | .int _ i=>8 - i.toNat | _=>0) ⟨_,0,rfl,by simp,by simp,by simp,by simp,by omega,by rw [hz];simp⟩ ?_
 rintro env _ ⟨u,s,rfl,hl,g0,g1,g4,hs,rfl⟩
 have hx:=w64 (n:=(s:Int)+1) (by omega) (by omega)
 rcases Qzn s 8 with hlt | hge
 ·have hlt':(s:Int)<8:=by omega
  simp [hl,g0,g1,g4,hlt']
  refine Vd (BlB σ (.cells (Zd (blT 0 0))) s) (fun env _=>match tg env.t 7 with | .int _ i=>5 - i.toNat | _=>0) ⟨_,0,rfl,by simp [hl],by simp [hl,g0],by simp [hl,g1],by simp [hl,g4],by simp [hl,g4],by simp [hl],by omega,rfl⟩ ?_
  clear hl g0 g1 g4 u
  rintro env _ ⟨u,m,rfl,hl,g0,g1,g2,g4,g7,hm,rfl⟩
  have hx2:=w64 (n:=(m:Int)+1) (by omega) (by omega)
  rcases Qzn m 5 with hlt2 | hge2
  ·have hlt2':(m:Int)<5:=by omega
   have hle:s*5+m+1≤(Zd (blT s m)).length:=by rw [Zp];omega
   simp [hl,g0,g1,g2,g4,g7,hlt2',hlt',hle,hx2]
   rw [Vas _ hlt hlt2,Ve9]
   exact ⟨⟨_,m+1,rfl,by simp [hl],by simp [hl,g0],by simp [hl,g1],by simp [hl,g2],by simp [hl,g4],by simp [hl],hlt2,rfl⟩,by omega⟩
  ·obtain rfl:m=5:=by omega
   simp [hl,g0,g1,g2,g4,g7,hx]
   exact ⟨⟨_,s+1,rfl,by simp [hl],by simp [hl,g0],by simp [hl,g1],by simp [hl],hlt,by rw [Ve0]⟩,by omega⟩
 ·obtain rfl:s=8:=by omega
  have hl0:=Zp (blT 0 0)
  have hl8:=Zp (blT 8 0)
  have ht8:=Ya6 (blT 8 0)
  have ho8:=Ybn (blT 8 0)
  have hd0:List.drop 40 (Zd (blT 0 0))=[]:=List.drop_eq_nil_of_le (by rw [hl0];exact Nat.le_refl _)
  simp [hl,g0,g1,g4,hl8,ht8,hl0,hd0]
  rw [if_pos (by exact ho8),Zn]
  simp [hl8,ht8]
  rw [Vdd]
  exact Zgh _ _ _
theorem Zg0 (σ:Za) (q off:Nat) (cs:List AV) (l:List Int) (hq:σ[q]? = some (.cells cs)) (h:List.take l.length (List.drop off cs)=Ya l) (hle:off+l.length≤cs.length) (hl:l≠[]) (hll:l.length≤2^30) :
  ACalls Tryz.prog 73 [.arr 1 q off l.length] σ fun v s=>v=.arr 1 (σ.length+1) 0 l.length∧s=σ++[.cells [],.cells (Ya l)]:=by
 refine Yb Tryz.func73 rfl (Va Tryz.func73 (by decide) rfl) ?_
 have hq':(σ++[AObj.cells []])[q]? = some (.cells cs):=by rw [Qzl (Qzs.1 hq).1];exact hq
 have ho:∀ x∈Ya l,AV.one x=true:=fun x hx=>by obtain ⟨z,_,rfl⟩:=List.mem_map.1 hx;rfl
 have hl0:¬ l.length=0:=fun e=>hl (List.eq_nil_of_length_eq_zero e)
 have hb:l.length*8≤140737488355328:=by omega
 simp [Tryz.ntmps73,hq',hle,h]
 rw [if_pos (by exact ho)]
 simp [hl,hb]
end Ab
namespace Ab
open Go Go.RowKit Go.Proofs
def Zf (t:Tab) (men s:Nat):List Int:=(List.range men).map fun m=>t s m
theorem Uy (t:Tab) (men s:Nat):(Zf t men s).length=men:=by simp [Zf]
theorem Ufy (t:Tab) {s men:Nat} (hs:s<8) (hm:men≤5):List.take men (List.drop (s*5) (Zd t))=Ya (Zf t men s):=by
 apply List.ext_getElem?
 intro k
 rcases Qzn k men with h | h
 ·rw [List.getElem?_take_of_lt h,List.getElem?_drop,Van t hs (by omega)]
  unfold Ya Zf
  rw [Qzp,Qzp,List.getElem?_range h]
  rfl
 ·rw [List.getElem?_eq_none (by simp;omega),List.getElem?_eq_none (by simp [Ya,Zf];omega)]
def Ww (t:Tab) (men:Nat):Nat→Za
 | 0=>[]
 | s+1=>Ww t men s++[.cells [],.cells (Ya (Zf t men s))]
def Yi (L men:Nat):Nat→List AV
 | 0=>[]
 | s+1=>Yi L men s++[.arr 1 (L+2+2*s+1) 0 men]
theorem Yax (t:Tab) (men:Nat):∀ s,(Ww t men s).length=2*s
 | 0=>rfl
 | s+1=>by simp [Ww,Yax t men s];omega
theorem Wag (L men:Nat):∀ s,(Yi L men s).length=s
 | 0=>rfl
 | s+1=>by simp [Yi,Wag L men s]
theorem Yg9 (t:Tab) (men:Nat):∀ {s k:Nat},k<s→(Ww t men s)[2*k+1]? = some (.cells (Ya (Zf t men k))):=by
 intro s
 induction s with
 | zero=>intro k h;omega
 | succ s ih =>
  intro k h
  rw [Ww]
  rcases Qzn k s with h1 | h1
  ·rw [Qzl (by rw [Yax];omega)]
   exact ih h1
  ·obtain rfl:k=s:=by omega
   rw [Qzr (by rw [Yax];omega),Yax,show 2*k+1 - 2*k=1 by omega]
   rfl
theorem Xbd (L men:Nat):∀ {s k:Nat},k<s→(Yi L men s)[k]? = some (.arr 1 (L+2+2*k+1) 0 men):=by
 intro s
 induction s with
 | zero=>intro k h;omega
 | succ s ih =>
  intro k h
  rw [Yi]
  rcases Qzn k s with h1 | h1
  ·rw [Qzl (by rw [Wag];omega)]
   exact ih h1
  ·obtain rfl:k=s:=by omega
   rw [Qzr (by rw [Wag];omega),Wag]
   simp
theorem Zbw (L men i slots:Nat) (h:i<slots) (v:AV) (hv:v=.arr 1 (L+2+2*i+1) 0 men):List.take i (Yi L men i++List.replicate (slots - i) AV.nils)++v::List.drop (i+1) (Yi L men i++List.replicate (slots - i) AV.nils)=Yi L men (i+1)++List.replicate (slots - (i+1)) AV.nils:=by
 have hl:=Wag L men i
 rw [List.take_append_of_le_length (by omega),List.take_of_length_le (by omega),Yi,hv]
 rw [show slots - i=(slots - (i+1))+1 by omega,List.replicate_succ,List.drop_append,List.drop_eq_nil_of_le (by omega),hl,show i+1 - i=1 by omega]
 simp
theorem Vbj {n:Nat} {S:Za} {r:Nat} {cs:List AV} {R:List (List Int)} (hn:n≤r) (hr:S[r]? = some (.cells cs)) (h:∀ (k:Nat) (l:List Int),R[k]? = some l→∃ v,cs[k]? = some v∧Fz n S v (.pl 1 (Ya l))):Fz n S (.arr 1 r 0 R.length) (Yf R):=by
 have e:R.length=(R.map fun x=>AV.pl 1 (Ya x)).length:=by simp
 unfold Yf
 rw [e]
 refine .arr 1 _ 0 cs _ (fun i _=>(cs[i]?).getD .any) hn hr (fun i x hx=>?_) fun i x hx j y hy=>?_
 ·rw [Qzp,Qzm] at hx
  obtain ⟨l,hl,rfl⟩:=hx
  obtain ⟨v,hv,hz⟩:=h i l hl
  refine ⟨rfl,fun j y hy=>?_⟩
  cases j with
  | zero =>
   simp [AV.cells] at hy
   subst hy
   exact ⟨rfl,by rw [show (0+i)*1+0=i by omega,hv];rfl⟩
  | succ j=>simp [AV.cells] at hy
 ·rw [Qzp,Qzm] at hx
  obtain ⟨l,hl,rfl⟩:=hx
  obtain ⟨v,hv,hz⟩:=h i l hl
  cases j with
  | zero =>
   simp [AV.cells] at hy
   subst hy
   rw [hv]
   exact hz
  | succ j=>simp [AV.cells] at hy
theorem Ya9 {n:Nat} {S:Za} {r:Nat} {l:List Int} (hn:n≤r) (hr:S[r]? = some (.cells (Ya l))):Fz n S (.arr 1 r 0 l.length) (.pl 1 (Ya l)):=Uaq hn hr fun i x hx=>by
 unfold Ya
 rw [Nat.zero_add,Qzp,hx]
 rfl
def LiA (t:Tab) (σ:Za) (men slots:Nat) (env:Env) (σ':Za):Prop:=∃ (u:List AV) (i:Nat),env={ t:=u }∧u.length=26∧tg u 1=.int .i64 men∧tg u 3=.ptr σ.length 0∧tg u 7=.arr 1 (σ.length+1) 0 slots∧tg u 12=.int .i64 slots∧tg u 13=.int .i64 i∧i≤slots∧σ'=σ++(.cells (Zd t)::.cells (Yi σ.length men i++List.replicate (slots - i) .nils)::Ww t men i)
attribute [local irreducible] aws awp aw1 Og Om Oc Oa Ogd Ov Ot awd Zb awh Xb Ogh Ohd awl Ogl Ohl awv Ogv Ohv Wb Vb QFn Ub Wp QRo QBe Ul Vn ACode AYield
theorem Ucz (t:Tab) (men slots:Nat) (hm1:1≤men) (hm5:men≤5) (hs1:1≤slots) (hs8:slots≤8):APure Tryz.prog 181 [.agg (Zd t),.int .i64 men,.int .i64 slots] (Yf (Ue t men slots)):=by
 refine APure.of fun σ=>?_
 refine Yb Tryz.func181 rfl (Va Tryz.func181 (by decide) rfl) ?_
 have hl:=Zp t
 have ht:=Ya6 t
 have ho:=Ybn t
 have hmax:(slots:Int)*24≤281474976710656∧(slots:Int)≤9223372036854775807:=by omega
 simp [Tryz.ntmps181,hl,ht]
 rw [if_pos (by exact ho),Zn]
 simp [hl,ht,hmax]
 refine Vd (LiA t σ men slots) (fun env _=>match tg env.t 13 with | .int _ i=>slots - i.toNat | _=>0) ⟨_,0,rfl,by simp,by simp,by simp,by simp,by simp,by simp,by omega,by simp [Yi,Ww]⟩ ?_
 rintro env _ ⟨u,i,rfl,hl2,g1,g3,g7,g12,g13,hi,rfl⟩
 rcases Qzn i slots with hlt | hge
 ·have hlt':(i:Int)<(slots:Int):=by omega
  have hx:=w64 (n:=(i:Int)+1) (by omega) (by omega)
  have hi8:(i:Int)<8:=by omega
  have hm5':(men:Int)≤5:=by omega
  have hle:i*5+men≤(Zd t).length:=by rw [Zp];omega
  obtain ⟨T,hT⟩:∃ T,σ++(.cells (Zd t)::.cells (Yi σ.length men i++List.replicate (slots - i) .nils)::Ww t men i)=T:=⟨_,rfl⟩
  have hTl:T.length=σ.length+2+2*i:=by rw [← hT];simp [Yax];omega
  have hT0:T[σ.length]? = some (.cells (Zd t)):=by rw [← hT];simp
  have hT1:∀ X:Za,(T++X)[σ.length+1]? = some (.cells (Yi σ.length men i++List.replicate (slots - i) .nils)):=fun X=>by rw [← hT];simp
  have hT1s:∀ (X:Za) (y:AObj),(T++X).set (σ.length+1) y=σ++(.cells (Zd t)::y::Ww t men i)++X:=fun X y=>by rw [← hT];simp
  have hrl:(Yi σ.length men i++List.replicate (slots - i) AV.nils).length=slots:=by simp [Wag];omega
  have c1:=Zg0 T σ.length (i*5) (Zd t) (Zf t men i) hT0 (by rw [Uy];exact Ufy t (by omega) hm5) (by rw [Uy];exact hle) (fun e=>by have:=Uy t men i;rw [e] at this;simp at this;omega) (by rw [Uy];omega)
  rw [Uy] at c1
  rw [hT]
  have hle5:i*5+5≤(Zd t).length:=by rw [Zp];omega
  have hmn:¬ 0=men:=by omega
  simp [hl2,g1,g3,g7,g12,g13,hlt,hlt',hi8,hm5',hm5,hmn,hle5,hT0]
  refine StA.of (c1.mono ?_)
  rintro v s ⟨rfl,rfl⟩
  have hi1:i+1≤slots:=hlt
  simp [hl2,g1,g3,g7,g12,g13,hlt,hlt',hT1,hT1s,hrl,hi1,hx]
  rw [Zbw _ _ _ _ hlt _ (by rw [hTl])]
  exact ⟨⟨_,i+1,rfl,by simp [hl2],by simp [hl2,g1],by simp [hl2,g3],by simp [hl2,g7],by simp [hl2,g12],by simp [hl2],hlt,by simp [Ww]⟩,by omega⟩
 ·obtain rfl:i=slots:=by omega
  simp [hl2,g1,g3,g7,g12,g13]
  have hpl:(Ue t men i).length=i:=by simp [Ue]
  have:=Vbj (n:=σ.length) (S:=σ++AObj.cells (Zd t)::AObj.cells (Yi σ.length men i)::Ww t men i) (r:=σ.length+1) (cs:=Yi σ.length men i) (R:=Ue t men i) (by omega) (by simp) fun k l hk=>by
   have hki:=(Qzs.1 hk).1
   rw [hpl] at hki
   refine ⟨_,Xbd _ _ hki,?_⟩
   unfold Ue at hk
   rw [Qzp,List.getElem?_range hki] at hk
   obtain rfl:=Option.some.inj hk
   have h2:=Ya9 (n:=σ.length) (S:=σ++AObj.cells (Zd t)::AObj.cells (Yi σ.length men i)::Ww t men i) (r:=σ.length+2+2*k+1) (l:=Zf t men k) (by omega) (by
    rw [Qzr (by omega),show σ.length+2+2*k+1 - σ.length=(2*k+1)+1+1 by omega]
    simp only [List.getElem?_cons_succ]
    exact Yg9 t men hki)
   rw [Uy] at h2
   exact h2
  rw [hpl] at this
  exact this
end Ab
namespace Ab
open Go Go.RowKit Go.Proofs
def Ux (t:Tab):List Int:=(List.range 40).map fun k=>t (k / 5) (k % 5)
theorem Wa2 (t:Tab):Zd t=Ya (Ux t):=by unfold Zd Ya Ux;rw [List.map_map];rfl
theorem Vcv:∀ (n:Nat) (a b:List Int),a.length=n→b.length=n→Uf (List.replicate n 1) (Ya a) (Ya b)=some (decide (a=b)):=by
 intro n
 induction n with
 | zero =>
  intro a b ha hb
  obtain rfl:=List.eq_nil_of_length_eq_zero ha
  obtain rfl:=List.eq_nil_of_length_eq_zero hb
  rfl
 | succ n ih =>
  intro a b ha hb
  cases a with
  | nil=>simp at ha
  | cons x a =>
   cases b with
   | nil=>simp at hb
   | cons y b =>
    have h2:=ih a b (by simpa using ha) (by simpa using hb)
    have e1:Ya (x::a)=.int .i64 x::Ya a:=rfl
    have e2:Ya (y::b)=.int .i64 y::Ya b:=rfl
    rw [e1,e2,List.replicate_succ]
    unfold Uf
    rw [h2]
    by_cases hxy:x=y
    ·subst hxy
     simp [Wu]
    ·simp [Wu,hxy]
theorem Xc7 (t t':Tab):Uf [1,1,1,1,1,1,1,1,1,1,1,1,1,1,1,1,1,1,1,1,1,1,1,1,1,1,1,1,1,1,1,1,1,1,1,1,1,1,1,1] (Zd t) (Zd t')=some (decide (Ux t=Ux t')):=by
 rw [Wa2,Wa2]
 exact Vcv 40 _ _ (by simp [Ux]) (by simp [Ux])
theorem Wc8 {t t':Tab} (h:Ux t=Ux t') {s m:Nat} (hs:s<8) (hm:m<5):t s m=t' s m:=by
 have h1:=Van t hs hm
 have h2:=Van t' hs hm
 rw [Wa2,h,← Wa2,h2] at h1
 simpa using h1.symm
theorem Xg6 {r:Rl} {S:List (List Int)} (hr:r.Ok) (hs:ShOk r S) (h:shP S=[]):S=[]:=by
 cases S with
 | nil=>rfl
 | cons l S =>
  obtain ⟨n,_,ok,h1,_,_⟩:=hs.mem hr (show (l::S)[0]? = some l from rfl)
  have:=ok.t1
  cases l with
  | nil=>simp at h1;omega
  | cons x l =>
   have:(x.toNat,(0:Int))∈shP ((x::l)::S):=mem_shP.2 ⟨0,x::l,rfl,rfl,x,by simp,rfl⟩
   rw [h] at this
   simp at this
theorem Vgm {r:Rl} (hs:ShOk r []):slotsOf r []=0:=by
 have h1:r.ntcs=[]:=List.eq_nil_of_length_eq_zero hs.len.symm
 have h2:grt (Wt r.men.toNat [])=0:=by
  have a:=Uck (Wt r.men.toNat [])
  have b:grt (Wt r.men.toNat [])≤0:=Ybk (by omega) fun x hx=>by
   obtain ⟨m,_,rfl⟩:=List.mem_map.1 hx
   simp [Uad,shP]
  omega
 unfold slotsOf
 rw [h2,h1]
 simp [grt]
theorem Ubv (n:Nat) (S:Za) (l:List Int):Fz n S (.pl 1 (Ya l)) (.pl 1 (Ya l)):=by
 refine .pl 1 _ fun i x hx j y hy=>?_
 obtain ⟨z,_,rfl⟩:=List.mem_map.1 (Qzg hx)
 have:=Qzg hy
 simp [AV.cells] at this
 subst this
 exact .int _ _
theorem Yce (n:Nat) (S:Za) (R:List (List Int)):Fz n S (Yf R) (Yf R):=by
 refine .pl 1 _ fun i x hx j y hy=>?_
 obtain ⟨z,_,rfl⟩:=List.mem_map.1 (Qzg hx)
 have:=Qzg hy
 simp [AV.cells] at this
 subst this
 exact Ubv _ _ _
theorem Xg5 {n:Nat} {σ:Za} {a b a' b':AV} (h1:Fz n σ a a') (h2:Fz n σ b b'):Fz n σ (.tup [a,b]) (.tup [a',b']):=by simp [h1,h2]
def PlA (r:Rl) (S:List (List Int)) (slots:Nat) (σ:Za) (env:Env) (σ':Za):Prop:=∃ (u:List AV) (i:Nat) (t:Tab),env={ t:=u }∧u.length=42∧tg u 2=.ptr σ.length 0∧tg u 5=.int .i64 slots∧tg u 6=.ptr (σ.length+1) 0∧tg u 15=.pl 1 (S.map fun x=>.pl 1 (Ya x))∧tg u 16=.int .i64 S.length∧tg u 17=.int .i64 i∧i≤S.length∧SlInv slots (shP (S.take i)) t∧σ'=σ++[.cells [.int .i64 r.men,.pl 2 (r.ntcs.map Xc)],.cells (Zd t)]
def PlB (r:Rl) (S:List (List Int)) (slots:Nat) (σ:Za) (i:Nat) (l:List Int) (env:Env) (σ':Za):Prop:=∃ (u:List AV) (j:Nat) (t:Tab),env={ t:=u }∧u.length=42∧tg u 2=.ptr σ.length 0∧tg u 5=.int .i64 slots∧tg u 6=.ptr (σ.length+1) 0∧tg u 7=.int .i64 i∧tg u 15=.pl 1 (S.map fun x=>.pl 1 (Ya x))∧tg u 16=.int .i64 S.length∧tg u 17=.int .i64 i∧tg u 22=.pl 1 (Ya l)∧tg u 23=.int .i64 l.length∧tg u 24=.int .i64 j∧j≤l.length∧SlInv slots (shP (S.take i)++Wi i (l.take j)) t∧σ'=σ++[.cells [.int .i64 r.men,.pl 2 (r.ntcs.map Xc)],.cells (Zd t)]
attribute [local irreducible] aws awp aw1 Og Om Oc Oa Ogd Ov Ot awd Zb awh Xb Ogh Ohd awl Ogl Ohl awv Ogv Ohv Wb Vb QFn Ub Wp QRo QBe Ul Vn ACode AYield
set_option maxHeartbeats 2000000 in
theorem Wdt (r:Rl) (S:List (List Int)) (h:r.Ok) (hs:ShOk r S) (σ:Za):ACalls Tryz.prog 104 [Uh r,Yf S] σ fun v s=>∃ t,SlInv (slotsOf r S).toNat (shP S) t∧v=Yf (Ue t r.men.toNat (slotsOf r S).toNat)∧s=σ:=by
 refine ACalls.forgetT ?_
 refine Yb Tryz.func104 rfl (Va Tryz.func104 (by decide) rfl) ?_
 have hr0:Uh r=.agg [.int .i64 r.men,.pl 2 (r.ntcs.map Xc)]:=rfl
 have hS0:Yf S=.pl 1 (S.map fun x=>.pl 1 (Ya x)):=rfl
 have c1:=We6 r S h hs
 have hsl:=Xbl h hs
 obtain ⟨slots,hsn⟩:∃ k:Nat,slotsOf r S=k:=⟨(slotsOf r S).toNat,by omega⟩
 have hst:(slotsOf r S).toNat=slots:=by omega
 rw [hst]
 rw [hsn] at c1 hsl
 rw [hr0,hS0] at c1 ⊢
 have hl:=Zp fun _ _=>-1
 have ht:=Ya6 fun _ _=>-1
 have ho:=Ybn fun _ _=>-1
 obtain ⟨B,hB⟩:∃ B,Zd (fun _ _=>-1)=B:=⟨_,rfl⟩
 have c2:=Vhh
 rw [hB] at hl ht ho c2
 simp [Tryz.ntmps104]
 refine c1.use ?_
 try simp
 refine c2.use ?_
 simp [hl,ht]
 rw [if_pos (by exact ho),Zn]
 try simp [hl,ht]
 refine Vd (PlA r S slots σ) (fun env _=>match tg env.t 17 with | .int _ i=>S.length - i.toNat | _=>0) ⟨_,0,fun _ _=>-1,rfl,by simp,by simp,by simp,by simp,by simp,by simp,by simp,by omega,by simpa [shP] using SlInv.blank slots,by rw [hB]⟩ ?_
 rintro env _ ⟨u,i,t,rfl,hl2,g2,g5,g6,g15,g16,g17,hi,hT,rfl⟩
 rcases Qzn i S.length with hlt | hge
 ·have hlt':(i:Int)<(S.length:Int):=by have:=hs.len;have:=h.few;omega
  have hx:=w64 (n:=(i:Int)+1) (by omega) (by have:=hs.len;have:=h.few;omega)
  obtain ⟨l,hli⟩:∃ l,S[i]=l:=⟨_,rfl⟩
  have hl':S[i]? = some l:=by rw [Qze hlt,hli]
  obtain ⟨n,hn,ok,h1,h2,h3⟩:=hs.mem h hl'
  have hll:l.length≤5:=Xav h2 fun x hx=>by have:=h3 x hx;have:=h.m5;omega
  simp [hl2,g2,g5,g6,g15,g16,g17,hlt,hlt',hli]
  refine Vd (PlB r S slots σ i l) (fun env _=>match tg env.t 24 with | .int _ j=>l.length - j.toNat | _=>0) ⟨_,0,t,rfl,by simp [hl2],by simp [hl2,g2],by simp [hl2,g5],by simp [hl2,g6],by simp [hl2],by simp [hl2,g15],by simp [hl2,g16],by simp [hl2,g17],by simp [hl2],by simp [hl2,Ya],by simp [hl2],by omega,by simpa [Wi] using hT,rfl⟩ ?_
  clear hl2 g2 g5 g6 g15 g16 g17 u hT t
  rintro env _ ⟨u,j,t,rfl,hl2,g2,g5,g6,g7,g15,g16,g17,g22,g23,g24,hj,hT,rfl⟩
  rcases Qzn j l.length with hlt2 | hge2
  ·have hlt2':(j:Int)<(l.length:Int):=by omega
   have hx2:=w64 (n:=(j:Int)+1) (by omega) (by omega)
   obtain ⟨m,hmj⟩:∃ m,l[j]=m:=⟨_,rfl⟩
   have hm':l[j]? = some m:=by rw [Qze hlt2,hmj]
   have hP:Pre S i j l m (shP (S.take i)++Wi i (l.take j)):=⟨hl',hm',rfl⟩
   have hmm:=(h3 m (Qzg hm')).2
   have q1:=hP.new h hs
   have q2:=hP.rowFew h hs
   have q3:=hP.manFew h hs
   obtain ⟨m,rfl⟩:∃ k:Nat,m=k:=⟨m.toNat,by omega⟩
   have hN1:shP (S.take i)++Wi i (l.take (j+1))=shP (S.take i)++Wi i (l.take j)++[(m,(i:Int))]:=by rw [Vci hm',← List.append_assoc];simp
   have hil:j<(Ya l).length:=by simpa [Ya] using hlt2
   have hx':(Ya l)[j]=.int .i64 m:=by simp [Ya,hmj]
   simp at q1 q2 q3
   simp [hl2,g2,g5,g6,g7,g15,g16,g17,g22,g23,g24,hlt2,hlt2',hil,hx']
   refine StA.of ((Ug3 hT (σ++[.cells [.int .i64 r.men,.pl 2 (r.ntcs.map Xc)],.cells (Zd t)]) (σ.length+1) m i (by simp) (by omega) (by have:=h.m5;omega) (by omega) (by simpa using q1) (by simp;omega) (by simp;omega)).mono ?_)
   rintro v s ⟨t',hT',rfl⟩
   rw [← hN1] at hT'
   simp [hl2,g2,g5,g6,g7,g15,g16,g17,g22,g23,g24,hx2]
   exact ⟨⟨_,j+1,t',rfl,by simp [hl2],by simp [hl2,g2],by simp [hl2,g5],by simp [hl2,g6],by simp [hl2,g7],by simp [hl2,g15],by simp [hl2,g16],by simp [hl2,g17],by simp [hl2,g22],by simp [hl2,g23],by simp [hl2],hlt2,hT',rfl⟩,by omega⟩
  ·obtain rfl:j=l.length:=by omega
   simp [hl2,g2,g5,g6,g7,g15,g16,g17,g22,g23,g24,hx]
   exact ⟨⟨_,i+1,t,rfl,by simp [hl2],by simp [hl2,g2],by simp [hl2,g5],by simp [hl2,g6],by simp [hl2,g15],by simp [hl2,g16],by simp [hl2],hlt,by rw [Vbs hl'];simpa using hT,rfl⟩,by omega⟩
 ·obtain rfl:i=S.length:=by omega
  rw [List.take_of_length_le (Nat.le_refl _)] at hT
  have hlt:=Zp t
  have htt:=Ya6 t
  simp [hl2,g2,g5,g6,g15,g16,g17]
  refine Zj mixed (by kernel_rfl) ?_
  simp [hl2,g2,g5,g6,hlt,htt]
  refine Wy c2 ?_
  rw [← hB]
  simp [hl2,g2,g5,g6,hlt,htt,Xc7]
  by_cases heq:Ux t=Ux fun _ _=>-1
  ·have hN:shP S=[]:=by
    cases hc:shP S with
    | nil=>rfl
    | cons p N =>
     obtain ⟨m,n⟩:=p
     rw [hc] at hT
     obtain ⟨s,e⟩:=hT.all m n (by simp)
     have h0:=hT.no m n (by simp)
     have h5:=hT.man m n (by simp)
     have h8:=hT.lt (s:=s) (m:=m) (by omega)
     have:=Wc8 heq (s:=s) (m:=m) (by omega) h5
     omega
   obtain rfl:=Xg6 h hs hN
   have h0:slots=0:=by have:=Vgm hs;omega
   subst h0
   simp [heq]
   exact ⟨σ,_,rfl,rfl,fun r o h=>.inl h,_,.nils_pl 1,t,hT,rfl,rfl⟩
  ·have h1:1≤slots:=by
    rcases Nat.eq_zero_or_pos slots with e | e
    ·exfalso
     refine heq ?_
     unfold Ux
     apply List.map_congr_left
     intro k _
     exact hT.hi _ _ (by omega)
    ·exact e
   have c3:=Ucz t r.men.toNat slots (by have:=h.m1;omega) (by have:=h.m5;omega) h1 (by omega)
   rw [show ((r.men.toNat:Nat):Int)=r.men by have:=h.m1;omega] at c3
   simp [heq,hl2,g2,g5,g6,hlt,htt]
   refine c3.use ?_
   try simp [hl2]
   exact ⟨σ,_,rfl,rfl,fun r o h=>.inl h,_,Yce _ _ _,t,hT,rfl,rfl⟩
theorem Vgk (r:Rl) (S:List (List Int)) (h:r.Ok) (hs:ShOk r S) (σ:Za):ACalls Tryz.prog 58 [Uh r,Yf S] σ fun v s=>∃ t,SlInv (slotsOf r S).toNat (shP S) t∧v=.tup [Yf (Ue t r.men.toNat (slotsOf r S).toNat),.int .i64 0]∧s=σ:=by
 refine ACalls.forgetT ?_
 refine Yb Tryz.func58 rfl (Va Tryz.func58 (by decide) rfl) ?_
 have hr0:Uh r=.agg [.int .i64 r.men,.pl 2 (r.ntcs.map Xc)]:=rfl
 have c1:=Xb2 r S h hs
 have c2:=fun σ=>Wdt r S h hs σ
 rw [hr0] at c1 c2 ⊢
 simp [Tryz.ntmps58]
 refine c1.use ?_
 try simp
 refine StA.of ((c2 _).mono ?_)
 rintro v s ⟨t,hT,rfl,rfl⟩
 try simp
 exact ⟨σ,_,rfl,rfl,fun r o h=>.inl h,_,Xg5 (Yce _ _ _) (.int _ _),t,hT,rfl,rfl⟩
end Ab

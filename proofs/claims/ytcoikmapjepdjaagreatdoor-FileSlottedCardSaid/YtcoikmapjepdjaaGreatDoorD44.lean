/-
  Texts packed for a claim.
-/
import Derived.Test.YtcoikmapjepdjaaGreatDoorD00
import Derived.Test.YtcoikmapjepdjaaGreatDoorD43
set_option linter.all false
namespace Ab
open Go Go.RowKit Go.Proofs
theorem Wbt {n:Nat} {a b:Code}:(Xl (n+1) (.seq a b)).2=(Xl n b).2:=rfl
theorem Ub7 {c:Code}:(Xl 0 c).2=c:=by cases c<;>rfl
def Zl (t:Tab) (men:Nat):Nat→Za
 | 0=>[]
 | s+1=>Zl t men s++[.cells [.int .i64 (-1)],.cells (Ya (Zf t men s))]
theorem Yx (t:Tab) (men:Nat):∀ s,(Zl t men s).length=2*s
 | 0=>rfl
 | s+1=>by simp [Zl,Yx t men s];omega
theorem Wb2 (t:Tab) (men:Nat):∀ {s k:Nat},k<s→(Zl t men s)[2*k+1]? = some (.cells (Ya (Zf t men k))):=by
 intro s
 induction s with
 | zero=>intro k h;omega
 | succ s ih =>
  intro k h
  rw [Zl]
  rcases Qzn k s with h1 | h1
  ·rw [Qzl (by rw [Yx];omega)]
   exact ih h1
  ·obtain rfl:k=s:=by omega
   rw [Qzr (by rw [Yx];omega),Yx,show 2*k+1 - 2*k=1 by omega]
   rfl
theorem Ycp (t:Tab) {men k m:Nat} (v:Int) (hm:m<men):(Zf t men k).set m v=Zf (Zg t k m v) men k:=by
 apply List.ext_getElem?
 intro i
 rw [List.getElem?_set]
 unfold Zf
 by_cases h:m=i
 ·subst h
  simp [hm,Zg]
 ·rw [if_neg h,Qzp,Qzp]
  rcases Qzn i men with h1 | h1
  ·rw [List.getElem?_range h1]
   simp [Zg]
   intro e
   exact absurd e.symm h
  ·rw [List.getElem?_eq_none (by simpa using h1)]
   rfl
theorem Ubr (t:Tab) {men k k' m:Nat} (v:Int) (h:k'≠k):Zf (Zg t k m v) men k'=Zf t men k':=by
 unfold Zf
 apply List.map_congr_left
 intro i _
 unfold Zg
 rw [if_neg (fun e=>h e.1)]
theorem Zdh (t:Tab) {men k m:Nat} (v:Int):∀ {s:Nat},s≤k→Zl (Zg t k m v) men s=Zl t men s:=by
 intro s
 induction s with
 | zero=>intro _;rfl
 | succ s ih=>intro h;rw [Zl,Zl,ih (by omega),Ubr t v (by omega)]
theorem Uea (t:Tab) {men k m:Nat} (v:Int) (hm:m<men):∀ {s:Nat},k<s→(Zl t men s).set (2*k+1) (.cells (Ya (Zf (Zg t k m v) men k)))=Zl (Zg t k m v) men s:=by
 intro s
 induction s with
 | zero=>intro h;omega
 | succ s ih =>
  intro h
  rw [Zl,Zl]
  rcases Qzn k s with h1 | h1
  ·rw [List.set_append_left _ _ (by rw [Yx];omega),ih h1,Ubr t v (by omega)]
  ·obtain rfl:k=s:=by omega
   rw [List.set_append_right _ _ (by rw [Yx];omega),Yx,show 2*k+1 - 2*k=1 by omega,Zdh t v (Nat.le_refl _)]
   rfl
def Uu (E:List Ent) (t:Tab):Tab:=E.foldl (fun t e=>Zg t e.1 e.2.1 e.2.2) t
theorem Ydw {E:List Ent}:∀ {t:Tab} {s m:Nat},(∀ e∈E,¬ (s=e.1∧m=e.2.1))→Uu E t s m=t s m:=by
 induction E with
 | nil=>intro t s m _;rfl
 | cons e E ih =>
  intro t s m h
  refine (ih (t:=Zg t e.1 e.2.1 e.2.2) fun e' he=>h e' (by simp [he])).trans ?_
  unfold Zg
  rw [if_neg (h e (by simp))]
theorem Vcy {v:Int} {E:List Ent}:∀ {t:Tab} {s m:Nat},(∀ e∈E,s=e.1∧m=e.2.1→e.2.2=v)→(∃ e∈E,s=e.1∧m=e.2.1)∨t s m=v→Uu E t s m=v:=by
 induction E with
 | nil =>
  rintro t s m _ (⟨e,h,_⟩ | h)
  ·simp at h
  ·exact h
 | cons e E ih =>
  intro t s m hv h
  refine ih (t:=Zg t e.1 e.2.1 e.2.2) (fun e' he=>hv e' (by simp [he])) ?_
  by_cases h2:s=e.1∧m=e.2.1
  ·right
   unfold Zg
   rw [if_pos h2,hv e (by simp) h2]
  ·rcases h with ⟨e',h,h3⟩ | h
   ·rcases List.mem_cons.1 h with h | h
    ·subst h;exact absurd h3 h2
    ·exact .inl ⟨e',h,h3⟩
   ·right;unfold Zg;rw [if_neg h2,h]
theorem Ye1 (t:Tab) (men slots:Nat) {s m:Nat} (hs:s<slots) (hm:m<men):Uu (Wg t men slots) (fun _ _=>-1) s m=t s m:=by
 by_cases h:t s m=-1
 ·rw [h]
  refine Ydw fun e he hh=>?_
  obtain ⟨_,_,_,q4⟩:=entE_mem.1 he
  rw [← hh.1,← hh.2] at q4
  exact q4 h
 ·refine Vcy (fun e he hh=>?_) (.inl ⟨(s,m,t s m),entE_mem.2 ⟨hs,hm,rfl,h⟩,rfl,rfl⟩)
  obtain ⟨_,_,q3,_⟩:=entE_mem.1 he
  rw [q3,← hh.1,← hh.2]
theorem Wcs {t t':Tab} {men slots:Nat} (h:∀ s m,s<slots→m<men→t s m=t' s m):Ue t men slots=Ue t' men slots:=by
 unfold Ue
 apply List.map_congr_left
 intro s hs
 apply List.map_congr_left
 intro m hm
 exact h s m (List.mem_range.1 hs) (List.mem_range.1 hm)
theorem Ue0 (s m n:Nat) (hm:m≤9) (v:Int):(Wh (s,m,v)).tdiv 10=s∧(Wh (s,m,v)).tmod 10=m:=by
 have e:Wh (s,m,v)=10*(s:Int)+(m:Int):=rfl
 rw [e]
 constructor
 ·rw [Int.tdiv_eq_ediv_of_nonneg (by omega)];omega
 ·rw [Int.tmod_eq_emod_of_nonneg (by omega)];omega
theorem Vea {u:List AV} {a b c d e:AV} (h:24<u.length):tg (Xj u [(6,a),(7,b),(11,c),(17,d),(24,e)]) 6=a∧tg (Xj u [(6,a),(7,b),(11,c),(17,d),(24,e)]) 7=b∧tg (Xj u [(6,a),(7,b),(11,c),(17,d),(24,e)]) 11=c∧tg (Xj u [(6,a),(7,b),(11,c),(17,d),(24,e)]) 17=d∧tg (Xj u [(6,a),(7,b),(11,c),(17,d),(24,e)]) 24=e:=by
 have h1:6<u.length:=by omega
 have h2:7<u.length:=by omega
 have h3:11<u.length:=by omega
 have h4:17<u.length:=by omega
 unfold Xj
 simp [tg,ts,h,h1,h2,h3,h4]
theorem Ucq {u:List AV} {a b c d e:AV} (h:11<u.length):tg (Xj u [(6,a),(7,b),(8,c),(10,d),(11,e)]) 6=a∧tg (Xj u [(6,a),(7,b),(8,c),(10,d),(11,e)]) 7=b∧tg (Xj u [(6,a),(7,b),(8,c),(10,d),(11,e)]) 8=c∧tg (Xj u [(6,a),(7,b),(8,c),(10,d),(11,e)]) 10=d∧tg (Xj u [(6,a),(7,b),(8,c),(10,d),(11,e)]) 11=e:=by
 have h1:6<u.length:=by omega
 have h2:7<u.length:=by omega
 have h3:8<u.length:=by omega
 have h4:10<u.length:=by omega
 unfold Xj
 simp [tg,ts,h,h1,h2,h3,h4]
def LQ1 (T:Za) (L men slots:Nat) (FF WW:List AV) (X7:AV) (σ:Za) (env:Env) (σ':Za):Prop:=∃ (u:List AV) (i:Nat),env={ t:=u }∧u.length=257∧tg u 6=.ptr (σ.length+1) 0∧tg u 7=X7∧tg u 11=.pl 3 WW∧tg u 17=.pl 3 FF∧tg u 20=.pl 3 FF∧tg u 24=.arr 1 T.length 0 slots∧tg u 156=.int .i64 slots∧tg u 157=.int .i64 i∧i≤slots ∧
 σ'=T++(.cells (Yi L men i++List.replicate (slots - i) .nils)::Zl (fun _ _=>-1) men i)
def LQ2 (T:Za) (L men slots:Nat) (E:List Ent) (FF WW:List AV) (X7:AV) (σ:Za) (env:Env) (σ':Za):Prop:=∃ (u:List AV) (i:Nat) (G:Za),env={ t:=u }∧u.length=257∧tg u 6=.ptr (σ.length+1) 0∧tg u 7=X7∧tg u 11=.pl 3 WW∧tg u 17=.pl 3 FF∧tg u 24=.arr 1 T.length 0 slots∧tg u 168=.pl 3 FF∧tg u 169=.int .i64 E.length∧tg u 170=.int .i64 i∧i≤E.length ∧
 σ'=T++(.cells (Yi L men slots)::(Zl (Uu (E.take i) fun _ _=>-1) men slots++G))
def LQ3 (T:Za) (L men slots:Nat) (E:List Ent) (FF WW:List AV) (X7:AV) (σ:Za) (env:Env) (σ':Za):Prop:=∃ (u:List AV) (G:Za),env={ t:=u }∧u.length=257∧tg u 6=.ptr (σ.length+1) 0∧tg u 7=X7∧tg u 11=.pl 3 WW∧tg u 17=.pl 3 FF∧tg u 24=.arr 1 T.length 0 slots ∧
 σ'=T++(.cells (Yi L men slots)::(Zl (Uu E fun _ _=>-1) men slots++G))
theorem Xe2 {T G:Za} {L men slots:Nat} (t:Tab) (hL:T.length=L+1):Fz 0 (barP (fun r=>decide (T.length≤r)) (T++(.cells (Yi L men slots)::(Zl t men slots++G)))) (.arr 1 T.length 0 slots) (Yf (Ue t men slots)):=by
 have hpl:(Ue t men slots).length=slots:=by simp [Ue]
 have:=Vbj (n:=0) (r:=T.length) (S:=barP (fun r=>decide (T.length≤r)) (T++(.cells (Yi L men slots)::(Zl t men slots++G)))) (cs:=Yi L men slots) (R:=Ue t men slots) (by omega) (Was (by simp) (by simp)) (fun k l hk=>by
  have hks:k<slots:=by rw [← hpl];exact (Qzs.1 hk).1
  have hl:l=Zf t men k:=by
   have:=(Qzs.1 hk).2
   simp [Ue] at this
   rw [← this]
   rfl
  refine ⟨_,Xbd L men hks,?_⟩
  have:=Ya9 (n:=0) (S:=barP (fun r=>decide (T.length≤r)) (T++(.cells (Yi L men slots)::(Zl t men slots++G)))) (r:=L+2+2*k+1) (l:=l) (by omega) (Was (by
   rw [Qzr (by omega),show L+2+2*k+1 - T.length=(2*k+1)+1 by omega,List.getElem?_cons_succ,Qzl (by rw [Yx];omega),hl]
   exact Wb2 t men hks) (by simp;omega))
  rw [hl,Uy] at this
  rw [hl]
  exact this)
 rw [hpl] at this
 exact this
attribute [local irreducible] aws awp aw1 Og Om Oc Oa Ogd Ov Ot awd Zb awh Xb Ogh Ohd awl Ogl Ohl awv Ogv Ohv Wb Vb QFn Ub Wp QRo QBe Ul Vn ACode AYield
set_option maxRecDepth 20000 in
set_option maxHeartbeats 8000000 in
theorem Wdr (l1:List UInt8) (h1:l1.length≤9223372036854775807) (w:UInt8):APure Tryz.prog 7 [.pl 1 (Wn l1),.int .u8 w.toNat] (.bool true):=by
 refine APure.of fun σ=>Xd3 l1 h1 w σ _ ?_
 rintro env s ⟨B,r,S,t,men,slots,hF,⟨u,s',vs,F,os,g,rfl,hl,g1,g6,g7,g8,g10,g11,g53,g54,g55,hs',rfl,hA,hF0,hF1,hF2⟩,h55⟩
 obtain rfl:s'=slots:=by
  have h55':tg u 55=.int .i64 slots:=h55
  rw [g55] at h55'
  injection h55' with _ e
  omega
 obtain ⟨E,hE⟩:∃ E,Wg t men s'=E:=⟨_,rfl⟩
 have hEok:=hF.ents
 rw [hE] at hF0 hF1 hF2 hEok
 obtain ⟨S0,hS0⟩:∃ S0,σ++[B,AObj.cells [.int .i64 men,.pl 2 (r.ntcs.map Xc)]]=S0:=⟨_,rfl⟩
 have hS0l:S0.length=σ.length+2:=by rw [← hS0];simp
 have hheap:(σ++[B,AObj.cells [.int .i64 men,.pl 2 (r.ntcs.map Xc)],.cells [vs 0,vs 1]])++g=S0++(.cells [vs 0,vs 1]::g):=by rw [← hS0];simp
 rw [hheap]
 have hbar:∀ (j:Nat) x,g[j]? = some (AObj.cells x)→(barP (fun r=>decide (S0.length+1≤r)) (S0++(.cells [vs 0,vs 1]::g)))[(σ++[zRl,zRl,zRl]).length+j]? = some (.cells x):=fun j x hj=>by
  refine Was ?_ (by simp;omega)
  rw [Qzr (by simp;omega),show (σ++[zRl,zRl,zRl]).length+j - S0.length=j+1 by simp;omega]
  simpa using hj
 have v0:=hA.vw hbar (n:=0) (by omega)
 have v1:=hA.vw hbar (n:=1) (by omega)
 have v2:=hA.vw hbar (n:=2) (by omega)
 rw [if_neg (by omega),hF0] at v0
 rw [if_neg (by omega),hF1] at v1
 rw [if_pos rfl,hF2] at v2
 refine ACode.view (u':=Xj u [(6,.ptr (σ.length+1) 0),(7,Yf S),(8,Yf (Ue t men s')),(10,.ptr (σ.length+2) 0),(11,We (Zc Wk E))]) _ (View.rows (C':=[We (Zc Wc (E.filter fun e=>!qW w e)),We (Zc Wc (E.filter (qW w)))]) rfl (fun i x y hx hy=>by
  match i,hx,hy with
  | 0,hx,hy=>simp at hx hy;subst hx;subst hy;exact .inr v0
  | 1,hx,hy=>simp at hx hy;subst hx;subst hy;exact .inr v1
  | i+2,hx,hy=>simp at hx)) ?_ (Ual _ _) (Za8 (by
   simp only [List.mem_cons,List.not_mem_nil,or_false]
   rintro p (rfl | rfl | rfl | rfl | rfl)<;>dsimp only<;>first | (rw [g6];exact .inl rfl) | (rw [g7];exact .inl rfl) | (rw [g8];exact .inl rfl) | (rw [g10];exact .inl rfl) | (rw [g11];exact .inr v2)))
 have hl3:=(Ual u [(6,.ptr (σ.length+1) 0),(7,Yf S),(8,Yf (Ue t men s')),(10,.ptr (σ.length+2) 0),(11,We (Zc Wk E))]).trans hl
 obtain ⟨X7,hX7⟩:∃ X,Yf S=X:=⟨_,rfl⟩
 obtain ⟨X8,hX8⟩:∃ X,Yf (Ue t men s')=X:=⟨_,rfl⟩
 obtain ⟨X11,hX11⟩:∃ X,We (Zc Wk E)=X:=⟨_,rfl⟩
 rw [hX7,hX8,hX11] at hl3 ⊢
 obtain ⟨k6,k7,k8,k10,k11⟩:=Ucq (u:=u) (a:=.ptr (σ.length+1) 0) (b:=X7) (c:=X8) (d:=.ptr (σ.length+2) 0) (e:=X11) (by omega)
 obtain ⟨u',hu'⟩:∃ x,Xj u [(6,.ptr (σ.length+1) 0),(7,X7),(8,X8),(10,.ptr (σ.length+2) 0),(11,X11)]=x:=⟨_,rfl⟩
 rw [hu'] at hl3 k6 k7 k8 k10 k11 ⊢
 obtain ⟨VA,hVA⟩:∃ x,We (Zc Wc (E.filter fun e=>!qW w e))=x:=⟨_,rfl⟩
 obtain ⟨VB,hVB⟩:∃ x,We (Zc Wc (E.filter (qW w)))=x:=⟨_,rfl⟩
 rw [hVA,hVB]
 obtain ⟨T,hT⟩:∃ T,S0++(AObj.cells [VA,VB]::g.map fun _=>AObj.dead)=T:=⟨_,rfl⟩
 have hT6:∀ X:Za,(T++X)[σ.length+1]? = some (.cells [.int .i64 men,.pl 2 (r.ntcs.map Xc)]):=fun X=>by rw [← hT,← hS0];simp
 have hT60:T[σ.length+1]? = some (.cells [.int .i64 men,.pl 2 (r.ntcs.map Xc)]):=by rw [← hT,← hS0];simp
 have hT10:T[σ.length+2]? = some (.cells [VA,VB]):=by rw [← hT,← hS0];simp
 have hTs:∃ x,T=σ++x:=⟨_,by rw [← hT,← hS0,List.append_assoc]⟩
 rw [hT]
 clear v0 v1 v2 hbar hA hF0 hF1 hF2 g1 g6 g7 g8 g10 g11 g53 g54 g55 hl hu' u vs F os hheap h55 hS0 hT hS0l g S0
 have rE:=Uab hEok (Xag hEok)
 have rW:=Uab hEok (Zca E)
 have rA:=Uab (hEok.filter fun e=>!qW w e) (Xag (hEok.filter _))
 have rB:=Uab (hEok.filter (qW w)) (Xag (hEok.filter _))
 have hj1:=Xdb hEok (qW w)
 have cJ1:=fun σ=>Ubo _ _ rA rB σ
 rw [hj1,hVA,hVB] at cJ1
 have hchk:=Oyez.right_check rE
 obtain ⟨ffew,_,fpl,fwl⟩:=Zbf hchk
 have hpc:Yag (Zc Wc E)=(Oyez.print (Zc Wc E),0):=by unfold Yag;rw [if_pos hchk]
 have hpp:=Oyez.parse_print hchk
 have cP:=Zb8 _ ffew
 rw [hpc] at cP
 have cR:=Yca (Oyez.print (Zc Wc E)) (by omega)
 rw [hpp] at cR
 obtain ⟨PT,hPT⟩:∃ x,Oyez.print (Zc Wc E)=x:=⟨_,rfl⟩
 rw [hPT] at cP cR
 have eF:We (Zc Wc E)=.pl 3 ((Zc Wc E).map Yg):=rfl
 have eW:X11=.pl 3 ((Zc Wk E).map Yg):=hX11.symm
 have e8:X8=.pl 1 ((Ue t men s').map fun x=>.pl 1 (Ya x)):=hX8.symm
 have hEl:((Zc Wc E).map Yg).length=E.length:=by simp [Zc]
 have hWl:((Zc Wk E).map Yg).length=E.length:=by simp [Zc]
 obtain ⟨FF,hFF⟩:∃ x,(Zc Wc E).map Yg=x:=⟨_,rfl⟩
 obtain ⟨WW,hWW⟩:∃ x,(Zc Wk E).map Yg=x:=⟨_,rfl⟩
 unfold Xao at cR
 rw [eF,hFF] at cJ1 cP cR
 rw [hFF] at hEl
 rw [hWW] at eW hWl
 have eW':We (Zc Wk E)=.pl 3 WW:=hX11.trans eW
 subst eW
 have hpl:(Ue t men s').length=s':=by simp [Ue]
 have hm1:=hF.m1
 have hm4:=hF.m4
 have hs6:=hF.s6
 obtain ⟨L,hL⟩:∃ L,T.length=L+1:=⟨T.length - 1,by have:=(Qzs.1 hT10).1;omega⟩
 refine Yb2 (n:=8) (LQ3 T L men s' E FF WW X7 σ) ?_ ?_
 ·clear hl3 k6 k7 k8 k10 k11 u' cJ1 cP cR hT10 hT60
  rintro env _ ⟨u,G,rfl,hl,g6,g7,g11,g17,g24,rfl⟩
  have hq:=Xe2 (G:=G) (men:=men) (slots:=s') (Uu E fun _ _=>-1) hL
  refine ACode.view (u':=Xj u [(6,.ptr (σ.length+1) 0),(7,X7),(11,.pl 3 WW),(17,.pl 3 FF),(24,Yf (Ue (Uu E fun _ _=>-1) men s'))]) _ (View.dropS T _) (Yl _ ?_) (Ual _ _) (Za8 (by
   simp only [List.mem_cons,List.not_mem_nil,or_false]
   rintro p (rfl | rfl | rfl | rfl | rfl)<;>dsimp only<;>first | (rw [g6];exact .inl rfl) | (rw [g7];exact .inl rfl) | (rw [g11];exact .inl rfl) | (rw [g17];exact .inl rfl) | (rw [g24];exact .inr hq)))
  have hl3:=(Ual u [(6,.ptr (σ.length+1) 0),(7,X7),(11,.pl 3 WW),(17,.pl 3 FF),(24,Yf (Ue (Uu E fun _ _=>-1) men s'))]).trans hl
  rw [Wcs (t':=t) fun s m hs hm=>by rw [← hE];exact Ye1 t men s' hs hm] at hl3 ⊢
  obtain ⟨X24,hX24⟩:∃ X,Yf (Ue t men s')=X:=⟨_,rfl⟩
  rw [hX24] at hl3 ⊢
  obtain ⟨k6,k7,k11,k17,k24⟩:=Vea (u:=u) (a:=.ptr (σ.length+1) 0) (b:=X7) (c:=.pl 3 WW) (d:=.pl 3 FF) (e:=X24) (by omega)
  obtain ⟨u',hu'⟩:∃ x,Xj u [(6,.ptr (σ.length+1) 0),(7,X7),(11,.pl 3 WW),(17,.pl 3 FF),(24,X24)]=x:=⟨_,rfl⟩
  rw [hu'] at hl3 k6 k7 k11 k17 k24 ⊢
  obtain ⟨D,hD⟩:∃ D,(AObj.cells (Yi L men s')::(Zl (Uu E fun x x_1=>-1) men s'++G)).map (fun _=>AObj.dead)=D:=⟨_,rfl⟩
  rw [hD]
  clear hD hq hu' g6 g7 g11 g17 g24 hl u
  have cH:=Xe8 r hF.ok S hF.sh t (by rw [hF.hslots];exact hF.inv)
  dsimp only [Tryz.f7,Option.getD]
  simp [-Xa,Wbt,Ub7,hl3,k6,k7,k11,k17,k24,hT6]
  have hroll:(AV.agg [.int .i64 men,.pl 2 (r.ntcs.map Xc)])=Uh r:=by rw [Uh,← hF.hmen]
  have hslots:s'=(slotsOf r S).toNat:=hF.hslots.symm
  have hmenN:men=r.men.toNat:=by have:=hF.hmen;omega
  rw [hroll,← hX24,hslots,hmenN]
  refine cH.use ?_
  have hX7':X7=.pl 1 (S.map fun x=>.pl 1 (Ya x)):=hX7.symm
  simp [-Xa,hl3,k6,k7,k11,k17,k24,hX7]
  have cL:=Wcx S (by have:=hF.sh.len;have:=hF.ok.few;omega) (fun l hl=>by
   obtain ⟨i,hi⟩:=List.mem_iff_getElem?.1 hl
   have hil:i<r.ntcs.length:=by rw [← hF.sh.len];exact (Qzs.1 hi).1
   have q:=(hF.sh.each i l _ hi (Qze hil)).1
   have:=(hF.ok.each _ (List.getElem_mem hil)).t3
   omega)
  rw [hX7] at cL
  refine cL.use ?_
  obtain ⟨ps,hps,hpsl⟩:=Yd9 hEok
  have cJ:=fun σ=>Ubo _ _ rE rW σ
  rw [hps,eF,hFF,eW'] at cJ
  simp [-Xa,hl3,k6,k7,k11,k17,k24]
  refine StA.of ((cJ _).mono ?_)
  rintro v9 s9 ⟨rfl,hs9⟩
  obtain rfl:=hs9.symm
  have hps1:(ps.map Ve).length=E.length:=by rw [List.length_map,hpsl]
  simp [-Xa,hl3,k6,k7,k11,k17,k24,Yae,We,hEl,hpsl]
  refine awake_calls.use ?_
  simp [-Xa,hl3,k6,k7,k11,k17,k24,Yae,We,hEl,hpsl]
  obtain ⟨x,rfl⟩:=hTs
  exact ⟨x++D,by rw [List.append_assoc]⟩
 dsimp only [Tryz.f7,Option.getD]
 have hmax:(s':Int)*24≤281474976710656∧(s':Int)≤9223372036854775807:=by have:=hF.s6;omega
 have hEl':FF.length=E.length:=hEl
 simp [-Xa,Wbt,Ub7,hl3,k6,k7,k8,k10,k11,hT10]
 refine StA.of ((cJ1 _).mono ?_)
 rintro v9 s9 ⟨rfl,hs9⟩
 obtain rfl:=hs9.symm
 simp [-Xa,hl3,k6,k7,k8,k10,k11,Yae,hEl,hWl]
 refine cP.use ?_
 simp [-Xa,hl3,k6,k7,k8,k10,k11]
 refine cR.use ?_
 simp [-Xa,hl3,k6,k7,k8,k10,k11,e8,hpl,hmax]
 refine Vd (LQ1 T L men s' FF WW X7 σ) (fun env _=>match tg env.t 157 with | .int _ i=>s' - i.toNat | _=>0) ⟨_,0,rfl,by simp [hl3],by simp [hl3,k6],by simp [hl3,k7],by simp [hl3,k11],by simp [hl3],by simp [hl3],by simp [hl3],by simp [hl3],by simp [hl3],by omega,by simp [Yi,Zl]⟩ ?_
 clear hl3 k6 k7 k8 k10 k11 u' cJ1 cP cR hT10 hT60
 rintro env _ ⟨u,i,rfl,hl,g6,g7,g11,g17,g20,g24,g156,g157,hi,rfl⟩
 rcases Qzn i s' with hlt | hge
 ·have hlt':(i:Int)<(s':Int):=by omega
  have hx:=w64 (n:=(i:Int)+1) (by omega) (by omega)
  obtain ⟨T1,hT1⟩:∃ T1,T++(.cells (Yi L men i++List.replicate (s' - i) .nils)::Zl (fun _ _=>-1) men i)=T1:=⟨_,rfl⟩
  have hT1l:T1.length=L+2+2*i:=by rw [← hT1];simp [Yx,hL];omega
  have hT16:∀ X:Za,(T1++X)[σ.length+1]? = some (.cells [.int .i64 men,.pl 2 (r.ntcs.map Xc)]):=fun X=>by rw [← hT1,List.append_assoc];exact hT6 _
  have hT1q:∀ X:Za,(T1++X)[T.length]? = some (.cells (Yi L men i++List.replicate (s' - i) .nils)):=fun X=>by rw [← hT1];simp
  have hT1s:∀ (X:Za) (y:AObj),(T1++X).set T.length y=T++(y::(Zl (fun _ _=>-1) men i++X)):=fun X y=>by rw [← hT1];simp
  have hrl:(Yi L men i++List.replicate (s' - i) AV.nils).length=s':=by simp [Wag];omega
  have crp:=Udt (T1++[.cells [.int .i64 (-1)]]) T1.length men (by simp) hm1 hm4
  have hi1:i+1≤s':=hlt
  rw [hT1]
  simp [-Xa,hl,g6,g7,g11,g17,g20,g24,g156,g157,hlt,hlt',hT16]
  refine StA.of (crp.mono ?_)
  rintro _ _ ⟨rfl,rfl⟩
  simp [-Xa,hl,g6,g7,g11,g17,g20,g24,g156,g157,hlt,hlt',hT1q,hT1s,hrl,hi1,hx]
  rw [Zbw _ _ _ _ hlt _ (by rw [hT1l])]
  have hrm:Zf (fun _ _=>-1) men i=List.replicate men (-1):=by unfold Zf;rw [List.map_const',List.length_range]
  exact ⟨⟨_,i+1,rfl,by simp [hl],by simp [hl,g6],by simp [hl,g7],by simp [hl,g11],by simp [hl,g17],by simp [hl,g20],by simp [hl,g24],by simp [hl,g156],by simp [hl],hlt,by rw [Zl,hrm]⟩,by omega⟩
 ·obtain rfl:i=s':=by omega
  simp [-Xa,hl,g6,g7,g11,g17,g20,g24,g156,g157,hEl]
  refine Vd (LQ2 T L men i E FF WW X7 σ) (fun env _=>match tg env.t 170 with | .int _ i=>E.length - i.toNat | _=>0) ⟨_,0,[],rfl,by simp [hl],by simp [hl,g6],by simp [hl,g7],by simp [hl,g11],by simp [hl,g17],by simp [hl,g24],by simp [hl],by simp [hl],by simp [hl],by omega,by simp [Uu]⟩ ?_
  clear hl g6 g7 g11 g17 g20 g24 g156 g157 u
  rintro env _ ⟨u,k,G,rfl,hl,g6,g7,g11,g17,g24,g168,g169,g170,hk,rfl⟩
  rcases Qzn k E.length with hlt2 | hge2
  ·have hE40:=hEok.len
   have hlt2':(k:Int)<(E.length:Int):=by omega
   have hx2:=w64 (n:=(k:Int)+1) (by omega) (by omega)
   obtain ⟨e,he⟩:∃ e,E[k]=e:=⟨_,rfl⟩
   have heE:e∈E:=he▸List.getElem_mem hlt2
   obtain ⟨s1,m1,n1⟩:=e
   have hval:=hEok.val _ heE
   have hmem:=entE_mem.1 (hE▸heE:(s1,m1,n1)∈Wg t men i)
   simp only at hval hmem
   have hFk:k<FF.length:=by omega
   have hFg:FF[k]'hFk=.agg [.int .i64 1,.int .i64 (Wh (s1,m1,n1)),.pl 1 [.str (Wc (s1,m1,n1))]]:=by
    subst hFF
    simp [Zc,he,Yg,Uc,strs]
   obtain ⟨hdiv,hmod⟩:=Ue0 s1 m1 0 (by omega) n1
   have hw1:=w64 (n:=(s1:Int)) (by omega) (by omega)
   have hw2:=w64 (n:=(m1:Int)) (by omega) (by omega)
   have hs1:(s1:Int)<(i:Int):=by omega
   have hs1':¬ (i:Int)≤(s1:Int):=by omega
   have hm1':¬ (men:Int)≤(m1:Int):=by omega
   have hsn:¬ (s1:Int)<0:=by omega
   have hmn:¬ (m1:Int)<0:=by omega
   have hmlt:(m1:Int)<(men:Int):=by omega
   have cat:=Wcc (Wc (s1,m1,n1)) (by have:=(Xag hEok _ heE).2;omega)
   have hat:Vaq (Wc (s1,m1,n1))=.tup [.int .i64 n1,.nili]:=(Ubl hval.1 hval.2).2.2
   rw [hat] at cat
   obtain ⟨W0,hW0⟩:∃ W0,Wc (s1,m1,n1)=W0:=⟨_,rfl⟩
   obtain ⟨N0,hN0⟩:∃ N0,Wh (s1,m1,n1)=N0:=⟨_,rfl⟩
   rw [hW0] at cat hFg
   rw [hN0] at hFg hdiv hmod
   obtain ⟨tq,htq⟩:∃ tq,Uu (E.take k) (fun _ _=>-1)=tq:=⟨_,rfl⟩
   have hsuc:Uu (E.take (k+1)) (fun _ _=>-1)=Zg tq s1 m1 n1:=by
    rw [Qzt hlt2,he,← htq]
    unfold Uu
    rw [List.foldl_append]
    rfl
   rw [htq]
   obtain ⟨T1,hT1⟩:∃ T1,T++(.cells (Yi L men i)::(Zl tq men i++G))=T1:=⟨_,rfl⟩
   have hT16:∀ X:Za,(T1++X)[σ.length+1]? = some (.cells [.int .i64 men,.pl 2 (r.ntcs.map Xc)]):=fun X=>by rw [← hT1,List.append_assoc];exact hT6 _
   have hT1q:∀ X:Za,(T1++X)[T.length]? = some (.cells (Yi L men i)):=fun X=>by rw [← hT1];simp
   have hT1x:∀ (x:AObj) (X:Za),(T1++x::X)[T1.length]? = some x:=fun x X=>by simp
   have hrl:=Wag L men i
   have hrg:=Xbd L men (s:=i) (k:=s1) hmem.1
   have hs1l:s1<(Yi L men i).length:=by omega
   have hrg':(Yi L men i)[s1]'hs1l=.arr 1 (L+2+2*s1+1) 0 men:=Option.some.inj ((Qze hs1l).symm.trans hrg)
   have hrow:∀ X:Za,(T1++X)[L+2+2*s1+1]? = some (.cells (Ya (Zf tq men s1))):=fun X=>by
    rw [← hT1,List.append_assoc,Qzr (by omega),show L+2+2*s1+1 - T.length=(2*s1+1)+1 by omega]
    simp only [List.cons_append,List.getElem?_cons_succ,List.append_assoc]
    rw [Qzl (by rw [Yx];omega)]
    exact Wb2 tq men hmem.1
   have hrows:∀ (X:Za) (y:AObj),(T1++X).set (L+2+2*s1+1) y=T++(.cells (Yi L men i)::((Zl tq men i).set (2*s1+1) y++(G++X))):=fun X y=>by
    rw [← hT1,List.append_assoc,List.set_append_right _ _ (by omega),show L+2+2*s1+1 - T.length=(2*s1+1)+1 by omega]
    simp only [List.cons_append,List.set_cons_succ,List.append_assoc]
    rw [List.set_append_left _ _ (by rw [Yx];omega)]
   have hil:(Ya (Zf tq men s1)).length=men:=by simp [Ya,Uy]
   have hm1l:m1+1≤men:=hmem.2.1
   rw [hT1]
   simp [-Xa,hl,g6,g7,g11,g17,g24,g168,g169,g170,hlt2,hlt2',hFk,hFg]
   refine Zj mixed (by kernel_rfl) ?_
   have hs1n:¬ i≤s1:=by omega
   have hm1n:¬ men≤m1:=by omega
   have hs1N:s1<i:=hmem.1
   have hs1S:s1+1≤i:=hmem.1
   have hm1N:m1<men:=hmem.2.1
   simp [-Xa,hl,g6,g7,g11,g17,g24,g168,g169,g170,hT1x,hT16,hT1q,hrl,hrg',hdiv,hmod,hw1,hw2,hs1n,hm1n,hs1',hm1',hsn,hmn,hmlt,hs1]
   refine Us [14] [(12,1)] mixed (by kernel_rfl) (by kernel_rfl) ?_
   simp [-Xa,hl,g6,g7,g11,g17,g24,g168,g169,g170,hT1x,hT16,hT1q,hrl,hrg',hrow,hil,hm1l,hs1N,hm1N,hs1S]
   refine Ut cat ?_
   simp [-Xa,hl,g6,g7,g11,g17,g24,g168,g169,g170,hT1x,hT16,hT1q,hrl,hrg',hrow,hil,hm1l,hs1N,hm1N,hs1S,hrows,hx2]
   have hin:List.take m1 (Ya (Zf tq men s1))++AV.int .i64 n1::List.drop (m1+1) (Ya (Zf tq men s1))=Ya (Zf (Zg tq s1 m1 n1) men s1):=by
    rw [← Ycp tq n1 hmem.2.1]
    unfold Ya
    rw [List.map_set,List.set_eq_take_append_cons_drop,if_pos (by simp [Uy];omega)]
   rw [hin,Uea tq n1 hmem.2.1 hmem.1]
   exact ⟨⟨_,k+1,G++[.cells [.int .i64 1,.int .i64 N0,.pl 1 [.str W0]]],rfl,by simp [hl],by simp [hl,g6],by simp [hl,g7],by simp [hl,g11],by simp [hl,g17],by simp [hl,g24],by simp [hl,g168],by simp [hl,g169],by simp [hl],hlt2,by rw [hsuc]⟩,by omega⟩
  ·obtain rfl:k=E.length:=by omega
   simp [-Xa,hl,g6,g7,g11,g17,g24,g168,g169,g170]
   exact ⟨_,G,rfl,by simp [hl],by simp [hl,g6],by simp [hl,g7],by simp [hl,g11],by simp [hl,g17],by simp [hl,g24],rfl⟩
theorem Xhb (l1:List UInt8) (h1:l1.length≤9223372036854775807) (m:Nat) (hm:m<256):APure Tryz.prog 7 [.pl 1 (Wn l1),.int .u8 m] (.bool true):=by
 have:=Wdr l1 h1 (UInt8.ofNat m)
 have e:(UInt8.ofNat m).toNat=m:=by simp [UInt8.toNat_ofNat];omega
 rw [e] at this
 exact this
end Ab

/-
  Texts packed for a claim.
-/
import Derived.Test.YtcoikmapjepdjaaGreatDoorO00
import Derived.Test.YtcoikmapjepdjaaGreatDoorO28
set_option linter.all false
namespace Ab
open Go Go.RowKit
section
variable [Mode] {P:Program} {rd:Option Nat} {a b c:Code} {Q:Exit→Env→Za→Prop} {env:Env} {σ:Za} {n:Nat}
theorem Vdj {f:FuncId} {fn:Func} {c:Code} {args:List AV} {σ:Za} {R:AV→Za→Prop} (n:Nat) (I:Env→Za→Prop) (hf:P.funcs[f]? = some fn) (hb:fn.body=some c) (hen:Enters P f)
  (h1:awp P none (Vd n c).1 (Xb I (Xi P fn R)) { t:=te args fn.ntmps } σ) (h2:∀ (env:Env) (σ:Za),I env σ→ACode P none (Vd n c).2 (Xi P fn R) env σ):ACalls P f args σ R :=
 Zcg hf hb hen (Was I h2 h1)
theorem Yhj {fn:Func} {R:AV→Za→Prop} {env:Env} {σ:Za}:Xi P fn R .ret env σ=Ws P fn R env env.m σ:=(rfl)
end
end Ab
namespace Ab
open Go Go.RowKit Go.Proofs
attribute [local irreducible] aws awp aw1 Og Om Oc Oa Ogd Ov Ot awd Zb awh Wb Ogh Ohd awl Ogl Ohl awv Ogv Ohv Xb Vb QFn Ub Xi QRo QBe ACode AYield Ws
def Ze7 (b:Bk) (σ:Za) (d:Nat) (env:Env) (σ':Za):Prop:=∃ (u:List AV) (g:Za) (v:AV) (m:List Nat),env={ t:=u,m:=m }∧u.length=81∧tg u 3=v∧σ'=(σ++[.cells [.ptr d 0]])++g ∧
 Vw (Ux (σ.length+1) (σ++[.cells [.ptr d 0]]++g)) (σ++[.cells [.ptr d 0]]++g) v (.pl 26 ((Zj b b.reads.length).map Wj))∧m.Nodup∧(∀ r∈m,(σ++[.cells [.ptr d 0]]++g)[r]? = some .deferred)∧∀ r∈m,σ.length≤r
def RdM (b:Bk) (S:Za) (q:Nat) (env:Env) (σ':Za):Prop:=∃ (u:List AV) (h:Nat) (g:Za) (v:AV) (m:List Nat),env={ t:=u,m:=m }∧u.length=81∧tg u 1=.ptr q 0∧tg u 3=v∧tg u 21=.int .i64 b.reads.length∧tg u 22=.int .i64 h∧σ'=S++g∧h≤b.reads.length ∧
 Vw (Ux S.length (S++g)) (S++g) v (.pl 26 ((Zj b h).map Wj))∧m.Nodup∧(∀ r∈m,(S++g)[r]? = some .deferred)∧∀ r∈m,q≤r
def RdA (b:Bk) (W:Za) (q:Nat) (m:List Nat) (env:Env) (σ':Za):Prop:=∃ (u:List AV) (k:Nat) (v:AV) (g:Za) (L:List AV) (o:Option Nat),env={ t:=u,m:=m }∧u.length=81∧tg u 1=.ptr q 0∧tg u 3=.pl 26 []∧tg u 6=.ptr (W.length+3) 0∧tg u 8=.ptr (W.length+5) 0∧tg u 21=.int .i64 b.reads.length∧tg u 22=.int .i64 0∧tg u 34=.int .i64 k ∧
 σ'=W++(Zf b W.length q 0 v ((List.range k).foldl (Xg b 0 zeroAt) [])++g)∧AccN (W.length+6) v ((List.range k).foldl (Xg b 0 zeroAt) []) g L o∧k≤8
def RdB (b:Bk) (W:Za) (q h:Nat) (N:List At) (env:Env) (σ':Za):Prop:=∃ (u:List AV) (i:Nat) (v:AV) (g:Za) (L:List AV) (o:Option Nat) (m:List Nat) (K:List (Nat × AObj)),env={ t:=u,m:=m }∧u.length=81∧tg u 1=.ptr q 0∧tg u 6=.ptr (W.length+3) 0∧tg u 8=.ptr (W.length+5) 0∧tg u 21=.int .i64 b.reads.length∧tg u 22=.int .i64 h ∧
 tg u 42=.pl 26 (N.map Wj)∧tg u 43=.int .i64 N.length∧tg u 44=.int .i64 i∧i≤N.length∧σ'=W++(Zf b W.length q h v (Wm b h (N.take i) (Yl b h))++g)∧AccN (W.length+6) v (Wm b h (N.take i) (Yl b h)) g L o∧Keeps g o K∧m.Nodup∧(∀ r∈m,W[r]? = some .deferred∨∃ j,r=W.length+(6+j)∧(j,AObj.deferred)∈K)∧∀ r∈m,q≤r
def RdC (W:Za) (m:List Nat) (N:List At) (env:Env) (σ':Za):Prop:=∃ (u:List AV) (i:Nat) (v:AV) (g:Za) (o:Option Nat),env={ t:=u,m:=m }∧u.length=81∧tg u 13=v∧tg u 60=.pl 26 (N.map Wj)∧tg u 61=.int .i64 N.length∧tg u 62=.int .i64 i∧i≤N.length∧σ'=W++g∧Acc W g 25 v ((Yp (N.take i)).map Wh) o
theorem Xci (W:Za) (b:Bk) (q h:Nat) (v:AV) (next:List At) (g:Za):(W++(Zf b W.length q h v next++g))[W.length+3]? = some (.cells [v]):=by
 rw [Qzr (by omega),Nat.add_sub_cancel_left];rfl
theorem Ybo (W:Za) (b:Bk) (q h:Nat) (v:AV) (next:List At) (g:Za):(W++(Zf b W.length q h v next++g))[W.length+5]? = some (.cells [.fn (.func 272) [] [.ptr (W.length+4) 0,.ptr W.length 0,.ptr q 0,.ptr (W.length+2) 0,.ptr (W.length+3) 0]]):=by
 rw [Qzr (by omega),Nat.add_sub_cancel_left];rfl
set_option maxHeartbeats 4000000 in
theorem Ygp (b:Bk) (ok:b.Ok) (d:Nat) (σ:Za) (hd:σ[d]? = some (.cells (Zd b).cells)):ACalls Tryz.prog 210 [.ptr d 0] σ fun v s=>v=.pl 25 ((Xd b).map Wh)∧s=σ:=by
 refine ACalls.forget ?_
 have hdl:d<σ.length:=(Qzs.1 hd).1
 obtain ⟨S,hS⟩:∃ S,σ++[AObj.cells [.ptr d 0]]=S:=⟨_,rfl⟩
 have hSl:S.length=σ.length+1:=by rw [← hS];simp
 have hSd:S[d]? = some (.cells (Zd b).cells):=by rw [← hS,Qzl hdl];exact hd
 have hSq:S[σ.length]? = some (.cells [.ptr d 0]):=by rw [← hS];simp
 have hrl:=ok.reads
 have hd':∀ g:Za,(σ++g)[d]? = some (.cells (Zd b).cells):=fun g=>by rw [Qzl hdl];exact hd
 simp [Zd] at hd'
 refine Vdj 3 (Ze7 b σ d) Tryz.func210 rfl (Ua Tryz.func210 (by decide) rfl) ?_ ?_
 ·simp [-Xa,Tryz.ntmps210,hd']
  refine Wc2 (RdM b S σ.length)
   (fun env _=>match tg env.t 22 with | .int _ i=>b.reads.length - i.toNat | _=>0) ⟨_,0,[],.nils,[],rfl,by simp,by simp,by simp,by simp,by simp,by simp [hS],by omega,.inr (.nils_pl 26),by simp,by simp,by simp⟩ ?_
  rintro env _ ⟨u,h,g,v,m,rfl,hl,g1,g3,g21,g22,rfl,hh,hv,hm,hmd,hmq⟩
  rcases Qzn h b.reads.length with hlt | hge
  ·refine .inr ⟨Ux S.length (S++g),S++g.map AObj.sleep,Uc u [(1,.ptr σ.length 0),(3,.pl 26 ((Zj b h).map Wj)),(21,.int .i64 b.reads.length),(22,.int .i64 h)],View.sleep S g,Yt _ _,Xaj (by
    simp only [List.mem_cons,List.not_mem_nil,or_false]
    rintro p (rfl | rfl | rfl | rfl)<;>dsimp only<;>first | (rw [g1];exact .inl rfl) | (rw [g3];exact hv) | (rw [g21];exact .inl rfl) | (rw [g22];exact .inl rfl)),?_⟩
   have hl2:=(Yt u [(1,.ptr σ.length 0),(3,.pl 26 ((Zj b h).map Wj)),(21,.int .i64 b.reads.length),(22,.int .i64 h)]).trans hl
   have k1:tg (Uc u [(1,.ptr σ.length 0),(3,.pl 26 ((Zj b h).map Wj)),(21,.int .i64 b.reads.length),(22,.int .i64 h)]) 1=.ptr σ.length 0:=by simp [Uc,hl]
   have k3:tg (Uc u [(1,.ptr σ.length 0),(3,.pl 26 ((Zj b h).map Wj)),(21,.int .i64 b.reads.length),(22,.int .i64 h)]) 3=.pl 26 ((Zj b h).map Wj):=by simp [Uc,hl]
   have k21:tg (Uc u [(1,.ptr σ.length 0),(3,.pl 26 ((Zj b h).map Wj)),(21,.int .i64 b.reads.length),(22,.int .i64 h)]) 21=.int .i64 b.reads.length:=by simp [Uc,hl]
   have k22:tg (Uc u [(1,.ptr σ.length 0),(3,.pl 26 ((Zj b h).map Wj)),(21,.int .i64 b.reads.length),(22,.int .i64 h)]) 22=.int .i64 h:=by simp [Uc,hl]
   have e0:(match tg u 22 with | .int _ i=>b.reads.length - i.toNat | _=>0)=b.reads.length - h:=by rw [g22];simp
   obtain ⟨u',hu'⟩:∃ x,Uc u [(1,.ptr σ.length 0),(3,.pl 26 ((Zj b h).map Wj)),(21,.int .i64 b.reads.length),(22,.int .i64 h)]=x:=⟨_,rfl⟩
   rw [hu'] at hl2 k1 k3 k21 k22 ⊢
   dsimp only
   rw [e0]
   have hWl:S.length≤(S++g.map AObj.sleep).length:=by simp
   have hWq:(S++g.map AObj.sleep)[σ.length]? = some (.cells [.ptr d 0]):=by rw [Qzl (by omega)];exact hSq
   have hWd:(S++g.map AObj.sleep)[d]? = some (.cells (Zd b).cells):=by rw [Qzl (by omega)];exact hSd
   have hWm:∀ r∈m,(S++g.map AObj.sleep)[r]? = some .deferred:=fun r hr=>by
    have:=hmd r hr
    rcases Qzn r S.length with h1 | h1
    ·rw [Qzl h1] at this ⊢;exact this
    ·rw [Qzr h1] at this ⊢;rw [Qzp,this];rfl
   have hWS:∃ g',S++g.map AObj.sleep=S++g':=⟨_,rfl⟩
   obtain ⟨W,hW⟩:∃ W,S++g.map AObj.sleep=W:=⟨_,rfl⟩
   rw [hW] at hWl hWq hWd hWm hWS ⊢
   clear hW hmd hv g1 g3 g21 g22 hl hu' e0
   obtain ⟨N,hN⟩:∃ N,Zj b h=N:=⟨_,rfl⟩
   have hNok:=Ubj b h
   have hNl:=Yb0 b h
   rw [hN] at k3 hNok hNl
   have hNl2:N.length≤2^24:=Nat.le_trans hNl (Nat.le_trans (Nat.pow_le_pow_right (by omega) (show h≤8 by omega)) (by decide))
   have hwin:(b.reads[h]? ).isSome=true:=by simp [hlt]
   have hx:=w64 (n:=(h:Int)+1) (by omega) (by omega)
   have fin:∀ (v:AV) (g:Za) (L:List AV) (o:Option Nat) (m:List Nat),AccN (W.length+6) v (Wm b h N (Yl b h)) g L o→m.Nodup→(∀ r∈m,(W++(Zf b W.length σ.length h v (Wm b h N (Yl b h))++g))[r]? = some .deferred) →
     ∃ gn,W++(Zf b W.length σ.length h v (Wm b h N (Yl b h))++g)=S++gn∧Vw (Ux S.length (S++gn)) (S++gn) v (.pl 26 ((Zj b (h+1)).map Wj)):=fun v g L o m hA hm hmd=>by
    obtain ⟨g',hg'⟩:=hWS
    have hvw:=hA.vw (b:=b) (q:=σ.length) (h:=h) (fun a ha=>(Yb1 N (Yl b h) hNok (Vby b h) a ha).got) hWl
    have e:S++(g'++(Zf b W.length σ.length h v (Wm b h N (Yl b h))++g))=W++(Zf b W.length σ.length h v (Wm b h N (Yl b h))++g):=by rw [← List.append_assoc,← hg']
    have e2:Zj b (h+1)=Wm b h N (Yl b h):=by rw [← hN];rfl
    refine ⟨g'++(Zf b W.length σ.length h v (Wm b h N (Yl b h))++g),e.symm,?_⟩
    rw [e,e2]
    exact hvw
   have hW':∀ (x:Nat) (X:AObj) (g:Za),W[x]? = some X→(W++g)[x]? = some X:=fun x X g hx=>by rw [Qzl (Qzs.1 hx).1];exact hx
   have hWq':=fun g=>hW' _ _ g hWq
   have hWd':=fun g=>hW' _ _ g hWd
   simp [Zd] at hWd'
   have hhl:(h:Int)<(b.reads.length:Int):=by omega
   rcases Nat.eq_zero_or_pos h with rfl | hpos
   ·have hN0:N=[]:=hN.symm
    subst hN0
    simp only [List.map_nil] at k3
    simp [-Xa,hl2,k1,k3,k21,k22,hlt,hWq',hWd']
    refine Xc (RdA b W σ.length m) (fun env _=>match tg env.t 34 with | .int _ i=>8 - i.toNat | _=>0) ⟨_,0,.nils,[],[],none,rfl,by simp [hl2],by simp [hl2,k1],by simp [hl2,k3],by simp [hl2],by simp [hl2],by simp [hl2,k21],by simp [hl2,k22],by simp [hl2],by simp [Zf,Xaf,Zd],AccN.nil _ _,by omega⟩ ?_
    rintro env _ ⟨u,k,v,g,L,o,rfl,hl,g1,g3,g6,g8,g21,g22,g34,rfl,hA,hk⟩
    obtain ⟨next,hnx⟩:∃ next,(List.range k).foldl (Xg b 0 zeroAt) []=next:=⟨_,rfl⟩
    have hnok:∀ a∈next,a.Ok 1:=by rw [← hnx];exact Ubb ⟨by simp [zeroAt],by simp [zeroAt]⟩ _ _ (fun w hw=>by simp at hw;omega) (by simp)
    have hnl:next.length≤8:=by rw [← hnx];have:=Za7 b 0 zeroAt (List.range k) [];simp at this;omega
    have hsucc:(List.range (k+1)).foldl (Xg b 0 zeroAt) []=Xg b 0 zeroAt next k:=by rw [List.range_succ,List.foldl_append,hnx];rfl
    rw [hnx] at hA ⊢
    have t3:=Xci W b σ.length 0 v next g
    have t5:=Ybo W b σ.length 0 v next g
    rcases Qzn k 8 with hk8 | hk8
    ·have hk8':(k:Int)<8:=by omega
     have hx:=w64 (n:=(k:Int)+1) (by omega) (by omega)
     have hstep:=Vca b ok 0 hlt zeroAt (by simp [zeroAt]) .nils (.inl ⟨rfl,rfl⟩) (by simp [zeroAt]) k hk8 W σ.length d hWq hWd next (fun a ha=>(hnok a ha).got) (by omega) v g L o hA [] (by simp [Keeps])
     obtain ⟨T,hT⟩:∃ T,W++(Zf b W.length σ.length 0 v next++g)=T:=⟨_,rfl⟩
     rw [hT] at t3 t5 hstep ⊢
     simp [-Xa,hl,g1,g3,g6,g8,g21,g22,g34,hk8',t5]
     refine StA.of (hstep.mono ?_)
     rintro _ _ ⟨v',g',L',o',hA',hK',rfl⟩
     simp [-Xa,hl,g1,g3,g6,g8,g21,g22,g34,hx]
     exact ⟨⟨_,k+1,v',g',L',o',rfl,by simp [hl],by simp [hl,g1],by simp [hl,g3],by simp [hl,g6],by simp [hl,g8],by simp [hl,g21],by simp [hl,g22],by simp [hl],by rw [hsucc],by rw [hsucc];exact hA',hk8⟩,by omega⟩
    ·obtain rfl:k=8:=by omega
     have hfin:=fin v g L o m
     have hr0:Wm b 0 [] (Yl b 0)=next:=by rw [← hnx];rfl
     rw [hr0] at hfin
     obtain ⟨T,hT⟩:∃ T,W++(Zf b W.length σ.length 0 v next++g)=T:=⟨_,rfl⟩
     have hTm:∀ r∈m,T[r]? = some .deferred:=fun r hr=>by rw [← hT];exact hW' _ _ _ (hWm r hr)
     rw [hT] at t3 t5 hfin ⊢
     simp [-Xa,hl,g1,g3,g6,g8,g21,g22,g34,t5]
     refine Xc (fun env σ'=>∃ u,env={ t:=u,m:=m }∧u.length=81∧tg u 1=.ptr σ.length 0∧tg u 6=.ptr (W.length+3) 0∧tg u 21=.int .i64 b.reads.length∧tg u 22=.int .i64 0∧tg u 43=.int .i64 0∧tg u 44=.int .i64 0∧σ'=T) (fun _ _=>0) ⟨_,rfl,by simp [hl],by simp [hl,g1],by simp [hl,g6],by simp [hl,g21],by simp [hl,g22],by simp [hl],by simp [hl],rfl⟩ ?_
     clear hl g1 g3 g6 g8 g21 g22 g34
     rintro env _ ⟨u,rfl,hl,g1,g6,g21,g22,g43,g44,rfl⟩
     obtain ⟨gn,hgn,hvw⟩:=hfin hA hm hTm
     have hx:IntKind.i64.wrap 1=1:=by decide
     simp [-Xa,hl,g1,g6,g21,g22,g43,g44,t3,hx]
     exact ⟨⟨_,1,gn,v,m,rfl,by simp [hl],by simp [hl,g1],by simp [hl],by simp [hl,g21],by simp [hl],hgn,by omega,hvw,hm,fun r hr=>by rw [← hgn];exact hTm r hr,hmq⟩,by omega⟩
   ·have hne:¬ h=0:=by omega
    have hf0:Yl b h=[]:=by unfold Yl;rw [if_neg hne]
    simp [-Xa,hl2,k1,k3,k21,k22,hhl,hne,hWq',hWd']
    refine Xc (RdB b W σ.length h N) (fun env _=>match tg env.t 44 with | .int _ i=>N.length - i.toNat | _=>0) ⟨_,0,.nils,[],[],none,m,[],rfl,by simp [hl2],by simp [hl2,k1],by simp [hl2],by simp [hl2],by simp [hl2,k21],by simp [hl2,k22],by simp [hl2],by simp [hl2],by simp [hl2],by omega,by simp [Zf,Xaf,Zd,hf0,Wm],by rw [hf0];exact AccN.nil _ _,by simp [Keeps],hm,fun r hr=>.inl (hWm r hr),hmq⟩ ?_
    clear hm hWm hmq m hl2 k1 k3 k21 k22 u' hWq' hWd'
    rintro env _ ⟨u,i,v,g,L,o,m,K,rfl,hl,g1,g6,g8,g21,g22,g42,g43,g44,hi,rfl,hA,hK,hm,hmd,hmq⟩
    obtain ⟨next,hnx⟩:∃ next,Wm b h (N.take i) (Yl b h)=next:=⟨_,rfl⟩
    have hnok:∀ a∈next,a.Ok (h+1):=by rw [← hnx];exact Yb1 _ _ (fun x hx=>hNok x (List.mem_of_mem_take hx)) (Vby b h)
    have hnl:next.length≤8*i:=by
     rw [← hnx]
     have:=Ucp b h (N.take i) (Yl b h)
     rw [hf0] at this ⊢
     simp at this
     omega
    rw [hnx] at hA ⊢
    have t3:=Xci W b σ.length h v next g
    have t5:=Ybo W b σ.length h v next g
    have tat:=Zal W b W.length σ.length h v next g
    rcases Qzn i N.length with hlt2 | hge2
    ·have hlt2':(i:Int)<(N.length:Int):=by omega
     have hx2:=w64 (n:=(i:Int)+1) (by omega) (by omega)
     obtain ⟨x,hxe⟩:∃ x,N[i]=x:=⟨_,rfl⟩
     have hxo:x.Ok h:=hxe▸hNok _ (List.getElem_mem hlt2)
     have hNi:(N.map Wj)[i]? = some (Wj x):=by rw [Qzp,Qze hlt2,hxe];rfl
     have hsucc:Wm b h (N.take (i+1)) (Yl b h)=(Yu x.wind).foldl (Xg b h x) next:=by
      rw [← hnx,Qzt hlt2,hxe]
      unfold Wm
      rw [List.foldl_append]
      rfl
     obtain ⟨T,hT⟩:∃ T,W++(Zf b W.length σ.length h v next++g)=T:=⟨_,rfl⟩
     have hTl:T.length=W.length+(6+g.length):=by rw [← hT];simp [Zf];omega
     obtain ⟨X,hXa,hXl,hXt,hX1,hX0⟩:∃ X,Wj x=.agg X∧X.length=26∧List.take 26 X=X∧(∀ y∈X,y.one=true)∧X[0]? = some (.int .i64 x.wind):=⟨_,rfl,by simp [hxo.got],List.take_of_length_le (by simp [hxo.got]),fun y hy=>by
      rcases List.mem_append.1 hy with hy | hy
      ·rcases List.mem_cons.1 hy with rfl | hy
       ·rfl
       ·obtain ⟨z,_,rfl⟩:=List.mem_map.1 hy;rfl
      ·rw [List.mem_singleton.1 hy];rfl,rfl⟩
     rw [hT] at t3 t5 tat ⊢
     simp [-Xa,hl,g1,g6,g8,g21,g22,g42,g43,g44,hlt2',hlt2,hxe,hXa,hXl,hXt]
     have hX0':X[0]'(by omega)=.int .i64 x.wind:=Option.some.inj ((Qze (by omega)).symm.trans hX0)
     rw [if_pos (by exact hX1),Xk]
     simp [-Xa,hl,g1,g6,g8,g21,g22,g42,g43,g44,hlt2',hlt2,hxe,hXa,hXl,hXt,hX0']
     refine StA.of ((Uey x.wind _).mono ?_)
     rintro _ _ ⟨rfl,rfl⟩
     refine Ybz (gf:=326) (first:=[]) (caps:=[.ptr (T.length+1) 0]) (T.length+2) (T.length+3) (by simp) rfl (by simp [hl]) fun fn D oL σ2 ho hrd hσ2=>?_
     subst hσ2
     have hoL:∀ cs,oL≠.cells cs:=fun cs e=>by rw [ho] at e;cases e
     refine AEnter.mono (Xhb x.wind hxo.wind _ _ (fun k s=>∃ (v':AV) (g':Za) (L':List AV) (o':Option Nat),s=W++(Zf b W.length σ.length h v' ((Yq x.wind k).foldl (Xg b h x) next)++g')∧AccN (W.length+6) v' ((Yq x.wind k).foldl (Xg b h x) next) g' L' o' ∧
      Keeps g' o' ((g.length+3,oL)::(g.length,.cells X)::(g.length+1,.cells [.int .i64 x.wind])::(g.length+2,.deferred)::K)) ?_ ?_ ?_ _ ?_) ?_
     ·rintro k s ⟨v',g',L',o',rfl,hA',hK'⟩
      have e:T.length+1=W.length+(6+(g.length+1)):=by omega
      rw [e,Zal]
      exact (hK' (g.length+1,.cells [.int .i64 x.wind]) (by simp)).2
     ·rintro k s ⟨v',g',L',o',rfl,hA',hK'⟩ hk hb
      have er:T.length+3=W.length+(6+(g.length+3)):=by omega
      have ec:T.length=W.length+(6+g.length):=by omega
      have hgr:=(hK' (g.length+3,oL) (by simp)).2
      refine AYield.round2 ho (by rw [er,Zal];exact hgr) (by simp) fun oB hoB=>?_
      have hsK:Yq x.wind (k+1)=Yq x.wind k++[k]:=by rw [Ucd,hb];rfl
      have hsN:(Yq x.wind (k+1)).foldl (Xg b h x) next=Xg b h x ((Yq x.wind k).foldl (Xg b h x) next) k:=by rw [hsK,List.foldl_append];rfl
      obtain ⟨nk,hnk⟩:∃ nk,(Yq x.wind k).foldl (Xg b h x) next=nk:=⟨_,rfl⟩
      have hnko:∀ a∈nk,a.Ok (h+1):=by
       rw [← hnk]
       exact Ubb ⟨hxo.got,hxo.course⟩ _ _ (fun w hw=>by unfold Yq at hw;simp at hw;omega) hnok
      have hnkl:nk.length≤2^30:=by
       rw [← hnk]
       have h1:=Za7 b h x (Yq x.wind k) next
       have h2:(Yq x.wind k).length≤k:=by
        unfold Yq
        have:=List.length_filter_le (fun v:Nat=>Uq v x.wind) (List.range k)
        simpa using this
       omega
      rw [hnk] at hA' ⊢
      have hA2:=hA'.loose oB hgr hoL
      have hK2:=hK'.turn oB (by
       simp only [List.mem_cons]
       rintro p (rfl | rfl | rfl | hp)
       ·simp
       ·simp
       ·simp
       ·have:=(Qzs.1 (hK p hp).2).1
        omega)
      have hstep:=Vca b ok h hlt x hxo.got (.pl 1 (Zh x.course)) (.inr ⟨rfl,hxo.ne⟩) (by have:=hxo.course;omega) k hk W σ.length d hWq hWd nk (fun a ha=>(hnko a ha).got) hnkl v' (g'.set (g.length+3) oB) L' o' hA2 _ hK2
      have hstep':ACalls Tryz.prog 272 [Wj x,.int .i64 k,.ptr (W.length+4) 0,.ptr W.length 0,.ptr σ.length 0,.ptr (W.length+2) 0,.ptr (W.length+3) 0] _ _:=hstep
      rw [hXa] at hstep'
      have t5':=Ybo W b σ.length h v' nk (g'.set (g.length+3) oB)
      have tx:(W++(Zf b W.length σ.length h v' nk++g'.set (g.length+3) oB))[T.length]? = some (.cells X):=by
       rw [ec,Zal];exact (hK2 (g.length,.cells X) (by simp)).2
      have tr:(W++(Zf b W.length σ.length h v' nk++g'))[T.length+3]? = some oL:=by rw [er,Zal];exact hgr
      have ts':(W++(Zf b W.length σ.length h v' nk++g')).set (T.length+3) oB=W++(Zf b W.length σ.length h v' nk++g'.set (g.length+3) oB):=by rw [er,Zbx]
      obtain ⟨T1,hT1⟩:∃ T1,W++(Zf b W.length σ.length h v' nk++g')=T1:=⟨_,rfl⟩
      obtain ⟨T2,hT2⟩:∃ T2,W++(Zf b W.length σ.length h v' nk++g'.set (g.length+3) oB)=T2:=⟨_,rfl⟩
      rw [hT1] at tr ts' ⊢
      rw [hT2] at t5' tx ts' hstep'
      obtain ⟨r,hr⟩:∃ r,T.length+3=r:=⟨_,rfl⟩
      rw [hr] at tr ts' er ⊢
      obtain ⟨xc,hxc⟩:∃ xc,T.length=xc:=⟨_,rfl⟩
      rw [hxc] at tx ⊢
      clear ho
      simp [-Xa,hl,g1,g6,g8,g21,g22,g42,g43,g44,tr,ts',t5',tx,hXl,hXt]
      refine StA.of (hstep'.mono ?_)
      rintro _ _ ⟨v'',g'',L'',o'',hA3,hK3,rfl⟩
      have hgr3:=(hK3 (g.length+3,oB) (by simp)).2
      have tr3:(W++(Zf b W.length σ.length h v'' (Xg b h x nk k)++g''))[r]? = some oB:=by rw [er,Zal];exact hgr3
      have ts3:(W++(Zf b W.length σ.length h v'' (Xg b h x nk k)++g'')).set r oL=W++(Zf b W.length σ.length h v'' (Xg b h x nk k)++g''.set (g.length+3) oL):=by rw [er,Zbx]
      have hA4:=hA3.loose oL hgr3 hoB
      have hK4:=hK3.turn oL (by
       simp only [List.mem_cons]
       rintro p (rfl | rfl | rfl | hp)
       ·simp
       ·simp
       ·simp
       ·have:=(Qzs.1 (hK p hp).2).1
        omega)
      obtain ⟨T3,hT3⟩:∃ T3,W++(Zf b W.length σ.length h v'' (Xg b h x nk k)++g'')=T3:=⟨_,rfl⟩
      rw [hT3] at tr3 ts3 ⊢
      rw [hsN,hnk]
      simp [-Xa,tr3,ts3]
      exact ⟨v'',_,rfl,L'',o'',hA4,hK4⟩
     ·rintro k s ⟨v',g',L',o',rfl,hA',hK'⟩ hk hb
      have e:Yq x.wind (k+1)=Yq x.wind k:=by rw [Ucd,hb];rfl
      rw [e]
      exact ⟨v',g',L',o',rfl,hA',hK'⟩
     ·refine ⟨v,g++[.cells X,.cells [.int .i64 x.wind],.deferred,oL],L,o,by rw [← hT];simp [Yq],hA.more _,?_⟩
      exact hK.new hA.o_lt [.cells X,.cells [.int .i64 x.wind],.deferred,oL] [(g.length+3,oL),(g.length,.cells X),(g.length+1,.cells [.int .i64 x.wind]),(g.length+2,.deferred)] (by
       simp only [List.mem_cons,List.not_mem_nil,or_false]
       rintro p (rfl | rfl | rfl | rfl)
       ·exact ⟨3,rfl,rfl⟩
       ·exact ⟨0,rfl,rfl⟩
       ·exact ⟨1,rfl,rfl⟩
       ·exact ⟨2,rfl,rfl⟩)
     ·rintro _ s ⟨v',g',L',o',rfl,hA',hK'⟩
      have er:T.length+3=W.length+(6+(g.length+3)):=by omega
      have hgr:=(hK' (g.length+3,oL) (by simp)).2
      have e8:Yq x.wind 8=Yu x.wind:=rfl
      rw [e8,← hsucc] at hA' ⊢
      have hK2:=hK'.turn .dead (by
       simp only [List.mem_cons]
       rintro p (rfl | rfl | rfl | hp)
       ·simp
       ·simp
       ·simp
       ·have:=(Qzs.1 (hK p hp).2).1
        omega)
      have hA2:=hA'.loose .dead hgr hoL
      refine ⟨by rw [er,Zal,hgr];rw [hrd];trivial,?_⟩
      rw [er,Zbx]
      clear ho
      obtain ⟨T2,hT2⟩:∃ T2,W++(Zf b W.length σ.length h v' (Wm b h (N.take (i+1)) (Yl b h))++g'.set (g.length+3) .dead)=T2:=⟨_,rfl⟩
      rw [hT2]
      simp [-Xa,hl,g1,g6,g8,g21,g22,g42,g43,g44,hx2]
      refine ⟨⟨_,i+1,v',g'.set (g.length+3) .dead,L',o',(T.length+2)::m,(g.length+2,.deferred)::K,rfl,by simp [hl],by simp [hl,g1],by simp [hl,g6],by simp [hl,g8],by simp [hl,g21],by simp [hl,g22],by simp [hl,g42],by simp [hl,g43],by simp [hl],hlt2,hT2.symm,hA2,hK2.sub (by simp +contextual),?_,?_,?_⟩,by omega⟩
      ·rw [List.nodup_cons]
       refine ⟨fun hm'=>?_,hm⟩
       rcases hmd _ hm' with h1 | ⟨j,h1,h2⟩
       ·have:=(Qzs.1 h1).1
        omega
       ·have:=(Qzs.1 (hK _ h2).2).1
        simp at this
        omega
      ·intro r hr
       rcases List.mem_cons.1 hr with rfl | hr
       ·exact .inr ⟨g.length+2,by omega,by simp⟩
       ·rcases hmd r hr with h1 | ⟨j,h1,h2⟩
        ·exact .inl h1
        ·exact .inr ⟨j,h1,by simp [h2]⟩
      ·intro r hr
       rcases List.mem_cons.1 hr with rfl | hr
       ·omega
       ·exact hmq r hr
    ·obtain rfl:i=N.length:=by omega
     rw [List.take_of_length_le hge2] at hnx
     have hfin:=fin v g L o m
     rw [hnx] at hfin
     have hTm:∀ r∈m,(W++(Zf b W.length σ.length h v next++g))[r]? = some .deferred:=fun r hr=>by
      rcases hmd r hr with h1 | ⟨j,rfl,h1⟩
      ·exact hW' _ _ _ h1
      ·rw [tat];exact (hK _ h1).2
     obtain ⟨T,hT⟩:∃ T,W++(Zf b W.length σ.length h v next++g)=T:=⟨_,rfl⟩
     rw [hT] at t3 t5 hfin hTm ⊢
     obtain ⟨gn,hgn,hvw⟩:=hfin hA hm hTm
     simp [-Xa,hl,g1,g6,g8,g21,g22,g42,g43,g44,t3,hx]
     exact ⟨⟨_,h+1,gn,v,m,rfl,by simp [hl],by simp [hl,g1],by simp [hl],by simp [hl,g21],by simp [hl],hgn,by omega,hvw,hm,fun r hr=>by rw [← hgn];exact hTm r hr,hmq⟩,by omega⟩
  ·obtain rfl:h=b.reads.length:=by omega
   refine .inl ?_
   simp [-Xa,hl,g1,g3,g21,g22]
   exact ⟨_,g,v,m,rfl,by simp [hl],by simp [hl,g3],by rw [hS],by rw [hS,← hSl];exact hv,hm,fun r hr=>by rw [hS];exact hmd r hr,hmq⟩
 ·rintro env _ ⟨u,g,v,m,rfl,hl,g3,rfl,hv,hm,hmd,hmq⟩
  rw [hS] at hv hmd ⊢
  rw [← hSl] at hv
  refine ACode.view (u':=Uc u [(3,.pl 26 ((Zj b b.reads.length).map Wj))]) (Ux S.length (S++g)) (View.sleep S g) (Yi _ ?_) (Yt _ _) (Xaj (by
   simp only [List.mem_cons,List.not_mem_nil,or_false]
   rintro p rfl
   rw [g3]
   exact hv))
  have hl2:=(Yt u [(3,.pl 26 ((Zj b b.reads.length).map Wj))]).trans hl
  have k3:tg (Uc u [(3,.pl 26 ((Zj b b.reads.length).map Wj))]) 3=.pl 26 ((Zj b b.reads.length).map Wj):=by simp [Uc,hl]
  obtain ⟨u',hu'⟩:∃ x,Uc u [(3,.pl 26 ((Zj b b.reads.length).map Wj))]=x:=⟨_,rfl⟩
  rw [hu'] at hl2 k3 ⊢
  have hWm:∀ r∈m,(S++g.map AObj.sleep)[r]? = some .deferred:=fun r hr=>by
   have:=hmd r hr
   rcases Qzn r S.length with h1 | h1
   ·rw [Qzl h1] at this ⊢;exact this
   ·rw [Qzr h1] at this ⊢;rw [Qzp,this];rfl
  have hWS:∃ g',S++g.map AObj.sleep=σ++g':=⟨[AObj.cells [.ptr d 0]]++g.map AObj.sleep,by rw [← hS,List.append_assoc]⟩
  obtain ⟨W,hW⟩:∃ W,S++g.map AObj.sleep=W:=⟨_,rfl⟩
  rw [hW] at hWm hWS ⊢
  clear hW hmd hv g3 hl hu'
  obtain ⟨N,hN⟩:∃ N,Zj b b.reads.length=N:=⟨_,rfl⟩
  have hNok:=Ubj b b.reads.length
  have hNl:=Yb0 b b.reads.length
  rw [hN] at k3 hNok hNl
  have hNl2:N.length≤2^24:=Nat.le_trans hNl (Nat.le_trans (Nat.pow_le_pow_right (by omega) (show b.reads.length≤8 by omega)) (by decide))
  have hend:Xd b=Yp N:=by unfold Xd;rw [hN]
  rw [hend]
  simp [-Xa,hl2,k3]
  refine Xc (RdC W m N) (fun env _=>match tg env.t 62 with | .int _ i=>N.length - i.toNat | _=>0) ⟨_,0,.nils,[],none,rfl,by simp [hl2],by simp [hl2],by simp [hl2],by simp [hl2],by simp [hl2],by omega,by simp,Acc.nil _ _ _⟩ ?_
  clear k3 hl2 u'
  rintro env _ ⟨u,i,v,g,o,rfl,hl,g13,g60,g61,g62,hi,rfl,hA⟩
  have hout:∀ e∈Yp (N.take i),e.1.length=24:=fun e he=>by
   obtain ⟨x,hx,rfl⟩:=Xbq e he
   exact (hNok x (List.mem_of_mem_take hx)).got
  have houl:=Wca (N.take i)
  have htl:(N.take i).length≤N.length:=by simp;omega
  rcases Qzn i N.length with hlt | hge
  ·have hlt':(i:Int)<(N.length:Int):=by omega
   have hx:=w64 (n:=(i:Int)+1) (by omega) (by omega)
   obtain ⟨x,hxe⟩:∃ x,N[i]=x:=⟨_,rfl⟩
   have hxo:x.Ok b.reads.length:=hxe▸hNok _ (List.getElem_mem hlt)
   have hsucc:Yp (N.take (i+1))=if (Yp (N.take i)).any fun e=>e.1 == x.got then Yp (N.take i) else Yp (N.take i)++[(x.got,x.course)]:=by rw [Qzt hlt,hxe];exact Xgp _ _
   obtain ⟨out,hou⟩:∃ out,Yp (N.take i)=out:=⟨_,rfl⟩
   rw [hou] at hA hsucc hout houl
   obtain ⟨X,hXa,hXl,hXt,hX1,hXg,hXc⟩:∃ X,Wj x=.agg X∧X.length=26∧List.take 26 X=X∧(∀ y∈X,y.one=true)∧List.take 24 X.tail=x.got.map AV.bool∧X[25]? = some (.pl 1 (Zh x.course)):=⟨_,rfl,by simp [hxo.got],List.take_of_length_le (by simp [hxo.got]),fun y hy=>by
    rcases List.mem_append.1 hy with hy | hy
    ·rcases List.mem_cons.1 hy with rfl | hy
     ·rfl
     ·obtain ⟨z,_,rfl⟩:=List.mem_map.1 hy;rfl
    ·rw [List.mem_singleton.1 hy];rfl,by
     rw [List.cons_append,List.tail_cons,List.take_append_of_le_length (by simp [hxo.got]),List.take_of_length_le (by simp [hxo.got])],by
     rw [Qzr (by simp [hxo.got])];simp [hxo.got]⟩
   have hXc':X[25]'(by omega)=.pl 1 (Zh x.course):=Option.some.inj ((Qze (by omega)).symm.trans hXc)
   simp [-Xa,hl,g13,g60,g61,g62,hlt',hlt,hxe,hXa,hXl,hXt]
   rw [if_pos (by exact hX1),Xk]
   have hxat:(W++(g++[AObj.cells X]))[W.length+g.length]? = some (.cells (Wj x).cells):=by rw [hXa,Qzr (by omega),Nat.add_sub_cancel_left];simp [AV.cells]
   have hrow:(v=.nils∧out=[])∨∃ r,v=.arr 25 r 0 out.length∧(W++(g++[AObj.cells X]))[r]? = some (.cells ((out.map Wh).flatMap AV.cells)):=by
    have hv:=hA.val
    cases o with
    | none=>exact .inl ⟨hv.1,by simpa using hv.2⟩
    | some jo =>
     refine .inr ⟨W.length+jo,by rw [hv.1];simp,?_⟩
     have hjl:=(Qzs.1 hv.2).1
     rw [Qzr (by omega),Nat.add_sub_cancel_left,Qzl hjl]
     exact hv.2
   have hxX:(W++(g++[AObj.cells X]))[W.length+g.length]? = some (.cells X):=by rw [hxat,hXa];rfl
   refine StA.of ((Xhr out hout (by omega) x hxo.got (W.length+g.length) v (W++(g++[AObj.cells X])) hxat hrow).mono ?_)
   rintro _ _ ⟨rfl,rfl⟩
   by_cases hany:(out.any fun e=>e.1 == x.got)=true
   ·rw [if_pos hany] at hsucc
    simp [-Xa,hany,hl,g13,g60,g61,g62,hx]
    exact ⟨⟨_,i+1,v,g++[AObj.cells X],o,rfl,by simp [hl],by simp [hl,g13],by simp [hl,g60],by simp [hl,g61],by simp [hl],hlt,rfl,by rw [hsucc];exact hA.more _⟩,by omega⟩
   ·rw [if_neg hany] at hsucc
    obtain ⟨v',g',o',he,hA',_⟩:=((hA.more [.cells X]).push (P:=Tryz.prog) (t:=225) (e:=232) (ag:=true) (x:=Wh (x.got,x.course)) (by simp) (by simp) (by simp) (by omega) ⟨Ya2 hxo.got,Xbx _⟩ (by simp;omega))
    obtain ⟨Y,hYa,hYl,hY1⟩:∃ Y,Wh (x.got,x.course)=.agg Y∧Y.length=25∧Y=x.got.map AV.bool++[.pl 1 (Zh x.course)]:=⟨_,rfl,by simp [hxo.got],rfl⟩
    simp [-Xa,Nat.add_assoc] at he
    have hgl:(x.got.map AV.bool).length=24:=by simp [hxo.got]
    simp [-Xa,hany,hl,g13,g60,g61,g62,hx,hxX,hXl,hXg,hXc',hgl,hxo.got]
    have hdr:List.drop 25 (List.map AV.bool x.got++[AV.nils])=[]:=List.drop_eq_nil_of_le (by simp [hxo.got])
    rw [if_pos (by exact fun y hy=>by rw [hdr] at hy;simp at hy),Xk]
    simp [-Xa,hany,hl,g13,g60,g61,g62,hx,hxX,hXl,hXg,hXc',hgl,hxo.got,hdr]
    have he':Xa Tryz.prog #[225,225] v (AV.arr 25 (W.length+(g.length+1)) 0 1) (W++(g++[AObj.cells X,AObj.cells (List.map AV.bool x.got++[AV.pl 1 (Zh x.course)])]))=some (v',W++g'):=by
     rw [← hY1]
     rw [hYa] at he
     simpa [AV.cells] using he
    rw [he',Xk]
    exact ⟨⟨_,i+1,v',g',o',rfl,by simp [hl],by simp [hl],by simp [hl,g60],by simp [hl,g61],by simp [hl],hlt,rfl,by rw [hsucc];simpa using hA'⟩,by omega⟩
  ·obtain rfl:i=N.length:=by omega
   rw [List.take_of_length_le hge] at hA hout houl
   simp [-Xa,hl,g13,g60,g61,g62]
   rw [Yhj]
   refine Ygy m _ hm (fun r hr=>by rw [Qzl (Qzs.1 (hWm r hr)).1];exact hWm r hr) fun s hsl hsk=>?_
   unfold Ws
   simp [hl]
   obtain ⟨g',rfl⟩:=hWS
   have hA2:=hA.shift
   have hnot:∀ (r:Nat) (cs:List AV),(σ++g'++g)[r]? = some (AObj.cells cs)→s[r]? = some (AObj.cells cs):=fun r cs h=>by
    rw [hsk r (fun hr=>by
     have h1:=hWm r hr
     rw [Qzl (Qzs.1 h1).1,h1] at h
     cases h)]
    exact h
   have hs:s=σ++s.drop σ.length:=by
    apply List.ext_getElem?
    intro r
    rcases Qzn r σ.length with h1 | h1
    ·rw [Qzl h1,hsk r (fun hr=>by have:=hmq r hr;omega),List.append_assoc,Qzl h1]
    ·rw [Qzr h1,List.getElem?_drop,show σ.length+(r - σ.length)=r by omega]
   have hA3:Acc σ (s.drop σ.length) 25 v ((Yp N).map Wh) (o.map (g'.length+·)):=⟨hA2.len,by
    have hv:=hA2.val
    cases o with
    | none=>exact hv
    | some jo =>
     refine ⟨hv.1,?_⟩
     have h2:=hv.2
     simp only [Option.map_some] at h2 ⊢
     rw [List.getElem?_drop]
     refine hnot _ _ ?_
     rw [List.append_assoc,Qzr (by omega),Nat.add_sub_cancel_left]
     exact h2⟩
   refine ⟨⟨_,hs⟩,?_⟩
   rw [hs]
   exact hA3.fz fun x hx y hy=>by
    obtain ⟨e,he,rfl⟩:=List.mem_map.1 hx
    rcases List.mem_append.1 (show y∈e.1.map AV.bool++[.pl 1 (Zh e.2)] from hy) with hy | hy
    ·obtain ⟨z,_,rfl⟩:=List.mem_map.1 hy;exact .bool _
    ·rw [List.mem_singleton.1 hy]
     refine .pl 1 _ fun i x hx j y hy=>?_
     obtain ⟨z,_,rfl⟩:=List.mem_map.1 (Qzg hx)
     cases j with
     | zero=>simp [AV.cells] at hy;subst hy;exact .int _ _
     | succ j=>simp [AV.cells] at hy
end Ab

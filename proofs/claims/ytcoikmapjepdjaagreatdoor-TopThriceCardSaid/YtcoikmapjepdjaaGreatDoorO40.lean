/-
  Texts packed for a claim.
-/
import Derived.Test.YtcoikmapjepdjaaGreatDoorO00
import Derived.Test.YtcoikmapjepdjaaGreatDoorO39
set_option linter.all false
namespace Ab
open Go Go.RowKit Go.Proofs
theorem Xdr {f:FuncId} {args args':List AV} {b:Bool} {τ:Za} (h:APure Tryz.prog f args (.bool b)) (hz:FzL 0 τ args' args):ACalls Tryz.prog f args' τ fun v s=>v=.bool b∧s=τ :=
 APure.lend h hz.1 hz.2 fun C C' c hv=>by cases hv;exact .bool _
theorem Ub3 (m:Int):∀ (l:List Int) (i:Nat),if m∈l then ∃ j,Zy 1 (.int .i64 m) (Yx l) i=some (some (j,.bool true)) else Zy 1 (.int .i64 m) (Yx l) i=some none
 | [],i=>by simp [Yx,Zy]
 | x::l,i=>by
  have ih:=Ub3 m l (i+1)
  have e:Yx (x::l)=(.int .i64 x,.bool true)::Yx l:=rfl
  rw [e]
  unfold Zy
  by_cases h:m=x
  ·subst h
   rw [if_pos (by simp)]
   exact ⟨i,by simp [Xt]⟩
  ·have h':Xt 1 (.int .i64 m) (.int .i64 x)=some false:=by simp [Xt,h]
   rw [h']
   by_cases hm:m∈l
   ·rw [if_pos hm] at ih
    rw [if_pos (by simp [hm])]
    exact ih
   ·rw [if_neg hm] at ih
    rw [if_neg (by simp [hm,h])]
    exact ih
theorem DR.len {r:Rl} (ok:r.Ok) {s:DS} (h:DR r s) {n:Nat} (hn:n<r.ntcs.length):(s.F n).length≤5:=by
 have:=Yz (s.F n) ((List.range 5).map fun k:Nat=>(k:Int)) (h.nd n hn) fun x hx=>by
  have h1:=Xa4 ok n hn x (h.sub n hn x hx)
  have:=ok.m5
  exact List.mem_map.2 ⟨x.toNat,List.mem_range.2 (by omega),by omega⟩
 simpa using this
theorem DR.lds {r:Rl} (ok:r.Ok) {s:DS} (h:DR r s) {m:Nat} (hm:m<r.men.toNat):-100≤s.ld m∧s.ld m≤6:=by
 have h1:=h.ld m hm
 have:=Wbj s.F m r.ntcs.length
 have:=ok.few
 omega
theorem DI.met_le {M:Nat→List Int} {men K:Nat} {s:DS} (h:DI M men K s):s.met.length≤men:=by
 have:=Yz s.met ((List.range men).map fun k:Nat=>(k:Int)) h.mnd fun x hx=>by
  have h1:=h.mlt x hx
  exact List.mem_map.2 ⟨x.toNat,List.mem_range.2 (by omega),by omega⟩
 simpa using this
theorem DkSt.meet {σ:Za} {K:Nat} {g:Za} {vs:List AV} {os:Nat→Option Nat} {jm:Nat} {s:DS} (h:DkSt σ K g vs os jm s) (m:Int) :
  DkSt σ K (g.set jm (.map (Yx s.met++[(.int .i64 m,.bool true)]))) vs os jm (s.meet m)∧Kp K jm g os (g.set jm (.map (Yx s.met++[(.int .i64 m,.bool true)]))) os:=by
 have hjm:=(Qzs.1 h.map).1
 refine ⟨⟨⟨h.sh.len,fun k hk=>?_,h.sh.dis⟩,?_,h.dis⟩,by simp,fun i hi hm ho=>List.getElem?_set_ne (fun e=>hm e.symm),fun _ _ _ e=>.inl e⟩
 ·obtain ⟨w,hw,hA⟩:=h.sh.acc k hk
  refine ⟨w,hw,hA.len,?_⟩
  have hv:=hA.val
  cases ho:os k with
  | none=>rw [ho] at hv;exact hv
  | some i =>
   rw [ho] at hv
   refine ⟨hv.1,?_⟩
   rw [List.getElem?_set_ne (fun e=>h.dis k hk (by rw [ho,e]))]
   exact hv.2
 ·rw [List.getElem?_set_self hjm]
  show _=some (AObj.map (Yx (s.met++[m])))
  simp [Yx]
attribute [local irreducible] aws awp aw1 Og Om Oc Oa Ogd Ov Ot awd Zb awh Wb Ogh Ohd awl Ogl Ohl awv Ogv Ohv Xb Vb QFn Ub Xi QRo QBe Ui Uj ACode AYield dkB dkL
theorem Vd5 (z:Nat) (σ:Za) (r:Rl) (most:Int) (vs:List AV) (ld:Nat→Int) (g:Za) {m:Nat} (hm:m<5) :
  ACalls Tryz.prog 224 [.int .i64 m,.ptr (σ.length+pC z) 0,.ptr (σ.length+1) 0] (dkB z σ r most vs ld++g) fun v s=>v=.bool (decide (ld m<most))∧s=dkB z σ r most vs ld++g:=by
 refine Yb Tryz.func224 rfl (Ua Tryz.func224 (by decide) rfl) ?_
 have hm3:3+m+1≤8:=by omega
 have hm':(m:Int)<5:=by omega
 have hld:=Xbw z r σ.length ld hm
 simp [Tryz.ntmps224]
 refine Ym mixed (by kernel_rfl) ?_
 simp [Ubf,Ww,Ye3,Uw,hm,hm',hm3,hld]
theorem DkSt.has {z:Nat} {σ:Za} {r:Rl} {most:Int} {K:Nat} {g:Za} {vs:List AV} {os:Nat→Option Nat} {jm:Nat} {s:DS} (h:DkSt σ K g vs os jm s) {ld:Nat→Int} {n:Nat} (hn:n<K) {v:AV} (hv:vs[n]? = some v) (m:Int) (hl:(s.F n).length≤2^40) :
  ACalls Tryz.prog 48 [v,.int .i64 m] (dkB z σ r most vs ld++g) fun v s'=>v=.bool (decide (m∈s.F n))∧s'=dkB z σ r most vs ld++g:=by
 obtain ⟨w,hw,hA⟩:=h.sh.acc n hn
 rw [hv] at hw
 obtain rfl:=Option.some.inj hw
 have hA:=hA.base (σ':=dkB z σ r most vs ld) (by rw [Vo,Vao])
 have c:=Ua3 (s.F n) m hl
 refine Xdr (by simpa [Ya] using c) (FzL.cons_iff.2 ⟨?_,FzL.cons_iff.2 ⟨.int _ _,FzL.nil_iff.2 trivial⟩⟩)
 have:=Ybr (n:=0) hA (by omega)
 simpa [Ya] using this
def DpA (z:Nat) (r:Rl) (most:Int) (σ:Za) (K k n jm jr:Nat) (L:List Int) (g0:Za) (os0:Nat→Option Nat) (s0:DS) (res:Bool × DS) (env:Env) (σ':Za):Prop:=∃ (u:List AV) (i:Nat) (s:DS) (g:Za) (vs:List AV) (os:Nat→Option Nat),env={ t:=u }∧u.length=86∧tg u 0=.ptr (σ.length+pD z) 0∧tg u 1=.int .i64 n∧tg u 3=.mp (σ.length+6+jm)∧tg u 6=.ptr (σ.length+6+jr) 0∧tg u 9=.int .i64 (-1)∧tg u 21=.pl 1 (Ya L)∧tg u 22=.int .i64 L.length∧tg u 23=.int .i64 i∧i≤L.length ∧
 σ'=dkB z σ r most vs s.ld++g∧DkSt σ K g vs os jm s∧Kp K jm g0 os0 g os∧DR r s∧(∃ x,s.met=s0.met++x)∧plM (plD (Up r) most K k) most n K (L.drop i) s=res
def DpB (z:Nat) (r:Rl) (most:Int) (σ:Za) (K k n jm jr:Nat) (L:List Int) (i m:Nat) (g0:Za) (os0:Nat→Option Nat) (s0:DS) (res:Bool × DS) (env:Env) (σ':Za):Prop:=∃ (u:List AV) (o:Nat) (s:DS) (g:Za) (vs:List AV) (os:Nat→Option Nat),env={ t:=u }∧u.length=86∧tg u 0=.ptr (σ.length+pD z) 0∧tg u 1=.int .i64 n∧tg u 3=.mp (σ.length+6+jm)∧tg u 6=.ptr (σ.length+6+jr) 0∧tg u 9=.int .i64 (-1)∧tg u 11=.int .i64 m∧tg u 21=.pl 1 (Ya L)∧tg u 22=.int .i64 L.length∧tg u 23=.int .i64 i∧tg u 53=.int .i64 K∧tg u 54=.int .i64 o∧o≤K ∧
 σ'=dkB z σ r most vs s.ld++g∧DkSt σ K g vs os jm s∧Kp K jm g0 os0 g os∧DR r s∧(∃ x,s.met=s0.met++x)∧s0.met.length<s.met.length∧(m:Int)∈s.met∧(m:Int)∉s.F n∧(match plO (plD (Up r) most K k) m ((List.range K).drop o) s with
  | (true,s')=>(true,s'.give m n)
  | (false,s')=>plM (plD (Up r) most K k) most n K (L.drop (i+1)) s')=res
set_option maxRecDepth 20000 in
set_option maxHeartbeats 8000000 in
theorem Wfj {r:Rl} (ok:r.Ok) (z:Nat) (most:Int) (hmost:-1000≤most∧most≤1000) (σ:Za):∀ (k n jm:Nat) (g0:Za) (vs0:List AV) (os0:Nat→Option Nat) (s0:DS),n<r.ntcs.length→DkSt σ r.ntcs.length g0 vs0 os0 jm s0→DR r s0→r.men.toNat<s0.met.length+k →
  ACalls Tryz.prog 225 [.ptr (σ.length+pD z) 0,.int .i64 n,.agg [Yw z σ.length],.mp (σ.length+6+jm)] (dkB z σ r most vs0 s0.ld++g0) fun v s'=>v=.bool (plD (Up r) most r.ntcs.length k n s0).1∧∃ vs' g' os',s'=dkB z σ r most vs' (plD (Up r) most r.ntcs.length k n s0).2.ld++g'∧DkSt σ r.ntcs.length g' vs' os' jm (plD (Up r) most r.ntcs.length k n s0).2∧Kp r.ntcs.length jm g0 os0 g' os':=by
 intro k
 induction k with
 | zero =>
  intro n jm g0 vs0 os0 s0 hn hst hI hk
  have:=hI.met_le
  omega
 | succ k ih =>
 intro n jm g0 vs0 os0 s0 hn hst hI hk
 obtain ⟨x,hx,hxo⟩:=Xax ok hn
 obtain ⟨L,hL⟩:∃ L,x.men=L:=⟨_,rfl⟩
 have hML:Up r n=L:=by rw [Zax hx,hL]
 obtain ⟨res,hres⟩:∃ x,plD (Up r) most r.ntcs.length (k+1) n s0=x:=⟨_,rfl⟩
 have hres':plM (plD (Up r) most r.ntcs.length k) most n r.ntcs.length L s0=res:=by rw [← hres,plD,hML]
 rw [hres]
 have hspec:=Zcl (most:=most) (Xa4 ok) k
 obtain ⟨K,hK⟩:∃ K,r.ntcs.length=K:=⟨_,rfl⟩
 have hK6:K≤6:=by have:=ok.few;omega
 have hLin:∀ m∈L,0≤m∧m<(r.men.toNat:Int):=fun m hm=>Xa4 ok n hn m (by rw [hML];exact hm)
 have hm5:=ok.m5
 have hL5:L.length≤5:=by
  have:=Yz L ((List.range 5).map fun k:Nat=>(k:Int)) (by rw [← hL];exact hxo.srt.imp fun {a b} h e=>by omega) fun x hx=>by
   have h1:=hLin x hx
   exact List.mem_map.2 ⟨x.toNat,List.mem_range.2 (by omega),by omega⟩
  simpa using this
 have hnl:n<(r.ntcs.map Zc).length:=by simpa using hn
 have hng:(r.ntcs.map Zc)[n]'hnl=.agg [.int .i64 x.times,.pl 1 (Ya L)]:=by
  obtain ⟨h1,h2⟩:=Qzs.1 hx
  simp [h2,Zc,hL]
 rw [hK] at hn hst hres' hspec ⊢
 have hn':(n:Int)<(K:Int):=by omega
 have hng2:(r.ntcs.map Zc).length=K:=by simp [hK]
 refine Yb Tryz.func225 rfl (Ua Tryz.func225 (by decide) rfl) ?_
 simp [-Xa,Tryz.ntmps225,Vo,Yw]
 refine Zbk ?_
 obtain ⟨hst1,hkp1⟩:=hst.more [.cells [Yw z σ.length]]
 have hrf:Yw z σ.length=.fn (.func 224) [] [.ptr (σ.length+pC z) 0,.ptr (σ.length+1) 0]:=rfl
 rw [← hrf]
 obtain ⟨g1,hg1⟩:∃ g1,g0++[AObj.cells [Yw z σ.length]]=g1:=⟨_,rfl⟩
 have hjr:g1[g0.length]? = some (.cells [Yw z σ.length]):=by rw [← hg1];simp
 obtain ⟨jr,hjr0⟩:∃ jr,g0.length=jr:=⟨_,rfl⟩
 have hjrm:jr≠jm:=by have:=(Qzs.1 hst.map).1;omega
 have hjro:∀ x,x<K→os0 x≠some jr:=fun x hx e=>by have:=hst.sh.lt hx e;omega
 rw [hg1] at hst1 hkp1 ⊢
 rw [hjr0] at hjr ⊢
 simp [-Xa,Ww,Uw,Uai,hng2,hn,hn',hng]
 rw [Yaa]
 refine Xc (DpA z r most σ K k n jm jr L g1 os0 s0 res) (fun env _=>match tg env.t 23 with | .int _ i=>L.length - i.toNat | _=>0) ⟨_,0,s0,g1,vs0,os0,rfl,by simp,by simp,by simp,by simp,by simp,by simp,by simp,by simp,by simp,by omega,rfl,hst1,Kp.refl _ _ _ _,hI,⟨[],by simp⟩,hres'⟩ ?_
 have hroomK:∀ {g:Za} {os:Nat→Option Nat},Kp K jm g1 os0 g os→g[jr]? = some (.cells [Yw z σ.length]):=fun {g os} h=>by
  rw [h.keep jr (Qzs.1 hjr).1 hjrm hjro];exact hjr
 clear hst1 hg1
 rintro env _ ⟨u,i,s,g,vs,os,rfl,hl,g0',g1',g3,g6,g9,g21,g22,g23,hi,rfl,hst2,hkp2,hI2,hmet,hrest⟩
 rcases Qzn i L.length with hlt | hge
 ·have hlt':(i:Int)<(L.length:Int):=by omega
  have hx1:=w64 (n:=(i:Int)+1) (by omega) (by omega)
  have hmem:L[i]∈L:=List.getElem_mem hlt
  obtain ⟨m,hm⟩:∃ m:Nat,L[i]=(m:Int):=⟨L[i].toNat,by have:=hLin _ hmem;omega⟩
  rw [hm] at hmem
  have hmen:=hLin _ hmem
  have hm5':m<5:=by omega
  have hil:i<(Ya L).length:=by rw [Yaa];exact hlt
  have hix:(Ya L)[i]'hil=.int .i64 m:=by simp [Ya,hm]
  have hix2:(Ya L)[i]? = some (.int .i64 m):=by rw [Qze hil,hix]
  have hdrop:L.drop i=(m:Int)::L.drop (i+1):=by rw [List.drop_eq_getElem_cons hlt,hm]
  rw [hdrop,plM] at hrest
  have hvl:=hst2.sh.len
  have hnv:n<vs.length:=by omega
  have hnv1:n+1≤vs.length:=hnv
  have hv:vs[n]? = some (vs[n]'hnv):=Qze hnv
  obtain ⟨v,hve⟩:∃ v,vs[n]'hnv=v:=⟨_,rfl⟩
  rw [hve] at hv
  have hFn5:=hI2.len ok (show n<r.ntcs.length by omega)
  have hcon:=hst2.has (z:=z) (r:=r) (most:=most) (ld:=s.ld) hn hv (m:Int) (by omega)
  have hfind:=Ub3 m s.met 0
  have hmapx:∀ X:Za,(dkB z σ r most vs s.ld++(g++X))[σ.length+6+jm]? = some (.map (Yx s.met)):=fun X=>by
   rw [Zah,Qzl (Qzs.1 hst2.map).1];exact hst2.map
  have hmapx0:(dkB z σ r most vs s.ld++g)[σ.length+6+jm]? = some (.map (Yx s.met)):=by rw [Zah];exact hst2.map
  by_cases hin:(m:Int)∈s.met
  ·rw [if_pos hin] at hfind
   obtain ⟨j,hj⟩:=hfind
   rw [if_pos (.inl hin)] at hrest
   simp [-Xa,hl,g0',g1',g3,g6,g9,g21,g22,g23,hlt,hlt',hil,hix,hix2,Yaa,hmapx0,hj,hx1]
   exact ⟨⟨_,i+1,s,g,vs,os,rfl,by simp [hl],by simp [hl,g0'],by simp [hl,g1'],by simp [hl,g3],by simp [hl,g6],by simp [hl,g9],by simp [hl,g21],by simp [hl,g22],by simp [hl],hlt,rfl,hst2,hkp2,hI2,hmet,hrest⟩,by omega⟩
  ·rw [if_neg hin] at hfind
   simp [-Xa,hl,g0',g1',g3,g6,g9,g21,g22,g23,hlt,hlt',hil,hix,hix2,Yaa,hmapx0,hfind,Ww,Zae,Uw,Xac,hn,hn',hnv,hnv1,hve,hv,hK]
   refine StA.of (hcon.mono ?_)
   rintro _ _ ⟨rfl,rfl⟩
   by_cases hin2:(m:Int)∈s.F n
   ·rw [if_pos (.inr hin2)] at hrest
    simp [-Xa,hl,g0',g1',g3,g6,g9,g21,g22,g23,hin2,hx1]
    exact ⟨⟨_,i+1,s,g,vs,os,rfl,by simp [hl],by simp [hl,g0'],by simp [hl,g1'],by simp [hl,g3],by simp [hl,g6],by simp [hl,g9],by simp [hl,g21],by simp [hl,g22],by simp [hl],hlt,rfl,hst2,hkp2,hI2,hmet,hrest⟩,by omega⟩
   ·rw [if_neg (by rintro (h | h);exact hin h;exact hin2 h),Int.toNat_natCast] at hrest
    obtain ⟨hst3,hkp3⟩:=hst2.meet (m:Int)
    have hI3:=hI2.meet hmen hin
    have hld3:(s.meet m).ld=s.ld:=rfl
    have hF3:(s.meet m).F=s.F:=rfl
    have hmet3:(s.meet m).met=s.met++[(m:Int)]:=rfl
    have hlds:=hI2.lds ok (m:=m) (by omega)
    obtain ⟨g2,hg2⟩:∃ g2,g.set jm (.map (Yx s.met++[(.int .i64 m,.bool true)]))=g2:=⟨_,rfl⟩
    rw [hg2] at hst3 hkp3
    have hkp4:=hkp2.trans hkp3
    have hjr4:=hroomK hkp4
    have hroom:(dkB z σ r most vs s.ld++g2)[σ.length+6+jr]? = some (.cells [Yw z σ.length]):=by rw [Zah];exact hjr4
    have cF:=Vd5 z σ r most vs s.ld g2 hm5'
    simp [-Xa,hl,g0',g1',g3,g6,g9,g21,g22,g23,hin2,hmapx0,hfind,Wbu,hg2,hroom]
    rw [hrf]
    simp [-Xa]
    refine StA.of (cF.mono ?_)
    rintro _ _ ⟨rfl,rfl⟩
    by_cases hfree:s.ld m<most
    ·rw [if_pos hfree] at hrest
     subst hrest
     simp [-Xa,hfree,hl,g0',g1',g3,g6,g9,g21,g22,g23]
     have cG:=Vcg (z:=z) (most:=most) (s:=s.meet m) (n:=n) (m:=m) (by rw [hK];exact hst3) (by omega) hm5' (by rw [hF3];omega) (by rw [hld3];omega) (by omega)
     rw [hK,hld3] at cG
     refine StA.of (cG.mono ?_)
     rintro _ _ ⟨vs',g',os',rfl,hst5,hkp5⟩
     simp [-Xa,hfree,hl,g0',g1',g3,g6,g9,g21,g22,g23]
     exact ⟨_,_,rfl,_,hst5,hkp1.trans (hkp4.trans hkp5)⟩
    ·rw [if_neg hfree] at hrest
     simp [-Xa,hfree,hl,g0',g1',g3,g6,g9,g21,g22,g23,Ww,Uw,Uai]
     refine Xc (DpB z r most σ K k n jm jr L i m g1 os0 s0 res) (fun env _=>match tg env.t 54 with | .int _ i=>K - i.toNat | _=>0) ⟨_,0,s.meet m,g2,vs,os,rfl,by simp [hl],by simp [hl,g0'],by simp [hl,g1'],by simp [hl,g3],by simp [hl,g6],by simp [hl,g9],by simp [hl],by simp [hl,g21],by simp [hl,g22],by simp [hl,g23],by simp [hl,hng2,hK],by simp [hl],by omega,rfl,hst3,hkp4,hI3,(by obtain ⟨x,hx⟩:=hmet;exact ⟨x++[(m:Int)],by rw [hmet3,hx,List.append_assoc]⟩),(by obtain ⟨x,hx⟩:=hmet;rw [hmet3,hx];simp),by rw [hmet3];simp,hin2,by rw [List.drop_zero];exact hrest⟩ ?_
     clear hrest hst3 hkp3 hkp4 hI3 hg2 hst2 hkp2 hI2 hmet hcon hfind hmapx hmapx0 hv hve hnv1 hvl hFn5 hin hin2 hlds hjr4 hroom cF hfree hld3 hF3 hmet3 hl g0' g1' g3 g6 g9 g21 g22 g23 hdrop
     rintro env _ ⟨u,o,s,g,vs,os,rfl,hl,g0',g1',g3,g6,g9,g11,g21,g22,g23,g53,g54,ho,rfl,hst2,hkp2,hI2,hmet,hmetl,hmm,hmn,hrest⟩
     rcases Qzn o K with hlt2 | hge2
     ·have hlt2':(o:Int)<(K:Int):=by omega
      have hx2:=w64 (n:=(o:Int)+1) (by omega) (by omega)
      have hdrop:(List.range K).drop o=o::(List.range K).drop (o+1):=by rw [List.drop_eq_getElem_cons (by simpa using hlt2),List.getElem_range]
      rw [hdrop,plO] at hrest
      have hvl:=hst2.sh.len
      have hov:o<vs.length:=by omega
      have hov1:o+1≤vs.length:=hov
      have hv:vs[o]? = some (vs[o]'hov):=Qze hov
      obtain ⟨v,hve⟩:∃ v,vs[o]'hov=v:=⟨_,rfl⟩
      rw [hve] at hv
      have hFo5:=hI2.len ok (show o<r.ntcs.length by omega)
      have hcon:=hst2.has (z:=z) (r:=r) (most:=most) (ld:=s.ld) hlt2 hv (m:Int) (by omega)
      have hroom:(dkB z σ r most vs s.ld++g)[σ.length+6+jr]? = some (.cells [Yw z σ.length]):=by rw [Zah];exact hroomK hkp2
      simp [-Xa,hl,g0',g1',g3,g6,g9,g11,g21,g22,g23,g53,g54,hlt2,hlt2',Ww,Zae,Uw,Xac,hov,hov1,hve,hv,hK]
      refine StA.of (hcon.mono ?_)
      rintro _ _ ⟨rfl,rfl⟩
      by_cases hin3:(m:Int)∈s.F o
      ·rw [if_pos hin3] at hrest
       have hS:=hspec o s hlt2 (hK▸hI2)
       have cR:=ih o jm g vs os s (by omega) (by rw [hK];exact hst2) hI2 (by omega)
       rw [hK] at cR
       simp [-Xa,hl,g0',g1',g3,g6,g9,g11,g21,g22,g23,g53,g54,hin3,hroom]
       refine StA.of (cR.mono ?_)
       rcases hP:plD (Up r) most K k o s with ⟨b,s'⟩
       rw [hP] at hS hrest
       rintro _ _ ⟨rfl,vs',g',os',rfl,hst5,hkp5⟩
       dsimp only at hS hrest hst5 ⊢
       have hI5:DR r s':=by have:=hS.inv;rwa [← hK] at this
       cases b with
       | false =>
        simp [-Xa,hl,g0',g1',g3,g6,g9,g11,g21,g22,g23,g53,g54,hin3,hx2]
        obtain ⟨y,hy⟩:=hS.met
        exact ⟨⟨_,o+1,s',g',vs',os',rfl,by simp [hl],by simp [hl,g0'],by simp [hl,g1'],by simp [hl,g3],by simp [hl,g6],by simp [hl,g9],by simp [hl,g11],by simp [hl,g21],by simp [hl,g22],by simp [hl,g23],by simp [hl,g53],by simp [hl],hlt2,rfl,hst5,hkp2.trans hkp5,hI5,(by obtain ⟨x,hx⟩:=hmet;exact ⟨x++y,by rw [hy,hx,List.append_assoc]⟩),(by rw [hy,List.length_append];omega),(by rw [hy];simp [hmm]),(fun h=>hmn ((hS.stay m hmm (by omega) n hn).1 h)),hrest⟩,by omega⟩
       | true =>
        simp [-Xa,hl,g0',g1',g3,g6,g9,g11,g21,g22,g23,g53,g54,hin3,hx2]
        have hin5:(m:Int)∈s'.F o:=(hS.stay m hmm (by omega) o hlt2).2 hin3
        have hl5:=hI5.lds ok (m:=m) (by omega)
        have hlo5:=hI5.len ok (n:=o) (by omega)
        have cT:=Yh9 (z:=z) (most:=most) (s:=s') (n:=o) (m:=m) (by rw [hK];exact hst5) (by omega) hm5' (by omega) hin5 (by omega) (by omega)
        rw [hK] at cT
        refine StA.of (cT.mono ?_)
        rintro _ _ ⟨vs6,g6',os6,rfl,hst6,hkp6⟩
        have hI6:DR r (s'.take m o):=hI5.take (by omega) hin5
        have hl6:=hI6.lds ok (m:=m) (by omega)
        have hlo6:=hI6.len ok (n:=n) (by omega)
        have cG:=Vcg (z:=z) (most:=most) (s:=s'.take m o) (n:=n) (m:=m) (by rw [hK];exact hst6) (by omega) hm5' (by omega) (by omega) (by omega)
        rw [hK] at cG
        refine StA.of (cG.mono ?_)
        rintro _ _ ⟨vs7,g7',os7,rfl,hst7,hkp7⟩
        subst hrest
        simp [-Xa,hl,g0',g1',g3,g6,g9,g11,g21,g22,g23,g53,g54,hin3,hx2]
        exact ⟨_,_,rfl,_,hst7,hkp1.trans (hkp2.trans (hkp5.trans (hkp6.trans hkp7)))⟩
      ·rw [if_neg hin3] at hrest
       simp [-Xa,hl,g0',g1',g3,g6,g9,g11,g21,g22,g23,g53,g54,hin3,hx2]
       exact ⟨⟨_,o+1,s,g,vs,os,rfl,by simp [hl],by simp [hl,g0'],by simp [hl,g1'],by simp [hl,g3],by simp [hl,g6],by simp [hl,g9],by simp [hl,g11],by simp [hl,g21],by simp [hl,g22],by simp [hl,g23],by simp [hl,g53],by simp [hl],hlt2,rfl,hst2,hkp2,hI2,hmet,hmetl,hmm,hmn,hrest⟩,by omega⟩
     ·obtain rfl:o=K:=by omega
      rw [List.drop_eq_nil_of_le (by simp),plO] at hrest
      simp [-Xa,hl,g0',g1',g3,g6,g9,g11,g21,g22,g23,g53,g54,hx1]
      exact ⟨⟨_,i+1,s,g,vs,os,rfl,by simp [hl],by simp [hl,g0'],by simp [hl,g1'],by simp [hl,g3],by simp [hl,g6],by simp [hl,g9],by simp [hl,g21],by simp [hl,g22],by simp [hl],hlt,rfl,hst2,hkp2,hI2,hmet,hrest⟩,by omega⟩
 ·obtain rfl:i=L.length:=by omega
  rw [List.drop_length,plM] at hrest
  subst hrest
  simp [-Xa,hl,g0',g1',g3,g6,g9,g21,g22,g23]
  exact ⟨_,_,rfl,_,hst2,hkp1.trans hkp2⟩
end Ab

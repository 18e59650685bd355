/-
  Texts packed for a claim.
-/
import Derived.Test.YtdifgaapdnbliaaGreatDoorS00
import Derived.Test.YtdifgaapdnbliaaGreatDoorS23
import Derived.Test.YtdifgaapdnbliaaGreatDoorS39
import Derived.Test.YtdifgaapdnbliaaGreatDoorS38
import Derived.Test.YtdifgaapdnbliaaGreatDoorS35
import Derived.Test.YtdifgaapdnbliaaGreatDoorS40
set_option linter.all false
namespace Ab
open Go Go.RowKit Go.Proofs
attribute [local irreducible] aws awp aw1 Og Om Oc Oa Ogd Ov Ot awd Ub awh Xc Ogh Ohd awl Ogl Ohl awv Ogv Ohv Zc Wc QFn Zd QRo QBe ACode AYield
theorem Xcy {l:List Oyez.Chg} (h:Ux l=false):l.length≤90∧∀ c∈l,(c.old.length≤10∧Yh c.old≤2^20)∧c.new.length≤10∧Yh c.new≤2^20:=by
 unfold Ux at h
 rw [Bool.or_eq_false_iff] at h
 refine ⟨by simpa using h.2,fun c hc=>?_⟩
 have hq:(Zi c.old||Zi c.new)=false:=by
  cases hq:(Zi c.old||Zi c.new) with
  | false=>rfl
  | true=>exact absurd (List.any_eq_true.2 ⟨c,hc,hq⟩) (by rw [h.1];simp)
 rw [Bool.or_eq_false_iff] at hq
 exact ⟨Uak hq.1,Uak hq.2⟩
theorem Yey (l:List Oyez.Chg) (h:∀ c∈l,c.old.length≤10∧c.new.length≤10):(Zz l).1.length≤l.length∧∀ c∈(Zz l).1,c.old.length≤10∧c.new.length≤10:=by
 unfold Zz
 split
 ·exact ⟨Nat.zero_le _,fun c hc=>by simp at hc⟩
 ·refine ⟨by unfold Oyez.back;simp,fun c hc=>?_⟩
  unfold Oyez.back at hc
  obtain ⟨d,hd,rfl⟩:=List.mem_map.1 hc
  exact ⟨(h d hd).2,(h d hd).1⟩
theorem Xen (l:List Oyez.Chg):∀ (f:List Oyez.Rec),(∀ r∈f,r.words.length≤10)→(∀ c∈l,c.old.length≤10∧c.new.length≤10)→∀ r∈Oyez.make f l,r.words.length≤10:=by
 induction l with
 | nil=>intro f hf _;exact hf
 | cons c t ih =>
  intro f hf h
  refine ih (Oyez.make1 f c) (fun r hr=>?_) fun d hd=>h d (List.mem_cons_of_mem _ hd)
  unfold Oyez.make1 at hr
  split at hr
  ·rcases Oyez.mem_put hr with rfl | hr
   ·exact (h c (by simp)).2
   ·exact hf r hr
  ·exact hf r (Oyez.mem_drop.1 hr).1
theorem Wd0 (f:List Oyez.Rec) (l:List Oyez.Chg) (hf:∀ r∈f,r.words.length≤10) (h:∀ c∈l,c.old.length≤10∧c.new.length≤10):(Yp f l).1.length≤100∧∀ r∈(Yp f l).1,r.words.length≤10:=by
 unfold Yp
 split
 ·exact ⟨Nat.zero_le _,fun x hx=>by simp at hx⟩
 ·split
  ·exact ⟨Nat.zero_le _,fun x hx=>by simp at hx⟩
  ·split
   ·exact ⟨Nat.zero_le _,fun x hx=>by simp at hx⟩
   ·split
    ·exact ⟨Nat.zero_le _,fun x hx=>by simp at hx⟩
    ·exact ⟨by dsimp only;omega,Xen l f hf h⟩
theorem Zcq (f g:List Oyez.Rec):(Yy f g).1.length≤100∧∀ c∈(Yy f g).1,c.old.length≤2^40∧c.new.length≤2^40:=by
 unfold Yy
 by_cases h:Zr f g=0
 ·rw [if_neg (by simp [h])]
  have k1:Oyez.check f=0:=by
   unfold Zr at h
   split at h
   ·contradiction
   ·rename_i k;simpa using k
  have k2:Oyez.check g=0:=by
   unfold Zr at h
   rw [if_neg (by simp [k1])] at h
   exact h
  have d:=Oyez.diff_right (Oyez.check_zero k1) (Oyez.check_zero k2)
  exact ⟨by have:=d.len;dsimp only;omega,(Zc4 d).2⟩
 ·rw [if_pos h]
  exact ⟨Nat.zero_le _,fun x hx=>by simp at hx⟩
set_option maxHeartbeats 40000000 in
theorem Ydk (f g:List Oyez.Rec) (l:List Oyez.Chg) (lf:f.length≤9223372036854775807) (lg:g.length≤9223372036854775807) (ll:l.length≤9223372036854775807)
  (wf:∀ r∈f,r.words.length≤9223372036854775807) (wg:∀ r∈g,r.words.length≤9223372036854775807) (wl:∀ c∈l,c.old.length≤9223372036854775807∧c.new.length≤9223372036854775807):APure Tryz.prog 13 [Xa f,Xa g,Wb l] (.bool true):=by
 refine APure.of fun σ=>?_
 suffices hh:∀ Post:AV→Za→Prop,(∀ s,(∃ g,s=σ++g)→Post (.bool true) s)→ACalls Tryz.prog 13 [Xa f,Xa g,Wb l] σ Post from hh _ fun s ⟨g,h⟩=>⟨g,h,.bool _⟩
 intro Post hPost
 refine Ua Tryz.func13 rfl (Wa Tryz.func13 (by decide) rfl) ?_
 have quit:∀ s,s=σ→Post (.bool true) s:=fun s h=>hPost s ⟨[],by rw [h,List.append_nil]⟩
 simp [-Ud,Tryz.ntmps13]
 refine (Zan f lf wf).use ?_
 cases gf:Wu f with
 | true =>
  simp [gf]
  refine awake_calls.use ?_
  first | exact quit _ rfl | (simp;exact quit _ rfl)
 | false =>
 simp [-Ud,gf]
 refine (Zan g lg wg).use ?_
 cases gg:Wu g with
 | true =>
  simp [gf,gg]
  refine awake_calls.use ?_
  first | exact quit _ rfl | (simp;exact quit _ rfl)
 | false =>
 simp [-Ud,gf,gg]
 refine (Ubb l ll wl).use ?_
 cases gl:Ux l with
 | true =>
  simp [gf,gg,gl]
  refine awake_calls.use ?_
  first | exact quit _ rfl | (simp;exact quit _ rfl)
 | false =>
 obtain ⟨nf,ff⟩:=Vbr gf
 obtain ⟨ng,fg⟩:=Vbr gg
 obtain ⟨nl,fl⟩:=Xcy gl
 have hf':Few f:=fun r hr=>by have:=ff r hr;omega
 have hg':Few g:=fun r hr=>by have:=fg r hr;omega
 have hl':Waa l:=fun c hc=>by have:=fl c hc;omega
 have sf:Yal f:=fun r hr=>by have:=ff r hr;omega
 have sg:Yal g:=fun r hr=>by have:=fg r hr;omega
 have w40f:∀ r∈f,r.words.length≤2^40:=fun r hr=>by have:=(ff r hr).1;omega
 have w40g:∀ r∈g,r.words.length≤2^40:=fun r hr=>by have:=(fg r hr).1;omega
 have w40l:∀ c∈l,c.old.length≤2^40∧c.new.length≤2^40:=fun c hc=>by have:=fl c hc;omega
 have sB:=Yey l fun c hc=>⟨(fl c hc).1.1,(fl c hc).2.1⟩
 have sM:=Wd0 f l (fun r hr=>(ff r hr).1) fun c hc=>⟨(fl c hc).1.1,(fl c hc).2.1⟩
 have sD:=Zcq f g
 simp [-Ud,gf,gg,gl]
 rw [Ud]
 simp [-Ud,gf,gg,gl]
 refine (Uaf f (by omega) fun r hr=>by have:=(ff r hr).1;omega).use ?_
 try simp [-Ud,gf,gg,gl]
 refine (Uaf g (by omega) fun r hr=>by have:=(fg r hr).1;omega).use ?_
 try simp [-Ud,gf,gg,gl]
 refine (Xbe l (by omega) fun c hc=>by have:=fl c hc;omega).use ?_
 try simp [-Ud,gf,gg,gl]
 refine (Vs f (by omega)).use ?_
 try simp [-Ud,gf,gg,gl]
 refine (Vs g (by omega)).use ?_
 try simp [-Ud,gf,gg,gl]
 refine (Ubn l (by omega)).use ?_
 try simp [-Ud,gf,gg,gl]
 refine (Uap f sf).use ?_
 try simp [-Ud,gf,gg,gl]
 refine (Uap g sg).use ?_
 try simp [-Ud,gf,gg,gl]
 refine (Ybb l hl').use ?_
 try simp [-Ud,gf,gg,gl]
 refine (Zay l hl').use ?_
 simp [-Ud,gf,gg,gl]
 rw [Ud]
 simp [-Ud,gf,gg,gl]
 have cB:=Ue3 l hl' (by omega)
 have cM:=Ve5 f l hf' hl'
 have cD:=Vcy f g hf' hg' ⟨by omega,by omega⟩
 have eB:(Oyez.checkChg l=0→Zz l=(Oyez.back l,0))∧(Oyez.checkChg l≠0→Zz l=([],Oyez.checkChg l)):=by
  unfold Zz
  exact ⟨fun h=>by rw [if_neg (by simp [h])],fun h=>by rw [if_pos h]⟩
 have eM:(Oyez.check f=0→Oyez.checkChg l=0→Yp f l=Yau f l)∧(Oyez.check f=0→Oyez.checkChg l≠0→Yp f l=([],Oyez.checkChg l))∧(Oyez.check f≠0→Yp f l=([],Oyez.check f)):=by
  refine ⟨fun h1 h2=>?_,fun h1 h2=>?_,fun h1=>?_⟩
  ·unfold Yp
   rw [if_neg (by simp [h1]),if_neg (by simp [h2])]
   rfl
  ·unfold Yp
   rw [if_neg (by simp [h1]),if_pos h2]
  ·unfold Yp
   rw [if_pos h1]
 have eD:(Oyez.check f=0→Oyez.check g=0→Yy f g=(Oyez.diff f g,0))∧(Oyez.check f=0→Oyez.check g≠0→Yy f g=([],Oyez.check g))∧(Oyez.check f≠0→Yy f g=([],Oyez.check f)):=by
  refine ⟨fun h1 h2=>?_,fun h1 h2=>?_,fun h1=>?_⟩<;>simp [Yy,Zr,h1]<;>simp [h2]
 obtain ⟨B,hB⟩:∃ B,Zz l=B:=⟨_,rfl⟩
 obtain ⟨M,hM⟩:∃ M,Yp f l=M:=⟨_,rfl⟩
 obtain ⟨D,hD⟩:∃ D,Yy f g=D:=⟨_,rfl⟩
 rw [hB] at cB eB sB
 rw [hM] at cM eM sM
 rw [hD] at cD eD sD
 have lB2:B.2=Oyez.checkChg l:=by
  by_cases h:Oyez.checkChg l=0
  ·rw [eB.1 h,h]
  ·rw [eB.2 h]
 refine Xn (fun env s=>∃ (u:List AV) (x16:AV),env={ t:=u }∧u.length=179∧tg u 0=Xa f∧tg u 1=Xa g∧tg u 2=Wb l∧tg u 7=Xa f∧tg u 8=Xa g∧tg u 9=Wb l∧tg u 10=Xa f∧tg u 11=Xa g∧tg u 12=Wb l∧tg u 13=.int .i64 (Oyez.check f)∧tg u 14=.int .i64 (Oyez.check g)∧tg u 15=.int .i64 (Oyez.checkChg l) ∧
  tg u 16=x16∧tg u 17=.nils∧tg u 18=.nils∧s=σ∧((x16=.nils∧B.1=[])∨x16=Wb B.1)) ?_ ?_
 ·by_cases h:Oyez.checkChg l=0
  ·simp [gf,gg,gl,h]
   refine (Zez l (by omega)).use ?_
   simp [gf,gg,gl,h,eB.1 h]
  ·simp [gf,gg,gl,h,eB.2 h]
 ·rintro env s ⟨u,x16,rfl,hl,g0,g1,g2,g7,g8,g9,g10,g11,g12,g13,g14,g15,g16,g17,g18,hs0,c16⟩
  obtain rfl:=hs0.symm
  clear hs0
  simp [-Ud,hl,g0,g1,g2,g7,g8,g9,g10,g11,g12,g13,g14,g15,g16,g17,g18]
  refine StA.of ((cB σ).mono ?_)
  rintro _ τ1 ⟨v1,rfl,⟨ga,hga⟩,ho1⟩
  simp [-Ud,hl,g0,g1,g2,g7,g8,g9,g10,g11,g12,g13,g14,g15,g16,g17,g18,lB2]
  refine StA.of ((Wbo x16 B.1 c16 (by omega) _).mono ?_)
  rintro _ s ⟨rfl,hs4⟩
  obtain rfl:=hs4.symm
  simp [-Ud,hl,g0,g1,g2,g7,g8,g9,g10,g11,g12,g13,g14,g15,g16,g17,g18,lB2]
  refine StA.of ((Vbg ho1 (by omega) (fun c hc=>by have:=sB.2 c hc;omega)).mono ?_)
  rintro _ s ⟨rfl,hs5⟩
  obtain rfl:=hs5.symm
  simp [-Ud,hl,g0,g1,g2,g7,g8,g9,g10,g11,g12,g13,g14,g15,g16,g17,g18,lB2]
  rw [Ud]
  simp [-Ud,hl,g0,g1,g2,g7,g8,g9,g10,g11,g12,g13,g14,g15,g16,g17,g18,lB2]
  refine Xn (fun env s=>∃ u,env={ t:=u }∧u.length=179∧tg u 0=Xa f∧tg u 1=Xa g∧tg u 2=Wb l∧tg u 7=Xa f∧tg u 8=Xa g∧tg u 9=Wb l∧tg u 10=Xa f∧tg u 11=Xa g∧tg u 12=Wb l∧tg u 13=.int .i64 (Oyez.check f)∧tg u 14=.int .i64 (Oyez.check g) ∧
   tg u 17=.nils∧tg u 18=.nils∧tg u 19=v1∧tg u 21=.int .i64 (if Oyez.check f=0 then Oyez.checkChg l else Oyez.check f)∧s=τ1) ?_ ?_
  ·by_cases h:Oyez.check f=0
   ·simp [hl,g0,g1,g2,g7,g8,g9,g10,g11,g12,g13,g14,g15,g16,g17,g18,h]
   ·simp [hl,g0,g1,g2,g7,g8,g9,g10,g11,g12,g13,g14,g15,g16,g17,g18,h]
  ·clear hl g0 g1 g2 g7 g8 g9 g10 g11 g12 g13 g14 g15 g16 g17 g18 u
   rintro env s ⟨u,rfl,hl,g0,g1,g2,g7,g8,g9,g10,g11,g12,g13,g14,g17,g18,g19,g21,hs0⟩
   obtain rfl:=hs0.symm
   clear hs0
   simp [-Ud,hl,g0,g1,g2,g7,g8,g9,g10,g11,g12,g13,g14,g17,g18,g19,g21]
   refine Xn (fun env s=>∃ (u:List AV) (x18:AV),env={ t:=u }∧u.length=179∧tg u 0=Xa f∧tg u 1=Xa g∧tg u 2=Wb l∧tg u 7=Xa f∧tg u 8=Xa g∧tg u 9=Wb l∧tg u 10=Xa f∧tg u 11=Xa g∧tg u 12=Wb l∧tg u 13=.int .i64 (Oyez.check f)∧tg u 14=.int .i64 (Oyez.check g) ∧
    tg u 17=.nils∧tg u 18=x18∧tg u 19=v1∧tg u 21=.int .i64 M.2∧s=τ1∧((x18=.nils∧M.1=[])∨x18=Xa M.1)) ?_ ?_
   ·by_cases h:Oyez.check f=0
    ·by_cases h2:Oyez.checkChg l=0
     ·have cR:=Ye5 f l (Oyez.check_zero h) (Oyez.checkChg_zero h2)
      rw [← eM.1 h h2] at cR
      simp [hl,g0,g1,g2,g7,g8,g9,g10,g11,g12,g13,g14,g17,g18,g19,g21,h,h2]
      refine cR.use ?_
      simp [hl,g0,g1,g2,g7,g8,g9,g10,g11,g12,g13,g14,g17,g18,g19,g21,h,h2]
     ·simp [hl,g0,g1,g2,g7,g8,g9,g10,g11,g12,g13,g14,g17,g18,g19,g21,h,h2,eM.2.1 h h2]
    ·simp [hl,g0,g1,g2,g7,g8,g9,g10,g11,g12,g13,g14,g17,g18,g19,g21,h,eM.2.2 h]
   ·clear hl g0 g1 g2 g7 g8 g9 g10 g11 g12 g13 g14 g17 g18 g19 g21 u
    rintro env s ⟨u,x18,rfl,hl,g0,g1,g2,g7,g8,g9,g10,g11,g12,g13,g14,g17,g18,g19,g21,hs0,c18⟩
    obtain rfl:=hs0.symm
    clear hs0
    simp [-Ud,hl,g0,g1,g2,g7,g8,g9,g10,g11,g12,g13,g14,g17,g18,g19,g21]
    refine StA.of ((cM τ1).mono ?_)
    rintro _ τ2 ⟨gb,v2,hgb,rfl,ho2⟩
    simp [-Ud,hl,g0,g1,g2,g7,g8,g9,g10,g11,g12,g13,g14,g17,g18,g19,g21]
    refine StA.of ((Xbg x18 M.1 c18 (by omega) _).mono ?_)
    rintro _ s ⟨rfl,hs6⟩
    obtain rfl:=hs6.symm
    simp [-Ud,hl,g0,g1,g2,g7,g8,g9,g10,g11,g12,g13,g14,g17,g18,g19,g21]
    refine StA.of ((Wbf ho2 (by omega) (fun x hx=>by have:=sM.2 x hx;omega)).mono ?_)
    rintro _ s ⟨rfl,hs7⟩
    obtain rfl:=hs7.symm
    simp [-Ud,hl,g0,g1,g2,g7,g8,g9,g10,g11,g12,g13,g14,g17,g18,g19,g21]
    rw [Ud]
    simp [-Ud,hl,g0,g1,g2,g7,g8,g9,g10,g11,g12,g13,g14,g17,g18,g19,g21]
    refine Xn (fun env s=>∃ u,env={ t:=u }∧u.length=179∧tg u 0=Xa f∧tg u 1=Xa g∧tg u 2=Wb l∧tg u 7=Xa f∧tg u 8=Xa g∧tg u 9=Wb l∧tg u 10=Xa f∧tg u 11=Xa g ∧
     tg u 13=.int .i64 (if Oyez.check f=0 then Oyez.check g else Oyez.check f)∧tg u 17=.nils∧tg u 19=v1∧tg u 22=v2∧s=τ2) ?_ ?_
    ·by_cases h:Oyez.check f=0
     ·simp [hl,g0,g1,g2,g7,g8,g9,g10,g11,g12,g13,g14,g17,g18,g19,g21,h]
     ·simp [hl,g0,g1,g2,g7,g8,g9,g10,g11,g12,g13,g14,g17,g18,g19,g21,h]
    ·clear hl g0 g1 g2 g7 g8 g9 g10 g11 g12 g13 g14 g17 g18 g19 g21 u
     rintro env s ⟨u,rfl,hl,g0,g1,g2,g7,g8,g9,g10,g11,g13,g17,g19,g22,hs0⟩
     obtain rfl:=hs0.symm
     clear hs0
     simp [-Ud,hl,g0,g1,g2,g7,g8,g9,g10,g11,g13,g17,g19,g22]
     refine Xn (fun env s=>∃ (u:List AV) (x17:AV),env={ t:=u }∧u.length=179∧tg u 0=Xa f∧tg u 1=Xa g∧tg u 2=Wb l∧tg u 7=Xa f∧tg u 8=Xa g∧tg u 9=Wb l ∧
      tg u 13=.int .i64 D.2∧tg u 17=x17∧tg u 19=v1∧tg u 22=v2∧s=τ2∧((x17=.nils∧D.1=[])∨x17=Wb D.1)) ?_ ?_
     ·by_cases h:Oyez.check f=0
      ·by_cases h2:Oyez.check g=0
       ·have cR:=Ucw f g (by omega) (by omega) w40f (Oyez.check_zero h).range (Oyez.check_zero h2).range
        have eDD:=eD.1 h h2
        simp [hl,g0,g1,g2,g7,g8,g9,g10,g11,g13,g17,g19,g22,h,h2]
        refine cR.use ?_
        simp [hl,g0,g1,g2,g7,g8,g9,g10,g11,g13,g17,g19,g22,h,h2,eDD]
       ·simp [hl,g0,g1,g2,g7,g8,g9,g10,g11,g13,g17,g19,g22,h,h2,eD.2.1 h h2]
      ·simp [hl,g0,g1,g2,g7,g8,g9,g10,g11,g13,g17,g19,g22,h,eD.2.2 h]
     ·clear hl g0 g1 g2 g7 g8 g9 g10 g11 g13 g17 g19 g22 u
      rintro env s ⟨u,x17,rfl,hl,g0,g1,g2,g7,g8,g9,g13,g17,g19,g22,hs0,c17⟩
      obtain rfl:=hs0.symm
      clear hs0
      simp [hl,g0,g1,g2,g7,g8,g9,g13,g17,g19,g22]
      refine StA.of ((cD τ2).mono ?_)
      rintro _ τ3 ⟨v3,rfl,⟨gd,hgd⟩,ho3⟩
      have l12:τ1.length≤τ2.length:=by rw [hgb,List.length_append];omega
      have l01:σ.length≤τ1.length:=by rw [hga,List.length_append];omega
      have l23:τ2.length≤τ3.length:=by rw [hgd,List.length_append];omega
      have hC1:ChgC σ.length τ1.length τ3 v1 B.1:=by
       have:=(ho1.cl.more gb).more gd
       rwa [← hgb,← hgd] at this
      have hC2:FileC τ1.length τ2.length τ3 v2 M.1:=by
       have:=ho2.cl.more gd
       rwa [← hgd] at this
      have hC3:ChgC τ2.length τ3.length τ3 v3 D.1:=ho3.cl
      have hpr:∃ g,τ3=σ++g:=⟨ga++(gb++gd),by rw [hgd,hgb,hga];simp⟩
      obtain ⟨o2,c2,al2⟩:=hC2.one
      simp [hl,g0,g1,g2,g7,g8,g9,g13,g17,g19,g22]
      refine StA.of ((Wbo x17 D.1 c17 (by omega) _).mono ?_)
      rintro _ s ⟨rfl,hs6⟩
      obtain rfl:=hs6.symm
      simp [hl,g0,g1,g2,g7,g8,g9,g13,g17,g19,g22]
      refine StA.of ((Vbg ho3 (by omega) sD.2).mono ?_)
      rintro _ s ⟨rfl,hs7⟩
      obtain rfl:=hs7.symm
      simp [-Vb,hl,g0,g1,g2,g7,g8,g9,g13,g17,g19,g22,al2]
      clear hga hgb hgd
      refine Yc (fun env σ'=>∃ (u:List AV) (j:Nat),env={ t:=u }∧u.length=179∧tg u 0=Xa f∧tg u 1=Xa g∧tg u 2=Wb l∧tg u 7=Xa f∧tg u 8=Xa g∧tg u 9=Wb l∧tg u 19=v1∧tg u 23=v3 ∧
       tg u 134=v2∧tg u 135=.int .i64 M.1.length∧tg u 136=.int .i64 j∧j≤M.1.length∧FileC τ1.length τ2.length σ' v2 M.1∧ChgC σ.length τ1.length σ' v1 B.1∧ChgC τ2.length τ3.length σ' v3 D.1∧τ3.length≤σ'.length∧∃ g,σ'=σ++g)
       (fun env _=>match tg env.t 136 with | .int _ i=>M.1.length - i.toNat | _=>0) ⟨_,0,rfl,by simp [hl],by simp [hl,g0],by simp [hl,g1],by simp [hl,g2],by simp [hl,g7],by simp [hl,g8],by simp [hl,g9],by simp [hl,g19],by simp [hl],by simp [hl],by simp [hl],by simp [hl],by omega,hC2,hC1,hC3,Nat.le_refl _,hpr⟩ ?_
      clear hl g0 g1 g2 g7 g8 g9 g13 g17 g19 g22 u ho1 ho2 ho3 hC1 hC2 hC3 hpr
      rintro env τ ⟨u,j,rfl,hl,g0,g1,g2,g7,g8,g9,g19,g23,g134,g135,g136,hj,hC2,hC1,hC3,hlen,hpr⟩
      have hml:M.1.length<2^40:=by omega
      rcases Qzn j M.1.length with hlt | hge
      ·have hlt':(j:Int)<(M.1.length:Int):=by omega
       have hxj:=w64 (n:=(j:Int)+1) (by omega) (by omega)
       rcases hC2 with ⟨h,_⟩ | ⟨q,hv0,hC⟩
       ·rw [h] at hlt;simp at hlt
       have hlow:=hC.low
       obtain ⟨cs,hcs,hcl,hrow⟩:=hC.row
       obtain ⟨w,hw1,hw2⟩:=hrow j M.1[j] (Qze hlt)
       have hb3:j*3+3≤M.1.length*3:=by omega
       obtain ⟨h,hh⟩:=hpr
       have fin:∀ τ',Sm τ1.length τ2.length q τ τ'→FileC τ1.length τ2.length τ' v2 M.1∧ChgC σ.length τ1.length τ' v1 B.1∧ChgC τ2.length τ3.length τ' v3 D.1∧τ3.length≤τ'.length:=fun τ' hs=>⟨.inr ⟨q,hv0,hs.own hC⟩,hC1.sm hs (.inl (Nat.le_refl _)),hC3.sm hs (.inr (Nat.le_refl _)),Nat.le_trans hlen hs.len⟩
       rcases hw2 with ⟨hwe,rfl⟩ | ⟨p',xs,hp1,hp2,hp3,rfl,hp4,hxs⟩
       ·obtain ⟨k1,k2,k3,k4⟩:=fin _ ((Sm.refl _ _ q τ).app [.cells [.int .i64 M.1[j].kind,.int .i64 M.1[j].number,.pl 1 []]])
        simp [hl,g0,g1,g2,g7,g8,g9,g19,g23,g134,g135,g136,hlt',hlt,hv0,hcs,hcl,hw1,hb3,hxj]
        exact ⟨⟨j+1,by simp,by omega,by rw [← hv0];exact k1,k2,k3,by simpa using k4,⟨_,by rw [hh,List.append_assoc]⟩⟩,by omega⟩
       ·have hqa:∀ X:Za,(τ++X)[p']? = _:=fun X=>Vf hp4
        obtain ⟨k1,k2,k3,k4⟩:=fin _ (((Sm.refl _ _ q τ).app [.cells [.int .i64 M.1[j].kind,.int .i64 M.1[j].number,.arr 1 p' 0 M.1[j].words.length]]).set hp1 hp2 hp3 (hqa _) (cs':=List.replicate M.1[j].words.length (AV.str [])++List.drop M.1[j].words.length xs) (by rw [List.length_append,List.length_replicate,List.length_drop];omega))
        simp [hl,g0,g1,g2,g7,g8,g9,g19,g23,g134,g135,g136,hlt',hlt,hv0,hcs,hcl,hw1,hb3,hxj,hqa,hxs]
        exact ⟨⟨j+1,by simp,by omega,by rw [← hv0];exact k1,k2,k3,by simpa using k4,⟨_,by rw [hh,List.append_assoc,Us (by omega)]⟩⟩,by omega⟩
      ·obtain rfl:j=M.1.length:=by omega
       obtain ⟨o1,c1,al1⟩:=hC1.one
       obtain ⟨o3,c3,al3⟩:=hC3.one
       have q1:v1.known=true:=Waj (by rw [c1];simp [-AV.one,o1])
       have q3:v3.known=true:=Waj (by rw [c3];simp [-AV.one,o3])
       have hn0:AV.nils.cells=[AV.nils]:=rfl
       simp [-AV.cells,-AV.one,-AV.known,-Vb,hn0,q1,q3,c1,c3,o1,o3,hl,g0,g1,g2,g7,g8,g9,g19,g23,g134,g135,g136]
       simp
       have pR:(τ++[AObj.cells [v1,v3]])[τ.length]? = some (.cells [v1,v3]):=by simp
       refine Yc (fun env σ'=>∃ (u:List AV) (i:Nat),env={ t:=u }∧u.length=179∧tg u 0=Xa f∧tg u 1=Xa g∧tg u 2=Wb l∧tg u 7=Xa f∧tg u 8=Xa g∧tg u 9=Wb l ∧
        tg u 145=.arr 1 τ.length 0 2∧tg u 146=.int .i64 2∧tg u 147=.int .i64 i∧i≤2∧(∃ g,σ'=σ++g)∧σ'[τ.length]? = some (.cells [v1,v3])∧ChgC σ.length τ1.length σ' v1 B.1∧ChgC τ2.length τ3.length σ' v3 D.1)
        (fun env _=>match tg env.t 147 with | .int _ i=>2 - i.toNat | _=>0) ⟨_,0,rfl,by simp [hl],by simp [hl,g0],by simp [hl,g1],by simp [hl,g2],by simp [hl,g7],by simp [hl,g8],by simp [hl,g9],by simp [hl],by simp [hl],by simp [hl],by omega,by obtain ⟨g,hg⟩:=hpr;exact ⟨g++[AObj.cells [v1,v3]],by rw [hg,List.append_assoc]⟩,pR,hC1.more _,hC3.more _⟩ ?_
       clear hl g0 g1 g2 g7 g8 g9 g19 g23 g134 g135 g136 hC1 hC2 hC3 pR u hpr hge hj
       rintro env t0 ⟨u,i,rfl,hl,g0,g1,g2,g7,g8,g9,g145,g146,g147,hi,hpr,hR,hC1,hC3⟩
       rcases Qzn i 2 with hi2 | hi2
       ·have hi2':(i:Int)<2:=by omega
        have hx:=w64 (n:=(i:Int)+1) (by omega) (by omega)
        obtain ⟨v,F,lo,hi',q,hv,k1,k2,k3,kl,kn⟩:=Wcs hC1 hC3 l01 l12 hi2
        have nF:=kl (by omega) (by omega)
        have ov:v.one=true∧∀ X,Vb Tryz.prog 62 v X=some (.int .i64 F.length):=by
         rcases k3 with ⟨rfl,rfl⟩ | ⟨rfl,_⟩
         ·exact ⟨rfl,fun X=>by simp⟩
         ·exact ⟨rfl,fun X=>by simp⟩
        obtain ⟨ov,alv⟩:=ov
        have hi1:i≤1:=by omega
        have hvi:[v1,v3][i]'(by simpa using hi2)=v:=(Qzs.1 hv).2
        have hRl:=(Qzs.1 hR).1
        simp [-Vb,-AV.one,hl,g0,g1,g2,g7,g8,g9,g145,g146,g147,hi2',hi2,hi1,hR,hvi,ov,alv]
        refine Yc (fun env σ'=>∃ (u:List AV) (j:Nat),env={ t:=u }∧u.length=179∧tg u 0=Xa f∧tg u 1=Xa g∧tg u 2=Wb l∧tg u 7=Xa f∧tg u 8=Xa g∧tg u 9=Wb l ∧
         tg u 145=.arr 1 τ.length 0 2∧tg u 146=.int .i64 2∧tg u 147=.int .i64 i∧tg u 151=v∧tg u 152=.int .i64 F.length∧tg u 153=.int .i64 j∧j≤F.length∧Sm lo hi' q t0 σ'∧∃ g,σ'=σ++g)
         (fun env _=>match tg env.t 153 with | .int _ i=>F.length - i.toNat | _=>0) ⟨_,0,rfl,by simp [hl],by simp [hl,g0],by simp [hl,g1],by simp [hl,g2],by simp [hl,g7],by simp [hl,g8],by simp [hl,g9],by simp [hl,g145],by simp [hl,g146],by simp [hl,g147],by simp [hl],by simp [hl],by simp [hl],by omega,.refl _ _ _ _,hpr⟩ ?_
        clear hl g0 g1 g2 g7 g8 g9 g145 g146 g147 u
        rintro env t1 ⟨u,j,rfl,hl,g0,g1,g2,g7,g8,g9,g145,g146,g147,g151,g152,g153,hj,hK,hpr'⟩
        rcases Qzn j F.length with hlt | hge
        ·have hlt':(j:Int)<(F.length:Int):=by omega
         have hxj:=w64 (n:=(j:Int)+1) (by omega) (by omega)
         rcases k3 with ⟨h,_⟩ | ⟨hv0,hC⟩
         ·rw [h] at hlt;simp at hlt
         obtain ⟨cs,hcs,hcl,hrow⟩:=(hK.ownC hC).row
         obtain ⟨w1,w2,hw,hwa,hwb⟩:=hrow j F[j] (Qze hlt)
         have hb6:j*6+6≤F.length*6:=by omega
         obtain ⟨h,hh⟩:=hpr'
         have ow1:w1.one=true:=by rcases hwa with ⟨_,rfl⟩ | ⟨_,_,_,_,_,rfl,_⟩<;>rfl
         have ow2:w2.one=true:=by rcases hwb with ⟨_,rfl⟩ | ⟨_,_,_,_,_,rfl,_⟩<;>rfl
         have hno:AV.nils.one=true:=rfl
         have hstr:(AV.str []).one=true:=rfl
         have hob:∀ X:Za,(t1++([AObj.cells [.int .i64 F[j].kind,.int .i64 F[j].number,.bool F[j].had,.bool F[j].has,w1,w2]]++X))[t1.length]? = some (AObj.cells [.int .i64 F[j].kind,.int .i64 F[j].number,.bool F[j].had,.bool F[j].has,w1,w2]):=fun X=>by simp
         simp [-Yf,-AV.one,Vx,Xw,hno,ow1,ow2,hl,g0,g1,g2,g7,g8,g9,g145,g146,g147,g151,g152,g153,hlt',hlt,hv0,hcs,hcl,hw,hb6]
         rw [Yf]
         simp [-Yf,-AV.one,Vx,Xw,hno,ow1,ow2,hl,g0,g1,g2,g7,g8,g9,g145,g146,g147,g151,g152,g153,hlt',hlt,hv0,hcs,hcl,hw,hb6]
         rw [Yf]
         simp [-Yf,-AV.one,Vx,Xw,hno,ow1,ow2,hl,g0,g1,g2,g7,g8,g9,g145,g146,g147,g151,g152,g153,hlt',hlt,hv0,hcs,hcl,hw,hb6]
         rw [Yf]
         simp [-Yf,-AV.one,Vx,Xw,hno,ow1,ow2,hl,g0,g1,g2,g7,g8,g9,g145,g146,g147,g151,g152,g153,hlt',hlt,hv0,hcs,hcl,hw,hb6]
         rw [Yf]
         simp [-Yf,-AV.one,Vx,Xw,hno,ow1,ow2,hl,g0,g1,g2,g7,g8,g9,g145,g146,g147,g151,g152,g153,hlt',hlt,hv0,hcs,hcl,hw,hb6]
         rw [Yf]
         have lt1:τ.length<t1.length:=by have:=hK.len;omega
         have hih:hi'≤τ.length:=by omega
         refine Xn (fun env s=>∃ u,env={ t:=u }∧u.length=179∧tg u 0=Xa f∧tg u 1=Xa g∧tg u 2=Wb l∧tg u 7=Xa f∧tg u 8=Xa g∧tg u 9=Wb l ∧
          tg u 145=.arr 1 τ.length 0 2∧tg u 146=.int .i64 2∧tg u 147=.int .i64 i∧tg u 151=v∧tg u 152=.int .i64 F.length∧tg u 153=.int .i64 j∧tg u 29=.ptr t1.length 0 ∧
          Sm lo hi' q t0 s∧(∃ g,s=σ++g)∧s[t1.length]? = some (AObj.cells [.int .i64 F[j].kind,.int .i64 F[j].number,.bool F[j].had,.bool F[j].has,w1,w2])∧WdC lo hi' q s w2 F[j].new) ?_ ?_
         ·have hwb':=hwb.sm ((Sm.refl lo hi' q t1).app [AObj.cells [.int .i64 F[j].kind,.int .i64 F[j].number,.bool F[j].had,.bool F[j].has,w1,w2]])
          have hob0:=hob []
          simp only [List.append_nil] at hob0
          rcases hwa with ⟨hwe,rfl⟩ | ⟨p',xs,hp1,hp2,hp3,rfl,hp4,hxs⟩
          ·simp [-AV.one,Vx,Xw,hno,hstr,ow1,ow2,hl,g0,g1,g2,g7,g8,g9,g145,g146,g147,g151,g152,g153,hv0]
           exact ⟨hK.app _,⟨_,by rw [hh,List.append_assoc]⟩,hwb'⟩
          ·have hqa:∀ X:Za,(t1++X)[p']? = _:=fun X=>Vf hp4
           have hs:=((Sm.refl lo hi' q t1).app [AObj.cells [.int .i64 F[j].kind,.int .i64 F[j].number,.bool F[j].had,.bool F[j].has,.arr 1 p' 0 F[j].old.length,w2]]).set hp1 hp2 hp3 (hqa _) (cs':=List.replicate F[j].old.length (AV.str [])++List.drop F[j].old.length xs) (by rw [List.length_append,List.length_replicate,List.length_drop];omega)
           have hs2:=(hK.app [AObj.cells [.int .i64 F[j].kind,.int .i64 F[j].number,.bool F[j].had,.bool F[j].has,.arr 1 p' 0 F[j].old.length,w2]]).set hp1 hp2 hp3 (hqa _) (cs':=List.replicate F[j].old.length (AV.str [])++List.drop F[j].old.length xs) (by rw [List.length_append,List.length_replicate,List.length_drop];omega)
           have hx5:((t1++[AObj.cells [.int .i64 F[j].kind,.int .i64 F[j].number,.bool F[j].had,.bool F[j].has,.arr 1 p' 0 F[j].old.length,w2]]).set p' (.cells (List.replicate F[j].old.length (AV.str [])++List.drop F[j].old.length xs)))[t1.length]? = some (AObj.cells [.int .i64 F[j].kind,.int .i64 F[j].number,.bool F[j].had,.bool F[j].has,.arr 1 p' 0 F[j].old.length,w2]):=by rw [List.getElem?_set_ne (by omega)];exact hob0
           simp [-AV.one,Vx,Xw,hno,hstr,ow1,ow2,hl,g0,g1,g2,g7,g8,g9,g145,g146,g147,g151,g152,g153,hv0,hqa,hxs]
           exact ⟨hs2,⟨_,by rw [hh,List.append_assoc,Us (by omega)]⟩,(Qzs.1 hx5).2,hwb.sm hs⟩
         ·clear hl g0 g1 g2 g7 g8 g9 g145 g146 g147 g151 g152 g153 u
          rintro env t2 ⟨u,rfl,hl,g0,g1,g2,g7,g8,g9,g145,g146,g147,g151,g152,g153,g29,hK2,⟨h2,hh2⟩,hob2,hwc⟩
          have l2:t1.length<t2.length:=(Qzs.1 hob2).1
          rcases hwc with ⟨hwe,rfl⟩ | ⟨p',xs,hp1,hp2,hp3,rfl,hp4,hxs⟩
          ·simp [hl,g0,g1,g2,g7,g8,g9,g145,g146,g147,g151,g152,g153,g29,hob2,hxj]
           exact ⟨⟨hv0,j+1,by simp,by omega,hK2,h2,hh2⟩,by omega⟩
          ·simp [hl,g0,g1,g2,g7,g8,g9,g145,g146,g147,g151,g152,g153,g29,hob2,hxj,hp4,hxs]
           exact ⟨⟨hv0,j+1,by simp,by omega,hK2.set hp1 hp2 hp3 hp4 (by rw [List.length_append,List.length_replicate,List.length_drop];omega),⟨_,by rw [hh2,Us (by omega)]⟩⟩,by omega⟩
        ·obtain rfl:j=F.length:=by omega
         have ⟨kC1,kC3⟩:=kn _ hK
         simp [-Vb,-AV.one,hl,g0,g1,g2,g7,g8,g9,g145,g146,g147,g151,g152,g153,hx]
         exact ⟨⟨i+1,by simp,by omega,hpr',by rw [hK.out _ hRl (by omega)];exact hR,kC1,kC3⟩,by omega⟩
       ·obtain rfl:i=2:=by omega
        simp [hl,g0,g1,g2,g7,g8,g9,g145,g146,g147]
        refine (Xac f f (by omega) w40f).use ?_
        simp [hl,g0,g1,g2,g7,g8,g9,g145,g146,g147]
        refine (Xac g g (by omega) w40g).use ?_
        simp [hl,g0,g1,g2,g7,g8,g9,g145,g146,g147]
        refine (Va9 l l (by omega) w40l).use ?_
        simp [hl,g0,g1,g2,g7,g8,g9,g145,g146,g147]
        refine awake_calls.use ?_
        first | exact hPost _ hpr | (simp [hl];exact hPost _ hpr)
end Ab

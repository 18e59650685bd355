/-
  Texts packed for a claim.
-/
import Derived.Test.YtcoikmapjepdjaaGreatDoorO00
import Derived.Test.YtcoikmapjepdjaaGreatDoorO17
import Derived.Test.YtcoikmapjepdjaaGreatDoorO24
import Derived.Test.YtcoikmapjepdjaaGreatDoorO25
import Derived.Test.YtcoikmapjepdjaaGreatDoorO27
set_option linter.all false
namespace Ab
open Go Go.Proofs
theorem Ygq:tsa Tryz.prog 54=some (1,false):=by kernel_rfl
theorem Xgq:Wc Tryz.prog 54=none:=by kernel_rfl
theorem Zhb:Ud Tryz.prog 54=false:=by kernel_rfl
theorem Uht:Vf Tryz.prog 54=none:=by kernel_rfl
theorem Uex:Xe Tryz.prog 54=0:=by kernel_rfl
theorem Vf7:Vg Tryz.prog 54=false:=by kernel_rfl
theorem Xih:Ue Tryz.prog 54=4:=by kernel_rfl
theorem Vc3:tby Tryz.prog 54=8:=by kernel_rfl
theorem Xfh:tz Tryz.prog 54=some (.nilf):=by kernel_rfl
theorem Uet:tzk Tryz.prog 54 1=true:=by kernel_rfl
theorem Udz:tsa Tryz.prog 128=some (2,true):=by kernel_rfl
theorem Vdl:Wc Tryz.prog 128=none:=by kernel_rfl
theorem Zdz:Ud Tryz.prog 128=false:=by kernel_rfl
theorem Vfm:Vf Tryz.prog 128=none:=by kernel_rfl
theorem Ufz:Xe Tryz.prog 128=0:=by kernel_rfl
theorem Xem:Vg Tryz.prog 128=false:=by kernel_rfl
theorem Wgi:Ue Tryz.prog 128=0:=by kernel_rfl
theorem Vfo:tby Tryz.prog 128=48:=by kernel_rfl
theorem Xhz:tz Tryz.prog 128=some (.agg [.nils,.nils]):=by kernel_rfl
theorem Yhx:tzk Tryz.prog 128 2=true:=by kernel_rfl
theorem Xid:Un Tryz.prog 128=some (2,57):=by kernel_rfl
theorem Ydc:apl Tryz.prog 128 0=some (0,1):=by kernel_rfl
theorem Yik:apl Tryz.prog 128 1=some (1,1):=by kernel_rfl
theorem Zh6 (parts:List (Nat × AV)):Ve Tryz.prog 128 parts=(Ye (apl Tryz.prog 128) [.nils,.nils] parts).map AV.agg:=Zg (by kernel_rfl) (by decide) (by kernel_rfl) parts
theorem Udv:tsa Tryz.prog 285=some (40,true):=by kernel_rfl
theorem Zfl:Wc Tryz.prog 285=none:=by kernel_rfl
theorem Yhb:Ud Tryz.prog 285=false:=by kernel_rfl
theorem Wd3:Vf Tryz.prog 285=none:=by kernel_rfl
theorem Vf4:Xe Tryz.prog 285=0:=by kernel_rfl
theorem Vez:Vg Tryz.prog 285=false:=by kernel_rfl
theorem Vdt:Ue Tryz.prog 285=0:=by kernel_rfl
theorem Wf9:tby Tryz.prog 285=320:=by kernel_rfl
theorem Ugo:tz Tryz.prog 285=some (.agg [.int .i64 0,.int .i64 0,.int .i64 0,.int .i64 0,.int .i64 0,.int .i64 0,.int .i64 0,.int .i64 0,.int .i64 0,.int .i64 0,.int .i64 0,.int .i64 0,.int .i64 0,.int .i64 0,.int .i64 0,.int .i64 0,.int .i64 0,.int .i64 0,.int .i64 0,.int .i64 0,.int .i64 0,.int .i64 0,.int .i64 0,.int .i64 0,.int .i64 0,.int .i64 0,.int .i64 0,.int .i64 0,.int .i64 0,.int .i64 0,.int .i64 0,.int .i64 0,.int .i64 0,.int .i64 0,.int .i64 0,.int .i64 0,.int .i64 0,.int .i64 0,.int .i64 0,.int .i64 0]):=by kernel_rfl
theorem Zdt:tzk Tryz.prog 285 40=true:=by kernel_rfl
theorem Wfz:Un Tryz.prog 285=some (8,283):=by kernel_rfl
theorem Vie:apl Tryz.prog 285 0=some (0,5):=by kernel_rfl
theorem Wet:apl Tryz.prog 285 1=some (5,5):=by kernel_rfl
theorem Uh0:apl Tryz.prog 285 2=some (10,5):=by kernel_rfl
theorem Xgz:apl Tryz.prog 285 3=some (15,5):=by kernel_rfl
theorem Xik:apl Tryz.prog 285 4=some (20,5):=by kernel_rfl
theorem Xgt:apl Tryz.prog 285 5=some (25,5):=by kernel_rfl
theorem Uhg:apl Tryz.prog 285 6=some (30,5):=by kernel_rfl
theorem Vh8:apl Tryz.prog 285 7=some (35,5):=by kernel_rfl
theorem Xgb:Uk Tryz.prog 285=some [1,1,1,1,1,1,1,1,1,1,1,1,1,1,1,1,1,1,1,1,1,1,1,1,1,1,1,1,1,1,1,1,1,1,1,1,1,1,1,1]:=by kernel_rfl
theorem Uh9:Vi Tryz.prog 285=some [1,1,1,1,1,1,1,1,1,1,1,1,1,1,1,1,1,1,1,1,1,1,1,1,1,1,1,1,1,1,1,1,1,1,1,1,1,1,1,1]:=by kernel_rfl
theorem Xhd (parts:List (Nat × AV)):Ve Tryz.prog 285 parts=(Ye (apl Tryz.prog 285) [.int .i64 0,.int .i64 0,.int .i64 0,.int .i64 0,.int .i64 0,.int .i64 0,.int .i64 0,.int .i64 0,.int .i64 0,.int .i64 0,.int .i64 0,.int .i64 0,.int .i64 0,.int .i64 0,.int .i64 0,.int .i64 0,.int .i64 0,.int .i64 0,.int .i64 0,.int .i64 0,.int .i64 0,.int .i64 0,.int .i64 0,.int .i64 0,.int .i64 0,.int .i64 0,.int .i64 0,.int .i64 0,.int .i64 0,.int .i64 0,.int .i64 0,.int .i64 0,.int .i64 0,.int .i64 0,.int .i64 0,.int .i64 0,.int .i64 0,.int .i64 0,.int .i64 0,.int .i64 0] parts).map AV.agg:=Zg (by kernel_rfl) (by decide) (by kernel_rfl) parts
theorem Wg0:tsa Tryz.prog 347=some (1,false):=by kernel_rfl
theorem Vd6:Wc Tryz.prog 347=none:=by kernel_rfl
theorem Zf6:Ud Tryz.prog 347=false:=by kernel_rfl
theorem Xhj:Vf Tryz.prog 347=none:=by kernel_rfl
theorem Vc6:Xe Tryz.prog 347=0:=by kernel_rfl
theorem Wea:Vg Tryz.prog 347=false:=by kernel_rfl
theorem Ve6:Ue Tryz.prog 347=1:=by kernel_rfl
theorem Xe4:tby Tryz.prog 347=8:=by kernel_rfl
theorem Zeb:tz Tryz.prog 347=some (.nilp):=by kernel_rfl
theorem Wg5:tzk Tryz.prog 347 1=true:=by kernel_rfl
theorem Yf7:tsa Tryz.prog 399=some (1,false):=by kernel_rfl
theorem Yeb:Wc Tryz.prog 399=some 401:=by kernel_rfl
theorem Yh0:Ud Tryz.prog 399=false:=by kernel_rfl
theorem Wfm:Vf Tryz.prog 399=none:=by kernel_rfl
theorem Yff:Xe Tryz.prog 399=0:=by kernel_rfl
theorem Yhg:Vg Tryz.prog 399=false:=by kernel_rfl
theorem Yf0:Ue Tryz.prog 399=2:=by kernel_rfl
theorem Ydt:tby Tryz.prog 399=24:=by kernel_rfl
theorem Wdm:tz Tryz.prog 399=some (.nils):=by kernel_rfl
theorem Yho:tzk Tryz.prog 399 1=true:=by kernel_rfl
theorem Xc6:tsa Tryz.prog 401=some (3,true):=by kernel_rfl
theorem Xg7:Wc Tryz.prog 401=none:=by kernel_rfl
theorem Vc8:Ud Tryz.prog 401=false:=by kernel_rfl
theorem Zfi:Vf Tryz.prog 401=none:=by kernel_rfl
theorem Vh4:Xe Tryz.prog 401=0:=by kernel_rfl
theorem Xdm:Vg Tryz.prog 401=false:=by kernel_rfl
theorem Xfk:Ue Tryz.prog 401=0:=by kernel_rfl
theorem Zek:tby Tryz.prog 401=24:=by kernel_rfl
theorem Xdx:tz Tryz.prog 401=some (.agg [.int .i64 0,.int .i64 0,.int .i64 0]):=by kernel_rfl
theorem Uea:tzk Tryz.prog 401 3=true:=by kernel_rfl
theorem Ve2:Wl Tryz.prog 401 0=some (0,3):=by kernel_rfl
theorem Zga:apl Tryz.prog 401 0=some (0,1):=by kernel_rfl
theorem Vgk:Wl Tryz.prog 401 1=some (1,3):=by kernel_rfl
theorem Zg5:apl Tryz.prog 401 1=some (1,1):=by kernel_rfl
theorem Yfm:Wl Tryz.prog 401 2=some (2,3):=by kernel_rfl
theorem Vgr:apl Tryz.prog 401 2=some (2,1):=by kernel_rfl
theorem Wdd:Uk Tryz.prog 401=some [1,1,1]:=by kernel_rfl
theorem Vgl:Vi Tryz.prog 401=some [1,1,1]:=by kernel_rfl
theorem Ygv (parts:List (Nat × AV)):Ve Tryz.prog 401 parts=(Ye (apl Tryz.prog 401) [.int .i64 0,.int .i64 0,.int .i64 0] parts).map AV.agg:=Zg (by kernel_rfl) (by decide) (by kernel_rfl) parts
attribute [simp] Ygq Xgq Zhb Uht Uex Vf7 Xih Vc3 Xfh Uet Udz Vdl Zdz Vfm Ufz Xem Wgi Vfo Xhz Yhx Xid Ydc Yik Zh6 Udv Zfl Yhb Wd3 Vf4 Vez Vdt Wf9 Ugo Zdt Wfz Vie Wet Uh0 Xgz Xik Xgt Uhg Vh8 Xgb Uh9 Xhd Wg0 Vd6 Zf6 Xhj Vc6 Wea Ve6 Xe4 Zeb Wg5 Yf7 Yeb Yh0 Wfm Yff Yhg Yf0 Ydt Wdm Yho Xc6 Xg7 Vc8 Zfi Vh4 Xdm Xfk Zek Xdx Uea Ve2 Zga Vgk Zg5 Yfm Vgr Wdd Vgl Ygv
end Ab
namespace Ab
open Go Go.RowKit Go.Proofs
def Vy (n lo hi:Int):Bool:=decide (lo≤n)&&decide (n≤hi)
attribute [local irreducible] aws awp aw1 Og Om Oc Oa Ogd Ov Ot awd Zb awh Wb Ogh Ohd awl Ogl Ohl awv Ogv Ohv Xb Vb QFn Ub QRo QBe Ui Uj ACode AYield
theorem Ya8 (n lo hi:Int):APure Tryz.prog 146 [.int .i64 n,.int .i64 lo,.int .i64 hi] (.bool (Vy n lo hi)):=by
 intro σ
 refine Yb Tryz.func146 rfl (Ua Tryz.func146 (by decide) rfl) ?_
 simp [Tryz.ntmps146,Vy]
 by_cases h:lo≤n<;>by_cases h2:n≤hi<;>simp [h,h2]
theorem Xda (r:Rl) (n:Int) (h:r.Ok):APure Tryz.prog 76 [Uh r,.int .i64 n] (.bool (Vy n 0 (r.men - 1))):=by
 refine APure.of fun σ=>?_
 refine Yb Tryz.func76 rfl (Ua Tryz.func76 (by decide) rfl) ?_
 have:=h.m1
 have:=h.m5
 have hw:=w64 (n:=r.men - 1) (by omega) (by omega)
 simp [Tryz.ntmps76,Uh,hw]
 refine (Ya8 _ _ _).use ?_
 simp
theorem Wdf (r:Rl) (n:Int) (h:r.Ok):APure Tryz.prog 110 [Uh r,.int .i64 n] (.bool (Vy n 0 (r.ntcs.length - 1))):=by
 refine APure.of fun σ=>?_
 refine Yb Tryz.func110 rfl (Ua Tryz.func110 (by decide) rfl) ?_
 have:=h.few
 have hw:=w64 (n:=(r.ntcs.length:Int) - 1) (by omega) (by omega)
 simp [Tryz.ntmps110,Uh,hw]
 refine (Ya8 _ _ _).use ?_
 simp
theorem Zc7 (n:Ntc) (m:Int) (hl:n.men.length≤2^40):APure Tryz.prog 160 [Zc n,.int .i64 m] (.bool (decide (m∈n.men))):=by
 refine APure.of fun σ=>?_
 refine Yb Tryz.func160 rfl (Ua Tryz.func160 (by decide) rfl) ?_
 simp [Tryz.ntmps160,Zc]
 refine (Ua3 n.men m hl).use ?_
 simp
theorem Vhl (l:List Int) (q f:Nat) (fs cs:List AV) (σ:Za) (hq:σ[q]? = some (.cells [.fn (.func f) fs cs])) (hl:l.length≤2^40) (h:∀ x∈l,∀ g,ACalls Tryz.prog f (fs++[.int .i64 x]++cs) (σ++g) fun v s=>v=.bool true∧∃ g',s=σ++g++g') :
  ACalls Tryz.prog 152 [.pl 1 (Ya l),.fn (.func 185) [] [.ptr q 0]] σ fun v s=>v=.int .i64 (-1)∧∃ g,s=σ++g:=by
 refine Yb Tryz.func152 rfl (Ua Tryz.func152 (by decide) rfl) ?_
 have hql:=(Qzs.1 hq).1
 simp [Tryz.ntmps152]
 refine Xc (fun env σ'=>∃ (u:List AV) (i:Nat) (g:Za),env={ t:=u }∧u.length=19∧tg u 0=.pl 1 (Ya l)∧tg u 1=.fn (.func 185) [] [.ptr q 0]∧tg u 7=.int .i64 l.length∧tg u 8=.int .i64 i∧σ'=σ++g∧i≤l.length)
  (fun env _=>match tg env.t 8 with | .int _ i=>l.length - i.toNat | _=>0) ⟨_,0,[],rfl,by simp,by simp,by simp,by simp [Ya],by simp,by simp,by omega⟩ ?_
 rintro env σ' ⟨u,i,g,rfl,hl0,g0,g1,g7,g8,rfl,hi⟩
 rcases Qzn i l.length with hlt | hge
 ·have hlt':(i:Int)<(l.length:Int):=by omega
  have hw1:=w64 (n:=(i:Int)+1) (by omega) (by omega)
  have hx:(Ya l)[i]? = some (.int .i64 l[i]):=by simp [Ya,hlt]
  have hil:i<(Ya l).length:=by simpa [Ya] using hlt
  have hx':(Ya l)[i]=.int .i64 l[i]:=by simp [Ya]
  have h1:ACalls Tryz.prog 185 [.int .i64 l[i],.ptr q 0] (σ++g) fun v s=>v=.bool false∧∃ g',s=σ++g++g':=by
   refine Yb Tryz.func185 rfl (Ua Tryz.func185 (by decide) rfl) ?_
   have hq2:(σ++g)[q]? = some (.cells [.fn (.func f) fs cs]):=by rw [Qzl hql];exact hq
   generalize hT:σ++g=T at hq2
   have h2:=h l[i] (List.getElem_mem hlt) g
   rw [hT] at h2
   simp [Tryz.ntmps185,hq2]
   refine StA.of ((by simpa using h2:ACalls Tryz.prog f (fs++.int .i64 l[i]::cs) T fun v s=>v=.bool true∧∃ g',s=T++g').mono ?_)
   rintro v s ⟨rfl,g',rfl⟩
   simp
  simp [hl0,g0,g1,g7,g8,hlt',hlt,hil,hx']
  refine StA.of (h1.mono ?_)
  rintro v s ⟨rfl,g',rfl⟩
  simp [hl0,g0,g1,g7,g8,hlt',hlt,hw1]
  exact ⟨⟨i+1,by simp,hlt⟩,by omega⟩
 ·have hge':¬ (i:Int)<(l.length:Int):=by omega
  simp [hl0,g0,g1,g7,g8,hge']
theorem Ubt (l:List Int) (f:Nat) (fs cs:List AV) (σ:Za) (hl:l.length≤2^40) (h:∀ x∈l,∀ g,ACalls Tryz.prog f (fs++[.int .i64 x]++cs) (σ++g) fun v s=>v=.bool true∧∃ g',s=σ++g++g') :
  ACalls Tryz.prog 108 [.pl 1 (Ya l),.fn (.func f) fs cs] σ fun v s=>v=.bool true∧s=σ:=by
 refine ACalls.forgetT ?_
 refine Yb Tryz.func108 rfl (Ua Tryz.func108 (by decide) rfl) ?_
 simp [Tryz.ntmps108]
 have h2:ACalls Tryz.prog 184 [.pl 1 (Ya l),.fn (.func 185) [] [.ptr σ.length 0]] (σ++[.cells [.fn (.func f) fs cs]]) fun v s=>v=.bool false∧∃ g,s=σ++g:=by
  refine Yb Tryz.func184 rfl (Ua Tryz.func184 (by decide) rfl) ?_
  simp [Tryz.ntmps184]
  refine StA.of ((Vhl l σ.length f fs cs _ (by simp) hl fun x hx g=>?_).mono ?_)
  ·have:=h x hx (.cells [.fn (.func f) fs cs]::g)
   simpa using this
  ·rintro v s ⟨rfl,g,rfl⟩
   simp
 refine StA.of (h2.mono ?_)
 rintro v s ⟨rfl,g,rfl⟩
 simp
 exact ⟨σ,g,rfl,rfl,fun r o h=>.inl h,.bool true,.bool _,rfl,rfl⟩
theorem Zci (l:List Int) (hl:l.length≤2^40) (hs:l.Pairwise (·<·)):APure Tryz.prog 147 [.pl 1 (Ya l)] (.bool true):=by
 intro σ
 refine Yb Tryz.func147 rfl (Ua Tryz.func147 (by decide) rfl) ?_
 simp [Tryz.ntmps147]
 refine Xc (fun env σ'=>∃ (u:List AV) (i:Nat),env={ t:=u }∧u.length=24∧tg u 0=.pl 1 (Ya l)∧tg u 5=.int .i64 l.length∧tg u 6=.int .i64 i∧σ'=σ∧i≤l.length)
  (fun env _=>match tg env.t 6 with | .int _ i=>l.length - i.toNat | _=>0) ⟨_,0,rfl,by simp,by simp,by simp [Ya],by simp,rfl,by omega⟩ ?_
 rintro env σ' ⟨u,i,rfl,hl0,g0,g5,g6,rfl,hi⟩
 rcases Qzn i l.length with hlt | hge
 ·have hlt':(i:Int)<(l.length:Int):=by omega
  have hw1:=w64 (n:=(i:Int)+1) (by omega) (by omega)
  have hil:i<(Ya l).length:=by simpa [Ya] using hlt
  have hx':(Ya l)[i]=.int .i64 l[i]:=by simp [Ya]
  simp [hl0,g0,g5,g6,hlt',hlt]
  refine Ym mixed (by kernel_rfl) ?_
  rcases Nat.eq_zero_or_pos i with rfl | hpos
  ·have hw0:IntKind.i64.wrap 1=1:=by decide
   simp [hl0,g0,g5,g6,hlt',hlt,hw0]
   exact ⟨⟨1,by simp,by omega⟩,by omega⟩
  ·have hp':(0:Int)<(i:Int):=by omega
   have hw2:=w64 (n:=(i:Int) - 1) (by omega) (by omega)
   obtain ⟨k,rfl⟩:∃ k,i=k+1:=⟨i - 1,by omega⟩
   have e:((k+1:Nat):Int) - 1=(k:Int):=by omega
   have hkl:k<(Ya l).length:=by omega
   have hk':(Ya l)[k]=.int .i64 (l[k]'(by omega)):=by simp [Ya]
   have hlt2:=(List.pairwise_iff_getElem.1 hs) k (k+1) (by omega) hlt (by omega)
   rw [e] at hw2
   have e2:(k:Int)+1 - 1=(k:Int):=by omega
   have hn:¬ l[k+1]≤l[k]:=by omega
   have c1:(0:Int)≤(k:Int)+1:=by omega
   have c2:(k:Int)+1<((Ya l).length:Int):=by omega
   simp [hl0,g0,g5,g6,hil,hx',hw2,e2,hkl,hk',hn,c1,c2]
   simp at hw1
   simp [hl0,g0,g5,g6,hw1]
   exact ⟨⟨k+2,by simp;omega,by omega⟩,by omega⟩
 ·have hge':¬ (i:Int)<(l.length:Int):=by omega
  simp [hl0,g0,g5,g6,hge']
theorem Ntc.Ok.short {m:Int} {n:Ntc} (h:n.Ok m) (hm:m≤5):n.men.length≤5:=Va2 h.srt fun x hx=>by have:=h.mem x hx;omega
theorem Zbp (r:Rl) (h:r.Ok):APure Tryz.prog 64 [Uh r] (.int .i64 0):=by
 refine APure.of fun σ=>?_
 refine Yb Tryz.func64 rfl (Ua Tryz.func64 (by decide) rfl) ?_
 have:=h.m1
 have:=h.m5
 have:=h.few
 have hnf:¬ (6:Int)<(r.ntcs.length:Int):=by omega
 have hin:Vy r.men 1 5=true:=by simp [Vy];omega
 simp [Tryz.ntmps64,Uh]
 refine (Ya8 _ _ _).use ?_
 simp [hin,hnf]
 refine Xc (fun env σ'=>∃ (u:List AV) (i:Nat) (g:Za),env={ t:=u }∧u.length=47∧tg u 1=.ptr σ.length 0∧tg u 16=.pl 2 (r.ntcs.map Zc)∧tg u 17=.int .i64 r.ntcs.length∧tg u 18=.int .i64 i∧σ'=σ++(.cells (Uh r).cells::g)∧i≤r.ntcs.length)
  (fun env _=>match tg env.t 18 with | .int _ i=>r.ntcs.length - i.toNat | _=>0) ⟨_,0,[],rfl,by simp,by simp,by simp,by simp,by simp,by simp [Uh],by omega⟩ ?_
 rintro env σ' ⟨u,i,g,rfl,hl0,g1,g16,g17,g18,rfl,hi⟩
 rcases Qzn i r.ntcs.length with hlt | hge
 ·have hlt':(i:Int)<(r.ntcs.length:Int):=by omega
  have hw1:=w64 (n:=(i:Int)+1) (by omega) (by omega)
  obtain ⟨n,hn⟩:∃ n,r.ntcs[i]=n:=⟨_,rfl⟩
  have ok:n.Ok r.men:=hn▸h.each _ (List.getElem_mem hlt)
  have hs:=ok.short h.m5
  have i1:Vy n.times 1 3=true:=by have:=ok.t1;have:=ok.t3;simp [Vy];omega
  have i4:¬ (n.men.length:Int)<n.times:=by have:=ok.le;omega
  have hev:∀ σ,ACalls Tryz.prog 108 [.pl 1 (Ya n.men),.fn (.func 76) [Uh r] []] σ fun v s=>v=.bool true∧s=σ:=fun σ=>Ubt n.men 76 [Uh r] [] σ (by omega) fun x hx g=>by
   have hxm:=ok.mem x hx
   have e:Vy x 0 (r.men - 1)=true:=by simp [Vy];omega
   have:=Xda r x h (σ++g)
   rw [e] at this
   exact this.mono fun v s hh=>⟨hh.1,[],by rw [hh.2];simp⟩
  obtain ⟨T,hT⟩:∃ T,σ++.cells (Uh r).cells::g=T:=⟨_,rfl⟩
  have hnext:∀ X:Za,(T++X)[σ.length]? = some (.cells [.int .i64 r.men,.pl 2 (r.ntcs.map Zc)]):=fun X=>by rw [← hT];simp [Uh]
  have hx1:∀ (x:AObj) (Y:Za),(T++x::Y)[T.length]? = some x:=fun x Y=>by simp
  rw [hT]
  simp [hl0,g1,g16,g17,g18,hlt',hlt,hn,Zc]
  refine (Ya8 _ _ _).use ?_
  simp [hl0,g1,g16,g17,g18,i1,hnext,hx1]
  refine StA.of ((hev _).mono ?_)
  rintro v s ⟨rfl,rfl⟩
  simp [hl0,g1,g16,g17,g18,i1,hnext,hx1]
  refine (Zci n.men (by omega) ok.srt).use ?_
  have hil:(Ya n.men).length=n.men.length:=by simp [Ya]
  simp [hl0,g1,g16,g17,g18,i1,hnext,hx1,hil,i4,hw1]
  exact ⟨⟨i+1,by simp,⟨_,by rw [← hT];simp [Uh];rfl⟩,hlt⟩,by omega⟩
 ·have hge':¬ (i:Int)<(r.ntcs.length:Int):=by omega
  simp [hl0,g1,g16,g17,g18,hge']
theorem Yhn (r:Rl) (S:List (List Int)) (h:r.Ok) (hs:ShOk r S):APure Tryz.prog 79 [Uh r,Ze S] (.int .i64 0):=by
 refine APure.of fun σ=>?_
 refine Yb Tryz.func79 rfl (Ua Tryz.func79 (by decide) rfl) ?_
 have:=h.few
 have hlen:=hs.len
 simp [Tryz.ntmps79,Uh,Ze]
 refine (Zbp r h).use ?_
 simp [hlen]
 refine Xc (fun env σ'=>∃ (u:List AV) (i:Nat),env={ t:=u }∧u.length=53∧tg u 2=.ptr σ.length 0∧tg u 20=.pl 1 (S.map fun x=>.pl 1 (Ya x))∧tg u 21=.int .i64 r.ntcs.length∧tg u 22=.int .i64 i∧σ'=σ++[.cells [.int .i64 r.men,.pl 2 (r.ntcs.map Zc)]]∧i≤r.ntcs.length)
  (fun env _=>match tg env.t 22 with | .int _ i=>r.ntcs.length - i.toNat | _=>0) ⟨_,0,rfl,by simp,by simp,by simp,by simp,by simp,by simp,by omega⟩ ?_
 rintro env σ' ⟨u,i,rfl,hl0,g2,g20,g21,g22,rfl,hi⟩
 rcases Qzn i r.ntcs.length with hlt | hge
 ·have hlt':(i:Int)<(r.ntcs.length:Int):=by omega
  have hw1:=w64 (n:=(i:Int)+1) (by omega) (by omega)
  have hlS:i<S.length:=by omega
  obtain ⟨l,hl⟩:∃ l,S[i]=l:=⟨_,rfl⟩
  obtain ⟨n,hn,ok,h1,h2,h3⟩:=hs.mem h (show S[i]? = some l by rw [Qze hlS,hl])
  have hn':r.ntcs[i]=n:=Option.some.inj ((Qze hlt).symm.trans hn)
  have hsh:=ok.short h.m5
  have hls:l.length≤5:=Va2 h2 fun x hx=>by have:=h3 x hx;have:=h.m5;omega
  have hev:∀ σ,ACalls Tryz.prog 108 [.pl 1 (Ya l),.fn (.func 160) [Zc n] []] σ fun v s=>v=.bool true∧s=σ:=fun σ=>Ubt l 160 [Zc n] [] σ (by omega) fun x hx g=>by
   have e:decide (x∈n.men)=true:=by simpa using (h3 x hx).1
   have:=Zc7 n x (by omega) (σ++g)
   rw [e] at this
   exact this.mono fun v s hh=>⟨hh.1,[],by rw [hh.2];simp⟩
  have hil:(Ya l).length=l.length:=by simp [Ya]
  obtain ⟨T,hT⟩:∃ T,σ++[AObj.cells [.int .i64 r.men,.pl 2 (r.ntcs.map Zc)]]=T:=⟨_,rfl⟩
  have hTc:T[σ.length]? = some (.cells [.int .i64 r.men,.pl 2 (r.ntcs.map Zc)]):=by rw [← hT];simp
  rw [hT]
  simp [hl0,g2,g20,g21,g22,hlt',hlt,hl,hn',hlS,hTc,hil,h1,Zc]
  refine StA.of ((hev _).mono ?_)
  rintro v s ⟨rfl,rfl⟩
  simp [hl0,g2,g20,g21,g22,hlt',hlt,hl,hn',hlS,hTc]
  refine (Zci l (by omega) h2).use ?_
  simp [hl0,g2,g20,g21,g22,hlt',hlt,hl,hn',hlS,hTc,hw1]
  exact ⟨⟨i+1,by simp,hlt⟩,by omega⟩
 ·have hge':¬ (i:Int)<(r.ntcs.length:Int):=by omega
  simp [hl0,g2,g20,g21,g22,hge']
end Ab

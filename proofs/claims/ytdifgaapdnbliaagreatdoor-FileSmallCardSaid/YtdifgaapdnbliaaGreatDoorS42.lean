/-
  Texts packed for a claim.
-/
import Derived.Test.YtdifgaapdnbliaaGreatDoorS00
import Derived.Test.YtdifgaapdnbliaaGreatDoorS21
import Derived.Test.YtdifgaapdnbliaaGreatDoorS17
import Derived.Test.YtdifgaapdnbliaaGreatDoorS05
import Derived.Test.YtdifgaapdnbliaaGreatDoorS30
set_option linter.all false
namespace Oyez
theorem Zbf {M:Nat} {f:List Rec} (h:∀ r∈f,r.words.length≤M) {p:Place} {ws:List S} (hg:getIn f p=some ws):ws.length≤M:=by
 unfold getIn at hg
 rw [Qzm] at hg
 obtain ⟨r,h1,rfl⟩:=hg
 exact h r (List.mem_of_find?_eq_some h1)
theorem Xcx {M:Nat} {base a b:List Rec} (hx:∀ r∈base,r.words.length≤M) (ha:∀ r∈a,r.words.length≤M) (hb:∀ r∈b,r.words.length≤M) (s:List Bool) (J:Jn) (p:Place) (hJ:∀ r∈J.out,r.words.length≤M) :
  ∀ r∈(Uk base a b s J p).out,r.words.length≤M:=by
 have hput:∀ (J:Jn) (w:St),(∀ r∈J.out,r.words.length≤M)→(∀ ws,w=some ws→ws.length≤M)→∀ r∈(putJ J p w).out,r.words.length≤M:=by
  intro J w h1 h2 r hr
  unfold putJ at hr
  cases w with
  | none=>exact h1 r hr
  | some ws =>
   rcases List.mem_append.1 hr with hr | hr
   ·exact h1 r hr
   ·rw [List.mem_singleton] at hr
    subst hr
    exact h2 ws rfl
 have gx:∀ ws,getIn base p=some ws→ws.length≤M:=fun ws h=>Zbf hx h
 have ga:∀ ws,getIn a p=some ws→ws.length≤M:=fun ws h=>Zbf ha h
 have gb:∀ ws,getIn b p=some ws→ws.length≤M:=fun ws h=>Zbf hb h
 rw [joinAt_step]
 unfold stepJ
 split
 ·exact hput _ _ hJ ga
 ·split
  ·exact hput _ _ hJ gb
  ·refine hput _ _ hJ fun ws h=>?_
   unfold pickJ at h
   split at h
   ·exact gx ws h
   ·split at h
    ·exact gb ws h
    ·exact ga ws h
theorem join_words {M:Nat} {base a b:List Rec} (hx:∀ r∈base,r.words.length≤M) (ha:∀ r∈a,r.words.length≤M) (hb:∀ r∈b,r.words.length≤M) (s:List Bool):∀ r∈(join base a b s).out,r.words.length≤M:=by
 unfold join
 suffices hh:∀ (l:List Place) (J:Jn),(∀ r∈J.out,r.words.length≤M)→∀ r∈(l.foldl (Uk base a b s) J).out,r.words.length≤M from hh _ _ fun r h=>by simp at h
 intro l
 induction l with
 | nil=>intro J h;exact h
 | cons p t ih=>intro J h;exact ih _ (Xcx hx ha hb s J p h)
end Oyez
namespace Ab
open Go Go.RowKit Go.Proofs
attribute [local irreducible] aws awp aw1 Og Om Oc Oa Ogd Ov Ot awd Ub awh Xc Ogh Ohd awl Ogl Ohl awv Ogv Ohv Zc Wc QFn Zd QRo QBe ACode AYield
def Zn (a b c:List Oyez.Rec):Nat→Int
 | 0=>0
 | 1=>Oyez.check a
 | 2=>if Oyez.check a=0 then Oyez.check b else Oyez.check a
 | _=>Vj a b c
theorem Yd0 (a b c:List Oyez.Rec):Vj a b c=if Zn a b c 2=0 then Oyez.check c else Zn a b c 2:=by
 unfold Vj Zn
 by_cases h1:Oyez.check a=0<;>by_cases h2:Oyez.check b=0<;>simp [h1,h2]
theorem Xc2 {a b c:List Oyez.Rec} (h:Vj a b c=0):Oyez.check a=0∧Oyez.check b=0∧Oyez.check c=0:=by
 unfold Vj at h
 split at h
 ·contradiction
 ·split at h
  ·contradiction
  ·exact ⟨by simpa using ‹¬ Oyez.check a≠0›,by simpa using ‹¬ Oyez.check b≠0›,h⟩
structure ConfIn (τ:Za) (l:List Oyez.Place) (v:AV):Prop where
 row:(l=[]∧v=.nils)∨∃ q,v=.arr 2 q 0 l.length∧τ[q]? = some (.cells (Yg l))
theorem Zdb (pre mid post:Za) (l:List Oyez.Place):ConfIn (pre++(mid++Zj l)++post) l (Xl pre.length mid.length l):=by
 refine ⟨?_⟩
 by_cases hl:l=[]
 ·exact .inl ⟨hl,by rw [Xl,if_pos hl]⟩
 ·refine .inr ⟨pre.length+mid.length,by rw [Xl,if_neg hl],?_⟩
  rw [List.append_assoc,List.append_assoc,Qzr (by omega),Qzr (by omega),show pre.length+mid.length - pre.length - mid.length=0 by omega,Zj,if_neg hl]
  rfl
theorem ConfIn.more {τ:Za} {l:List Oyez.Place} {v:AV} (h:ConfIn τ l v) (g:Za):ConfIn (τ++g) l v:=⟨by
 rcases h.row with h | ⟨q,h1,h2⟩
 ·exact .inl h
 ·exact .inr ⟨q,h1,Vf h2⟩⟩
theorem h20 (x:AV) (f:List Oyez.Rec) (h:(x=.nils∧f=[])∨x=Xa f) (hf:f.length≤2^40) (S:Za):ACalls Tryz.prog 20 [x] S fun v s=>v=Xa f∧s=S:=by
 rcases h with ⟨rfl,rfl⟩ | rfl
 ·refine APure.lend (Uaz [] (by simp)) rfl (fun i x y hx hy=>?_) (fun C C' c hv=>?_)
  ·match i,hx,hy with
   | 0,hx,hy=>simp at hx hy;subst hx;subst hy;exact .nils_pl 3
   | i+1,hx,_=>simp at hx
  ·obtain ⟨A,cap,rfl,_,_⟩:=hv.pl_inv
   exact .pl0 3 A cap hv.pl_cap
 ·exact Uaz f hf S
theorem h19 {S:Za} {lo:Nat} {f:List Oyez.Rec} {v:AV} (h:OwnIn Xm S lo f v) (hf:f.length≤2^40) (hw:∀ r∈f,r.words.length≤2^40):ACalls Tryz.prog 19 [v,Xa f] S fun v s=>v=.bool true∧s=S:=by
 have k:=Xac f f hf hw
 simp only [decide_true] at k
 refine APure.lend k rfl (fun i x y hx hy=>?_) (fun C C' c hv=>?_)
 ·match i,hx,hy with
  | 0,hx,hy=>simp only [List.getElem?_cons_zero,Option.some.injEq] at hx hy;subst hx;subst hy;exact h.fz
  | 1,hx,hy=>simp only [List.getElem?_cons_zero,List.getElem?_cons_succ,Option.some.injEq] at hx hy;subst hx;subst hy;exact Vag _ _ _
  | i+2,hx,_=>simp at hx
 ·cases hv;exact .bool _
set_option maxHeartbeats 16000000 in
theorem Xcw (a b c:List Oyez.Rec) (sec:List Bool) (la:a.length≤9223372036854775807) (lb:b.length≤9223372036854775807) (lc:c.length≤9223372036854775807) (ls:sec.length≤9223372036854775807)
  (wa:∀ r∈a,r.words.length≤9223372036854775807) (wb:∀ r∈b,r.words.length≤9223372036854775807) (wc:∀ r∈c,r.words.length≤9223372036854775807):APure Tryz.prog 5 [Xa a,Xa b,Xa c,Uj sec] (.bool true):=by
 refine APure.of fun σ=>?_
 refine Ua Tryz.func5 rfl (Wa Tryz.func5 (by decide) rfl) ?_
 have few:∀ f:List Oyez.Rec,Wu f=false→f.length≤60∧∀ r∈f,r.words.length≤10∧Yh r.words≤2^20:=by
  intro f h
  unfold Wu at h
  rw [Bool.or_eq_false_iff] at h
  refine ⟨by simpa using h.2,fun r hr=>Uak ?_⟩
  cases hq:Zi r.words with
  | false=>rfl
  | true=>exact absurd (List.any_eq_true.2 ⟨r,hr,hq⟩) (by rw [h.1];simp)
 simp [Tryz.ntmps5]
 refine (Zan a la wa).use ?_
 cases ga:Wu a with
 | true =>
  simp [ga]
  refine awake_calls.use ?_
  simp
 | false =>
 simp [ga]
 refine (Zan b lb wb).use ?_
 cases gb:Wu b with
 | true =>
  simp [ga,gb]
  refine awake_calls.use ?_
  simp
 | false =>
 simp [ga,gb]
 refine (Zan c lc wc).use ?_
 cases gc:Wu c with
 | true =>
  simp [ga,gb,gc]
  refine awake_calls.use ?_
  simp
 | false =>
 by_cases hs:60<sec.length
 ·have hs':(60:Int)<(sec.length:Int):=by omega
  simp [ga,gb,gc,hs,hs']
  refine awake_calls.use ?_
  simp
 obtain ⟨na,fa⟩:=few a ga
 obtain ⟨nb,fb⟩:=few b gb
 obtain ⟨nc,fc⟩:=few c gc
 have hs':¬ (60:Int)<(sec.length:Int):=by omega
 simp [ga,gb,gc,hs,hs']
 refine (Uaf a (by omega) fun r hr=>by have:=(fa r hr).1;omega).use ?_
 try simp [ga,gb,gc,hs,hs']
 refine (Uaf b (by omega) fun r hr=>by have:=(fb r hr).1;omega).use ?_
 try simp [ga,gb,gc,hs,hs']
 refine (Uaf c (by omega) fun r hr=>by have:=(fc r hr).1;omega).use ?_
 try simp [ga,gb,gc,hs,hs']
 refine (Wc1 sec (by omega)).use ?_
 try simp [ga,gb,gc,hs,hs']
 have ha':Few a:=fun r hr=>by have:=fa r hr;omega
 have hb':Few b:=fun r hr=>by have:=fb r hr;omega
 have hc':Few c:=fun r hr=>by have:=fc r hr;omega
 have sa:Yal a:=fun r hr=>by have:=fa r hr;omega
 have sb:Yal b:=fun r hr=>by have:=fb r hr;omega
 have sc:Yal c:=fun r hr=>by have:=fc r hr;omega
 refine Yc (fun env σ'=>∃ (u:List AV) (i:Nat),env={ t:=u }∧u.length=217∧tg u 0=Xa a∧tg u 1=Xa b∧tg u 2=Xa c∧tg u 3=Uj sec∧tg u 9=Xa a∧tg u 10=Xa b∧tg u 11=Xa c∧tg u 12=Uj sec ∧
   tg u 13=.int .i64 (Zn a b c i)∧tg u 58=.arr 1 σ.length 0 3∧tg u 59=.int .i64 3∧tg u 60=.int .i64 i∧σ'=σ++[.cells [Xa a,Xa b,Xa c]]∧i≤3)
  (fun env _=>match tg env.t 60 with | .int _ i=>3 - i.toNat | _=>0) ⟨_,0,rfl,by simp,by simp,by simp,by simp,by simp,by simp,by simp,by simp,by simp,by simp [Zn],by simp,by simp,by simp,by simp,by omega⟩ ?_
 rintro env _ ⟨u,i,rfl,hl,g0,g1,g2,g3,g9,g10,g11,g12,g13,g58,g59,g60,rfl,hi⟩
 have w1:=w64 (n:=(1:Int)) (by omega) (by omega)
 have w2:=w64 (n:=(2:Int)) (by omega) (by omega)
 have w3:=w64 (n:=(3:Int)) (by omega) (by omega)
 match i,hi with
 | 0,_ =>
  simp [hl,g0,g1,g2,g3,g9,g10,g11,g12,g13,g58,g59,g60,w1,w2,w3,Zn]
  refine (Vs a (by omega)).use ?_
  simp [hl,g0,g1,g2,g3,g9,g10,g11,g12,g13,g58,g59,g60,w1,w2,w3,Zn]
  refine (Uap a sa).use ?_
  simp [hl,g0,g1,g2,g3,g9,g10,g11,g12,g13,g58,g59,g60,w1,w2,w3,Zn]
  exact ⟨1,by simp [Zn],rfl,by omega⟩
 | 1,_ =>
  by_cases k:Oyez.check a=0
  ·simp [hl,g0,g1,g2,g3,g9,g10,g11,g12,g13,g58,g59,g60,w1,w2,w3,Zn,k]
   refine (Vs b (by omega)).use ?_
   simp [hl,g0,g1,g2,g3,g9,g10,g11,g12,g13,g58,g59,g60,w1,w2,w3,Zn,k]
   refine (Uap b sb).use ?_
   simp [hl,g0,g1,g2,g3,g9,g10,g11,g12,g13,g58,g59,g60,w1,w2,w3,Zn,k]
   exact ⟨2,by simp [Zn,k],rfl,by omega⟩
  ·simp [hl,g0,g1,g2,g3,g9,g10,g11,g12,g13,g58,g59,g60,w1,w2,w3,Zn,k]
   exact ⟨2,by simp [Zn,k],rfl,by omega⟩
 | 2,_ =>
  have k3:=Yd0 a b c
  by_cases k:Zn a b c 2=0
  ·rw [if_pos k] at k3
   rw [k] at g13
   simp [hl,g0,g1,g2,g3,g9,g10,g11,g12,g13,g58,g59,g60,w1,w2,w3]
   refine (Vs c (by omega)).use ?_
   simp [hl,g0,g1,g2,g3,g9,g10,g11,g12,g13,g58,g59,g60,w1,w2,w3]
   refine (Uap c sc).use ?_
   simp [hl,g0,g1,g2,g3,g9,g10,g11,g12,g13,g58,g59,g60,w1,w2,w3]
   exact ⟨3,by simp [Zn,k3],rfl,by omega⟩
  ·rw [if_neg k] at k3
   simp [hl,g0,g1,g2,g3,g9,g10,g11,g12,g13,g58,g59,g60,w1,w2,w3,k]
   exact ⟨3,by simp [Zn,k3],rfl,by omega⟩
 | 3,_ =>
  have e3:Zn a b c 3=Vj a b c:=rfl
  rw [e3] at g13
  obtain ⟨τ,hτ⟩:∃ τ,σ++[AObj.cells [Xa a,Xa b,Xa c]]=τ:=⟨_,rfl⟩
  have hpre:∃ g,τ=σ++g:=⟨_,hτ.symm⟩
  rw [hτ]
  simp [-Ud,hl,g0,g1,g2,g3,g9,g10,g11,g12,g13,g58,g59,g60]
  rw [Ud]
  simp [-Ud,hl,g0,g1,g2,g3,g9,g10,g11,g12,g13,g58,g59,g60]
  refine Xn (fun env σ'=>∃ (u:List AV) (F S:List Oyez.Rec) (K:List Oyez.Chg) (E D:Int) (x17 x18 x19:AV),env={ t:=u }∧u.length=217∧tg u 0=Xa a∧tg u 1=Xa b∧tg u 2=Xa c∧tg u 3=Uj sec∧tg u 9=Xa a∧tg u 10=Xa b∧tg u 11=Xa c∧tg u 12=Uj sec ∧
   tg u 13=.int .i64 E∧tg u 16=.int .i64 D∧tg u 17=x17∧tg u 18=x18∧tg u 19=x19∧σ'=τ∧Yv a b c=(F,K.map Oyez.Chg.place,E)∧Zab a b c sec=(S,D) ∧
   ((x17=.nils∧F=[])∨x17=Xa F)∧((x18=.nils∧S=[])∨x18=Xa S)∧((x19=.nils∧K=[])∨x19=Wb K)∧F.length≤5000∧S.length≤5000∧K.length≤5000∧(∀ r∈F,r.words.length≤10)∧∀ r∈S,r.words.length≤10) ?_ ?_
  ·have hwd:∀ (M:Nat),10≤M→∀ r∈a++b++c,r.words.length≤M:=by
    intro M hM r hr
    rcases List.mem_append.1 hr with hr | hr
    ·rcases List.mem_append.1 hr with hr | hr
     ·have:=(fa r hr).1;omega
     ·have:=(fb r hr).1;omega
    ·have:=(fc r hr).1;omega
   by_cases h0:Vj a b c=0
   ·obtain ⟨ka,kb,kc⟩:=Xc2 h0
    have r0:=Vcm a b c none (by omega) (by omega) (by omega) (by simp) (hwd _ (by omega))
    have r1:=Vcm a b c (some sec) (by omega) (by omega) (by omega) (by simp;omega) (hwd _ (by omega))
    have l0:=Oyez.joinTo_len a b c [] 5 0
    have l1:=Oyez.joinTo_len a b c sec 5 0
    simp only [Option.getD_none,Option.getD_some,Zp] at r0 r1
    rw [Oyez.joinTo_all ka kb kc] at r0 r1 l0 l1
    have jw:∀ s,∀ r∈(Oyez.join a b c s).out,r.words.length≤10:=fun s=>Oyez.join_words (fun r h=>(fa r h).1) (fun r h=>(fb r h).1) (fun r h=>(fc r h).1) s
    have hJ:Yv a b c=if 40<(Oyez.join a b c []).out.length then ([],[],2) else ((Oyez.join a b c []).out,(Oyez.join a b c []).conf.map Oyez.Chg.place,0):=by unfold Yv;rw [if_neg (by simp [h0])]
    have hS:Zab a b c sec=if (Oyez.join a b c []).conf.length≠sec.length then ([],2) else if 40<(Oyez.join a b c sec).out.length then ([],2) else ((Oyez.join a b c sec).out,0):=by unfold Zab;rw [if_neg (by simp [h0])]
    have jw0:=jw []
    have jw1:=jw sec
    have hKK:=Oyez.join_conf a b c sec []
    obtain ⟨O,hO⟩:∃ O,(Oyez.join a b c []).out=O:=⟨_,rfl⟩
    obtain ⟨S,hSe⟩:∃ S,(Oyez.join a b c sec).out=S:=⟨_,rfl⟩
    obtain ⟨K,hK⟩:∃ K,(Oyez.join a b c []).conf=K:=⟨_,rfl⟩
    rw [hKK] at r1 l1
    rw [hO,hK] at r0 l0 hJ
    rw [hSe,hK] at r1 l1 hS
    rw [hO] at jw0
    rw [hSe] at jw1
    simp [h0,hl,g0,g1,g2,g3,g9,g10,g11,g12,g13]
    refine (Vs a (by omega)).use ?_
    refine (Vs b (by omega)).use ?_
    refine (Vs c (by omega)).use ?_
    refine r0.use ?_
    simp [h0,hl,g0,g1,g2,g3,g9,g10,g11,g12,g13]
    refine (Vs a (by omega)).use ?_
    refine (Vs b (by omega)).use ?_
    refine (Vs c (by omega)).use ?_
    refine r1.use ?_
    simp [h0,hl,g0,g1,g2,g3,g9,g10,g11,g12,g13]
    by_cases hk:K.length=sec.length
    ·rw [if_neg (by simp [hk])] at hS
     have hk':(K.length:Int)=(sec.length:Int):=by omega
     by_cases hs40:40<S.length
     ·rw [if_pos hs40] at hS
      have hs40':(40:Int)<(S.length:Int):=by omega
      by_cases ho40:40<O.length
      ·rw [if_pos ho40] at hJ
       have ho40':(40:Int)<(O.length:Int):=by omega
       simp [h0,hl,g0,g1,g2,g3,g9,g10,g11,g12,g13,hk,hk',hs40,hs40',ho40,ho40']
       refine ⟨[],[],[],by simpa using hJ,hS,rfl,rfl,rfl,?_,?_,?_,?_,?_⟩<;>first | (simp;done) | omega | assumption
      ·rw [if_neg ho40] at hJ
       have ho40':¬ (40:Int)<(O.length:Int):=by omega
       simp [h0,hl,g0,g1,g2,g3,g9,g10,g11,g12,g13,hk,hk',hs40,hs40',ho40,ho40']
       refine ⟨O,[],K,by simpa using hJ,hS,rfl,rfl,rfl,?_,?_,?_,?_,?_⟩<;>first | (simp;done) | omega | assumption
     ·rw [if_neg hs40] at hS
      have hs40':¬ (40:Int)<(S.length:Int):=by omega
      by_cases ho40:40<O.length
      ·rw [if_pos ho40] at hJ
       have ho40':(40:Int)<(O.length:Int):=by omega
       simp [h0,hl,g0,g1,g2,g3,g9,g10,g11,g12,g13,hk,hk',hs40,hs40',ho40,ho40']
       refine ⟨[],S,[],by simpa using hJ,hS,rfl,rfl,rfl,?_,?_,?_,?_,?_⟩<;>first | (simp;done) | omega | assumption
      ·rw [if_neg ho40] at hJ
       have ho40':¬ (40:Int)<(O.length:Int):=by omega
       simp [h0,hl,g0,g1,g2,g3,g9,g10,g11,g12,g13,hk,hk',hs40,hs40',ho40,ho40']
       refine ⟨O,S,K,by simpa using hJ,hS,rfl,rfl,rfl,?_,?_,?_,?_,?_⟩<;>first | (simp;done) | omega | assumption
    ·rw [if_pos hk] at hS
     have hk':¬ (K.length:Int)=(sec.length:Int):=by omega
     by_cases ho40:40<O.length
     ·rw [if_pos ho40] at hJ
      have ho40':(40:Int)<(O.length:Int):=by omega
      simp [h0,hl,g0,g1,g2,g3,g9,g10,g11,g12,g13,hk,hk',ho40,ho40']
      refine ⟨[],[],[],by simpa using hJ,hS,rfl,rfl,rfl,?_,?_,?_,?_,?_⟩<;>first | (simp;done) | omega | assumption
     ·rw [if_neg ho40] at hJ
      have ho40':¬ (40:Int)<(O.length:Int):=by omega
      simp [h0,hl,g0,g1,g2,g3,g9,g10,g11,g12,g13,hk,hk',ho40,ho40']
      refine ⟨O,[],K,by simpa using hJ,hS,rfl,rfl,rfl,?_,?_,?_,?_,?_⟩<;>first | (simp;done) | omega | assumption
   ·have hJ:Yv a b c=([],[],Vj a b c):=by unfold Yv;rw [if_pos h0]
    have hS:Zab a b c sec=([],Vj a b c):=by unfold Zab;rw [if_pos h0]
    simp [h0,hl,g0,g1,g2,g3,g9,g10,g11,g12,g13]
    exact ⟨[],[],[],by simpa using hJ,hS,rfl,rfl,rfl,by simp,by simp,by simp,by simp,by simp⟩
  ·rintro env τ ⟨u,F,S,K,E,D,x17,x18,x19,rfl,hl,g0,g1,g2,g3,g9,g10,g11,g12,g13,g16,g17,g18,g19,rfl,hJ,hS,c17,c18,c19,nF,nS,nK,wF,wS⟩
   simp [hl,g0,g1,g2,g3,g9,g10,g11,g12,g13,g16,g17,g18,g19]
   refine StA.of ((Zdz a b c ha' hb' hc' ⟨by omega,by omega,by omega⟩ _).mono ?_)
   rintro _ _ ⟨rfl,rfl⟩
   rw [hJ]
   dsimp only
   have o1:=Yb5 τ (Zj (K.map Oyez.Chg.place)) F
   have cf:=Zdb τ (Ye τ.length 0 F) [] (K.map Oyez.Chg.place)
   have al1:=fun S=>Zba τ.length 0 F S
   have alc:=fun S=>Yca τ.length (Ye τ.length 0 F).length (K.map Oyez.Chg.place) S
   rw [List.length_map] at alc
   rw [List.append_nil] at cf
   obtain ⟨v1,hv1⟩:∃ v,Yi τ.length 0 F=v:=⟨_,rfl⟩
   obtain ⟨vc,hvc⟩:∃ v,Xl τ.length (Ye τ.length 0 F).length (K.map Oyez.Chg.place)=v:=⟨_,rfl⟩
   have lo1:τ.length+(Ye τ.length 0 F).length≤(τ++(Ye τ.length 0 F++Zj (K.map Oyez.Chg.place))).length:=by simp
   obtain ⟨τ1,hτ1⟩:∃ x,τ++(Ye τ.length 0 F++Zj (K.map Oyez.Chg.place))=x:=⟨_,rfl⟩
   rw [hτ1] at o1 cf lo1 ⊢
   rw [hv1] at o1 al1 ⊢
   rw [hvc] at cf alc ⊢
   have pre1:∃ g,τ1=σ++g:=by
    obtain ⟨g,hg⟩:=hpre
    exact ⟨_,by rw [← hτ1,hg,List.append_assoc]⟩
   simp [-Vb,hl,g0,g1,g2,g3,g9,g10,g11,g12,g13,g16,g17,g18,g19]
   refine StA.of ((Udb a b c sec ha' hb' hc' ⟨by omega,by omega,by omega⟩ (by omega) _).mono ?_)
   rintro _ _ ⟨rfl,rfl⟩
   rw [hS]
   dsimp only
   have o2:=Yb5 τ1 [] S
   rw [List.append_nil] at o2
   have al2:=fun X=>Zba τ1.length 0 S X
   have o1:=o1.more (Ye τ1.length 0 S)
   have cf:=cf.more (Ye τ1.length 0 S)
   obtain ⟨v2,hv2⟩:∃ v,Yi τ1.length 0 S=v:=⟨_,rfl⟩
   obtain ⟨τ2,hτ2⟩:∃ x,τ1++Ye τ1.length 0 S=x:=⟨_,rfl⟩
   have lo2:τ1.length+(Ye τ1.length 0 S).length≤(τ1++Ye τ1.length 0 S).length:=by simp
   rw [hτ2] at o1 o2 cf lo2 ⊢
   rw [hv2] at o2 al2 ⊢
   have pre2:∃ g,τ2=σ++g:=by
    obtain ⟨g,hg⟩:=pre1
    exact ⟨g++Ye τ1.length 0 S,by rw [← hτ2,hg,List.append_assoc]⟩
   have al19:∀ X,Vb Tryz.prog 44 x19 X=some (.int .i64 K.length):=by
    intro X
    rcases c19 with ⟨rfl,rfl⟩ | rfl<;>simp
   simp [-Vb,hl,g0,g1,g2,g3,g9,g10,g11,g12,g13,g16,g17,g18,g19]
   refine StA.of ((h20 x17 F c17 (by omega) _).mono ?_)
   rintro _ s ⟨rfl,hs4⟩
   obtain rfl:=hs4.symm
   simp [-Vb,hl,g0,g1,g2,g3,g9,g10,g11,g12,g13,g16,g17,g18,g19]
   refine StA.of ((h19 o1 (by omega) (fun r hr=>by have:=wF r hr;omega)).mono ?_)
   rintro _ s ⟨rfl,hs4⟩
   obtain rfl:=hs4.symm
   simp [-Vb,hl,g0,g1,g2,g3,g9,g10,g11,g12,g13,g16,g17,g18,g19]
   refine StA.of ((h20 x18 S c18 (by omega) _).mono ?_)
   rintro _ s ⟨rfl,hs4⟩
   obtain rfl:=hs4.symm
   simp [-Vb,hl,g0,g1,g2,g3,g9,g10,g11,g12,g13,g16,g17,g18,g19]
   refine StA.of ((h19 o2 (by omega) (fun r hr=>by have:=wS r hr;omega)).mono ?_)
   rintro _ s ⟨rfl,hs4⟩
   obtain rfl:=hs4.symm
   simp [-Vb,hl,g0,g1,g2,g3,g9,g10,g11,g12,g13,g16,g17,g18,g19,al19,alc]
   refine Yc (fun env σ'=>∃ (u:List AV) (i:Nat) (g:Za),env={ t:=u }∧u.length=217∧tg u 0=Xa a∧tg u 1=Xa b∧tg u 2=Xa c∧tg u 3=Uj sec∧tg u 9=Xa a∧tg u 10=Xa b∧tg u 11=Xa c∧tg u 12=Uj sec ∧
    tg u 19=x19∧tg u 20=v1∧tg u 23=v2∧tg u 152=vc∧tg u 153=.int .i64 K.length∧tg u 154=.int .i64 i∧σ'=τ2++g∧i≤K.length)
    (fun env _=>match tg env.t 154 with | .int _ i=>K.length - i.toNat | _=>0) ⟨_,0,[],rfl,by simp [hl],by simp [hl,g0],by simp [hl,g1],by simp [hl,g2],by simp [hl,g3],by simp [hl,g9],by simp [hl,g10],by simp [hl,g11],by simp [hl,g12],by simp [hl,g19],by simp [hl],by simp [hl],by simp [hl],by simp [hl],by simp [hl],by simp,by omega⟩ ?_
   clear hl g0 g1 g2 g3 g9 g10 g11 g12 g13 g16 g17 g18 g19 u
   rintro env _ ⟨u,i,g,rfl,hl,g0,g1,g2,g3,g9,g10,g11,g12,g19,g20,g23,g152,g153,g154,rfl,hi⟩
   rcases Qzn i K.length with hlt | hge
   ·have hlt':(i:Int)<(K.length:Int):=by omega
    have hx:=w64 (n:=(i:Int)+1) (by omega) (by omega)
    obtain ⟨q,rfl,hq⟩:∃ q,vc=.arr 2 q 0 K.length∧τ2[q]? = some (.cells (Yg (K.map Oyez.Chg.place))):=by
     rcases cf.row with ⟨h,_⟩ | ⟨q,h1,h2⟩
     ·have:K=[]:=List.map_eq_nil_iff.1 h
      rw [this] at hlt
      simp at hlt
     ·rw [List.length_map] at h1
      exact ⟨q,h1,h2⟩
    have e19:x19=Wb K:=by
     rcases c19 with ⟨_,h⟩ | h
     ·rw [h] at hlt
      simp at hlt
     ·exact h
    subst e19
    have hqa:∀ X:Za,(τ2++X)[q]? = _:=fun X=>Vf hq
    have hcl:=Vak (K.map Oyez.Chg.place)
    rw [List.length_map] at hcl
    have hcs:=Vat (K.map Oyez.Chg.place) i (by simpa using hlt)
    rw [List.getElem_map] at hcs
    simp only [Oyez.Chg.place] at hcs
    have hb:i*2+2≤K.length*2:=by omega
    simp [hl,g0,g1,g2,g3,g9,g10,g11,g12,g19,g20,g23,g152,g153,g154,hlt',hlt,hqa,hcl,hcs,hb]
    refine Zg mixed (by kernel_rfl) ?_
    simp [hl,g0,g1,g2,g3,g9,g10,g11,g12,g19,g20,g23,g152,g153,g154,hlt',hlt,hqa,hcl,hcs,hb,hx,Nat.add_assoc]
    exact ⟨⟨i+1,by simp,by omega⟩,by omega⟩
   ·obtain rfl:i=K.length:=by omega
    have row1:v1.cells=[v1]∧v1.one=true:=by rcases o1.row with ⟨_,rfl⟩ | ⟨_,rfl,_⟩<;>exact ⟨rfl,rfl⟩
    have row2:v2.cells=[v2]∧v2.one=true:=by rcases o2.row with ⟨_,rfl⟩ | ⟨_,rfl,_⟩<;>exact ⟨rfl,rfl⟩
    have q1:v1.known=true:=Waj (by rw [row1.1];simp [-AV.one,row1.2])
    have q2:v2.known=true:=Waj (by rw [row2.1];simp [-AV.one,row2.2])
    have hn0:AV.nils.cells=[AV.nils]:=rfl
    simp [-AV.cells,-AV.one,-AV.known,-Vb,hn0,q1,q2,row1.1,row1.2,row2.1,row2.2,al1,hl,g0,g1,g2,g3,g9,g10,g11,g12,g19,g20,g23,g152,g153,g154]
    simp
    obtain ⟨R,hRe⟩:∃ R,τ2.length+g.length=R:=⟨_,rfl⟩
    rw [hRe]
    have hRl:∀ X:Za,(τ2++(g++[AObj.cells [v1,v2]])++X)[R]? = some (.cells [v1,v2]):=fun X=>by
     rw [List.append_assoc,Qzr (by omega),List.append_assoc,Qzr (by omega),show R - τ2.length - g.length=0 by omega]
     rfl
    have p1:=(o1.more (g++[AObj.cells [v1,v2]])).many
    have p2:=(o2.more (g++[AObj.cells [v1,v2]])).many
    have pR:(τ2++(g++[AObj.cells [v1,v2]]))[R]? = some (.cells [v1,v2]):=by simpa using hRl []
    have pre3:∃ h,τ2++(g++[AObj.cells [v1,v2]])=σ++h:=by
     obtain ⟨h,hh⟩:=pre2
     exact ⟨h++(g++[AObj.cells [v1,v2]]),by rw [hh,List.append_assoc]⟩
    have hσ0:σ.length≤τ.length:=by obtain ⟨h,hh⟩:=hpre;rw [hh];simp
    have hσ1:σ.length≤τ1.length:=by omega
    have pl3:R<(τ2++(g++[AObj.cells [v1,v2]])).length:=(Qzs.1 pR).1
    refine Yc (fun env σ'=>∃ (u:List AV) (i:Nat) (τ':Za),env={ t:=u }∧u.length=217∧tg u 0=Xa a∧tg u 1=Xa b∧tg u 2=Xa c∧tg u 3=Uj sec∧tg u 9=Xa a∧tg u 10=Xa b∧tg u 11=Xa c∧tg u 12=Uj sec ∧
     tg u 180=.arr 1 R 0 2∧tg u 181=.int .i64 2∧tg u 182=.int .i64 i∧σ'=τ'∧(∃ g,τ'=σ++g)∧i≤2∧(i<1→OwnIn Xar τ' τ.length F v1)∧(i<2→OwnIn Xar τ' τ1.length S v2)∧(i<2→τ'[R]? = some (.cells [v1,v2])))
     (fun env _=>match tg env.t 182 with | .int _ i=>2 - i.toNat | _=>0) ⟨_,0,_,rfl,by simp [hl],by simp [hl,g0],by simp [hl,g1],by simp [hl,g2],by simp [hl,g3],by simp [hl,g9],by simp [hl,g10],by simp [hl,g11],by simp [hl,g12],by simp [hl],by simp [hl],by simp [hl],rfl,pre3,by omega,fun _=>p1,fun _=>p2,fun _=>pR⟩ ?_
    clear hl g0 g1 g2 g3 g9 g10 g11 g12 g19 g20 g23 g152 g153 g154
    rintro env τ' ⟨u,i,_,rfl,hl,g0,g1,g2,g3,g9,g10,g11,g12,g180,g181,g182,rfl,hpr,hi2,m1,m2,mR⟩
    match i,hi2 with
    | 0,_ =>
     have m1:=m1 (by omega)
     have m2:=m2 (by omega)
     have mR:=mR (by omega)
     simp [-Vb,hl,g0,g1,g2,g3,g9,g10,g11,g12,g180,g181,g182,mR,al1,row1.2]
     refine Yc (fun env σ'=>∃ (u:List AV) (j:Nat) (τ'':Za),env={ t:=u }∧u.length=217∧tg u 0=Xa a∧tg u 1=Xa b∧tg u 2=Xa c∧tg u 3=Uj sec∧tg u 9=Xa a∧tg u 10=Xa b∧tg u 11=Xa c∧tg u 12=Uj sec ∧
      tg u 180=.arr 1 R 0 2∧tg u 181=.int .i64 2∧tg u 182=.int .i64 0∧tg u 186=v1∧tg u 187=.int .i64 F.length∧tg u 188=.int .i64 j∧σ'=τ''∧Keep τ.length (τ.length+(Ye τ.length 0 F).length) τ' τ''∧(∃ g,τ''=σ++g)∧j≤F.length)
      (fun env _=>match tg env.t 188 with | .int _ i=>F.length - i.toNat | _=>0) ⟨_,0,τ',rfl,by simp [hl],by simp [hl,g0],by simp [hl,g1],by simp [hl,g2],by simp [hl,g3],by simp [hl,g9],by simp [hl,g10],by simp [hl,g11],by simp [hl,g12],by simp [hl,g180],by simp [hl,g181],by simp [hl,g182],by simp [hl],by simp [hl],by simp [hl],rfl,.refl _ _ _,hpr,by omega⟩ ?_
     clear hl g0 g1 g2 g3 g9 g10 g11 g12 g180 g181 g182
     rintro env τ'' ⟨u,j,_,rfl,hl,g0,g1,g2,g3,g9,g10,g11,g12,g180,g181,g182,g186,g187,g188,rfl,hK,hpr',hj⟩
     rcases Qzn j F.length with hlt | hge
     ·have hlt':(j:Int)<(F.length:Int):=by omega
      have hx:=w64 (n:=(j:Int)+1) (by omega) (by omega)
      rcases (hK.own m1).row with ⟨h,_⟩ | ⟨hF,hv,cs,hcs,hcl,hrow⟩
      ·rw [h] at hlt;simp at hlt
      obtain ⟨w,hw1,hw2⟩:=hrow j F[j] (Qze hlt)
      have hb3:j*3+3≤F.length*3:=by omega
      have hgl:=Xcf τ.length F
      rw [if_neg hF] at hgl
      rcases hw2 with ⟨hwe,rfl⟩ | ⟨q,xs,hq1,hq2,rfl,hq,hxs⟩
      ·simp [hl,g0,g1,g2,g3,g9,g10,g11,g12,g180,g181,g182,g186,g187,g188,hlt',hlt,hv,hcs,hcl,hw1,hb3,hx]
       obtain ⟨h,hh⟩:=hpr'
       exact ⟨⟨j+1,by simp,hK.app _,⟨_,by rw [hh,List.append_assoc]⟩,by omega⟩,by omega⟩
      ·have hqa:∀ X:Za,(τ''++X)[q]? = _:=fun X=>Vf hq
       simp [hl,g0,g1,g2,g3,g9,g10,g11,g12,g180,g181,g182,g186,g187,g188,hlt',hlt,hv,hcs,hcl,hw1,hb3,hx,hqa,show xs.length=F[j].words.length from hxs]
       obtain ⟨h,hh⟩:=hpr'
       have hxs':xs.length=F[j].words.length:=hxs
       exact ⟨⟨j+1,by simp,(hK.app _).set hq1 (by omega) (hqa _) (by rw [List.length_append,List.length_replicate,List.length_drop];omega),⟨_,by rw [hh,List.append_assoc,Us (by omega)]⟩,by omega⟩,by omega⟩
     ·obtain rfl:j=F.length:=by omega
      simp [-Vb,hl,g0,g1,g2,g3,g9,g10,g11,g12,g180,g181,g182,g186,g187,g188,w1,w2]
      exact ⟨1,rfl,hpr',by omega,fun h=>by omega,fun _=>hK.own2 lo1 m2,fun _=>by rw [hK.out R (Qzs.1 mR).1 (by omega)];exact mR⟩
    | 1,_ =>
     have m2:=m2 (by omega)
     have mR:=mR (by omega)
     simp [-Vb,hl,g0,g1,g2,g3,g9,g10,g11,g12,g180,g181,g182,mR,al2,row2.2]
     refine Yc (fun env σ'=>∃ (u:List AV) (j:Nat) (τ'':Za),env={ t:=u }∧u.length=217∧tg u 0=Xa a∧tg u 1=Xa b∧tg u 2=Xa c∧tg u 3=Uj sec∧tg u 9=Xa a∧tg u 10=Xa b∧tg u 11=Xa c∧tg u 12=Uj sec ∧
      tg u 180=.arr 1 R 0 2∧tg u 181=.int .i64 2∧tg u 182=.int .i64 1∧tg u 186=v2∧tg u 187=.int .i64 S.length∧tg u 188=.int .i64 j∧σ'=τ''∧Keep τ1.length (τ1.length+(Ye τ1.length 0 S).length) τ' τ''∧(∃ g,τ''=σ++g)∧j≤S.length)
      (fun env _=>match tg env.t 188 with | .int _ i=>S.length - i.toNat | _=>0) ⟨_,0,τ',rfl,by simp [hl],by simp [hl,g0],by simp [hl,g1],by simp [hl,g2],by simp [hl,g3],by simp [hl,g9],by simp [hl,g10],by simp [hl,g11],by simp [hl,g12],by simp [hl,g180],by simp [hl,g181],by simp [hl,g182],by simp [hl],by simp [hl],by simp [hl],rfl,.refl _ _ _,hpr,by omega⟩ ?_
     clear hl g0 g1 g2 g3 g9 g10 g11 g12 g180 g181 g182
     rintro env τ'' ⟨u,j,_,rfl,hl,g0,g1,g2,g3,g9,g10,g11,g12,g180,g181,g182,g186,g187,g188,rfl,hK,hpr',hj⟩
     rcases Qzn j S.length with hlt | hge
     ·have hlt':(j:Int)<(S.length:Int):=by omega
      have hx:=w64 (n:=(j:Int)+1) (by omega) (by omega)
      rcases (hK.own m2).row with ⟨h,_⟩ | ⟨hF,hv,cs,hcs,hcl,hrow⟩
      ·rw [h] at hlt;simp at hlt
      obtain ⟨w,hw1,hw2⟩:=hrow j S[j] (Qze hlt)
      have hb3:j*3+3≤S.length*3:=by omega
      have hgl:=Xcf τ1.length S
      rw [if_neg hF] at hgl
      rcases hw2 with ⟨hwe,rfl⟩ | ⟨q,xs,hq1,hq2,rfl,hq,hxs⟩
      ·simp [hl,g0,g1,g2,g3,g9,g10,g11,g12,g180,g181,g182,g186,g187,g188,hlt',hlt,hv,hcs,hcl,hw1,hb3,hx]
       obtain ⟨h,hh⟩:=hpr'
       exact ⟨⟨j+1,by simp,hK.app _,⟨_,by rw [hh,List.append_assoc]⟩,by omega⟩,by omega⟩
      ·have hqa:∀ X:Za,(τ''++X)[q]? = _:=fun X=>Vf hq
       simp [hl,g0,g1,g2,g3,g9,g10,g11,g12,g180,g181,g182,g186,g187,g188,hlt',hlt,hv,hcs,hcl,hw1,hb3,hx,hqa,show xs.length=S[j].words.length from hxs]
       obtain ⟨h,hh⟩:=hpr'
       have hxs':xs.length=S[j].words.length:=hxs
       exact ⟨⟨j+1,by simp,(hK.app _).set hq1 (by omega) (hqa _) (by rw [List.length_append,List.length_replicate,List.length_drop];omega),⟨_,by rw [hh,List.append_assoc,Us (by omega)]⟩,by omega⟩,by omega⟩
     ·obtain rfl:j=S.length:=by omega
      simp [-Vb,hl,g0,g1,g2,g3,g9,g10,g11,g12,g180,g181,g182,g186,g187,g188,w1,w2]
      exact ⟨2,rfl,hpr',by omega,fun h=>by omega,fun h=>by omega,fun h=>by omega⟩
    | 2,_ =>
     simp [hl,g0,g1,g2,g3,g9,g10,g11,g12,g180,g181,g182]
     refine (Xac a a (by omega) fun r hr=>by have:=(fa r hr).1;omega).use ?_
     simp [hl,g0,g1,g2,g3,g9,g10,g11,g12,g180,g181,g182]
     refine (Xac b b (by omega) fun r hr=>by have:=(fb r hr).1;omega).use ?_
     simp [hl,g0,g1,g2,g3,g9,g10,g11,g12,g180,g181,g182]
     refine (Xac c c (by omega) fun r hr=>by have:=(fc r hr).1;omega).use ?_
     simp [hl,g0,g1,g2,g3,g9,g10,g11,g12,g180,g181,g182]
     refine (Vem sec sec (by omega)).use ?_
     simp [hl,g0,g1,g2,g3,g9,g10,g11,g12,g180,g181,g182]
     refine awake_calls.use ?_
     simp [hl]
     exact hpr
end Ab

/-
  Texts packed for a claim.
-/
import Derived.Test.YtcoikmapjepdjaaGreatDoorO00
import Derived.Test.YtcoikmapjepdjaaGreatDoorO35
set_option linter.all false
namespace Ab
open Go Go.RowKit Go.Proofs
def RowAt (b:Nat) (g:Za) (o:Option Nat) (v:AV) (l:List Int):Prop:=∃ p rest,v=.arr 1 (b+p) 0 l.length∧some p≠o∧g[p]? = some (.cells (Ya l++rest))
theorem RowAt.fz {b n:Nat} {g:Za} {o:Option Nat} {v:AV} {l:List Int} {S:Za} (h:RowAt b g o v l) (hn:n≤b) (hg:∀ p x,g[p]? = some x→S[b+p]? = some x):Fz n S v (.pl 1 (Ya l)):=by
 obtain ⟨p,rest,rfl,_,hp⟩:=h
 refine Ua4 (by omega) (hg _ _ hp) fun i x hx=>?_
 have hi:=(Qzs.1 hx).1
 rw [Nat.zero_add,Qzl (by simpa [Ya] using hi)]
 unfold Ya
 rw [Qzp,hx]
 rfl
theorem RowAt.more {b:Nat} {g:Za} {o:Option Nat} {v:AV} {l:List Int} (h:RowAt b g o v l) (X:Za):RowAt b (g++X) o v l:=by
 obtain ⟨p,rest,h1,h2,h3⟩:=h
 exact ⟨p,rest,h1,h2,by rw [Qzl (Qzs.1 h3).1];exact h3⟩
theorem RowAt.kept {b:Nat} {g g':Za} {o o':Option Nat} {v:AV} {l:List Int} (h:RowAt b g o v l) (hk:∀ j,some j≠o→j<g.length→g'[j]? = g[j]?) (ho:o'=o∨∀ j,o'=some j→g.length≤j):RowAt b g' o' v l:=by
 obtain ⟨p,rest,h1,h2,h3⟩:=h
 have hp:=(Qzs.1 h3).1
 refine ⟨p,rest,h1,fun e=>?_,by rw [hk p h2 hp];exact h3⟩
 rcases ho with rfl | ho
 ·exact h2 e
 ·have:=ho p e.symm;omega
theorem Acc.fzK {S g X:Za} {k n:Nat} {v:AV} {L L':List AV} {o:Option Nat} (h:Acc S g k v L o) (hk:0<k) (hn:n≤S.length) (hl:L'.length=L.length)
  (h1:∀ (i:Nat) (x y:AV),L[i]? = some x→L'[i]? = some y→y.cells.length=k∧(∀ z∈y.cells,z.one=true)∧∀ (j:Nat) (a b:AV),x.cells[j]? = some a→y.cells[j]? = some b→Fz n (S++(g++X)) a b):Fz n (S++(g++X)) v (.pl k L'):=by
 have hv:=h.val
 cases o with
 | none =>
  obtain ⟨rfl,e⟩:=hv
  rw [e] at hl
  rw [List.eq_nil_of_length_eq_zero hl]
  exact .nils_pl k
 | some jo =>
  obtain ⟨rfl,hjo⟩:=hv
  have hjl:=(Qzs.1 hjo).1
  rw [← hl]
  refine .arr k _ 0 (L.flatMap AV.cells) L' (fun i j=>((L[i]?).bind fun x=>x.cells[j]?).getD .any) (by omega) (by rw [Qzr (by omega),Nat.add_sub_cancel_left,Qzl hjl];exact hjo) (fun i y hy=>?_) fun i y hy j b hb=>?_
  ·have hi:=(Qzs.1 hy).1
   have hx:L[i]? = some (L[i]'(by omega)):=Qze (by omega)
   obtain ⟨q1,q2,_⟩:=h1 i _ y hx hy
   refine ⟨q1,fun j b hb=>⟨q2 b (Qzg hb),?_⟩⟩
   have hj:=(Qzs.1 hb).1
   rw [q1] at hj
   have hc:=(h.len _ (Qzg hx)).1
   rw [flat_get L (fun x hx=>(h.len x hx).1) hk,show (0+i)*k+j=j+k*i by rw [Nat.zero_add,Nat.mul_comm,Nat.add_comm],Nat.add_mul_div_left _ _ hk,Nat.div_eq_of_lt hj,Nat.zero_add,Nat.add_mul_mod_self_left,Nat.mod_eq_of_lt hj,hx]
   simp only [Option.bind_some]
   rw [Qze (by omega)]
   rfl
  ·have hi:=(Qzs.1 hy).1
   have hx:L[i]? = some (L[i]'(by omega)):=Qze (by omega)
   obtain ⟨q1,q2,q3⟩:=h1 i _ y hx hy
   have hj:=(Qzs.1 hb).1
   have hc:=(h.len _ (Qzg hx)).1
   have ha:(L[i]'(by omega)).cells[j]? = some ((L[i]'(by omega)).cells[j]'(by omega)):=Qze (by omega)
   rw [hx]
   simp only [Option.bind_some,ha,Option.getD_some]
   exact q3 j _ b ha hb
def Ybi (P:Program) (rd:Option Nat) (c:Code) (ex:Exit) (e:Env) (s:Za):Nat→Env→Za→Prop
 | 0,env,σ=>∀ Q:Exit→Env→Za→Prop,Q ex e s→ACode P rd c Q env σ
 | k+1,env,σ=>∃ env' σ',(∀ Q:Exit→Env→Za→Prop,Q .normal env' σ'→ACode P rd c Q env σ)∧Ybi P rd c ex e s k env' σ'
theorem Xes {P:Program} {rd:Option Nat} {c:Code} (Inv:Env→Za→Prop) (μ:Env→Za→Nat) (Out:Env→Za→Prop) (id:Nat)
  (step:∀ env σ,Inv env σ→(∃ env' σ',(∀ Q:Exit→Env→Za→Prop,Q .normal env' σ'→ACode P rd c Q env σ)∧Inv env' σ'∧μ env' σ'<μ env σ)∨(∃ env' σ',(∀ Q:Exit→Env→Za→Prop,Q (.exit id) env' σ'→ACode P rd c Q env σ)∧Out env' σ')) :
  ∃ F:Env→Za→Env × Za,∀ env σ,Inv env σ→Out (F env σ).1 (F env σ).2∧∀ Q:Exit→Env→Za→Prop,Q (.exit id) (F env σ).1 (F env σ).2→@StC _ P rd ⟨.loop c⟩ ⟨Q⟩ env σ:=by
 have a:∀ (m:Nat) (env:Env) (σ:Za),μ env σ=m→Inv env σ→∃ (k:Nat) (e:Env) (s:Za),Out e s∧Ybi P rd c (.exit id) e s k env σ:=by
  intro m
  induction m using Nat.strongRecOn with
  | _ m ih =>
   intro env σ hm hi
   rcases step env σ hi with ⟨env',σ',h1,h2,h3⟩ | ⟨env',σ',h1,h2⟩
   ·obtain ⟨k,e,s,h4,h5⟩:=ih _ (hm▸h3) env' σ' rfl h2
    exact ⟨k+1,e,s,h4,env',σ',h1,h5⟩
   ·exact ⟨0,env',σ',h2,h1⟩
 have b:∀ (env:Env) (σ:Za),∃ f:Env × Za,Inv env σ→Out f.1 f.2∧∀ Q:Exit→Env→Za→Prop,Q (.exit id) f.1 f.2→@StC _ P rd ⟨.loop c⟩ ⟨Q⟩ env σ:=by
  intro env σ
  rcases Classical.em (Inv env σ) with hi | hi
  ·obtain ⟨k,e,s,h1,h2⟩:=a _ env σ rfl hi
   refine ⟨(e,s),fun _=>⟨h1,fun Q hQ=>?_⟩⟩
   refine Vbk (n:=k) (Ybi P rd c (.exit id) e s) h2 fun n env σ hn=>?_
   cases n with
   | zero=>exact hn _ hQ
   | succ n =>
    obtain ⟨env',σ',h3,h4⟩:=hn
    exact h3 _ ⟨n,Nat.lt_succ_self n,h4⟩
  ·exact ⟨(env,σ),fun h=>absurd h hi⟩
 exact ⟨fun env σ=>Classical.choose (b env σ),fun env σ=>Classical.choose_spec (b env σ)⟩
attribute [local irreducible] aws awp aw1 Og Om Oc Oa Ogd Ov Ot awd Zb awh Wb Ogh Ohd awl Ogl Ohl awv Ogv Ohv Xb Vb QFn Ub Xi QRo QBe Ui Uj ACode AYield
theorem Ucx (σ:Za) (d:Nat) (l:List UInt8) (a:Nat) (c lo hi:Int) (h:σ[d]? = some (Yd l a c)) (ha:a≤l.length) (hl:l.length≤9223372036854775807) (h0:-1000≤lo) (h1:lo≤hi) (h2:hi≤2^30) :
  ∃ (n:Int) (a':Nat) (c':Int),ACalls Tryz.prog 45 [.ptr d 0,.int .i64 lo,.int .i64 hi] σ (fun v s=>v=.int .i64 n∧s=σ.set d (Yd l a' c'))∧lo≤n∧n≤hi∧a'≤l.length:=by
 obtain ⟨x,a',c',hr,x0,x1,ha'⟩:=Yc2 σ d l a c (hi - lo) h ha hl (by omega) (by omega)
 refine ⟨lo+x,a',c',?_,by omega,by omega,ha'⟩
 refine Yb Tryz.func45 rfl (Ua Tryz.func45 (by decide) rfl) ?_
 have hx:=w64 (n:=hi - lo) (by omega) (by omega)
 simp [Tryz.ntmps45,hx]
 refine StA.of (hr.mono ?_)
 rintro v σ' ⟨rfl,rfl⟩
 have hx2:=w64 (n:=lo+x) (by omega) (by omega)
 simp [hx2]
noncomputable def rgC:Code:=match Tryz.f62.body with
 | some (.seq _ (.seq _ (.seq (.seq _ (.block _ (.loop c))) _)))=>c
 | _=>.skip
def RgI (l:List UInt8) (d:Nat) (σ:Za) (n:Nat):Env→Za→Prop:=fun env σ'=>∃ (u:List AV) (k:Nat) (v:AV) (L:List Int) (g:Za) (o:Option Nat) (a2:Nat) (c2:Int),env={ t:=u }∧u.length=36∧tg u 0=.ptr d 0∧tg u 5=v∧tg u 9=.int .i64 n∧tg u 10=.int .i64 k∧σ'=σ.set d (Yd l a2 c2)++g∧a2≤l.length∧k≤n∧L.length=k∧L.Nodup∧(∀ x∈L,0≤x∧x<(k:Int))∧Acc σ g 1 v (Ya L) o
def RgO (l:List UInt8) (d:Nat) (σ:Za) (n:Nat):Env→Za→Prop:=fun env s=>∃ (u:List AV) (L:List Int) (g:Za) (o:Option Nat) (a2:Nat) (c2:Int),env={ t:=u }∧u.length=36∧s=σ.set d (Yd l a2 c2)++g∧a2≤l.length∧L.length=n∧L.Nodup∧(∀ x∈L,0≤x∧x<(n:Int))∧Acc σ g 1 (tg u 5) (Ya L) o
set_option maxHeartbeats 2000000 in
theorem Vfl (σ:Za) (d:Nat) (l:List UInt8) (a:Nat) (c:Int) (n:Nat) (h:σ[d]? = some (Yd l a c)) (ha:a≤l.length) (hl:l.length≤9223372036854775807) (hn:n≤2^20) :
  ∃ (v:AV) (s:Za),ACalls Tryz.prog 62 [.ptr d 0,.int .i64 n] σ (fun v' s'=>v'=v∧s'=s)∧∃ (L:List Int) (a':Nat) (c':Int) (g:Za) (o:Option Nat),s=σ.set d (Yd l a' c')++g∧L.length=n∧L.Nodup∧(∀ x∈L,0≤x∧x<(n:Int))∧a'≤l.length∧Acc σ g 1 v (Ya L) o:=by
 have hd:=(Qzs.1 h).1
 have h0:σ.set d (Yd l a c)=σ:=by
  apply List.ext_getElem?
  intro i
  rw [List.getElem?_set]
  split
  ·rename_i e;subst e;exact h.symm
  ·rfl
 have hmax:(if (0:Int)<(n:Int) then (n:Int) else 0)=n:=by split<;>omega
 have hstep:∀ env σ',RgI l d σ n env σ'→(∃ env' s',(∀ Q:Exit→Env→Za→Prop,Q .normal env' s'→ACode Tryz.prog none rgC Q env σ')∧RgI l d σ n env' s'∧(match tg env'.t 10 with | .int _ i=>n - i.toNat | _=>0)<(match tg env.t 10 with | .int _ i=>n - i.toNat | _=>0))∨(∃ env' s',(∀ Q:Exit→Env→Za→Prop,Q (.exit 0) env' s'→ACode Tryz.prog none rgC Q env σ')∧RgO l d σ n env' s'):=by
  rintro env σ' ⟨u,k,v,L,g,o,a2,c2,rfl,hl2,g0,g5,g9,g10,rfl,ha2,hk,hLl,hLn,hLm,hA⟩
  rcases Qzn k n with hlt | hge
  ·have hlt':(k:Int)<(n:Int):=by omega
   have hx:=w64 (n:=(k:Int)+1) (by omega) (by omega)
   obtain ⟨i,a3,c3,hr,k0,k1,ha3⟩:=Yc2 _ d l a2 c2 k (Vb6 (σ:=σ) (g:=g) hd _) ha2 hl (by omega) (by omega)
   obtain ⟨m,rfl⟩:∃ m:Nat,i=m:=⟨i.toNat,by omega⟩
   have hA1:=((hA.set d (Yd l a3 c3)).push (P:=Tryz.prog) (t:=32) (e:=3) (ag:=false) (x:=.int .i64 (k:Nat)) (by simp) (by simp) (by simp) (by omega) ⟨by simp [AV.cells],by simp [AV.cells,AV.one]⟩ (by simp [Ya];omega))
   obtain ⟨v',g',o',he,hA',_⟩:=hA1
   simp [-Xa] at he
   cases o' with
   | none=>exact absurd hA'.val.2 (by simp [Ya])
   | some jo =>
    obtain ⟨rfl,hjo⟩:=hA'.val
    have hfl:List.flatMap AV.cells (Ya L++[AV.int IntKind.i64 (k:Int)])=Ya (L++[(k:Int)]):=by simp [Ya,List.flatMap_append,Vbd,AV.cells]
    have hll:(Ya L).length=k:=by simp [Ya,hLl]
    rw [hfl] at hjo
    have hat:(List.set σ d (Yd l a3 c3)++g')[σ.length+jo]? = some (.cells (Ya (L++[(k:Int)]))):=by rw [Qzr (by simp)];simpa using hjo
    have hmk:m<k+1:=by omega
    have hl1:(Ya (L++[(k:Int)])).length=k+1:=by simp [Ya,hLl]
    have hk1:(Ya (L++[(k:Int)]))[k]? = some (.int .i64 k):=by simp [Ya,hLl]
    have hm1:(Ya (L++[(k:Int)]))[m]? = some (.int .i64 ((L++[(k:Int)])[m]'(by simp [hLl];omega))):=by unfold Ya;rw [Qzp,Qze (by simp [hLl];omega)];rfl
    generalize hx0:(L++[(k:Int)])[m]'(by simp [hLl];omega)=x0 at hm1
    obtain ⟨Z,hZ⟩:∃ Z,Ya (L++[(k:Int)])=Z:=⟨_,rfl⟩
    rw [hZ] at hat hl1 hk1 hm1
    have hk2:Z[k]'(by omega)=.int .i64 k:=Option.some.inj ((Qze (by omega)).symm.trans hk1)
    have hm2:Z[m]'(by omega)=.int .i64 x0:=Option.some.inj ((Qze (by omega)).symm.trans hm1)
    have hmk2:m≤k:=by omega
    have hgl:jo<g'.length:=(Qzs.1 hjo).1
    have hgj:g'[jo]'hgl=.cells Z:=by rw [← hZ];exact Option.some.inj ((Qze hgl).symm.trans hjo)
    have hset:∀ (A B:AV),List.take k (List.take m Z++A::List.drop (m+1) Z)++B::List.drop (k+1) (List.take m Z++A::List.drop (m+1) Z)=(Z.set m A).set k B:=fun A B=>by
     rw [← show Z.set m A=List.take m Z++A::List.drop (m+1) Z from by rw [List.set_eq_take_append_cons_drop,if_pos (by omega)],List.set_eq_take_append_cons_drop (l:=Z.set m A),if_pos (by simp;omega)]
    have hrow:∃ L':List Int,(Z.set m (.int .i64 k)).set k (.int .i64 x0)=Ya L'∧L'.length=k+1∧L'.Nodup∧∀ x∈L',0≤x∧x<(k:Int)+1:=by
     refine ⟨((L++[(k:Int)]).set m k).set k x0,by rw [← hZ];simp [Ya,List.map_set],by simp [hLl],?_⟩
     have hkL:(k:Int)∉L:=fun h=>by have:=hLm _ h;omega
     rcases Qzn m k with h1 | h1
     ·have e:((L++[(k:Int)]).set m k).set k x0=L.set m k++[L[m]'(by omega)]:=by
       rw [List.set_append_left _ _ (by omega),List.set_append_right _ _ (by simp;omega)]
       rw [← hx0,List.getElem_append_left (by omega)]
       simp [hLl]
      rw [e]
      refine ⟨Xdy hLn hkL (by omega),fun x hx=>?_⟩
      rcases List.mem_append.1 hx with hx | hx
      ·rcases List.mem_or_eq_of_mem_set hx with hx | rfl
       ·have:=hLm x hx;omega
       ·omega
      ·rw [List.mem_singleton.1 hx]
       have:=hLm _ (List.getElem_mem (show m<L.length by omega))
       omega
     ·obtain rfl:m=k:=by omega
      have e:((L++[(m:Int)]).set m m).set m x0=L++[(m:Int)]:=by
       rw [← hx0,List.getElem_append_right (by omega)]
       rw [List.set_append_right _ _ (by omega),List.set_append_right _ _ (by omega)]
       simp [hLl]
      rw [e]
      refine ⟨?_,fun x hx=>?_⟩
      ·rw [List.nodup_append]
       exact ⟨hLn,by simp,fun a ha b hb=>by rw [List.mem_singleton.1 hb];intro e;subst e;exact hkL ha⟩
      ·rcases List.mem_append.1 hx with hx | hx
       ·have:=hLm x hx;omega
       ·rw [List.mem_singleton.1 hx];omega
    obtain ⟨L',hL',hlL',hnL',hmL'⟩:=hrow
    refine .inl ⟨?e,?s,fun Q hQ=>Yi _ ?w,?inv,?mu⟩
    case w =>
     unfold rgC
     dsimp only [Tryz.f62]
     simp [-Xa,hl2,g0,g5,g9,g10,hlt']
     refine StA.of (hr.mono ?_)
     rintro v2 s2 ⟨rfl,rfl⟩
     rw [set_set hd]
     simp [-Xa,hl2,g0,g5,g9,g10,he]
     simp [-Xa,hl2,g0,g5,g9,g10,hll]
     refine Wah [13,15] [(2,1),(3,1)] mixed (by kernel_rfl) (by kernel_rfl) ?_
     simp [-Xa,hl2,g0,g5,g9,g10,hll,hmk,hmk2,hgj,hl1,hk2,hm2,hgl]
     rw [if_pos (by omega),Xk,hset,hL',hx]
     exact hQ
    case inv =>
     exact ⟨_,k+1,_,L',_,some jo,a3,c3,rfl,by simp [hl2],by simp [hl2,g0],rfl,by simp [hl2,g9],by simp [hl2],rfl,ha3,hlt,hlL',hnL',fun x hx=>by have:=hmL' x hx;simpa using this,⟨fun x hx=>by obtain ⟨y,_,rfl⟩:=List.mem_map.1 hx;exact ⟨rfl,by simp [AV.cells,AV.one]⟩,by simp [hl2,Ya,hlL',hll],by simp [hgl,Ya,Vbd]⟩⟩
    case mu =>
     simp [hl2,g10]
     exact Nat.sub_lt_sub_left hlt (Nat.lt_succ_self k)
  ·obtain rfl:k=n:=by omega
   refine .inr ⟨?e2,?s2,fun Q hQ=>Yi _ ?w2,?out⟩
   case w2 =>
    unfold rgC
    dsimp only [Tryz.f62]
    simp [-Xa,hl2,g0,g5,g9,g10]
    exact hQ
   case out =>
    exact ⟨_,L,g,o,a2,c2,rfl,by simp [hl2],rfl,ha2,hLl,hLn,hLm,by simpa [hl2,g5] using hA⟩
 obtain ⟨F,hF⟩:=Xes (P:=Tryz.prog) (rd:=none) (c:=rgC) (RgI l d σ n) (fun env _=>match tg env.t 10 with | .int _ i=>n - i.toNat | _=>0) (RgO l d σ n) 0 hstep
 have hC:∀ env σ',RgI l d σ n env σ'→∀ Q:Exit→Env→Za→Prop,((F env σ').1.t.length=36→(F env σ').1.m=[]→Q (.exit 0) (F env σ').1 (F env σ').2)→@StC _ Tryz.prog none ⟨.loop rgC⟩ ⟨Q⟩ env σ':=fun env σ' hi Q hq=>(hF env σ' hi).2 Q (hq (by
  obtain ⟨u,_,_,_,_,_,e,hl,_⟩:=(hF env σ' hi).1
  rw [e];exact hl) (by
  obtain ⟨u,_,_,_,_,_,e,hl,_⟩:=(hF env σ' hi).1
  rw [e]))
 refine ⟨?vF,?sF,?calls,?props⟩
 case calls =>
  refine Yb Tryz.func62 rfl (Ua Tryz.func62 (by decide) rfl) ?_
  simp [-Xa,Tryz.ntmps62,hmax]
  refine hC _ _ ?inv0 _ ?rest
  case inv0=>exact ⟨_,0,.nils,[],[],none,a,c,rfl,by simp,by simp,by simp,by simp;omega,by simp,by simp [h0],ha,by omega,rfl,by simp,by simp,by simpa [Ya] using Acc.nil _ _ _⟩
  case rest =>
   intro hlen hmm
   simp [-Xa,hlen,hmm]
   refine And.intro ?_ ?_
   ·exact Eq.refl _
   ·exact Eq.refl _
 case props =>
  have key:∀ e s,RgI l d σ n e s→∃ (L:List Int) (a':Nat) (c':Int) (g:Za) (o:Option Nat),(F e s).2=σ.set d (Yd l a' c')++g∧L.length=n∧L.Nodup∧(∀ x∈L,0≤x∧x<(n:Int))∧a'≤l.length∧Acc σ g 1 (tg (F e s).1.t 5) (Ya L) o:=fun e s hi=>by
   obtain ⟨u,L,g,o,a2,c2,e1,hl36,hs,ha2,q1,q2,q3,q4⟩:=(hF e s hi).1
   exact ⟨L,a2,c2,g,o,hs,q1,q2,q3,ha2,by rw [e1];exact q4⟩
  refine key _ _ ?_
  exact ⟨_,0,.nils,[],[],none,a,c,rfl,by simp,by simp,by simp,by simp;omega,by simp,by simp [h0],ha,by omega,rfl,by simp,by simp,by simpa [Ya] using Acc.nil _ _ _⟩
end Ab
namespace Ab
open Go Go.RowKit Go.Proofs
theorem Wcf {n:Nat} {σ:Za} {a b a' b':AV} (h1:Fz n σ a a') (h2:Fz n σ b b'):Fz n σ (.agg [a,b]) (.agg [a',b']):=by simp [h1,h2]
def zRl:AObj:=.cells [.int .i64 0,.nils]
theorem Vcc {m:List Int} (h:m.Pairwise (·≤·)) (hn:m.Nodup):m.Pairwise (·<·):=by
 induction m with
 | nil=>exact .nil
 | cons x m ih =>
  rw [List.pairwise_cons] at h ⊢
  rw [List.nodup_cons] at hn
  refine ⟨fun y hy=>?_,ih h.2 hn.2⟩
  have:=h.1 y hy
  rcases Classical.em (x=y) with e | e
  ·exact absurd (e▸hy) hn.1
  ·omega
theorem Vhb {S g:Za} {v:AV} {L:List (Ntc × AV)} {o:Option Nat} (hA:Acc S g 2 v (L.map fun p=>AV.agg [.int .i64 p.1.times,p.2]) o) (x:Ntc × AV) (hx:x.2.one=true) (hl:L.length≤2^30) :
  ∃ v' g' jo,Xa Tryz.prog #[25,25] v (.pl 2 [.agg [.int .i64 x.1.times,x.2]]) (S++g)=some (v',S++g')∧Acc S g' 2 v' ((L++[x]).map fun p=>AV.agg [.int .i64 p.1.times,p.2]) (some jo)∧v'=.arr 2 (S.length+jo) 0 (L.length+1)∧(∀ j,some j≠o→j<g.length→g'[j]? = g[j]?)∧(some jo=o∨jo=g.length):=by
 obtain ⟨v',g',o',he,hA',hlen,hkeep,ho⟩:=hA.app (P:=Tryz.prog) (t:=25) (e:=34) (ag:=true) (ys:=[AV.agg [.int .i64 x.1.times,x.2]]) (y:=.pl 2 [AV.agg [.int .i64 x.1.times,x.2]]) (by simp) (by simp) (by simp) (by omega) (fun y hy=>by
  rw [List.mem_singleton.1 hy]
  refine ⟨rfl,fun z hz=>?_⟩
  simp [AV.cells] at hz
  rcases hz with rfl | rfl
  ·rfl
  ·exact hx) (by simp [AV.cells]) (by simp;omega)
 have e:(L.map fun p=>AV.agg [.int .i64 p.1.times,p.2])++[AV.agg [.int .i64 x.1.times,x.2]]=(L++[x]).map fun p=>AV.agg [.int .i64 p.1.times,p.2]:=by simp
 rw [e] at hA'
 obtain ⟨jo,rfl⟩:∃ jo,o'=some jo:=by
  cases o' with
  | none=>exact absurd hA'.val.2 (by simp)
  | some jo=>exact ⟨jo,rfl⟩
 refine ⟨v',g',jo,he,hA',by rw [hA'.val.1];simp,hkeep,?_⟩
 rcases ho with h | h
 ·exact .inl h
 ·exact .inr (by simpa using h)
def MdN (l:List UInt8) (d:Nat) (σ:Za) (men n:Nat) (env:Env) (σ':Za):Prop:=∃ (u:List AV) (i:Nat) (v:AV) (L:List (Ntc × AV)) (g:Za) (o:Option Nat) (a:Nat) (c:Int),env={ t:=u }∧u.length=44∧tg u 0=.ptr d 0∧tg u 6=.ptr σ.length 0∧tg u 7=.ptr (σ.length+1) 0∧tg u 15=.int .i64 n∧tg u 16=.int .i64 i∧i≤n∧L.length=i ∧
 σ'=(σ.set d (Yd l a c)++[zRl,.cells [.int .i64 men,v]])++g∧a≤l.length∧Acc (σ++[zRl,zRl]) g 2 v (L.map fun p=>AV.agg [.int .i64 p.1.times,p.2]) o∧∀ p∈L,p.1.Ok men∧RowAt (σ.length+2) g o p.2 p.1.men
attribute [local irreducible] aws awp aw1 Og Om Oc Oa Ogd Ov Ot awd Zb awh Wb Ogh Ohd awl Ogl Ohl awv Ogv Ohv Xb Vb QFn Ub Xi QRo QBe Ui Uj ACode AYield
set_option maxHeartbeats 4000000 in
theorem Yc6 (σ:Za) (d:Nat) (l:List UInt8) (a:Nat) (c:Int) (h:σ[d]? = some (Yd l a c)) (ha:a≤l.length) (hl:l.length≤9223372036854775807) (M K:Nat) (hM1:1≤M) (hM5:M≤5) (hK6:K≤6) :
  ACalls Tryz.prog 9 [.ptr d 0,.int .i64 M,.int .i64 K] σ fun v s=>∃ (r:Rl) (a':Nat) (c':Int),v=Uh r∧r.Ok∧r.men≤M∧r.ntcs.length≤K∧a'≤l.length∧s=σ.set d (Yd l a' c'):=by
 have hd:=(Qzs.1 h).1
 refine ACalls.forgetT ?_
 refine Yb Tryz.func9 rfl (Ua Tryz.func9 (by decide) rfl) ?_
 have hbA:∀ (B:AObj) (X:Za),(σ.set d B++X)[d]? = some B:=fun B X=>Vb6 hd B
 simp [-Xa,Tryz.ntmps9]
 refine StA.of ((Wb5 _ d l a c 1 M (by rw [Qzl hd];exact h) ha hl (by omega) (by omega) (by omega)).mono ?_)
 rintro _ _ ⟨men,a1,c1,rfl,m1,m2,ha1,rfl⟩
 rw [List.set_append_left _ _ hd]
 obtain ⟨men,rfl⟩:∃ m:Nat,men=m:=⟨men.toNat,by omega⟩
 simp [-Xa]
 refine StA.of ((Xcg _ d l a1 c1 K (hbA _ _) ha1 hl (by omega) (by omega)).mono ?_)
 rintro _ _ ⟨n,a2,c2,rfl,n0,n1,ha2,rfl⟩
 rw [set_set hd]
 obtain ⟨n,rfl⟩:∃ m:Nat,n=m:=⟨n.toNat,by omega⟩
 try simp [-Xa]
 refine Xc (MdN l d σ men n) (fun env _=>match tg env.t 16 with | .int _ i=>n - i.toNat | _=>0) ⟨_,0,.nils,[],[],none,a2,c2,rfl,by simp,by simp,by simp,by simp,by simp,by simp,by omega,rfl,by simp [zRl],ha2,Acc.nil _ _ _,by simp⟩ ?_
 rintro env _ ⟨u,i,v,L,g,o,a3,c3,rfl,hl2,g0,g6,g7,g15,g16,hi,hLl,rfl,ha3,hA,hL⟩
 obtain ⟨S,hS⟩:∃ S,σ.set d (Yd l a3 c3)++[zRl,AObj.cells [.int .i64 men,v]]=S:=⟨_,rfl⟩
 have hSl:S.length=σ.length+2:=by rw [← hS];simp
 have hSm0:∀ X:Za,(S++X)[σ.length+1]? = some (.cells [.int .i64 men,v]):=fun X=>by rw [← hS];simp
 rcases Qzn i n with hlt | hge
 ·have hlt':(i:Int)<(n:Int):=by omega
  have hx:=w64 (n:=(i:Int)+1) (by omega) (by omega)
  have hSm:∀ X:Za,(S++X)[σ.length+1]? = some (.cells [.int .i64 men,v]):=fun X=>by rw [← hS];simp
  have hSd:∀ X:Za,(S++X)[d]? = some (Yd l a3 c3):=fun X=>by rw [← hS,List.append_assoc];exact hbA _ _
  have hSs:∀ (X:Za) (a c),(S++X).set d (Yd l a c)=(σ.set d (Yd l a c)++[zRl,AObj.cells [.int .i64 men,v]])++X:=fun X a c=>by rw [← hS,List.append_assoc,set_set hd,List.append_assoc]
  rw [hS]
  simp [-Xa,hl2,g0,g6,g7,g15,g16,hlt',hSm]
  obtain ⟨w,s9,hr,R,a4,c4,g2,o2,rfl,hRl,hRn,hRm,ha4,hA2⟩:=Vfl (S++g) d l a3 c3 men (hSd _) ha3 hl (by omega)
  refine StA.of (hr.mono ?_)
  rintro _ _ ⟨rfl,rfl⟩
  obtain ⟨jo,rfl⟩:∃ jo,o2=some jo:=by
   cases o2 with
   | none =>
    have h0:R=[]:=by simpa [Ya] using hA2.val.2
    rw [h0] at hRl
    simp at hRl
    omega
   | some jo=>exact ⟨jo,rfl⟩
  obtain ⟨hw,hgj⟩:=hA2.val
  have hil:(Ya R).length=men:=by simp [Ya,hRl]
  rw [Xae (fun y hy=>by obtain ⟨z,_,rfl⟩:=List.mem_map.1 hy;rfl)] at hgj
  rw [hil] at hw
  subst hw
  obtain ⟨S2,hS2⟩:∃ S2,σ.set d (Yd l a4 c4)++[zRl,AObj.cells [.int .i64 men,v]]=S2:=⟨_,rfl⟩
  have hS2l:S2.length=σ.length+2:=by rw [← hS2];simp
  rw [hSs,hS2]
  have hSm2:∀ X:Za,(S2++X)[σ.length+1]? = some (.cells [.int .i64 men,v]):=fun X=>by rw [← hS2];simp
  have hSd2:∀ X:Za,(S2++X)[d]? = some (Yd l a4 c4):=fun X=>by rw [← hS2,List.append_assoc];exact hbA _ _
  have hlen0:(S++g).length=σ.length+2+g.length:=by simp [hSl]
  rw [hlen0,List.append_assoc]
  simp [-Xa,hl2,g0,g6,g7,g15,g16]
  refine StA.of ((Wb5 _ d l a4 c4 1 men (hSd2 _) ha4 hl (by omega) (by omega) (by omega)).mono ?_)
  rintro _ _ ⟨k,a5,c5,rfl,k1,k2,ha5,rfl⟩
  obtain ⟨k,rfl⟩:∃ m:Nat,k=m:=⟨k.toNat,by omega⟩
  have hS5:∀ (X:Za) (a c),(S2++X).set d (Yd l a c)=(σ.set d (Yd l a c)++[zRl,AObj.cells [.int .i64 men,v]])++X:=fun X a c=>by rw [← hS2,List.append_assoc,set_set hd,List.append_assoc]
  rw [hS5]
  have hkm:(k:Int)≤(men:Int):=k2
  have hkm':k≤men:=by omega
  obtain ⟨S5,hS5e⟩:∃ S5,σ.set d (Yd l a5 c5)++[zRl,AObj.cells [.int .i64 men,v]]=S5:=⟨_,rfl⟩
  have hS5l:S5.length=σ.length+2:=by rw [← hS5e];simp
  rw [hS5e]
  have hk0:¬ 0=k:=by omega
  simp [-Xa,hl2,g0,g6,g7,g15,g16,hkm,hkm',hk0]
  have hjl:=(Qzs.1 hgj).1
  have hRtl:(R.take k).length=k:=by simp;omega
  have hrow:(S5++(g++g2))[σ.length+2+g.length+jo]? = some (.cells (Ya (R.take k)++Ya (R.drop k))):=by
   rw [Qzr (by omega),Qzr (by omega),show σ.length+2+g.length+jo - S5.length - g.length=jo by omega,hgj]
   simp [Ya,← List.map_append]
  have hsort:=Xbv (S5++(g++g2)) (σ.length+2+g.length+jo) (R.take k) (Ya (R.drop k)) hrow (by omega)
  rw [hRtl] at hsort
  refine StA.of (hsort.mono ?_)
  rintro _ _ ⟨m,hmp,hms,rfl⟩
  have hml:m.length=k:=by rw [hmp.length_eq,hRtl]
  have hset:(S5++(g++g2)).set (σ.length+2+g.length+jo) (.cells (Ya m++Ya (R.drop k)))=S5++(g++g2.set jo (.cells (Ya m++Ya (R.drop k)))):=by
   rw [List.set_append_right _ _ (by omega),List.set_append_right _ _ (by omega),show σ.length+2+g.length+jo - S5.length - g.length=jo by omega]
  rw [hset]
  obtain ⟨g3,hg3⟩:∃ g3,g2.set jo (.cells (Ya m++Ya (R.drop k)))=g3:=⟨_,rfl⟩
  rw [hg3]
  have hS5m:∀ X:Za,(S5++X)[σ.length+1]? = some (.cells [.int .i64 men,v]):=fun X=>by rw [← hS5e];simp
  have hS5d:∀ X:Za,(S5++X)[d]? = some (Yd l a5 c5):=fun X=>by rw [← hS5e,List.append_assoc];exact hbA _ _
  have hS6:∀ (X:Za) (a c),(S5++X).set d (Yd l a c)=(σ.set d (Yd l a c)++[zRl,AObj.cells [.int .i64 men,v]])++X:=fun X a c=>by rw [← hS5e,List.append_assoc,set_set hd,List.append_assoc]
  have hmin:(if (k:Int)<3 then (k:Int) else 3)=(min 3 k:Nat):=by split<;>omega
  simp [-Xa,hl2,g0,g6,g7,g15,g16]
  refine Ut [6,10,12] [(0,1),(1,1),(7,0)] mixed (by kernel_rfl) (by kernel_rfl) ?_
  obtain ⟨tm,a6,c6,hst,t1,t2,ha6⟩:=Ucx (S5++(g++g3)) d l a5 c5 1 (min 3 k:Nat) (hS5d _) ha5 hl (by omega) (by omega) (by omega)
  simp [-Xa,hl2,g0,g6,g7,g15,g16,hS5m,hmin]
  refine Uaa hst ?_
  rw [hS6]
  obtain ⟨S6,hS6e⟩:∃ S6,σ.set d (Yd l a6 c6)++[zRl,AObj.cells [.int .i64 men,v]]=S6:=⟨_,rfl⟩
  have hS6l:S6.length=σ.length+2:=by rw [← hS6e];simp
  have hS6m:∀ X:Za,(S6++X)[σ.length+1]? = some (.cells [.int .i64 men,v]):=fun X=>by rw [← hS6e];simp
  rw [hS6e]
  have hol:∀ j,o=some j→j<g.length:=fun j e=>by
   have:=hA.val
   rw [e] at this
   exact (Qzs.1 this.2).1
  obtain ⟨v',g',jn,he,hA',hv',hkeep,hjn⟩:=Vhb ((hA.base (σ':=S6) (by rw [hS6l];simp)).more g3) (⟨tm,m⟩,.arr 1 (σ.length+2+g.length+jo) 0 k) rfl (by omega)
  simp only [] at he
  simp [-Xa,hl2,g0,g6,g7,g15,g16,hS6m]
  rw [he,Xk]
  subst hv'
  have hS6s:∀ (X:Za) (y:AObj),(S6++X).set (σ.length+1) y=(σ.set d (Yd l a6 c6)++[zRl,y])++X:=fun X y=>by rw [← hS6e];simp
  simp [-Xa,hl2,g0,g6,g7,g15,g16,hS6m,hS6s,hx]
  have hon:∀ p,some p≠some jn∨True:=fun p=>.inr trivial
  have hjo':some jn=o∨∀ j,some jn=some j→(g++g3).length≤j:=by
   rcases hjn with h1 | h1
   ·exact .inl h1
   ·exact .inr fun j e=>by cases e;omega
  have hg3l:g3.length=g2.length:=by rw [← hg3];simp
  have hrowN:RowAt (σ.length+2) g' (some jn) (.arr 1 (σ.length+2+g.length+jo) 0 k) m:=by
   refine ⟨g.length+jo,Ya (R.drop k),by rw [hml,Nat.add_assoc (σ.length+2)],fun e=>?_,?_⟩
   ·rcases hjn with h1 | h1
    ·have:=hol _ h1.symm;have:=Option.some.inj e;omega
    ·have:=Option.some.inj e;simp at h1;omega
   ·rw [hkeep _ (fun e=>by have:=hol _ e.symm;omega) (by simp;omega),Qzr (by omega),Nat.add_sub_cancel_left,← hg3]
    simp [hjl]
  have hmr:m.Pairwise (·<·):=Vcc hms (hmp.nodup_iff.2 (hRn.sublist (List.take_sublist _ _)))
  have hok:Ntc.Ok men ⟨tm,m⟩:=⟨t1,by show tm≤3;omega,by show tm≤(m.length:Int);omega,hmr,fun x hx=>hRm x (List.mem_of_mem_take (hmp.mem_iff.1 hx))⟩
  exact ⟨⟨_,i+1,_,L++[(⟨tm,m⟩,.arr 1 (σ.length+2+g.length+jo) 0 k)],g',some jn,a6,c6,rfl,by simp [hl2],by simp [hl2,g0],by simp [hl2,g6],by simp [hl2,g7],by simp [hl2,g15],by simp [hl2],hlt,by simp [hLl],by simp,ha6,hA'.base (by simp [hS6l]),fun p hp=>by
   rcases List.mem_append.1 hp with hp | hp
   ·exact ⟨(hL p hp).1,((hL p hp).2.more g3).kept hkeep hjo'⟩
   ·rw [List.mem_singleton.1 hp]
    exact ⟨hok,hrowN⟩⟩,by omega⟩
 ·obtain rfl:i=n:=by omega
  have hS1:(S++g).set σ.length (.cells [.int .i64 men,v])=σ.set d (Yd l a3 c3)++(AObj.cells [.int .i64 men,v]::AObj.cells [.int .i64 men,v]::g):=by rw [← hS];simp
  have hS0:(S++g)[σ.length]? = some zRl:=by rw [← hS];simp
  have hv1:v.one=true:=by
   have:=hA.val
   cases o with
   | none=>rw [this.1];rfl
   | some j=>rw [this.1];rfl
  rw [hS]
  simp [-Xa,hl2,g0,g6,g7,g15,g16,hSm0,hS0,zRl]
  rw [if_pos (by exact hv1),Xk,hS1]
  simp [-Xa]
  have hz:=(hA.base (σ':=σ.set d (Yd l a3 c3)++[AObj.cells [.int .i64 men,v],.cells [.int .i64 men,v]]) (by simp)).fzK (X:=[]) (n:=σ.length) (L':=(L.map Prod.fst).map Zc) (by omega) (by simp) (by simp) fun i x y hx hy=>by
   rw [Qzp,Qzm] at hx
   obtain ⟨p,hp,rfl⟩:=hx
   rw [Qzp,Qzp,hp] at hy
   obtain rfl:=Option.some.inj hy
   obtain ⟨_,hrw⟩:=hL p (Qzg hp)
   refine ⟨rfl,fun z hz=>?_,fun j a b ha hb=>?_⟩
   ·simp [Zc,AV.cells] at hz
    rcases hz with rfl | rfl<;>rfl
   ·match j,ha,hb with
    | 0,ha,hb=>simp [Zc,AV.cells] at ha hb;subst ha;subst hb;exact .int _ _
    | 1,ha,hb =>
     simp [Zc,AV.cells] at ha hb
     subst ha;subst hb
     exact hrw.fz (by omega) fun p x hp=>by
      rw [Qzr (by simp),List.append_nil]
      rw [show σ.length+2+p - (σ.set d (Yd l a3 c3)++[AObj.cells [.int .i64 men,v],.cells [.int .i64 men,v]]).length=p by simp]
      exact hp
    | j+2,ha,hb=>simp [Zc,AV.cells] at ha
  refine ⟨σ.set d (Yd l a3 c3),_,rfl,by simp,Xfz hd,Uh ⟨men,L.map Prod.fst⟩,?_,⟨men,L.map Prod.fst⟩,rfl,⟨by show 1≤(men:Int);omega,by show (men:Int)≤5;omega,by simp;omega,fun n hn=>?_⟩,m2,by simp;omega,a3,ha3,c3,rfl⟩
  ·refine Wcf (.int _ _) ?_
   simpa using hz
  ·obtain ⟨p,hp,rfl⟩:=List.mem_map.1 hn
   exact (hL p hp).1
end Ab
namespace Ab
open Go Go.RowKit Go.Proofs
attribute [local irreducible] aws awp aw1 Og Om Oc Oa Ogd Ov Ot awd Zb awh Wb Ogh Ohd awl Ogl Ohl awv Ogv Ohv Xb Vb QFn Ub Xi QRo QBe Ui Uj ACode AYield
theorem Vge (l:List (List Int)) (q f:Nat) (fs cs:List AV) (σ:Za) (hq:σ[q]? = some (.cells [.fn (.func f) fs cs])) (hl:l.length≤2^40) (h:∀ x∈l,∀ g,ACalls Tryz.prog f (fs++[.pl 1 (Ya x)]++cs) (σ++g) fun v s=>v=.bool true∧∃ g',s=σ++g++g') :
  ACalls Tryz.prog 253 [Ze l,.fn (.func 183) [] [.ptr q 0]] σ fun v s=>v=.int .i64 (-1)∧∃ g,s=σ++g:=by
 refine Yb Tryz.func253 rfl (Ua Tryz.func253 (by decide) rfl) ?_
 have hql:=(Qzs.1 hq).1
 simp [Tryz.ntmps253,Ze]
 refine Xc (fun env σ'=>∃ (u:List AV) (i:Nat) (g:Za),env={ t:=u }∧u.length=19∧tg u 0=.pl 1 (l.map fun x=>.pl 1 (Ya x))∧tg u 1=.fn (.func 183) [] [.ptr q 0]∧tg u 7=.int .i64 l.length∧tg u 8=.int .i64 i∧σ'=σ++g∧i≤l.length)
  (fun env _=>match tg env.t 8 with | .int _ i=>l.length - i.toNat | _=>0) ⟨_,0,[],rfl,by simp,by simp,by simp,by simp,by simp,by simp,by omega⟩ ?_
 rintro env σ' ⟨u,i,g,rfl,hl0,g0,g1,g7,g8,rfl,hi⟩
 rcases Qzn i l.length with hlt | hge
 ·have hlt':(i:Int)<(l.length:Int):=by omega
  have hw1:=w64 (n:=(i:Int)+1) (by omega) (by omega)
  have h1:ACalls Tryz.prog 183 [.pl 1 (Ya l[i]),.ptr q 0] (σ++g) fun v s=>v=.bool false∧∃ g',s=σ++g++g':=by
   refine Yb Tryz.func183 rfl (Ua Tryz.func183 (by decide) rfl) ?_
   have hq2:(σ++g)[q]? = some (.cells [.fn (.func f) fs cs]):=by rw [Qzl hql];exact hq
   generalize hT:σ++g=T at hq2
   have h2:=h l[i] (List.getElem_mem hlt) g
   rw [hT] at h2
   simp [Tryz.ntmps183,hq2]
   refine StA.of ((by simpa using h2:ACalls Tryz.prog f (fs++.pl 1 (Ya l[i])::cs) T fun v s=>v=.bool true∧∃ g',s=T++g').mono ?_)
   rintro v s ⟨rfl,g',rfl⟩
   simp
  simp [hl0,g0,g1,g7,g8,hlt',hlt]
  refine StA.of (h1.mono ?_)
  rintro v s ⟨rfl,g',rfl⟩
  simp [hl0,g0,g1,g7,g8,hlt',hlt,hw1]
  exact ⟨⟨i+1,by simp,hlt⟩,by omega⟩
 ·have hge':¬ (i:Int)<(l.length:Int):=by omega
  simp [hl0,g0,g1,g7,g8,hge']
theorem Xb2 (l:List (List Int)) (f:Nat) (fs cs:List AV) (σ:Za) (hl:l.length≤2^40) (h:∀ x∈l,∀ g,ACalls Tryz.prog f (fs++[.pl 1 (Ya x)]++cs) (σ++g) fun v s=>v=.bool true∧∃ g',s=σ++g++g') :
  ACalls Tryz.prog 105 [Ze l,.fn (.func f) fs cs] σ fun v s=>v=.bool true∧s=σ:=by
 refine ACalls.forgetT ?_
 refine Yb Tryz.func105 rfl (Ua Tryz.func105 (by decide) rfl) ?_
 simp [Tryz.ntmps105]
 have h2:ACalls Tryz.prog 182 [Ze l,.fn (.func 183) [] [.ptr σ.length 0]] (σ++[.cells [.fn (.func f) fs cs]]) fun v s=>v=.bool false∧∃ g,s=σ++g:=by
  refine Yb Tryz.func182 rfl (Ua Tryz.func182 (by decide) rfl) ?_
  simp [Tryz.ntmps182]
  refine StA.of ((Vge l σ.length f fs cs _ (by simp) hl fun x hx g=>?_).mono ?_)
  ·have:=h x hx (.cells [.fn (.func f) fs cs]::g)
   simpa using this
  ·rintro v s ⟨rfl,g,rfl⟩
   simp
 refine StA.of (h2.mono ?_)
 rintro v s ⟨rfl,g,rfl⟩
 simp
 exact ⟨σ,g,rfl,rfl,fun r o h=>.inl h,.bool true,.bool _,rfl,rfl⟩
theorem Xhm (r:Rl) (l:List Int) (q:Nat) (σ:Za) (hq:σ[q]? = some (.cells [.int .i64 r.men,.pl 2 (r.ntcs.map Zc)])) (hl:(l.length:Int)=r.men):ACalls Tryz.prog 106 [.pl 1 (Ya l),.ptr q 0] σ fun v s=>v=.bool true∧s=σ:=by
 refine Yb Tryz.func106 rfl (Ua Tryz.func106 (by decide) rfl) ?_
 have hil:(Ya l).length=l.length:=by simp [Ya]
 simp [Tryz.ntmps106,hq,hil,hl]
theorem Uif (r:Rl) (h:r.Ok) (n:Int) (q:Nat) (σ:Za) (hq:σ[q]? = some (.cells [.int .i64 r.men,.pl 2 (r.ntcs.map Zc)])) (hn:n=-1∨(0≤n∧n<r.ntcs.length)):ACalls Tryz.prog 109 [.int .i64 n,.ptr q 0] σ fun v s=>v=.bool true∧s=σ:=by
 refine Yb Tryz.func109 rfl (Ua Tryz.func109 (by decide) rfl) ?_
 rcases hn with rfl | hn
 ·simp [Tryz.ntmps109,hq]
 ·have h1:¬ n=-1:=by omega
  have c1:=Wdf r n h
  have e:Vy n 0 (r.ntcs.length - 1)=true:=by simp [Vy];omega
  rw [e] at c1
  simp [Tryz.ntmps109,hq,h1]
  refine c1.use ?_
  simp
theorem Zgf (r:Rl) (h:r.Ok) (l:List Int) (q:Nat) (σ:Za) (hq:σ[q]? = some (.cells [.int .i64 r.men,.pl 2 (r.ntcs.map Zc)])) (hl:l.length≤2^40) (hn:∀ n∈l,n=-1∨(0≤n∧n<r.ntcs.length)):ACalls Tryz.prog 107 [.pl 1 (Ya l),.ptr q 0] σ fun v s=>v=.bool true∧s=σ:=by
 refine Yb Tryz.func107 rfl (Ua Tryz.func107 (by decide) rfl) ?_
 have hql:=(Qzs.1 hq).1
 simp [Tryz.ntmps107]
 refine StA.of ((Ubt l 109 [] [.ptr q 0] σ hl fun x hx g=>?_).mono ?_)
 ·exact (Uif r h x q (σ++g) (by rw [Qzl hql];exact hq) (hn x hx)).mono fun v s hh=>⟨hh.1,[],by rw [hh.2];simp⟩
 ·rintro v s ⟨rfl,hs⟩
  simp
  exact hs
end Ab

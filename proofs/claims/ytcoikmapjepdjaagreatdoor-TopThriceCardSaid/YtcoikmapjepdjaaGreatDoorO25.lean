/-
  Texts packed for a claim.
-/
import Derived.Test.YtcoikmapjepdjaaGreatDoorO00
import Derived.Test.YtcoikmapjepdjaaGreatDoorO24
import Derived.Test.YtcoikmapjepdjaaGreatDoorO16
set_option linter.all false
namespace Ab
open Go Go.RowKit
variable [Mode]
variable {P:Program}
def barP (p:Nat→Bool) (σ:Za):Za:=σ.mapIdx fun r o=>if p r then o else .dead
theorem Wh8 {p:Nat→Bool} {σ:Za}:(barP p σ).length=σ.length:=by unfold barP;simp
theorem Van {p:Nat→Bool} {σ:Za} {r:Nat} {o:AObj} (h:σ[r]? = some o) (hp:p r=true):(barP p σ)[r]? = some o:=by
 unfold barP
 rw [List.getElem?_mapIdx,h]
 simp [hp]
theorem Zau {p:Nat→Bool} {σ:Za} {r:Nat} {o:AObj} (h:(barP p σ)[r]? = some o) (hl:o.live=true):σ[r]? = some o∧p r=true:=by
 unfold barP at h
 rw [List.getElem?_mapIdx,Qzm] at h
 obtain ⟨x,hx,rfl⟩:=h
 by_cases hp:p r=true
 ·rw [if_pos hp];exact ⟨hx,hp⟩
 ·rw [if_neg hp] at hl;cases hl
theorem Inv.barP {C:Ctx} {σ:Za} (hI:Inv C σ) (p:Nat→Bool):Inv C (barP p σ) :=
 ⟨by rw [Wh8];exact hI.len,hI.glob,hI.base,hI.basep,hI.plt,fun r b o hr ho hl=>hI.live r b o hr (Zau ho hl).1 hl,
  fun r1 r2 b o1 o2 h1 h2 ho1 ho2 hl1 hl2=>hI.inj r1 r2 b o1 o2 h1 h2 (Zau ho1 hl1).1 (Zau ho2 hl2).1 hl1 hl2⟩
def Vw (p:Nat→Bool) (σ:Za) (x y:AV):Prop:=x=y∨Fz 0 (barP p σ) x y
theorem VR.vw {C:Ctx} {σ:Za} (hI:Inv C σ) {p:Nat→Bool} {x y:AV} {c:Value} (h:Vw p σ x y) (hv:VR C x c):VR (C.ice 0 (Ab.barP p σ)) y c:=by
 rcases h with rfl | h
 ·exact hv.ext (Ext.ice 0 _)
 ·exact (hv.frz (hI.barP p) h).ext (Ext.frz_ice 0 _)
structure View (p:Nat→Bool) (σ τ:Za):Prop where
 len:τ.length=σ.length
 live:∀ (r:Nat) (o':AObj),τ[r]? = some o'→o'.live=true→p r=false∧∃ o,σ[r]? = some o∧o.live=true∧(o'=o∨∃ cs cs',o=.cells cs∧o'=.cells cs'∧cs'.length=cs.length∧∀ (i:Nat) (x y:AV),cs[i]? = some x→cs'[i]? = some y→Vw p σ x y)
theorem Inv.view {C:Ctx} {σ τ:Za} {p:Nat→Bool} (hI:Inv C σ) (hV:View p σ τ):Inv (C.ice 0 (Ab.barP p σ)) τ:=by
 refine ⟨by rw [hV.len];exact hI.len,hI.glob,hI.base,fun b hb=>.inl (hI.basep b hb),fun b hb=>?_,fun r b o hr ho hl=>?_,fun r1 r2 b o1 o2 h1 h2 ho1 ho2 hl1 hl2=>?_⟩
 ·rcases hb with hb | ⟨r,o,_,h1,h2,h3⟩
  ·exact hI.plt b hb
  ·obtain ⟨_,c,hc,_⟩:=hI.live r b o h1 (Zau h2 h3).1 h3
   exact (Array.getElem?_eq_some_iff.1 hc).1
 ·obtain ⟨hp,o0,h0,hl0,hd⟩:=hV.live r o ho hl
  obtain ⟨hnp,c,hc,hR⟩:=hI.live r b o0 hr h0 hl0
  refine ⟨?_,c,hc,?_⟩
  ·rintro (hp' | ⟨r',o',g1,g2,g3,g4⟩)
   ·exact hnp hp'
   ·obtain ⟨k1,k2⟩:=Zau g3 g4
    have e:=hI.inj r r' b o0 o' hr g2 h0 k1 hl0 g4
    subst e
    rw [hp] at k2
    cases k2
  ·rcases hd with rfl | ⟨cs,cs',rfl,rfl,hlen,hz⟩
   ·exact hR.ext (Ext.ice 0 _)
   ·cases hR with
    | cells _ vs e lo hi q1 q2 q3 =>
     refine .cells cs' vs e lo hi (by rw [hlen];exact q1) (by first | exact q2 | (rw [hlen];exact q2)) fun i x v hx hv=>?_
     have hi':i<cs.length:=by have:=(Qzs.1 hx).1;omega
     exact (q3 i _ v (Qze hi') hv).vw hI (hz i _ x (Qze hi') hx)
 ·obtain ⟨_,o1',g1,k1,_⟩:=hV.live r1 o1 ho1 hl1
  obtain ⟨_,o2',g2,k2,_⟩:=hV.live r2 o2 ho2 hl2
  exact hI.inj r1 r2 b o1' o2' h1 h2 g1 g2 k1 k2
theorem ACode.view {rd:Option Nat} {c:Code} {Q:Exit→Env→Za→Prop} {u u':List AV} {m:List Nat} {σ τ:Za} (p:Nat→Bool) (hV:View p σ τ) (h:ACode P rd c Q { t:=u',m:=m } τ) (hl:u'.length=u.length)
  (hz:∀ (i:Nat) (x y:AV),u[i]? = some x→u'[i]? = some y→Vw p σ x y):ACode P rd c Q { t:=u,m:=m } σ:=by
 intro C a ro hI he hr
 have he':ER (C.ice 0 (barP p σ)) { t:=u',m:=m } a:=⟨⟨hl▸he.t.len,fun i y c hy hc=>by
  have hi:i<u'.length:=(Qzs.1 hy).1
  have hx:u[i]? = some (u[i]'(by omega)):=Qze (by omega)
  exact (he.t.at_ i _ c hx hc).vw hI (hz i _ y hx hy)⟩,he.m,fun i r d h1 h2=>he.mark i r d h1 h2⟩
 exact wpIn_mono (h (C.ice 0 (barP p σ)) a ro (hI.view hV) he' (hr.ext (Ext.ice 0 (barP p σ)))) fun _ _ _ hp=>hp.ext (Ext.ice 0 (barP p σ))
theorem ACalls.view {f:FuncId} {args args':List AV} {σ τ:Za} {R:AV→Za→Prop} (p:Nat→Bool) (hV:View p σ τ) (h:ACalls P f args' τ R) (hl:args'.length=args.length)
  (hz:∀ (i:Nat) (x y:AV),args[i]? = some x→args'[i]? = some y→Vw p σ x y):ACalls P f args σ R:=by
 have lent:∀ {C:Ctx} {cargs:List Value},Inv C σ→VRs C args cargs→VRs (C.ice 0 (barP p σ)) args' cargs:=by
  intro C cargs hI hv
  refine ⟨hl▸hv.len,fun i y c hy hc=>?_⟩
  have hi:=(Qzs.1 hy).1
  have hx:args[i]? = some (args[i]'(by omega)):=Qze (by omega)
  exact (hv.at_ i _ c hx hc).vw hI (hz i _ y hx hy)
 rcases h with h | h
 ·refine .inl ⟨h.1,fun C cargs hI hv=>(h.2 (C.ice 0 (barP p σ)) cargs (hI.view hV) (lent hI hv)).mono ?_⟩
  rintro e w' ⟨v,C',av,s,rfl,rfl,hE,hI',hv',hR⟩
  exact ⟨v,C',av,s,rfl,rfl,(Ext.ice 0 (barP p σ)).trans hE,hI',hv',hR⟩
 ·refine .inr fun C cargs hI hv=>?_
  obtain ⟨v,C',av,s,hr,hE,hI',hv',hR⟩:=h (C.ice 0 (barP p σ)) cargs (hI.view hV) (lent hI hv)
  exact ⟨v,C',av,s,hr,(Ext.ice 0 (barP p σ)).trans hE,hI',hv',hR⟩
theorem Wc2 {rd:Option Nat} {c:Code} {Q:Exit→Env→Za→Prop} {env:Env} {σ:Za} (I:Env→Za→Prop) (μ:Env→Za→Nat) (h0:I env σ)
  (round:∀ env σ,I env σ→awp P rd c (Xb (fun env' σ'=>I env' σ'∧μ env' σ'<μ env σ) Q) env σ∨∃ (p:Nat→Bool) (τ:Za) (u':List AV),View p σ τ∧u'.length=env.t.length∧(∀ (i:Nat) (x y:AV),env.t[i]? = some x→u'[i]? = some y→Vw p σ x y)∧awp P rd c (Xb (fun env' σ'=>I env' σ'∧μ env' σ'<μ env σ) Q) { t:=u',m:=env.m } τ):@StC _ P rd ⟨.loop c⟩ ⟨Q⟩ env σ :=
 Xcp I μ h0 fun env σ hi=>by
  rcases round env σ hi with h | ⟨p,τ,u',hV,h1,h2,h3⟩
  ·exact Yi c h
  ·exact (Yi c h3).view p hV h1 h2
theorem Xaj {p:Nat→Bool} {σ:Za} {u:List AV} {l:List (Nat × AV)} (h:∀ q∈l,Vw p σ (tg u q.1) q.2):∀ (i:Nat) (x y:AV),u[i]? = some x→(Uc u l)[i]? = some y→Vw p σ x y:=by
 unfold Uc
 suffices hh:∀ (l:List (Nat × AV)),(∀ q∈l,Vw p σ (tg u q.1) q.2)→∀ t:List AV,(∀ (i:Nat) (x y:AV),u[i]? = some x→t[i]? = some y→Vw p σ x y)→∀ (i:Nat) (x y:AV),u[i]? = some x→(l.foldl (fun t q=>ts t q.1 q.2) t)[i]? = some y→Vw p σ x y from
  hh l h _ fun i x y _ hy=>by
   rw [List.getElem?_replicate] at hy
   split at hy
   ·cases hy;exact .inr (.any _)
   ·cases hy
 intro l
 induction l with
 | nil=>intro _ t ht;exact ht
 | cons q l ih =>
  intro h t ht
  refine ih (fun q hq=>h q (List.mem_cons_of_mem _ hq)) _ fun i x y hx hy=>?_
  have hp:=h q (by simp)
  unfold ts at hy
  rw [List.getElem?_set] at hy
  split at hy
  ·rename_i e
   subst e
   split at hy
   ·cases hy
    unfold tg at hp
    rwa [List.getD_eq_getElem?_getD,hx] at hp
   ·cases hy
  ·exact ht i x y hx hy
def Ux (n:Nat) (σ:Za) (r:Nat):Bool:=decide (n≤r)&&match σ[r]? with | some (.cells _)=>true | _=>false
def AObj.sleep:AObj→AObj
 | .deferred=>.deferred
 | _=>.dead
theorem Xdp {n r:Nat} {σ:Za} {cs:List AV} (h:σ[r]? = some (.cells cs)) (hn:n≤r):Ux n σ r=true:=by unfold Ux;rw [h];simp [hn]
theorem Ub8 {n r:Nat} {σ:Za} {cs:List AV} (h:σ[r]? = some (.cells cs)) (hn:n≤r):(barP (Ux n σ) σ)[r]? = some (.cells cs):=Van h (Xdp h hn)
theorem View.sleep (S g:Za):View (Ux S.length (S++g)) (S++g) (S++g.map AObj.sleep):=by
 refine ⟨by simp,fun r o' ho hl=>?_⟩
 rcases Qzn r S.length with h | h
 ·rw [Qzl h] at ho
  refine ⟨by unfold Ux;simp;omega,o',by rw [Qzl h];exact ho,hl,.inl rfl⟩
 ·rw [Qzr h,Qzp,Qzm] at ho
  obtain ⟨x,hx,rfl⟩:=ho
  cases x with
  | deferred =>
   have e:(S++g)[r]? = some .deferred:=by rw [Qzr h];exact hx
   exact ⟨by unfold Ux;rw [e];simp,_,e,rfl,.inl rfl⟩
  | _=>simp [AObj.sleep,AObj.live] at hl
theorem Ygy {fn:Func} {R:AV→Za→Prop} {env:Env}:∀ (m:List Nat) (σ:Za),m.Nodup→(∀ r∈m,σ[r]? = some .deferred) →
  (∀ σ':Za,σ'.length=σ.length→(∀ r,r∉m→σ'[r]? = σ[r]?)→Ws P fn R env [] σ')→Ws P fn R env m σ:=by
 intro m
 induction m with
 | nil=>intro σ _ _ hR;exact hR σ rfl fun _ _=>rfl
 | cons r m ih =>
  intro σ hn hd hR
  rw [List.nodup_cons] at hn
  refine ⟨hd r (by simp),ih _ hn.2 (fun s hs=>?_) fun σ' hl hk=>hR σ' (by simpa using hl) fun s hs=>?_⟩
  ·have hne:r≠s:=fun e=>hn.1 (e▸hs)
   rw [List.getElem?_set_ne hne]
   exact hd s (by simp [hs])
  ·rw [List.mem_cons,not_or] at hs
   rw [hk s hs.2,List.getElem?_set_ne (fun e=>hs.1 e.symm)]
theorem AYield.round2 {r:Nat} {body:Code} {K:AV→Za→Prop} {o:AObj} {σ:Za} {args:List AV} {fn:FuncId} {t:List AV} {ps:Array Tmp} {assign:Code} {D:Nat} (ho:o=.loop fn t ps assign body .ready none D) (hr:σ[r]? = some o) (hl:args.length=ps.size)
  (h:∀ o':AObj,(∀ cs,o'≠.cells cs)→awp P (some r) assign (QBe P r body K o o') { t:=Vah ps.toList args t } σ):AYield P r args σ K:=by
 subst ho
 unfold AYield
 rw [hr]
 refine ⟨hl,?_⟩
 refine (Yi _ (h (.loop fn t ps assign body .busy none D) (fun cs e=>by cases e))).mono fun e env s hq=>?_
 cases e with
 | normal =>
  obtain ⟨h1,h2⟩:=hq
  unfold QBegin
  simp only [h1,true_and]
  refine (Yi _ h2).mono fun e env s hq=>?_
  cases e with
  | normal =>
   obtain ⟨h3,h4⟩:=hq
   unfold QRound
   simp only [h3]
   exact h4
  | _=>cases hq
 | _=>cases hq
theorem Fz.of_bar {p:Nat→Bool} {σ:Za} {n:Nat} (hp:∀ r,p r=true→n≤r) {x y:AV} (h:Fz 0 (barP p σ) x y):Fz n σ x y:=by
 induction h with
 | any v=>exact .any v
 | bool b=>exact .bool b
 | int k i=>exact .int k i
 | str s=>exact .str s
 | nilp=>exact .nilp
 | gl g=>exact .gl g
 | nils=>exact .nils
 | nils_pl k=>exact .nils_pl k
 | emp=>exact .emp
 | emp_pl k=>exact .emp_pl k
 | nn=>exact .nn
 | nn_pl k=>exact .nn_pl k
 | nilm=>exact .nilm
 | nilf=>exact .nilf
 | nili=>exact .nili
 | ptr r off h=>omega
 | yld r h=>omega
 | keep k r off len h=>omega
 | pp k l a b _ ih=>exact .pp k l a b ih
 | pl0 k k'=>exact .pl0 k k'
 | pl k l _ ih=>exact .pl k l ih
 | arr k r off cs l f _ hr h1 _ ih =>
  obtain ⟨hr1,hr2⟩:=Zau hr rfl
  exact .arr k r off cs l f (hp r hr2) hr1 h1 ih
 | agg l l' hl _ ih=>exact .agg l l' hl ih
 | tup l l' hl _ ih=>exact .tup l l' hl ih
theorem Acc.vw {σ g:Za} {v:AV} {l:List Int} {o:Option Nat} (h:Acc σ g 1 v (l.map fun x=>AV.int .i64 x) o) {p:Nat→Bool} (hp:∀ r,σ.length≤r→p r=true):Vw p (σ++g) v (.pl 1 (l.map fun x=>AV.int .i64 x)):=by
 have hv:=h.val
 cases o with
 | none =>
  obtain ⟨rfl,e⟩:=hv
  rw [e]
  exact .inr (.nils_pl 1)
 | some jo =>
  obtain ⟨rfl,hjo⟩:=hv
  have hfl:(l.map fun x=>AV.int .i64 x).flatMap AV.cells=l.map fun x=>AV.int .i64 x:=by
   clear h hjo
   induction l with
   | nil=>rfl
   | cons w t ih=>rw [List.map_cons,List.flatMap_cons,ih];rfl
  rw [hfl] at hjo
  have hT:(σ++g)[σ.length+jo]? = some (.cells (l.map fun x=>AV.int .i64 x)):=by rw [Qzr (by omega),Nat.add_sub_cancel_left];exact hjo
  refine .inr (.arr 1 _ 0 _ (l.map fun x=>AV.int .i64 x) (fun i _=>((l.map fun x=>AV.int .i64 x)[i]?).getD .any) (Nat.zero_le _) (Van hT (hp _ (by omega))) (fun i x hx=>?_) fun i x hx j y hy=>?_)
  ·obtain ⟨z,_,rfl⟩:=List.mem_map.1 (Qzg hx)
   refine ⟨rfl,fun j y hy=>?_⟩
   cases j with
   | zero =>
    simp [AV.cells] at hy
    subst hy
    exact ⟨rfl,by rw [show (0+i)*1+0=i by omega,hx];rfl⟩
   | succ j=>simp [AV.cells] at hy
  ·obtain ⟨z,_,rfl⟩:=List.mem_map.1 (Qzg hx)
   cases j with
   | zero =>
    simp [AV.cells] at hy
    subst hy
    rw [hx]
    exact .int _ _
   | succ j=>simp [AV.cells] at hy
section
variable {rd:Option Nat} {a b c:Code} {Q:Exit→Env→Za→Prop} {env:Env} {σ:Za} {n:Nat}
theorem Was (I:Env→Za→Prop) (h2:∀ (env:Env) (σ:Za),I env σ→ACode P rd (Vd n c).2 Q env σ) (h1:awp P rd (Vd n c).1 (Xb I Q) env σ):ACode P rd c Q env σ:=by
 induction n generalizing c env σ with
 | zero =>
  rw [Wbe] at h1
  have:=h2 _ _ h1
  have e:(Vd 0 c).2=c:=by cases c<;>rfl
  rw [e] at this
  exact this
 | succ n ih =>
  have skip:(Vd (n+1) c)=(.skip,c)→ACode P rd c Q env σ:=by
   intro e
   rw [e] at h1 h2
   exact h2 _ _ h1
  cases c with
  | seq a b =>
   refine Yag ((Yi _ (Wa7▸h1)).mono fun e env s hq=>?_)
   cases e with
   | normal=>exact ih (fun env σ h=>h2 env σ h) hq
   | _=>exact hq
  | _=>exact skip rfl
end
theorem View.rows {S g:Za} {C C':List AV} (hl:C'.length=C.length) (hz:∀ (i:Nat) (x y:AV),C[i]? = some x→C'[i]? = some y→Vw (fun r=>decide (S.length+1≤r)) (S++(.cells C::g)) x y) :
  View (fun r=>decide (S.length+1≤r)) (S++(.cells C::g)) (S++(.cells C'::g.map fun _=>AObj.dead)):=by
 refine ⟨by simp,fun r o' ho hlv=>?_⟩
 rcases Qzn r S.length with h | h
 ·rw [Qzl h] at ho
  exact ⟨by simp;omega,o',by rw [Qzl h];exact ho,hlv,.inl rfl⟩
 ·rw [Qzr h] at ho
  cases hr:r - S.length with
  | zero =>
   rw [hr] at ho
   simp at ho
   subst ho
   exact ⟨by simp;omega,.cells C,by rw [Qzr h,hr];rfl,rfl,.inr ⟨C,C',rfl,rfl,hl,hz⟩⟩
  | succ k =>
   rw [hr] at ho
   simp only [List.getElem?_cons_succ,Qzp,Qzm] at ho
   obtain ⟨x,_,rfl⟩:=ho
   cases hlv
end Ab
namespace Ab
open Go Go.RowKit
variable [Mode]
variable {P:Program}
def Yak (c:Code):Option AObj→Prop
 | some (.loop _ _ _ _ _ .done (some c') _)=>c'=c
 | _=>False
theorem Xfv {g:Operand} {ps:Array Tmp} {assign body:Code} {Q:Exit→Env→Za→Prop} {env:Env} {σ:Za} {gf:FuncId} {first caps:List AV} (hg:Wa env.t g=.fn (.func gf) first caps)
  (h:∀ fn D,AEnter P gf (first++[.yld (σ.length+1)]++caps) (σ++[.deferred,.loop fn env.t ps assign body .ready none D])
   (fun _ σ'=>(Wab σ'[σ.length+1]?∧Q .normal { env with m:=σ.length::env.m } (σ'.set (σ.length+1) .dead))∨(Yak .ret σ'[σ.length+1]?∧Q .ret { env with m:=σ.length::env.m } (σ'.set (σ.length+1) .dead))∨∃ id,Yak (.exit id) σ'[σ.length+1]?∧Q (.exit id) { env with m:=σ.length::env.m } (σ'.set (σ.length+1) .dead))):ACode P none (.rangeFunc g ps assign body) Q env σ:=by
 intro C a ro hI he hr
 have hro:ro=none:=hr
 subst hro
 have hf:=he.eval g
 rw [hg] at hf
 obtain ⟨cs,ds,hfv,hcs,hds⟩:=hf.fn_inv
 refine wpIn_rangeFunc fun fn _=>?_
 obtain ⟨hen,hcall⟩:=h fn C.w.heap.size
 have hE1:=Ext.push hI.plt (.deferred (some []))
 have hI1:Inv (C.push (.deferred (some []))) (σ++[.deferred]):=hI.push .deferred
 have hE2:=Ext.push hI1.plt (.loop { state:=.ready,pending:=none,fn,tmps:=a.tmps,params:=ps,assign,body,defers:=C.w.heap.size })
 have hI2:=hI1.push (c:=.loop { state:=.ready,pending:=none,fn,tmps:=a.tmps,params:=ps,assign,body,defers:=C.w.heap.size }) (.loop fn env.t a.tmps ps assign body .ready none C.w.heap.size (he.t.ext (hE1.trans hE2)))
 rw [List.append_assoc] at hI2
 have hb2:((C.push (.deferred (some []))).push (.loop { state:=.ready,pending:=none,fn,tmps:=a.tmps,params:=ps,assign,body,defers:=C.w.heap.size })).blk[σ.length+1]? = some (C.w.heap.size+1):=by
  have:=hI.len
  simp [Ctx.push,World.size_alloc,← this]
 have hb1:((C.push (.deferred (some []))).push (.loop { state:=.ready,pending:=none,fn,tmps:=a.tmps,params:=ps,assign,body,defers:=C.w.heap.size })).blk[σ.length]? = some C.w.heap.size:=by
  have:=hI.len
  simp [Ctx.push,← this]
 refine ⟨C.w.heap.size+1,[{ target:=.collected C.w.heap.size,args:=#[] }],((C.push (.deferred (some []))).push (.loop { state:=.ready,pending:=none,fn,tmps:=a.tmps,params:=ps,assign,body,defers:=C.w.heap.size })).w,{ target:=.fn (.func gf) ds.toArray,args:=cs.toArray++#[Value.func (.yield (C.w.heap.size+1)) #[] #[]] },((C.push (.deferred (some []))).push (.loop { state:=.ready,pending:=none,fn,tmps:=a.tmps,params:=ps,assign,body,defers:=C.w.heap.size })).w,gf,(cs++[Value.func (.yield (C.w.heap.size+1)) #[] #[]]++ds).toArray,((C.push (.deferred (some []))).push (.loop { state:=.ready,pending:=none,fn,tmps:=a.tmps,params:=ps,assign,body,defers:=C.w.heap.size })).w,run_enterLoop_outer _ _ _ _ _,?_,fun _ _=>trivial,?_,(fun h=>by cases h),?_⟩
 ·simp only [resolve,hfv]
  simp [go_sem]
 ·have:=hen (cs++[Value.func (.yield (C.w.heap.size+1)) #[] #[]]++ds).toArray (((C.push (.deferred (some []))).push (.loop { state:=.ready,pending:=none,fn,tmps:=a.tmps,params:=ps,assign,body,defers:=C.w.heap.size })).w)
  simp [invoke,go_sem]
  simpa using this
 ·refine (hcall _ _ hI2 (((hcs.ext (hE1.trans hE2)).append (.cons (.yld _ _ hb2) (.nil _))).append (hds.ext (hE1.trans hE2)))).mono ?_
  rintro e w' ⟨v,C',av,σ',rfl,rfl,hE,hI',hv,hq⟩
  have hb':=hE.blk_at hb2
  have fin:∀ (fn':FuncId) (t':List AV) (ps':Array Tmp) (sa' bd':Code) (st:LoopState) (pd:Option Code) (D':Nat),σ'[σ.length+1]? = some (.loop fn' t' ps' sa' bd' st pd D')→st≠.busy→∃ (w4:World) (C4:Ctx),(Instr.endLoop (C.w.heap.size+1)).run P C'.w=.ok pd w4∧C4.w=w4∧Ext C C4∧Inv C4 (σ'.set (σ.length+1) .dead)∧ER C4 { t:=env.t,m:=σ.length::env.m } { a with defers:=[{ target:=.collected C.w.heap.size,args:=#[] }]++a.defers }:=by
   intro fn' t' ps' sa' bd' st pd D' hr' hst
   obtain ⟨hnp,c,hc,hR⟩:=hI'.live _ _ _ hb' hr' rfl
   obtain ⟨tmps',rfl,ht'⟩:=hR.loop_inv
   have hE4:=Ext.set (C:=C') (o:=.loop { state:=.exhausted,pending:=pd,fn:=fn',tmps:=tmps',params:=ps',assign:=sa',body:=bd',defers:=D' }) hc hnp rfl
   have hI4:=hI'.set (o':=.dead) (c':=.loop { state:=.exhausted,pending:=pd,fn:=fn',tmps:=tmps',params:=ps',assign:=sa',body:=bd',defers:=D' }) hb' hr' rfl hc rfl (.gone _)
   have hEE:=((hE1.trans hE2).trans hE).trans hE4
   refine ⟨_,_,by rw [run_endLoop hc (by simpa using hst)],?_,hEE,hI4,⟨he.t.ext hEE,by simp [he.m],fun i r d h1 h2=>?_⟩⟩
   ·rw [Ual];rfl
   ·cases i with
    | zero =>
     simp at h1 h2
     subst h1
     subst h2
     exact ⟨_,hE4.blk_at (hE.blk_at hb1),rfl⟩
    | succ i =>
     simp at h1 h2
     obtain ⟨b,hb,hd⟩:=he.mark i r d h1 h2
     exact ⟨b,hEE.blk_at hb,hd⟩
  rcases hq with ⟨hrd,hq⟩ | ⟨hrd,hq⟩ | ⟨id,hrd,hq⟩
  ·unfold Wab at hrd
   split at hrd
   ·rename_i fn' t' ps' sa' bd' D' hr'
    obtain ⟨w4,C4,h1,rfl,h3,h4,h5⟩:=fin _ _ _ _ _ _ _ _ hr' (by simp)
    exact ⟨none,_,h1,_,_,_,rfl,h3,h4,h5,hq⟩
   ·exact hrd.elim
  ·unfold Yak at hrd
   split at hrd
   ·rename_i fn' t' ps' sa' bd' c' D' hr'
    subst hrd
    obtain ⟨w4,C4,h1,rfl,h3,h4,h5⟩:=fin _ _ _ _ _ _ _ _ hr' (by simp)
    exact ⟨some .ret,_,h1,wpIn_ret ⟨_,_,_,rfl,h3,h4,h5,hq⟩⟩
   ·exact hrd.elim
  ·unfold Yak at hrd
   split at hrd
   ·rename_i fn' t' ps' sa' bd' c' D' hr'
    subst hrd
    obtain ⟨w4,C4,h1,rfl,h3,h4,h5⟩:=fin _ _ _ _ _ _ _ _ hr' (by simp)
    exact ⟨some (.exit id),_,h1,wpIn_exit ⟨_,_,_,rfl,h3,h4,h5,hq⟩⟩
   ·exact hrd.elim
theorem Xb5 {g:Operand} {ps:Array Tmp} {assign body:Code} {Q:Exit→Env→Za→Prop} {env:Env} {σ:Za} {gf:FuncId} {first caps:List AV} (r q:Nat) (hr:σ.length=r) (hq:r+1=q) (hg:Wa env.t g=.fn (.func gf) first caps)
  (h:∀ fn D o σ2,o=.loop fn env.t ps assign body .ready none D→Wab (some o)=True→σ2=σ++[.deferred,o]→AEnter P gf (first++[.yld q]++caps) σ2
   (fun _ σ'=>(Wab σ'[q]?∧Q .normal { env with m:=r::env.m } (σ'.set q .dead))∨(Yak .ret σ'[q]?∧Q .ret { env with m:=r::env.m } (σ'.set q .dead))∨∃ id,Yak (.exit id) σ'[q]?∧Q (.exit id) { env with m:=r::env.m } (σ'.set q .dead))):@StC _ P none ⟨.rangeFunc g ps assign body⟩ ⟨Q⟩ env σ:=by
 subst hr
 subst hq
 exact Xfv hg fun fn D=>h fn D _ _ rfl (Vcj _ _ _ _ _ _) rfl
def Ui (r:Nat) (K:AV→Za→Prop) (o o':AObj) (oJ:Code→AObj):Exit→Env→Za→Prop
 | .normal,_,σ=>σ[r]? = some o'∧K (.bool true) (σ.set r o)
 | .ret,_,σ=>σ[r]? = some o'∧K (.bool false) (σ.set r (oJ .ret))
 | .exit id,_,σ=>σ[r]? = some o'∧K (.bool false) (σ.set r (oJ (.exit id)))
 | _,_,_=>False
def Uj (P:Program) (r:Nat) (body:Code) (K:AV→Za→Prop) (o o':AObj) (oJ:Code→AObj):Exit→Env→Za→Prop
 | .normal,env,σ=>σ[r]? = some o∧awp P (some r) body (Ui r K o o' oJ) env (σ.set r o')
 | _,_,_=>False
theorem Xfb {r:Nat} {K:AV→Za→Prop} {o o':AObj} {oJ:Code→AObj} {env:Env} {σ:Za}:Ui r K o o' oJ .normal env σ=(σ[r]? = some o'∧K (.bool true) (σ.set r o)):=(rfl)
theorem Vgn {r:Nat} {K:AV→Za→Prop} {o o':AObj} {oJ:Code→AObj} {env:Env} {σ:Za}:Ui r K o o' oJ .ret env σ=(σ[r]? = some o'∧K (.bool false) (σ.set r (oJ .ret))):=(rfl)
theorem Vdw {r id:Nat} {K:AV→Za→Prop} {o o':AObj} {oJ:Code→AObj} {env:Env} {σ:Za}:Ui r K o o' oJ (.exit id) env σ=(σ[r]? = some o'∧K (.bool false) (σ.set r (oJ (.exit id)))):=(rfl)
theorem Zfy {r:Nat} {body:Code} {K:AV→Za→Prop} {o o':AObj} {oJ:Code→AObj} {env:Env} {σ:Za}:Uj P r body K o o' oJ .normal env σ=(σ[r]? = some o∧awp P (some r) body (Ui r K o o' oJ) env (σ.set r o')):=(rfl)
@[congr] theorem Yip {r:Nat} {K:AV→Za→Prop} {o o':AObj} {oJ:Code→AObj} {e:Exit} {env env':Env} {σ σ':Za} (h:env=env') (h':σ=σ'):Ui r K o o' oJ e env σ=Ui r K o o' oJ e env' σ':=by rw [h,h']
@[congr] theorem Zi1 {r:Nat} {body:Code} {K:AV→Za→Prop} {o o':AObj} {oJ:Code→AObj} {e:Exit} {env env':Env} {σ σ':Za} (h:env=env') (h':σ=σ'):Uj P r body K o o' oJ e env σ=Uj P r body K o o' oJ e env' σ':=by rw [h,h']
def Vaw (c:Code):AObj→AObj
 | .loop fn t ps a b _ _ D=>.loop fn t ps a b .done (some c) D
 | o=>o
theorem Zg1 {o:AObj} (c:Code) (h:Wab (some o)=True):Yak c (some (Vaw c o)):=by
 unfold Wab at h
 split at h
 ·rename_i e;cases e;unfold Vaw Yak;rfl
 ·exact absurd h (by simp)
theorem AYield.roundJ {r:Nat} {body:Code} {K:AV→Za→Prop} {o:AObj} {σ:Za} {args:List AV} {fn:FuncId} {t:List AV} {ps:Array Tmp} {assign:Code} {D:Nat} (ho:o=.loop fn t ps assign body .ready none D) (hr:σ[r]? = some o) (hl:args.length=ps.size)
  (h:∀ o':AObj,(∀ cs,o'≠.cells cs)→awp P (some r) assign (Uj P r body K o o' fun c=>Vaw c o) { t:=Vah ps.toList args t } σ):AYield P r args σ K:=by
 subst ho
 unfold AYield
 rw [hr]
 refine ⟨hl,?_⟩
 refine (Yi _ (h (.loop fn t ps assign body .busy none D) fun cs e=>by cases e)).mono fun e env s hq=>?_
 cases e with
 | normal =>
  obtain ⟨h1,h2⟩:=hq
  unfold QBegin
  simp only [h1,true_and]
  refine (Yi _ h2).mono fun e env s hq=>?_
  cases e with
  | normal =>
   obtain ⟨h3,h4⟩:=hq
   unfold QRound
   simp only [h3]
   exact h4
  | ret =>
   obtain ⟨h3,h4⟩:=hq
   unfold QRound
   simp only [h3]
   exact h4
  | exit id =>
   obtain ⟨h3,h4⟩:=hq
   unfold QRound
   simp only [h3]
   exact h4
  | _=>cases hq
 | _=>cases hq
theorem Ygt {r:Nat} {args:List AV} {σ:Za} {v:AV} {s:Za} {K:AV→Za→Prop} (h:AYield P r args σ fun v' s'=>v'=v∧s'=s) (hk:K v s):@OuH _ P (.yld r) args σ ⟨K⟩:=⟨v,s,h,hk⟩
attribute [simp] Xfb Vgn Vdw Zfy
end Ab

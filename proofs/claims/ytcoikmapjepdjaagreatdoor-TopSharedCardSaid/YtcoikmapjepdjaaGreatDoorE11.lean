/-
  Texts packed for a claim.
-/
import Derived.Test.YtcoikmapjepdjaaGreatDoorE00
import Derived.Test.YtcoikmapjepdjaaGreatDoorE09
set_option linter.all false
namespace Ab
open Go Go.RowKit
variable [Mode]
variable {P:Program}
def Ctx.low (C:Ctx) (n:Nat):Ctx:={ C with blk:=C.blk.take n }
theorem Ybe {C:Ctx} {n r b:Nat} (h:C.blk[r]? = some b) (hr:r<n):(C.low n).blk[r]? = some b:=by
 simp only [Ctx.low]
 rw [List.getElem?_take_of_lt hr];exact h
theorem Vbq (C:Ctx) (n:Nat):C.frz n []=C.low n:=by
 unfold Ctx.frz Ctx.low
 congr 1
 funext b
 apply propext
 constructor
 ·rintro (h | ⟨r,o,_,_,h,_⟩)
  ·exact h
  ·simp at h
 ·exact .inl
theorem VR.low {C:Ctx} {n:Nat} {v v':AV} {c:Value} (hf:Fz n [] v v') (h:VR C v c):VR (C.low n) v' c:=by
 induction hf generalizing c with
 | any v=>exact .any c
 | bool b=>cases h;exact .bool b
 | int k i=>cases h;exact .int k i
 | str s=>cases h;exact .str s
 | nilp=>cases h;exact .nilp
 | gl g=>cases h;exact .gl g
 | nils=>cases h;exact .nils
 | nils_pl k=>cases h;exact .pl0 k none 0 fun _=>rfl
 | emp=>cases h;exact .emp _
 | emp_pl k=>cases h;exact .pl0 k _ 0 fun _=>rfl
 | nn=>cases h;exact .nn _ _
 | nn_pl k=>cases h;exact .pl0 k _ _ fun h=>by cases h
 | nilm=>cases h;exact .nilm
 | nilf=>cases h;exact .nilf
 | nili=>cases h;exact .nili
 | ptr r off hr=>obtain ⟨b,hb,rfl⟩:=h.ptr_inv;exact .ptr r off b (Ybe hb hr)
 | yld r hr=>obtain ⟨b,hb,rfl⟩:=h.yld_inv;exact .yld r b (Ybe hb hr)
 | keep k r off len hr=>obtain ⟨b,cap,e,m,hb,h1,h2,h3,rfl⟩:=h.arr_inv;exact .arr k r off len b cap e m (Ybe hb hr) h1 h2 h3
 | pp k l a b' _ ih =>
  obtain ⟨b,o,rfl,hi,hrow⟩:=h.pp_inv
  exact .pp k l a b' b o hrow.f (hrow.1) hi (fun i x hx=>⟨(hrow.2 i x hx).1,fun j y hy=>⟨((hrow.2 i x hx).2 j y hy).1,(hrow.f_eq hx hy).1⟩⟩) (fun i x hx j y hy=>ih i x hx j y hy (hrow.f_eq hx hy).2)
 | pl0 k k' =>
  obtain ⟨A,cap,rfl,h1,h2⟩:=h.pl_inv
  exact .pl0 k' A cap h.pl_cap
 | pl k l _ ih =>
  obtain ⟨A,cap,rfl,h1,h2⟩:=h.pl_inv
  rcases h2 with rfl | ⟨b,o,rfl,hrow⟩
  ·exact .pl0 k A cap h.pl_cap
  ·exact .pl k l b o l.length cap hrow.f hrow.1 rfl h1 (fun i x hx=>⟨(hrow.2 i x hx).1,fun j y hy=>⟨((hrow.2 i x hx).2 j y hy).1,(hrow.f_eq hx hy).1⟩⟩)
    (fun i x hx j y hy=>ih i x hx j y hy (hrow.f_eq hx hy).2)
 | arr k r off cs l f hn hr h1 _ ih=>simp at hr
 | agg l l' hl _ ih =>
  obtain ⟨cs,rfl,hcs⟩:=h.agg_inv
  exact .agg l' cs (by rw [← hl];exact hcs.len) fun i y c hy hc=>by
   have hi:=(Qzs.1 hy).1
   have hx:l[i]? = some (l[i]'(by omega)):=Qze (by omega)
   exact ih i _ y hx hy (hcs.at_ i _ c hx hc)
 | tup l l' hl _ ih =>
  obtain ⟨cs,rfl,hcs⟩:=h.tup_inv
  exact .tup l' cs (by rw [← hl];exact hcs.len) fun i y c hy hc=>by
   have hi:=(Qzs.1 hy).1
   have hx:l[i]? = some (l[i]'(by omega)):=Qze (by omega)
   exact ih i _ y hx hy (hcs.at_ i _ c hx hc)
def Ctx.re (C' C:Ctx) (bs:List Nat):Ctx:={ C' with blk:=C.blk++bs }
theorem Vaz {C C':Ctx} {n:Nat} (hn:C.blk.length=n) (hE:Ext C C') (bs:List Nat):Ext (C'.low n) (C'.re C bs):=by
 obtain ⟨e,he⟩:=hE.blk
 refine ⟨rfl,⟨bs,?_⟩,fun _ h=>h,fun _ _=>rfl,fun _ _ h=>h,Nat.le_refl _,fun _=>Nat.le_refl _⟩
 show C.blk++bs=C'.blk.take n++bs
 rw [he,← hn,List.take_left]
theorem VR.re {C C':Ctx} {n:Nat} (hn:C.blk.length=n) (hE:Ext C C') (bs:List Nat) {v:AV} {c:Value} (hf:Fz n [] v v) (h:VR C' v c):VR (C'.re C bs) v c:=(h.low hf).ext (Vaz hn hE bs)
theorem VR.re_old {C C':Ctx} {n:Nat} (hn:C.blk.length=n) (hE:Ext C C') (bs:List Nat) {v:AV} {c₀ c:Value} (h₀:VR C v c₀) (h:VR C' v c):VR (C'.re C bs) v c:=by
 have:=VR.frz_old (σ:=[]) (Nat.le_of_eq hn) h₀ h
 rw [Vbq] at this
 exact this.ext (Vaz hn hE bs)
theorem Vf4 {C C':Ctx} {σ:Za} (hI:Inv C σ) (hE:Ext C C') {objs objs':List AObj} (hI':Inv C' (σ++objs)) {bs:List Nat} (hlen:bs.length=objs'.length)
  (hb:∀ (i b:Nat) (o:AObj),bs[i]? = some b→objs'[i]? = some o→∃ j,C'.blk[σ.length+j]? = some b∧objs[j]? = some o) (hnd:∀ (i i' b:Nat),bs[i]? = some b→bs[i']? = some b→i=i')
  (hobj:∀ o∈objs',∃ cs,o=.cells cs∧∀ y∈cs,Fz σ.length [] y y):Ext C (C'.re C bs)∧Inv (C'.re C bs) (σ++objs'):=by
 have hn:=hI.len
 have hup:=Vaz hn hE bs
 obtain ⟨e,he⟩:=hE.blk
 have at1:∀ r b,r<σ.length→(C'.re C bs).blk[r]? = some b→C.blk[r]? = some b∧C'.blk[r]? = some b:=by
  intro r b hr h
  simp only [Ctx.re] at h
  rw [Qzl (by omega)] at h
  exact ⟨h,hE.blk_at h⟩
 have at2:∀ r b,σ.length≤r→(C'.re C bs).blk[r]? = some b→bs[r - σ.length]? = some b:=by
  intro r b hr h
  simp only [Ctx.re] at h
  rw [Qzr (by omega),hn] at h
  exact h
 refine ⟨⟨hE.w0,⟨bs,rfl⟩,hE.pers,hE.keep,hE.shape,hE.size,hE.drawn⟩,by simp [Ctx.re,hn,hlen],hI'.glob,hI'.base,hI'.basep,hI'.plt,fun r b o hr ho hl=>?_,fun r r' b o o' hr hr' ho ho' hl hl'=>?_⟩
 ·rcases Qzn r σ.length with h | h
  ·obtain ⟨h1,h2⟩:=at1 r b h hr
   rw [Qzl h] at ho
   obtain ⟨hnp,c,hc,hR⟩:=hI'.live r b o h2 (by rw [Qzl h];exact ho) hl
   obtain ⟨_,c₀,_,hR₀⟩:=hI.live r b o h1 ho hl
   have:=ORel.frz_old (σ:=[]) (Nat.le_of_eq hn) hR₀ hR
   rw [Vbq] at this
   exact ⟨hnp,c,hc,this.ext hup⟩
  ·have h2:=at2 r b h hr
   rw [Qzr h] at ho
   obtain ⟨j,hj,hoj⟩:=hb _ b o h2 ho
   obtain ⟨hnp,c,hc,hR⟩:=hI'.live (σ.length+j) b o hj (by rw [Qzr (by omega),Nat.add_sub_cancel_left];exact hoj) hl
   obtain ⟨cs,rfl,hcs⟩:=hobj o (Qzg ho)
   obtain ⟨carr,e,lo,hi,rfl,h3,h4,h5⟩:=hR.cells_inv
   exact ⟨hnp,_,hc,.cells cs carr e lo hi h3 h4 fun i x c hx hc=>((h5 i x c hx hc).low (hcs x (Qzg hx))).ext hup⟩
 ·rcases Qzn r σ.length with h | h<;>rcases Qzn r' σ.length with h' | h'
  ·rw [Qzl h] at ho
   rw [Qzl h'] at ho'
   exact hI.inj r r' b o o' (at1 r b h hr).1 (at1 r' b h' hr').1 ho ho' hl hl'
  ·rw [Qzl h] at ho
   rw [Qzr h'] at ho'
   obtain ⟨j,hj,hoj⟩:=hb _ b o' (at2 r' b h' hr') ho'
   have:=hI'.inj r (σ.length+j) b o o' (at1 r b h hr).2 hj (by rw [Qzl h];exact ho) (by rw [Qzr (by omega),Nat.add_sub_cancel_left];exact hoj) hl hl'
   omega
  ·rw [Qzr h] at ho
   rw [Qzl h'] at ho'
   obtain ⟨j,hj,hoj⟩:=hb _ b o (at2 r b h hr) ho
   have:=hI'.inj (σ.length+j) r' b o o' hj (at1 r' b h' hr').2 (by rw [Qzr (by omega),Nat.add_sub_cancel_left];exact hoj) (by rw [Qzl h'];exact ho') hl hl'
   omega
  ·have:=hnd _ _ b (at2 r b h hr) (at2 r' b h' hr')
   omega
def rrA (A:List Nat) (n:Nat) (r:Nat→AV) (js:List Nat):Nat→AV:=fun i=>if i∈A then .ptr (n+js.idxOf i) 0 else r i
structure LayA (P:Program) (ops:List Oper) (A U:List Nat) (env:Env) (σ:Za) (r:Nat→AV) (zc st:Nat→List AV):Prop where
 len:A.length=U.length
 nd:A.Nodup
 ndu:U.Nodup
 hA:∀ a∈A,∃ o d e,ops[a]? = some o∧o.op=.alloc e∧o.guard=none∧o.dst=some d∧d<env.t.length∧(∀ j,(ops[j]?).bind (·.dst)=some d→j=a)∧∀ τ:Za,(tz P e).bind (fun z=>Wx z τ)=some (.ptr τ.length 0,τ++[.cells (zc a)])
 hU:∀ (p a u:Nat),A[p]? = some a→U[p]? = some u→∃ o ty d x,ops[u]? = some o∧o.op=.store ty (.tmp d) x∧o.guard=none∧o.dst=none∧(ops[a]?).bind (·.dst)=some d∧bef (Vh ops) u a=true ∧
  (∀ t,x=.tmp t→∀ a'∈A,(ops[a']?).bind (·.dst)≠some t)∧∀ (τ:Za) (q:Nat),τ[q]? = some (.cells (zc a))→Xad P ty (.ptr q 0) (Wa (Va ops r env tr u).t x) τ=some (τ.set q (.cells (st a)))
 light:∀ (i:Nat) (o:Oper),ops[i]? = some o→i∉A→i∉U→(∀ t∈Yn ops o,∀ a∈A,(ops[a]?).bind (·.dst)≠some t) ∧
  ((We ops (Va ops r env tr i).t o.guard=some true∧∀ g:Za,aw1 P o (fun v s=>v=r i∧s=σ++g) (Va ops r env tr i) (σ++g))∨(We ops (Va ops r env tr i).t o.guard=some false∧r i=.tup []))
 fr:∀ i,i∉A→Fz σ.length [] (r i) (r i)
 fz:∀ a∈A,∀ y∈st a,Fz σ.length [] y y
theorem Xce {ops:List Oper} {r r':Nat→AV} {env:Env} {L:Nat→Bool} {t:Tmp} (h:∀ j,(ops[j]?).bind (·.dst)=some t→r j=r' j):∀ k,(Va ops r env L k).t.getD t .any=(Va ops r' env L k).t.getD t .any:=by
 intro k
 induction k with
 | zero=>rfl
 | succ k ih =>
  simp only [Va]
  split
  ·by_cases hd:(ops[k]?).bind (·.dst)=some t
   ·rw [hd,h k hd]
    simp only [Env.put,List.getD_eq_getElem?_getD,List.getElem?_set,(Vs ops r env L k).2,(Vs ops r' env L k).2,if_true]
   ·rw [Yar _ _ _ _ hd,Yar _ _ _ _ hd,ih]
  ·exact ih
theorem Ufx {ops:List Oper} {r:Nat→AV} {env:Env} {L:Nat→Bool} {a:Nat} {d:Tmp} (hd:(ops[a]?).bind (·.dst)=some d) (hu:∀ j,(ops[j]?).bind (·.dst)=some d→j=a) (hl:d<env.t.length) (hL:L a=true):∀ k,a<k→(Va ops r env L k).t.getD d .any=r a:=by
 intro k
 induction k with
 | zero=>intro h;omega
 | succ k ih =>
  intro h
  simp only [Va]
  by_cases e:k=a
  ·subst e
   rw [if_pos hL,hd]
   simp only [Env.put,List.getD_eq_getElem?_getD]
   rw [List.getElem?_set_self (by rw [(Vs ops r env L k).2];exact hl)]
   rfl
  ·have hne:(ops[k]?).bind (·.dst)≠some d:=fun h=>e (hu k h)
   split
   ·rw [Yar _ _ _ _ hne];exact ih (by omega)
   ·exact ih (by omega)
theorem Ufu {ops:List Oper} {r r':Nat→AV} {env:Env} {L:Nat→Bool}:∀ k,(∀ j,j<k→L j=true→r j=r' j)→Va ops r env L k=Va ops r' env L k:=by
 intro k
 induction k with
 | zero=>intro _;rfl
 | succ k ih =>
  intro h
  simp only [Va,ih fun j hj=>h j (by omega)]
  split
  ·rename_i hl;rw [h k (by omega) hl]
  ·rfl
theorem Ze0 {X:AV→AV→Prop} {ops:List Oper} {r r':Nat→AV} {env:Env} {L:Nat→Bool} (h0:∀ (t:Nat) (x:AV),env.t[t]? = some x→X x x) (hr:∀ j,X (r j) (r' j)) :
  ∀ (k t:Nat) (x y:AV),(Va ops r env L k).t[t]? = some x→(Va ops r' env L k).t[t]? = some y→X x y:=by
 intro k
 induction k with
 | zero =>
  intro t x y hx hy
  simp only [Va] at hx hy
  rw [hx] at hy
  obtain rfl:=Option.some.inj hy
  exact h0 t x hx
 | succ k ih =>
  intro t x y hx hy
  simp only [Va] at hx hy
  split at hx
  ·rename_i hl
   rw [if_pos hl] at hy
   cases hd:(ops[k]?).bind (·.dst) with
   | none =>
    rw [hd] at hx hy
    exact ih t x y hx hy
   | some d =>
    rw [hd] at hx hy
    simp only [Env.put,List.getElem?_set,(Vs ops r env L k).2,(Vs ops r' env L k).2] at hx hy
    by_cases e:d=t
    ·rw [if_pos e] at hx hy
     split at hx
     ·rename_i h1
      rw [if_pos h1] at hy
      obtain rfl:=Option.some.inj hx
      obtain rfl:=Option.some.inj hy
      exact hr k
     ·cases hx
    ·rw [if_neg e] at hx hy
     exact ih t x y hx hy
  ·rename_i hl
   rw [if_neg hl] at hy
   exact ih t x y hx hy
theorem Vv {l:List Nat} {a:Nat} (h:a∈l):l[l.idxOf a]? = some a:=by
 rw [Qze (List.idxOf_lt_length_of_mem h)]
 simp
theorem Zd0 {js:List Nat} {f g:Nat→AObj} {a:Nat} (hn:js.Nodup) (ha:a∈js) (h:∀ b∈js,b≠a→f b=g b):(js.map f).set (js.idxOf a) (g a)=js.map g:=by
 apply List.ext_getElem?
 intro k
 rw [List.getElem?_set,List.length_map,Qzp,Qzp]
 by_cases e:js.idxOf a=k
 ·subst e
  rw [if_pos rfl,if_pos (List.idxOf_lt_length_of_mem ha),Vv ha]
  rfl
 ·rw [if_neg e]
  cases hk:js[k]? with
  | none=>rfl
  | some b =>
   simp only [Option.map_some]
   rw [h b (Qzg hk) fun hb=>e ?_]
   subst hb
   have h1:=Vv ha
   have hlt:=(Qzs.1 hk).1
   exact (List.getElem?_inj (List.idxOf_lt_length_of_mem ha) hn).1 (h1.trans hk.symm)
theorem Vc7 {rd:Option Nat} {id:Nat} {opsA:Array Oper} {Q:Exit→Env→Za→Prop} {env:Env} {σ:Za} (hm:P.follows .mixedOrders=true) (A U:List Nat) (r:Nat→AV) (zc st:Nat→List AV)
  (hok:Xo opsA.toList []=true) (hd:LayA P opsA.toList A U env σ r zc st) (hQ:Q .normal (Va opsA.toList (rrA A σ.length r A) env tr opsA.size) (σ++A.map fun a=>.cells (st a))):ACode P rd (.region id opsA true) Q env σ:=by
 intro C a ro hI he _
 obtain ⟨hedge,hpair,_,_⟩:=Vak hok
 have hnC:=hI.len
 let use:Nat→Nat:=fun a=>U.getD (A.idxOf a) 0
 let ob:Array Bool→Nat→AObj:=fun listed a=>.cells (if listed.getD (use a) false=true then st a else zc a)
 have huse:∀ a∈A,U[A.idxOf a]? = some (use a):=by
  intro a ha
  have hlt:=List.idxOf_lt_length_of_mem ha
  have hlt':A.idxOf a<U.length:=by rw [← hd.len];exact hlt
  rw [Qze hlt']
  simp [use,hlt']
 have hAU:∀ a∈A,a∉U:=by
  intro a ha hu
  obtain ⟨p,hp⟩:=List.mem_iff_getElem?.1 hu
  have hlt:=(Qzs.1 hp).1
  have hlt':p<A.length:=by rw [hd.len];exact hlt
  obtain ⟨o,ty,d,x,ho,hop,_⟩:=hd.hU p _ a (Qze hlt') hp
  obtain ⟨o',d',e,ho',hop',_⟩:=hd.hA a ha
  rw [ho] at ho'
  obtain rfl:=Option.some.inj ho'
  rw [hop] at hop'
  cases hop'
 refine wpIn_region_any hm ?_
 have key:∀ (fuel:Nat) (listed:Array Bool) (C':Ctx) (act:Act) (js:List Nat),listed.size=opsA.size→Closed opsA.toList (fun i=>listed.getD i false) →
   ((List.range opsA.size).countP fun i=>!listed.getD i false)≤fuel→js.Nodup→(∀ x,x∈js↔x∈A∧listed.getD x false=true) →
   Ext C C'→Inv C' (σ++js.map (ob listed))→ER C' (Va opsA.toList (rrA A σ.length r js) env (fun i=>listed.getD i false) opsA.size) act →
   wpAnyIn (WF ro) 0 P .any opsA (Post C Q) fuel listed act C'.w:=by
  intro fuel
  have done:∀ (listed:Array Bool) (C':Ctx) (act:Act) (js:List Nat),listed.size=opsA.size→js.Nodup→(∀ x,x∈js↔x∈A∧listed.getD x false=true) →
    Ext C C'→Inv C' (σ++js.map (ob listed))→ER C' (Va opsA.toList (rrA A σ.length r js) env (fun i=>listed.getD i false) opsA.size) act→Region.ready .any opsA listed=[]→Post C Q .normal act C'.w:=by
   intro listed C' act js hsz hnd hjs hE hI' he' hr
   have hall:∀ i,i<opsA.size→listed.getD i false=true:=by
    intro i
    induction i using Nat.strongRecOn with
    | _ i ih =>
     intro hi
     cases hl:listed.getD i false with
     | true=>rfl
     | false =>
      have:i∈Region.ready .any opsA listed:=by
       rw [mem_ready]
       refine ⟨?_,opsA[i],Array.getElem?_eq_getElem hi,fun e he hb=>?_⟩
       ·have hi':i<listed.size:=by omega
        simp only [Array.getD_eq_getD_getElem?,Array.getElem?_eq_getElem hi',Option.getD_some] at hl ⊢
        exact hl
       ·have hlt:=hedge i opsA[i] (by simp [hi]) e he hb
        exact ih e.on hlt (by omega)
      rw [hr] at this
      cases this
   have hlt:∀ x∈A,x<opsA.size:=fun x hx=>by
    obtain ⟨o,_,_,ho,_⟩:=hd.hA x hx
    simpa using (Qzs.1 ho).1
   have hltU:∀ x∈A,use x<opsA.size:=fun x hx=>by
    have h1:=huse x hx
    obtain ⟨o,_,_,_,ho,_⟩:=hd.hU _ x (use x) (Vv hx) h1
    simpa using (Qzs.1 ho).1
   have hjA:∀ x,x∈js↔x∈A:=fun x=>by rw [hjs];exact ⟨fun h=>h.1,fun h=>⟨h,hall x (hlt x h)⟩⟩
   have hobx:∀ x∈A,ob listed x=.cells (st x):=fun x hx=>by
    simp only [ob]
    rw [if_pos (hall _ (hltU x hx))]
   have henv:∀ k,k≤opsA.size→Va opsA.toList (rrA A σ.length r js) env (fun i=>listed.getD i false) k=Va opsA.toList (rrA A σ.length r js) env tr k:=by
    intro k
    induction k with
    | zero=>intro _;rfl
    | succ k ih=>intro hk;simp only [Va,ih (by omega),hall k (by omega),tr]
   rw [henv _ (Nat.le_refl _)] at he'
   have hblk:∀ x∈A,∃ b,C'.blk[σ.length+js.idxOf x]? = some b:=fun x hx=>by
    have h1:=hI'.len
    rw [List.length_append,List.length_map] at h1
    have h2:=List.idxOf_lt_length_of_mem ((hjA x).2 hx)
    exact ⟨_,Qze (by omega)⟩
   let bs:List Nat:=A.map fun x=>C'.blk.getD (σ.length+js.idxOf x) 0
   have hbs:∀ (i b:Nat),bs[i]? = some b→∃ x,A[i]? = some x∧C'.blk[σ.length+js.idxOf x]? = some b:=by
    intro i b hb
    simp only [bs,Qzp,Qzm] at hb
    obtain ⟨x,hx,rfl⟩:=hb
    obtain ⟨b,hb⟩:=hblk x (Qzg hx)
    exact ⟨x,hx,by rw [List.getD_eq_getElem?_getD,hb];rfl⟩
   have hobj:∀ x∈A,(js.map (ob listed))[js.idxOf x]? = some (.cells (st x)):=fun x hx=>by
    rw [Qzp,Vv ((hjA x).2 hx),Option.map_some,hobx x hx]
   obtain ⟨hE2,hI2⟩:=Vf4 (objs':=A.map fun a=>.cells (st a)) (bs:=bs) hI hE hI' (by simp [bs]) (fun i b o hb ho=>by
    obtain ⟨x,hx,h1⟩:=hbs i b hb
    rw [Qzp,hx] at ho
    obtain rfl:=Option.some.inj ho
    exact ⟨_,h1,hobj x (Qzg hx)⟩) (fun i i' b hb hb'=>by
    obtain ⟨x,hx,h1⟩:=hbs i b hb
    obtain ⟨x',hx',h1'⟩:=hbs i' b hb'
    have hm1:=Qzg hx
    have hm2:=Qzg hx'
    have:=hI'.inj _ _ b (.cells (st x)) (.cells (st x')) h1 h1' (by rw [Qzr (by omega),Nat.add_sub_cancel_left];exact hobj x hm1) (by rw [Qzr (by omega),Nat.add_sub_cancel_left];exact hobj x' hm2) rfl rfl
    have h2:=Vv ((hjA x).2 hm1)
    have h3:=Vv ((hjA x').2 hm2)
    rw [show js.idxOf x=js.idxOf x' by omega,h3] at h2
    obtain rfl:=Option.some.inj h2
    exact (List.getElem?_inj (Qzs.1 hx).1 hd.nd).1 (hx.trans hx'.symm)) (fun o ho=>by
    obtain ⟨x,hx,rfl⟩:=List.mem_map.1 ho
    exact ⟨_,rfl,hd.fz x hx⟩)
   refine ⟨C'.re C bs,_,_,rfl,hE2,hI2,⟨?_,?_,fun i q d h1 h2=>?_⟩,hQ⟩
   ·have hl1:=he'.t.len
    rw [(Vs _ _ _ _ _).2] at hl1
    refine ⟨by rw [(Vs _ _ _ _ _).2];exact hl1,fun t y c hy hc=>?_⟩
    have hx:∃ x,(Va opsA.toList (rrA A σ.length r js) env tr opsA.size).t[t]? = some x:=by
     have:=(Qzs.1 hy).1
     rw [(Vs _ _ _ _ _).2] at this
     exact ⟨_,Qze (by rw [(Vs _ _ _ _ _).2];exact this)⟩
    obtain ⟨x,hx⟩:=hx
    refine Ze0 (X:=fun x y=>∀ c,VR C' x c→VR (C'.re C bs) y c) (fun t x hx c hv=>?_) (fun j c hv=>?_) opsA.size t x y hx hy c (he'.t.at_ t x c hx hc)
    ·have hl2:=he.t.len
     have hlt2:=(Qzs.1 hx).1
     exact VR.re_old hnC hE bs (he.t.at_ t x _ hx (Qze (by omega))) hv
    ·unfold rrA at hv ⊢
     by_cases hj:j∈A
     ·rw [if_pos hj] at hv ⊢
      obtain ⟨b,hb,rfl⟩:=hv.ptr_inv
      refine .ptr _ _ b ?_
      simp only [Ctx.re]
      rw [Qzr (by omega),hnC,Nat.add_sub_cancel_left]
      simp only [bs,Qzp]
      rw [Vv hj,Option.map_some,List.getD_eq_getElem?_getD,hb]
      rfl
     ·rw [if_neg hj] at hv ⊢
      exact VR.re hnC hE bs (hd.fr j hj) hv
   ·have:=he'.m
    rw [(Vs _ _ _ _ _).1] at this ⊢
    exact this
   ·rw [(Vs _ _ _ _ _).1] at h1
    have hm1:=he.m
    have hlt1:=(Qzs.1 h1).1
    obtain ⟨b,hb,_⟩:=he.mark i q _ h1 (Qze (by omega))
    obtain ⟨b',hb',hd'⟩:=he'.mark i q d (by rw [(Vs _ _ _ _ _).1];exact h1) h2
    rw [hE.blk_at hb] at hb'
    obtain rfl:=Option.some.inj hb'
    exact ⟨b,hE2.blk_at hb,hd'⟩
  induction fuel with
  | zero =>
   intro listed C' act js hsz hcl hcnt hnd hjs hE hI' he'
   have hr:Region.ready .any opsA listed=[]:=by
    rw [List.eq_nil_iff_forall_not_mem]
    intro i hi
    rw [mem_ready] at hi
    obtain ⟨h1,o,ho,_⟩:=hi
    have hlt:=(Array.getElem?_eq_some_iff.1 ho).1
    have h2:0<(List.range opsA.size).countP fun i=>!listed.getD i false:=by
     rw [List.countP_pos_iff]
     refine ⟨i,by simpa using hlt,?_⟩
     have hi':i<listed.size:=by omega
     simp only [Array.getD_eq_getD_getElem?,Array.getElem?_eq_getElem hi',Option.getD_some] at h1 ⊢
     simp [h1]
    omega
   exact ⟨hr,done listed C' act js hsz hnd hjs hE hI' he' hr⟩
  | succ fuel ih =>
   intro listed C' act js hsz hcl hcnt hnd hjs hE hI' he'
   refine ⟨fun hr=>done listed C' act js hsz hnd hjs hE hI' he' hr,fun i hi=>?_⟩
   rw [mem_ready] at hi
   obtain ⟨hul,o,ho,hpre⟩:=hi
   have hlt:=(Array.getElem?_eq_some_iff.1 ho).1
   have hol:opsA.toList[i]? = some o:=by simpa using ho
   have hun:listed.getD i false=false:=by
    have hi':i<listed.size:=by omega
    simp only [Array.getD_eq_getD_getElem?,Array.getElem?_eq_getElem hi',Option.getD_some] at hul ⊢
    exact hul
   have hset:∀ j,(listed.setIfInBounds i true).getD j false=(if j=i then true else listed.getD j false):=by
    intro j
    simp only [Array.getD_eq_getD_getElem?,Array.getElem?_setIfInBounds]
    by_cases e:i=j
    ·subst e;simp [show i<listed.size by omega]
    ·rw [if_neg e,if_neg (fun x=>e x.symm)]
   have hcl':Closed opsA.toList (fun j=>(listed.setIfInBounds i true).getD j false):=by
    intro j o' ho' hj e he hb
    simp only [hset] at hj ⊢
    split at hj
    ·rename_i e1
     subst e1
     rw [hol] at ho'
     obtain rfl:o=o':=by simpa using ho'
     have:=hpre e he hb
     split
     ·rfl
     ·exact this
    ·have:=hcl j o' ho' hj e he hb
     split
     ·rfl
     ·exact this
   have hcnt':((List.range opsA.size).countP fun j=>!(listed.setIfInBounds i true).getD j false)≤fuel:=by
    have h1:((List.range opsA.size).countP fun j=>!(listed.setIfInBounds i true).getD j false)+1≤(List.range opsA.size).countP fun j=>!listed.getD j false:=by
     have hmem:i∈List.range opsA.size:=by simpa using hlt
     obtain ⟨l1,l2,hl⟩:=List.append_of_mem hmem
     rw [hl]
     simp only [List.countP_append,List.countP_cons,hset,if_true,hun]
     have hle:∀ l:List Nat,(l.countP fun j=>!if j=i then true else listed.getD j false)≤l.countP fun j=>!listed.getD j false:=by
      intro l
      apply List.countP_mono_left
      intro j _ hj
      simp at hj ⊢
      exact hj.2
     have a1:=hle l1
     have a2:=hle l2
     simp at a1 a2 ⊢
     omega
    omega
   have hval:∀ (r:Nat→AV),∀ t∈Yn opsA.toList o,(Va opsA.toList r env (fun i=>listed.getD i false) opsA.size).t.getD t .any=(Va opsA.toList r env tr i).t.getD t .any:=by
    intro r t ht
    have:=Vbd (ops:=opsA.toList) (r:=r) (env:=env) (L:=fun i=>listed.getD i false) (i:=i) (t:=t) opsA.size (fun j hj hdj=>by
     obtain ⟨oj,hoj,hdj⟩:=Option.bind_eq_some_iff.1 hdj
     rcases Nat.lt_trichotomy j i with h | h | h
     ·refine ⟨fun _=>h,fun _=>?_⟩
      rcases hpair j i oj o hoj hol h with hb | ⟨h1,_,_⟩
      ·obtain ⟨e,he,hbi,hje⟩:=Uai hol hb
       have hl:=hpre e he hbi
       rcases hje with rfl | ⟨h2,h3⟩
       ·exact hl
       ·have hlt2:e.on<opsA.toList.length:=by simp;omega
        exact Closed.bef (L:=fun i=>listed.getD i false) hcl e.on j _ (Qze hlt2) hl h3
      ·exact absurd ht (h1 t hdj)
     ·subst h
      exact ⟨(fun hx=>by rw [hun] at hx;cases hx),fun hx=>absurd hx (Nat.lt_irrefl _)⟩
     ·refine ⟨fun hx=>?_,fun hx=>by omega⟩
      rcases hpair i j o oj hol hoj h with hb | ⟨_,h2,_⟩
      ·have:=Closed.bef (L:=fun i=>listed.getD i false) hcl j i oj hoj hx hb
       rw [hun] at this;cases this
      ·exact absurd ht (h2 t hdj))
    rw [this,show min opsA.size i=i by omega]
    rfl
   have hnext:∀ (r:Nat→AV),Va opsA.toList r env (fun j=>(listed.setIfInBounds i true).getD j false) opsA.size=(Va opsA.toList r env (fun i=>listed.getD i false) opsA.size).put o.dst (r i):=by
    intro r
    have e1:(fun j=>(listed.setIfInBounds i true).getD j false)=fun j=>if j=i then true else listed.getD j false:=funext hset
    rw [e1,Zbf (L:=fun i=>listed.getD i false) hun opsA.size hlt (fun j h1 h2 hl t ht hj=>by
     obtain ⟨oj,hoj,hdj⟩:=Option.bind_eq_some_iff.1 hj
     rcases hpair i j o oj hol hoj h1 with hb | ⟨h3,_,_⟩
     ·have:=Closed.bef (L:=fun i=>listed.getD i false) hcl j i oj hoj hl hb
      rw [hun] at this;cases this
     ·have:o.dst=some t:=by rw [hol] at ht;simpa using ht
      refine h3 t this ?_
      simp only [Yn,List.mem_append,hdj]
      exact .inl (.inl (by simp)))]
    rw [hol]
    rfl
   have hbefi:∀ h,bef (Vh opsA.toList) i h=true→listed.getD h false=true:=by
    intro h hb
    obtain ⟨e,he,hbi,hje⟩:=Uai hol hb
    have hl:=hpre e he hbi
    rcases hje with rfl | ⟨h2,h3⟩
    ·exact hl
    ·have hlt2:e.on<opsA.toList.length:=by simp;omega
     exact Closed.bef (L:=fun i=>listed.getD i false) hcl e.on h _ (Qze hlt2) hl h3
   unfold wpOpIn
   rw [ho]
   simp only
   by_cases hiA:i∈A
   ·
    obtain ⟨o',d,e,ho',hop,hg,hdst,hdl,hdu,hz⟩:=hd.hA i hiA
    rw [hol] at ho'
    obtain rfl:=Option.some.inj ho'
    have hij:i∉js:=fun h=>by rw [((hjs i).1 h).2] at hun;cases hun
    have hw:Region.wanted o (yielded opsA act.tmps)=true:=by unfold Region.wanted;rw [hg]
    rw [hw,if_pos rfl]
    have haw:aw1 P o (fun v s=>v=.ptr (σ++js.map (ob listed)).length 0∧s=(σ++js.map (ob listed))++[.cells (zc i)]) (Va opsA.toList (rrA A σ.length r js) env (fun i=>listed.getD i false) opsA.size) (σ++js.map (ob listed)):=by
     obtain ⟨dst,op,ty,pos,after,guard⟩:=o
     simp only at hop
     subst hop
     rw [Xa8,hz,Wl]
     exact ⟨rfl,rfl⟩
    refine Yab hI' he' haw ro _ _ fun C2 c v s hE2 hI2 hv ⟨h1,h2⟩=>?_
    subst h1;subst h2
    have hui:i≠use i:=fun h=>hAU i hiA (h▸Qzg (huse i hiA))
    have hoi:ob (listed.setIfInBounds i true) i=.cells (zc i):=by
     simp only [ob]
     rw [if_neg]
     rw [hset,if_neg (fun h=>hui h.symm)]
     intro hx
     obtain ⟨ou,_,_,_,hou,_,_,_,_,hbu,_⟩:=hd.hU _ i (use i) (Vv hiA) (huse i hiA)
     have:=Closed.bef (L:=fun i=>listed.getD i false) hcl (use i) i ou hou hx hbu
     rw [hun] at this
     cases this
    have hoo:js.map (ob listed)=js.map (ob (listed.setIfInBounds i true)):=by
     apply List.map_congr_left
     intro x hx
     have hxA:=((hjs x).1 hx).1
     have hne:use x≠i:=fun h=>hAU i hiA (h▸Qzg (huse x hxA))
     simp only [ob]
     rw [hset,if_neg hne]
    have hlen:(σ++js.map (ob listed)).length=σ.length+(js++[i]).idxOf i:=by
     rw [List.idxOf_append,if_neg hij]
     simp
    refine ih _ C2 _ (js++[i]) (by simpa using hsz) hcl' hcnt' ?_ ?_ (hE.trans hE2) ?_ ?_
    ·rw [List.nodup_append]
     exact ⟨hnd,by simp,fun x hx y hy h=>by simp at hy;subst hy;subst h;exact hij hx⟩
    ·intro x
     rw [hset,List.mem_append,hjs]
     constructor
     ·rintro (⟨h1,h2⟩ | h)
      ·exact ⟨h1,by split<;>first | rfl | exact h2⟩
      ·simp at h;subst h;exact ⟨hiA,by rw [if_pos rfl]⟩
     ·rintro ⟨h1,h2⟩
      by_cases e:x=i
      ·exact .inr (by simp [e])
      ·rw [if_neg e] at h2;exact .inl ⟨h1,h2⟩
    ·rw [List.map_append,← List.append_assoc,List.map_cons,List.map_nil,hoi,← hoo]
     exact hI2
    ·rw [hnext]
     have e1:Va opsA.toList (rrA A σ.length r (js++[i])) env (fun i=>listed.getD i false) opsA.size=Va opsA.toList (rrA A σ.length r js) env (fun i=>listed.getD i false) opsA.size:=by
      refine Ufu _ fun j _ hl=>?_
      unfold rrA
      split
      ·rename_i hjA
       rw [List.idxOf_append,if_pos ((hjs j).2 ⟨hjA,hl⟩)]
      ·rfl
     rw [e1]
     have e2:rrA A σ.length r (js++[i]) i=.ptr (σ++js.map (ob listed)).length 0:=by unfold rrA;rw [if_pos hiA,hlen]
     rw [e2]
     exact (he'.ext hE2).put hv o.dst
   ·by_cases hiU:i∈U
    ·
     obtain ⟨p,hp⟩:=List.mem_iff_getElem?.1 hiU
     have hpl:=(Qzs.1 hp).1
     have hpA:p<A.length:=by rw [hd.len];exact hpl
     have ha:=Qze hpA
     generalize A[p]=x at ha
     obtain ⟨o',ty,d,y,ho',hop,hg,hdst,hdx,hbx,hyA,hst⟩:=hd.hU p x i ha hp
     rw [hol] at ho'
     obtain rfl:=Option.some.inj ho'
     have hxA:=Qzg ha
     have hxl:=hbefi x hbx
     have hxj:x∈js:=(hjs x).2 ⟨hxA,hxl⟩
     have hidx:A.idxOf x=p:=(List.getElem?_inj (List.idxOf_lt_length_of_mem hxA) hd.nd).1 ((Vv hxA).trans ha.symm)
     have hux:use x=i:=by
      have:=huse x hxA
      rw [hidx,hp] at this
      exact (Option.some.inj this).symm
     have hw:Region.wanted o (yielded opsA act.tmps)=true:=by unfold Region.wanted;rw [hg]
     rw [hw,if_pos rfl]
     obtain ⟨ox,dx,ex,hox,_,_,hdx2,hdl,hdu,_⟩:=hd.hA x hxA
     have hdd:dx=d:=by
      rw [hox,Option.bind_some,hdx2] at hdx
      exact Option.some.inj hdx
     subst hdd
     have hxlt:x<opsA.size:=by simpa using (Qzs.1 hox).1
     have hptr:(Va opsA.toList (rrA A σ.length r js) env (fun i=>listed.getD i false) opsA.size).t.getD dx .any=.ptr (σ.length+js.idxOf x) 0:=by
      rw [Ufx (L:=fun i=>listed.getD i false) hdx hdu hdl hxl opsA.size hxlt]
      unfold rrA
      rw [if_pos hxA]
     have hyv:Wa (Va opsA.toList (rrA A σ.length r js) env (fun i=>listed.getD i false) opsA.size).t y=Wa (Va opsA.toList r env tr i).t y:=by
      cases y with
      | tmp t =>
       simp only [Wa]
       rw [hval _ t (by
        simp only [Yn,List.mem_append]
        refine .inl (.inr (List.mem_filterMap.2 ⟨.tmp t,?_,rfl⟩))
        rw [hop]
        simp [Op.operands])]
       refine Xce (fun j hj=>?_) i
       unfold rrA
       rw [if_neg fun hjA=>hyA t rfl j hjA hj]
      | _=>rfl
     have hcell:(σ++js.map (ob listed))[σ.length+js.idxOf x]? = some (.cells (zc x)):=by
      rw [Qzr (by omega),Nat.add_sub_cancel_left,Qzp,Vv hxj,Option.map_some]
      simp only [ob]
      rw [hux,hun]
      simp
     have haw:aw1 P o (fun v s=>s=(σ++js.map (ob listed)).set (σ.length+js.idxOf x) (.cells (st x))) (Va opsA.toList (rrA A σ.length r js) env (fun i=>listed.getD i false) opsA.size) (σ++js.map (ob listed)):=by
      obtain ⟨dst,op,ty',pos,after,guard⟩:=o
      simp only at hop
      subst hop
      rw [Xbl]
      have e1:Wa (Va opsA.toList (rrA A σ.length r js) env (fun i=>listed.getD i false) opsA.size).t (.tmp dx)=.ptr (σ.length+js.idxOf x) 0:=hptr
      rw [e1,hyv,hst _ _ hcell]
      rfl
     refine Yab hI' he' haw ro _ _ fun C2 c v s hE2 hI2 hv h2=>?_
     subst h2
     have hijs:i∉js:=fun h=>hiA ((hjs i).1 h).1
     have hoo:js.map (ob (listed.setIfInBounds i true))=(js.map (ob listed)).set (js.idxOf x) (.cells (st x)):=by
      have e1:ob (listed.setIfInBounds i true) x=.cells (st x):=by
       simp only [ob]
       rw [hset,hux,if_pos rfl,if_pos rfl]
      rw [← e1]
      refine (Zd0 hnd hxj fun y hy hne=>?_).symm
      have hyA:=((hjs y).1 hy).1
      have hne2:use y≠i:=fun h=>by
       have h1:=huse y hyA
       rw [h] at h1
       have h2:=(List.getElem?_inj (Qzs.1 h1).1 hd.ndu).1 (h1.trans hp.symm)
       have h3:=Vv hyA
       rw [h2,ha] at h3
       exact hne (Option.some.inj h3).symm
      simp only [ob]
      rw [hset,if_neg hne2]
     refine ih _ C2 _ js (by simpa using hsz) hcl' hcnt' hnd ?_ (hE.trans hE2) ?_ ?_
     ·intro z
      rw [hset,hjs]
      by_cases e:z=i
      ·subst e
       exact ⟨fun h=>absurd h.1 hiA,fun h=>absurd h.1 hiA⟩
      ·rw [if_neg e]
     ·rw [hoo]
      have:σ++(js.map (ob listed)).set (js.idxOf x) (.cells (st x))=(σ++js.map (ob listed)).set (σ.length+js.idxOf x) (.cells (st x)):=by
       rw [List.set_append_right _ _ (by omega),Nat.add_sub_cancel_left]
      rw [this]
      exact hI2
     ·rw [hnext,hdst]
      have:act.put none c=act:=rfl
      rw [this]
      exact he'.ext hE2
    ·
     obtain ⟨hoff,hli⟩:=hd.light i o hol hiA hiU
     have hri:rrA A σ.length r js i=r i:=by unfold rrA;rw [if_neg hiA]
     have hget:∀ t∈Yn opsA.toList o,(Va opsA.toList r env tr i).t.getD t .any=(Va opsA.toList (rrA A σ.length r js) env (fun i=>listed.getD i false) opsA.size).t.getD t .any:=by
      intro t ht
      rw [hval _ t ht]
      refine (Xce (fun j hj=>?_) i).symm
      unfold rrA
      rw [if_neg fun hjA=>hoff t ht j hjA hj]
     have hav:∀ x∈o.op.operands,Wa (Va opsA.toList r env tr i).t x=Wa (Va opsA.toList (rrA A σ.length r js) env (fun i=>listed.getD i false) opsA.size).t x:=by
      intro x hx
      cases x with
      | tmp t =>
       simp only [Wa]
       refine hget t ?_
       simp only [Yn,List.mem_append]
       exact .inl (.inr (List.mem_filterMap.2 ⟨.tmp t,by simpa using hx,rfl⟩))
      | _=>rfl
     have haw:We opsA.toList (Va opsA.toList r env tr i).t o.guard=We opsA.toList (Va opsA.toList (rrA A σ.length r js) env (fun i=>listed.getD i false) opsA.size).t o.guard:=by
      refine Ubb fun j w d hg hd=>hget d ?_
      simp only [Yn,List.mem_append,hg]
      exact .inr (by rw [hd];simp)
     have hoo:js.map (ob listed)=js.map (ob (listed.setIfInBounds i true)):=by
      apply List.map_congr_left
      intro x hx
      have hxA:=((hjs x).1 hx).1
      have hne:use x≠i:=fun h=>hiU (h▸Qzg (huse x hxA))
      simp only [ob]
      rw [hset,if_neg hne]
     have hjs':∀ x,x∈js↔x∈A∧(listed.setIfInBounds i true).getD x false=true:=by
      intro z
      rw [hset,hjs]
      by_cases e:z=i
      ·subst e
       exact ⟨fun h=>absurd h.1 hiA,fun h=>absurd h.1 hiA⟩
      ·rw [if_neg e]
     rcases hli with ⟨hw,hr⟩ | ⟨hw,hr⟩
     ·rw [haw] at hw
      rw [Yz he' hw,if_pos rfl]
      refine Yab hI' he' (Vat hav (hr _)) ro _ _ fun C2 c v s hE2 hI2 hv ⟨h1,h2⟩=>?_
      subst h1;subst h2
      refine ih _ C2 _ js (by simpa using hsz) hcl' hcnt' hnd hjs' (hE.trans hE2) (by rw [← hoo];exact hI2) ?_
      rw [hnext,hri]
      exact (he'.ext hE2).put hv o.dst
     ·rw [haw] at hw
      rw [Yz he' hw,if_neg (by simp)]
      refine ⟨fun _ _=>trivial,ih _ C' _ js (by simpa using hsz) hcl' hcnt' hnd hjs' hE (by rw [← hoo];exact hI') ?_⟩
      rw [hnext,hri,hr]
      exact he'.put (.tup [] [] rfl (fun i x c h=>by simp at h)) o.dst
 have h0:∀ i,(Array.replicate opsA.size false).getD i false=false:=by
  intro i
  simp only [Array.getD_eq_getD_getElem?,Array.getElem?_replicate]
  split<;>rfl
 have hdr:Ext C (C.at_ C.w.drew):=Ext.drew
 refine key opsA.size (Array.replicate opsA.size false) (C.at_ C.w.drew) a [] (by simp) (fun i o _ hx=>by simp only [h0] at hx;cases hx) ?_ (by simp) (fun x=>by rw [h0];simp) hdr ?_ ?_
 ·have:=List.countP_le_length (p:=fun i=>!(Array.replicate opsA.size false).getD i false) (l:=List.range opsA.size)
  simpa using this
 ·simpa using hI.drew
 ·have henv:∀ k,Va opsA.toList (rrA A σ.length r []) env (fun i=>(Array.replicate opsA.size false).getD i false) k=env:=by
   intro k
   induction k with
   | zero=>rfl
   | succ k ih=>simp only [Va,h0,Bool.false_eq_true,if_false];simpa only [h0] using ih
  rw [henv]
  exact he.ext hdr
end Ab
namespace Ab
open Go Go.RowKit
variable [Mode]
variable {P:Program}
def Zbh (o:Oper):Bool:=match o.op with
 | .move _ | .assign _ | .load _ _ | .nilCheck _ | .binOp _ _ _ _ _ | .unOp _ _ _ | .fieldAddr _ _ _ | .field _ _ _ | .indexAddr _ _ _ | .index _ _ _ | .extract _ _=>true
 | _=>false
theorem Ucl {σ g:Za} {r:Nat} {o:AObj} (h:σ[r]? = some o):(σ++g)[r]? = some o:=by
 rw [Qzl (Qzs.1 h).1];exact h
theorem Zf3 {t:TypeId} {p v:AV} {σ:Za} (g:Za) (h:Vx P t p σ=some v):Vx P t p (σ++g)=some v:=by
 unfold Vx at h ⊢
 cases ht:tsa P t with
 | none=>rw [ht] at h;cases h
 | some na =>
  obtain ⟨n,ag⟩:=na
  rw [ht] at h
  simp only at h ⊢
  cases p
  case ptr r off =>
   simp only at h ⊢
   cases hr:σ[r]? with
   | none=>rw [hr] at h;cases h
   | some o =>
    rw [hr] at h
    rw [Ucl hr]
    exact h
  all_goals exact h
theorem Vhn {o:Oper} {t:List AV} {σ s:Za} {v:AV} (hl:Zbh o=true) (h:aop P t σ o=some (v,s)) (g:Za):aop P t (σ++g) o=some (v,σ++g):=by
 obtain ⟨dst,op,ty,pos,after,guard⟩:=o
 unfold Zbh at hl
 cases op<;>simp only [Bool.false_eq_true] at hl<;>simp only [aop] at h ⊢
 case load =>
  obtain ⟨h1,-⟩:=Zk (α:=AV) h
  rw [Zf3 g h1]
  rfl
 all_goals first
  | (obtain ⟨h1,-⟩:=Zk (α:=AV) h
     rw [h1]
     rfl)
  | (simp only [Option.some.injEq,Prod.mk.injEq] at h ⊢
     exact ⟨h.1,trivial⟩)
abbrev FOrc:=FuncId→List AV→Za→Option AV
def FOrc.Good (P:Program) (F:FOrc):Prop:=∀ (f:FuncId) (args:List AV) (σ:Za) (v:AV),F f args σ=some v→∀ g:Za,ACalls P f args (σ++g) fun v1 s1=>v1=v∧s1=σ++g
def evf (P:Program) (F:FOrc) (o:Oper) (t:List AV) (σ:Za):Option AV :=
 match o.op with
 | .call { callee:=.value f,args,.. } =>
  (match Wa t f with
  | .fn (.func g) first caps=>F g (first++args.toList.map (Wa t)++caps) σ
  | _=>none)
 | _=>if Zbh o then (aop P t σ o).map (·.1) else none
theorem Yb4 {F:FOrc} (hF:F.Good P) {o:Oper} {env:Env} {σ:Za} {v:AV} (h:evf P F o env.t σ=some v) (g:Za):aw1 P o (fun v1 s1=>v1=v∧s1=σ++g) env (σ++g):=by
 unfold evf at h
 unfold aw1
 split at h
 ·rename_i f args ts hop
  rw [hop]
  simp only
  split at h
  ·rename_i q first caps hg
   rw [hg]
   exact hF _ _ _ _ h g
  ·cases h
 ·rename_i hne
  split
  ·rename_i f args ts hop
   exact absurd hop (hne f args ts)
  ·split at h
   ·rename_i hl
    rw [Qzm] at h
    obtain ⟨⟨v1,s1⟩,h1,rfl⟩:=h
    rw [Vhn hl h1 g]
    exact ⟨rfl,rfl⟩
   ·cases h
def fzB (n:Nat):Nat→AV→Bool
 | 0,_=>false
 | k+1,v=>match v with
  | .any | .bool _ | .int _ _ | .str _ | .nilp | .gl _ | .nils | .emp | .nn | .nilm | .nilf | .nili=>true
  | .ptr r _=>decide (r<n)
  | .yld r=>decide (r<n)
  | .arr _ r _ _=>decide (r<n)
  | .pl _ l=>l.all fun x=>x.cells.all (fzB n k)
  | .agg l=>l.all (fzB n k)
  | .tup l=>l.all (fzB n k)
  | _=>false
theorem Xa9 {n:Nat}:∀ (k:Nat) (v:AV) (S:Za),fzB n k v=true→Fz n S v v:=by
 intro k
 induction k with
 | zero=>intro v S h;cases h
 | succ k ih =>
  intro v S h
  have lst:∀ l:List AV,l.all (fzB n k)=true→∀ (i:Nat) (x y:AV),l[i]? = some x→l[i]? = some y→Fz n S x y:=by
   intro l hl i x y hx hy
   rw [hx] at hy
   obtain rfl:=Option.some.inj hy
   exact ih _ _ (List.all_eq_true.1 hl _ (Qzg hx))
  cases v<;>simp only [fzB,decide_eq_true_eq,Bool.false_eq_true] at h
  case any=>exact .any _
  case bool=>exact .bool _
  case int=>exact .int _ _
  case str=>exact .str _
  case nilp=>exact .nilp
  case gl=>exact .gl _
  case nils=>exact .nils
  case emp=>exact .emp
  case nn=>exact .nn
  case nilm=>exact .nilm
  case nilf=>exact .nilf
  case nili=>exact .nili
  case ptr=>exact .ptr _ _ h
  case yld=>exact .yld _ h
  case arr=>exact .keep _ _ _ _ h
  case pl l =>
   exact .pl _ _ fun i x hx j y hy=>ih _ _ (List.all_eq_true.1 (List.all_eq_true.1 h _ (Qzg hx)) _ (Qzg hy))
  case agg l=>exact .agg _ _ rfl (lst l h)
  case tup l=>exact .tup _ _ rfl (lst l h)
def Zdy (ops:List Oper):List Nat:=(List.range ops.length).filter fun i=>match ops[i]? with
 | some o=>(match o.op with
  | .alloc _=>true
  | _=>false)
 | none=>false
def Xb3 (ops:List Oper) (A:List Nat):List Nat:=A.map fun a=>match ops[a]? with
 | some o=>(match o.dst with
  | some d=>ops.findIdx fun o'=>match o'.op with
   | .store _ (.tmp d') _=>d == d'
   | _=>false
  | none=>0)
 | none=>0
def evL (P:Program) (F:FOrc) (ops:List Oper) (S:List Nat) (σ:Za):List Oper→Nat→Env→List AV→List AV
 | [],_,_,rs=>rs
 | o::rest,i,env,rs =>
  if S.contains i then evL P F ops S σ rest (i+1) (env.put o.dst .any) (rs++[.any])
  else match We ops env.t o.guard with
  | some true=>(match evf P F o env.t σ with
   | some v=>evL P F ops S σ rest (i+1) (env.put o.dst v) (rs++[v])
   | none=>rs)
  | some false=>evL P F ops S σ rest (i+1) (env.put o.dst (.tup [])) (rs++[.tup []])
  | none=>rs
def nodupB:List Nat→Bool
 | []=>true
 | x::l=>!l.contains x&&nodupB l
theorem Wch:∀ l:List Nat,nodupB l=true→l.Nodup:=by
 intro l
 induction l with
 | nil=>intro _;exact .nil
 | cons x l ih =>
  intro h
  simp only [nodupB,Bool.and_eq_true,Bool.not_eq_true',List.contains_eq_mem,decide_eq_false_iff_not] at h
  exact List.nodup_cons.2 ⟨h.1,ih h.2⟩
def Wa3 (P:Program) (ops:List Oper) (a:Nat):List AV:=match ops[a]? with
 | some o=>(match o.op with
  | .alloc e=>(match tz P e with
   | some z=>z.cells
   | none=>[])
  | _=>[])
 | none=>[]
def Wa6 (P:Program) (ops:List Oper) (A U:List Nat) (t:Nat→List AV) (a:Nat):List AV:=match ops[U.getD (A.idxOf a) 0]? with
 | some o=>(match o.op with
  | .store _ _ x=>wr (Wa3 P ops a) 0 (Wa (t (U.getD (A.idxOf a) 0)) x).cells
  | _=>[])
 | none=>[]
def okA (P:Program) (ops:List Oper) (n a:Nat):Bool:=match ops[a]? with
 | some o=>(match o.op,o.dst with
  | .alloc e,some d=>o.guard.isNone&&decide (d<n)&&((List.range ops.length).all fun j=>(ops[j]?).bind (·.dst) != some d||j == a)&&(match tz P e with
   | some z=>z.known
   | none=>false)
  | _,_=>false)
 | none=>false
def Va9 (ops:List Oper) (A:List Nat) (t:Tmp):Bool:=A.all fun a=>(ops[a]?).bind (·.dst) != some t
def okU (P:Program) (ops:List Oper) (A:List Nat) (t:Nat→List AV) (a u:Nat):Bool:=match ops[u]? with
 | some o=>(match o.op with
  | .store ty (.tmp d) x=>o.guard.isNone&&o.dst.isNone&&((ops[a]?).bind (·.dst) == some d)&&bef (Vh ops) u a&&(match x with
   | .tmp t=>Va9 ops A t
   | _=>true)&&(match tsa P ty with
   | some (n,_)=>decide ((Wa (t u) x).cells.length=n)&&(Wa (t u) x).cells.all AV.one&&decide (n≤(Wa3 P ops a).length)
   | none=>false)
  | _=>false)
 | none=>false
def okL (P:Program) (F:FOrc) (ops:List Oper) (A:List Nat) (t:Nat→List AV) (r:Nat→AV) (σ:Za) (i:Nat):Bool:=match ops[i]? with
 | some o=>(Yn ops o).all (Va9 ops A)&&(match We ops (t i) o.guard with
  | some true=>(match evf P F o (t i) σ with
   | some v=>AV.eqb 20 v (r i)
   | none=>false)
  | some false=>AV.eqb 20 (r i) (.tup [])
  | none=>false)
 | none=>true
def Vbi (P:Program) (F:FOrc) (ops:List Oper) (A U:List Nat) (env:Env) (σ:Za) (r:Nat→AV):Bool :=
 let t:=fun i=>(Va ops r env tr i).t
 nodupB A&&nodupB U&&(A.all (okA P ops env.t.length))&&((List.range A.length).all fun p=>okU P ops A t (A.getD p 0) (U.getD p 0)) &&
 ((List.range ops.length).all fun i=>(A.contains i||U.contains i||okL P F ops A t r σ i)&&(A.contains i||fzB σ.length 20 (r i)))&&A.all fun a=>(Wa6 P ops A U t a).all (fzB σ.length 20)
theorem Whe {F:FOrc} (hF:F.Good P) {ops:List Oper} {A U:List Nat} {env:Env} {σ:Za} {r:Nat→AV} (hlen:A.length=U.length) (hr:∀ i,ops.length≤i→r i=.any) (h:Vbi P F ops A U env σ r=true) :
  LayA P ops A U env σ r (Wa3 P ops) (Wa6 P ops A U fun i=>(Va ops r env tr i).t):=by
 unfold Vbi at h
 simp only [Bool.and_eq_true] at h
 obtain ⟨⟨⟨⟨⟨h1,h2⟩,h3⟩,h4⟩,h5⟩,h6⟩:=h
 have nd:=Wch _ h1
 have none':∀ g:Option (Nat × Bool),g.isNone=true→g=none:=fun g hg=>by cases g<;>first | rfl | cases hg
 refine ⟨hlen,nd,Wch _ h2,?_,?_,?_,?_,?_⟩
 ·intro a ha
  have:=List.all_eq_true.1 h3 a ha
  unfold okA at this
  split at this
  ·rename_i o ho
   split at this
   ·rename_i e d hop hd
    simp only [Bool.and_eq_true,decide_eq_true_eq] at this
    obtain ⟨⟨⟨g1,g2⟩,g3⟩,g4⟩:=this
    refine ⟨o,d,e,ho,hop,none' _ g1,hd,g2,fun j hj=>?_,fun τ=>?_⟩
    ·have hlt:j<ops.length:=by
      rw [Option.bind_eq_some_iff] at hj
      obtain ⟨x,hx,_⟩:=hj
      exact (Qzs.1 hx).1
     have:=List.all_eq_true.1 g3 j (by simpa using hlt)
     rw [hj] at this
     simpa using this
    ·split at g4
     ·rename_i z hz
      unfold Wa3
      rw [ho]
      simp only [hop,hz,Option.bind_some,Wx,g4,if_true]
     ·cases g4
   ·cases this
  ·cases this
 ·intro p a u ha hu
  have hp:=(Qzs.1 ha).1
  have:=List.all_eq_true.1 h4 p (by simpa using hp)
  have hA:A.getD p 0=a:=by rw [List.getD_eq_getElem?_getD,ha];rfl
  have hU:U.getD p 0=u:=by rw [List.getD_eq_getElem?_getD,hu];rfl
  rw [hA,hU] at this
  unfold okU at this
  split at this
  ·rename_i o ho
   split at this
   ·rename_i ty d x hop
    simp only [Bool.and_eq_true] at this
    obtain ⟨⟨⟨⟨⟨g1,g2⟩,g3⟩,g4⟩,g5⟩,g6⟩:=this
    refine ⟨o,ty,d,x,ho,hop,none' _ g1,by cases hd:o.dst<;>first | rfl | (rw [hd] at g2;cases g2),by simpa using g3,g4,fun t ht a' ha'=>?_,fun τ q hq=>?_⟩
    ·subst ht
     simp only [Va9] at g5
     simpa using List.all_eq_true.1 g5 a' ha'
    ·split at g6
     ·rename_i n ag hn
      simp only [Bool.and_eq_true,decide_eq_true_eq] at g6
      obtain ⟨⟨e1,e2⟩,e3⟩:=g6
      unfold Xad
      rw [hn]
      simp only
      rw [hq]
      simp only
      rw [if_pos ⟨e1,e2,by omega⟩]
      congr 2
      unfold Wa6
      have hi:A.idxOf a=p:=by
       have h7:=Vv (Qzg ha)
       exact (List.getElem?_inj (List.idxOf_lt_length_of_mem (Qzg ha)) nd).1 (h7.trans ha.symm)
      rw [hi,hU,ho]
      simp only [hop]
     ·cases g6
   ·cases this
  ·cases this
 ·intro i o ho hiA hiU
  have hlt:=(Qzs.1 ho).1
  have:=List.all_eq_true.1 h5 i (by simpa using hlt)
  rw [Bool.and_eq_true] at this
  obtain ⟨g1,-⟩:=this
  have c1:A.contains i=false:=by simpa using hiA
  have c2:U.contains i=false:=by simpa using hiU
  rw [c1,c2] at g1
  simp only [Bool.false_or] at g1
  unfold okL at g1
  rw [ho] at g1
  simp only [Bool.and_eq_true] at g1
  refine ⟨fun t ht a ha=>?_,?_⟩
  ·have:=List.all_eq_true.1 g1.1 t ht
   simpa using List.all_eq_true.1 this a ha
  ·have g2:=g1.2
   split at g2
   ·rename_i hw
    split at g2
    ·rename_i v hv
     obtain rfl:=AV.eqb_eq _ _ _ g2
     exact .inl ⟨hw,Yb4 hF hv⟩
    ·cases g2
   ·rename_i hw
    exact .inr ⟨hw,AV.eqb_eq _ _ _ g2⟩
   ·cases g2
 ·intro i hiA
  rcases Qzn i ops.length with hlt | hge
  ·have:=List.all_eq_true.1 h5 i (by simpa using hlt)
   rw [Bool.and_eq_true] at this
   have c1:A.contains i=false:=by simpa using hiA
   have g2:=this.2
   rw [c1] at g2
   exact Xa9 _ _ _ g2
  ·rw [hr i hge];exact .any _
 ·intro a ha y hy
  exact Xa9 _ _ _ (List.all_eq_true.1 (List.all_eq_true.1 h6 a ha) y hy)
def evA (P:Program) (F:FOrc) (ops:List Oper) (env:Env) (σ:Za):Option (Env × Za) :=
 let A:=Zdy ops
 let U:=Xb3 ops A
 let rs:=evL P F ops (A++U) σ ops 0 env []
 let r:=fun i=>rs.getD i .any
 if rs.length=ops.length∧Xo ops []=true∧Vbi P F ops A U env σ r=true then
  some (Va ops (rrA A σ.length r A) env tr ops.length,σ++A.map fun a=>.cells (Wa6 P ops A U (fun i=>(Va ops r env tr i).t) a)) else none
theorem Ydy {rd:Option Nat} {id:Nat} {opsA:Array Oper} {Q:Exit→Env→Za→Prop} {env env':Env} {σ σ':Za} {F:FOrc} (hF:F.Good P) (hm:P.follows .mixedOrders=true) (h:evA P F opsA.toList env σ=some (env',σ')) (hQ:Q .normal env' σ') :
  ACode P rd (.region id opsA true) Q env σ:=by
 unfold evA at h
 simp only at h
 split at h
 ·rename_i hc
  simp only [Option.some.injEq,Prod.mk.injEq] at h
  obtain ⟨rfl,rfl⟩:=h
  exact Vc7 hm _ _ _ _ _ hc.2.1 (Whe hF (by simp [Xb3]) (fun i hi=>by rw [List.getD_eq_getElem?_getD,List.getElem?_eq_none (by omega)];rfl) hc.2.2) hQ
 ·cases h
def evG (P:Program) (F:FOrc) (O:Orc):Nat→Code→Env→Za→Option (Exit × Env × Za)
 | 0,_,_,_=>none
 | n+1,c,env,σ=>match c with
  | .skip=>some (.normal,env,σ)
  | .label _=>some (.normal,env,σ)
  | .exit id=>some (.exit id,env,σ)
  | .ret=>some (.ret,env,σ)
  | .region _ ops d =>
   (match (match d with
    | false=>Vad P (fun f args σ=>match O f args σ with
     | some r=>some r
     | none=>evF P (evG P F O n) f args σ) ops.toList ops.toList env σ
    | true=>(match evR P (fun f args σ=>match O f args σ with
      | some r=>some r
      | none=>evF P (evG P F O n) f args σ) ops.toList env σ with
     | some r=>some r
     | none=>evA P F ops.toList env σ)) with
   | some (e,s)=>some (.normal,e,s)
   | none=>none)
  | .seq a b=>(match evG P F O n a env σ with
   | some (e,env',σ')=>(match e with
    | .normal=>evG P F O n b env' σ'
    | _=>some (e,env',σ'))
   | none=>none)
  | .cond x a b=>(match Wa env.t x with
   | .bool p=>(match p with
    | true=>evG P F O n a (env.op x true) σ
    | false=>evG P F O n b (env.op x false) σ)
   | _=>none)
  | .block id c=>(match evG P F O n c env σ with
   | some (e,env',σ')=>(match e with
    | .exit id'=>if id'=id then some (.normal,env',σ') else some (e,env',σ')
    | _=>some (e,env',σ'))
   | none=>none)
  | .loop c=>(match evG P F O n c env σ with
   | some (e,env',σ')=>(match e with
    | .normal=>evG P F O n (.loop c) env' σ'
    | _=>some (e,env',σ'))
   | none=>none)
  | .scope c=>(match evG P F O n c env σ with
   | some (e,env',σ')=>(match e with
    | .goto _=>none
    | _=>some (e,env',σ'))
   | none=>none)
  | _=>none
theorem Vb5 {F:FOrc} {O:Orc} (hF:F.Good P) (hm:P.follows .mixedOrders=true) (hO:O.Good P):∀ n,Zba P (evG P F O n):=by
 intro n
 induction n using Nat.strongRecOn with
 | _ n ih' =>
 cases n with
 | zero=>intro c env σ e env' σ' h;cases h
 | succ n =>
  have ih:=ih' n (Nat.lt_succ_self n)
  have hcall:Orc.Good P (fun f args σ=>match O f args σ with
    | some r=>some r
    | none=>evF P (evG P F O n) f args σ):=by
   intro f args σ v σ' h
   simp only at h
   split at h
   ·rename_i r hr
    simp only [Option.some.injEq] at h
    subst h
    exact hO _ _ _ _ _ hr
   ·exact Wau ih _ _ _ _ _ h
  intro c env σ e env' σ' h rd
  unfold evG at h
  split at h
  ·simp only [Option.some.injEq,Prod.mk.injEq] at h;obtain ⟨rfl,rfl,rfl⟩:=h
   exact Vk (P:=P) .skip ⟨rfl,rfl,rfl⟩
  ·simp only [Option.some.injEq,Prod.mk.injEq] at h;obtain ⟨rfl,rfl,rfl⟩:=h
   exact Vk (P:=P) (.label _) ⟨rfl,rfl,rfl⟩
  ·simp only [Option.some.injEq,Prod.mk.injEq] at h;obtain ⟨rfl,rfl,rfl⟩:=h
   exact Vk (P:=P) (.exit _) ⟨rfl,rfl,rfl⟩
  ·simp only [Option.some.injEq,Prod.mk.injEq] at h;obtain ⟨rfl,rfl,rfl⟩:=h
   exact Vk (P:=P) .ret ⟨rfl,rfl,rfl⟩
  ·rename_i id ops d
   cases d with
   | false =>
    simp only at h
    split at h
    ·rename_i e1 s1 h1
     simp only [Option.some.injEq,Prod.mk.injEq] at h;obtain ⟨rfl,rfl,rfl⟩:=h
     exact Uba (Ucn hcall _ _ _ _ _ h1 ⟨rfl,rfl,rfl⟩)
    ·cases h
   | true =>
    simp only at h
    split at h
    ·rename_i e1 s1 h1
     simp only [Option.some.injEq,Prod.mk.injEq] at h;obtain ⟨rfl,rfl,rfl⟩:=h
     split at h1
     ·rename_i r h2
      simp only [Option.some.injEq] at h1
      subst h1
      unfold evR at h2
      simp only at h2
      split at h2
      ·rename_i hok
       exact Wal _ _ hm hok (Zci hcall _ _ _ _ _ _ _ _ _ h2 ⟨rfl,rfl,rfl⟩)
      ·cases h2
     ·exact Ydy hF hm h1 ⟨rfl,rfl,rfl⟩
    ·cases h
  ·rename_i a b
   split at h
   ·rename_i e1 n1 s1 h1
    refine Xaf ((ih _ _ _ _ _ _ h1 rd).mono ?_)
    rintro e2 n2 s2 ⟨rfl,rfl,rfl⟩
    split at h
    ·exact ih _ _ _ _ _ _ h rd
    ·rename_i hne
     simp only [Option.some.injEq,Prod.mk.injEq] at h;obtain ⟨rfl,rfl,rfl⟩:=h
     cases e2 with
     | normal=>exact absurd rfl hne
     | _=>exact ⟨rfl,rfl,rfl⟩
   ·cases h
  ·rename_i x a b
   split at h
   ·rename_i p hp
    split at h
    ·exact War hp (fun _=>ih _ _ _ _ _ _ h rd) (fun hf=>by cases hf)
    ·exact War hp (fun hf=>by cases hf) (fun _=>ih _ _ _ _ _ _ h rd)
   ·cases h
  ·rename_i id c
   split at h
   ·rename_i e1 n1 s1 h1
    refine Wbp ((ih _ _ _ _ _ _ h1 rd).mono ?_)
    rintro e2 n2 s2 ⟨rfl,rfl,rfl⟩
    split at h
    ·rename_i id'
     simp only [Vb]
     split at h
     ·rename_i hid
      rw [if_pos hid]
      simp only [Option.some.injEq,Prod.mk.injEq] at h;obtain ⟨rfl,rfl,rfl⟩:=h
      exact ⟨rfl,rfl,rfl⟩
     ·rename_i hid
      rw [if_neg hid]
      simp only [Option.some.injEq,Prod.mk.injEq] at h;obtain ⟨rfl,rfl,rfl⟩:=h
      exact ⟨rfl,rfl,rfl⟩
    ·rename_i hne
     simp only [Option.some.injEq,Prod.mk.injEq] at h;obtain ⟨rfl,rfl,rfl⟩:=h
     cases e2 with
     | exit id'=>exact absurd rfl (hne id')
     | _=>exact ⟨rfl,rfl,rfl⟩
   ·cases h
  ·rename_i c
   refine Ubk (n:=n+1) (fun m env σ=>m≤n+1∧evG P F O m (.loop c) env σ=some (e,env',σ')) ⟨Nat.le_refl _,by unfold evG;exact h⟩ ?_
   rintro m env1 σ1 ⟨hm1,h1⟩
   cases m with
   | zero=>cases h1
   | succ j =>
    unfold evG at h1
    simp only at h1
    split at h1
    ·rename_i e1 n1 s1 h2
     refine (ih' j (by omega) _ _ _ _ _ _ h2 rd).mono ?_
     rintro e2 n2 s2 ⟨rfl,rfl,rfl⟩
     split at h1
     ·exact ⟨j,by omega,by omega,h1⟩
     ·rename_i hne
      simp only [Option.some.injEq,Prod.mk.injEq] at h1;obtain ⟨rfl,rfl,rfl⟩:=h1
      cases e2 with
      | normal=>exact absurd rfl hne
      | _=>exact ⟨rfl,rfl,rfl⟩
    ·cases h1
  ·rename_i c
   split at h
   ·rename_i e1 n1 s1 h1
    refine Vbb ((ih _ _ _ _ _ _ h1 rd).mono ?_)
    rintro e2 n2 s2 ⟨rfl,rfl,rfl⟩
    split at h
    ·cases h
    ·rename_i hne
     simp only [Option.some.injEq,Prod.mk.injEq] at h;obtain ⟨rfl,rfl,rfl⟩:=h
     cases e2 with
     | goto l=>exact absurd rfl (hne l)
     | _=>exact ⟨rfl,rfl,rfl⟩
   ·cases h
  ·cases h
theorem APure.runG {F:FOrc} {O:Orc} {f:FuncId} (n:Nat) (hm:P.follows .mixedOrders=true) (hF:F.Good P) (hO:O.Good P) (h:Uaz (evF P (evG P F O n) f [] [])=true):APure P f [] (.bool true):=by
 unfold Uaz at h
 split at h
 ·rename_i b s hr
  subst h
  exact .closed ((Wau (Vb5 hF hm hO n) f [] [] _ _ hr).mono fun _ _ h=>h.1)
 ·cases h
end Ab

/-
  Texts packed for a claim.
-/
import Derived.Test.YtcoikmapjepdjaaGreatDoorO00
import Derived.Test.YtcoikmapjepdjaaGreatDoorO06
import Derived.Test.YtcoikmapjepdjaaGreatDoorO08
import Derived.Test.YtcoikmapjepdjaaGreatDoorO14
import Derived.Test.YtcoikmapjepdjaaGreatDoorO15
set_option linter.all false
namespace Ab
open Go Go.RowKit
variable [Mode]
variable {P:Program}
theorem Inv.frzT {C₀ C:Ctx} {σ τ g:Za} (hI₀:Inv C₀ σ) (hE:Ext C₀ C) (hI:Inv C (τ++g)) (hlt:τ.length=σ.length)
  (hold:∀ (r:Nat) (o:AObj),τ[r]? = some o→σ[r]? = some o∨∃ cs,o=.cells cs∧∀ y∈cs,Fz τ.length (τ++g) y y):Inv (C.frz τ.length (τ++g)) τ:=by
 have hlen:=hI.len
 have hlen₀:=hI₀.len
 simp at hlen
 have hb:∀ r b,(C.frz τ.length (τ++g)).blk[r]? = some b→C.blk[r]? = some b∧r<τ.length:=by
  intro r b hr
  simp only [Ctx.frz] at hr
  rcases Qzn r τ.length with h | h
  ·rw [List.getElem?_take_of_lt h] at hr;exact ⟨hr,h⟩
  ·rw [List.getElem?_eq_none (by simp;omega)] at hr;cases hr
 have up:∀ (r:Nat) (o:AObj),r<τ.length→τ[r]? = some o→(τ++g)[r]? = some o:=fun r o h1 h2=>by rw [Qzl h1];exact h2
 refine ⟨by simp [Ctx.frz,hlen],hI.glob,hI.base,fun b hb=>.inl (hI.basep b hb),fun b hb=>?_,fun r b o hr ho hl=>?_,fun r1 r2 b o1 o2 h1 h2 ho1 ho2 hl1 hl2=>?_⟩
 ·rcases hb with hb | ⟨r,o,_,h1,h2,h3⟩
  ·exact hI.plt b hb
  ·obtain ⟨_,c,hc,_⟩:=hI.live r b o h1 h2 h3
   exact (Array.getElem?_eq_some_iff.1 hc).1
 ·obtain ⟨h1,h2⟩:=hb r b hr
  obtain ⟨hnp,c,hc,hR⟩:=hI.live r b o h1 (up r o h2 ho) hl
  refine ⟨?_,c,hc,?_⟩
  ·rintro (hp | ⟨r',o',g1,g2,g3,g4⟩)
   ·exact hnp hp
   ·have:=hI.inj r r' b o o' h1 g2 (up r o h2 ho) g3 hl g4
    omega
  ·rcases hold r o ho with ho | ⟨cs,rfl,hz⟩
   ·have h0:C₀.blk[r]? = some (C₀.blk[r]'(by omega)):=Qze (by omega)
    obtain ⟨_,c₀,_,hR₀⟩:=hI₀.live r _ o h0 ho hl
    exact hR₀.frz_old (by omega) hR
   ·cases hR with
    | cells _ vs e lo hi q1 q2 q3 =>
     refine .cells cs vs e lo hi q1 q2 fun i x v hx hv=>?_
     exact (q3 i x v hx hv).frz hI (hz x (Qzg hx))
 ·obtain ⟨h1,h1'⟩:=hb r1 b h1
  obtain ⟨h2,h2'⟩:=hb r2 b h2
  exact hI.inj r1 r2 b o1 o2 h1 h2 (up _ _ h1' ho1) (up _ _ h2' ho2) hl1 hl2
theorem ACalls.forgetT {f:FuncId} {args:List AV} {σ:Za} {R:AV→Za→Prop} (h:ACalls P f args σ fun v σ'=>∃ τ g v',σ'=τ++g∧τ.length=σ.length ∧
   (∀ (r:Nat) (o:AObj),τ[r]? = some o→σ[r]? = some o∨∃ cs,o=.cells cs∧∀ y∈cs,Fz τ.length (τ++g) y y)∧Fz τ.length σ' v v'∧R v' τ):ACalls P f args σ R:=by
 have ext:∀ {C C':Ctx} {τ g:Za},Inv C σ→Ext C C'→τ.length=σ.length→Ext C (C'.frz τ.length (τ++g)):=by
  intro C C' τ g hI hE hl
  obtain ⟨e,he⟩:=hE.blk
  have hl0:=hI.len
  exact ⟨hE.w0,⟨[],by simp only [Ctx.frz];rw [he,List.append_nil,hl,← hl0,List.take_left]⟩,fun b hb=>.inl (hE.pers b hb),hE.keep,hE.shape,hE.size,hE.drawn⟩
 rcases h with h | h
 ·refine .inl ⟨h.1,fun C cargs hI hv=>(h.2 C cargs hI hv).mono ?_⟩
  rintro e w' ⟨v,C',av,σ',rfl,rfl,hE,hI',hv',τ,g,v',rfl,hl,ho,hf,hR⟩
  exact ⟨v,C'.frz τ.length (τ++g),v',τ,rfl,rfl,ext hI hE hl,hI.frzT hE hI' hl ho,hv'.frz hI' hf,hR⟩
 ·refine .inr fun C cargs hI hv=>?_
  obtain ⟨v,C',av,σ',hr,hE,hI',hv',τ,g,v',rfl,hl,ho,hf,hR⟩:=h C cargs hI hv
  exact ⟨v,C'.frz τ.length (τ++g),v',τ,hr,ext hI hE hl,hI.frzT hE hI' hl ho,hv'.frz hI' hf,hR⟩
theorem APure.lend {f:FuncId} {args args':List AV} {v:AV} (h:APure P f args v) {σ:Za} (hl:args'.length=args.length)
  (hz:∀ (i:Nat) (x y:AV),args'[i]? = some x→args[i]? = some y→Fz 0 σ x y) (hp:∀ (C C':Ctx) (c:Value),VR C v c→VR C' v c):ACalls P f args' σ fun v' σ'=>v'=v∧σ'=σ:=by
 have lent:∀ {C:Ctx} {cargs:List Value},Inv C σ→VRs C args' cargs→VRs (C.frz 0 σ) args cargs:=by
  intro C cargs hI hv
  refine ⟨hl▸hv.len,fun i y c hy hc=>?_⟩
  have hi:=(Qzs.1 hy).1
  have hx:args'[i]? = some (args'[i]'(by omega)):=Qze (by omega)
  exact (hv.at_ i _ c hx hc).frz hI (hz i _ y hx hy)
 rcases h [] with h | h
 ·refine .inl ⟨h.1,fun C cargs hI hv=>(h.2 (C.frz 0 σ) cargs hI.base0 (lent hI hv)).mono ?_⟩
  rintro e w' ⟨c,C',av,s,rfl,rfl,hE,hI',hv',rfl,rfl⟩
  obtain ⟨h1,h2⟩:=hI.back0 hE hI'
  exact ⟨c,C.at_ C'.w,_,σ,rfl,rfl,h1,h2,hp _ _ _ hv',rfl,rfl⟩
 ·refine .inr fun C cargs hI hv=>?_
  obtain ⟨c,C',av,s,hr,hE,hI',hv',rfl,rfl⟩:=h (C.frz 0 σ) cargs hI.base0 (lent hI hv)
  obtain ⟨h1,h2⟩:=hI.back0 hE hI'
  exact ⟨c,C.at_ C'.w,_,σ,hr,h1,h2,hp _ _ _ hv',rfl,rfl⟩
theorem ACalls.pl0 {f:FuncId} {k:Nat} {σ:Za} {R:AV→Za→Prop} (hen:Enters P f) (h1:ACalls P f [.nils] σ R) (h2:ACalls P f [.nn] σ R):ACalls P f [.pl k []] σ R:=by
 have ent:∀ {a:AV},ACalls P f [a] σ R→∀ C:Ctx,Inv C σ→(∃ c,VR C a c)→AEnter P f [a] σ R:=by
  intro a h C hI ⟨c,hc⟩
  rcases h with h | h
  ·exact h
  ·obtain ⟨v,C',av,σ',hr,_⟩:=h C [c] hI ⟨rfl,fun i x c' hx hc'=>by
    match i,hx,hc' with
    | 0,hx,hc'=>simp at hx hc';subst hx;subst hc';exact hc
    | i+1,hx,_=>simp at hx⟩
   rw [hen] at hr
   cases hr
 refine .inl ⟨hen,fun C cargs hI hv=>?_⟩
 obtain ⟨x,r,rfl,hx,hr⟩:=hv.inv
 obtain rfl:=hr.of_nil
 obtain ⟨A,cap,rfl,_,_⟩:=hx.pl_inv
 have hcap:=hx.pl_cap
 have one:∀ (a:AV) (c:Value),VR C a c→VRs C [a] [c]:=fun a c h=>⟨rfl,fun i x c' hx hc'=>by
  match i,hx,hc' with
  | 0,hx,hc'=>simp at hx hc';subst hx;subst hc';exact h
  | i+1,hx,_=>simp at hx⟩
 cases A with
 | none =>
  obtain rfl:=hcap rfl
  exact (ent h1 C hI ⟨_,.nils⟩).2 C _ hI (one _ _ .nils)
 | some a=>exact (ent h2 C hI ⟨_,.nn a cap⟩).2 C _ hI (one _ _ (.nn a cap))
end Ab
namespace Ab
open Go Go.RowKit
variable [Mode]
variable {P:Program}
def cold (n:Nat) (σ:Za):Za:=σ.take n++List.replicate (σ.length - n) .dead
theorem Zcc {n:Nat} {σ:Za}:(cold n σ).length=σ.length:=by
 unfold cold;simp;omega
theorem Yev {n r:Nat} {σ:Za} (h:r<n):(cold n σ)[r]? = σ[r]?:=by
 unfold cold
 rcases Qzn r σ.length with h1 | h1
 ·rw [Qzl (by simp;omega),List.getElem?_take_of_lt h]
 ·rw [List.getElem?_eq_none (by simp;omega),List.getElem?_eq_none h1]
theorem Zbr {n r:Nat} {σ:Za} {o:AObj} (h:(cold n σ)[r]? = some o) (hl:o.live=true):r<n∧σ[r]? = some o:=by
 rcases Qzn r n with h1 | h1
 ·exact ⟨h1,by rw [← Yev h1];exact h⟩
 ·exfalso
  have h2:=(Qzs.1 h).1
  rw [Zcc] at h2
  unfold cold at h
  rw [Qzr (by simp;omega),List.getElem?_replicate] at h
  split at h
  ·cases h;cases hl
  ·cases h
def Ctx.ice (C:Ctx) (n:Nat) (σ:Za):Ctx :=
 { C with pers:=fun b=>C.pers b∨∃ (r:Nat) (o:AObj),n≤r∧C.blk[r]? = some b∧σ[r]? = some o∧o.live=true }
theorem Ext.ice {C:Ctx} (n:Nat) (σ:Za):Ext C (C.ice n σ):=⟨rfl,⟨[],by simp [Ctx.ice]⟩,fun _ h=>.inl h,fun _ _=>rfl,fun _ _ h=>h,Nat.le_refl _,fun _=>Nat.le_refl _⟩
theorem Ext.frz_ice {C:Ctx} (n:Nat) (σ:Za):Ext (C.frz n σ) (C.ice n σ) :=
 ⟨rfl,⟨C.blk.drop n,by simp [Ctx.ice,Ctx.frz]⟩,fun _ h=>h,fun _ _=>rfl,fun _ _ h=>h,Nat.le_refl _,fun _=>Nat.le_refl _⟩
theorem Inv.ice {C:Ctx} {σ:Za} (hI:Inv C σ) (n:Nat):Inv (C.ice n σ) (cold n σ):=by
 refine ⟨by rw [Zcc];exact hI.len,hI.glob,hI.base,fun b hb=>.inl (hI.basep b hb),fun b hb=>?_,fun r b o hr ho hl=>?_,fun r1 r2 b o1 o2 h1 h2 ho1 ho2 hl1 hl2=>?_⟩
 ·rcases hb with hb | ⟨r,o,_,h1,h2,h3⟩
  ·exact hI.plt b hb
  ·obtain ⟨_,c,hc,_⟩:=hI.live r b o h1 h2 h3
   exact (Array.getElem?_eq_some_iff.1 hc).1
 ·obtain ⟨h1,h2⟩:=Zbr ho hl
  obtain ⟨hnp,c,hc,hR⟩:=hI.live r b o hr h2 hl
  refine ⟨?_,c,hc,hR.ext (Ext.ice n σ)⟩
  rintro (hp | ⟨r',o',g1,g2,g3,g4⟩)
  ·exact hnp hp
  ·have:=hI.inj r r' b o o' hr g2 h2 g3 hl g4
   omega
 ·exact hI.inj r1 r2 b o1 o2 h1 h2 (Zbr ho1 hl1).2 (Zbr ho2 hl2).2 hl1 hl2
theorem ACalls.freeze {f:FuncId} {args args':List AV} {σ:Za} {R:AV→Za→Prop} (n:Nat) (h:ACalls P f args' (cold n σ) R) (hl:args'.length=args.length)
  (hz:∀ (i:Nat) (x y:AV),args[i]? = some x→args'[i]? = some y→Fz n σ x y):ACalls P f args σ R:=by
 have lent:∀ {C:Ctx} {cargs:List Value},Inv C σ→VRs C args cargs→VRs (C.ice n σ) args' cargs:=by
  intro C cargs hI hv
  refine ⟨hl▸hv.len,fun i y c hy hc=>?_⟩
  have hi:=(Qzs.1 hy).1
  have hx:args[i]? = some (args[i]'(by omega)):=Qze (by omega)
  exact ((hv.at_ i _ c hx hc).frz hI (hz i _ y hx hy)).ext (Ext.frz_ice n σ)
 rcases h with h | h
 ·refine .inl ⟨h.1,fun C cargs hI hv=>(h.2 (C.ice n σ) cargs (hI.ice n) (lent hI hv)).mono ?_⟩
  rintro e w' ⟨v,C',av,s,rfl,rfl,hE,hI',hv',hR⟩
  exact ⟨v,C',av,s,rfl,rfl,(Ext.ice n σ).trans hE,hI',hv',hR⟩
 ·refine .inr fun C cargs hI hv=>?_
  obtain ⟨v,C',av,s,hr,hE,hI',hv',hR⟩:=h (C.ice n σ) cargs (hI.ice n) (lent hI hv)
  exact ⟨v,C',av,s,hr,(Ext.ice n σ).trans hE,hI',hv',hR⟩
theorem Fz.tup2 {n:Nat} {σ:Za} {a b a' b':AV} (h1:Fz n σ a a') (h2:Fz n σ b b'):Fz n σ (.tup [a,b]) (.tup [a',b']) :=
 .tup _ _ rfl fun i x y hx hy=>by
  match i with
  | 0=>simp at hx hy;subst hx;subst hy;exact h1
  | 1=>simp at hx hy;subst hx;subst hy;exact h2
  | i+2=>simp at hx
theorem Acc.shift {σ s g:Za} {k:Nat} {v:AV} {l:List AV} {o:Option Nat} (h:Acc (σ++s) g k v l o):Acc σ (s++g) k v l (o.map (s.length+·)):=⟨h.len,by
 have:=h.val
 cases o with
 | none=>exact this
 | some j =>
  obtain ⟨h1,h2⟩:=this
  refine ⟨by rw [h1,List.length_append,Nat.add_assoc],?_⟩
  show (s++g)[s.length+j]? = _
  rw [Qzr (by omega),show s.length+j - s.length=j by omega]
  exact h2⟩
end Ab
namespace Ab
open Go Go.RowKit
variable [Mode]
variable {P:Program}
theorem ACode.frz {rd:Option Nat} {c:Code} {Q:Exit→Env→Za→Prop} {u u':List AV} {m:List Nat} {σ:Za} (n:Nat) (h:ACode P rd c Q { t:=u',m:=m } (cold n σ)) (hl:u'.length=u.length)
  (hz:∀ (i:Nat) (x y:AV),u[i]? = some x→u'[i]? = some y→Fz n σ x y):ACode P rd c Q { t:=u,m:=m } σ:=by
 intro C a ro hI he hr
 have he':ER (C.ice n σ) { t:=u',m:=m } a:=⟨⟨hl▸he.t.len,fun i y c hy hc=>by
  have hi:i<u'.length:=(Qzs.1 hy).1
  have hx:u[i]? = some (u[i]'(by omega)):=Qze (by omega)
  exact ((he.t.at_ i _ c hx hc).frz hI (hz i _ y hx hy)).ext (Ext.frz_ice n σ)⟩,he.m,fun i r d h1 h2=>he.mark i r d h1 h2⟩
 exact wpIn_mono (h (C.ice n σ) a ro (hI.ice n) he' (hr.ext (Ext.ice n σ))) fun _ _ _ hp=>hp.ext (Ext.ice n σ)
def Uc (u:List AV) (l:List (Nat × AV)):List AV:=l.foldl (fun t p=>ts t p.1 p.2) (List.replicate u.length .any)
theorem Yt (u:List AV) (l:List (Nat × AV)):(Uc u l).length=u.length:=by
 unfold Uc
 suffices h:∀ (l:List (Nat × AV)) (t:List AV),(l.foldl (fun t p=>ts t p.1 p.2) t).length=t.length by rw [h,List.length_replicate]
 intro l
 induction l with
 | nil=>intro t;rfl
 | cons p l ih=>intro t;rw [List.foldl_cons,ih];simp [ts]
end Ab
namespace Ab
open Go Go.RowKit
variable [Mode]
variable {P:Program}
def eqA (a b:AV):Bool:=match a,b with
 | .any,.any=>true
 | _,_=>AV.eqb 20 a b
theorem Va5 {a b:AV} (h:eqA a b=true):a=b:=by
 unfold eqA at h
 split at h
 ·rfl
 ·exact AV.eqb_eq _ _ _ h
def Vbc (P:Program) (F:FOrc) (o:Oper) (t:List AV) (σ:Za):Option AV :=
 if Xj o then evf P F o t σ else if Vaj P o then (aop P t σ o).map (·.1) else none
theorem Wee {F:FOrc} (hF:F.Good P) {o:Oper} {env:Env} {σ:Za} {v:AV} (h:Vbc P F o env.t σ=some v):aw1 P o (fun v1 s1=>v1=v∧s1=σ) env σ:=by
 unfold Vbc at h
 split at h
 ·have:=Vb8 hF h []
  simpa using this
 ·rename_i hc
  split at h
  case isFalse=>cases h
  rename_i hl
  rw [Qzm] at h
  obtain ⟨⟨v',s⟩,h1,rfl⟩:=h
  obtain rfl:=Vbr hl h1
  exact Wa5 (by simpa using hc) h1
section
variable (P:Program) (F:FOrc) (ops:List Oper) (H:List Nat) (env:Env) (σ:Za)
def Vau (s:List Nat) (h:Nat):Bool:=!s.contains h&&H.all fun h'=>!bef (Ug ops) h h'||s.contains h'
def Xbp (s:List Nat) (hv:Nat→AV) (heap:Za):List Oper→Nat→Env→List AV→List AV
 | [],_,_,rs=>rs
 | o::rest,i,env,rs =>
  let v:=if H.contains i then hv i else if H.all (fun h=>!bef (Ug ops) i h||s.contains h) then (match Yf ops env.t o.guard with
   | some true=>(Vbc P F o env.t heap).getD .any
   | some false=>.tup []
   | none=>.any) else .any
  Xbp s hv heap rest (i+1) (env.put o.dst v) (rs++[v])
def ndT:List Nat→Option (List AV × Za)
 | []=>some (Xbp P F ops H [] (fun _=>.any) σ ops 0 env [],σ)
 | h::q=>match ndT q,ops[h]? with
  | some (vs,heap),some o=>(aop P (Va ops (fun i=>vs.getD i .any) env tr h).t heap o).map fun x=>(Xbp P F ops H (h::q) (fun i=>if i=h then x.1 else vs.getD i .any) x.2 ops 0 env [],x.2)
  | _,_=>none
def rT (s:List Nat):Nat→AV:=fun i=>((ndT P F ops H env σ s.reverse).getD ([],[])).1.getD i .any
def sT (s:List Nat):Za:=((ndT P F ops H env σ s.reverse).getD ([],[])).2
def Yc7 (L:List (List Nat)):List (List Nat):=L.flatMap fun s=>(H.filter (Vau ops H s)).map fun h=>s++[h]
def Zbm:Nat→List (List Nat)
 | 0=>[[]]
 | n+1=>Yc7 ops H (Zbm n)
def allT:List (List Nat):=(List.range (H.length+1)).flatMap fun n=>Zbm ops H n
def Vcq (s:List Nat) (i:Nat):Bool:=match ops[i]? with
 | some o=>H.contains i||!(H.all fun h=>!bef (Ug ops) i h||s.contains h)||!(H.all fun h=>!bef (Ug ops) h i||!s.contains h)||(match Yf ops (Va ops (rT P F ops H env σ s) env tr i).t o.guard with
  | some true=>(match Vbc P F o (Va ops (rT P F ops H env σ s) env tr i).t (sT P F ops H env σ s) with
   | some v=>eqA v (rT P F ops H env σ s i)
   | none=>false)
  | some false=>eqA (rT P F ops H env σ s i) (.tup [])
  | none=>false)
 | none=>true
def Ybk (s:List Nat) (h:Nat):Bool:=!Vau ops H s h||((allT ops H).contains (s++[h])&&(match ops[h]? with
 | some o=>o.guard.isNone&&!Xj o&&(ndT P F ops H env σ s.reverse).isSome&&(ndT P F ops H env σ (h::s.reverse)).isSome&&(match aop P (Va ops (rT P F ops H env σ s) env tr h).t (sT P F ops H env σ s) o with
  | some (v,_)=>eqA v (rT P F ops H env σ (s++[h]) h)
  | none=>false)&&((List.range ops.length).all fun j=>j == h||!(H.all fun h'=>!bef (Ug ops) j h'||s.contains h')||(H.contains j&&!s.contains j)||eqA (rT P F ops H env σ (s++[h]) j) (rT P F ops H env σ s j))
 | none=>false))
def evT:Option (List (Env × Za)) :=
 if Xp ops []&&(H.all fun h=>decide (h<ops.length))&&((allT ops H).all fun s=>decide ((((ndT P F ops H env σ s.reverse).getD ([],[])).1).length≤ops.length)&&((List.range ops.length).all (Vcq P F ops H env σ s))&&H.all (Ybk P F ops H env σ s)) then
  some (((allT ops H).filter fun s=>H.all s.contains).map fun s=>(Va ops (rT P F ops H env σ s) env tr ops.length,sT P F ops H env σ s))
 else none
end
theorem Wgt {F:FOrc} (hF:F.Good P) (hm:P.follows .mixedOrders=true) {rd:Option Nat} {id:Nat} {opsA:Array Oper} {H:List Nat} {Q:Exit→Env→Za→Prop} {env:Env} {σ:Za} {outs:List (Env × Za)}
  (h:evT P F opsA.toList H env σ=some outs) (hQ:∀ o∈outs,Q .normal o.1 o.2):ACode P rd (.region id opsA true) Q env σ:=by
 unfold evT at h
 split at h
 case isFalse=>cases h
 rename_i hc
 simp only [Bool.and_eq_true,List.all_eq_true,decide_eq_true_eq] at hc
 obtain ⟨⟨hd,hlt⟩,hall⟩:=hc
 simp only [Option.some.injEq] at h
 subst h
 have hrev:∀ (s:List Nat) (i:Nat),(s++[i]).reverse=i::s.reverse:=fun s i=>by simp
 refine Wc1 hm H (fun s=>s∈allT opsA.toList H) (rT P F opsA.toList H env σ) (sT P F opsA.toList H env σ) hd (fun h hh=>by simpa using hlt h hh) ⟨?_,?_,?_,?_,?_⟩ ?_
 ·unfold allT
  rw [List.mem_flatMap]
  exact ⟨0,by simp,by simp [Zbm]⟩
 ·simp [sT,ndT]
 ·intro i o s ho hi hs hb ha
  have hk:=((hall s hs).1.2) i (by have:=(Qzs.1 ho).1;simpa using this)
  unfold Vcq at hk
  rw [ho] at hk
  have c1:H.contains i=false:=by simpa using hi
  have c2:(H.all fun h=>!bef (Ug opsA.toList) i h||s.contains h)=true:=by
   rw [List.all_eq_true];intro h hh
   cases hbf:bef (Ug opsA.toList) i h
   ·rfl
   ·simpa using hb h hh hbf
  have c3:(H.all fun h=>!bef (Ug opsA.toList) h i||!s.contains h)=true:=by
   rw [List.all_eq_true];intro h hh
   cases hbf:bef (Ug opsA.toList) h i
   ·rfl
   ·simpa using ha h hh hbf
  simp only [c1,c2,c3,Bool.not_true,Bool.or_self,Bool.false_or] at hk
  split at hk
  ·rename_i hw
   split at hk
   ·rename_i v hv
    have hve:=Va5 hk
    refine .inl ⟨hw,.inr ?_⟩
    have:=Wee hF hv
    rw [hve] at this
    exact this
   ·cases hk
  ·rename_i hw
   exact .inr ⟨hw,Va5 hk⟩
  ·cases hk
 ·intro i o s ho hi hs his hb
  have hk:=((hall s hs).2) i hi
  have c0:Vau opsA.toList H s i=true:=by
   unfold Vau
   rw [Bool.and_eq_true,List.all_eq_true]
   refine ⟨by simpa using his,fun h hh=>?_⟩
   cases hbf:bef (Ug opsA.toList) i h
   ·rfl
   ·simpa using hb h hh hbf
  unfold Ybk at hk
  rw [c0,ho] at hk
  simp only [Bool.not_true,Bool.false_or,Bool.and_eq_true,Bool.not_eq_true'] at hk
  obtain ⟨hmem,⟨⟨⟨⟨hg,hcall⟩,hn1⟩,hn2⟩,hop⟩,_⟩:=hk
  refine ⟨by simpa using hmem,.inl ⟨?_,?_⟩⟩
  ·have:o.guard=none:=by simpa using hg
   rw [this];rfl
  ·split at hop
   ·rename_i v heap' hv
    have hve:=Va5 hop
    have hheap:sT P F opsA.toList H env σ (s++[i])=heap':=by
     unfold sT at hv ⊢
     unfold rT at hv
     rw [hrev]
     obtain ⟨x,hx⟩:=Option.isSome_iff_exists.1 hn1
     rw [hx,Option.getD_some] at hv
     obtain ⟨vs,hp⟩:=x
     simp only [ndT,hx,ho,hv,Option.map_some,Option.getD_some]
    rw [hheap,← hve]
    exact Wa5 hcall hv
   ·cases hop
 ·intro s i j hs hs' hiH his hbi hji hb hj
  rcases Qzn j opsA.toList.length with hjl | hjl
  ·have c0:Vau opsA.toList H s i=true:=by
    unfold Vau
    rw [Bool.and_eq_true,List.all_eq_true]
    refine ⟨by simpa using his,fun h hh=>?_⟩
    cases hbf:bef (Ug opsA.toList) i h
    ·rfl
    ·simpa using hbi h hh hbf
   ·have hk:=((hall s hs).2) i hiH
    have hil:i<opsA.toList.length:=hlt i hiH
    unfold Ybk at hk
    rw [c0,Qze hil] at hk
    simp only [Bool.not_true,Bool.false_or,Bool.and_eq_true,List.all_eq_true] at hk
    have:=hk.2.2 j (by simpa using hjl)
    have c2:(H.all fun h=>!bef (Ug opsA.toList) j h||s.contains h)=true:=by
     rw [List.all_eq_true];intro h hh
     cases hbf:bef (Ug opsA.toList) j h
     ·rfl
     ·simpa using hb h hh hbf
    rw [c2] at this
    have c4:(H.contains j&&!s.contains j)=false:=by
     by_cases hjH:j∈H
     ·have:=hj hjH;simp [hjH,this]
     ·simp [hjH]
    rw [c4] at this
    simp only [Bool.not_true,Bool.or_false,Bool.or_eq_true,beq_iff_eq] at this
    rcases this with h1 | h1
    ·exact absurd h1 hji
    ·exact Va5 h1
  ·have k1:=(hall _ hs').1.1
   have k2:=(hall _ hs).1.1
   unfold rT
   rw [List.getD_eq_getElem?_getD,List.getD_eq_getElem?_getD,List.getElem?_eq_none (by omega),List.getElem?_eq_none (by omega)]
 ·intro s hs hh
  have:=hQ _ (List.mem_map.2 ⟨s,List.mem_filter.2 ⟨hs,by rw [List.all_eq_true];intro h hm';simpa using hh h hm'⟩,rfl⟩)
  simpa using this
end Ab
namespace Ab
open Go Go.RowKit
variable [Mode]
variable {P:Program}
def Yaz {α:Type}:List (Option (List α))→Option (List α)
 | []=>some []
 | some l::t=>(Yaz t).map (l++·)
 | none::_=>none
theorem Vce {α:Type}:∀ {L:List (Option (List α))} {out:List α},Yaz L=some out→∀ x∈L,∃ l,x=some l∧∀ y∈l,y∈out:=by
 intro L
 induction L with
 | nil=>intro out _ x hx;simp at hx
 | cons a t ih =>
  intro out h x hx
  cases a with
  | none=>simp [Yaz] at h
  | some l =>
   simp only [Yaz,Qzm] at h
   obtain ⟨o,h1,rfl⟩:=h
   rcases List.mem_cons.1 hx with rfl | hx
   ·exact ⟨l,rfl,fun y hy=>by simp [hy]⟩
   ·obtain ⟨l',h2,h3⟩:=ih h1 x hx
    exact ⟨l',h2,fun y hy=>by simp [h3 y hy]⟩
def evM (P:Program) (F:FOrc) (O:Orc) (n:Nat):Code→Env→Za→Option (List (Exit × Env × Za))
 | .seq a b,env,σ=>match evM P F O n a env σ with
  | some outs=>Yaz (outs.map fun x=>match x.1 with
   | .normal=>evM P F O n b x.2.1 x.2.2
   | _=>some [x])
  | none=>none
 | .region id ops d,env,σ=>match evG P F O n (.region id ops d) env σ with
  | some r=>some [r]
  | none=>if d then (evT P F ops.toList (Xcj P ops.toList) env σ).map fun l=>l.map fun x=>(.normal,x.1,x.2) else none
 | c,env,σ=>(evG P F O n c env σ).map fun r=>[r]
theorem Zbb {F:FOrc} {O:Orc} (hF:F.Good P) (hm:P.follows .mixedOrders=true) (hO:O.Good P) (n:Nat):∀ (c:Code) (env:Env) (σ:Za) (outs:List (Exit × Env × Za)),evM P F O n c env σ=some outs →
  ∀ (rd:Option Nat) (Q:Exit→Env→Za→Prop),(∀ x∈outs,Q x.1 x.2.1 x.2.2)→ACode P rd c Q env σ:=by
 have one:∀ (c:Code) (env:Env) (σ:Za) (outs:List (Exit × Env × Za)),((evG P F O n c env σ).map fun r=>[r])=some outs→∀ (rd:Option Nat) (Q:Exit→Env→Za→Prop),(∀ x∈outs,Q x.1 x.2.1 x.2.2)→ACode P rd c Q env σ:=by
  intro c env σ outs h rd Q hQ
  rw [Qzm] at h
  obtain ⟨⟨e,env',σ'⟩,h1,rfl⟩:=h
  refine ((Wcj hF hm hO n) c env σ e env' σ' h1 rd).mono ?_
  rintro e1 n1 s1 ⟨rfl,rfl,rfl⟩
  exact hQ (e1,n1,s1) (by simp)
 intro c
 induction c with
 | seq a b iha ihb =>
  intro env σ outs h rd Q hQ
  unfold evM at h
  split at h
  ·rename_i o1 h1
   refine Yag (iha env σ o1 h1 rd _ fun x hx=>?_)
   obtain ⟨l,h2,h3⟩:=Vce h _ (List.mem_map.2 ⟨x,hx,rfl⟩)
   obtain ⟨e,env',σ'⟩:=x
   cases e with
   | normal=>exact ihb env' σ' l h2 rd Q fun y hy=>hQ y (h3 y hy)
   | _=>simp only [Option.some.injEq] at h2;subst h2;exact hQ _ (h3 _ (by simp))
  ·cases h
 | region id ops d =>
  intro env σ outs h rd Q hQ
  unfold evM at h
  split at h
  ·rename_i r h1
   exact one _ env σ outs (by rw [h1];exact h) rd Q hQ
  ·split at h
   ·rename_i hd
    rw [Qzm] at h
    obtain ⟨l,h1,rfl⟩:=h
    subst hd
    exact Wgt hF hm h1 fun o ho=>hQ _ (List.mem_map.2 ⟨o,ho,rfl⟩)
   ·cases h
 | _=>intro env σ outs h;exact one _ env σ outs (by unfold evM at h;exact h)
def Xan:Nat→AV→AV→Bool
 | 0,_,_=>false
 | n+1,v,w=>match v,w with
  | _,.any=>true
  | .bool a,.bool b=>a == b
  | .int k a,.int k' b=>decide (k=k')&&decide (a=b)
  | .tup l,.tup l'=>decide (l.length=l'.length)&&(l.zip l').all fun p=>Xan n p.1 p.2
  | _,_=>false
theorem Zcr {m:Nat} {σ:Za}:∀ (n:Nat) (v w:AV),Xan n v w=true→Fz m σ v w:=by
 intro n
 induction n with
 | zero=>intro v w h;cases h
 | succ n ih =>
  intro v w h
  unfold Xan at h
  split at h
  ·exact .any _
  ·rename_i a b;rw [beq_iff_eq] at h;subst h;exact .bool _
  ·rename_i k a k' b
   simp only [Bool.and_eq_true,decide_eq_true_eq] at h
   obtain ⟨rfl,rfl⟩:=h
   exact .int _ _
  ·rename_i l l'
   simp only [Bool.and_eq_true,decide_eq_true_eq,List.all_eq_true] at h
   refine .tup l l' h.1 fun i x y hx hy=>ih x y (h.2 (x,y) ?_)
   exact Qzg (i:=i) (by rw [List.getElem?_zip_eq_some];exact ⟨hx,hy⟩)
  ·cases h
def Wap:Nat→AV→Bool
 | 0,_=>false
 | n+1,v=>match v with
  | .any=>true
  | .bool _=>true
  | .int _ _=>true
  | .tup l=>l.all (Wap n)
  | _=>false
theorem Zbi:∀ (n:Nat) (v:AV),Wap n v=true→∀ (C C':Ctx) (c:Value),VR C v c→VR C' v c:=by
 intro n
 induction n with
 | zero=>intro v h;cases h
 | succ n ih =>
  intro v h C C' c hv
  cases v with
  | any=>exact .any c
  | bool b=>cases hv;exact .bool b
  | int k i=>cases hv;exact .int k i
  | tup l =>
   obtain ⟨cs,rfl,hl⟩:=hv.tup_inv
   have h':l.all (Wap n)=true:=h
   rw [List.all_eq_true] at h'
   exact .tup l cs hl.len fun i x d hx hd=>ih x (h' x (Qzg hx)) C C' d (hl.at_ i x d hx hd)
  | _=>cases h
theorem ACalls.anywhere {f:FuncId} {args:List AV} {v:AV} (h:ACalls P f args [] fun v' s=>v'=v∧s=[]) (ha:args.all (fzB 0 20)=true) (hv:Wap 20 v=true):APure P f args v:=by
 intro σ
 have lent:∀ {C:Ctx} {cargs:List Value},Inv C σ→VRs C args cargs→VRs (C.frz 0 σ) args cargs:=by
  intro C cargs hI hv
  refine ⟨hv.len,fun i y c hy hc=>?_⟩
  exact (hv.at_ i _ c hy hc).frz hI (Zbo 20 y σ (List.all_eq_true.1 ha y (Qzg hy)))
 rcases h with h | h
 ·refine .inl ⟨h.1,fun C cargs hI hvs=>(h.2 (C.frz 0 σ) cargs hI.base0 (lent hI hvs)).mono ?_⟩
  rintro e w' ⟨c,C',av,s,rfl,rfl,hE,hI',hv',rfl,rfl⟩
  obtain ⟨h1,h2⟩:=hI.back0 hE hI'
  exact ⟨c,C.at_ C'.w,_,σ,rfl,rfl,h1,h2,Zbi 20 _ hv _ _ _ hv',rfl,rfl⟩
 ·refine .inr fun C cargs hI hvs=>?_
  obtain ⟨c,C',av,s,hr,hE,hI',hv',rfl,rfl⟩:=h (C.frz 0 σ) cargs hI.base0 (lent hI hvs)
  obtain ⟨h1,h2⟩:=hI.back0 hE hI'
  exact ⟨c,C.at_ C'.w,_,σ,hr,h1,h2,Zbi 20 _ hv _ _ _ hv',rfl,rfl⟩
def runM (P:Program) (F:FOrc) (O:Orc) (n:Nat) (f:FuncId) (args:List AV) (v:AV):Bool:=match P.funcs[f]? with
 | some fn=>!(fn.name == "runtime.NumGoroutine")&&args.all (fzB 0 20)&&Wap 20 v&&(match fn.body with
  | some c=>(match evM P F O n c { t:=te args fn.ntmps } [] with
   | some outs=>outs.all fun x=>(match x.1 with
    | .normal | .ret=>x.2.1.m.isEmpty&&(match Vr P fn.results.toList x.2.1.t x.2.2 with
     | some w=>Xan 20 w v
     | none=>false)
    | _=>false)
   | none=>false)
  | none=>false)
 | none=>false
theorem APure.runM {F:FOrc} {O:Orc} {f:FuncId} {args:List AV} {v:AV} (n:Nat) (hm:P.follows .mixedOrders=true) (hF:F.Good P) (hO:O.Good P) (h:runM P F O n f args v=true):APure P f args v:=by
 unfold Ab.runM at h
 split at h
 case h_2=>cases h
 rename_i fn hfn
 simp only [Bool.and_eq_true,Bool.not_eq_true'] at h
 obtain ⟨⟨⟨hn,ha⟩,hv⟩,h⟩:=h
 split at h
 case h_2=>cases h
 rename_i c hb
 split at h
 case h_2=>cases h
 rename_i outs ho
 rw [List.all_eq_true] at h
 refine ACalls.anywhere (ACalls.forget ?_) ha hv
 refine Yau hfn hb (Ua hfn hn (by rw [hb];rfl)) (Zbb hF hm hO n c _ _ outs ho none _ fun x hx=>?_)
 have hk:=h x hx
 obtain ⟨e,env,s⟩:=x
 have key:(env.m.isEmpty&&(match Vr P fn.results.toList env.t s with
     | some w=>Xan 20 w v
     | none=>false))=true→env.m=[]∧(match Vr P fn.results.toList env.t s with
     | some w=>∃ g v',s=[]++g∧Fz 0 s w v'∧v'=v∧([]:Za)=[]
     | none=>False):=by
  intro h2
  rw [Bool.and_eq_true] at h2
  refine ⟨by simpa using h2.1,?_⟩
  have h3:=h2.2
  split at h3
  ·rename_i w hw
   exact ⟨s,v,rfl,Zcr 20 w v h3,rfl,rfl⟩
  ·cases h3
 cases e with
 | normal=>exact key hk
 | ret=>exact key hk
 | _=>simp at hk
theorem Zer {F:FOrc} {O:Orc} (hF:F.Good P) (hm:P.follows .mixedOrders=true) (hO:O.Good P) (n:Nat) {a b c:Code} {env:Env} {σ:Za} {outs:List (Exit × Env × Za)} (h:evM P F O n (.seq a b) env σ=some outs) {rd:Option Nat} {Q:Exit→Env→Za→Prop}
  (hQ:∀ x∈outs,Xb (ACode P rd c Q) Q x.1 x.2.1 x.2.2):ACode P rd (.seq a (.seq b c)) Q env σ:=by
 unfold evM at h
 split at h
 case h_2=>cases h
 rename_i o1 h1
 refine Yag (Zbb hF hm hO n a env σ o1 h1 rd _ fun x hx=>?_)
 obtain ⟨l,h2,h3⟩:=Vce h _ (List.mem_map.2 ⟨x,hx,rfl⟩)
 obtain ⟨e,env',σ'⟩:=x
 cases e with
 | normal=>exact Yag (Zbb hF hm hO n b env' σ' l h2 rd _ fun y hy=>hQ y (h3 y hy))
 | _ =>
  simp only [Option.some.injEq] at h2
  subst h2
  have h4:=hQ _ (h3 _ (List.mem_singleton.2 rfl))
  exact h4
def Xbs (P:Program) (fn:Func) (v:AV) (x:Exit × Env × Za):Bool:=match x.1 with
 | .normal | .ret=>x.2.1.m.isEmpty&&(match Vr P fn.results.toList x.2.1.t x.2.2 with
  | some w=>Xan 20 w v
  | none=>false)
 | _=>false
theorem Ugk {fn:Func} {v:AV} {x:Exit × Env × Za} (h:Xbs P fn v x=true):QFn P fn (fun w s=>∃ g v',s=[]++g∧Fz 0 s w v'∧v'=v∧([]:Za)=[]) x.1 x.2.1 x.2.2:=by
 obtain ⟨e,env,s⟩:=x
 have key:(env.m.isEmpty&&(match Vr P fn.results.toList env.t s with
     | some w=>Xan 20 w v
     | none=>false))=true→env.m=[]∧(match Vr P fn.results.toList env.t s with
     | some w=>∃ g v',s=[]++g∧Fz 0 s w v'∧v'=v∧([]:Za)=[]
     | none=>False):=by
  intro h2
  rw [Bool.and_eq_true] at h2
  refine ⟨by simpa using h2.1,?_⟩
  have h3:=h2.2
  split at h3
  ·rename_i w hw
   exact ⟨s,v,rfl,Zcr 20 w v h3,rfl,rfl⟩
  ·cases h3
 cases e with
 | normal=>exact key h
 | ret=>exact key h
 | _=>simp [Xbs] at h
def Xa5 (P:Program) (F:FOrc) (O:Orc) (n:Nat) (fn:Func) (args:List AV):Option (List (Exit × Env × Za)):=match fn.body with
 | some (.seq a (.seq b _))=>evM P F O n (.seq a b) { t:=te args fn.ntmps } []
 | _=>none
def Ur (P:Program) (F:FOrc) (O:Orc) (n:Nat) (fn:Func) (args:List AV) (v:AV) (i:Nat):Bool:=match ((Xa5 P F O n fn args).getD [])[i]?,fn.body with
 | some (.normal,env,σ),some (.seq _ (.seq _ c))=>(match evM P F O n c env σ with
  | some outs=>outs.all (Xbs P fn v)
  | none=>false)
 | none,_=>true
 | _,_=>false
theorem APure.runP {F:FOrc} {O:Orc} {f:FuncId} {fn:Func} {args:List AV} {v:AV} (n:Nat) (hm:P.follows .mixedOrders=true) (hF:F.Good P) (hO:O.Good P) (hfn:P.funcs[f]? = some fn)
  (h:((!(fn.name == "runtime.NumGoroutine"))&&args.all (fzB 0 20)&&Wap 20 v&&(Xa5 P F O n fn args).isSome&&decide (((Xa5 P F O n fn args).getD []).length≤3))=true)
  (h0:Ur P F O n fn args v 0=true) (h1:Ur P F O n fn args v 1=true) (h2:Ur P F O n fn args v 2=true):APure P f args v:=by
 simp only [Bool.and_eq_true,Bool.not_eq_true',decide_eq_true_eq] at h
 obtain ⟨⟨⟨⟨hn,ha⟩,hv⟩,hs⟩,hl⟩:=h
 obtain ⟨outs,ho⟩:=Option.isSome_iff_exists.1 hs
 rw [ho,Option.getD_some] at hl
 have hall:∀ i,i<outs.length→Ur P F O n fn args v i=true:=fun i hi=>by
  match i,hi with
  | 0,_=>exact h0
  | 1,_=>exact h1
  | 2,_=>exact h2
  | i+3,hi=>omega
 have ho':=ho
 unfold Xa5 at ho'
 split at ho'
 case h_2=>cases ho'
 rename_i a b c hb
 refine ACalls.anywhere (ACalls.forget ?_) ha hv
 refine Yau hfn hb (Ua hfn hn (by rw [hb];rfl)) (Zer hF hm hO n ho' fun x hx=>?_)
 obtain ⟨i,hi⟩:=List.mem_iff_getElem?.1 hx
 have hk:=hall i (Qzs.1 hi).1
 unfold Ur at hk
 rw [ho,Option.getD_some,hi,hb] at hk
 obtain ⟨e,env,s⟩:=x
 cases e with
 | normal =>
  simp only at hk
  split at hk
  ·rename_i o2 h3
   exact Zbb hF hm hO n c env s o2 h3 none _ fun y hy=>Ugk (List.all_eq_true.1 hk y hy)
  ·cases hk
 | _=>simp at hk
def fzR:Nat→Za→AV→AV→Bool
 | 0,_,_,_=>false
 | n+1,S,v,w=>match v,w with
  | _,.any=>true
  | .bool a,.bool b=>a == b
  | .int k a,.int k' b=>decide (k=k')&&decide (a=b)
  | .nils,.pl _ l=>l.isEmpty
  | .arr k r off len,.pl k' l=>decide (k=k')&&decide (len=l.length)&&(match S[r]? with
   | some (.cells cs)=>l.zipIdx.all fun x=>decide (x.1.cells.length=k)&&x.1.cells.zipIdx.all fun y=>y.1.one&&(match cs[(off+x.2)*k+y.2]? with
    | some c=>fzR n S c y.1
    | none=>false)
   | _=>false)
  | .agg l,.agg l'=>decide (l.length=l'.length)&&(l.zip l').all fun p=>fzR n S p.1 p.2
  | _,_=>false
theorem Wds {S:Za} (g:Za):∀ (n:Nat) (v w:AV),fzR n S v w=true→Fz 0 (S++g) v w:=by
 intro n
 induction n with
 | zero=>intro v w h;cases h
 | succ n ih =>
  intro v w h
  unfold fzR at h
  split at h
  ·exact .any _
  ·rename_i a b;rw [beq_iff_eq] at h;subst h;exact .bool _
  ·rename_i k a k' b
   simp only [Bool.and_eq_true,decide_eq_true_eq] at h
   obtain ⟨rfl,rfl⟩:=h
   exact .int _ _
  ·rename_i k l
   rw [List.isEmpty_iff] at h
   subst h
   exact .nils_pl k
  ·rename_i k r off len k' l
   simp only [Bool.and_eq_true,decide_eq_true_eq] at h
   obtain ⟨⟨rfl,rfl⟩,h⟩:=h
   split at h
   case h_2=>cases h
   rename_i cs hcs
   rw [List.all_eq_true] at h
   have hcell:∀ (i:Nat) (x:AV),l[i]? = some x→x.cells.length=k∧∀ (j:Nat) (y:AV),x.cells[j]? = some y→y.one=true∧∃ c,cs[(off+i)*k+j]? = some c∧Fz 0 (S++g) c y:=by
    intro i x hx
    have h1:=h (x,i) (List.mem_zipIdx_iff_getElem?.2 hx)
    simp only [Bool.and_eq_true,decide_eq_true_eq,List.all_eq_true] at h1
    refine ⟨h1.1,fun j y hy=>?_⟩
    have h2:=h1.2 (y,j) (List.mem_zipIdx_iff_getElem?.2 hy)
    refine ⟨h2.1,?_⟩
    have h3:=h2.2
    split at h3
    ·rename_i c hc;exact ⟨c,hc,ih c y h3⟩
    ·cases h3
   refine Fz.arr k r off cs l (fun i j=>(cs[(off+i)*k+j]?).getD .any) (Nat.zero_le _) (Wcb hcs) (fun i x hx=>⟨(hcell i x hx).1,fun j y hy=>?_⟩) (fun i x hx j y hy=>?_)
   ·obtain ⟨h1,c,hc,_⟩:=(hcell i x hx).2 j y hy
    exact ⟨h1,by rw [hc];rfl⟩
   ·obtain ⟨_,c,hc,hf⟩:=(hcell i x hx).2 j y hy
    simp only [hc,Option.getD_some]
    exact hf
  ·rename_i l l'
   simp only [Bool.and_eq_true,decide_eq_true_eq,List.all_eq_true] at h
   refine .agg l l' h.1 fun i x y hx hy=>ih x y (h.2 (x,y) ?_)
   exact Qzg (i:=i) (by rw [List.getElem?_zip_eq_some];exact ⟨hx,hy⟩)
  ·cases h
def Uat (f0:FuncId) (args0:List AV) (v0:AV):FOrc:=fun f args σ=>if f=f0∧args.length=args0.length∧((args.zip args0).all fun p=>fzR 20 σ p.1 p.2)=true then some v0 else none
theorem Xa7 {f0:FuncId} {args0:List AV} {v0:AV} (h:APure P f0 args0 v0) (hv:Wap 20 v0=true):(Uat f0 args0 v0).Good P:=by
 intro f args σ v hf g
 unfold Uat at hf
 split at hf
 case isFalse=>cases hf
 rename_i hc
 obtain ⟨rfl,hl,hz⟩:=hc
 cases hf
 rw [List.all_eq_true] at hz
 exact APure.lend h hl (fun i x y hx hy=>Wds g 20 x y (hz (x,y) (Qzg (i:=i) (by rw [List.getElem?_zip_eq_some];exact ⟨hx,hy⟩)))) (fun C C' c hc=>Zbi 20 _ hv C C' c hc)
def orF (A B:FOrc):FOrc:=fun f args σ=>match A f args σ with
 | some v=>some v
 | none=>B f args σ
theorem Wbl {A B:FOrc} (ha:A.Good P) (hb:B.Good P):(orF A B).Good P:=by
 intro f args σ v hf
 unfold orF at hf
 split at hf
 ·rename_i w hw;cases hf;exact ha _ _ _ _ hw
 ·exact hb _ _ _ _ hf
def asO (F:FOrc):Orc:=fun f args σ=>(F f args σ).map (·,σ)
theorem Xhl {F:FOrc} (h:F.Good P):(asO F).Good P:=by
 intro f args σ v σ' hf
 unfold asO at hf
 rw [Qzm] at hf
 obtain ⟨v',h1,h2⟩:=hf
 simp only [Prod.mk.injEq] at h2
 obtain ⟨rfl,rfl⟩:=h2
 have:=h f args σ v' h1 []
 simpa using this
end Ab

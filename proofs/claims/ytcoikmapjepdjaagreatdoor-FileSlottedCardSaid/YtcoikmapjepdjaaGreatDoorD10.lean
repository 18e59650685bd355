/-
  Texts packed for a claim.
-/
import Derived.Test.YtcoikmapjepdjaaGreatDoorD00
import Derived.Test.YtcoikmapjepdjaaGreatDoorD06
import Derived.Test.YtcoikmapjepdjaaGreatDoorD08
set_option linter.all false
namespace Ab
open Go Go.RowKit
variable [Mode]
variable {P:Program}
theorem Inv.frzT {C₀ C:Ctx} {σ τ g:Za} (hI₀:Inv C₀ σ) (hE:Ext C₀ C) (hI:Inv C (τ++g)) (hlt:τ.length=σ.length)
  (hold:∀ (r:Nat) (o:AObj),τ[r]? = some o→σ[r]? = some o∨∃ cs,o=.cells cs∧∀ y∈cs,Fz τ.length (τ++g) y y):Inv (C.frz τ.length (τ++g)) τ:=by
 have hlen:=hI.len
 have hlen₀:=hI₀.len
 simp at hlen
 have hb:∀ r b,(C.frz τ.length (τ++g)).blk[r]? = some b→C.blk[r]? = some b∧r<τ.length:=by
  intro r b hr
  simp only [Ctx.frz] at hr
  rcases Qzn r τ.length with h | h
  ·rw [List.getElem?_take_of_lt h] at hr;exact ⟨hr,h⟩
  ·rw [List.getElem?_eq_none (by simp;omega)] at hr;cases hr
 have up:∀ (r:Nat) (o:AObj),r<τ.length→τ[r]? = some o→(τ++g)[r]? = some o:=fun r o h1 h2=>by rw [Qzl h1];exact h2
 refine ⟨by simp [Ctx.frz,hlen],hI.glob,hI.base,fun b hb=>.inl (hI.basep b hb),fun b hb=>?_,fun r b o hr ho hl=>?_,fun r1 r2 b o1 o2 h1 h2 ho1 ho2 hl1 hl2=>?_⟩
 ·rcases hb with hb | ⟨r,o,_,h1,h2,h3⟩
  ·exact hI.plt b hb
  ·obtain ⟨_,c,hc,_⟩:=hI.live r b o h1 h2 h3
   exact (Array.getElem?_eq_some_iff.1 hc).1
 ·obtain ⟨h1,h2⟩:=hb r b hr
  obtain ⟨hnp,c,hc,hR⟩:=hI.live r b o h1 (up r o h2 ho) hl
  refine ⟨?_,c,hc,?_⟩
  ·rintro (hp | ⟨r',o',g1,g2,g3,g4⟩)
   ·exact hnp hp
   ·have:=hI.inj r r' b o o' h1 g2 (up r o h2 ho) g3 hl g4
    omega
  ·rcases hold r o ho with ho | ⟨cs,rfl,hz⟩
   ·have h0:C₀.blk[r]? = some (C₀.blk[r]'(by omega)):=Qze (by omega)
    obtain ⟨_,c₀,_,hR₀⟩:=hI₀.live r _ o h0 ho hl
    exact hR₀.frz_old (by omega) hR
   ·cases hR with
    | cells _ vs e lo hi q1 q2 q3 =>
     refine .cells cs vs e lo hi q1 q2 fun i x v hx hv=>?_
     exact (q3 i x v hx hv).frz hI (hz x (Qzg hx))
 ·obtain ⟨h1,h1'⟩:=hb r1 b h1
  obtain ⟨h2,h2'⟩:=hb r2 b h2
  exact hI.inj r1 r2 b o1 o2 h1 h2 (up _ _ h1' ho1) (up _ _ h2' ho2) hl1 hl2
theorem ACalls.forgetT {f:FuncId} {args:List AV} {σ:Za} {R:AV→Za→Prop} (h:ACalls P f args σ fun v σ'=>∃ τ g v',σ'=τ++g∧τ.length=σ.length ∧
   (∀ (r:Nat) (o:AObj),τ[r]? = some o→σ[r]? = some o∨∃ cs,o=.cells cs∧∀ y∈cs,Fz τ.length (τ++g) y y)∧Fz τ.length σ' v v'∧R v' τ):ACalls P f args σ R:=by
 have ext:∀ {C C':Ctx} {τ g:Za},Inv C σ→Ext C C'→τ.length=σ.length→Ext C (C'.frz τ.length (τ++g)):=by
  intro C C' τ g hI hE hl
  obtain ⟨e,he⟩:=hE.blk
  have hl0:=hI.len
  exact ⟨hE.w0,⟨[],by simp only [Ctx.frz];rw [he,List.append_nil,hl,← hl0,List.take_left]⟩,fun b hb=>.inl (hE.pers b hb),hE.keep,hE.shape,hE.size,hE.drawn⟩
 rcases h with h | h
 ·refine .inl ⟨h.1,fun C cargs hI hv=>(h.2 C cargs hI hv).mono ?_⟩
  rintro e w' ⟨v,C',av,σ',rfl,rfl,hE,hI',hv',τ,g,v',rfl,hl,ho,hf,hR⟩
  exact ⟨v,C'.frz τ.length (τ++g),v',τ,rfl,rfl,ext hI hE hl,hI.frzT hE hI' hl ho,hv'.frz hI' hf,hR⟩
 ·refine .inr fun C cargs hI hv=>?_
  obtain ⟨v,C',av,σ',hr,hE,hI',hv',τ,g,v',rfl,hl,ho,hf,hR⟩:=h C cargs hI hv
  exact ⟨v,C'.frz τ.length (τ++g),v',τ,hr,ext hI hE hl,hI.frzT hE hI' hl ho,hv'.frz hI' hf,hR⟩
theorem APure.lend {f:FuncId} {args args':List AV} {v:AV} (h:APure P f args v) {σ:Za} (hl:args'.length=args.length)
  (hz:∀ (i:Nat) (x y:AV),args'[i]? = some x→args[i]? = some y→Fz 0 σ x y) (hp:∀ (C C':Ctx) (c:Value),VR C v c→VR C' v c):ACalls P f args' σ fun v' σ'=>v'=v∧σ'=σ:=by
 have lent:∀ {C:Ctx} {cargs:List Value},Inv C σ→VRs C args' cargs→VRs (C.frz 0 σ) args cargs:=by
  intro C cargs hI hv
  refine ⟨hl▸hv.len,fun i y c hy hc=>?_⟩
  have hi:=(Qzs.1 hy).1
  have hx:args'[i]? = some (args'[i]'(by omega)):=Qze (by omega)
  exact (hv.at_ i _ c hx hc).frz hI (hz i _ y hx hy)
 rcases h [] with h | h
 ·refine .inl ⟨h.1,fun C cargs hI hv=>(h.2 (C.frz 0 σ) cargs hI.base0 (lent hI hv)).mono ?_⟩
  rintro e w' ⟨c,C',av,s,rfl,rfl,hE,hI',hv',rfl,rfl⟩
  obtain ⟨h1,h2⟩:=hI.back0 hE hI'
  exact ⟨c,C.at_ C'.w,_,σ,rfl,rfl,h1,h2,hp _ _ _ hv',rfl,rfl⟩
 ·refine .inr fun C cargs hI hv=>?_
  obtain ⟨c,C',av,s,hr,hE,hI',hv',rfl,rfl⟩:=h (C.frz 0 σ) cargs hI.base0 (lent hI hv)
  obtain ⟨h1,h2⟩:=hI.back0 hE hI'
  exact ⟨c,C.at_ C'.w,_,σ,hr,h1,h2,hp _ _ _ hv',rfl,rfl⟩
theorem ACalls.pl0 {f:FuncId} {k:Nat} {σ:Za} {R:AV→Za→Prop} (hen:Enters P f) (h1:ACalls P f [.nils] σ R) (h2:ACalls P f [.nn] σ R):ACalls P f [.pl k []] σ R:=by
 have ent:∀ {a:AV},ACalls P f [a] σ R→∀ C:Ctx,Inv C σ→(∃ c,VR C a c)→AEnter P f [a] σ R:=by
  intro a h C hI ⟨c,hc⟩
  rcases h with h | h
  ·exact h
  ·obtain ⟨v,C',av,σ',hr,_⟩:=h C [c] hI ⟨rfl,fun i x c' hx hc'=>by
    match i,hx,hc' with
    | 0,hx,hc'=>simp at hx hc';subst hx;subst hc';exact hc
    | i+1,hx,_=>simp at hx⟩
   rw [hen] at hr
   cases hr
 refine .inl ⟨hen,fun C cargs hI hv=>?_⟩
 obtain ⟨x,r,rfl,hx,hr⟩:=hv.inv
 obtain rfl:=hr.of_nil
 obtain ⟨A,cap,rfl,_,_⟩:=hx.pl_inv
 have hcap:=hx.pl_cap
 have one:∀ (a:AV) (c:Value),VR C a c→VRs C [a] [c]:=fun a c h=>⟨rfl,fun i x c' hx hc'=>by
  match i,hx,hc' with
  | 0,hx,hc'=>simp at hx hc';subst hx;subst hc';exact h
  | i+1,hx,_=>simp at hx⟩
 cases A with
 | none =>
  obtain rfl:=hcap rfl
  exact (ent h1 C hI ⟨_,.nils⟩).2 C _ hI (one _ _ .nils)
 | some a=>exact (ent h2 C hI ⟨_,.nn a cap⟩).2 C _ hI (one _ _ (.nn a cap))
end Ab
namespace Ab
open Go Go.RowKit
variable [Mode]
variable {P:Program}
def cold (n:Nat) (σ:Za):Za:=σ.take n++List.replicate (σ.length - n) .dead
theorem Wcb {n:Nat} {σ:Za}:(cold n σ).length=σ.length:=by
 unfold cold;simp;omega
theorem Zhe {n r:Nat} {σ:Za} (h:r<n):(cold n σ)[r]? = σ[r]?:=by
 unfold cold
 rcases Qzn r σ.length with h1 | h1
 ·rw [Qzl (by simp;omega),List.getElem?_take_of_lt h]
 ·rw [List.getElem?_eq_none (by simp;omega),List.getElem?_eq_none h1]
theorem Xbk {n r:Nat} {σ:Za} {o:AObj} (h:(cold n σ)[r]? = some o) (hl:o.live=true):r<n∧σ[r]? = some o:=by
 rcases Qzn r n with h1 | h1
 ·exact ⟨h1,by rw [← Zhe h1];exact h⟩
 ·exfalso
  have h2:=(Qzs.1 h).1
  rw [Wcb] at h2
  unfold cold at h
  rw [Qzr (by simp;omega),List.getElem?_replicate] at h
  split at h
  ·cases h;cases hl
  ·cases h
def Ctx.ice (C:Ctx) (n:Nat) (σ:Za):Ctx :=
 { C with pers:=fun b=>C.pers b∨∃ (r:Nat) (o:AObj),n≤r∧C.blk[r]? = some b∧σ[r]? = some o∧o.live=true }
theorem Ext.ice {C:Ctx} (n:Nat) (σ:Za):Ext C (C.ice n σ):=⟨rfl,⟨[],by simp [Ctx.ice]⟩,fun _ h=>.inl h,fun _ _=>rfl,fun _ _ h=>h,Nat.le_refl _,fun _=>Nat.le_refl _⟩
theorem Ext.frz_ice {C:Ctx} (n:Nat) (σ:Za):Ext (C.frz n σ) (C.ice n σ) :=
 ⟨rfl,⟨C.blk.drop n,by simp [Ctx.ice,Ctx.frz]⟩,fun _ h=>h,fun _ _=>rfl,fun _ _ h=>h,Nat.le_refl _,fun _=>Nat.le_refl _⟩
theorem Inv.ice {C:Ctx} {σ:Za} (hI:Inv C σ) (n:Nat):Inv (C.ice n σ) (cold n σ):=by
 refine ⟨by rw [Wcb];exact hI.len,hI.glob,hI.base,fun b hb=>.inl (hI.basep b hb),fun b hb=>?_,fun r b o hr ho hl=>?_,fun r1 r2 b o1 o2 h1 h2 ho1 ho2 hl1 hl2=>?_⟩
 ·rcases hb with hb | ⟨r,o,_,h1,h2,h3⟩
  ·exact hI.plt b hb
  ·obtain ⟨_,c,hc,_⟩:=hI.live r b o h1 h2 h3
   exact (Array.getElem?_eq_some_iff.1 hc).1
 ·obtain ⟨h1,h2⟩:=Xbk ho hl
  obtain ⟨hnp,c,hc,hR⟩:=hI.live r b o hr h2 hl
  refine ⟨?_,c,hc,hR.ext (Ext.ice n σ)⟩
  rintro (hp | ⟨r',o',g1,g2,g3,g4⟩)
  ·exact hnp hp
  ·have:=hI.inj r r' b o o' hr g2 h2 g3 hl g4
   omega
 ·exact hI.inj r1 r2 b o1 o2 h1 h2 (Xbk ho1 hl1).2 (Xbk ho2 hl2).2 hl1 hl2
theorem ACalls.freeze {f:FuncId} {args args':List AV} {σ:Za} {R:AV→Za→Prop} (n:Nat) (h:ACalls P f args' (cold n σ) R) (hl:args'.length=args.length)
  (hz:∀ (i:Nat) (x y:AV),args[i]? = some x→args'[i]? = some y→Fz n σ x y):ACalls P f args σ R:=by
 have lent:∀ {C:Ctx} {cargs:List Value},Inv C σ→VRs C args cargs→VRs (C.ice n σ) args' cargs:=by
  intro C cargs hI hv
  refine ⟨hl▸hv.len,fun i y c hy hc=>?_⟩
  have hi:=(Qzs.1 hy).1
  have hx:args[i]? = some (args[i]'(by omega)):=Qze (by omega)
  exact ((hv.at_ i _ c hx hc).frz hI (hz i _ y hx hy)).ext (Ext.frz_ice n σ)
 rcases h with h | h
 ·refine .inl ⟨h.1,fun C cargs hI hv=>(h.2 (C.ice n σ) cargs (hI.ice n) (lent hI hv)).mono ?_⟩
  rintro e w' ⟨v,C',av,s,rfl,rfl,hE,hI',hv',hR⟩
  exact ⟨v,C',av,s,rfl,rfl,(Ext.ice n σ).trans hE,hI',hv',hR⟩
 ·refine .inr fun C cargs hI hv=>?_
  obtain ⟨v,C',av,s,hr,hE,hI',hv',hR⟩:=h (C.ice n σ) cargs (hI.ice n) (lent hI hv)
  exact ⟨v,C',av,s,hr,(Ext.ice n σ).trans hE,hI',hv',hR⟩
theorem Fz.tup2 {n:Nat} {σ:Za} {a b a' b':AV} (h1:Fz n σ a a') (h2:Fz n σ b b'):Fz n σ (.tup [a,b]) (.tup [a',b']) :=
 .tup _ _ rfl fun i x y hx hy=>by
  match i with
  | 0=>simp at hx hy;subst hx;subst hy;exact h1
  | 1=>simp at hx hy;subst hx;subst hy;exact h2
  | i+2=>simp at hx
theorem Fz.agg2 {n:Nat} {σ:Za} {a b a' b':AV} (h1:Fz n σ a a') (h2:Fz n σ b b'):Fz n σ (.agg [a,b]) (.agg [a',b']) :=
 .agg _ _ rfl fun i x y hx hy=>by
  match i with
  | 0=>simp at hx hy;subst hx;subst hy;exact h1
  | 1=>simp at hx hy;subst hx;subst hy;exact h2
  | i+2=>simp at hx
theorem Acc.shift {σ s g:Za} {k:Nat} {v:AV} {l:List AV} {o:Option Nat} (h:Acc (σ++s) g k v l o):Acc σ (s++g) k v l (o.map (s.length+·)):=⟨h.len,by
 have:=h.val
 cases o with
 | none=>exact this
 | some j =>
  obtain ⟨h1,h2⟩:=this
  refine ⟨by rw [h1,List.length_append,Nat.add_assoc],?_⟩
  show (s++g)[s.length+j]? = _
  rw [Qzr (by omega),show s.length+j - s.length=j by omega]
  exact h2⟩
end Ab
namespace Ab
open Go Go.RowKit
variable [Mode]
variable {P:Program}
theorem ACode.frz {rd:Option Nat} {c:Code} {Q:Exit→Env→Za→Prop} {u u':List AV} {m:List Nat} {σ:Za} (n:Nat) (h:ACode P rd c Q { t:=u',m:=m } (cold n σ)) (hl:u'.length=u.length)
  (hz:∀ (i:Nat) (x y:AV),u[i]? = some x→u'[i]? = some y→Fz n σ x y):ACode P rd c Q { t:=u,m:=m } σ:=by
 intro C a ro hI he hr
 have he':ER (C.ice n σ) { t:=u',m:=m } a:=⟨⟨hl▸he.t.len,fun i y c hy hc=>by
  have hi:i<u'.length:=(Qzs.1 hy).1
  have hx:u[i]? = some (u[i]'(by omega)):=Qze (by omega)
  exact ((he.t.at_ i _ c hx hc).frz hI (hz i _ y hx hy)).ext (Ext.frz_ice n σ)⟩,he.m,fun i r d h1 h2=>he.mark i r d h1 h2⟩
 exact wpIn_mono (h (C.ice n σ) a ro (hI.ice n) he' (hr.ext (Ext.ice n σ))) fun _ _ _ hp=>hp.ext (Ext.ice n σ)
def Xj (u:List AV) (l:List (Nat × AV)):List AV:=l.foldl (fun t p=>ts t p.1 p.2) (List.replicate u.length .any)
theorem Ual (u:List AV) (l:List (Nat × AV)):(Xj u l).length=u.length:=by
 unfold Xj
 suffices h:∀ (l:List (Nat × AV)) (t:List AV),(l.foldl (fun t p=>ts t p.1 p.2) t).length=t.length by rw [h,List.length_replicate]
 intro l
 induction l with
 | nil=>intro t;rfl
 | cons p l ih=>intro t;rw [List.foldl_cons,ih];simp [ts]
end Ab

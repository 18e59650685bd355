/-
  Texts packed for a claim.
-/
import Derived.Test.YtcoikmapjepdjaaGreatDoorO00
import Derived.Test.YtcoikmapjepdjaaGreatDoorO08
set_option linter.all false
namespace Ab
open Go Go.RowKit
variable [Mode]
variable {P:Program}
def Vaz (ops:List Oper) (H:List Nat) (W:List (Nat × Nat)):Bool :=
 let ms:=Ug ops
 (List.range ops.length).all fun i=>H.contains i||((ops[i]?).map isLit).getD false||(List.range (H.length+1)).all fun m =>
  (m == H.countP (fun h=>decide (h<i)))||W.contains (i,m) ||
   H.zipIdx.any fun (h,p)=>(bef ms i h&&!decide (p<m))||(bef ms h i&&!decide (m≤p))
theorem Zet {o:Oper} {v:AV} {s:Za} {env:Env} (h:((some o).map isLit).getD false=true):¬ Vh P o v s env s:=by
 have h:isLit o=true:=h
 intro hf
 unfold Vh aw1 at hf
 split at hf
 ·rename_i f args ts hop
  unfold isLit at h
  rw [hop] at h
  cases h
 ·split at hf
  ·rename_i v' s' hop
   exact Wih h hop hf.2
  ·exact hf
theorem Done.drawsL {ops:List Oper} {H:List Nat} {W:List (Nat × Nat)} {env0:Env} {σ:Za} {rs:List AV} {es:List Env} {ss:List Za} (hok:Xp ops H=true) (hlv:Vaz ops H W=true) (hs0:ss[0]? = some σ)
  (hd:Done P ops H env0 ops.length rs es ss) (hW:∀ x∈W,match ops[x.1]?,rs[x.1]?,es[x.1]?,ss[x.2]? with
   | some o,some v,some e,some s=>Yf ops e.t o.guard=some false∨Vh P o v s e s
   | _,_,_,_=>False):Draws P ops H env0 σ (rOf rs) (sOf ss):=by
 obtain ⟨_,_,hHlt,hHord⟩:=Zao hok
 refine ⟨by simp [sOf,hs0],fun i o ho hi=>?_,fun p i o hp ho=>?_⟩
 ·have hlt:=(Qzs.1 ho).1
  have hcc:H.contains i=false:=by simpa using hi
  have hc:=Uam hHord i
  rw [hcc] at hc
  simp only [Bool.false_eq_true,if_false,Nat.add_zero] at hc
  rcases hd.one i o hlt ho with ⟨h1,h2⟩ | ⟨h1,h2,_⟩
  ·rcases h2 with ⟨_,h2⟩ | h2
   ·exact .inl ⟨h1,.inl h2⟩
   refine .inl ⟨h1,.inr fun m hm hall=>?_⟩
   rw [hc] at h2
   by_cases e:m=H.countP (fun h=>decide (h<i))
   ·subst e;exact h2
   ·unfold Vaz at hlv
    simp only [List.all_eq_true,List.mem_range,Bool.or_eq_true] at hlv
    rcases hlv i hlt with (h | h) | h
    ·rw [hcc] at h;cases h
    ·rw [ho] at h
     exact absurd h2 (Zet h)
    ·rcases h m (by omega) with (h | h) | h
     ·simp at h;exact absurd h e
     ·have:=hW (i,m) (by simpa using h)
      simp only at this
      rw [ho] at this
      have hr:=Qze (show i<rs.length by rw [hd.rl];exact hlt)
      have he:=Qze (show i<es.length by rw [hd.el];exact hlt)
      have hsl:=hd.sl
      have hcn:H.countP (fun h=>decide (h<ops.length))=H.length:=by
       rw [List.countP_eq_length]
       intro a ha
       obtain ⟨q,hq⟩:=List.mem_iff_getElem?.1 ha
       simpa using hHlt q a hq
      have hs:=Qze (show m<ss.length by omega)
      rw [hr,he,hs] at this
      simp only at this
      have e1:=hd.env i _ he
      rcases this with this | this
      ·rw [e1,h1] at this;cases this
      ·rw [e1] at this
       have e2:rs[i]'(by rw [hd.rl];exact hlt)=rOf rs i:=by simp [rOf,hr]
       have e3:ss[m]'(by omega)=sOf ss m:=by simp [sOf,hs]
       rw [e2,e3] at this
       exact this
     ·rw [List.any_eq_true] at h
      obtain ⟨⟨h',p⟩,hmem,hx⟩:=h
      have hp:=List.mem_zipIdx_iff_getElem?.1 hmem
      simp only at hp hx
      have hpp:H[p]? = some h':=by simpa using hp
      obtain ⟨a1,a2⟩:=hall p h' hpp
      simp only [Bool.or_eq_true,Bool.and_eq_true,Bool.not_eq_true',decide_eq_false_iff_not] at hx
      rcases hx with ⟨b1,b2⟩ | ⟨b1,b2⟩
      ·exact absurd (a1 b1) b2
      ·exact absurd (a2 b1) b2
  ·exact .inr ⟨h1,h2⟩
 ·have hlt:=(Qzs.1 ho).1
  have hcp:H.countP (fun h=>decide (h<i))=p:=by
   have hpl:=(Qzs.1 hp).1
   have e1:(H.take p).countP (fun h=>decide (h<i))=p:=by
    rw [List.countP_eq_length.2]
    ·simp;omega
    ·intro a ha
     obtain ⟨q,hq⟩:=List.mem_iff_getElem?.1 ha
     have hql:=(Qzs.1 hq).1
     simp at hql
     rw [List.getElem?_take_of_lt (by omega)] at hq
     simpa using hHord q p a i hq hp (by omega)
   have e2:(H.drop p).countP (fun h=>decide (h<i))=0:=by
    rw [List.countP_eq_zero]
    intro a ha
    obtain ⟨q,hq⟩:=List.mem_iff_getElem?.1 ha
    rw [List.getElem?_drop] at hq
    rcases Nat.eq_zero_or_pos q with h0 | h0
    ·subst h0;simp at hq;rw [hp] at hq;simp at hq;subst hq;simp
    ·have:=hHord p (p+q) i a hp hq (by omega)
     simp;omega
   rw [← List.take_append_drop p H,List.countP_append,e1,e2,Nat.add_zero]
  have hc:=Uam hHord i
  have hci:H.contains i=true:=by simpa using mem_of_getElem? hp
  rw [hci] at hc
  simp only [if_true] at hc
  rw [hcp] at hc
  rcases hd.one i o hlt ho with ⟨h1,h2⟩ | ⟨h1,h2,h3⟩
  ·rcases h2 with ⟨h2,_⟩ | h2
   ·rw [hci] at h2;cases h2
   rw [hc,hcp] at h2;exact .inl ⟨h1,h2⟩
  ·rw [hc,hcp] at h3;exact .inr ⟨h1,h2,h3⟩
theorem Vf1 {ops:List Oper} {H:List Nat} {W:List (Nat × Nat)} {K:Env→Za→Prop} {env0:Env} {σ:Za} (hok:Xp ops H=true) (hlv:Vaz ops H W=true):∀ (rest dn:List Oper) (i:Nat) (s:Za) (rs:List AV) (es:List Env) (ss:List Za),ops=dn++rest→dn.length=i →
  Done P ops H env0 i rs es ss→ss[0]? = some σ→sOf ss (H.countP (fun h=>decide (h<i)))=s→adr P ops H W K rest i (Va ops (rOf rs) env0 tr i) s rs es ss →
  ∃ (r:Nat→AV) (S:Nat→Za),Draws P ops H env0 σ r S∧K (Va ops r env0 tr ops.length) (S H.length):=by
 obtain ⟨_,_,hHlt,hHord⟩:=Zao hok
 intro rest
 induction rest with
 | nil =>
  intro dn i s rs es ss h1 h2 hd hs0 hs h
  simp at h1
  subst h1
  subst h2
  obtain ⟨hW,hK⟩:=h
  have hcn:H.countP (fun h=>decide (h<ops.length))=H.length:=by
   rw [List.countP_eq_length]
   intro a ha
   obtain ⟨q,hq⟩:=List.mem_iff_getElem?.1 ha
   simpa using hHlt q a hq
  refine ⟨rOf rs,sOf ss,hd.drawsL hok hlv hs0 hW,?_⟩
  rw [hcn] at hs
  rw [hs]
  exact hK
 | cons o rest ih =>
  intro dn i s rs es ss h1 h2 hd hs0 hs h
  have ho:ops[i]? = some o:=by rw [h1,← h2];simp
  have hc:=Uam hHord i
  have hrl:=hd.rl
  have hsl:=hd.sl
  have next:∀ (v:AV) (ss':List Za) (s':Za),(if H.contains i then ss'=ss++[s'] else ss'=ss∧s'=s) →
    ((Yf ops (Va ops (rOf rs) env0 tr i).t o.guard=some true∧((H.contains i=false∧Lit P o v (Va ops (rOf rs) env0 tr i))∨Vh P o v s' (Va ops (rOf rs) env0 tr i) s)) ∨
      (Yf ops (Va ops (rOf rs) env0 tr i).t o.guard=some false∧v=.tup []∧s'=s)) →
    adr P ops H W K rest (i+1) ((Va ops (rOf rs) env0 tr i).put o.dst v) s' (rs++[v]) (es++[Va ops (rOf rs) env0 tr i]) ss' →
    ∃ (r:Nat→AV) (S:Nat→Za),Draws P ops H env0 σ r S∧K (Va ops r env0 tr ops.length) (S H.length):=by
   intro v ss' s' hss hw hrest
   have hs1:sOf ss' (H.countP (fun h=>decide (h<i)))=s:=by
    rw [← hs]
    split at hss
    ·rw [hss]
     simp only [sOf,List.getD_eq_getElem?_getD]
     rw [Qzl (by omega)]
    ·rw [hss.1]
   have hs2:sOf ss' (H.countP (fun h=>decide (h<i+1)))=s':=by
    rw [hc]
    split at hss
    ·rename_i hcc
     rw [hss,if_pos hcc]
     simp only [sOf,List.getD_eq_getElem?_getD]
     rw [Qzr (by omega),hsl]
     simp
    ·rename_i hcc
     rw [if_neg hcc,Nat.add_zero,hss.1,hs,hss.2]
   have hd':=hd.step (v:=v) (ss':=ss') hHord ho (by
    split
    ·rename_i hcc;rw [if_pos hcc] at hss;exact ⟨s',hss⟩
    ·rename_i hcc;rw [if_neg hcc] at hss;exact hss.1) (by rw [hs1,hs2];exact hw)
   have henv:Va ops (rOf (rs++[v])) env0 tr (i+1)=(Va ops (rOf rs) env0 tr i).put o.dst v:=by
    simp only [Va,ho,tr,if_true]
    rw [Yay i (by omega),Option.bind_some]
    congr 1
    simp only [rOf,List.getD_eq_getElem?_getD]
    rw [Qzr (by omega),hrl]
    simp
   refine ih (dn++[o]) (i+1) s' _ _ ss' (by simp [h1]) (by simp [h2]) hd' ?_ hs2 ?_
   ·split at hss
    ·rw [hss,Qzl (by omega)];exact hs0
    ·rw [hss.1];exact hs0
   ·rw [henv];exact hrest
  unfold adr at h
  split at h
  ·rename_i hw
   rcases h with ⟨v,hlit,hf,hr⟩ | h
   ·have hcc:H.contains i=false:=by
     rw [Bool.and_eq_true,Bool.not_eq_true'] at hlit
     exact hlit.2
    exact next v _ s (by rw [hcc];exact ⟨rfl,rfl⟩) (.inl ⟨hw,.inl ⟨hcc,hf⟩⟩) hr
   split at h
   ·split at h
    ·rename_i hcc
     obtain ⟨v,s',hf,hr⟩:=h
     exact next v _ s' (by rw [if_pos hcc]) (.inl ⟨hw,.inr hf⟩) hr
    ·rename_i hcc
     obtain ⟨v,hf,hr⟩:=h
     exact next v _ s (by rw [if_neg hcc];exact ⟨rfl,rfl⟩) (.inl ⟨hw,.inr hf⟩) hr
   ·rename_i hcall
    split at h
    ·rename_i v s' hop
     have hf:=Wa5 (by simpa using hcall) hop
     split at h
     ·rename_i hcc
      exact next v _ s' (by rw [if_pos hcc]) (.inl ⟨hw,.inr hf⟩) h
     ·rename_i hcc
      obtain ⟨rfl,hr⟩:=h
      exact next v _ s' (by rw [if_neg hcc];exact ⟨rfl,rfl⟩) (.inl ⟨hw,.inr hf⟩) hr
    ·cases h
  ·rename_i hw
   split at h
   ·rename_i hcc
    exact next (.tup []) _ s (by rw [if_pos hcc]) (.inr ⟨hw,rfl,rfl⟩) h
   ·rename_i hcc
    exact next (.tup []) _ s (by rw [if_neg hcc];exact ⟨rfl,rfl⟩) (.inr ⟨hw,rfl,rfl⟩) h
  ·cases h
theorem Udf {rd:Option Nat} {id:Nat} {opsA:Array Oper} {Q:Exit→Env→Za→Prop} {env:Env} {σ:Za} (H:List Nat) (W:List (Nat × Nat)) (hm:P.follows .mixedOrders=true) (hok:(Xp opsA.toList H&&Vaz opsA.toList H W)=true)
  (h:adr P opsA.toList H W (Q .normal) opsA.toList 0 env σ [] [] [σ]):ACode P rd (.region id opsA true) Q env σ:=by
 rw [Bool.and_eq_true] at hok
 obtain ⟨r,S,hd,hK⟩:=Vf1 (P:=P) (env0:=env) (σ:=σ) hok.1 hok.2 opsA.toList [] 0 σ [] [] [σ] rfl rfl ⟨rfl,rfl,by simp,fun j e h=>by simp at h,fun j o h=>by omega⟩ rfl (by simp [sOf]) h
 exact Wcx hm H r S hok.1 hd (by simpa using hK)
theorem Ut {rd:Option Nat} {id:Nat} {opsA:Array Oper} {Q:Exit→Env→Za→Prop} {env:Env} {σ:Za} (H:List Nat) (W:List (Nat × Nat)) (hm:P.follows .mixedOrders=true)
  (hok:(Xp opsA.toList H&&Vaz opsA.toList H W)=true) (hW:(W.all fun x=>decide (x.1<opsA.toList.length))=true)
  (h:awv P opsA.toList H W (Q .normal) opsA.toList 0 env σ [σ] []):@StC _ P rd ⟨.region id opsA true⟩ ⟨Q⟩ env σ :=
 Udf H W hm hok (Wcl (fun x hx=>by simpa using List.all_eq_true.1 hW x hx) opsA.toList [] _ _ _ _ _ _ rfl rfl rfl (fun x _ hlt=>by simp at hlt) h)
end Ab
namespace Ab
open Go Go.RowKit
variable [Mode]
variable {P:Program}
structure DrawsT (P:Program) (ops:List Oper) (H:List Nat) (V:List Nat→Prop) (env:Env) (σ:Za) (r:List Nat→Nat→AV) (S:List Nat→Za):Prop where
 v0:V []
 s0:S []=σ
 light:∀ (i:Nat) (o:Oper) (s:List Nat),ops[i]? = some o→i∉H→V s→(∀ h∈H,bef (Ug ops) i h=true→h∈s)→(∀ h∈H,bef (Ug ops) h i=true→h∉s) →
  (Yf ops (Va ops (r s) env tr i).t o.guard=some true∧(Lit P o (r s i) (Va ops (r s) env tr i)∨aw1 P o (fun v τ=>v=r s i∧τ=S s) (Va ops (r s) env tr i) (S s))) ∨
  (Yf ops (Va ops (r s) env tr i).t o.guard=some false∧r s i=.tup [])
 heavy:∀ (i:Nat) (o:Oper) (s:List Nat),ops[i]? = some o→i∈H→V s→i∉s→(∀ h∈H,bef (Ug ops) i h=true→h∈s)→V (s++[i]) ∧
  ((Yf ops (Va ops (r s) env tr i).t o.guard=some true∧aw1 P o (fun v τ=>v=r (s++[i]) i∧τ=S (s++[i])) (Va ops (r s) env tr i) (S s)) ∨
  (Yf ops (Va ops (r s) env tr i).t o.guard=some false∧r (s++[i]) i=.tup []∧S (s++[i])=S s))
 keep:∀ (s:List Nat) (i j:Nat),V s→V (s++[i])→i∈H→i∉s→(∀ h∈H,bef (Ug ops) i h=true→h∈s)→j≠i→(∀ h∈H,bef (Ug ops) j h=true→h∈s)→(j∈H→j∈s)→r (s++[i]) j=r s j
theorem Wc1 {rd:Option Nat} {id:Nat} {opsA:Array Oper} {Q:Exit→Env→Za→Prop} {env:Env} {σ:Za} (hm:P.follows .mixedOrders=true) (H:List Nat) (V:List Nat→Prop) (r:List Nat→Nat→AV) (S:List Nat→Za)
  (hok:Xp opsA.toList []=true) (hHlt:∀ h∈H,h<opsA.size) (hd:DrawsT P opsA.toList H V env σ r S) (hQ:∀ s,V s→(∀ h∈H,h∈s)→Q .normal (Va opsA.toList (r s) env tr opsA.size) (S s)):ACode P rd (.region id opsA true) Q env σ:=by
 intro C a ro hI he _
 obtain ⟨hedge,hpair,_,_⟩:=Zao hok
 refine wpIn_region_any hm ?_
 have key:∀ (fuel:Nat) (listed:Array Bool) (C':Ctx) (a:Act) (s:List Nat),listed.size=opsA.size→Closed opsA.toList (fun i=>listed.getD i false) →
   ((List.range opsA.size).countP fun i=>!listed.getD i false)≤fuel→V s→(∀ h,h∈H→(listed.getD h false=true↔h∈s)) →
   Ext C C'→Inv C' (S s)→ER C' (Va opsA.toList (r s) env (fun i=>listed.getD i false) opsA.size) a →
   wpAnyIn (WF ro) 0 P .any opsA (Post C Q) fuel listed a C'.w:=by
  intro fuel
  have done:∀ (listed:Array Bool) (C':Ctx) (a:Act) (s:List Nat),listed.size=opsA.size→V s→(∀ h,h∈H→(listed.getD h false=true↔h∈s)) →
    Ext C C'→Inv C' (S s)→ER C' (Va opsA.toList (r s) env (fun i=>listed.getD i false) opsA.size) a→Region.ready .any opsA listed=[]→Post C Q .normal a C'.w:=by
   intro listed C' a s hsz hV hmm hE hI' he' hr
   have hall:∀ i,i<opsA.size→listed.getD i false=true:=by
    intro i
    induction i using Nat.strongRecOn with
    | _ i ih =>
     intro hi
     cases hl:listed.getD i false with
     | true=>rfl
     | false =>
      have:i∈Region.ready .any opsA listed:=by
       rw [mem_ready]
       refine ⟨?_,opsA[i],Array.getElem?_eq_getElem hi,fun e he hb=>?_⟩
       ·have hi':i<listed.size:=by omega
        simp only [Array.getD_eq_getD_getElem?,Array.getElem?_eq_getElem hi',Option.getD_some] at hl ⊢
        exact hl
       ·have hlt:=hedge i opsA[i] (by simp [hi]) e he hb
        exact ih e.on hlt (by omega)
      rw [hr] at this
      cases this
   have hmH:∀ h∈H,h∈s:=fun h hh=>(hmm h hh).1 (hall h (hHlt h hh))
   have henv:∀ k,k≤opsA.size→Va opsA.toList (r s) env (fun i=>listed.getD i false) k=Va opsA.toList (r s) env tr k:=by
    intro k
    induction k with
    | zero=>intro _;rfl
    | succ k ih=>intro hk;simp only [Va,ih (by omega),hall k (by omega),tr]
   rw [henv _ (Nat.le_refl _)] at he'
   exact ⟨C',_,_,rfl,hE,hI',he',hQ s hV hmH⟩
  induction fuel with
  | zero =>
   intro listed C' a s hsz hcl hcnt hV hmm hE hI' he'
   have hr:Region.ready .any opsA listed=[]:=by
    rw [List.eq_nil_iff_forall_not_mem]
    intro i hi
    rw [mem_ready] at hi
    obtain ⟨h1,o,ho,_⟩:=hi
    have hlt:=(Array.getElem?_eq_some_iff.1 ho).1
    have h2:0<(List.range opsA.size).countP fun i=>!listed.getD i false:=by
     rw [List.countP_pos_iff]
     refine ⟨i,by simpa using hlt,?_⟩
     have hi':i<listed.size:=by omega
     simp only [Array.getD_eq_getD_getElem?,Array.getElem?_eq_getElem hi',Option.getD_some] at h1 ⊢
     simp [h1]
    omega
   exact ⟨hr,done listed C' a s hsz hV hmm hE hI' he' hr⟩
  | succ fuel ih =>
   intro listed C' a s hsz hcl hcnt hV hmm hE hI' he'
   refine ⟨fun hr=>done listed C' a s hsz hV hmm hE hI' he' hr,fun i hi=>?_⟩
   rw [mem_ready] at hi
   obtain ⟨hul,o,ho,hpre⟩:=hi
   have hlt:=(Array.getElem?_eq_some_iff.1 ho).1
   have hol:opsA.toList[i]? = some o:=by simpa using ho
   have hun:listed.getD i false=false:=by
    have hi':i<listed.size:=by omega
    simp only [Array.getD_eq_getD_getElem?,Array.getElem?_eq_getElem hi',Option.getD_some] at hul ⊢
    exact hul
   have hset:∀ j,(listed.setIfInBounds i true).getD j false=(if j=i then true else listed.getD j false):=by
    intro j
    simp only [Array.getD_eq_getD_getElem?,Array.getElem?_setIfInBounds]
    by_cases e:i=j
    ·subst e;simp [show i<listed.size by omega]
    ·rw [if_neg e,if_neg (fun x=>e x.symm)]
   have hcl':Closed opsA.toList (fun j=>(listed.setIfInBounds i true).getD j false):=by
    intro j o' ho' hj e he hb
    simp only [hset] at hj ⊢
    split at hj
    ·rename_i e1
     subst e1
     rw [hol] at ho'
     obtain rfl:o=o':=by simpa using ho'
     have:=hpre e he hb
     split
     ·rfl
     ·exact this
    ·have:=hcl j o' ho' hj e he hb
     split
     ·rfl
     ·exact this
   have hcnt':((List.range opsA.size).countP fun j=>!(listed.setIfInBounds i true).getD j false)≤fuel:=by
    have h1:((List.range opsA.size).countP fun j=>!(listed.setIfInBounds i true).getD j false)+1≤(List.range opsA.size).countP fun j=>!listed.getD j false:=by
     have hmem:i∈List.range opsA.size:=by simpa using hlt
     obtain ⟨l1,l2,hl⟩:=List.append_of_mem hmem
     rw [hl]
     simp only [List.countP_append,List.countP_cons,hset,if_true,hun]
     have hle:∀ l:List Nat,(l.countP fun j=>!if j=i then true else listed.getD j false)≤l.countP fun j=>!listed.getD j false:=by
      intro l
      apply List.countP_mono_left
      intro j _ hj
      simp at hj ⊢
      exact hj.2
     have a1:=hle l1
     have a2:=hle l2
     simp at a1 a2 ⊢
     omega
    omega
   have hval:∀ t∈Xn opsA.toList o,(Va opsA.toList (r s) env (fun i=>listed.getD i false) opsA.size).t.getD t .any=(Va opsA.toList (r s) env tr i).t.getD t .any:=by
    intro t ht
    have:=Vbi (ops:=opsA.toList) (r:=r s) (env:=env) (L:=fun i=>listed.getD i false) (i:=i) (t:=t) opsA.size (fun j hj hdj=>by
     obtain ⟨oj,hoj,hdj⟩:=Option.bind_eq_some_iff.1 hdj
     rcases Nat.lt_trichotomy j i with h | h | h
     ·refine ⟨fun _=>h,fun _=>?_⟩
      rcases hpair j i oj o hoj hol h with hb | ⟨h1,_,_⟩
      ·
       obtain ⟨e,he,hbi,hje⟩:=Xao hol hb
       have hl:=hpre e he hbi
       rcases hje with rfl | ⟨h2,h3⟩
       ·exact hl
       ·have hlt2:e.on<opsA.toList.length:=by simp;omega
        exact Closed.bef (L:=fun i=>listed.getD i false) hcl e.on j _ (Qze hlt2) hl h3
      ·exact absurd ht (h1 t hdj)
     ·subst h
      exact ⟨(fun hx=>by rw [hun] at hx;cases hx),fun hx=>absurd hx (Nat.lt_irrefl _)⟩
     ·refine ⟨fun hx=>?_,fun hx=>by omega⟩
      rcases hpair i j o oj hol hoj h with hb | ⟨_,h2,_⟩
      ·have:=Closed.bef (L:=fun i=>listed.getD i false) hcl j i oj hoj hx hb
       rw [hun] at this;cases this
      ·exact absurd ht (h2 t hdj))
    rw [this,show min opsA.size i=i by omega]
    rfl
   have hav:∀ x∈o.op.operands,Wa (Va opsA.toList (r s) env tr i).t x=Wa (Va opsA.toList (r s) env (fun i=>listed.getD i false) opsA.size).t x:=by
    intro x hx
    cases x with
    | tmp t =>
     simp only [Wa]
     refine (hval t ?_).symm
     simp only [Xn,List.mem_append]
     exact .inl (.inr (List.mem_filterMap.2 ⟨.tmp t,by simpa using hx,rfl⟩))
    | _=>rfl
   have haw:Yf opsA.toList (Va opsA.toList (r s) env tr i).t o.guard=Yf opsA.toList (Va opsA.toList (r s) env (fun i=>listed.getD i false) opsA.size).t o.guard:=by
    refine Zbt fun j w d hg hd=>(hval d ?_).symm
    simp only [Xn,List.mem_append,hg]
    exact .inr (by rw [hd];simp)
   have hnextG:∀ q:Nat→AV,Va opsA.toList q env (fun j=>(listed.setIfInBounds i true).getD j false) opsA.size=(Va opsA.toList q env (fun i=>listed.getD i false) opsA.size).put o.dst (q i):=by
    intro q
    have e1:(fun j=>(listed.setIfInBounds i true).getD j false)=fun j=>if j=i then true else listed.getD j false:=funext hset
    rw [e1,Vbw (L:=fun i=>listed.getD i false) hun opsA.size hlt (fun j h1 h2 hl t ht hj=>by
     obtain ⟨oj,hoj,hdj⟩:=Option.bind_eq_some_iff.1 hj
     rcases hpair i j o oj hol hoj h1 with hb | ⟨h3,_,_⟩
     ·have:=Closed.bef (L:=fun i=>listed.getD i false) hcl j i oj hoj hl hb
      rw [hun] at this;cases this
     ·have:o.dst=some t:=by rw [hol] at ht;simpa using ht
      refine h3 t this ?_
      simp only [Xn,List.mem_append,hdj]
      exact .inl (.inl (by simp)))]
    rw [hol]
    rfl
   have hnext:=hnextG (r s)
   have hbefi:∀ h,bef (Ug opsA.toList) i h=true→listed.getD h false=true:=by
    intro h hb
    obtain ⟨e,he,hbi,hje⟩:=Xao hol hb
    have hl:=hpre e he hbi
    rcases hje with rfl | ⟨h2,h3⟩
    ·exact hl
    ·have hlt2:e.on<opsA.toList.length:=by simp;omega
     exact Closed.bef (L:=fun i=>listed.getD i false) hcl e.on h _ (Qze hlt2) hl h3
   have hbs:∀ h∈H,bef (Ug opsA.toList) i h=true→h∈s:=fun h hh hb=>(hmm h hh).1 (hbefi h hb)
   unfold wpOpIn
   rw [ho]
   simp only
   by_cases hH:i∈H
   ·
    have his:i∉s:=fun hx=>by rw [(hmm i hH).2 hx] at hun;cases hun
    obtain ⟨hV',hcase⟩:=hd.heavy i o s hol hH hV his hbs
    have hmm':∀ h,h∈H→((listed.setIfInBounds i true).getD h false=true↔h∈s++[i]):=by
     intro h hh
     rw [hset,List.mem_append,List.mem_singleton]
     by_cases e:h=i
     ·simp [e]
     ·rw [if_neg e,hmm h hh];simp [e]
    have hkeep:∀ k,Va opsA.toList (r s) env (fun j=>listed.getD j false) k=Va opsA.toList (r (s++[i])) env (fun j=>listed.getD j false) k:=by
     intro k
     induction k with
     | zero=>rfl
     | succ k ih =>
      simp only [Va,ih]
      by_cases hl:listed.getD k false=true
      case neg=>simp only [if_neg hl]
      ·simp only [if_pos hl]
       have hk:k<opsA.toList.length:=by
        rcases Qzn k opsA.toList.length with h | h
        ·exact h
        ·rw [Array.getD_eq_getD_getElem?,Array.getElem?_eq_none (by simp at h;omega)] at hl;cases hl
       have hne:k≠i:=fun e=>by rw [e,hun] at hl;cases hl
       rw [hd.keep s i k hV hV' hH his hbs hne (fun h hh hb=>(hmm h hh).1 (Closed.bef (L:=fun i=>listed.getD i false) hcl k h _ (Qze hk) hl hb)) (fun hh=>(hmm k hh).1 hl)]
    have hnext':Va opsA.toList (r (s++[i])) env (fun j=>(listed.setIfInBounds i true).getD j false) opsA.size=(Va opsA.toList (r s) env (fun i=>listed.getD i false) opsA.size).put o.dst (r (s++[i]) i):=by
     rw [hnextG (r (s++[i])),← hkeep]
    rcases hcase with ⟨hw,hr⟩ | ⟨hw,hr,hS⟩
    ·rw [haw] at hw
     rw [Vad he' hw,if_pos rfl]
     refine Zad hI' he' (Uay hav hr) ro _ _ fun C2 c v s2 hE2 hI2 hv ⟨h1,h2⟩=>?_
     subst h1;subst h2
     refine ih _ C2 _ (s++[i]) (by simpa using hsz) hcl' hcnt' hV' hmm' (hE.trans hE2) hI2 ?_
     rw [hnext']
     exact (he'.ext hE2).put hv o.dst
    ·rw [haw] at hw
     rw [Vad he' hw,if_neg (by simp)]
     refine ⟨fun _ _=>trivial,ih _ C' _ (s++[i]) (by simpa using hsz) hcl' hcnt' hV' hmm' hE (by rw [hS];exact hI') ?_⟩
     rw [hnext',hr]
     exact he'.put (.tup [] [] rfl (fun i x c h=>by simp at h)) o.dst
   ·
    have hmm':∀ h,h∈H→((listed.setIfInBounds i true).getD h false=true↔h∈s):=by
     intro h hh
     rw [hset,if_neg (fun e:h=i=>hH (by rw [← e];exact hh))]
     exact hmm h hh
    have haft:∀ h∈H,bef (Ug opsA.toList) h i=true→h∉s:=fun h hh hb hs=>by
     have hl:=(hmm h hh).2 hs
     have hlt2:h<opsA.toList.length:=by simpa using hHlt h hh
     have:=Closed.bef (L:=fun i=>listed.getD i false) hcl h i _ (Qze hlt2) hl hb
     rw [hun] at this;cases this
    rcases hd.light i o s hol hH hV hbs haft with ⟨hw,hr⟩ | ⟨hw,hr⟩
    ·rw [haw] at hw
     rw [Vad he' hw,if_pos rfl]
     rcases hr with hr | hr
     ·refine hr _ _ _ _ hav hI' he' ro _ _ fun C2 c hE2 hI2 hv=>?_
      refine ih _ C2 _ s (by simpa using hsz) hcl' hcnt' hV hmm' (hE.trans hE2) hI2 ?_
      rw [hnext]
      exact (he'.ext hE2).put hv o.dst
     ·refine Zad hI' he' (Uay hav hr) ro _ _ fun C2 c v s2 hE2 hI2 hv ⟨h1,h2⟩=>?_
      subst h1;subst h2
      refine ih _ C2 _ s (by simpa using hsz) hcl' hcnt' hV hmm' (hE.trans hE2) hI2 ?_
      rw [hnext]
      exact (he'.ext hE2).put hv o.dst
    ·rw [haw] at hw
     rw [Vad he' hw,if_neg (by simp)]
     refine ⟨fun _ _=>trivial,ih _ C' _ s (by simpa using hsz) hcl' hcnt' hV hmm' hE hI' ?_⟩
     rw [hnext,hr]
     exact he'.put (.tup [] [] rfl (fun i x c h=>by simp at h)) o.dst
 have h0:∀ i,(Array.replicate opsA.size false).getD i false=false:=by
  intro i
  simp only [Array.getD_eq_getD_getElem?,Array.getElem?_replicate]
  split<;>rfl
 have hdr:Ext C (C.at_ C.w.drew):=Ext.drew
 refine key opsA.size (Array.replicate opsA.size false) (C.at_ C.w.drew) a [] (by simp) (fun i o _ hx=>by simp only [h0] at hx;cases hx) ?_ hd.v0 (fun h _=>by rw [h0];simp) hdr ?_ ?_
 ·have:=List.countP_le_length (p:=fun i=>!(Array.replicate opsA.size false).getD i false) (l:=List.range opsA.size)
  simpa using this
 ·rw [hd.s0];exact hI.drew
 ·have henv:∀ k,Va opsA.toList (r []) env (fun i=>(Array.replicate opsA.size false).getD i false) k=env:=by
   intro k
   induction k with
   | zero=>rfl
   | succ k ih=>simp only [Va,h0,Bool.false_eq_true,if_false];simpa only [h0] using ih
  rw [henv]
  exact he.ext hdr
end Ab

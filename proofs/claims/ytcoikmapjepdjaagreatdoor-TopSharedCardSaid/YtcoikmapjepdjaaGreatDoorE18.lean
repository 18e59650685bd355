/-
  Texts packed for a claim.
-/
import Derived.Test.YtcoikmapjepdjaaGreatDoorE00
import Derived.Test.YtcoikmapjepdjaaGreatDoorE11
import Derived.Test.YtcoikmapjepdjaaGreatDoorE17
import Derived.Test.YtcoikmapjepdjaaGreatDoorE12
set_option linter.all false
namespace Ab
open Go Go.RowKit
variable [Mode]
variable {P:Program}
structure DrawsT (P:Program) (ops:List Oper) (H:List Nat) (V:List Nat→Prop) (env:Env) (σ:Za) (r:List Nat→Nat→AV) (S:List Nat→Za):Prop where
 v0:V []
 s0:S []=σ
 light:∀ (i:Nat) (o:Oper) (s:List Nat),ops[i]? = some o→i∉H→V s→(∀ h∈H,bef (Vh ops) i h=true→h∈s)→(∀ h∈H,bef (Vh ops) h i=true→h∉s) →
  (We ops (Va ops (r s) env tr i).t o.guard=some true∧(Lit P o (r s i) (Va ops (r s) env tr i)∨aw1 P o (fun v τ=>v=r s i∧τ=S s) (Va ops (r s) env tr i) (S s))) ∨
  (We ops (Va ops (r s) env tr i).t o.guard=some false∧r s i=.tup [])
 heavy:∀ (i:Nat) (o:Oper) (s:List Nat),ops[i]? = some o→i∈H→V s→i∉s→(∀ h∈H,bef (Vh ops) i h=true→h∈s)→V (s++[i]) ∧
  ((We ops (Va ops (r s) env tr i).t o.guard=some true∧aw1 P o (fun v τ=>v=r (s++[i]) i∧τ=S (s++[i])) (Va ops (r s) env tr i) (S s)) ∨
  (We ops (Va ops (r s) env tr i).t o.guard=some false∧r (s++[i]) i=.tup []∧S (s++[i])=S s))
 keep:∀ (s:List Nat) (i j:Nat),V s→V (s++[i])→i∈H→i∉s→(∀ h∈H,bef (Vh ops) i h=true→h∈s)→j≠i→(∀ h∈H,bef (Vh ops) j h=true→h∈s)→(j∈H→j∈s)→r (s++[i]) j=r s j
theorem Vbo {rd:Option Nat} {id:Nat} {opsA:Array Oper} {Q:Exit→Env→Za→Prop} {env:Env} {σ:Za} (hm:P.follows .mixedOrders=true) (H:List Nat) (V:List Nat→Prop) (r:List Nat→Nat→AV) (S:List Nat→Za)
  (hok:Xo opsA.toList []=true) (hHlt:∀ h∈H,h<opsA.size) (hd:DrawsT P opsA.toList H V env σ r S) (hQ:∀ s,V s→(∀ h∈H,h∈s)→Q .normal (Va opsA.toList (r s) env tr opsA.size) (S s)):ACode P rd (.region id opsA true) Q env σ:=by
 intro C a ro hI he _
 obtain ⟨hedge,hpair,_,_⟩:=Vak hok
 refine wpIn_region_any hm ?_
 have key:∀ (fuel:Nat) (listed:Array Bool) (C':Ctx) (a:Act) (s:List Nat),listed.size=opsA.size→Closed opsA.toList (fun i=>listed.getD i false) →
   ((List.range opsA.size).countP fun i=>!listed.getD i false)≤fuel→V s→(∀ h,h∈H→(listed.getD h false=true↔h∈s)) →
   Ext C C'→Inv C' (S s)→ER C' (Va opsA.toList (r s) env (fun i=>listed.getD i false) opsA.size) a →
   wpAnyIn (WF ro) 0 P .any opsA (Post C Q) fuel listed a C'.w:=by
  intro fuel
  have done:∀ (listed:Array Bool) (C':Ctx) (a:Act) (s:List Nat),listed.size=opsA.size→V s→(∀ h,h∈H→(listed.getD h false=true↔h∈s)) →
    Ext C C'→Inv C' (S s)→ER C' (Va opsA.toList (r s) env (fun i=>listed.getD i false) opsA.size) a→Region.ready .any opsA listed=[]→Post C Q .normal a C'.w:=by
   intro listed C' a s hsz hV hmm hE hI' he' hr
   have hall:∀ i,i<opsA.size→listed.getD i false=true:=by
    intro i
    induction i using Nat.strongRecOn with
    | _ i ih =>
     intro hi
     cases hl:listed.getD i false with
     | true=>rfl
     | false =>
      have:i∈Region.ready .any opsA listed:=by
       rw [mem_ready]
       refine ⟨?_,opsA[i],Array.getElem?_eq_getElem hi,fun e he hb=>?_⟩
       ·have hi':i<listed.size:=by omega
        simp only [Array.getD_eq_getD_getElem?,Array.getElem?_eq_getElem hi',Option.getD_some] at hl ⊢
        exact hl
       ·have hlt:=hedge i opsA[i] (by simp [hi]) e he hb
        exact ih e.on hlt (by omega)
      rw [hr] at this
      cases this
   have hmH:∀ h∈H,h∈s:=fun h hh=>(hmm h hh).1 (hall h (hHlt h hh))
   have henv:∀ k,k≤opsA.size→Va opsA.toList (r s) env (fun i=>listed.getD i false) k=Va opsA.toList (r s) env tr k:=by
    intro k
    induction k with
    | zero=>intro _;rfl
    | succ k ih=>intro hk;simp only [Va,ih (by omega),hall k (by omega),tr]
   rw [henv _ (Nat.le_refl _)] at he'
   exact ⟨C',_,_,rfl,hE,hI',he',hQ s hV hmH⟩
  induction fuel with
  | zero =>
   intro listed C' a s hsz hcl hcnt hV hmm hE hI' he'
   have hr:Region.ready .any opsA listed=[]:=by
    rw [List.eq_nil_iff_forall_not_mem]
    intro i hi
    rw [mem_ready] at hi
    obtain ⟨h1,o,ho,_⟩:=hi
    have hlt:=(Array.getElem?_eq_some_iff.1 ho).1
    have h2:0<(List.range opsA.size).countP fun i=>!listed.getD i false:=by
     rw [List.countP_pos_iff]
     refine ⟨i,by simpa using hlt,?_⟩
     have hi':i<listed.size:=by omega
     simp only [Array.getD_eq_getD_getElem?,Array.getElem?_eq_getElem hi',Option.getD_some] at h1 ⊢
     simp [h1]
    omega
   exact ⟨hr,done listed C' a s hsz hV hmm hE hI' he' hr⟩
  | succ fuel ih =>
   intro listed C' a s hsz hcl hcnt hV hmm hE hI' he'
   refine ⟨fun hr=>done listed C' a s hsz hV hmm hE hI' he' hr,fun i hi=>?_⟩
   rw [mem_ready] at hi
   obtain ⟨hul,o,ho,hpre⟩:=hi
   have hlt:=(Array.getElem?_eq_some_iff.1 ho).1
   have hol:opsA.toList[i]? = some o:=by simpa using ho
   have hun:listed.getD i false=false:=by
    have hi':i<listed.size:=by omega
    simp only [Array.getD_eq_getD_getElem?,Array.getElem?_eq_getElem hi',Option.getD_some] at hul ⊢
    exact hul
   have hset:∀ j,(listed.setIfInBounds i true).getD j false=(if j=i then true else listed.getD j false):=by
    intro j
    simp only [Array.getD_eq_getD_getElem?,Array.getElem?_setIfInBounds]
    by_cases e:i=j
    ·subst e;simp [show i<listed.size by omega]
    ·rw [if_neg e,if_neg (fun x=>e x.symm)]
   have hcl':Closed opsA.toList (fun j=>(listed.setIfInBounds i true).getD j false):=by
    intro j o' ho' hj e he hb
    simp only [hset] at hj ⊢
    split at hj
    ·rename_i e1
     subst e1
     rw [hol] at ho'
     obtain rfl:o=o':=by simpa using ho'
     have:=hpre e he hb
     split
     ·rfl
     ·exact this
    ·have:=hcl j o' ho' hj e he hb
     split
     ·rfl
     ·exact this
   have hcnt':((List.range opsA.size).countP fun j=>!(listed.setIfInBounds i true).getD j false)≤fuel:=by
    have h1:((List.range opsA.size).countP fun j=>!(listed.setIfInBounds i true).getD j false)+1≤(List.range opsA.size).countP fun j=>!listed.getD j false:=by
     have hmem:i∈List.range opsA.size:=by simpa using hlt
     obtain ⟨l1,l2,hl⟩:=List.append_of_mem hmem
     rw [hl]
     simp only [List.countP_append,List.countP_cons,hset,if_true,hun]
     have hle:∀ l:List Nat,(l.countP fun j=>!if j=i then true else listed.getD j false)≤l.countP fun j=>!listed.getD j false:=by
      intro l
      apply List.countP_mono_left
      intro j _ hj
      simp at hj ⊢
      exact hj.2
     have a1:=hle l1
     have a2:=hle l2
     simp at a1 a2 ⊢
     omega
    omega
   have hval:∀ t∈Yn opsA.toList o,(Va opsA.toList (r s) env (fun i=>listed.getD i false) opsA.size).t.getD t .any=(Va opsA.toList (r s) env tr i).t.getD t .any:=by
    intro t ht
    have:=Vbd (ops:=opsA.toList) (r:=r s) (env:=env) (L:=fun i=>listed.getD i false) (i:=i) (t:=t) opsA.size (fun j hj hdj=>by
     obtain ⟨oj,hoj,hdj⟩:=Option.bind_eq_some_iff.1 hdj
     rcases Nat.lt_trichotomy j i with h | h | h
     ·refine ⟨fun _=>h,fun _=>?_⟩
      rcases hpair j i oj o hoj hol h with hb | ⟨h1,_,_⟩
      ·
       obtain ⟨e,he,hbi,hje⟩:=Uai hol hb
       have hl:=hpre e he hbi
       rcases hje with rfl | ⟨h2,h3⟩
       ·exact hl
       ·have hlt2:e.on<opsA.toList.length:=by simp;omega
        exact Closed.bef (L:=fun i=>listed.getD i false) hcl e.on j _ (Qze hlt2) hl h3
      ·exact absurd ht (h1 t hdj)
     ·subst h
      exact ⟨(fun hx=>by rw [hun] at hx;cases hx),fun hx=>absurd hx (Nat.lt_irrefl _)⟩
     ·refine ⟨fun hx=>?_,fun hx=>by omega⟩
      rcases hpair i j o oj hol hoj h with hb | ⟨_,h2,_⟩
      ·have:=Closed.bef (L:=fun i=>listed.getD i false) hcl j i oj hoj hx hb
       rw [hun] at this;cases this
      ·exact absurd ht (h2 t hdj))
    rw [this,show min opsA.size i=i by omega]
    rfl
   have hav:∀ x∈o.op.operands,Wa (Va opsA.toList (r s) env tr i).t x=Wa (Va opsA.toList (r s) env (fun i=>listed.getD i false) opsA.size).t x:=by
    intro x hx
    cases x with
    | tmp t =>
     simp only [Wa]
     refine (hval t ?_).symm
     simp only [Yn,List.mem_append]
     exact .inl (.inr (List.mem_filterMap.2 ⟨.tmp t,by simpa using hx,rfl⟩))
    | _=>rfl
   have haw:We opsA.toList (Va opsA.toList (r s) env tr i).t o.guard=We opsA.toList (Va opsA.toList (r s) env (fun i=>listed.getD i false) opsA.size).t o.guard:=by
    refine Ubb fun j w d hg hd=>(hval d ?_).symm
    simp only [Yn,List.mem_append,hg]
    exact .inr (by rw [hd];simp)
   have hnextG:∀ q:Nat→AV,Va opsA.toList q env (fun j=>(listed.setIfInBounds i true).getD j false) opsA.size=(Va opsA.toList q env (fun i=>listed.getD i false) opsA.size).put o.dst (q i):=by
    intro q
    have e1:(fun j=>(listed.setIfInBounds i true).getD j false)=fun j=>if j=i then true else listed.getD j false:=funext hset
    rw [e1,Zbf (L:=fun i=>listed.getD i false) hun opsA.size hlt (fun j h1 h2 hl t ht hj=>by
     obtain ⟨oj,hoj,hdj⟩:=Option.bind_eq_some_iff.1 hj
     rcases hpair i j o oj hol hoj h1 with hb | ⟨h3,_,_⟩
     ·have:=Closed.bef (L:=fun i=>listed.getD i false) hcl j i oj hoj hl hb
      rw [hun] at this;cases this
     ·have:o.dst=some t:=by rw [hol] at ht;simpa using ht
      refine h3 t this ?_
      simp only [Yn,List.mem_append,hdj]
      exact .inl (.inl (by simp)))]
    rw [hol]
    rfl
   have hnext:=hnextG (r s)
   have hbefi:∀ h,bef (Vh opsA.toList) i h=true→listed.getD h false=true:=by
    intro h hb
    obtain ⟨e,he,hbi,hje⟩:=Uai hol hb
    have hl:=hpre e he hbi
    rcases hje with rfl | ⟨h2,h3⟩
    ·exact hl
    ·have hlt2:e.on<opsA.toList.length:=by simp;omega
     exact Closed.bef (L:=fun i=>listed.getD i false) hcl e.on h _ (Qze hlt2) hl h3
   have hbs:∀ h∈H,bef (Vh opsA.toList) i h=true→h∈s:=fun h hh hb=>(hmm h hh).1 (hbefi h hb)
   unfold wpOpIn
   rw [ho]
   simp only
   by_cases hH:i∈H
   ·
    have his:i∉s:=fun hx=>by rw [(hmm i hH).2 hx] at hun;cases hun
    obtain ⟨hV',hcase⟩:=hd.heavy i o s hol hH hV his hbs
    have hmm':∀ h,h∈H→((listed.setIfInBounds i true).getD h false=true↔h∈s++[i]):=by
     intro h hh
     rw [hset,List.mem_append,List.mem_singleton]
     by_cases e:h=i
     ·simp [e]
     ·rw [if_neg e,hmm h hh];simp [e]
    have hkeep:∀ k,Va opsA.toList (r s) env (fun j=>listed.getD j false) k=Va opsA.toList (r (s++[i])) env (fun j=>listed.getD j false) k:=by
     intro k
     induction k with
     | zero=>rfl
     | succ k ih =>
      simp only [Va,ih]
      by_cases hl:listed.getD k false=true
      case neg=>simp only [if_neg hl]
      ·simp only [if_pos hl]
       have hk:k<opsA.toList.length:=by
        rcases Qzn k opsA.toList.length with h | h
        ·exact h
        ·rw [Array.getD_eq_getD_getElem?,Array.getElem?_eq_none (by simp at h;omega)] at hl;cases hl
       have hne:k≠i:=fun e=>by rw [e,hun] at hl;cases hl
       rw [hd.keep s i k hV hV' hH his hbs hne (fun h hh hb=>(hmm h hh).1 (Closed.bef (L:=fun i=>listed.getD i false) hcl k h _ (Qze hk) hl hb)) (fun hh=>(hmm k hh).1 hl)]
    have hnext':Va opsA.toList (r (s++[i])) env (fun j=>(listed.setIfInBounds i true).getD j false) opsA.size=(Va opsA.toList (r s) env (fun i=>listed.getD i false) opsA.size).put o.dst (r (s++[i]) i):=by
     rw [hnextG (r (s++[i])),← hkeep]
    rcases hcase with ⟨hw,hr⟩ | ⟨hw,hr,hS⟩
    ·rw [haw] at hw
     rw [Yz he' hw,if_pos rfl]
     refine Yab hI' he' (Vat hav hr) ro _ _ fun C2 c v s2 hE2 hI2 hv ⟨h1,h2⟩=>?_
     subst h1;subst h2
     refine ih _ C2 _ (s++[i]) (by simpa using hsz) hcl' hcnt' hV' hmm' (hE.trans hE2) hI2 ?_
     rw [hnext']
     exact (he'.ext hE2).put hv o.dst
    ·rw [haw] at hw
     rw [Yz he' hw,if_neg (by simp)]
     refine ⟨fun _ _=>trivial,ih _ C' _ (s++[i]) (by simpa using hsz) hcl' hcnt' hV' hmm' hE (by rw [hS];exact hI') ?_⟩
     rw [hnext',hr]
     exact he'.put (.tup [] [] rfl (fun i x c h=>by simp at h)) o.dst
   ·
    have hmm':∀ h,h∈H→((listed.setIfInBounds i true).getD h false=true↔h∈s):=by
     intro h hh
     rw [hset,if_neg (fun e:h=i=>hH (by rw [← e];exact hh))]
     exact hmm h hh
    have haft:∀ h∈H,bef (Vh opsA.toList) h i=true→h∉s:=fun h hh hb hs=>by
     have hl:=(hmm h hh).2 hs
     have hlt2:h<opsA.toList.length:=by simpa using hHlt h hh
     have:=Closed.bef (L:=fun i=>listed.getD i false) hcl h i _ (Qze hlt2) hl hb
     rw [hun] at this;cases this
    rcases hd.light i o s hol hH hV hbs haft with ⟨hw,hr⟩ | ⟨hw,hr⟩
    ·rw [haw] at hw
     rw [Yz he' hw,if_pos rfl]
     rcases hr with hr | hr
     ·refine hr _ _ _ _ hav hI' he' ro _ _ fun C2 c hE2 hI2 hv=>?_
      refine ih _ C2 _ s (by simpa using hsz) hcl' hcnt' hV hmm' (hE.trans hE2) hI2 ?_
      rw [hnext]
      exact (he'.ext hE2).put hv o.dst
     ·refine Yab hI' he' (Vat hav hr) ro _ _ fun C2 c v s2 hE2 hI2 hv ⟨h1,h2⟩=>?_
      subst h1;subst h2
      refine ih _ C2 _ s (by simpa using hsz) hcl' hcnt' hV hmm' (hE.trans hE2) hI2 ?_
      rw [hnext]
      exact (he'.ext hE2).put hv o.dst
    ·rw [haw] at hw
     rw [Yz he' hw,if_neg (by simp)]
     refine ⟨fun _ _=>trivial,ih _ C' _ s (by simpa using hsz) hcl' hcnt' hV hmm' hE hI' ?_⟩
     rw [hnext,hr]
     exact he'.put (.tup [] [] rfl (fun i x c h=>by simp at h)) o.dst
 have h0:∀ i,(Array.replicate opsA.size false).getD i false=false:=by
  intro i
  simp only [Array.getD_eq_getD_getElem?,Array.getElem?_replicate]
  split<;>rfl
 have hdr:Ext C (C.at_ C.w.drew):=Ext.drew
 refine key opsA.size (Array.replicate opsA.size false) (C.at_ C.w.drew) a [] (by simp) (fun i o _ hx=>by simp only [h0] at hx;cases hx) ?_ hd.v0 (fun h _=>by rw [h0];simp) hdr ?_ ?_
 ·have:=List.countP_le_length (p:=fun i=>!(Array.replicate opsA.size false).getD i false) (l:=List.range opsA.size)
  simpa using this
 ·rw [hd.s0];exact hI.drew
 ·have henv:∀ k,Va opsA.toList (r []) env (fun i=>(Array.replicate opsA.size false).getD i false) k=env:=by
   intro k
   induction k with
   | zero=>rfl
   | succ k ih=>simp only [Va,h0,Bool.false_eq_true,if_false];simpa only [h0] using ih
  rw [henv]
  exact he.ext hdr
end Ab
namespace Ab
open Go Go.RowKit
variable [Mode]
variable {P:Program}
def eqA (a b:AV):Bool:=match a,b with
 | .any,.any=>true
 | _,_=>AV.eqb 20 a b
theorem Xa6 {a b:AV} (h:eqA a b=true):a=b:=by
 unfold eqA at h
 split at h
 ·rfl
 ·exact AV.eqb_eq _ _ _ h
def Wa0 (P:Program) (F:FOrc) (o:Oper) (t:List AV) (σ:Za):Option AV :=
 if Zj o then evf P F o t σ else if Yae P o then (aop P t σ o).map (·.1) else none
theorem Zdi {F:FOrc} (hF:F.Good P) {o:Oper} {env:Env} {σ:Za} {v:AV} (h:Wa0 P F o env.t σ=some v):aw1 P o (fun v1 s1=>v1=v∧s1=σ) env σ:=by
 unfold Wa0 at h
 split at h
 ·have:=Yb4 hF h []
  simpa using this
 ·rename_i hc
  split at h
  case isFalse=>cases h
  rename_i hl
  rw [Qzm] at h
  obtain ⟨⟨v',s⟩,h1,rfl⟩:=h
  obtain rfl:=Ua6 hl h1
  exact Va3 (by simpa using hc) h1
section
variable (P:Program) (F:FOrc) (ops:List Oper) (H:List Nat) (env:Env) (σ:Za)
def Xao (s:List Nat) (h:Nat):Bool:=!s.contains h&&H.all fun h'=>!bef (Vh ops) h h'||s.contains h'
def Wbo (s:List Nat) (hv:Nat→AV) (heap:Za):List Oper→Nat→Env→List AV→List AV
 | [],_,_,rs=>rs
 | o::rest,i,env,rs =>
  let v:=if H.contains i then hv i else if H.all (fun h=>!bef (Vh ops) i h||s.contains h) then (match We ops env.t o.guard with
   | some true=>(Wa0 P F o env.t heap).getD .any
   | some false=>.tup []
   | none=>.any) else .any
  Wbo s hv heap rest (i+1) (env.put o.dst v) (rs++[v])
def ndT:List Nat→Option (List AV × Za)
 | []=>some (Wbo P F ops H [] (fun _=>.any) σ ops 0 env [],σ)
 | h::q=>match ndT q,ops[h]? with
  | some (vs,heap),some o=>(aop P (Va ops (fun i=>vs.getD i .any) env tr h).t heap o).map fun x=>(Wbo P F ops H (h::q) (fun i=>if i=h then x.1 else vs.getD i .any) x.2 ops 0 env [],x.2)
  | _,_=>none
def rT (s:List Nat):Nat→AV:=fun i=>((ndT P F ops H env σ s.reverse).getD ([],[])).1.getD i .any
def sT (s:List Nat):Za:=((ndT P F ops H env σ s.reverse).getD ([],[])).2
def Yex (L:List (List Nat)):List (List Nat):=L.flatMap fun s=>(H.filter (Xao ops H s)).map fun h=>s++[h]
def Vba:Nat→List (List Nat)
 | 0=>[[]]
 | n+1=>Yex ops H (Vba n)
def allT:List (List Nat):=(List.range (H.length+1)).flatMap fun n=>Vba ops H n
def Xcg (s:List Nat) (i:Nat):Bool:=match ops[i]? with
 | some o=>H.contains i||!(H.all fun h=>!bef (Vh ops) i h||s.contains h)||!(H.all fun h=>!bef (Vh ops) h i||!s.contains h)||(match We ops (Va ops (rT P F ops H env σ s) env tr i).t o.guard with
  | some true=>(match Wa0 P F o (Va ops (rT P F ops H env σ s) env tr i).t (sT P F ops H env σ s) with
   | some v=>eqA v (rT P F ops H env σ s i)
   | none=>false)
  | some false=>eqA (rT P F ops H env σ s i) (.tup [])
  | none=>false)
 | none=>true
def Zbc (s:List Nat) (h:Nat):Bool:=!Xao ops H s h||((allT ops H).contains (s++[h])&&(match ops[h]? with
 | some o=>o.guard.isNone&&!Zj o&&(ndT P F ops H env σ s.reverse).isSome&&(ndT P F ops H env σ (h::s.reverse)).isSome&&(match aop P (Va ops (rT P F ops H env σ s) env tr h).t (sT P F ops H env σ s) o with
  | some (v,_)=>eqA v (rT P F ops H env σ (s++[h]) h)
  | none=>false)&&((List.range ops.length).all fun j=>j == h||!(H.all fun h'=>!bef (Vh ops) j h'||s.contains h')||(H.contains j&&!s.contains j)||eqA (rT P F ops H env σ (s++[h]) j) (rT P F ops H env σ s j))
 | none=>false))
def evT:Option (List (Env × Za)) :=
 if Xo ops []&&(H.all fun h=>decide (h<ops.length))&&((allT ops H).all fun s=>decide ((((ndT P F ops H env σ s.reverse).getD ([],[])).1).length≤ops.length)&&((List.range ops.length).all (Xcg P F ops H env σ s))&&H.all (Zbc P F ops H env σ s)) then
  some (((allT ops H).filter fun s=>H.all s.contains).map fun s=>(Va ops (rT P F ops H env σ s) env tr ops.length,sT P F ops H env σ s))
 else none
end
theorem Vd9 {F:FOrc} (hF:F.Good P) (hm:P.follows .mixedOrders=true) {rd:Option Nat} {id:Nat} {opsA:Array Oper} {H:List Nat} {Q:Exit→Env→Za→Prop} {env:Env} {σ:Za} {outs:List (Env × Za)}
  (h:evT P F opsA.toList H env σ=some outs) (hQ:∀ o∈outs,Q .normal o.1 o.2):ACode P rd (.region id opsA true) Q env σ:=by
 unfold evT at h
 split at h
 case isFalse=>cases h
 rename_i hc
 simp only [Bool.and_eq_true,List.all_eq_true,decide_eq_true_eq] at hc
 obtain ⟨⟨hd,hlt⟩,hall⟩:=hc
 simp only [Option.some.injEq] at h
 subst h
 have hrev:∀ (s:List Nat) (i:Nat),(s++[i]).reverse=i::s.reverse:=fun s i=>by simp
 refine Vbo hm H (fun s=>s∈allT opsA.toList H) (rT P F opsA.toList H env σ) (sT P F opsA.toList H env σ) hd (fun h hh=>by simpa using hlt h hh) ⟨?_,?_,?_,?_,?_⟩ ?_
 ·unfold allT
  rw [List.mem_flatMap]
  exact ⟨0,by simp,by simp [Vba]⟩
 ·simp [sT,ndT]
 ·intro i o s ho hi hs hb ha
  have hk:=((hall s hs).1.2) i (by have:=(Qzs.1 ho).1;simpa using this)
  unfold Xcg at hk
  rw [ho] at hk
  have c1:H.contains i=false:=by simpa using hi
  have c2:(H.all fun h=>!bef (Vh opsA.toList) i h||s.contains h)=true:=by
   rw [List.all_eq_true];intro h hh
   cases hbf:bef (Vh opsA.toList) i h
   ·rfl
   ·simpa using hb h hh hbf
  have c3:(H.all fun h=>!bef (Vh opsA.toList) h i||!s.contains h)=true:=by
   rw [List.all_eq_true];intro h hh
   cases hbf:bef (Vh opsA.toList) h i
   ·rfl
   ·simpa using ha h hh hbf
  simp only [c1,c2,c3,Bool.not_true,Bool.or_self,Bool.false_or] at hk
  split at hk
  ·rename_i hw
   split at hk
   ·rename_i v hv
    have hve:=Xa6 hk
    refine .inl ⟨hw,.inr ?_⟩
    have:=Zdi hF hv
    rw [hve] at this
    exact this
   ·cases hk
  ·rename_i hw
   exact .inr ⟨hw,Xa6 hk⟩
  ·cases hk
 ·intro i o s ho hi hs his hb
  have hk:=((hall s hs).2) i hi
  have c0:Xao opsA.toList H s i=true:=by
   unfold Xao
   rw [Bool.and_eq_true,List.all_eq_true]
   refine ⟨by simpa using his,fun h hh=>?_⟩
   cases hbf:bef (Vh opsA.toList) i h
   ·rfl
   ·simpa using hb h hh hbf
  unfold Zbc at hk
  rw [c0,ho] at hk
  simp only [Bool.not_true,Bool.false_or,Bool.and_eq_true,Bool.not_eq_true'] at hk
  obtain ⟨hmem,⟨⟨⟨⟨hg,hcall⟩,hn1⟩,hn2⟩,hop⟩,_⟩:=hk
  refine ⟨by simpa using hmem,.inl ⟨?_,?_⟩⟩
  ·have:o.guard=none:=by simpa using hg
   rw [this];rfl
  ·split at hop
   ·rename_i v heap' hv
    have hve:=Xa6 hop
    have hheap:sT P F opsA.toList H env σ (s++[i])=heap':=by
     unfold sT at hv ⊢
     unfold rT at hv
     rw [hrev]
     obtain ⟨x,hx⟩:=Option.isSome_iff_exists.1 hn1
     rw [hx,Option.getD_some] at hv
     obtain ⟨vs,hp⟩:=x
     simp only [ndT,hx,ho,hv,Option.map_some,Option.getD_some]
    rw [hheap,← hve]
    exact Va3 hcall hv
   ·cases hop
 ·intro s i j hs hs' hiH his hbi hji hb hj
  rcases Qzn j opsA.toList.length with hjl | hjl
  ·have c0:Xao opsA.toList H s i=true:=by
    unfold Xao
    rw [Bool.and_eq_true,List.all_eq_true]
    refine ⟨by simpa using his,fun h hh=>?_⟩
    cases hbf:bef (Vh opsA.toList) i h
    ·rfl
    ·simpa using hbi h hh hbf
   ·have hk:=((hall s hs).2) i hiH
    have hil:i<opsA.toList.length:=hlt i hiH
    unfold Zbc at hk
    rw [c0,Qze hil] at hk
    simp only [Bool.not_true,Bool.false_or,Bool.and_eq_true,List.all_eq_true] at hk
    have:=hk.2.2 j (by simpa using hjl)
    have c2:(H.all fun h=>!bef (Vh opsA.toList) j h||s.contains h)=true:=by
     rw [List.all_eq_true];intro h hh
     cases hbf:bef (Vh opsA.toList) j h
     ·rfl
     ·simpa using hb h hh hbf
    rw [c2] at this
    have c4:(H.contains j&&!s.contains j)=false:=by
     by_cases hjH:j∈H
     ·have:=hj hjH;simp [hjH,this]
     ·simp [hjH]
    rw [c4] at this
    simp only [Bool.not_true,Bool.or_false,Bool.or_eq_true,beq_iff_eq] at this
    rcases this with h1 | h1
    ·exact absurd h1 hji
    ·exact Xa6 h1
  ·have k1:=(hall _ hs').1.1
   have k2:=(hall _ hs).1.1
   unfold rT
   rw [List.getD_eq_getElem?_getD,List.getD_eq_getElem?_getD,List.getElem?_eq_none (by omega),List.getElem?_eq_none (by omega)]
 ·intro s hs hh
  have:=hQ _ (List.mem_map.2 ⟨s,List.mem_filter.2 ⟨hs,by rw [List.all_eq_true];intro h hm';simpa using hh h hm'⟩,rfl⟩)
  simpa using this
end Ab

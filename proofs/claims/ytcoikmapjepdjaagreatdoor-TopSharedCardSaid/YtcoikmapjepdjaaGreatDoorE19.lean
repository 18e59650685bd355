/-
  Texts packed for a claim.
-/
import Derived.Test.YtcoikmapjepdjaaGreatDoorE00
import Derived.Test.YtcoikmapjepdjaaGreatDoorE18
set_option linter.all false
namespace Ab
open Go Go.RowKit
variable [Mode]
variable {P:Program}
def Wat {α:Type}:List (Option (List α))→Option (List α)
 | []=>some []
 | some l::t=>(Wat t).map (l++·)
 | none::_=>none
theorem Xcj {α:Type}:∀ {L:List (Option (List α))} {out:List α},Wat L=some out→∀ x∈L,∃ l,x=some l∧∀ y∈l,y∈out:=by
 intro L
 induction L with
 | nil=>intro out _ x hx;simp at hx
 | cons a t ih =>
  intro out h x hx
  cases a with
  | none=>simp [Wat] at h
  | some l =>
   simp only [Wat,Qzm] at h
   obtain ⟨o,h1,rfl⟩:=h
   rcases List.mem_cons.1 hx with rfl | hx
   ·exact ⟨l,rfl,fun y hy=>by simp [hy]⟩
   ·obtain ⟨l',h2,h3⟩:=ih h1 x hx
    exact ⟨l',h2,fun y hy=>by simp [h3 y hy]⟩
def evM (P:Program) (F:FOrc) (O:Orc) (n:Nat):Code→Env→Za→Option (List (Exit × Env × Za))
 | .seq a b,env,σ=>match evM P F O n a env σ with
  | some outs=>Wat (outs.map fun x=>match x.1 with
   | .normal=>evM P F O n b x.2.1 x.2.2
   | _=>some [x])
  | none=>none
 | .region id ops d,env,σ=>match evG P F O n (.region id ops d) env σ with
  | some r=>some [r]
  | none=>if d then (evT P F ops.toList (Vch P ops.toList) env σ).map fun l=>l.map fun x=>(.normal,x.1,x.2) else none
 | c,env,σ=>(evG P F O n c env σ).map fun r=>[r]
theorem Ua5 {F:FOrc} {O:Orc} (hF:F.Good P) (hm:P.follows .mixedOrders=true) (hO:O.Good P) (n:Nat):∀ (c:Code) (env:Env) (σ:Za) (outs:List (Exit × Env × Za)),evM P F O n c env σ=some outs →
  ∀ (rd:Option Nat) (Q:Exit→Env→Za→Prop),(∀ x∈outs,Q x.1 x.2.1 x.2.2)→ACode P rd c Q env σ:=by
 have one:∀ (c:Code) (env:Env) (σ:Za) (outs:List (Exit × Env × Za)),((evG P F O n c env σ).map fun r=>[r])=some outs→∀ (rd:Option Nat) (Q:Exit→Env→Za→Prop),(∀ x∈outs,Q x.1 x.2.1 x.2.2)→ACode P rd c Q env σ:=by
  intro c env σ outs h rd Q hQ
  rw [Qzm] at h
  obtain ⟨⟨e,env',σ'⟩,h1,rfl⟩:=h
  refine ((Vb5 hF hm hO n) c env σ e env' σ' h1 rd).mono ?_
  rintro e1 n1 s1 ⟨rfl,rfl,rfl⟩
  exact hQ (e1,n1,s1) (by simp)
 intro c
 induction c with
 | seq a b iha ihb =>
  intro env σ outs h rd Q hQ
  unfold evM at h
  split at h
  ·rename_i o1 h1
   refine Xaf (iha env σ o1 h1 rd _ fun x hx=>?_)
   obtain ⟨l,h2,h3⟩:=Xcj h _ (List.mem_map.2 ⟨x,hx,rfl⟩)
   obtain ⟨e,env',σ'⟩:=x
   cases e with
   | normal=>exact ihb env' σ' l h2 rd Q fun y hy=>hQ y (h3 y hy)
   | _=>simp only [Option.some.injEq] at h2;subst h2;exact hQ _ (h3 _ (by simp))
  ·cases h
 | region id ops d =>
  intro env σ outs h rd Q hQ
  unfold evM at h
  split at h
  ·rename_i r h1
   exact one _ env σ outs (by rw [h1];exact h) rd Q hQ
  ·split at h
   ·rename_i hd
    rw [Qzm] at h
    obtain ⟨l,h1,rfl⟩:=h
    subst hd
    exact Vd9 hF hm h1 fun o ho=>hQ _ (List.mem_map.2 ⟨o,ho,rfl⟩)
   ·cases h
 | _=>intro env σ outs h;exact one _ env σ outs (by unfold evM at h;exact h)
def Vai:Nat→AV→AV→Bool
 | 0,_,_=>false
 | n+1,v,w=>match v,w with
  | _,.any=>true
  | .bool a,.bool b=>a == b
  | .int k a,.int k' b=>decide (k=k')&&decide (a=b)
  | .tup l,.tup l'=>decide (l.length=l'.length)&&(l.zip l').all fun p=>Vai n p.1 p.2
  | _,_=>false
theorem Ycm {m:Nat} {σ:Za}:∀ (n:Nat) (v w:AV),Vai n v w=true→Fz m σ v w:=by
 intro n
 induction n with
 | zero=>intro v w h;cases h
 | succ n ih =>
  intro v w h
  unfold Vai at h
  split at h
  ·exact .any _
  ·rename_i a b;rw [beq_iff_eq] at h;subst h;exact .bool _
  ·rename_i k a k' b
   simp only [Bool.and_eq_true,decide_eq_true_eq] at h
   obtain ⟨rfl,rfl⟩:=h
   exact .int _ _
  ·rename_i l l'
   simp only [Bool.and_eq_true,decide_eq_true_eq,List.all_eq_true] at h
   refine .tup l l' h.1 fun i x y hx hy=>ih x y (h.2 (x,y) ?_)
   exact Qzg (i:=i) (by rw [List.getElem?_zip_eq_some];exact ⟨hx,hy⟩)
  ·cases h
def Xah:Nat→AV→Bool
 | 0,_=>false
 | n+1,v=>match v with
  | .any=>true
  | .bool _=>true
  | .int _ _=>true
  | .tup l=>l.all (Xah n)
  | _=>false
theorem Zbj:∀ (n:Nat) (v:AV),Xah n v=true→∀ (C C':Ctx) (c:Value),VR C v c→VR C' v c:=by
 intro n
 induction n with
 | zero=>intro v h;cases h
 | succ n ih =>
  intro v h C C' c hv
  cases v with
  | any=>exact .any c
  | bool b=>cases hv;exact .bool b
  | int k i=>cases hv;exact .int k i
  | tup l =>
   obtain ⟨cs,rfl,hl⟩:=hv.tup_inv
   have h':l.all (Xah n)=true:=h
   rw [List.all_eq_true] at h'
   exact .tup l cs hl.len fun i x d hx hd=>ih x (h' x (Qzg hx)) C C' d (hl.at_ i x d hx hd)
  | _=>cases h
theorem ACalls.anywhere {f:FuncId} {args:List AV} {v:AV} (h:ACalls P f args [] fun v' s=>v'=v∧s=[]) (ha:args.all (fzB 0 20)=true) (hv:Xah 20 v=true):APure P f args v:=by
 intro σ
 have lent:∀ {C:Ctx} {cargs:List Value},Inv C σ→VRs C args cargs→VRs (C.frz 0 σ) args cargs:=by
  intro C cargs hI hv
  refine ⟨hv.len,fun i y c hy hc=>?_⟩
  exact (hv.at_ i _ c hy hc).frz hI (Xa9 20 y σ (List.all_eq_true.1 ha y (Qzg hy)))
 rcases h with h | h
 ·refine .inl ⟨h.1,fun C cargs hI hvs=>(h.2 (C.frz 0 σ) cargs hI.base0 (lent hI hvs)).mono ?_⟩
  rintro e w' ⟨c,C',av,s,rfl,rfl,hE,hI',hv',rfl,rfl⟩
  obtain ⟨h1,h2⟩:=hI.back0 hE hI'
  exact ⟨c,C.at_ C'.w,_,σ,rfl,rfl,h1,h2,Zbj 20 _ hv _ _ _ hv',rfl,rfl⟩
 ·refine .inr fun C cargs hI hvs=>?_
  obtain ⟨c,C',av,s,hr,hE,hI',hv',rfl,rfl⟩:=h (C.frz 0 σ) cargs hI.base0 (lent hI hvs)
  obtain ⟨h1,h2⟩:=hI.back0 hE hI'
  exact ⟨c,C.at_ C'.w,_,σ,hr,h1,h2,Zbj 20 _ hv _ _ _ hv',rfl,rfl⟩
def runM (P:Program) (F:FOrc) (O:Orc) (n:Nat) (f:FuncId) (args:List AV) (v:AV):Bool:=match P.funcs[f]? with
 | some fn=>!(fn.name == "runtime.NumGoroutine")&&args.all (fzB 0 20)&&Xah 20 v&&(match fn.body with
  | some c=>(match evM P F O n c { t:=te args fn.ntmps } [] with
   | some outs=>outs.all fun x=>(match x.1 with
    | .normal | .ret=>x.2.1.m.isEmpty&&(match Up P fn.results.toList x.2.1.t x.2.2 with
     | some w=>Vai 20 w v
     | none=>false)
    | _=>false)
   | none=>false)
  | none=>false)
 | none=>false
theorem APure.runM {F:FOrc} {O:Orc} {f:FuncId} {args:List AV} {v:AV} (n:Nat) (hm:P.follows .mixedOrders=true) (hF:F.Good P) (hO:O.Good P) (h:runM P F O n f args v=true):APure P f args v:=by
 unfold Ab.runM at h
 split at h
 case h_2=>cases h
 rename_i fn hfn
 simp only [Bool.and_eq_true,Bool.not_eq_true'] at h
 obtain ⟨⟨⟨hn,ha⟩,hv⟩,h⟩:=h
 split at h
 case h_2=>cases h
 rename_i c hb
 split at h
 case h_2=>cases h
 rename_i outs ho
 rw [List.all_eq_true] at h
 refine ACalls.anywhere (ACalls.forget ?_) ha hv
 refine Vao hfn hb (Zb hfn hn (by rw [hb];rfl)) (Ua5 hF hm hO n c _ _ outs ho none _ fun x hx=>?_)
 have hk:=h x hx
 obtain ⟨e,env,s⟩:=x
 have key:(env.m.isEmpty&&(match Up P fn.results.toList env.t s with
     | some w=>Vai 20 w v
     | none=>false))=true→env.m=[]∧(match Up P fn.results.toList env.t s with
     | some w=>∃ g v',s=[]++g∧Fz 0 s w v'∧v'=v∧([]:Za)=[]
     | none=>False):=by
  intro h2
  rw [Bool.and_eq_true] at h2
  refine ⟨by simpa using h2.1,?_⟩
  have h3:=h2.2
  split at h3
  ·rename_i w hw
   exact ⟨s,v,rfl,Ycm 20 w v h3,rfl,rfl⟩
  ·cases h3
 cases e with
 | normal=>exact key hk
 | ret=>exact key hk
 | _=>simp at hk
theorem Vhu {F:FOrc} {O:Orc} (hF:F.Good P) (hm:P.follows .mixedOrders=true) (hO:O.Good P) (n:Nat) {a b c:Code} {env:Env} {σ:Za} {outs:List (Exit × Env × Za)} (h:evM P F O n (.seq a b) env σ=some outs) {rd:Option Nat} {Q:Exit→Env→Za→Prop}
  (hQ:∀ x∈outs,Wb (ACode P rd c Q) Q x.1 x.2.1 x.2.2):ACode P rd (.seq a (.seq b c)) Q env σ:=by
 unfold evM at h
 split at h
 case h_2=>cases h
 rename_i o1 h1
 refine Xaf (Ua5 hF hm hO n a env σ o1 h1 rd _ fun x hx=>?_)
 obtain ⟨l,h2,h3⟩:=Xcj h _ (List.mem_map.2 ⟨x,hx,rfl⟩)
 obtain ⟨e,env',σ'⟩:=x
 cases e with
 | normal=>exact Xaf (Ua5 hF hm hO n b env' σ' l h2 rd _ fun y hy=>hQ y (h3 y hy))
 | _ =>
  simp only [Option.some.injEq] at h2
  subst h2
  have h4:=hQ _ (h3 _ (List.mem_singleton.2 rfl))
  exact h4
def Xbg (P:Program) (fn:Func) (v:AV) (x:Exit × Env × Za):Bool:=match x.1 with
 | .normal | .ret=>x.2.1.m.isEmpty&&(match Up P fn.results.toList x.2.1.t x.2.2 with
  | some w=>Vai 20 w v
  | none=>false)
 | _=>false
theorem Ze3 {fn:Func} {v:AV} {x:Exit × Env × Za} (h:Xbg P fn v x=true):QFn P fn (fun w s=>∃ g v',s=[]++g∧Fz 0 s w v'∧v'=v∧([]:Za)=[]) x.1 x.2.1 x.2.2:=by
 obtain ⟨e,env,s⟩:=x
 have key:(env.m.isEmpty&&(match Up P fn.results.toList env.t s with
     | some w=>Vai 20 w v
     | none=>false))=true→env.m=[]∧(match Up P fn.results.toList env.t s with
     | some w=>∃ g v',s=[]++g∧Fz 0 s w v'∧v'=v∧([]:Za)=[]
     | none=>False):=by
  intro h2
  rw [Bool.and_eq_true] at h2
  refine ⟨by simpa using h2.1,?_⟩
  have h3:=h2.2
  split at h3
  ·rename_i w hw
   exact ⟨s,v,rfl,Ycm 20 w v h3,rfl,rfl⟩
  ·cases h3
 cases e with
 | normal=>exact key h
 | ret=>exact key h
 | _=>simp [Xbg] at h
def Ya3 (P:Program) (F:FOrc) (O:Orc) (n:Nat) (fn:Func) (args:List AV):Option (List (Exit × Env × Za)):=match fn.body with
 | some (.seq a (.seq b _))=>evM P F O n (.seq a b) { t:=te args fn.ntmps } []
 | _=>none
def Xq (P:Program) (F:FOrc) (O:Orc) (n:Nat) (fn:Func) (args:List AV) (v:AV) (i:Nat):Bool:=match ((Ya3 P F O n fn args).getD [])[i]?,fn.body with
 | some (.normal,env,σ),some (.seq _ (.seq _ c))=>(match evM P F O n c env σ with
  | some outs=>outs.all (Xbg P fn v)
  | none=>false)
 | none,_=>true
 | _,_=>false
theorem APure.runP {F:FOrc} {O:Orc} {f:FuncId} {fn:Func} {args:List AV} {v:AV} (n:Nat) (hm:P.follows .mixedOrders=true) (hF:F.Good P) (hO:O.Good P) (hfn:P.funcs[f]? = some fn)
  (h:((!(fn.name == "runtime.NumGoroutine"))&&args.all (fzB 0 20)&&Xah 20 v&&(Ya3 P F O n fn args).isSome&&decide (((Ya3 P F O n fn args).getD []).length≤3))=true)
  (h0:Xq P F O n fn args v 0=true) (h1:Xq P F O n fn args v 1=true) (h2:Xq P F O n fn args v 2=true):APure P f args v:=by
 simp only [Bool.and_eq_true,Bool.not_eq_true',decide_eq_true_eq] at h
 obtain ⟨⟨⟨⟨hn,ha⟩,hv⟩,hs⟩,hl⟩:=h
 obtain ⟨outs,ho⟩:=Option.isSome_iff_exists.1 hs
 rw [ho,Option.getD_some] at hl
 have hall:∀ i,i<outs.length→Xq P F O n fn args v i=true:=fun i hi=>by
  match i,hi with
  | 0,_=>exact h0
  | 1,_=>exact h1
  | 2,_=>exact h2
  | i+3,hi=>omega
 have ho':=ho
 unfold Ya3 at ho'
 split at ho'
 case h_2=>cases ho'
 rename_i a b c hb
 refine ACalls.anywhere (ACalls.forget ?_) ha hv
 refine Vao hfn hb (Zb hfn hn (by rw [hb];rfl)) (Vhu hF hm hO n ho' fun x hx=>?_)
 obtain ⟨i,hi⟩:=List.mem_iff_getElem?.1 hx
 have hk:=hall i (Qzs.1 hi).1
 unfold Xq at hk
 rw [ho,Option.getD_some,hi,hb] at hk
 obtain ⟨e,env,s⟩:=x
 cases e with
 | normal =>
  simp only at hk
  split at hk
  ·rename_i o2 h3
   exact Ua5 hF hm hO n c env s o2 h3 none _ fun y hy=>Ze3 (List.all_eq_true.1 hk y hy)
  ·cases hk
 | _=>simp at hk
def fzR:Nat→Za→AV→AV→Bool
 | 0,_,_,_=>false
 | n+1,S,v,w=>match v,w with
  | _,.any=>true
  | .bool a,.bool b=>a == b
  | .int k a,.int k' b=>decide (k=k')&&decide (a=b)
  | .nils,.pl _ l=>l.isEmpty
  | .arr k r off len,.pl k' l=>decide (k=k')&&decide (len=l.length)&&(match S[r]? with
   | some (.cells cs)=>l.zipIdx.all fun x=>decide (x.1.cells.length=k)&&x.1.cells.zipIdx.all fun y=>y.1.one&&(match cs[(off+x.2)*k+y.2]? with
    | some c=>fzR n S c y.1
    | none=>false)
   | _=>false)
  | .agg l,.agg l'=>decide (l.length=l'.length)&&(l.zip l').all fun p=>fzR n S p.1 p.2
  | _,_=>false
theorem Ygs {S:Za} (g:Za):∀ (n:Nat) (v w:AV),fzR n S v w=true→Fz 0 (S++g) v w:=by
 intro n
 induction n with
 | zero=>intro v w h;cases h
 | succ n ih =>
  intro v w h
  unfold fzR at h
  split at h
  ·exact .any _
  ·rename_i a b;rw [beq_iff_eq] at h;subst h;exact .bool _
  ·rename_i k a k' b
   simp only [Bool.and_eq_true,decide_eq_true_eq] at h
   obtain ⟨rfl,rfl⟩:=h
   exact .int _ _
  ·rename_i k l
   rw [List.isEmpty_iff] at h
   subst h
   exact .nils_pl k
  ·rename_i k r off len k' l
   simp only [Bool.and_eq_true,decide_eq_true_eq] at h
   obtain ⟨⟨rfl,rfl⟩,h⟩:=h
   split at h
   case h_2=>cases h
   rename_i cs hcs
   rw [List.all_eq_true] at h
   have hcell:∀ (i:Nat) (x:AV),l[i]? = some x→x.cells.length=k∧∀ (j:Nat) (y:AV),x.cells[j]? = some y→y.one=true∧∃ c,cs[(off+i)*k+j]? = some c∧Fz 0 (S++g) c y:=by
    intro i x hx
    have h1:=h (x,i) (List.mem_zipIdx_iff_getElem?.2 hx)
    simp only [Bool.and_eq_true,decide_eq_true_eq,List.all_eq_true] at h1
    refine ⟨h1.1,fun j y hy=>?_⟩
    have h2:=h1.2 (y,j) (List.mem_zipIdx_iff_getElem?.2 hy)
    refine ⟨h2.1,?_⟩
    have h3:=h2.2
    split at h3
    ·rename_i c hc;exact ⟨c,hc,ih c y h3⟩
    ·cases h3
   refine Fz.arr k r off cs l (fun i j=>(cs[(off+i)*k+j]?).getD .any) (Nat.zero_le _) (Ucl hcs) (fun i x hx=>⟨(hcell i x hx).1,fun j y hy=>?_⟩) (fun i x hx j y hy=>?_)
   ·obtain ⟨h1,c,hc,_⟩:=(hcell i x hx).2 j y hy
    exact ⟨h1,by rw [hc];rfl⟩
   ·obtain ⟨_,c,hc,hf⟩:=(hcell i x hx).2 j y hy
    simp only [hc,Option.getD_some]
    exact hf
  ·rename_i l l'
   simp only [Bool.and_eq_true,decide_eq_true_eq,List.all_eq_true] at h
   refine .agg l l' h.1 fun i x y hx hy=>ih x y (h.2 (x,y) ?_)
   exact Qzg (i:=i) (by rw [List.getElem?_zip_eq_some];exact ⟨hx,hy⟩)
  ·cases h
def Vam (f0:FuncId) (args0:List AV) (v0:AV):FOrc:=fun f args σ=>if f=f0∧args.length=args0.length∧((args.zip args0).all fun p=>fzR 20 σ p.1 p.2)=true then some v0 else none
theorem Uav {f0:FuncId} {args0:List AV} {v0:AV} (h:APure P f0 args0 v0) (hv:Xah 20 v0=true):(Vam f0 args0 v0).Good P:=by
 intro f args σ v hf g
 unfold Vam at hf
 split at hf
 case isFalse=>cases hf
 rename_i hc
 obtain ⟨rfl,hl,hz⟩:=hc
 cases hf
 rw [List.all_eq_true] at hz
 exact APure.lend h hl (fun i x y hx hy=>Ygs g 20 x y (hz (x,y) (Qzg (i:=i) (by rw [List.getElem?_zip_eq_some];exact ⟨hx,hy⟩)))) (fun C C' c hc=>Zbj 20 _ hv C C' c hc)
def orF (A B:FOrc):FOrc:=fun f args σ=>match A f args σ with
 | some v=>some v
 | none=>B f args σ
theorem Ubo {A B:FOrc} (ha:A.Good P) (hb:B.Good P):(orF A B).Good P:=by
 intro f args σ v hf
 unfold orF at hf
 split at hf
 ·rename_i w hw;cases hf;exact ha _ _ _ _ hw
 ·exact hb _ _ _ _ hf
def asO (F:FOrc):Orc:=fun f args σ=>(F f args σ).map (·,σ)
theorem Wf5 {F:FOrc} (h:F.Good P):(asO F).Good P:=by
 intro f args σ v σ' hf
 unfold asO at hf
 rw [Qzm] at hf
 obtain ⟨v',h1,h2⟩:=hf
 simp only [Prod.mk.injEq] at h2
 obtain ⟨rfl,rfl⟩:=h2
 have:=h f args σ v' h1 []
 simpa using this
end Ab

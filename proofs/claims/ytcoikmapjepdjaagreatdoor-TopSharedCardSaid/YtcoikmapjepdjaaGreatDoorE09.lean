/-
  Texts packed for a claim.
-/
import Derived.Test.YtcoikmapjepdjaaGreatDoorE00
import Derived.Test.YtcoikmapjepdjaaGreatDoorE08
set_option linter.all false
namespace Ab
open Go Go.RowKit
variable [Mode]
variable {P:Program}
theorem Ubk {rd:Option Nat} {c:Code} {Q:Exit→Env→Za→Prop} {env:Env} {σ:Za} {n:Nat} (I:Nat→Env→Za→Prop) (h0:I n env σ)
  (round:∀ n env σ,I n env σ→ACode P rd c (Wb (fun env' σ'=>∃ k,k<n∧I k env' σ') Q) env σ):ACode P rd (.loop c) Q env σ:=by
 intro C a ro hI he hr b k cs hro hb hroom
 have key:∀ (j:Nat) (C':Ctx) (env:Env) (σ:Za) (a:Act),I j env σ→Ext C C'→Inv C' σ→ER C' env a →
   ∃ e a' w',Post C Q e a' w'∧ArrivesIn (Machine.fenced P (WF ro)) P (lone (b.atR a (.code c::.inLoop c::k)) cs C'.w) b k cs e a' w':=by
  intro j
  induction j using Nat.strongRecOn with
  | _ j ih =>
   intro C' env σ a hi hE hI he
   obtain ⟨e,a₁,w₁,⟨C1,env1,σ1,rfl,hE1,hI1,he1,hq⟩,harr⟩:=round j env σ hi C' a ro hI he (hr.ext hE) b (.inLoop c::k) cs hro hb hroom
   cases e with
   | normal =>
    obtain ⟨i1,hlt,hi1⟩:=hq
    obtain ⟨e₂,a₂,w₂,hq₂,harr₂⟩:=ih i1 hlt C1 env1 σ1 a₁ hi1 (hE.trans hE1) hI1 he1
    exact ⟨e₂,a₂,w₂,hq₂,.of_steps (StepsIn.trans harr (.one (fenced_calm hb hroom rfl) stepR_inLoop)) harr₂⟩
   | exit id=>exact ⟨_,a₁,_,⟨C1,env1,σ1,rfl,hE.trans hE1,hI1,he1,hq⟩,.pass (x:=.inLoop c) rfl (fun _ _=>.inl (by simp)) harr⟩
   | goto l=>exact ⟨_,a₁,_,⟨C1,env1,σ1,rfl,hE.trans hE1,hI1,he1,hq⟩,.pass (x:=.inLoop c) rfl (fun _ _=>.inl (by simp)) harr⟩
   | ret=>exact ⟨_,a₁,_,⟨C1,env1,σ1,rfl,hE.trans hE1,hI1,he1,hq⟩,.pass (x:=.inLoop c) rfl (fun _ _=>.inl (by simp)) harr⟩
   | panic ch=>exact ⟨_,a₁,_,⟨C1,env1,σ1,rfl,hE.trans hE1,hI1,he1,hq⟩,.pass (x:=.inLoop c) rfl (fun _ _=>.inl (by simp)) harr⟩
   | outgrown=>exact ⟨_,a₁,_,⟨C1,env1,σ1,rfl,hE.trans hE1,hI1,he1,hq⟩,.pass (x:=.inLoop c) rfl (fun _ _=>.inl (by simp)) harr⟩
 obtain ⟨e,a',w',hq,harr⟩:=key n C env σ a h0 (Ext.refl C) hI he
 exact ⟨e,a',w',hq,.of_steps (.one (fenced_calm hb hroom rfl) stepR_loop) harr⟩
abbrev Orc:=FuncId→List AV→Za→Option (AV × Za)
def Orc.Good (P:Program) (O:Orc):Prop:=∀ (f:FuncId) (args:List AV) (σ:Za) (v:AV) (σ':Za),O f args σ=some (v,σ')→ACalls P f args σ fun v1 s1=>v1=v∧s1=σ'
def ev1 (P:Program) (call:Orc) (o:Oper) (t:List AV) (σ:Za):Option (AV × Za) :=
 match o.op with
 | .call { callee:=.value f,args,.. } =>
  (match Wa t f with
  | .fn (.func g) first caps=>call g (first++args.toList.map (Wa t)++caps) σ
  | _=>none)
 | _=>aop P t σ o
theorem Xbc {call:Orc} (hc:call.Good P) {o:Oper} {env:Env} {σ σ':Za} {v:AV} {K:AV→Za→Prop} (h:ev1 P call o env.t σ=some (v,σ')) (hk:K v σ'):aw1 P o K env σ:=by
 unfold ev1 at h
 unfold aw1
 split at h
 ·rename_i f args ts hop
  rw [hop]
  simp only
  split at h
  ·rename_i g first caps hg
   rw [hg]
   exact (hc _ _ _ _ _ h).mono fun _ _ ⟨h1,h2⟩=>h1▸h2▸hk
  ·cases h
 ·rename_i hne
  split
  ·rename_i f args ts hop
   exact absurd hop (hne f args ts)
  ·rw [h];exact hk
theorem Ub1 {call:Orc} {o:Oper} {t:List AV} {σ:Za} (hc:Zj o=false):ev1 P call o t σ=aop P t σ o:=by
 unfold ev1
 split
 ·rename_i f args ts hop
  unfold Zj at hc
  rw [hop] at hc
  cases hc
 ·rfl
theorem Vbx {call:Orc} (hc:call.Good P) {o:Oper} {env:Env} {σ σ':Za} {v:AV} (h:ev1 P call o env.t σ=some (v,σ')):Yi P o v σ' env σ:=Xbc hc h ⟨rfl,rfl⟩
def Yae (P:Program) (o:Oper):Bool:=match o.op with
 | .convert s d _=>!Van P s d
 | .move _ | .assign _ | .pick _ _ _ | .build _ _ | .load _ _ | .nilCheck _ | .binOp _ _ _ _ _ | .unOp _ _ _ | .lookup _ _ _ _ | .makeFunc _ _ _ | .slice _ _ _ _ _ | .fieldAddr _ _ _ | .field _ _ _ | .indexAddr _ _ _ | .index _ _ _ | .extract _ _=>true
 | .call { callee:=.builtin b,.. }=>(match b with | .len | .min | .max=>true | _=>false)
 | _=>false
theorem Ua6 {o:Oper} {t:List AV} {σ s:Za} {v:AV} (hl:Yae P o=true) (h:aop P t σ o=some (v,s)):s=σ:=by
 obtain ⟨dst,op,ty,pos,after,guard⟩:=o
 unfold Yae at hl
 cases op<;>simp only [Bool.false_eq_true] at hl<;>simp only [aop] at h
 case convert s d x =>
  unfold Zai at h
  split at h
  ·exact (Zk (α:=AV) h).2
  ·exact (Zk (α:=AV) h).2
  ·split at h
   ·rename_i ht
    rw [ht] at hl
    cases hl
   ·exact (Zk (α:=AV) h).2
  ·exact (Zk (α:=AV) h).2
 case call c =>
  obtain ⟨callee,args,ts⟩:=c
  cases callee<;>simp only [reduceCtorEq] at h hl
  rename_i b
  cases b<;>simp only [Bool.false_eq_true] at hl<;>unfold Wak at h
  all_goals
   split at h<;>first
    | (split at h
       · exact (Zk (α:=AV) h).2
       · cases h)
    | exact (Zk (α:=AV) h).2
    | cases h
    | (rename_i h1 _;cases h1)
 case pick =>
  split at h
  ·simp only [Option.some.injEq,Prod.mk.injEq] at h;exact h.2.symm
  ·cases h
 all_goals first
  | exact (Zk (α:=AV) h).2
  | (simp only [Option.some.injEq,Prod.mk.injEq] at h;exact h.2.symm)
theorem Xb9 {o:Oper} (hl:Yae P o=true):Zj o=false:=by
 obtain ⟨dst,op,ty,pos,after,guard⟩:=o
 cases op
 case call c =>
  obtain ⟨callee,args,ts⟩:=c
  cases callee<;>first
   | rfl
   | (exact absurd hl (by simp [Yae]))
 all_goals rfl
def AV.eqb:Nat→AV→AV→Bool
 | 0,_,_=>false
 | n+1,a,b=>match a,b with
  | .bool x,.bool y=>x == y
  | .int k x,.int k' y=>decide (k=k')&&decide (x=y)
  | .str x,.str y=>decide (x=y)
  | .nilp,.nilp=>true
  | .ptr r o,.ptr r' o'=>decide (r=r')&&decide (o=o')
  | .gl r,.gl r'=>decide (r=r')
  | .nils,.nils=>true
  | .emp,.emp=>true
  | .nn,.nn=>true
  | .nilm,.nilm=>true
  | .nilf,.nilf=>true
  | .nili,.nili=>true
  | .mp r,.mp r'=>decide (r=r')
  | .arr k r o l,.arr k' r' o' l'=>decide (k=k')&&decide (r=r')&&decide (o=o')&&decide (l=l')
  | .pl k l,.pl k' l'=>decide (k=k')&&decide (l.length=l'.length)&&(l.zip l').all fun p=>AV.eqb n p.1 p.2
  | .agg l,.agg l'=>decide (l.length=l'.length)&&(l.zip l').all fun p=>AV.eqb n p.1 p.2
  | .tup l,.tup l'=>decide (l.length=l'.length)&&(l.zip l').all fun p=>AV.eqb n p.1 p.2
  | .fn (.func f) x y,.fn (.func f') x' y'=>(decide (f=f')&&(decide (x.length=x'.length)&&(x.zip x').all fun p=>AV.eqb n p.1 p.2))&&(decide (y.length=y'.length)&&(y.zip y').all fun p=>AV.eqb n p.1 p.2)
  | _,_=>false
theorem eqL {f:AV→AV→Bool} (hf:∀ a b,f a b=true→a=b) {l l':List AV} (hl:l.length=l'.length) (h:(l.zip l').all (fun p=>f p.1 p.2)=true):l=l':=by
 induction l generalizing l' with
 | nil=>cases l' with
  | nil=>rfl
  | cons=>simp at hl
 | cons x l ih=>cases l' with
  | nil=>simp at hl
  | cons y l' =>
   simp only [List.zip_cons_cons,List.all_cons,Bool.and_eq_true] at h
   rw [hf _ _ h.1,ih (by simpa using hl) h.2]
theorem AV.eqb_eq:∀ (n:Nat) (a b:AV),AV.eqb n a b=true→a=b:=by
 intro n
 induction n with
 | zero=>intro a b h;cases h
 | succ n ih =>
  intro a b h
  unfold AV.eqb at h
  split at h
  all_goals simp only [Bool.and_eq_true,decide_eq_true_eq,beq_iff_eq,Bool.false_eq_true] at h
  all_goals first
   | rfl
   | (subst h;rfl)
   | (obtain ⟨rfl,rfl⟩:=h;rfl)
   | (obtain ⟨⟨⟨rfl,rfl⟩,rfl⟩,rfl⟩:=h;rfl)
   | (obtain ⟨⟨rfl,h1⟩,h2⟩:=h;rw [eqL ih h1 h2])
   | (obtain ⟨h1,h2⟩:=h;rw [eqL ih h1 h2])
   | (obtain ⟨⟨rfl,h1,h2⟩,h3,h4⟩:=h;rw [eqL ih h1 h2,eqL ih h3 h4])
def Vad (P:Program) (call:Orc) (ops:List Oper):List Oper→Env→Za→Option (Env × Za)
 | [],env,σ=>some (env,σ)
 | o::rest,env,σ =>
  match Wm ops env.t o.guard with
  | some none=>(match ev1 P call o env.t σ with
   | some (v,σ')=>Vad P call ops rest (env.put o.dst v) σ'
   | none=>none)
  | some (some (d,b,want)) =>
   if b == want then (match ev1 P call o (env.known d want).t σ with
    | some (v,σ')=>Vad P call ops rest ((env.known d want).put o.dst v) σ'
    | none=>none)
   else Vad P call ops rest ((env.known d (!want)).put o.dst (.tup [])) σ
  | none=>none
theorem Ucn {call:Orc} (hc:call.Good P) {ops:List Oper} {K:Env→Za→Prop}:∀ (l:List Oper) (env:Env) (σ:Za) (env':Env) (σ':Za),Vad P call ops l env σ=some (env',σ')→K env' σ'→aws P ops l K env σ:=by
 intro l
 induction l with
 | nil =>
  intro env σ env' σ' h hk
  simp only [Vad,Option.some.injEq,Prod.mk.injEq] at h
  rw [← h.1,← h.2] at hk
  exact hk
 | cons o l ih =>
  intro env σ env' σ' h hk
  unfold Vad at h
  unfold aws
  split at h
  ·rename_i hg
   rw [hg]
   simp only
   split at h
   ·rename_i v s hv
    exact Xbc hc hv (ih _ _ _ _ h hk)
   ·cases h
  ·rename_i d b want hg
   rw [hg]
   simp only
   split at h
   ·rename_i hb
    refine ⟨fun _=>?_,fun hf=>by rw [hf] at hb;cases hb⟩
    split at h
    ·rename_i v s hv
     exact Xbc hc hv (ih _ _ _ _ h hk)
    ·cases h
   ·rename_i hb
    exact ⟨fun ht=>absurd ht hb,fun _=>ih _ _ _ _ h hk⟩
  ·cases h
def evW (P:Program) (call:Orc) (ops:List Oper) (rs:List AV) (es:List Env) (ss:List Za) (x:Nat × Nat):Bool :=
 match ops[x.1]?,rs[x.1]?,es[x.1]?,ss[x.2]? with
 | some o,some v,some e,some s=>(match We ops e.t o.guard with
  | some false=>true
  | _=>Yae P o&&(match ev1 P call o e.t s with
   | some (v',_)=>AV.eqb 20 v' v
   | none=>false))
 | _,_,_,_=>false
def evD (P:Program) (call:Orc) (ops:List Oper) (H:List Nat) (W:List (Nat × Nat)):List Oper→Nat→Env→Za→List AV→List Env→List Za→Option (Env × Za)
 | [],_,env,s,rs,es,ss=>if W.all (evW P call ops rs es ss) then some (env,s) else none
 | o::rest,i,env,s,rs,es,ss =>
  match We ops env.t o.guard with
  | some true=>(match ev1 P call o env.t s with
   | some (v,s')=>if H.contains i then evD P call ops H W rest (i+1) (env.put o.dst v) s' (rs++[v]) (es++[env]) (ss++[s'])
    else if Yae P o then evD P call ops H W rest (i+1) (env.put o.dst v) s (rs++[v]) (es++[env]) ss else none
   | none=>none)
  | some false=>if H.contains i then evD P call ops H W rest (i+1) (env.put o.dst (.tup [])) s (rs++[.tup []]) (es++[env]) (ss++[s])
   else evD P call ops H W rest (i+1) (env.put o.dst (.tup [])) s (rs++[.tup []]) (es++[env]) ss
  | none=>none
theorem Zci {call:Orc} (hc:call.Good P) {ops:List Oper} {H:List Nat} {W:List (Nat × Nat)} {K:Env→Za→Prop}:∀ (l:List Oper) (i:Nat) (env:Env) (s:Za) (rs:List AV) (es:List Env) (ss:List Za) (env':Env) (s':Za),
  evD P call ops H W l i env s rs es ss=some (env',s')→K env' s'→adr P ops H W K l i env s rs es ss:=by
 intro l
 induction l with
 | nil =>
  intro i env s rs es ss env' s' h hk
  unfold evD at h
  split at h
  ·rename_i hW
   simp only [Option.some.injEq,Prod.mk.injEq] at h
   rw [← h.1,← h.2] at hk
   refine ⟨fun x hx=>?_,hk⟩
   have hx':=List.all_eq_true.1 hW x hx
   unfold evW at hx'
   split at hx'
   ·rename_i o v e s1 h1 h2 h3 h4
    rw [h1,h2,h3,h4]
    simp only
    split at hx'
    ·rename_i hg;exact .inl hg
    ·rw [Bool.and_eq_true] at hx'
     obtain ⟨hl,hx'⟩:=hx'
     split at hx'
     ·rename_i v' s2 hv
      obtain rfl:=AV.eqb_eq _ _ _ hx'
      obtain rfl:=Ua6 (P:=P) hl (by rw [← Ub1 (call:=call) (Xb9 hl)];exact hv)
      exact .inr (Vbx hc hv)
     ·cases hx'
   ·cases hx'
  ·cases h
 | cons o l ih =>
  intro i env s rs es ss env' s' h hk
  unfold evD at h
  unfold adr
  split at h
  ·rename_i hg
   rw [hg]
   simp only
   split at h
   ·rename_i v s1 hv
    refine .inr ?_
    cases hcall:Zj o with
    | true =>
     simp only [if_true]
     split at h
     ·rename_i hH
      rw [if_pos hH]
      exact ⟨v,s1,Vbx hc hv,ih _ _ _ _ _ _ _ _ h hk⟩
     ·split at h
      ·rename_i hl
       rw [Xb9 hl] at hcall
       cases hcall
      ·cases h
    | false =>
     have hop:=hv
     rw [Ub1 hcall] at hop
     simp only [Bool.false_eq_true,if_false]
     rw [hop]
     simp only
     split at h
     ·rename_i hH
      rw [if_pos hH]
      exact ih _ _ _ _ _ _ _ _ h hk
     ·rename_i hH
      rw [if_neg hH]
      split at h
      ·rename_i hl
       exact ⟨Ua6 hl hop,ih _ _ _ _ _ _ _ _ h hk⟩
      ·cases h
   ·cases h
  ·rename_i hg
   rw [hg]
   simp only
   split at h
   ·rename_i hH
    rw [if_pos hH]
    exact ih _ _ _ _ _ _ _ _ h hk
   ·rename_i hH
    rw [if_neg hH]
    exact ih _ _ _ _ _ _ _ _ h hk
  ·cases h
def Vch (P:Program) (ops:List Oper):List Nat:=(ops.zipIdx.filter fun p=>!Yae P p.1).map (·.2)
def Zfv (ops:List Oper) (H:List Nat):List (Nat × Nat) :=
 let ms:=Vh ops
 (List.range ops.length).flatMap fun i=>if H.contains i then [] else (List.range (H.length+1)).filterMap fun m =>
  if (m == H.countP (fun h=>decide (h<i)))||H.zipIdx.any (fun (h,p)=>(bef ms i h&&!decide (p<m))||(bef ms h i&&!decide (m≤p))) then none else some (i,m)
def evR (P:Program) (call:Orc) (ops:List Oper) (env:Env) (σ:Za):Option (Env × Za) :=
 let H:=Vch P ops
 let W:=Zfv ops H
 if Xo ops H&&Uab ops H W then evD P call ops H W ops 0 env σ [] [] [σ] else none
def evF (P:Program) (ev:Code→Env→Za→Option (Exit × Env × Za)) (f:FuncId) (args:List AV) (σ:Za):Option (AV × Za) :=
 match P.funcs[f]? with
 | some fn=>if fn.name == "runtime.NumGoroutine" then none else (match fn.body with
  | some c=>(match ev c { t:=te args fn.ntmps } σ with
   | some (e,env,σ')=>(match e with
    | .normal | .ret=>if env.m.isEmpty then (Up P fn.results.toList env.t σ').map (·,σ') else none
    | _=>none)
   | none=>none)
  | none=>none)
 | none=>none
def evC (P:Program) (O:Orc):Nat→Code→Env→Za→Option (Exit × Env × Za)
 | 0,_,_,_=>none
 | n+1,c,env,σ=>match c with
  | .skip=>some (.normal,env,σ)
  | .label _=>some (.normal,env,σ)
  | .exit id=>some (.exit id,env,σ)
  | .ret=>some (.ret,env,σ)
  | .region _ ops d =>
   (match (match d with
    | false=>Vad P (fun f args σ=>match O f args σ with
     | some r=>some r
     | none=>evF P (evC P O n) f args σ) ops.toList ops.toList env σ
    | true=>evR P (fun f args σ=>match O f args σ with
     | some r=>some r
     | none=>evF P (evC P O n) f args σ) ops.toList env σ) with
   | some (e,s)=>some (.normal,e,s)
   | none=>none)
  | .seq a b=>(match evC P O n a env σ with
   | some (e,env',σ')=>(match e with
    | .normal=>evC P O n b env' σ'
    | _=>some (e,env',σ'))
   | none=>none)
  | .cond x a b=>(match Wa env.t x with
   | .bool p=>(match p with
    | true=>evC P O n a (env.op x true) σ
    | false=>evC P O n b (env.op x false) σ)
   | _=>none)
  | .block id c=>(match evC P O n c env σ with
   | some (e,env',σ')=>(match e with
    | .exit id'=>if id'=id then some (.normal,env',σ') else some (e,env',σ')
    | _=>some (e,env',σ'))
   | none=>none)
  | .loop c=>(match evC P O n c env σ with
   | some (e,env',σ')=>(match e with
    | .normal=>evC P O n (.loop c) env' σ'
    | _=>some (e,env',σ'))
   | none=>none)
  | .scope c=>(match evC P O n c env σ with
   | some (e,env',σ')=>(match e with
    | .goto _=>none
    | _=>some (e,env',σ'))
   | none=>none)
  | _=>none
def Fix (e:Exit) (env:Env) (σ:Za):Exit→Env→Za→Prop:=fun e1 n1 s1=>e1=e∧n1=env∧s1=σ
def Zba (P:Program) (ev:Code→Env→Za→Option (Exit × Env × Za)):Prop:=∀ (c:Code) (env:Env) (σ:Za) (e:Exit) (env':Env) (σ':Za),ev c env σ=some (e,env',σ')→∀ rd,ACode P rd c (Fix e env' σ') env σ
theorem Wau {ev:Code→Env→Za→Option (Exit × Env × Za)} (h:Zba P ev):Orc.Good P (evF P ev):=by
 intro f args σ v σ' hf
 unfold evF at hf
 split at hf
 ·rename_i fn hfn
  split at hf
  ·cases hf
  ·rename_i hn
   split at hf
   ·rename_i c hb
    split at hf
    ·rename_i e env s hc
     have key:(if env.m.isEmpty then (Up P fn.results.toList env.t s).map (·,s) else none)=some (v,σ')→(∀ R:AV→Za→Prop,R v σ'→env.m=[]∧match Up P fn.results.toList env.t s with | some v=>R v s | none=>False):=by
      intro h2 R hR
      split at h2
      ·rename_i hm
       obtain ⟨h3,rfl⟩:=Zk (α:=AV) h2
       rw [h3]
       exact ⟨by simpa using hm,hR⟩
      ·cases h2
     refine Vao hfn hb (Zb hfn (by simpa using hn) (by rw [hb];rfl)) ((h _ _ _ _ _ _ hc none).mono ?_)
     rintro e1 n1 s1 ⟨rfl,rfl,rfl⟩
     split at hf
     ·exact key hf (fun v1 s1=>v1=v∧s1=σ') ⟨rfl,rfl⟩
     ·exact key hf (fun v1 s1=>v1=v∧s1=σ') ⟨rfl,rfl⟩
     ·cases hf
    ·cases hf
   ·cases hf
 ·cases hf
theorem Zbx {O:Orc} (hm:P.follows .mixedOrders=true) (hO:O.Good P):∀ n,Zba P (evC P O n):=by
 intro n
 induction n using Nat.strongRecOn with
 | _ n ih' =>
 cases n with
 | zero=>intro c env σ e env' σ' h;cases h
 | succ n =>
  have ih:=ih' n (Nat.lt_succ_self n)
  have hcall:Orc.Good P (fun f args σ=>match O f args σ with
    | some r=>some r
    | none=>evF P (evC P O n) f args σ):=by
   intro f args σ v σ' h
   simp only at h
   split at h
   ·rename_i r hr
    simp only [Option.some.injEq] at h
    subst h
    exact hO _ _ _ _ _ hr
   ·exact Wau ih _ _ _ _ _ h
  intro c env σ e env' σ' h rd
  unfold evC at h
  split at h
  ·simp only [Option.some.injEq,Prod.mk.injEq] at h;obtain ⟨rfl,rfl,rfl⟩:=h
   exact Vk (P:=P) .skip ⟨rfl,rfl,rfl⟩
  ·simp only [Option.some.injEq,Prod.mk.injEq] at h;obtain ⟨rfl,rfl,rfl⟩:=h
   exact Vk (P:=P) (.label _) ⟨rfl,rfl,rfl⟩
  ·simp only [Option.some.injEq,Prod.mk.injEq] at h;obtain ⟨rfl,rfl,rfl⟩:=h
   exact Vk (P:=P) (.exit _) ⟨rfl,rfl,rfl⟩
  ·simp only [Option.some.injEq,Prod.mk.injEq] at h;obtain ⟨rfl,rfl,rfl⟩:=h
   exact Vk (P:=P) .ret ⟨rfl,rfl,rfl⟩
  ·rename_i id ops d
   cases d with
   | false =>
    simp only at h
    split at h
    ·rename_i e1 s1 h1
     simp only [Option.some.injEq,Prod.mk.injEq] at h;obtain ⟨rfl,rfl,rfl⟩:=h
     exact Uba (Ucn hcall _ _ _ _ _ h1 ⟨rfl,rfl,rfl⟩)
    ·cases h
   | true =>
    simp only at h
    split at h
    ·rename_i e1 s1 h1
     simp only [Option.some.injEq,Prod.mk.injEq] at h;obtain ⟨rfl,rfl,rfl⟩:=h
     unfold evR at h1
     simp only at h1
     split at h1
     ·rename_i hok
      exact Wal _ _ hm hok (Zci hcall _ _ _ _ _ _ _ _ _ h1 ⟨rfl,rfl,rfl⟩)
     ·cases h1
    ·cases h
  ·rename_i a b
   split at h
   ·rename_i e1 n1 s1 h1
    refine Xaf ((ih _ _ _ _ _ _ h1 rd).mono ?_)
    rintro e2 n2 s2 ⟨rfl,rfl,rfl⟩
    split at h
    ·exact ih _ _ _ _ _ _ h rd
    ·rename_i hne
     simp only [Option.some.injEq,Prod.mk.injEq] at h;obtain ⟨rfl,rfl,rfl⟩:=h
     cases e2 with
     | normal=>exact absurd rfl hne
     | _=>exact ⟨rfl,rfl,rfl⟩
   ·cases h
  ·rename_i x a b
   split at h
   ·rename_i p hp
    split at h
    ·exact War hp (fun _=>ih _ _ _ _ _ _ h rd) (fun hf=>by cases hf)
    ·exact War hp (fun hf=>by cases hf) (fun _=>ih _ _ _ _ _ _ h rd)
   ·cases h
  ·rename_i id c
   split at h
   ·rename_i e1 n1 s1 h1
    refine Wbp ((ih _ _ _ _ _ _ h1 rd).mono ?_)
    rintro e2 n2 s2 ⟨rfl,rfl,rfl⟩
    split at h
    ·rename_i id'
     simp only [Vb]
     split at h
     ·rename_i hid
      rw [if_pos hid]
      simp only [Option.some.injEq,Prod.mk.injEq] at h;obtain ⟨rfl,rfl,rfl⟩:=h
      exact ⟨rfl,rfl,rfl⟩
     ·rename_i hid
      rw [if_neg hid]
      simp only [Option.some.injEq,Prod.mk.injEq] at h;obtain ⟨rfl,rfl,rfl⟩:=h
      exact ⟨rfl,rfl,rfl⟩
    ·rename_i hne
     simp only [Option.some.injEq,Prod.mk.injEq] at h;obtain ⟨rfl,rfl,rfl⟩:=h
     cases e2 with
     | exit id'=>exact absurd rfl (hne id')
     | _=>exact ⟨rfl,rfl,rfl⟩
   ·cases h
  ·rename_i c
   refine Ubk (n:=n+1) (fun m env σ=>m≤n+1∧evC P O m (.loop c) env σ=some (e,env',σ')) ⟨Nat.le_refl _,by unfold evC;exact h⟩ ?_
   rintro m env1 σ1 ⟨hm1,h1⟩
   cases m with
   | zero=>cases h1
   | succ j =>
    unfold evC at h1
    simp only at h1
    split at h1
    ·rename_i e1 n1 s1 h2
     refine (ih' j (by omega) _ _ _ _ _ _ h2 rd).mono ?_
     rintro e2 n2 s2 ⟨rfl,rfl,rfl⟩
     split at h1
     ·exact ⟨j,by omega,by omega,h1⟩
     ·rename_i hne
      simp only [Option.some.injEq,Prod.mk.injEq] at h1;obtain ⟨rfl,rfl,rfl⟩:=h1
      cases e2 with
      | normal=>exact absurd rfl hne
      | _=>exact ⟨rfl,rfl,rfl⟩
    ·cases h1
  ·rename_i c
   split at h
   ·rename_i e1 n1 s1 h1
    refine Vbb ((ih _ _ _ _ _ _ h1 rd).mono ?_)
    rintro e2 n2 s2 ⟨rfl,rfl,rfl⟩
    split at h
    ·cases h
    ·rename_i hne
     simp only [Option.some.injEq,Prod.mk.injEq] at h;obtain ⟨rfl,rfl,rfl⟩:=h
     cases e2 with
     | goto l=>exact absurd rfl (hne l)
     | _=>exact ⟨rfl,rfl,rfl⟩
   ·cases h
  ·cases h
theorem Inv.base0 {C:Ctx} {σ:Za} (hI:Inv C σ):Inv (C.frz 0 σ) []:=by
 have hI0:Inv { C with blk:=[] } []:=⟨rfl,hI.glob,hI.base,hI.basep,hI.plt,fun r b o h=>by simp at h,fun r r' b o o' h=>by simp at h⟩
 have hE:Ext { C with blk:=[] } C:=⟨rfl,⟨C.blk,by simp⟩,fun _ h=>h,fun _ _=>rfl,fun _ _ h=>h,Nat.le_refl _,fun _=>Nat.le_refl _⟩
 exact Inv.frz (σ:=[]) (g:=σ) hI0 hE hI
theorem Inv.back0 {C C':Ctx} {σ s:Za} (hI:Inv C σ) (hE:Ext (C.frz 0 σ) C') (hI':Inv C' s):Ext C (C.at_ C'.w)∧Inv (C.at_ C'.w) σ:=by
 have hE2:Ext C (C.at_ C'.w):=⟨rfl,⟨[],by simp [Ctx.at_]⟩,fun _ h=>h,fun b hb=>hE.keep b (.inl hb),fun b s hs=>hE.shape b s hs,hE.size,hE.drawn⟩
 refine ⟨hE2,hI.len,hI.glob,?_,hI.basep,fun b hb=>Nat.lt_of_lt_of_le (hI.plt b hb) hE.size,fun r b o hr ho hl=>?_,hI.inj⟩
 ·have:=hI'.base
  rw [hE.w0] at this
  exact this
 ·obtain ⟨hnp,c,hc,hR⟩:=hI.live r b o hr ho hl
  exact ⟨hnp,c,(hE.keep b (.inr ⟨r,o,Nat.zero_le r,hr,ho,hl⟩)).trans hc,hR.ext hE2⟩
theorem APure.closed {f:FuncId} {b:Bool} (h:ACalls P f [] [] fun v _=>v=.bool b):APure P f [] (.bool b):=by
 intro σ
 rcases h with h | h
 ·refine .inl ⟨h.1,fun C cargs hI hv=>(h.2 (C.frz 0 σ) cargs hI.base0 ?_).mono ?_⟩
  ·obtain rfl:=hv.of_nil
   exact .nil _
  ·rintro e w' ⟨v,C',av,σ',rfl,rfl,hE,hI',hv',rfl⟩
   obtain ⟨h1,h2⟩:=hI.back0 hE hI'
   rw [hv'.bool_inv]
   exact ⟨_,C.at_ C'.w,_,σ,rfl,rfl,h1,h2,.bool b,rfl,rfl⟩
 ·refine .inr fun C cargs hI hv=>?_
  obtain rfl:=hv.of_nil
  obtain ⟨v,C',av,σ',hr,hE,hI',hv',rfl⟩:=h (C.frz 0 σ) [] hI.base0 (.nil _)
  obtain ⟨h1,h2⟩:=hI.back0 hE hI'
  rw [hv'.bool_inv] at hr
  exact ⟨_,C.at_ C'.w,_,σ,hr,h1,h2,.bool b,rfl,rfl⟩
def Uaz (r:Option (AV × Za)):Bool:=match r with
 | some (.bool b,_)=>b
 | _=>false
theorem APure.run {O:Orc} {f:FuncId} (n:Nat) (hm:P.follows .mixedOrders=true) (hO:O.Good P) (h:Uaz (evF P (evC P O n) f [] [])=true):APure P f [] (.bool true):=by
 unfold Uaz at h
 split at h
 ·rename_i b s hr
  subst h
  exact .closed ((Wau (Zbx hm hO n) f [] [] _ _ hr).mono fun _ _ h=>h.1)
 ·cases h
end Ab
namespace Ab
open Go Go.RowKit
variable [Mode]
variable {P:Program}
def awv (P:Program) (ops:List Oper) (H:List Nat) (W:List (Nat × Nat)) (K:Env→Za→Prop):List Oper→Nat→Env→Za→List Za→List (Nat × Oper × AV × Env)→Prop
 | [],_,env,σ,ss,pd=>(∀ x∈W,x.2<ss.length)∧(∀ x∈pd,∃ s,ss[x.1]? = some s∧Yi P x.2.1 x.2.2.1 s x.2.2.2 s)∧K env σ
 | o::rest,i,env,σ,ss,pd =>
  match Wm ops env.t o.guard with
  | some none=>if H.contains i then (W.any fun x=>x.1 == i)=false∧Xb P o (fun v s=>awv P ops H W K rest (i+1) (env.put o.dst v) s (ss++[s]) pd) env σ
    else Ua P o (fun v=>awv P ops H W K rest (i+1) (env.put o.dst v) σ ss (pd++(W.filter fun x=>x.1 == i).map fun x=>(x.2,o,v,env))) env σ
  | some (some (_,b,want))=>Cs (b == want)
    (if H.contains i then (W.any fun x=>x.1 == i)=false∧Xb P o (fun v s=>awv P ops H W K rest (i+1) (env.put o.dst v) s (ss++[s]) pd) env σ
    else Ua P o (fun v=>awv P ops H W K rest (i+1) (env.put o.dst v) σ ss (pd++(W.filter fun x=>x.1 == i).map fun x=>(x.2,o,v,env))) env σ)
    (awv P ops H W K rest (i+1) (env.put o.dst (.tup [])) σ (if H.contains i then ss++[σ] else ss) pd)
  | none=>False
def Owed (ops:List Oper) (rs:List AV) (es:List Env) (pd:List (Nat × Oper × AV × Env)) (x:Nat × Nat):Prop :=
 ∃ o v e,ops[x.1]? = some o∧rs[x.1]? = some v∧es[x.1]? = some e∧(We ops e.t o.guard=some false∨(x.2,o,v,e)∈pd)
theorem Owed.more {ops:List Oper} {rs rs':List AV} {es es':List Env} {pd pd':List (Nat × Oper × AV × Env)} {x:Nat × Nat} (h:Owed ops rs es pd x):Owed ops (rs++rs') (es++es') (pd++pd') x :=
 let ⟨o,v,e,h1,h2,h3,h4⟩:=h;⟨o,v,e,h1,Wae h2,Wae h3,h4.imp id fun h=>List.mem_append_left _ h⟩
theorem Zb9 {ops:List Oper} {H:List Nat} {W:List (Nat × Nat)} {K:Env→Za→Prop} (hW:∀ x∈W,x.1<ops.length):∀ (l pre:List Oper) (env:Env) (s:Za) (rs:List AV) (es:List Env) (ss:List Za) (pd:List (Nat × Oper × AV × Env)),
  ops=pre++l→rs.length=pre.length→es.length=pre.length→(∀ x∈W,x.1<pre.length→Owed ops rs es pd x)→awv P ops H W K l pre.length env s ss pd→adr P ops H W K l pre.length env s rs es ss:=by
 intro l
 induction l with
 | nil =>
  intro pre env s rs es ss pd ho _ _ hs h
  refine ⟨fun x hx=>?_,h.2.2⟩
  obtain ⟨o,v,e,h1,h2,h3,h4⟩:=hs x hx (by have:=hW x hx;rw [ho] at this;simpa using this)
  rw [h1,h2,h3,Qze (h.1 x hx)]
  rcases h4 with h4 | h4
  ·exact .inl h4
  ·obtain ⟨s',h5,h6⟩:=h.2.1 _ h4
   simp only at h5
   rw [Qze (h.1 x hx)] at h5
   obtain rfl:=Option.some.inj h5
   exact .inr h6
 | cons o l ih =>
  intro pre env s rs es ss pd ho hr he hs h
  have ho2:ops=(pre++[o])++l:=by rw [ho];simp
  have hoi:ops[pre.length]? = some o:=by rw [ho];simp
  have hlen:(pre++[o]).length=pre.length+1:=by simp
  have next:∀ (v:AV) (s':Za) (ss':List Za) (pd':List (Nat × Oper × AV × Env)),(∀ x∈W,x.1=pre.length→Owed ops (rs++[v]) (es++[env]) (pd++pd') x)→awv P ops H W K l (pre.length+1) (env.put o.dst v) s' (ss++ss') (pd++pd')→adr P ops H W K l (pre.length+1) (env.put o.dst v) s' (rs++[v]) (es++[env]) (ss++ss'):=by
   intro v s' ss' pd' hc hw
   rw [← hlen] at hw ⊢
   refine ih (pre++[o]) _ _ _ _ _ _ ho2 (by simp [hr]) (by simp [he]) (fun x hx hlt=>?_) hw
   rw [hlen] at hlt
   rcases Qzn x.1 pre.length with h1 | h1
   ·exact (hs x hx h1).more
   ·exact hc x hx (by omega)
  have owed:∀ (v:AV) (pd':List (Nat × Oper × AV × Env)) (x:Nat × Nat),x.1=pre.length→(We ops env.t o.guard=some false∨(x.2,o,v,env)∈pd++pd')→Owed ops (rs++[v]) (es++[env]) (pd++pd') x:=by
   intro v pd' x hx h2
   exact ⟨o,v,env,by rw [hx];exact hoi,by rw [hx,← hr];simp,by rw [hx,← he];simp,h2⟩
  have go:(if H.contains pre.length then (W.any fun x=>x.1 == pre.length)=false∧Xb P o (fun v s=>awv P ops H W K l (pre.length+1) (env.put o.dst v) s (ss++[s]) pd) env s
    else Ua P o (fun v=>awv P ops H W K l (pre.length+1) (env.put o.dst v) s ss (pd++(W.filter fun x=>x.1 == pre.length).map fun x=>(x.2,o,v,env))) env s) →
    ((∃ v,(isLit o&&!H.contains pre.length)=true∧Lit P o v env∧adr P ops H W K l (pre.length+1) (env.put o.dst v) s (rs++[v]) (es++[env]) ss) ∨
    if Zj o then
    (if H.contains pre.length then ∃ v s',Yi P o v s' env s∧adr P ops H W K l (pre.length+1) (env.put o.dst v) s' (rs++[v]) (es++[env]) (ss++[s'])
     else ∃ v,Yi P o v s env s∧adr P ops H W K l (pre.length+1) (env.put o.dst v) s (rs++[v]) (es++[env]) ss)
   else
    (match aop P env.t s o with
     | some (v,s')=>if H.contains pre.length then adr P ops H W K l (pre.length+1) (env.put o.dst v) s' (rs++[v]) (es++[env]) (ss++[s'])
        else s'=s∧adr P ops H W K l (pre.length+1) (env.put o.dst v) s (rs++[v]) (es++[env]) ss
     | none=>False)):=by
   intro h1
   have nocall:Zj o=false→∀ (K:AV→Za→Prop),aw1 P o K env s→∃ v s',aop P env.t s o=some (v,s')∧K v s':=by
    intro hc K h1
    unfold aw1 at h1
    split at h1
    ·rename_i f args ts hop
     unfold Zj at hc
     rw [hop] at hc
     cases hc
    ·split at h1
     ·rename_i v s' hop
      exact ⟨v,s',hop,h1⟩
     ·cases h1
   cases hH:H.contains pre.length with
   | true =>
    rw [hH] at h1
    refine .inr ?_
    simp only [if_true] at h1 ⊢
    obtain ⟨hno,h1⟩:=h1
    have hnone:∀ (v:AV) (pd':List (Nat × Oper × AV × Env)),∀ x∈W,x.1=pre.length→Owed ops (rs++[v]) (es++[env]) (pd++pd') x:=fun v pd' x hx hxi=>by
     have:(W.any fun x=>x.1 == pre.length)=true:=List.any_eq_true.2 ⟨x,hx,by simpa using hxi⟩
     rw [this] at hno;cases hno
    unfold Xb at h1
    cases hc:Zj o with
    | true =>
     rw [hc] at h1
     simp only [if_true] at h1 ⊢
     obtain ⟨v,s',h2,h3⟩:=h1
     exact ⟨v,s',h2,next v s' [s'] [] (hnone v _) (by simpa using h3)⟩
    | false =>
     rw [hc] at h1
     simp only [Bool.false_eq_true,if_false] at h1 ⊢
     obtain ⟨v,s',hop,h3⟩:=nocall hc _ h1
     rw [hop]
     exact next v s' [s'] [] (hnone v _) (by simpa using h3)
   | false =>
    rw [hH] at h1
    simp only [Bool.false_eq_true,if_false] at h1 ⊢
    have hck:∀ (v:AV),∀ x∈W,x.1=pre.length→Owed ops (rs++[v]) (es++[env]) (pd++(W.filter fun x=>x.1 == pre.length).map fun x=>(x.2,o,v,env)) x:=fun v x hx hxi=>by
     refine owed v _ x hxi (.inr (List.mem_append_right _ (List.mem_map.2 ⟨x,?_,rfl⟩)))
     rw [List.mem_filter]
     exact ⟨hx,by simpa using hxi⟩
    unfold Ua at h1
    cases hlit:isLit o with
    | true =>
     rw [hlit,if_pos rfl] at h1
     obtain ⟨v,h2,h4⟩:=Va1 h1
     have:=next v s [] _ (hck v) (by simpa using h4)
     exact .inl ⟨v,rfl,.ofV h2,by simpa using this⟩
    | false =>
    refine .inr ?_
    rw [hlit] at h1
    cases hc:Zj o with
    | true =>
     rw [hc] at h1
     simp only [Bool.false_eq_true,if_false,if_true] at h1 ⊢
     obtain ⟨v,h2,h4⟩:=h1
     have:=next v s [] _ (hck v) (by simpa using h4)
     exact ⟨v,h2,by simpa using this⟩
    | false =>
     rw [hc] at h1
     simp only [Bool.false_eq_true,if_false] at h1 ⊢
     obtain ⟨v,s',hop,rfl,h4⟩:=nocall hc _ h1
     rw [hop]
     have:=next v s' [] _ (hck v) (by simpa using h4)
     exact ⟨rfl,by simpa using this⟩
  unfold awv at h
  unfold adr We
  split at h
  ·rename_i hg
   rw [hg]
   exact go h
  ·rename_i d b want hg
   rw [hg]
   simp only
   cases hb:(b == want) with
   | true=>exact go (h.1 hb)
   | false =>
    have h1:=h.2 hb
    have hgf:We ops env.t o.guard=some false:=by unfold We;rw [hg];simp [hb]
    have hck:∀ (pd':List (Nat × Oper × AV × Env)),∀ x∈W,x.1=pre.length→Owed ops (rs++[.tup []]) (es++[env]) (pd++pd') x:=fun pd' x hx hxi=>owed _ pd' x hxi (.inl hgf)
    simp only
    split
    ·rename_i hH
     rw [if_pos hH] at h1
     exact next _ s [s] [] (hck _) (by simpa using h1)
    ·rename_i hH
     rw [if_neg hH] at h1
     have:=next _ s [] [] (hck _) (by simpa using h1)
     simpa using this
  ·cases h
theorem Uce {rd:Option Nat} {id:Nat} {opsA:Array Oper} {Q:Exit→Env→Za→Prop} {env:Env} {σ:Za} (H:List Nat) (W:List (Nat × Nat)) (hm:P.follows .mixedOrders=true)
  (hok:(Xo opsA.toList H&&Uab opsA.toList H W)=true) (hW:(W.all fun x=>decide (x.1<opsA.toList.length))=true)
  (h:awv P opsA.toList H W (Q .normal) opsA.toList 0 env σ [σ] []):@StC _ P rd ⟨.region id opsA true⟩ ⟨Q⟩ env σ :=
 Wal H W hm hok (Zb9 (fun x hx=>by simpa using List.all_eq_true.1 hW x hx) opsA.toList [] _ _ _ _ _ _ rfl rfl rfl (fun x _ hlt=>by simp at hlt) h)
section
variable {ops l:List Oper} {o:Oper} {H:List Nat} {W:List (Nat × Nat)} {K:Env→Za→Prop} {env env':Env} {σ σ':Za} {i:Nat} {ss ss':List Za} {pd pd':List (Nat × Oper × AV × Env)} {v v':AV}
@[congr] theorem Uiu (h:env=env') (h':σ=σ') (h2:ss=ss') (h3:pd=pd'):awv P ops H W K l i env σ ss pd=awv P ops H W K l i env' σ' ss' pd':=by rw [h,h',h2,h3]
theorem Xdt:awv P ops H W K [] i env σ ss pd=((∀ x∈W,x.2<ss.length)∧(∀ x∈pd,∃ s,ss[x.1]? = some s∧Yi P x.2.1 x.2.2.1 s x.2.2.2 s)∧K env σ):=(rfl)
def Ohv (P:Program) (ops:List Oper) (H:List Nat) (W:List (Nat × Nat)) (K:Env→Za→Prop) (o:Oper) (rest:List Oper) (i:Nat) (env:Env) (σ:Za) (ss:List Za) (pd:List (Nat × Oper × AV × Env)) (h:Bool):Prop :=
 if h then (W.any fun x=>x.1 == i)=false∧Xb P o (fun v s=>awv P ops H W K rest (i+1) (env.put o.dst v) s (ss++[s]) pd) env σ
 else Ua P o (fun v=>awv P ops H W K rest (i+1) (env.put o.dst v) σ ss (pd++(W.filter fun x=>x.1 == i).map fun x=>(x.2,o,v,env))) env σ
@[congr] theorem Zin {h h':Bool} (e:h=h'):Ohv P ops H W K o l i env σ ss pd h=Ohv P ops H W K o l i env σ ss pd h':=by rw [e]
theorem Vfs:Ohv P ops H W K o l i env σ ss pd true=((W.any fun x=>x.1 == i)=false∧Xb P o (fun v s=>awv P ops H W K l (i+1) (env.put o.dst v) s (ss++[s]) pd) env σ):=by simp [Ohv]
theorem Zed:Ohv P ops H W K o l i env σ ss pd false=Ua P o (fun v=>awv P ops H W K l (i+1) (env.put o.dst v) σ ss (pd++(W.filter fun x=>x.1 == i).map fun x=>(x.2,o,v,env))) env σ:=by simp [Ohv]
def Ogv (P:Program) (ops:List Oper) (H:List Nat) (W:List (Nat × Nat)) (K:Env→Za→Prop) (o:Oper) (rest:List Oper) (i:Nat) (env:Env) (σ:Za) (ss:List Za) (pd:List (Nat × Oper × AV × Env)) (g:Option (Option (Option Tmp × Bool × Bool))):Prop:=match g with
 | some none=>Ohv P ops H W K o rest i env σ ss pd (H.contains i)
 | some (some (_,b,want))=>Cs (b == want) (Ohv P ops H W K o rest i env σ ss pd (H.contains i)) (awv P ops H W K rest (i+1) (env.put o.dst (.tup [])) σ (if H.contains i then ss++[σ] else ss) pd)
 | none=>False
@[congr] theorem Wiv {g g':Option (Option (Option Tmp × Bool × Bool))} (h:g=g'):Ogv P ops H W K o l i env σ ss pd g=Ogv P ops H W K o l i env σ ss pd g':=by rw [h]
theorem Wfs {d:Option Tmp} {b want:Bool}:Ogv P ops H W K o l i env σ ss pd (some (some (d,b,want)))=@CsT (b == want) ⟨Ohv P ops H W K o l i env σ ss pd (H.contains i)⟩ ⟨awv P ops H W K l (i+1) (env.put o.dst (.tup [])) σ (if H.contains i then ss++[σ] else ss) pd⟩:=(rfl)
variable {dst:Option Tmp} {ty:TypeId} {pos:String} {after:Array Edge} {op:Op}
theorem Wd9:awv P ops H W K (⟨dst,op,ty,pos,after,none⟩::l) i env σ ss pd=Ohv P ops H W K ⟨dst,op,ty,pos,after,none⟩ l i env σ ss pd (H.contains i):=(rfl)
theorem Yda {j:Nat} {w:Bool}:awv P ops H W K (⟨dst,op,ty,pos,after,some (j,w)⟩::l) i env σ ss pd=Ogv P ops H W K ⟨dst,op,ty,pos,after,some (j,w)⟩ l i env σ ss pd (Wm ops env.t (some (j,w))):=(rfl)
end
attribute [simp] Xdt Wd9 Yda Vfs Zed Wfs
end Ab

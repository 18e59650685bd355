/-
  Texts packed for a claim.
-/
import Derived.Test.YtdifgaapdnbliaaGreatDoorS00
import Derived.Test.YtdifgaapdnbliaaGreatDoorS06
set_option linter.all false
namespace Ab
open Go Go.RowKit
variable [Mode]
variable {P:Program}
def Xc (P:Program) (o:Oper) (K:AV→Za→Prop) (env:Env) (σ:Za):Prop :=
 if Ui o then ∃ v s,Wh P o v s env σ∧K v s else aw1 P o K env σ
def awh (P:Program) (ops:List Oper) (H:List Nat) (K:Env→Za→Prop):List Oper→Nat→Env→Za→Prop
 | [],_,env,σ=>K env σ
 | o::rest,i,env,σ =>
  match Wl ops env.t o.guard with
  | some none=>if H.contains i then Xc P o (fun v s=>awh P ops H K rest (i+1) (env.put o.dst v) s) env σ else Ub P o (fun v=>awh P ops H K rest (i+1) (env.put o.dst v) σ) env σ
  | some (some (_,b,want))=>Cs (b == want) (if H.contains i then Xc P o (fun v s=>awh P ops H K rest (i+1) (env.put o.dst v) s) env σ else Ub P o (fun v=>awh P ops H K rest (i+1) (env.put o.dst v) σ) env σ) (awh P ops H K rest (i+1) (env.put o.dst (.tup [])) σ)
  | none=>False
theorem Uem {ops:List Oper} {H:List Nat} {K:Env→Za→Prop}:∀ (l:List Oper) (i:Nat) (env:Env) (s:Za) (rs:List AV) (es:List Env) (ss:List Za),awh P ops H K l i env s→adr P ops H [] K l i env s rs es ss:=by
 intro l
 induction l with
 | nil=>intro i env s rs es ss h;exact ⟨fun x hx=>by simp at hx,h⟩
 | cons o l ih =>
  intro i env s rs es ss h
  have go:(if H.contains i then Xc P o (fun v s=>awh P ops H K l (i+1) (env.put o.dst v) s) env s else Ub P o (fun v=>awh P ops H K l (i+1) (env.put o.dst v) s) env s) →
    ((∃ v,(isLit o&&!H.contains i)=true∧Lit P o v env∧adr P ops H [] K l (i+1) (env.put o.dst v) s (rs++[v]) (es++[env]) ss) ∨
    if Ui o then
    (if H.contains i then ∃ v s',Wh P o v s' env s∧adr P ops H [] K l (i+1) (env.put o.dst v) s' (rs++[v]) (es++[env]) (ss++[s'])
     else ∃ v,Wh P o v s env s∧adr P ops H [] K l (i+1) (env.put o.dst v) s (rs++[v]) (es++[env]) ss)
   else
    (match aop P env.t s o with
     | some (v,s')=>if H.contains i then adr P ops H [] K l (i+1) (env.put o.dst v) s' (rs++[v]) (es++[env]) (ss++[s'])
        else s'=s∧adr P ops H [] K l (i+1) (env.put o.dst v) s (rs++[v]) (es++[env]) ss
     | none=>False)):=by
   intro h1
   by_cases hlit:(isLit o&&!H.contains i)=true
   ·rw [Bool.and_eq_true,Bool.not_eq_true'] at hlit
    rw [hlit.2] at h1
    simp only [Bool.false_eq_true,if_false] at h1
    unfold Ub at h1
    rw [hlit.1,if_pos rfl] at h1
    obtain ⟨v,h2,h3⟩:=Ya5 h1
    exact .inl ⟨v,by rw [hlit.1,hlit.2];rfl,.ofV h2,ih _ _ _ _ _ _ h3⟩
   refine .inr ?_
   have hnl:H.contains i=false→isLit o=false:=fun h=>by
    rw [h] at hlit
    simpa using hlit
   cases hc:Ui o with
   | true =>
    simp only [if_true]
    cases hH:H.contains i with
    | true =>
     rw [hH] at h1
     simp only [if_true] at h1 ⊢
     unfold Xc at h1
     rw [hc] at h1
     simp only [if_true] at h1
     obtain ⟨v,s',h2,h3⟩:=h1
     exact ⟨v,s',h2,ih _ _ _ _ _ _ h3⟩
    | false =>
     rw [hH] at h1
     simp only [Bool.false_eq_true,if_false] at h1 ⊢
     unfold Ub at h1
     rw [hc,hnl hH] at h1
     simp only [Bool.false_eq_true,if_false,if_true] at h1
     obtain ⟨v,h2,h3⟩:=h1
     exact ⟨v,h2,ih _ _ _ _ _ _ h3⟩
   | false =>
    simp only [Bool.false_eq_true,if_false]
    have nocall:∀ (K:AV→Za→Prop),aw1 P o K env s→∃ v s',aop P env.t s o=some (v,s')∧K v s':=by
     intro K h1
     unfold aw1 at h1
     split at h1
     ·rename_i f args ts hop
      unfold Ui at hc
      rw [hop] at hc
      cases hc
     ·split at h1
      ·rename_i v s' hop
       exact ⟨v,s',hop,h1⟩
      ·cases h1
    cases hH:H.contains i with
    | true =>
     rw [hH] at h1
     simp only [if_true] at h1 ⊢
     unfold Xc at h1
     rw [hc] at h1
     simp only [Bool.false_eq_true,if_false] at h1
     obtain ⟨v,s',hop,h3⟩:=nocall _ h1
     rw [hop]
     exact ih _ _ _ _ _ _ h3
    | false =>
     rw [hH] at h1
     simp only [Bool.false_eq_true,if_false] at h1 ⊢
     unfold Ub at h1
     rw [hc,hnl hH] at h1
     simp only [Bool.false_eq_true,if_false] at h1
     obtain ⟨v,s',hop,rfl,h3⟩:=nocall _ h1
     rw [hop]
     exact ⟨rfl,ih _ _ _ _ _ _ h3⟩
  unfold awh at h
  unfold adr Zf
  split at h
  ·rename_i hg
   rw [hg]
   exact go h
  ·rename_i d b want hg
   rw [hg]
   simp only
   cases hb:(b == want) with
   | true=>exact go (h.1 hb)
   | false =>
    have:=ih (i+1) (env.put o.dst (.tup [])) s (rs++[.tup []]) (es++[env])
    simp only
    split
    ·exact this _ (h.2 hb)
    ·exact this _ (h.2 hb)
  ·cases h
theorem Xv {rd:Option Nat} {id:Nat} {opsA:Array Oper} {Q:Exit→Env→Za→Prop} {env:Env} {σ:Za} (H:List Nat) (hm:P.follows .mixedOrders=true) (hok:(Wo opsA.toList H&&Xad opsA.toList H [])=true)
  (h:awh P opsA.toList H (Q .normal) opsA.toList 0 env σ):@StC _ P rd ⟨.region id opsA true⟩ ⟨Q⟩ env σ :=
 Xat H [] hm hok (Uem _ _ _ _ _ _ _ h)
section
variable {ops l:List Oper} {o:Oper} {H:List Nat} {K:Env→Za→Prop} {Kh:AV→Za→Prop} {env env':Env} {σ σ':Za} {i:Nat}
@[congr] theorem Wfh (h:env=env') (h':σ=σ'):awh P ops H K l i env σ=awh P ops H K l i env' σ':=by rw [h,h']
@[congr] theorem Yfe (h:env=env') (h':σ=σ'):Xc P o Kh env σ=Xc P o Kh env' σ':=by rw [h,h']
theorem Uef:awh P ops H K [] i env σ=K env σ:=(rfl)
def Ohd (P:Program) (ops:List Oper) (H:List Nat) (K:Env→Za→Prop) (o:Oper) (rest:List Oper) (i:Nat) (env:Env) (σ:Za) (h:Bool):Prop :=
 if h then Xc P o (fun v s=>awh P ops H K rest (i+1) (env.put o.dst v) s) env σ else Ub P o (fun v=>awh P ops H K rest (i+1) (env.put o.dst v) σ) env σ
@[congr] theorem Ue8 {h h':Bool} (e:h=h'):Ohd P ops H K o l i env σ h=Ohd P ops H K o l i env σ h':=by rw [e]
theorem Udu:Ohd P ops H K o l i env σ true=Xc P o (fun v s=>awh P ops H K l (i+1) (env.put o.dst v) s) env σ:=by simp [Ohd]
theorem Ueb:Ohd P ops H K o l i env σ false=Ub P o (fun v=>awh P ops H K l (i+1) (env.put o.dst v) σ) env σ:=by simp [Ohd]
def Ogh (P:Program) (ops:List Oper) (H:List Nat) (K:Env→Za→Prop) (o:Oper) (rest:List Oper) (i:Nat) (env:Env) (σ:Za) (g:Option (Option (Option Tmp × Bool × Bool))):Prop:=match g with
 | some none=>Ohd P ops H K o rest i env σ (H.contains i)
 | some (some (_,b,want))=>Cs (b == want) (Ohd P ops H K o rest i env σ (H.contains i)) (awh P ops H K rest (i+1) (env.put o.dst (.tup [])) σ)
 | none=>False
@[congr] theorem Ue6 {g g':Option (Option (Option Tmp × Bool × Bool))} (h:g=g'):Ogh P ops H K o l i env σ g=Ogh P ops H K o l i env σ g':=by rw [h]
theorem Vcs {d:Option Tmp} {b want:Bool}:Ogh P ops H K o l i env σ (some (some (d,b,want)))=@CsT (b == want) ⟨Ohd P ops H K o l i env σ (H.contains i)⟩ ⟨awh P ops H K l (i+1) (env.put o.dst (.tup [])) σ⟩:=(rfl)
variable {dst:Option Tmp} {ty:TypeId} {pos:String} {after:Array Edge} {op:Op} {g:Option (Nat × Bool)}
theorem Zdj:awh P ops H K (⟨dst,op,ty,pos,after,none⟩::l) i env σ=Ohd P ops H K ⟨dst,op,ty,pos,after,none⟩ l i env σ (H.contains i):=(rfl)
theorem Ud1 {j:Nat} {w:Bool}:awh P ops H K (⟨dst,op,ty,pos,after,some (j,w)⟩::l) i env σ=Ogh P ops H K ⟨dst,op,ty,pos,after,some (j,w)⟩ l i env σ (Wl ops env.t (some (j,w))):=(rfl)
theorem Yam (h:Ui o=false):Xc P o Kh env σ=aw1 P o Kh env σ:=by unfold Xc;rw [h];simp
theorem Xea {e:TypeId}:Xc P ⟨dst,.alloc e,ty,pos,after,g⟩ Kh env σ=Om ((tz P e).bind fun z=>Wt z σ) Kh:=by rw [Yam rfl,Wa8]
theorem Xe3 {e:TypeId} {x:Operand}:Xc P ⟨dst,.box e x,ty,pos,after,g⟩ Kh env σ=Om (Wt (Va env.t x) σ) Kh:=by rw [Yam rfl,Vbz]
theorem Wdf {e:TypeId} {n:Nat} {ps:Array (Nat × Operand)}:Xc P ⟨dst,.buildSlice e n ps,ty,pos,after,g⟩ Kh env σ=Om (Vae P e n (ps.toList.map fun p=>(p.1,Va env.t p.2)) σ) Kh:=by rw [Yam rfl,Ycl]
theorem Xc5 {e:TypeId} {x y:Operand}:Xc P ⟨dst,.store e x y,ty,pos,after,g⟩ Kh env σ=Om ((Wac P e (Va env.t x) (Va env.t y) σ).map (AV.any,·)) Kh:=by rw [Yam rfl,Ubr]
theorem Wed {b:Builtin} {args:Array Operand} {ts:Array TypeId}:Xc P ⟨dst,.call { callee:=.builtin b,args:=args,argTypes:=ts },ty,pos,after,g⟩ Kh env σ=Om (Zam P b ts (args.toList.map (Va env.t)) σ) Kh:=by rw [Yam rfl,Wbg]
theorem Yd4 {e:TypeId}:Xc P ⟨dst,.makeMap e none,ty,pos,after,g⟩ Kh env σ=Om (Zap P e σ) Kh:=by rw [Yam rfl,Xb6]
end
theorem Va4 {P:Program} {σ:Za} {g:FuncId} {args xs ys:List AV} {v:AV} {Kv:AV→Prop} (h:ACalls P g (xs++args++ys) σ fun v' s=>v'=v∧s=σ) (hk:Kv v):@Ou _ P (.fn (.func g) xs ys) args σ ⟨Kv⟩:=⟨v,h,hk⟩
attribute [simp] Uef Zdj Ud1 Udu Ueb Vcs Xea Xe3 Wdf Xc5 Wed Yd4
end Ab
namespace Ab
open Go Go.RowKit
variable [Mode]
variable {P:Program}
def Zbh (Q:Exit→Env→Za→Prop):Exit→Env→Za→Prop
 | .goto _,_,_=>False
 | e,env,σ=>Q e env σ
theorem Yaw {P:Program} {b:Frame} {a:Act} {k:List Item} {cs:List Frame} {w:World} {c:Code}:step P (lone (b.atR a (.code (.scope c)::k)) cs w)=.next (lone (b.atR a (.code c::.inScope c::k)) cs w) :=
 step_lone_go (by simp [stepG,stepG.exec,Frame.atR])
theorem Vet {P:Program} {b:Frame} {a:Act} {k:List Item} {cs:List Frame} {w:World} {c:Code}:step P (lone (b.atR a (.inScope c::k)) cs w)=.next (lone (b.atR a k) cs w) :=
 step_lone_go (by simp [stepG,stepG.exec,Frame.atR])
theorem Xbk {rd:Option Nat} {c:Code} {Q:Exit→Env→Za→Prop} {env:Env} {σ:Za} (h:ACode P rd c (Zbh Q) env σ):ACode P rd (.scope c) Q env σ:=by
 intro C a ro hI he hr b k cs hro hb hroom
 obtain ⟨e,a₁,w₁,⟨C1,env1,σ1,rfl,hE1,hI1,he1,hq⟩,harr⟩:=h C a ro hI he hr b (.inScope c::k) cs hro hb hroom
 have h0:(lone (b.atR a (.code (.scope c)::k)) cs C.w).fenced P (WF ro):=fenced_calm hb hroom rfl
 cases e with
 | normal =>
  exact ⟨.normal,a₁,_,⟨C1,env1,σ1,rfl,hE1,hI1,he1,hq⟩,.of_steps (.one h0 Yaw) (StepsIn.trans harr (.one (fenced_calm hb hroom rfl) Vet))⟩
 | exit id =>
  refine ⟨.exit id,a₁,_,⟨C1,env1,σ1,rfl,hE1,hI1,he1,hq⟩,.of_steps (.one h0 Yaw) ⟨fun k' hk=>harr.1 k' (by simp [exitTo,hk]),fun hr hk=>?_⟩⟩
  exact harr.2 hr (by simpa [exitTo] using hk)
 | goto l=>exact hq.elim
 | ret=>exact ⟨_,a₁,_,⟨C1,env1,σ1,rfl,hE1,hI1,he1,hq⟩,.of_steps (.one h0 Yaw) harr⟩
 | panic ch=>exact ⟨_,a₁,_,⟨C1,env1,σ1,rfl,hE1,hI1,he1,hq⟩,.of_steps (.one h0 Yaw) harr⟩
 | outgrown=>exact ⟨_,a₁,_,⟨C1,env1,σ1,rfl,hE1,hI1,he1,hq⟩,.of_steps (.one h0 Yaw) harr⟩
theorem Wbq {rd:Option Nat} {c:Code} {Q:Exit→Env→Za→Prop} {env:Env} {σ:Za} (h:awp P rd c (Zbh Q) env σ):@StC _ P rd ⟨.scope c⟩ ⟨Q⟩ env σ:=Xbk (Yl c h)
theorem Vdu {rd:Option Nat} {c:Code} {Q:Exit→Env→Za→Prop} {env:Env} {σ:Za}:awp P rd (.scope c) Q env σ=@StC _ P rd ⟨.scope c⟩ ⟨Q⟩ env σ:=(rfl)
attribute [simp] Vdu Zbh
end Ab
namespace Ab
open Go Go.RowKit
variable [Mode]
variable {P:Program}
def chk (P:Program) (W:List (Nat × Nat)) (i:Nat) (o:Oper) (v:AV) (env:Env) (ss:List Za):Prop :=
 ∀ x∈W,x.1=i→(∃ s,ss[x.2]? = some s∧Wh P o v s env s)∨∀ s,Wh P o v s env s
def awl (P:Program) (ops:List Oper) (H:List Nat) (W:List (Nat × Nat)) (K:Env→Za→Prop):List Oper→Nat→Env→Za→List Za→Prop
 | [],_,env,σ,ss=>(∀ x∈W,x.2<ss.length)∧K env σ
 | o::rest,i,env,σ,ss =>
  match Wl ops env.t o.guard with
  | some none=>if H.contains i then (W.any fun x=>x.1 == i)=false∧Xc P o (fun v s=>awl P ops H W K rest (i+1) (env.put o.dst v) s (ss++[s])) env σ
    else Ub P o (fun v=>chk P W i o v env ss∧awl P ops H W K rest (i+1) (env.put o.dst v) σ ss) env σ
  | some (some (_,b,want))=>Cs (b == want)
    (if H.contains i then (W.any fun x=>x.1 == i)=false∧Xc P o (fun v s=>awl P ops H W K rest (i+1) (env.put o.dst v) s (ss++[s])) env σ
    else Ub P o (fun v=>chk P W i o v env ss∧awl P ops H W K rest (i+1) (env.put o.dst v) σ ss) env σ)
    (awl P ops H W K rest (i+1) (env.put o.dst (.tup [])) σ (if H.contains i then ss++[σ] else ss))
  | none=>False
def Seen (P:Program) (ops:List Oper) (rs:List AV) (es:List Env) (ss:List Za) (x:Nat × Nat):Prop :=
 ∃ o v e,ops[x.1]? = some o∧rs[x.1]? = some v∧es[x.1]? = some e∧(Zf ops e.t o.guard=some false∨(∃ s,ss[x.2]? = some s∧Wh P o v s e s)∨∀ s,Wh P o v s e s)
theorem Vf {α:Type} {l m:List α} {i:Nat} {a:α} (h:l[i]? = some a):(l++m)[i]? = some a:=by
 rw [Qzl (Qzs.1 h).1];exact h
theorem Seen.more {ops:List Oper} {rs rs':List AV} {es es':List Env} {ss ss':List Za} {x:Nat × Nat} (h:Seen P ops rs es ss x):Seen P ops (rs++rs') (es++es') (ss++ss') x :=
 let ⟨o,v,e,h1,h2,h3,h4⟩:=h;⟨o,v,e,h1,Vf h2,Vf h3,h4.imp id (Or.imp (fun ⟨s,h5,h6⟩=>⟨s,Vf h5,h6⟩) id)⟩
theorem Ueu {ops:List Oper} {H:List Nat} {W:List (Nat × Nat)} {K:Env→Za→Prop} (hW:∀ x∈W,x.1<ops.length):∀ (l pre:List Oper) (env:Env) (s:Za) (rs:List AV) (es:List Env) (ss:List Za),
  ops=pre++l→rs.length=pre.length→es.length=pre.length→(∀ x∈W,x.1<pre.length→Seen P ops rs es ss x)→awl P ops H W K l pre.length env s ss→adr P ops H W K l pre.length env s rs es ss:=by
 intro l
 induction l with
 | nil =>
  intro pre env s rs es ss ho _ _ hs h
  refine ⟨fun x hx=>?_,h.2⟩
  obtain ⟨o,v,e,h1,h2,h3,h4⟩:=hs x hx (by have:=hW x hx;rw [ho] at this;simpa using this)
  rw [h1,h2,h3,Qze (h.1 x hx)]
  rcases h4 with h4 | ⟨s',h5,h6⟩ | h4
  ·exact .inl h4
  ·rw [Qze (h.1 x hx)] at h5
   simp only [Option.some.injEq] at h5
   exact .inr (h5▸h6)
  ·exact .inr (h4 _)
 | cons o l ih =>
  intro pre env s rs es ss ho hr he hs h
  have ho2:ops=(pre++[o])++l:=by rw [ho];simp
  have hoi:ops[pre.length]? = some o:=by rw [ho];simp
  have hlen:(pre++[o]).length=pre.length+1:=by simp
  have next:∀ (v:AV) (s':Za) (ss':List Za),(∀ x∈W,x.1=pre.length→Seen P ops (rs++[v]) (es++[env]) (ss++ss') x)→awl P ops H W K l (pre.length+1) (env.put o.dst v) s' (ss++ss')→adr P ops H W K l (pre.length+1) (env.put o.dst v) s' (rs++[v]) (es++[env]) (ss++ss'):=by
   intro v s' ss' hc hw
   rw [← hlen] at hw ⊢
   refine ih (pre++[o]) _ _ _ _ _ ho2 (by simp [hr]) (by simp [he]) (fun x hx hlt=>?_) hw
   rw [hlen] at hlt
   rcases Qzn x.1 pre.length with h1 | h1
   ·exact (hs x hx h1).more
   ·exact hc x hx (by omega)
  have seen:∀ (v:AV) (ss':List Za) (x:Nat × Nat),x.1=pre.length→(Zf ops env.t o.guard=some false∨(∃ s,ss[x.2]? = some s∧Wh P o v s env s)∨∀ s,Wh P o v s env s)→Seen P ops (rs++[v]) (es++[env]) (ss++ss') x:=by
   intro v ss' x hx h2
   exact ⟨o,v,env,by rw [hx];exact hoi,by rw [hx,← hr];simp,by rw [hx,← he];simp,h2.imp id (Or.imp (fun ⟨s,h5,h6⟩=>⟨s,Vf h5,h6⟩) id)⟩
  have go:(if H.contains pre.length then (W.any fun x=>x.1 == pre.length)=false∧Xc P o (fun v s=>awl P ops H W K l (pre.length+1) (env.put o.dst v) s (ss++[s])) env s
    else Ub P o (fun v=>chk P W pre.length o v env ss∧awl P ops H W K l (pre.length+1) (env.put o.dst v) s ss) env s) →
    ((∃ v,(isLit o&&!H.contains pre.length)=true∧Lit P o v env∧adr P ops H W K l (pre.length+1) (env.put o.dst v) s (rs++[v]) (es++[env]) ss) ∨
    if Ui o then
    (if H.contains pre.length then ∃ v s',Wh P o v s' env s∧adr P ops H W K l (pre.length+1) (env.put o.dst v) s' (rs++[v]) (es++[env]) (ss++[s'])
     else ∃ v,Wh P o v s env s∧adr P ops H W K l (pre.length+1) (env.put o.dst v) s (rs++[v]) (es++[env]) ss)
   else
    (match aop P env.t s o with
     | some (v,s')=>if H.contains pre.length then adr P ops H W K l (pre.length+1) (env.put o.dst v) s' (rs++[v]) (es++[env]) (ss++[s'])
        else s'=s∧adr P ops H W K l (pre.length+1) (env.put o.dst v) s (rs++[v]) (es++[env]) ss
     | none=>False)):=by
   intro h1
   have nocall:Ui o=false→∀ (K:AV→Za→Prop),aw1 P o K env s→∃ v s',aop P env.t s o=some (v,s')∧K v s':=by
    intro hc K h1
    unfold aw1 at h1
    split at h1
    ·rename_i f args ts hop
     unfold Ui at hc
     rw [hop] at hc
     cases hc
    ·split at h1
     ·rename_i v s' hop
      exact ⟨v,s',hop,h1⟩
     ·cases h1
   cases hH:H.contains pre.length with
   | true =>
    rw [hH] at h1
    refine .inr ?_
    simp only [if_true] at h1 ⊢
    obtain ⟨hno,h1⟩:=h1
    have hnone:∀ (v:AV) (ss':List Za),∀ x∈W,x.1=pre.length→Seen P ops (rs++[v]) (es++[env]) (ss++ss') x:=fun v ss' x hx hxi=>by
     have:(W.any fun x=>x.1 == pre.length)=true:=List.any_eq_true.2 ⟨x,hx,by simpa using hxi⟩
     rw [this] at hno;cases hno
    unfold Xc at h1
    cases hc:Ui o with
    | true =>
     rw [hc] at h1
     simp only [if_true] at h1 ⊢
     obtain ⟨v,s',h2,h3⟩:=h1
     exact ⟨v,s',h2,next v s' [s'] (hnone v _) h3⟩
    | false =>
     rw [hc] at h1
     simp only [Bool.false_eq_true,if_false] at h1 ⊢
     obtain ⟨v,s',hop,h3⟩:=nocall hc _ h1
     rw [hop]
     exact next v s' [s'] (hnone v _) h3
   | false =>
    rw [hH] at h1
    simp only [Bool.false_eq_true,if_false] at h1 ⊢
    have hck:∀ (v:AV),chk P W pre.length o v env ss→∀ x∈W,x.1=pre.length→Seen P ops (rs++[v]) (es++[env]) (ss++[]) x:=fun v hcv x hx hxi=>by
     exact seen v [] x hxi (.inr (hcv x hx hxi))
    unfold Ub at h1
    cases hlit:isLit o with
    | true =>
     rw [hlit,if_pos rfl] at h1
     obtain ⟨v,h2,h3,h4⟩:=Ya5 h1
     have:=next v s [] (hck v h3) (by simpa using h4)
     exact .inl ⟨v,rfl,.ofV h2,by simpa using this⟩
    | false =>
    refine .inr ?_
    rw [hlit] at h1
    cases hc:Ui o with
    | true =>
     rw [hc] at h1
     simp only [Bool.false_eq_true,if_false,if_true] at h1 ⊢
     obtain ⟨v,h2,h3,h4⟩:=h1
     have:=next v s [] (hck v h3) (by simpa using h4)
     exact ⟨v,h2,by simpa using this⟩
    | false =>
     rw [hc] at h1
     simp only [Bool.false_eq_true,if_false] at h1 ⊢
     obtain ⟨v,s',hop,rfl,h3,h4⟩:=nocall hc _ h1
     rw [hop]
     have:=next v s' [] (hck v h3) (by simpa using h4)
     exact ⟨rfl,by simpa using this⟩
  unfold awl at h
  unfold adr Zf
  split at h
  ·rename_i hg
   rw [hg]
   exact go h
  ·rename_i d b want hg
   rw [hg]
   simp only
   cases hb:(b == want) with
   | true=>exact go (h.1 hb)
   | false =>
    have h1:=h.2 hb
    have hgf:Zf ops env.t o.guard=some false:=by unfold Zf;rw [hg];simp [hb]
    have hck:∀ (ss':List Za),∀ x∈W,x.1=pre.length→Seen P ops (rs++[.tup []]) (es++[env]) (ss++ss') x:=fun ss' x hx hxi=>by
     exact seen _ ss' x hxi (.inl hgf)
    simp only
    split
    ·rename_i hH
     rw [if_pos hH] at h1
     exact next _ s [s] (hck _) h1
    ·rename_i hH
     rw [if_neg hH] at h1
     have:=next _ s [] (hck _) (by simpa using h1)
     simpa using this
  ·cases h
theorem Zaw {rd:Option Nat} {id:Nat} {opsA:Array Oper} {Q:Exit→Env→Za→Prop} {env:Env} {σ:Za} (H:List Nat) (W:List (Nat × Nat)) (hm:P.follows .mixedOrders=true)
  (hok:(Wo opsA.toList H&&Xad opsA.toList H W)=true) (hW:(W.all fun x=>decide (x.1<opsA.toList.length))=true)
  (h:awl P opsA.toList H W (Q .normal) opsA.toList 0 env σ [σ]):@StC _ P rd ⟨.region id opsA true⟩ ⟨Q⟩ env σ :=
 Xat H W hm hok (Ueu (fun x hx=>by simpa using List.all_eq_true.1 hW x hx) opsA.toList [] _ _ _ _ _ rfl rfl rfl (fun x _ hlt=>by simp at hlt) h)
section
variable {ops l:List Oper} {o:Oper} {H:List Nat} {W:List (Nat × Nat)} {K:Env→Za→Prop} {env env':Env} {σ σ':Za} {i:Nat} {ss ss':List Za} {v v':AV}
@[congr] theorem Ufb (h:env=env') (h':σ=σ') (h2:ss=ss'):awl P ops H W K l i env σ ss=awl P ops H W K l i env' σ' ss':=by rw [h,h',h2]
@[congr] theorem Zfg (h:env=env') (h':v=v') (h2:ss=ss'):chk P W i o v env ss=chk P W i o v' env' ss':=by rw [h,h',h2]
theorem Vd7:awl P ops H W K [] i env σ ss=((∀ x∈W,x.2<ss.length)∧K env σ):=(rfl)
def Ohl (P:Program) (ops:List Oper) (H:List Nat) (W:List (Nat × Nat)) (K:Env→Za→Prop) (o:Oper) (rest:List Oper) (i:Nat) (env:Env) (σ:Za) (ss:List Za) (h:Bool):Prop :=
 if h then (W.any fun x=>x.1 == i)=false∧Xc P o (fun v s=>awl P ops H W K rest (i+1) (env.put o.dst v) s (ss++[s])) env σ
 else Ub P o (fun v=>chk P W i o v env ss∧awl P ops H W K rest (i+1) (env.put o.dst v) σ ss) env σ
@[congr] theorem Vfm {h h':Bool} (e:h=h'):Ohl P ops H W K o l i env σ ss h=Ohl P ops H W K o l i env σ ss h':=by rw [e]
theorem Ycs:Ohl P ops H W K o l i env σ ss true=((W.any fun x=>x.1 == i)=false∧Xc P o (fun v s=>awl P ops H W K l (i+1) (env.put o.dst v) s (ss++[s])) env σ):=by simp [Ohl]
theorem Wc6:Ohl P ops H W K o l i env σ ss false=Ub P o (fun v=>chk P W i o v env ss∧awl P ops H W K l (i+1) (env.put o.dst v) σ ss) env σ:=by simp [Ohl]
def Ogl (P:Program) (ops:List Oper) (H:List Nat) (W:List (Nat × Nat)) (K:Env→Za→Prop) (o:Oper) (rest:List Oper) (i:Nat) (env:Env) (σ:Za) (ss:List Za) (g:Option (Option (Option Tmp × Bool × Bool))):Prop:=match g with
 | some none=>Ohl P ops H W K o rest i env σ ss (H.contains i)
 | some (some (_,b,want))=>Cs (b == want) (Ohl P ops H W K o rest i env σ ss (H.contains i)) (awl P ops H W K rest (i+1) (env.put o.dst (.tup [])) σ (if H.contains i then ss++[σ] else ss))
 | none=>False
@[congr] theorem Xfh {g g':Option (Option (Option Tmp × Bool × Bool))} (h:g=g'):Ogl P ops H W K o l i env σ ss g=Ogl P ops H W K o l i env σ ss g':=by rw [h]
theorem Xdm {d:Option Tmp} {b want:Bool}:Ogl P ops H W K o l i env σ ss (some (some (d,b,want)))=@CsT (b == want) ⟨Ohl P ops H W K o l i env σ ss (H.contains i)⟩ ⟨awl P ops H W K l (i+1) (env.put o.dst (.tup [])) σ (if H.contains i then ss++[σ] else ss)⟩:=(rfl)
variable {dst:Option Tmp} {ty:TypeId} {pos:String} {after:Array Edge} {op:Op} {g:Option (Nat × Bool)}
theorem Yej:awl P ops H W K (⟨dst,op,ty,pos,after,none⟩::l) i env σ ss=Ohl P ops H W K ⟨dst,op,ty,pos,after,none⟩ l i env σ ss (H.contains i):=(rfl)
theorem Yee {j:Nat} {w:Bool}:awl P ops H W K (⟨dst,op,ty,pos,after,some (j,w)⟩::l) i env σ ss=Ogl P ops H W K ⟨dst,op,ty,pos,after,some (j,w)⟩ l i env σ ss (Wl ops env.t (some (j,w))):=(rfl)
def OuH (P:Program) (f:AV) (args:List AV) (σ:Za) [K:Hd (AV→Za→Prop)]:Prop:=∃ v s,Oa P f args σ (fun v' s'=>v'=v∧s'=s)∧K.v v s
theorem Vi {g:FuncId} {args xs ys:List AV} {v:AV} {s:Za} {K:AV→Za→Prop} (h:ACalls P g (xs++args++ys) σ fun v' s'=>v'=v∧s'=s) (hk:K v s):@OuH _ P (.fn (.func g) xs ys) args σ ⟨K⟩:=⟨v,s,h,hk⟩
theorem Vdn {f:Operand} {args:Array Operand} {ts:Array TypeId} {K:AV→Za→Prop}:Xc P ⟨dst,.call { callee:=.value f,args:=args,argTypes:=ts },ty,pos,after,g⟩ K env σ=@OuH _ P (Va env.t f) (args.toList.map (Va env.t)) σ ⟨K⟩:=by
 unfold Xc
 rw [show Ui ⟨dst,.call { callee:=.value f,args:=args,argTypes:=ts },ty,pos,after,g⟩=true from rfl]
 simp only [if_true,Wh,Zbi]
 rfl
end
theorem Vd {P:Program} {σ:Za} {g:FuncId} {args:List AV} {v:AV} {Kv:AV→Prop} (h:APure P g args v) (hk:Kv v):@Ou _ P (.fn (.func g) [] []) args σ ⟨Kv⟩:=⟨v,by
 show ACalls P g ([]++args++[]) σ _
 rw [List.nil_append,List.append_nil]
 exact h σ,hk⟩
theorem Zai {P:Program} {σ:Za} {g:FuncId} {args:List AV} {v:AV} {Kv:AV→Prop} (h:ACalls P g args σ fun v' s=>v'=v∧s=σ) (hk:Kv v):@Ou _ P (.fn (.func g) [] []) args σ ⟨Kv⟩:=⟨v,by
 show ACalls P g ([]++args++[]) σ _
 rw [List.nil_append,List.append_nil]
 exact h,hk⟩
attribute [simp] Vd7 Yej Yee Ycs Wc6 Xdm Vdn chk Wh
end Ab
namespace Ab
open Go Go.RowKit
variable [Mode]
variable {P:Program}
def QRo (r:Nat) (K:AV→Za→Prop) (o o':AObj):Exit→Env→Za→Prop
 | .normal,_,σ=>σ[r]? = some o'∧K (.bool true) (σ.set r o)
 | _,_,_=>False
def QBe (P:Program) (r:Nat) (body:Code) (K:AV→Za→Prop) (o o':AObj):Exit→Env→Za→Prop
 | .normal,env,σ=>σ[r]? = some o∧awp P (some r) body (QRo r K o o') env (σ.set r o')
 | _,_,_=>False
section
variable {r:Nat} {body:Code} {K:AV→Za→Prop} {o o':AObj} {e:Exit} {env env':Env} {σ σ':Za}
@[congr] theorem Vfb (h:env=env') (h':σ=σ'):QRo r K o o' e env σ=QRo r K o o' e env' σ':=by rw [h,h']
@[congr] theorem Yfp (h:env=env') (h':σ=σ'):QBe P r body K o o' e env σ=QBe P r body K o o' e env' σ':=by rw [h,h']
theorem Uep:QRo r K o o' .normal env σ=(σ[r]? = some o'∧K (.bool true) (σ.set r o)):=(rfl)
theorem Ud7:QBe P r body K o o' .normal env σ=(σ[r]? = some o∧awp P (some r) body (QRo r K o o') env (σ.set r o')):=(rfl)
theorem Zec (t:List AV) (l:List AV):Wak [] l t=t:=(rfl)
theorem Ud8 (p:Tmp) (ps:List Tmp) (a:AV) (l t:List AV):Wak (p::ps) (a::l) t=Wak ps l (ts t p a):=(rfl)
theorem AYield.round {args:List AV} {fn:FuncId} {t:List AV} {ps:Array Tmp} {assign:Code} {D:Nat} (ho:o=.loop fn t ps assign body .ready none D) (hr:σ[r]? = some o) (hl:args.length=ps.size)
  (h:∀ o',awp P (some r) assign (QBe P r body K o o') { t:=Wak ps.toList args t } σ):AYield P r args σ K:=by
 subst ho
 unfold AYield
 rw [hr]
 refine ⟨hl,?_⟩
 refine (Yl _ (h (.loop fn t ps assign body .busy none D))).mono fun e env s hq=>?_
 cases e with
 | normal =>
  obtain ⟨h1,h2⟩:=hq
  unfold QBegin
  simp only [h1,true_and]
  refine (Yl _ h2).mono fun e env s hq=>?_
  cases e with
  | normal =>
   obtain ⟨h3,h4⟩:=hq
   unfold QRound
   simp only [h3]
   exact h4
  | _=>cases hq
 | _=>cases hq
end
def Wm:Nat→Code→Code × Code
 | n+1,.seq a b=>(.seq a (Wm n b).1,(Wm n b).2)
 | _,c=>(.skip,c)
section
variable {rd:Option Nat} {a b c:Code} {Q:Exit→Env→Za→Prop} {env:Env} {σ:Za} {n:Nat}
theorem Wbd:awp P rd (Wm 0 c).1 Q env σ=Q .normal env σ:=by cases c<;>rfl
theorem Ubk:awp P rd (Wm (n+1) (.seq a b)).1 Q env σ=awp P rd a (Zc (awp P rd (Wm n b).1 Q) Q) env σ:=(rfl)
theorem Zcf:awp P rd (Wm (n+1) (.seq a b)).2 Q env σ=awp P rd (Wm n b).2 Q env σ:=(rfl)
theorem Wco:awp P rd (Wm 0 c).2 Q env σ=awp P rd c Q env σ:=by cases c<;>rfl
theorem Udf (I:Env→Za→Prop) (h2:∀ (env:Env) (σ:Za),I env σ→awp P rd (Wm n c).2 Q env σ) (h1:awp P rd (Wm n c).1 (Zc I Q) env σ):ACode P rd c Q env σ:=by
 induction n generalizing c env σ with
 | zero =>
  rw [Wbd] at h1
  have:=h2 _ _ h1
  rw [Wco] at this
  exact Yl _ this
 | succ n ih =>
  have skip:(Wm (n+1) c)=(.skip,c)→ACode P rd c Q env σ:=by
   intro e
   rw [e] at h1 h2
   exact Yl _ (h2 _ _ h1)
  cases c with
  | seq a b =>
   refine Zax ((Yl _ (Ubk▸h1)).mono fun e env s hq=>?_)
   cases e with
   | normal=>exact ih (fun env σ h=>Zcf▸h2 env σ h) hq
   | _=>exact hq
  | _=>exact skip rfl
end
theorem Zb9 {g:Operand} {ps:Array Tmp} {assign body:Code} {Q:Exit→Env→Za→Prop} {env:Env} {σ:Za} {gf:FuncId} {first caps:List AV} (r q:Nat) (hr:σ.length=r) (hq:r+1=q) (hg:Va env.t g=.fn (.func gf) first caps)
  (h:∀ fn D o σ2,o=.loop fn env.t ps assign body .ready none D→Vaz (some o)=True→σ2=σ++[.deferred,o]→AEnter P gf (first++[.yld q]++caps) σ2
   (fun _ σ'=>Vaz σ'[q]?∧Q .normal { env with m:=r::env.m } (σ'.set q .dead))):@StC _ P none ⟨.rangeFunc g ps assign body⟩ ⟨Q⟩ env σ:=by
 subst hr
 subst hq
 exact Zc8 hg fun fn D=>h fn D _ _ rfl (Ude _ _ _ _ _ _) rfl
theorem Wbs {f:FuncId} {fn:Func} {c:Code} {args:List AV} {σ:Za} {R:AV→Za→Prop} (n:Nat) (I:Env→Za→Prop) (hf:P.funcs[f]? = some fn) (hb:fn.body=some c) (hen:Enters P f)
  (h1:awp P none (Wm n c).1 (Zc I (Zd P fn R)) { t:=te args fn.ntmps } σ) (h2:∀ (env:Env) (σ:Za),I env σ→awp P none (Wm n c).2 (Zd P fn R) env σ):ACalls P f args σ R :=
 Xbz hf hb hen (Udf I h2 h1)
attribute [simp] Wbd Ubk Zcf Wco Zd Uep Ud7 Zec Ud8
end Ab

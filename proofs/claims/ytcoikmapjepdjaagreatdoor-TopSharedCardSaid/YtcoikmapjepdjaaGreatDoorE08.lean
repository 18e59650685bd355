/-
  Texts packed for a claim.
-/
import Derived.Test.YtcoikmapjepdjaaGreatDoorE00
import Derived.Test.YtcoikmapjepdjaaGreatDoorE07
set_option linter.all false
namespace Ab
open Go Go.RowKit
variable [Mode]
variable {P:Program}
def Xb (P:Program) (o:Oper) (K:AV→Za→Prop) (env:Env) (σ:Za):Prop :=
 if Zj o then ∃ v s,Yi P o v s env σ∧K v s else aw1 P o K env σ
def awh (P:Program) (ops:List Oper) (H:List Nat) (K:Env→Za→Prop):List Oper→Nat→Env→Za→Prop
 | [],_,env,σ=>K env σ
 | o::rest,i,env,σ =>
  match Wm ops env.t o.guard with
  | some none=>if H.contains i then Xb P o (fun v s=>awh P ops H K rest (i+1) (env.put o.dst v) s) env σ else Ua P o (fun v=>awh P ops H K rest (i+1) (env.put o.dst v) σ) env σ
  | some (some (_,b,want))=>Cs (b == want) (if H.contains i then Xb P o (fun v s=>awh P ops H K rest (i+1) (env.put o.dst v) s) env σ else Ua P o (fun v=>awh P ops H K rest (i+1) (env.put o.dst v) σ) env σ) (awh P ops H K rest (i+1) (env.put o.dst (.tup [])) σ)
  | none=>False
theorem Wen {ops:List Oper} {H:List Nat} {K:Env→Za→Prop}:∀ (l:List Oper) (i:Nat) (env:Env) (s:Za) (rs:List AV) (es:List Env) (ss:List Za),awh P ops H K l i env s→adr P ops H [] K l i env s rs es ss:=by
 intro l
 induction l with
 | nil=>intro i env s rs es ss h;exact ⟨fun x hx=>by simp at hx,h⟩
 | cons o l ih =>
  intro i env s rs es ss h
  have go:(if H.contains i then Xb P o (fun v s=>awh P ops H K l (i+1) (env.put o.dst v) s) env s else Ua P o (fun v=>awh P ops H K l (i+1) (env.put o.dst v) s) env s) →
    ((∃ v,(isLit o&&!H.contains i)=true∧Lit P o v env∧adr P ops H [] K l (i+1) (env.put o.dst v) s (rs++[v]) (es++[env]) ss) ∨
    if Zj o then
    (if H.contains i then ∃ v s',Yi P o v s' env s∧adr P ops H [] K l (i+1) (env.put o.dst v) s' (rs++[v]) (es++[env]) (ss++[s'])
     else ∃ v,Yi P o v s env s∧adr P ops H [] K l (i+1) (env.put o.dst v) s (rs++[v]) (es++[env]) ss)
   else
    (match aop P env.t s o with
     | some (v,s')=>if H.contains i then adr P ops H [] K l (i+1) (env.put o.dst v) s' (rs++[v]) (es++[env]) (ss++[s'])
        else s'=s∧adr P ops H [] K l (i+1) (env.put o.dst v) s (rs++[v]) (es++[env]) ss
     | none=>False)):=by
   intro h1
   by_cases hlit:(isLit o&&!H.contains i)=true
   ·rw [Bool.and_eq_true,Bool.not_eq_true'] at hlit
    rw [hlit.2] at h1
    simp only [Bool.false_eq_true,if_false] at h1
    unfold Ua at h1
    rw [hlit.1,if_pos rfl] at h1
    obtain ⟨v,h2,h3⟩:=Va1 h1
    exact .inl ⟨v,by rw [hlit.1,hlit.2];rfl,.ofV h2,ih _ _ _ _ _ _ h3⟩
   refine .inr ?_
   have hnl:H.contains i=false→isLit o=false:=fun h=>by
    rw [h] at hlit
    simpa using hlit
   cases hc:Zj o with
   | true =>
    simp only [if_true]
    cases hH:H.contains i with
    | true =>
     rw [hH] at h1
     simp only [if_true] at h1 ⊢
     unfold Xb at h1
     rw [hc] at h1
     simp only [if_true] at h1
     obtain ⟨v,s',h2,h3⟩:=h1
     exact ⟨v,s',h2,ih _ _ _ _ _ _ h3⟩
    | false =>
     rw [hH] at h1
     simp only [Bool.false_eq_true,if_false] at h1 ⊢
     unfold Ua at h1
     rw [hc,hnl hH] at h1
     simp only [Bool.false_eq_true,if_false,if_true] at h1
     obtain ⟨v,h2,h3⟩:=h1
     exact ⟨v,h2,ih _ _ _ _ _ _ h3⟩
   | false =>
    simp only [Bool.false_eq_true,if_false]
    have nocall:∀ (K:AV→Za→Prop),aw1 P o K env s→∃ v s',aop P env.t s o=some (v,s')∧K v s':=by
     intro K h1
     unfold aw1 at h1
     split at h1
     ·rename_i f args ts hop
      unfold Zj at hc
      rw [hop] at hc
      cases hc
     ·split at h1
      ·rename_i v s' hop
       exact ⟨v,s',hop,h1⟩
      ·cases h1
    cases hH:H.contains i with
    | true =>
     rw [hH] at h1
     simp only [if_true] at h1 ⊢
     unfold Xb at h1
     rw [hc] at h1
     simp only [Bool.false_eq_true,if_false] at h1
     obtain ⟨v,s',hop,h3⟩:=nocall _ h1
     rw [hop]
     exact ih _ _ _ _ _ _ h3
    | false =>
     rw [hH] at h1
     simp only [Bool.false_eq_true,if_false] at h1 ⊢
     unfold Ua at h1
     rw [hc,hnl hH] at h1
     simp only [Bool.false_eq_true,if_false] at h1
     obtain ⟨v,s',hop,rfl,h3⟩:=nocall _ h1
     rw [hop]
     exact ⟨rfl,ih _ _ _ _ _ _ h3⟩
  unfold awh at h
  unfold adr We
  split at h
  ·rename_i hg
   rw [hg]
   exact go h
  ·rename_i d b want hg
   rw [hg]
   simp only
   cases hb:(b == want) with
   | true=>exact go (h.1 hb)
   | false =>
    have:=ih (i+1) (env.put o.dst (.tup [])) s (rs++[.tup []]) (es++[env])
    simp only
    split
    ·exact this _ (h.2 hb)
    ·exact this _ (h.2 hb)
  ·cases h
theorem Vgd {rd:Option Nat} {id:Nat} {opsA:Array Oper} {Q:Exit→Env→Za→Prop} {env:Env} {σ:Za} (H:List Nat) (hm:P.follows .mixedOrders=true) (hok:(Xo opsA.toList H&&Uab opsA.toList H [])=true)
  (h:awh P opsA.toList H (Q .normal) opsA.toList 0 env σ):@StC _ P rd ⟨.region id opsA true⟩ ⟨Q⟩ env σ :=
 Wal H [] hm hok (Wen _ _ _ _ _ _ _ h)
section
variable {ops l:List Oper} {o:Oper} {H:List Nat} {K:Env→Za→Prop} {Kh:AV→Za→Prop} {env env':Env} {σ σ':Za} {i:Nat}
@[congr] theorem Yib (h:env=env') (h':σ=σ'):awh P ops H K l i env σ=awh P ops H K l i env' σ':=by rw [h,h']
@[congr] theorem Wie (h:env=env') (h':σ=σ'):Xb P o Kh env σ=Xb P o Kh env' σ':=by rw [h,h']
theorem Ucr:awh P ops H K [] i env σ=K env σ:=(rfl)
def Ohd (P:Program) (ops:List Oper) (H:List Nat) (K:Env→Za→Prop) (o:Oper) (rest:List Oper) (i:Nat) (env:Env) (σ:Za) (h:Bool):Prop :=
 if h then Xb P o (fun v s=>awh P ops H K rest (i+1) (env.put o.dst v) s) env σ else Ua P o (fun v=>awh P ops H K rest (i+1) (env.put o.dst v) σ) env σ
@[congr] theorem Xh8 {h h':Bool} (e:h=h'):Ohd P ops H K o l i env σ h=Ohd P ops H K o l i env σ h':=by rw [e]
theorem Ue9:Ohd P ops H K o l i env σ true=Xb P o (fun v s=>awh P ops H K l (i+1) (env.put o.dst v) s) env σ:=by simp [Ohd]
theorem Wd1:Ohd P ops H K o l i env σ false=Ua P o (fun v=>awh P ops H K l (i+1) (env.put o.dst v) σ) env σ:=by simp [Ohd]
def Ogh (P:Program) (ops:List Oper) (H:List Nat) (K:Env→Za→Prop) (o:Oper) (rest:List Oper) (i:Nat) (env:Env) (σ:Za) (g:Option (Option (Option Tmp × Bool × Bool))):Prop:=match g with
 | some none=>Ohd P ops H K o rest i env σ (H.contains i)
 | some (some (_,b,want))=>Cs (b == want) (Ohd P ops H K o rest i env σ (H.contains i)) (awh P ops H K rest (i+1) (env.put o.dst (.tup [])) σ)
 | none=>False
@[congr] theorem Wh7 {g g':Option (Option (Option Tmp × Bool × Bool))} (h:g=g'):Ogh P ops H K o l i env σ g=Ogh P ops H K o l i env σ g':=by rw [h]
theorem Ve1 {d:Option Tmp} {b want:Bool}:Ogh P ops H K o l i env σ (some (some (d,b,want)))=@CsT (b == want) ⟨Ohd P ops H K o l i env σ (H.contains i)⟩ ⟨awh P ops H K l (i+1) (env.put o.dst (.tup [])) σ⟩:=(rfl)
variable {dst:Option Tmp} {ty:TypeId} {pos:String} {after:Array Edge} {op:Op} {g:Option (Nat × Bool)}
theorem Xe7:awh P ops H K (⟨dst,op,ty,pos,after,none⟩::l) i env σ=Ohd P ops H K ⟨dst,op,ty,pos,after,none⟩ l i env σ (H.contains i):=(rfl)
theorem Zgb {j:Nat} {w:Bool}:awh P ops H K (⟨dst,op,ty,pos,after,some (j,w)⟩::l) i env σ=Ogh P ops H K ⟨dst,op,ty,pos,after,some (j,w)⟩ l i env σ (Wm ops env.t (some (j,w))):=(rfl)
theorem Yai (h:Zj o=false):Xb P o Kh env σ=aw1 P o Kh env σ:=by unfold Xb;rw [h];simp
theorem Xh5 {e:TypeId}:Xb P ⟨dst,.alloc e,ty,pos,after,g⟩ Kh env σ=Om ((tz P e).bind fun z=>Wx z σ) Kh:=by rw [Yai rfl,Xa8]
theorem Uds {e:TypeId} {x:Operand}:Xb P ⟨dst,.box e x,ty,pos,after,g⟩ Kh env σ=Om (Wx (Wa env.t x) σ) Kh:=by rw [Yai rfl,Wb9]
theorem Ygv {e:TypeId} {n:Nat} {ps:Array (Nat × Operand)}:Xb P ⟨dst,.buildSlice e n ps,ty,pos,after,g⟩ Kh env σ=Om (Vab P e n (ps.toList.map fun p=>(p.1,Wa env.t p.2)) σ) Kh:=by rw [Yai rfl,Ucd]
theorem Ugr {e:TypeId} {x y:Operand}:Xb P ⟨dst,.store e x y,ty,pos,after,g⟩ Kh env σ=Om ((Xad P e (Wa env.t x) (Wa env.t y) σ).map (AV.any,·)) Kh:=by rw [Yai rfl,Xbl]
theorem Ufp {b:Builtin} {args:Array Operand} {ts:Array TypeId}:Xb P ⟨dst,.call { callee:=.builtin b,args:=args,argTypes:=ts },ty,pos,after,g⟩ Kh env σ=Om (Wak P b ts (args.toList.map (Wa env.t)) σ) Kh:=by rw [Yai rfl,Wbf]
theorem Yey {e:TypeId}:Xb P ⟨dst,.makeMap e none,ty,pos,after,g⟩ Kh env σ=Om (Xan P e σ) Kh:=by rw [Yai rfl,Xck]
end
theorem Yay {P:Program} {σ:Za} {g:FuncId} {args xs ys:List AV} {v:AV} {Kv:AV→Prop} (h:ACalls P g (xs++args++ys) σ fun v' s=>v'=v∧s=σ) (hk:Kv v):@Ou _ P (.fn (.func g) xs ys) args σ ⟨Kv⟩:=⟨v,h,hk⟩
attribute [simp] Ucr Xe7 Zgb Ue9 Wd1 Ve1 Xh5 Uds Ygv Ugr Ufp Yey
end Ab
namespace Ab
open Go Go.RowKit
variable [Mode]
variable {P:Program}
def Va7 (Q:Exit→Env→Za→Prop):Exit→Env→Za→Prop
 | .goto _,_,_=>False
 | e,env,σ=>Q e env σ
theorem Xas {P:Program} {b:Frame} {a:Act} {k:List Item} {cs:List Frame} {w:World} {c:Code}:step P (lone (b.atR a (.code (.scope c)::k)) cs w)=.next (lone (b.atR a (.code c::.inScope c::k)) cs w) :=
 step_lone_go (by simp [stepG,stepG.exec,Frame.atR])
theorem Yff {P:Program} {b:Frame} {a:Act} {k:List Item} {cs:List Frame} {w:World} {c:Code}:step P (lone (b.atR a (.inScope c::k)) cs w)=.next (lone (b.atR a k) cs w) :=
 step_lone_go (by simp [stepG,stepG.exec,Frame.atR])
theorem Vbb {rd:Option Nat} {c:Code} {Q:Exit→Env→Za→Prop} {env:Env} {σ:Za} (h:ACode P rd c (Va7 Q) env σ):ACode P rd (.scope c) Q env σ:=by
 intro C a ro hI he hr b k cs hro hb hroom
 obtain ⟨e,a₁,w₁,⟨C1,env1,σ1,rfl,hE1,hI1,he1,hq⟩,harr⟩:=h C a ro hI he hr b (.inScope c::k) cs hro hb hroom
 have h0:(lone (b.atR a (.code (.scope c)::k)) cs C.w).fenced P (WF ro):=fenced_calm hb hroom rfl
 cases e with
 | normal =>
  exact ⟨.normal,a₁,_,⟨C1,env1,σ1,rfl,hE1,hI1,he1,hq⟩,.of_steps (.one h0 Xas) (StepsIn.trans harr (.one (fenced_calm hb hroom rfl) Yff))⟩
 | exit id =>
  refine ⟨.exit id,a₁,_,⟨C1,env1,σ1,rfl,hE1,hI1,he1,hq⟩,.of_steps (.one h0 Xas) ⟨fun k' hk=>harr.1 k' (by simp [exitTo,hk]),fun hr hk=>?_⟩⟩
  exact harr.2 hr (by simpa [exitTo] using hk)
 | goto l=>exact hq.elim
 | ret=>exact ⟨_,a₁,_,⟨C1,env1,σ1,rfl,hE1,hI1,he1,hq⟩,.of_steps (.one h0 Xas) harr⟩
 | panic ch=>exact ⟨_,a₁,_,⟨C1,env1,σ1,rfl,hE1,hI1,he1,hq⟩,.of_steps (.one h0 Xas) harr⟩
 | outgrown=>exact ⟨_,a₁,_,⟨C1,env1,σ1,rfl,hE1,hI1,he1,hq⟩,.of_steps (.one h0 Xas) harr⟩
theorem Yaw {rd:Option Nat} {c:Code} {Q:Exit→Env→Za→Prop} {env:Env} {σ:Za} (h:awp P rd c (Va7 Q) env σ):@StC _ P rd ⟨.scope c⟩ ⟨Q⟩ env σ:=Vbb (Vk c h)
theorem Wef {rd:Option Nat} {c:Code} {Q:Exit→Env→Za→Prop} {env:Env} {σ:Za}:awp P rd (.scope c) Q env σ=@StC _ P rd ⟨.scope c⟩ ⟨Q⟩ env σ:=(rfl)
attribute [simp] Wef Va7
end Ab
namespace Ab
open Go Go.RowKit
variable [Mode]
variable {P:Program}
def chk (P:Program) (W:List (Nat × Nat)) (i:Nat) (o:Oper) (v:AV) (env:Env) (ss:List Za):Prop :=
 ∀ x∈W,x.1=i→(∃ s,ss[x.2]? = some s∧Yi P o v s env s)∨∀ s,Yi P o v s env s
def awl (P:Program) (ops:List Oper) (H:List Nat) (W:List (Nat × Nat)) (K:Env→Za→Prop):List Oper→Nat→Env→Za→List Za→Prop
 | [],_,env,σ,ss=>(∀ x∈W,x.2<ss.length)∧K env σ
 | o::rest,i,env,σ,ss =>
  match Wm ops env.t o.guard with
  | some none=>if H.contains i then (W.any fun x=>x.1 == i)=false∧Xb P o (fun v s=>awl P ops H W K rest (i+1) (env.put o.dst v) s (ss++[s])) env σ
    else Ua P o (fun v=>chk P W i o v env ss∧awl P ops H W K rest (i+1) (env.put o.dst v) σ ss) env σ
  | some (some (_,b,want))=>Cs (b == want)
    (if H.contains i then (W.any fun x=>x.1 == i)=false∧Xb P o (fun v s=>awl P ops H W K rest (i+1) (env.put o.dst v) s (ss++[s])) env σ
    else Ua P o (fun v=>chk P W i o v env ss∧awl P ops H W K rest (i+1) (env.put o.dst v) σ ss) env σ)
    (awl P ops H W K rest (i+1) (env.put o.dst (.tup [])) σ (if H.contains i then ss++[σ] else ss))
  | none=>False
def Seen (P:Program) (ops:List Oper) (rs:List AV) (es:List Env) (ss:List Za) (x:Nat × Nat):Prop :=
 ∃ o v e,ops[x.1]? = some o∧rs[x.1]? = some v∧es[x.1]? = some e∧(We ops e.t o.guard=some false∨(∃ s,ss[x.2]? = some s∧Yi P o v s e s)∨∀ s,Yi P o v s e s)
theorem Wae {α:Type} {l m:List α} {i:Nat} {a:α} (h:l[i]? = some a):(l++m)[i]? = some a:=by
 rw [Qzl (Qzs.1 h).1];exact h
theorem Seen.more {ops:List Oper} {rs rs':List AV} {es es':List Env} {ss ss':List Za} {x:Nat × Nat} (h:Seen P ops rs es ss x):Seen P ops (rs++rs') (es++es') (ss++ss') x :=
 let ⟨o,v,e,h1,h2,h3,h4⟩:=h;⟨o,v,e,h1,Wae h2,Wae h3,h4.imp id (Or.imp (fun ⟨s,h5,h6⟩=>⟨s,Wae h5,h6⟩) id)⟩
theorem Yg3 {ops:List Oper} {H:List Nat} {W:List (Nat × Nat)} {K:Env→Za→Prop} (hW:∀ x∈W,x.1<ops.length):∀ (l pre:List Oper) (env:Env) (s:Za) (rs:List AV) (es:List Env) (ss:List Za),
  ops=pre++l→rs.length=pre.length→es.length=pre.length→(∀ x∈W,x.1<pre.length→Seen P ops rs es ss x)→awl P ops H W K l pre.length env s ss→adr P ops H W K l pre.length env s rs es ss:=by
 intro l
 induction l with
 | nil =>
  intro pre env s rs es ss ho _ _ hs h
  refine ⟨fun x hx=>?_,h.2⟩
  obtain ⟨o,v,e,h1,h2,h3,h4⟩:=hs x hx (by have:=hW x hx;rw [ho] at this;simpa using this)
  rw [h1,h2,h3,Qze (h.1 x hx)]
  rcases h4 with h4 | ⟨s',h5,h6⟩ | h4
  ·exact .inl h4
  ·rw [Qze (h.1 x hx)] at h5
   simp only [Option.some.injEq] at h5
   exact .inr (h5▸h6)
  ·exact .inr (h4 _)
 | cons o l ih =>
  intro pre env s rs es ss ho hr he hs h
  have ho2:ops=(pre++[o])++l:=by rw [ho];simp
  have hoi:ops[pre.length]? = some o:=by rw [ho];simp
  have hlen:(pre++[o]).length=pre.length+1:=by simp
  have next:∀ (v:AV) (s':Za) (ss':List Za),(∀ x∈W,x.1=pre.length→Seen P ops (rs++[v]) (es++[env]) (ss++ss') x)→awl P ops H W K l (pre.length+1) (env.put o.dst v) s' (ss++ss')→adr P ops H W K l (pre.length+1) (env.put o.dst v) s' (rs++[v]) (es++[env]) (ss++ss'):=by
   intro v s' ss' hc hw
   rw [← hlen] at hw ⊢
   refine ih (pre++[o]) _ _ _ _ _ ho2 (by simp [hr]) (by simp [he]) (fun x hx hlt=>?_) hw
   rw [hlen] at hlt
   rcases Qzn x.1 pre.length with h1 | h1
   ·exact (hs x hx h1).more
   ·exact hc x hx (by omega)
  have seen:∀ (v:AV) (ss':List Za) (x:Nat × Nat),x.1=pre.length→(We ops env.t o.guard=some false∨(∃ s,ss[x.2]? = some s∧Yi P o v s env s)∨∀ s,Yi P o v s env s)→Seen P ops (rs++[v]) (es++[env]) (ss++ss') x:=by
   intro v ss' x hx h2
   exact ⟨o,v,env,by rw [hx];exact hoi,by rw [hx,← hr];simp,by rw [hx,← he];simp,h2.imp id (Or.imp (fun ⟨s,h5,h6⟩=>⟨s,Wae h5,h6⟩) id)⟩
  have go:(if H.contains pre.length then (W.any fun x=>x.1 == pre.length)=false∧Xb P o (fun v s=>awl P ops H W K l (pre.length+1) (env.put o.dst v) s (ss++[s])) env s
    else Ua P o (fun v=>chk P W pre.length o v env ss∧awl P ops H W K l (pre.length+1) (env.put o.dst v) s ss) env s) →
    ((∃ v,(isLit o&&!H.contains pre.length)=true∧Lit P o v env∧adr P ops H W K l (pre.length+1) (env.put o.dst v) s (rs++[v]) (es++[env]) ss) ∨
    if Zj o then
    (if H.contains pre.length then ∃ v s',Yi P o v s' env s∧adr P ops H W K l (pre.length+1) (env.put o.dst v) s' (rs++[v]) (es++[env]) (ss++[s'])
     else ∃ v,Yi P o v s env s∧adr P ops H W K l (pre.length+1) (env.put o.dst v) s (rs++[v]) (es++[env]) ss)
   else
    (match aop P env.t s o with
     | some (v,s')=>if H.contains pre.length then adr P ops H W K l (pre.length+1) (env.put o.dst v) s' (rs++[v]) (es++[env]) (ss++[s'])
        else s'=s∧adr P ops H W K l (pre.length+1) (env.put o.dst v) s (rs++[v]) (es++[env]) ss
     | none=>False)):=by
   intro h1
   have nocall:Zj o=false→∀ (K:AV→Za→Prop),aw1 P o K env s→∃ v s',aop P env.t s o=some (v,s')∧K v s':=by
    intro hc K h1
    unfold aw1 at h1
    split at h1
    ·rename_i f args ts hop
     unfold Zj at hc
     rw [hop] at hc
     cases hc
    ·split at h1
     ·rename_i v s' hop
      exact ⟨v,s',hop,h1⟩
     ·cases h1
   cases hH:H.contains pre.length with
   | true =>
    rw [hH] at h1
    refine .inr ?_
    simp only [if_true] at h1 ⊢
    obtain ⟨hno,h1⟩:=h1
    have hnone:∀ (v:AV) (ss':List Za),∀ x∈W,x.1=pre.length→Seen P ops (rs++[v]) (es++[env]) (ss++ss') x:=fun v ss' x hx hxi=>by
     have:(W.any fun x=>x.1 == pre.length)=true:=List.any_eq_true.2 ⟨x,hx,by simpa using hxi⟩
     rw [this] at hno;cases hno
    unfold Xb at h1
    cases hc:Zj o with
    | true =>
     rw [hc] at h1
     simp only [if_true] at h1 ⊢
     obtain ⟨v,s',h2,h3⟩:=h1
     exact ⟨v,s',h2,next v s' [s'] (hnone v _) h3⟩
    | false =>
     rw [hc] at h1
     simp only [Bool.false_eq_true,if_false] at h1 ⊢
     obtain ⟨v,s',hop,h3⟩:=nocall hc _ h1
     rw [hop]
     exact next v s' [s'] (hnone v _) h3
   | false =>
    rw [hH] at h1
    simp only [Bool.false_eq_true,if_false] at h1 ⊢
    have hck:∀ (v:AV),chk P W pre.length o v env ss→∀ x∈W,x.1=pre.length→Seen P ops (rs++[v]) (es++[env]) (ss++[]) x:=fun v hcv x hx hxi=>by
     exact seen v [] x hxi (.inr (hcv x hx hxi))
    unfold Ua at h1
    cases hlit:isLit o with
    | true =>
     rw [hlit,if_pos rfl] at h1
     obtain ⟨v,h2,h3,h4⟩:=Va1 h1
     have:=next v s [] (hck v h3) (by simpa using h4)
     exact .inl ⟨v,rfl,.ofV h2,by simpa using this⟩
    | false =>
    refine .inr ?_
    rw [hlit] at h1
    cases hc:Zj o with
    | true =>
     rw [hc] at h1
     simp only [Bool.false_eq_true,if_false,if_true] at h1 ⊢
     obtain ⟨v,h2,h3,h4⟩:=h1
     have:=next v s [] (hck v h3) (by simpa using h4)
     exact ⟨v,h2,by simpa using this⟩
    | false =>
     rw [hc] at h1
     simp only [Bool.false_eq_true,if_false] at h1 ⊢
     obtain ⟨v,s',hop,rfl,h3,h4⟩:=nocall hc _ h1
     rw [hop]
     have:=next v s' [] (hck v h3) (by simpa using h4)
     exact ⟨rfl,by simpa using this⟩
  unfold awl at h
  unfold adr We
  split at h
  ·rename_i hg
   rw [hg]
   exact go h
  ·rename_i d b want hg
   rw [hg]
   simp only
   cases hb:(b == want) with
   | true=>exact go (h.1 hb)
   | false =>
    have h1:=h.2 hb
    have hgf:We ops env.t o.guard=some false:=by unfold We;rw [hg];simp [hb]
    have hck:∀ (ss':List Za),∀ x∈W,x.1=pre.length→Seen P ops (rs++[.tup []]) (es++[env]) (ss++ss') x:=fun ss' x hx hxi=>by
     exact seen _ ss' x hxi (.inl hgf)
    simp only
    split
    ·rename_i hH
     rw [if_pos hH] at h1
     exact next _ s [s] (hck _) h1
    ·rename_i hH
     rw [if_neg hH] at h1
     have:=next _ s [] (hck _) (by simpa using h1)
     simpa using this
  ·cases h
theorem Yhd {rd:Option Nat} {id:Nat} {opsA:Array Oper} {Q:Exit→Env→Za→Prop} {env:Env} {σ:Za} (H:List Nat) (W:List (Nat × Nat)) (hm:P.follows .mixedOrders=true)
  (hok:(Xo opsA.toList H&&Uab opsA.toList H W)=true) (hW:(W.all fun x=>decide (x.1<opsA.toList.length))=true)
  (h:awl P opsA.toList H W (Q .normal) opsA.toList 0 env σ [σ]):@StC _ P rd ⟨.region id opsA true⟩ ⟨Q⟩ env σ :=
 Wal H W hm hok (Yg3 (fun x hx=>by simpa using List.all_eq_true.1 hW x hx) opsA.toList [] _ _ _ _ _ rfl rfl rfl (fun x _ hlt=>by simp at hlt) h)
section
variable {ops l:List Oper} {o:Oper} {H:List Nat} {W:List (Nat × Nat)} {K:Env→Za→Prop} {env env':Env} {σ σ':Za} {i:Nat} {ss ss':List Za} {v v':AV}
@[congr] theorem Yis (h:env=env') (h':σ=σ') (h2:ss=ss'):awl P ops H W K l i env σ ss=awl P ops H W K l i env' σ' ss':=by rw [h,h',h2]
@[congr] theorem Wib (h:env=env') (h':v=v') (h2:ss=ss'):chk P W i o v env ss=chk P W i o v' env' ss':=by rw [h,h',h2]
theorem Ueo:awl P ops H W K [] i env σ ss=((∀ x∈W,x.2<ss.length)∧K env σ):=(rfl)
def Ohl (P:Program) (ops:List Oper) (H:List Nat) (W:List (Nat × Nat)) (K:Env→Za→Prop) (o:Oper) (rest:List Oper) (i:Nat) (env:Env) (σ:Za) (ss:List Za) (h:Bool):Prop :=
 if h then (W.any fun x=>x.1 == i)=false∧Xb P o (fun v s=>awl P ops H W K rest (i+1) (env.put o.dst v) s (ss++[s])) env σ
 else Ua P o (fun v=>chk P W i o v env ss∧awl P ops H W K rest (i+1) (env.put o.dst v) σ ss) env σ
@[congr] theorem Yif {h h':Bool} (e:h=h'):Ohl P ops H W K o l i env σ ss h=Ohl P ops H W K o l i env σ ss h':=by rw [e]
theorem Vet:Ohl P ops H W K o l i env σ ss true=((W.any fun x=>x.1 == i)=false∧Xb P o (fun v s=>awl P ops H W K l (i+1) (env.put o.dst v) s (ss++[s])) env σ):=by simp [Ohl]
theorem Xfd:Ohl P ops H W K o l i env σ ss false=Ua P o (fun v=>chk P W i o v env ss∧awl P ops H W K l (i+1) (env.put o.dst v) σ ss) env σ:=by simp [Ohl]
def Ogl (P:Program) (ops:List Oper) (H:List Nat) (W:List (Nat × Nat)) (K:Env→Za→Prop) (o:Oper) (rest:List Oper) (i:Nat) (env:Env) (σ:Za) (ss:List Za) (g:Option (Option (Option Tmp × Bool × Bool))):Prop:=match g with
 | some none=>Ohl P ops H W K o rest i env σ ss (H.contains i)
 | some (some (_,b,want))=>Cs (b == want) (Ohl P ops H W K o rest i env σ ss (H.contains i)) (awl P ops H W K rest (i+1) (env.put o.dst (.tup [])) σ (if H.contains i then ss++[σ] else ss))
 | none=>False
@[congr] theorem Vh9 {g g':Option (Option (Option Tmp × Bool × Bool))} (h:g=g'):Ogl P ops H W K o l i env σ ss g=Ogl P ops H W K o l i env σ ss g':=by rw [h]
theorem Xfn {d:Option Tmp} {b want:Bool}:Ogl P ops H W K o l i env σ ss (some (some (d,b,want)))=@CsT (b == want) ⟨Ohl P ops H W K o l i env σ ss (H.contains i)⟩ ⟨awl P ops H W K l (i+1) (env.put o.dst (.tup [])) σ (if H.contains i then ss++[σ] else ss)⟩:=(rfl)
variable {dst:Option Tmp} {ty:TypeId} {pos:String} {after:Array Edge} {op:Op} {g:Option (Nat × Bool)}
theorem Xdr:awl P ops H W K (⟨dst,op,ty,pos,after,none⟩::l) i env σ ss=Ohl P ops H W K ⟨dst,op,ty,pos,after,none⟩ l i env σ ss (H.contains i):=(rfl)
theorem Zeo {j:Nat} {w:Bool}:awl P ops H W K (⟨dst,op,ty,pos,after,some (j,w)⟩::l) i env σ ss=Ogl P ops H W K ⟨dst,op,ty,pos,after,some (j,w)⟩ l i env σ ss (Wm ops env.t (some (j,w))):=(rfl)
def OuH (P:Program) (f:AV) (args:List AV) (σ:Za) [K:Hd (AV→Za→Prop)]:Prop:=∃ v s,Oa P f args σ (fun v' s'=>v'=v∧s'=s)∧K.v v s
theorem Zab {g:FuncId} {args xs ys:List AV} {v:AV} {s:Za} {K:AV→Za→Prop} (h:ACalls P g (xs++args++ys) σ fun v' s'=>v'=v∧s'=s) (hk:K v s):@OuH _ P (.fn (.func g) xs ys) args σ ⟨K⟩:=⟨v,s,h,hk⟩
theorem Uho {f:Operand} {args:Array Operand} {ts:Array TypeId} {K:AV→Za→Prop}:Xb P ⟨dst,.call { callee:=.value f,args:=args,argTypes:=ts },ty,pos,after,g⟩ K env σ=@OuH _ P (Wa env.t f) (args.toList.map (Wa env.t)) σ ⟨K⟩:=by
 unfold Xb
 rw [show Zj ⟨dst,.call { callee:=.value f,args:=args,argTypes:=ts },ty,pos,after,g⟩=true from rfl]
 simp only [if_true,Yi,Xbp]
 rfl
end
theorem Yaq {P:Program} {σ:Za} {g:FuncId} {args:List AV} {v:AV} {Kv:AV→Prop} (h:APure P g args v) (hk:Kv v):@Ou _ P (.fn (.func g) [] []) args σ ⟨Kv⟩:=⟨v,by
 show ACalls P g ([]++args++[]) σ _
 rw [List.nil_append,List.append_nil]
 exact h σ,hk⟩
theorem Wa1 {P:Program} {σ:Za} {g:FuncId} {args:List AV} {v:AV} {Kv:AV→Prop} (h:ACalls P g args σ fun v' s=>v'=v∧s=σ) (hk:Kv v):@Ou _ P (.fn (.func g) [] []) args σ ⟨Kv⟩:=⟨v,by
 show ACalls P g ([]++args++[]) σ _
 rw [List.nil_append,List.append_nil]
 exact h,hk⟩
attribute [simp] Ueo Xdr Zeo Vet Xfd Xfn Uho chk Yi
end Ab
namespace Ab
open Go Go.RowKit
variable [Mode]
variable {P:Program}
def QRo (r:Nat) (K:AV→Za→Prop) (o o':AObj):Exit→Env→Za→Prop
 | .normal,_,σ=>σ[r]? = some o'∧K (.bool true) (σ.set r o)
 | _,_,_=>False
def QBe (P:Program) (r:Nat) (body:Code) (K:AV→Za→Prop) (o o':AObj):Exit→Env→Za→Prop
 | .normal,env,σ=>σ[r]? = some o∧awp P (some r) body (QRo r K o o') env (σ.set r o')
 | _,_,_=>False
section
variable {r:Nat} {body:Code} {K:AV→Za→Prop} {o o':AObj} {e:Exit} {env env':Env} {σ σ':Za}
@[congr] theorem Vib (h:env=env') (h':σ=σ'):QRo r K o o' e env σ=QRo r K o o' e env' σ':=by rw [h,h']
@[congr] theorem Yic (h:env=env') (h':σ=σ'):QBe P r body K o o' e env σ=QBe P r body K o o' e env' σ':=by rw [h,h']
theorem Vdu:QRo r K o o' .normal env σ=(σ[r]? = some o'∧K (.bool true) (σ.set r o)):=(rfl)
theorem Yen:QBe P r body K o o' .normal env σ=(σ[r]? = some o∧awp P (some r) body (QRo r K o o') env (σ.set r o')):=(rfl)
theorem Wf2 (t:List AV) (l:List AV):Waf [] l t=t:=(rfl)
theorem Vct (p:Tmp) (ps:List Tmp) (a:AV) (l t:List AV):Waf (p::ps) (a::l) t=Waf ps l (ts t p a):=(rfl)
theorem AYield.round {args:List AV} {fn:FuncId} {t:List AV} {ps:Array Tmp} {assign:Code} {D:Nat} (ho:o=.loop fn t ps assign body .ready none D) (hr:σ[r]? = some o) (hl:args.length=ps.size)
  (h:∀ o',awp P (some r) assign (QBe P r body K o o') { t:=Waf ps.toList args t } σ):AYield P r args σ K:=by
 subst ho
 unfold AYield
 rw [hr]
 refine ⟨hl,?_⟩
 refine (Vk _ (h (.loop fn t ps assign body .busy none D))).mono fun e env s hq=>?_
 cases e with
 | normal =>
  obtain ⟨h1,h2⟩:=hq
  unfold QBegin
  simp only [h1,true_and]
  refine (Vk _ h2).mono fun e env s hq=>?_
  cases e with
  | normal =>
   obtain ⟨h3,h4⟩:=hq
   unfold QRound
   simp only [h3]
   exact h4
  | _=>cases hq
 | _=>cases hq
end
def Yh:Nat→Code→Code × Code
 | n+1,.seq a b=>(.seq a (Yh n b).1,(Yh n b).2)
 | _,c=>(.skip,c)
section
variable {rd:Option Nat} {a b c:Code} {Q:Exit→Env→Za→Prop} {env:Env} {σ:Za} {n:Nat}
theorem Xbj:awp P rd (Yh 0 c).1 Q env σ=Q .normal env σ:=by cases c<;>rfl
theorem Xa7:awp P rd (Yh (n+1) (.seq a b)).1 Q env σ=awp P rd a (Wb (awp P rd (Yh n b).1 Q) Q) env σ:=(rfl)
theorem Zhp:awp P rd (Yh (n+1) (.seq a b)).2 Q env σ=awp P rd (Yh n b).2 Q env σ:=(rfl)
theorem Ud3:awp P rd (Yh 0 c).2 Q env σ=awp P rd c Q env σ:=by cases c<;>rfl
end
attribute [simp] Xbj Xa7 Zhp Ud3 Zc Vdu Yen Wf2 Vct
end Ab

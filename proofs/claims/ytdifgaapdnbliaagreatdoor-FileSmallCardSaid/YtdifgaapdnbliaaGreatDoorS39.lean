/-
  Texts packed for a claim.
-/
import Derived.Test.YtdifgaapdnbliaaGreatDoorS00
import Derived.Test.YtdifgaapdnbliaaGreatDoorS32
import Derived.Test.YtdifgaapdnbliaaGreatDoorS05
import Derived.Test.YtdifgaapdnbliaaGreatDoorS22
import Derived.Test.YtdifgaapdnbliaaGreatDoorS31
import Derived.Test.YtdifgaapdnbliaaGreatDoorS38
set_option linter.all false
namespace Ab
open Go Go.RowKit Go.Proofs
attribute [local irreducible] aws awp aw1 Og Om Oc Oa Ogd Ov Ot awd Ub awh Xc Ogh Ohd awl Ogl Ohl awv Ogv Ohv Zc Wc QFn Zd QRo QBe ACode AYield
theorem APure.own1 {P:Program} {f:FuncId} {x v w:AV} {S:Za} {o:AObj} (h:APure P f [x] v) (hz:Fz S.length (S++[o]) w x):ACalls P f [w] (S++[o]) fun v' s=>v'=v∧s=S++[.dead]:=by
 have hc:cold S.length (S++[o])=S++[.dead]:=by simpa using Ubl (σ:=S) (g:=[o])
 have k:=ACalls.freeze (args:=[w]) S.length (h (cold S.length (S++[o]))) rfl fun i a b ha hb=>by
  match i,ha,hb with
  | 0,ha,hb=>simp only [List.getElem?_cons_zero,Option.some.injEq] at ha hb;subst ha;subst hb;exact hz
  | i+1,ha,_=>simp at ha
 rw [hc] at k
 exact k
theorem Vca {n:Nat} (S:Za) (r:Oyez.Rec) (hn:n≤S.length):Fz n (S++[.cells (Uf r)]) (.arr 3 S.length 0 1) (Xa [r]):=by
 refine Fz.arr 3 S.length 0 (Uf r) [Yd r] (fun i j=>((Uf r)[i*3+j]?).getD .any) hn (by simp) (fun i x hx=>?_) (fun i x hx j y hy=>?_)
 ·match i,hx with
  | 0,hx =>
   simp at hx;subst hx
   refine ⟨rfl,fun j y hy=>?_⟩
   match j,hy with
   | 0,hy=>simp [AV.cells] at hy;subst hy;exact ⟨rfl,rfl⟩
   | 1,hy=>simp [AV.cells] at hy;subst hy;exact ⟨rfl,rfl⟩
   | 2,hy=>simp [AV.cells] at hy;subst hy;exact ⟨rfl,rfl⟩
   | j+3,hy=>simp [AV.cells] at hy
  | i+1,hx=>simp at hx
 ·match i,hx with
  | 0,hx =>
   simp at hx;subst hx
   match j,hy with
   | 0,hy=>simp [AV.cells] at hy;subst hy;exact .int _ _
   | 1,hy=>simp [AV.cells] at hy;subst hy;exact .int _ _
   | 2,hy=>simp [AV.cells] at hy;subst hy;exact Xav _ _ _
   | j+3,hy=>simp [AV.cells] at hy
  | i+1,hx=>simp at hx
theorem Veq (S:Za) (r:Oyez.Rec):Fz S.length (S++[.cells (Uf r)]) (.arr 3 S.length 0 1) (Xa [r]):=Vca S r (Nat.le_refl _)
theorem WdO.more {lo:Nat} {τ:Za} {v:AV} {ws:List (List UInt8)} (h:WdO lo τ v ws) (X:Za):WdO lo (τ++X) v ws:=by
 rcases h with h | ⟨j,h1,h2,h3⟩
 ·exact .inl h
 ·exact .inr ⟨j,h1,h2,Vf h3⟩
theorem FileO.more {lo:Nat} {τ:Za} {v:AV} {F:List Oyez.Rec} (h:FileO lo τ v F) (X:Za):FileO lo (τ++X) v F:=by
 rcases h with h | ⟨q,Y,h1,h2,h3⟩
 ·exact .inl h
 ·exact .inr ⟨q,Y,h1,h2,⟨h3.low,Vf h3.row,fun y hy=>(h3.wd y hy).mono (Nat.le_refl _) fun j _ h o ho=>⟨Vf ho,h⟩⟩⟩
theorem Xdu (S:Za) (r:Oyez.Rec) (hw:r.words.length≤2^40):ACalls Tryz.prog 19 [Xa [r],.arr 3 S.length 0 1] (S++[.cells (Uf r)]) fun v s=>v=.bool true∧s=S++[.cells (Uf r)]:=by
 have k:=Xac [r] [r] (by simp) (fun x hx=>by rw [List.mem_singleton.1 hx];exact hw)
 simp only [decide_true] at k
 refine APure.lend k rfl (fun i x y hx hy=>?_) (fun C C' c hv=>?_)
 ·match i,hx,hy with
  | 0,hx,hy=>simp only [List.getElem?_cons_zero,Option.some.injEq] at hx hy;subst hx;subst hy;exact Vag _ _ _
  | 1,hx,hy=>simp only [List.getElem?_cons_zero,List.getElem?_cons_succ,Option.some.injEq] at hx hy;subst hx;subst hy;exact Vca S r (Nat.zero_le _)
  | i+2,hx,_=>simp at hx
 ·cases hv;exact .bool _
theorem Xcv {τ':Za} {va vb:AV} {A B:List Oyez.Rec} {lo1 hi1 lo2 hi2:Nat} (ha:FileC lo1 hi1 τ' va A) (hb:FileC lo2 hi2 τ' vb B) (h11:lo1≤hi1) (h12:hi1≤lo2) {i:Nat} (hi:i<2) :
  ∃ (v:AV) (F:List Oyez.Rec) (lo hi q:Nat),[va,vb][i]? = some v∧lo1≤lo∧hi≤max hi1 hi2∧(F=[]∧v=.nils∨v=.arr 3 q 0 F.length∧Cl lo hi q F τ')∧(A.length<2^40→B.length<2^40→F.length<2^40)∧((∀ r∈A,r.words.length≤2^40)→(∀ r∈B,r.words.length≤2^40)→∀ r∈F,r.words.length≤2^40) ∧
   ∀ τ'',Sm lo hi q τ' τ''→FileC lo1 hi1 τ'' va A∧FileC lo2 hi2 τ'' vb B:=by
 have k1:∀ {τ'':Za} {q:Nat},(∀ q',va=.arr 3 q' 0 A.length→q'=q)→Sm lo1 hi1 q τ' τ''→FileC lo1 hi1 τ'' va A∧FileC lo2 hi2 τ'' vb B:=by
  intro τ'' q hq hs
  constructor
  ·rcases ha with ha | ⟨q',h1,h2⟩
   ·exact .inl ha
   ·obtain rfl:=hq q' h1
    exact .inr ⟨q',h1,hs.own h2⟩
  ·rcases hb with hb | ⟨q',h1,h2⟩
   ·exact .inl hb
   ·exact .inr ⟨q',h1,hs.keep h2 (by have:=h2.low;omega)⟩
 have k2:∀ {τ'':Za} {q:Nat},(∀ q',vb=.arr 3 q' 0 B.length→q'=q)→Sm lo2 hi2 q τ' τ''→FileC lo1 hi1 τ'' va A∧FileC lo2 hi2 τ'' vb B:=by
  intro τ'' q hq hs
  constructor
  ·rcases ha with ha | ⟨q',h1,h2⟩
   ·exact .inl ha
   ·exact .inr ⟨q',h1,hs.keep h2 (by have:=h2.low;omega)⟩
  ·rcases hb with hb | ⟨q',h1,h2⟩
   ·exact .inl hb
   ·obtain rfl:=hq q' h1
    exact .inr ⟨q',h1,hs.own h2⟩
 match i,hi with
 | 0,_ =>
  rcases ha with ⟨h1,h2⟩ | ⟨q,h1,h2⟩
  ·exact ⟨va,A,lo1,hi1,0,rfl,Nat.le_refl _,Nat.le_max_left _ _,.inl ⟨h1,h2⟩,fun h _=>h,fun h _=>h,fun τ'' hs=>k1 (fun q' e=>by rw [h2] at e;cases e) hs⟩
  ·exact ⟨va,A,lo1,hi1,q,rfl,Nat.le_refl _,Nat.le_max_left _ _,.inr ⟨h1,h2⟩,fun h _=>h,fun h _=>h,fun τ'' hs=>k1 (fun q' e=>by rw [h1] at e;cases e;rfl) hs⟩
 | 1,_ =>
  rcases hb with ⟨h1,h2⟩ | ⟨q,h1,h2⟩
  ·exact ⟨vb,B,lo2,hi2,0,rfl,by omega,Nat.le_max_right _ _,.inl ⟨h1,h2⟩,fun _ h=>h,fun _ h=>h,fun τ'' hs=>k2 (fun q' e=>by rw [h2] at e;cases e) hs⟩
  ·exact ⟨vb,B,lo2,hi2,q,rfl,by omega,Nat.le_max_right _ _,.inr ⟨h1,h2⟩,fun _ h=>h,fun _ h=>h,fun τ'' hs=>k2 (fun q' e=>by rw [h1] at e;cases e;rfl) hs⟩
theorem Ydf (f:List Oyez.Rec) (p:Oyez.Place):(Un f p).2=(Zk f p).2:=by
 unfold Un
 split
 ·rfl
 ·simp only;omega
theorem Vbr {f:List Oyez.Rec} (h:Wu f=false):f.length≤60∧∀ r∈f,r.words.length≤10∧Yh r.words≤2^20:=by
 unfold Wu at h
 rw [Bool.or_eq_false_iff] at h
 refine ⟨by simpa using h.2,fun r hr=>Uak ?_⟩
 cases hq:Zi r.words with
 | false=>rfl
 | true=>exact absurd (List.any_eq_true.2 ⟨r,hr,hq⟩) (by rw [h.1];simp)
theorem Xbg (x:AV) (f:List Oyez.Rec) (h:(x=.nils∧f=[])∨x=Xa f) (hf:f.length≤2^40) (S:Za):ACalls Tryz.prog 20 [x] S fun v s=>v=Xa f∧s=S:=by
 rcases h with ⟨rfl,rfl⟩ | rfl
 ·refine APure.lend (Uaz [] (by simp)) rfl (fun i x y hx hy=>?_) (fun C C' c hv=>?_)
  ·match i,hx,hy with
   | 0,hx,hy=>simp at hx hy;subst hx;subst hy;exact .nils_pl 3
   | i+1,hx,_=>simp at hx
  ·obtain ⟨A,cap,rfl,_,_⟩:=hv.pl_inv
   exact .pl0 3 A cap hv.pl_cap
 ·exact Uaz f hf S
theorem Uc7 {S:Za} {lo:Nat} {w x:AV} {ws:List (List UInt8)} (h:WdO lo S w ws) (hx:(x=.nils∧ws=[])∨x=Zb ws) (hl:ws.length≤2^40):ACalls Tryz.prog 66 [w,x] S fun v s=>v=.bool true∧s=S:=by
 have k:=Ua6 ws ws hl
 simp only [decide_true] at k
 refine APure.lend k rfl (fun i a b ha hb=>?_) (fun C C' c hv=>?_)
 ·match i,ha,hb with
  | 0,ha,hb=>simp only [List.getElem?_cons_zero,Option.some.injEq] at ha hb;subst ha;subst hb;exact h.fz (Nat.zero_le _)
  | 1,ha,hb =>
   simp only [List.getElem?_cons_zero,List.getElem?_cons_succ,Option.some.injEq] at ha hb;subst ha;subst hb
   rcases hx with ⟨rfl,rfl⟩ | rfl
   ·exact .nils_pl 1
   ·exact Xav _ _ _
  | i+2,ha,_=>simp at ha
 ·cases hv;exact .bool _
def Xda (n:Nat) (s:Za) (va vb:AV) (A B:List Oyez.Rec):Prop:=∃ lo1 hi1 lo2 hi2,FileC lo1 hi1 s va A∧FileC lo2 hi2 s vb B∧n<lo1∧lo1≤hi1∧hi1≤lo2∧lo2≤hi2∧hi2≤s.length
set_option maxHeartbeats 40000000 in
theorem Vei (f:List Oyez.Rec) (r:Oyez.Rec) (p:Oyez.Place) (lf:f.length≤9223372036854775807) (wf:∀ r∈f,r.words.length≤9223372036854775807) (wr:r.words.length≤9223372036854775807):APure Tryz.prog 10 [Xa f,Yd r,Xd p] (.bool true):=by
 refine APure.of fun σ=>?_
 suffices hh:∀ Post:AV→Za→Prop,(∀ s,(∃ g,s=σ++g)→Post (.bool true) s)→ACalls Tryz.prog 10 [Xa f,Yd r,Xd p] σ Post from hh _ fun s ⟨g,h⟩=>⟨g,h,.bool _⟩
 intro Post hPost
 refine Ua Tryz.func10 rfl (Wa Tryz.func10 (by decide) rfl) ?_
 simp [-Ud,Tryz.ntmps10,Yd]
 refine (Zan f lf wf).use ?_
 cases gf:Wu f with
 | true =>
  simp [gf]
  refine awake_calls.use ?_
  first | exact hPost _ ⟨_,rfl⟩ | (simp;exact hPost _ ⟨_,rfl⟩)
 | false =>
 simp [-Ud,gf]
 refine (Ya2 r.words wr).use ?_
 cases gr:Zi r.words with
 | true =>
  simp [gf,gr]
  refine awake_calls.use ?_
  first | exact hPost _ ⟨_,rfl⟩ | (simp;exact hPost _ ⟨_,rfl⟩)
 | false =>
 obtain ⟨nf,ff⟩:=Vbr gf
 obtain ⟨nr,fr⟩:=Uak gr
 have hf':Few f:=fun r hr=>by have:=ff r hr;omega
 have sf:Yal f:=fun r hr=>by have:=ff r hr;omega
 have l40:f.length≤2^40:=by omega
 have w40:∀ r∈f,r.words.length≤2^40:=fun r hr=>by have:=(ff r hr).1;omega
 simp [-Ud,gf,gr]
 rw [Ud]
 simp [-Ud,gf,gr]
 refine Ub8 [9,12] [(0,1),(1,1),(2,1),(3,1),(4,1),(6,1),(7,1),(8,1)] mixed (by kernel_rfl) (by kernel_rfl) ?_
 simp [-Ud,gf,gr]
 refine Vd (Uaf f (by omega) fun r hr=>by have:=(ff r hr).1;omega) ?_
 try simp [-Ud,gf,gr]
 refine Vd (Vs f (by omega)) ?_
 try simp [-Ud,gf,gr]
 refine Vd (Vs [r] (by simp)) ?_
 simp [-Ud,gf,gr]
 refine ⟨⟨StA.of (Uaf f (by omega) (fun r hr=>by have:=(ff r hr).1;omega) _),StA.of (Vs f (by omega) _),StA.of (Vs [r] (by simp) _)⟩,?_⟩
 have hA0:∀ X:Za,(σ++([AObj.cells [AV.int .i64 r.kind,AV.int .i64 r.number,AV.pl 1 (r.words.map AV.str)],AObj.cells [AV.int .i64 p.kind,AV.int .i64 p.number],AObj.cells [AV.int .i64 r.kind,AV.int .i64 r.number,AV.pl 1 (r.words.map AV.str)]]++X))[σ.length]? = some (AObj.cells [AV.int .i64 r.kind,AV.int .i64 r.number,AV.pl 1 (r.words.map AV.str)]):=fun X=>by simp
 have hB0:∀ X:Za,(σ++([AObj.cells [AV.int .i64 r.kind,AV.int .i64 r.number,AV.pl 1 (r.words.map AV.str)],AObj.cells [AV.int .i64 p.kind,AV.int .i64 p.number],AObj.cells [AV.int .i64 r.kind,AV.int .i64 r.number,AV.pl 1 (r.words.map AV.str)]]++X))[σ.length+1]? = some (AObj.cells [AV.int .i64 p.kind,AV.int .i64 p.number]):=fun X=>by simp
 have hC0:∀ X:Za,(σ++([AObj.cells [AV.int .i64 r.kind,AV.int .i64 r.number,AV.pl 1 (r.words.map AV.str)],AObj.cells [AV.int .i64 p.kind,AV.int .i64 p.number],AObj.cells [AV.int .i64 r.kind,AV.int .i64 r.number,AV.pl 1 (r.words.map AV.str)]]++X))[σ.length+2]? = some (AObj.cells [AV.int .i64 r.kind,AV.int .i64 r.number,AV.pl 1 (r.words.map AV.str)]):=fun X=>by simp
 have hSl:(σ++[AObj.cells [AV.int .i64 r.kind,AV.int .i64 r.number,AV.pl 1 (r.words.map AV.str)],AObj.cells [AV.int .i64 p.kind,AV.int .i64 p.number],AObj.cells [AV.int .i64 r.kind,AV.int .i64 r.number,AV.pl 1 (r.words.map AV.str)]]).length=σ.length+3:=by simp
 have hpre:∃ g,σ++[AObj.cells [AV.int .i64 r.kind,AV.int .i64 r.number,AV.pl 1 (r.words.map AV.str)],AObj.cells [AV.int .i64 p.kind,AV.int .i64 p.number],AObj.cells [AV.int .i64 r.kind,AV.int .i64 r.number,AV.pl 1 (r.words.map AV.str)]]=σ++g:=⟨_,rfl⟩
 simp only [← List.append_assoc] at hA0 hB0 hC0
 obtain ⟨S,hS⟩:∃ S,σ++[AObj.cells [AV.int .i64 r.kind,AV.int .i64 r.number,AV.pl 1 (r.words.map AV.str)],AObj.cells [AV.int .i64 p.kind,AV.int .i64 p.number],AObj.cells [AV.int .i64 r.kind,AV.int .i64 r.number,AV.pl 1 (r.words.map AV.str)]]=S:=⟨_,rfl⟩
 rw [hS] at hSl hpre ⊢
 simp only [hS] at hA0 hB0 hC0
 have hA1:=hA0 []
 have hB1:=hB0 []
 have hC1:=hC0 []
 rw [List.append_nil] at hA1 hB1 hC1
 clear hS
 refine (Uap f sf).use ?_
 simp [-Ud,gf,gr]
 refine (Vy f hf').use ?_
 simp [-Ud,gf,gr]
 rw [Ud]
 simp [-Ud,-Yf,gf,gr]
 rw [Yf]
 simp [-Ud,-Yf,gf,gr]
 have hPC:(Yz f).2=Oyez.check f∧(Oyez.check f=0→(Yz f).1=Oyez.print f)∧(Oyez.check f≠0→(Yz f).1=[]):=by
  unfold Yz
  by_cases h:Oyez.check f=0
  ·rw [if_pos h];exact ⟨h.symm,fun _=>rfl,fun g=>absurd h g⟩
  ·rw [if_neg h];exact ⟨rfl,fun g=>absurd g h,fun _=>rfl⟩
 have cP:=Zcp f hf'
 obtain ⟨T,hT⟩:∃ T,Yz f=T:=⟨_,rfl⟩
 rw [hT] at hPC cP
 obtain ⟨T1,T2⟩:=T
 obtain ⟨h1,hT0,hTn⟩:=hPC
 dsimp only at h1 hT0 hTn
 subst h1
 refine cP.use ?_
 simp [-Ud,-Yf,gf,gr]
 rw [Yf]
 refine Xn (fun env s=>∃ u,env={ t:=u }∧u.length=199∧tg u 0=Xa f∧tg u 4=.ptr σ.length 0∧tg u 5=.ptr (σ.length+1) 0∧tg u 7=Xa f∧tg u 8=Xa f∧tg u 9=.ptr (σ.length+2) 0∧tg u 10=.int .i64 (Oyez.check f)∧s=S) ?_ ?_
 ·by_cases k:Oyez.check f=0
  ·have rf:=Oyez.check_zero k
   have hT0:=hT0 k
   subst hT0
   simp [k]
   refine (Ydj f rf.len rf.recs).use ?_
   simp [k]
  ·have hTn:=hTn k
   subst hTn
   simp [k]
 ·rintro env s ⟨u,rfl,hl,g0,g4,g5,g7,g8,g9,g10,hs0⟩
  obtain rfl:=hs0.symm
  clear hs0
  clear cP hT0 hTn hT T1
  simp [-Ud,hl,g0,g4,g5,g7,g8,g9,g10]
  have dt:=Ydf f p
  have sU:(putR f r).1.length≤100∧∀ x∈(putR f r).1,x.words.length≤10:=by
   unfold putR
   split
   ·exact ⟨Nat.zero_le _,fun x hx=>by simp at hx⟩
   ·split
    ·exact ⟨Nat.zero_le _,fun x hx=>by simp at hx⟩
    ·split
     ·exact ⟨Nat.zero_le _,fun x hx=>by simp at hx⟩
     ·refine ⟨by dsimp only;omega,fun x hx=>?_⟩
      rcases Oyez.mem_put hx with rfl | hx
      ·exact nr
      ·exact (ff x hx).1
  have sD:(Un f p).1.length≤100∧∀ x∈(Un f p).1,x.words.length≤10:=by
   unfold Un
   split
   ·exact ⟨Nat.zero_le _,fun x hx=>by simp at hx⟩
   ·exact ⟨by have:=Oyez.drop_le f p;dsimp only;omega,fun x hx=>(ff x (Oyez.mem_drop.1 hx).1).1⟩
  have sG:(Zk f p).1.length≤10:=by
   unfold Zk
   split
   ·exact Nat.zero_le _
   ·cases h:Oyez.getIn f p with
    | none=>exact Nat.zero_le _
    | some ws =>
     obtain ⟨x,hx,_,rfl⟩:=Oyez.getIn_mem h
     exact (ff x hx).1
  have cG:=Xb3 f p hf'
  have cD:=Yc9 f p hf'
  have cU:=Xd5 f r hf' (by omega) (by omega)
  have hx:Oyez.check f≠0→Zk f p=([],Oyez.check f)∧Un f p=([],Oyez.check f)∧putR f r=([],Oyez.check f):=fun k=>by
   have h1:Zk f p=([],Oyez.check f):=by unfold Zk;rw [if_pos k]
   refine ⟨h1,?_,by unfold putR;rw [if_pos k]⟩
   unfold Un
   rw [h1,if_pos k]
  have hn:Oyez.check f=0→Oyez.getIn f p=none→Zk f p=([],1)∧Un f p=([],1):=fun k h=>by
   have h1:Zk f p=([],1):=by unfold Zk;rw [if_neg (by simp [k]),h]
   refine ⟨h1,?_⟩
   unfold Un
   rw [h1]
   rfl
  have hs:∀ ws,Oyez.check f=0→Oyez.getIn f p=some ws→Zk f p=(ws,0)∧Un f p=(Oyez.drop f p,0):=fun ws k h=>by
   have h1:Zk f p=(ws,0):=by unfold Zk;rw [if_neg (by simp [k]),h]
   refine ⟨h1,?_⟩
   unfold Un
   rw [h1]
   rfl
  have he:Oyez.check f=0→Oyez.recErr r≠0→putR f r=([],Oyez.recErr r):=fun k h=>by unfold putR;rw [if_neg (by simp [k]),if_pos h]
  have hp:Oyez.check f=0→Oyez.recErr r=0→Zau f r=putR f r:=fun k h=>by
   unfold putR
   rw [if_neg (by simp [k]),if_neg (by simp [h])]
   unfold Zau
   rw [Oyez.putR_put r f (Oyez.check_zero k).sorted]
  obtain ⟨G,hG⟩:∃ G,Zk f p=G:=⟨_,rfl⟩
  obtain ⟨D,hD⟩:∃ D,Un f p=D:=⟨_,rfl⟩
  obtain ⟨U,hU⟩:∃ U,putR f r=U:=⟨_,rfl⟩
  rw [hG] at hx hn hs dt sG cG
  rw [hD] at hx hn hs dt sD cD
  rw [hU] at hx he hp sU cU
  refine Xn (fun env s=>∃ u x15 x16 x17,env={ t:=u }∧u.length=199∧tg u 0=Xa f∧tg u 4=.ptr σ.length 0∧tg u 5=.ptr (σ.length+1) 0∧tg u 7=Xa f∧tg u 13=.int .i64 G.2∧tg u 14=.int .i64 U.2∧tg u 15=x15∧tg u 16=x16∧tg u 17=x17∧s=S ∧
   ((x15=.nils∧G.1=[])∨x15=Zb G.1)∧((x16=.nils∧D.1=[])∨x16=Xa D.1)∧((x17=.nils∧U.1=[])∨x17=Xa U.1)) ?_ ?_
  ·by_cases k:Oyez.check f=0
   ·have cGet:=Yad f p.kind p.number (by omega)
    have cDrop:=Zdh f p.kind p.number (by omega)
    rw [show ({ kind:=p.kind,number:=p.number }:Oyez.Place)=p from rfl] at cGet cDrop
    have fin:∀ (u:List AV) (x15 x16:AV),u.length=199→tg u 0=Xa f→tg u 4=.ptr σ.length 0→tg u 5=.ptr (σ.length+1) 0→tg u 7=Xa f→tg u 13=.int .i64 G.2→tg u 14=.int .i64 0→tg u 15=x15→tg u 16=x16→tg u 17=.nils→True:=fun _ _ _ _ _ _ _ _ _ _ _ _ _=>trivial
    clear fin
    cases hg:Oyez.getIn f p with
    | none =>
     obtain ⟨e1,e2⟩:=hn k hg
     have hdc:Yag f p=([],1):=by unfold Yag;rw [hg];rfl
     rw [hg] at cGet
     rw [hdc] at cDrop
     simp [hl,g0,g4,g5,g7,g8,g9,g10,k,hA1,hB1,hC1]
     refine cGet.use ?_
     simp [hl,g0,g4,g5,g7,g8,g9,g10,k,hA1,hB1,hC1,Xb]
     refine cDrop.use ?_
     simp [hl,g0,g4,g5,g7,g8,g9,g10,k,hA1,hB1,hC1,Xb]
     refine (Xbd r (by omega) (by omega)).use ?_
     by_cases h:Oyez.recErr r=0
     ·have cPut:=Uch f r (by omega)
      rw [hp k h] at cPut
      simp [hl,g0,g4,g5,g7,g8,g9,g10,k,hA1,hB1,hC1,h]
      refine cPut.use ?_
      simp [hl,g0,g4,g5,g7,g8,g9,g10,k,hA1,hB1,hC1,h,e1,e2]
     ·have e3:=he k h
      simp [hl,g0,g4,g5,g7,g8,g9,g10,k,hA1,hB1,hC1,h,e1,e2,e3]
    | some ws =>
     obtain ⟨e1,e2⟩:=hs ws k hg
     have hdc:Yag f p=D:=by unfold Yag;rw [hg,e2];rfl
     rw [hg] at cGet
     rw [hdc] at cDrop
     simp [hl,g0,g4,g5,g7,g8,g9,g10,k,hA1,hB1,hC1]
     refine cGet.use ?_
     simp [hl,g0,g4,g5,g7,g8,g9,g10,k,hA1,hB1,hC1,Xb]
     refine cDrop.use ?_
     simp [hl,g0,g4,g5,g7,g8,g9,g10,k,hA1,hB1,hC1,Xb]
     refine (Xbd r (by omega) (by omega)).use ?_
     by_cases h:Oyez.recErr r=0
     ·have cPut:=Uch f r (by omega)
      rw [hp k h] at cPut
      simp [hl,g0,g4,g5,g7,g8,g9,g10,k,hA1,hB1,hC1,h]
      refine cPut.use ?_
      simp [hl,g0,g4,g5,g7,g8,g9,g10,k,hA1,hB1,hC1,h,e1]
     ·have e3:=he k h
      simp [hl,g0,g4,g5,g7,g8,g9,g10,k,hA1,hB1,hC1,h,e1,e3]
   ·obtain ⟨e1,e2,e3⟩:=hx k
    simp [hl,g0,g4,g5,g7,g8,g9,g10,k,e1,e2,e3]
  ·clear hx hn hs he hp g0 g4 g5 g7 g8 g9 g10 hl u
   rintro env s ⟨u,x15,x16,x17,rfl,hl,g0,g4,g5,g7,g13,g14,g15,g16,g17,hs0,c15,c16,c17⟩
   obtain rfl:=hs0.symm
   clear hs0
   simp [hl,g0,g4,g5,g7,g13,g14,g15,g16,g17,hA1,hB1]
   refine StA.of ((cG _).mono ?_)
   rintro _ _ ⟨gg,v1,rfl,rfl,hw⟩
   simp [hl,g0,g4,g5,g7,g13,g14,g15,g16,g17,hA0,hB0]
   refine StA.of ((cD _).mono ?_)
   rintro _ _ ⟨gd,v2,rfl,rfl,hd⟩
   simp [hl,g0,g4,g5,g7,g13,g14,g15,g16,g17,hA0,hB0]
   have l28:=(Uaf [r] (by simp) (fun x hx=>by rw [List.mem_singleton.1 hx];omega)).own1 (S:=S++(gg++gd)) (Veq _ r)
   simp [Uf] at l28
   refine StA.of (l28.mono ?_)
   rintro _ _ ⟨rfl,rfl⟩
   simp [-Yf,hl,g0,g4,g5,g7,g13,g14,g15,g16,g17,hA0,hB0]
   refine StA.of ((cU _).mono ?_)
   rintro _ _ ⟨gu,v3,rfl,rfl,hu⟩
   have hC2:FileC (S.length+gg.length) (S.length+gg.length+gd.length) (S++(gg++(gd++AObj.dead::gu))) v2 D.1:=by simpa [Nat.add_assoc] using hd.cl.more (AObj.dead::gu)
   have hC3:FileC (S.length+gg.length+gd.length+1) (S.length+gg.length+gd.length+1+gu.length) (S++(gg++(gd++AObj.dead::gu))) v3 U.1:=by
    have:=hu.cl
    simp only [List.length_append,List.length_cons,List.length_nil] at this
    simpa [Nat.add_assoc,Nat.add_comm,Nat.add_left_comm] using this
   have hO2:FileO (S++gg).length (S++(gg++(gd++AObj.dead::gu))) v2 D.1:=by simpa using hd.more (AObj.dead::gu)
   have hO3:FileO (S++(gg++(gd++[AObj.dead]))).length (S++(gg++(gd++AObj.dead::gu))) v3 U.1:=by simpa using hu
   have hW:WdO S.length (S++(gg++(gd++AObj.dead::gu))) v1 G.1:=by simpa using hw.more (gd++AObj.dead::gu)
   obtain ⟨g0',hg0'⟩:=hpre
   have hWj:∀ j n,v1=.arr 1 j 0 n→j<S.length+gg.length:=by
    rintro j n rfl
    rcases hw with ⟨_,h | h⟩ | ⟨j',_,h,h2⟩
    ·cases h
    ·cases h
    ·cases h
     have:=(Qzs.1 h2).1
     simpa using this
   simp [-Yf,hl,g0,g4,g5,g7,g13,g14,g15,g16,g17,hA0,hB0,dt]
   refine StA.of ((Uc7 hW c15 (by omega)).mono ?_)
   rintro _ _ ⟨rfl,rfl⟩
   simp [-Yf,hl,g0,g4,g5,g7,g13,g14,g15,g16,g17,hA0,hB0,dt]
   refine StA.of ((Xbg x16 D.1 c16 (by omega) _).mono ?_)
   rintro _ _ ⟨rfl,rfl⟩
   simp [-Yf,hl,g0,g4,g5,g7,g13,g14,g15,g16,g17,hA0,hB0,dt]
   refine StA.of ((Wbf hO2 (by omega) (fun x hx=>by have:=sD.2 x hx;omega)).mono ?_)
   rintro _ _ ⟨rfl,rfl⟩
   simp [-Yf,hl,g0,g4,g5,g7,g13,g14,g15,g16,g17,hA0,hB0,dt]
   refine StA.of ((Xbg x17 U.1 c17 (by omega) _).mono ?_)
   rintro _ _ ⟨rfl,rfl⟩
   simp [-Yf,hl,g0,g4,g5,g7,g13,g14,g15,g16,g17,hA0,hB0,dt]
   refine StA.of ((Wbf hO3 (by omega) (fun x hx=>by have:=sU.2 x hx;omega)).mono ?_)
   rintro _ _ ⟨rfl,rfl⟩
   simp [-Yf,hl,g0,g4,g5,g7,g13,g14,g15,g16,g17,hA0,hB0,dt]
   rw [Yf]
   refine Xn (fun env s=>∃ (u:List AV),env={ t:=u }∧u.length=199∧tg u 0=Xa f∧tg u 4=.ptr σ.length 0∧tg u 7=Xa f∧tg u 20=v2∧tg u 22=Xa [r]∧tg u 23=v3 ∧
    (∃ g,s=σ++g)∧s[σ.length]? = some (AObj.cells [AV.int .i64 r.kind,AV.int .i64 r.number,AV.pl 1 (r.words.map AV.str)])∧Xda σ.length s v2 v3 D.1 U.1) ?_ ?_
   ·rcases hW with ⟨_,rfl | rfl⟩ | ⟨j,hj,rfl,hj2⟩
    ·simp [hl,g0,g4,g5,g7]
     refine ⟨⟨_,by rw [hg0',List.append_assoc]⟩,hA0 _,_,_,_,_,hC2,hC3,by omega,by omega,by omega,by omega,by simp;omega⟩
    ·simp [hl,g0,g4,g5,g7]
     refine ⟨⟨_,by rw [hg0',List.append_assoc]⟩,hA0 _,_,_,_,_,hC2,hC3,by omega,by omega,by omega,by omega,by simp;omega⟩
    ·have hjl:=hWj j _ rfl
     simp [hl,g0,g4,g5,g7,hj2,strs]
     refine ⟨⟨_,by rw [hg0',List.append_assoc,Us (by omega)]⟩,by rw [List.getElem?_set_ne (by omega)];exact hA0 _,_,_,_,_,hC2.set (by omega),hC3.set (by omega),by omega,by omega,by omega,by omega,by simp;omega⟩
   ·clear g0 g4 g5 g7 g13 g14 g15 g16 g17 hl u
    rintro env s ⟨u,rfl,hl,g0,g4,g7,g20,g22,g23,hpr,hAs,hT⟩
    obtain ⟨lo1,hi1,lo2,hi2,hF2,hF3,b1,b2,b3,b4,b5⟩:=hT
    obtain ⟨o2,c2,al2⟩:=hF2.one
    obtain ⟨o3,c3,al3⟩:=hF3.one
    have q2:v2.known=true:=Waj (by rw [c2];simp [-AV.one,o2])
    have q3:v3.known=true:=Waj (by rw [c3];simp [-AV.one,o3])
    have hn0:AV.nils.cells=[AV.nils]:=rfl
    simp [-AV.cells,-AV.one,-AV.known,-Vb,hn0,q2,q3,c2,c3,o2,o3,hl,g0,g4,g7,g20,g22,g23]
    simp
    have pR:(s++[AObj.cells [v2,v3]])[s.length]? = some (.cells [v2,v3]):=by simp
    have pl:=hAs
    have hsl:σ.length<s.length:=(Qzs.1 hAs).1
    refine Yc (fun env σ'=>∃ (u:List AV) (i:Nat),env={ t:=u }∧u.length=199∧tg u 0=Xa f∧tg u 4=.ptr σ.length 0∧tg u 7=Xa f∧tg u 22=Xa [r] ∧
     tg u 171=.arr 1 s.length 0 2∧tg u 172=.int .i64 2∧tg u 173=.int .i64 i∧i≤2∧(∃ g,σ'=σ++g)∧σ'[σ.length]? = some (AObj.cells [AV.int .i64 r.kind,AV.int .i64 r.number,AV.pl 1 (r.words.map AV.str)])∧σ'[s.length]? = some (.cells [v2,v3])∧FileC lo1 hi1 σ' v2 D.1∧FileC lo2 hi2 σ' v3 U.1)
     (fun env _=>match tg env.t 173 with | .int _ i=>2 - i.toNat | _=>0) ⟨_,0,rfl,by simp [hl],by simp [hl,g0],by simp [hl,g4],by simp [hl,g7],by simp [hl,g22],by simp [hl],by simp [hl],by simp [hl],by omega,by obtain ⟨g,hg⟩:=hpr;exact ⟨g++[AObj.cells [v2,v3]],by rw [hg,List.append_assoc]⟩,Vf hAs,pR,hF2.more _,hF3.more _⟩ ?_
    clear hl g0 g4 g7 g20 g22 g23 hF2 hF3 pR pl u hAs
    rintro env τ ⟨u,i,rfl,hl,g0,g4,g7,g22,g171,g172,g173,hi,hpr,hAs,hR,hF2,hF3⟩
    rcases Qzn i 2 with hi2 | hi2
    ·have hi2':(i:Int)<2:=by omega
     have hx:=w64 (n:=(i:Int)+1) (by omega) (by omega)
     obtain ⟨v,F,lo,hi',q,hv,k1,k2,k3,kl,kw,kn⟩:=Xcv hF2 hF3 b2 b3 hi2
     have nF:=kl (by have:=sD.1;omega) (by have:=sU.1;omega)
     have ov:v.one=true∧∀ X,Vb Tryz.prog 23 v X=some (.int .i64 F.length):=by
      rcases k3 with ⟨rfl,rfl⟩ | ⟨rfl,_⟩
      ·exact ⟨rfl,fun X=>by simp⟩
      ·exact ⟨rfl,fun X=>by simp⟩
     obtain ⟨ov,alv⟩:=ov
     have hi1:i≤1:=by omega
     have hvi:[v2,v3][i]'(by simpa using hi2)=v:=(Qzs.1 hv).2
     simp [-Vb,-AV.one,hl,g0,g4,g7,g22,g171,g172,g173,hi2',hi2,hi1,hR,hvi,ov,alv]
     refine Yc (fun env σ'=>∃ (u:List AV) (j:Nat),env={ t:=u }∧u.length=199∧tg u 0=Xa f∧tg u 4=.ptr σ.length 0∧tg u 7=Xa f∧tg u 22=Xa [r] ∧
      tg u 171=.arr 1 s.length 0 2∧tg u 172=.int .i64 2∧tg u 173=.int .i64 i∧tg u 177=v∧tg u 178=.int .i64 F.length∧tg u 179=.int .i64 j∧j≤F.length∧Sm lo hi' q τ σ'∧∃ g,σ'=σ++g)
      (fun env _=>match tg env.t 179 with | .int _ i=>F.length - i.toNat | _=>0) ⟨_,0,rfl,by simp [hl],by simp [hl,g0],by simp [hl,g4],by simp [hl,g7],by simp [hl,g22],by simp [hl,g171],by simp [hl,g172],by simp [hl,g173],by simp [hl],by simp [hl],by simp [hl],by omega,.refl _ _ _ _,hpr⟩ ?_
     clear hl g0 g4 g7 g22 g171 g172 g173 u
     rintro env τ' ⟨u,j,rfl,hl,g0,g4,g7,g22,g171,g172,g173,g177,g178,g179,hj,hK,hpr'⟩
     rcases Qzn j F.length with hlt | hge
     ·have hlt':(j:Int)<(F.length:Int):=by omega
      have hxj:=w64 (n:=(j:Int)+1) (by omega) (by omega)
      rcases k3 with ⟨h,_⟩ | ⟨hv0,hC⟩
      ·rw [h] at hlt;simp at hlt
      obtain ⟨cs,hcs,hcl,hrow⟩:=(hK.own hC).row
      obtain ⟨w,hw1,hw2⟩:=hrow j F[j] (Qze hlt)
      have hb3:j*3+3≤F.length*3:=by omega
      obtain ⟨h,hh⟩:=hpr'
      rcases hw2 with ⟨hwe,rfl⟩ | ⟨p',xs,hp1,hp2,hp3,rfl,hp4,hxs⟩
      ·simp [hl,g0,g4,g7,g22,g171,g172,g173,g177,g178,g179,hlt',hlt,hv0,hcs,hcl,hw1,hb3,hxj]
       exact ⟨⟨j+1,by simp,by omega,hK.app _,⟨_,by rw [hh,List.append_assoc]⟩⟩,by omega⟩
      ·have hqa:∀ X:Za,(τ'++X)[p']? = _:=fun X=>Vf hp4
       simp [hl,g0,g4,g7,g22,g171,g172,g173,g177,g178,g179,hlt',hlt,hv0,hcs,hcl,hw1,hb3,hxj,hqa,hxs]
       exact ⟨⟨j+1,by simp,by omega,(hK.app _).set hp1 hp2 hp3 (hqa _) (by rw [List.length_append,List.length_replicate,List.length_drop];omega),⟨_,by rw [hh,List.append_assoc,Us (by omega)]⟩⟩,by omega⟩
     ·obtain rfl:j=F.length:=by omega
      have ⟨kF2,kF3⟩:=kn _ hK
      simp [-Vb,-AV.one,hl,g0,g4,g7,g22,g171,g172,g173,g177,g178,g179,hx]
      exact ⟨⟨i+1,by simp,by omega,hpr',by rw [hK.out _ (Qzs.1 hAs).1 (by omega)];exact hAs,by rw [hK.out _ (Qzs.1 hR).1 (by omega)];exact hR,kF2,kF3⟩,by omega⟩
    ·obtain rfl:i=2:=by omega
     have hAa:∀ X:Za,(τ++X)[σ.length]? = _:=fun X=>Vf hAs
     simp [hl,g0,g4,g7,g22,g171,g172,g173,hAs]
     refine (Xac f f l40 w40).use ?_
     simp [hl,g0,g4,g7,g22,g171,g172,g173,hAs,hAa]
     have k19:=Xdu τ r (by omega)
     simp [Uf] at k19
     refine StA.of (k19.mono ?_)
     rintro _ _ ⟨rfl,rfl⟩
     simp [hl,g0,g4,g7,g22,g171,g172,g173,hAs]
     refine awake_calls.use ?_
     obtain ⟨g,hg⟩:=hpr
     first | exact hPost _ ⟨_,by rw [hg,List.append_assoc]⟩ | (simp [hl];exact hPost _ ⟨_,by rw [hg,List.append_assoc]⟩)
end Ab

/-
  Texts packed for a claim.
-/
import Derived.Test.YtcoikmapjepdjaaGreatDoorE00
import Derived.Test.YtcoikmapjepdjaaGreatDoorE29
set_option linter.all false
namespace Ab
open Go Go.RowKit Go.Proofs
theorem Xe6:Orc.Good Tryz.prog fun _ _ _=>none:=fun f args σ v σ' h=>by cases h
theorem Zah {f:Nat} {args:List AV} {v:AV} {σ:Za} (n:Nat) (h:evF Tryz.prog (evC Tryz.prog (fun _ _ _=>none) n) f args σ=some (v,σ)):ACalls Tryz.prog f args σ fun v' s=>v'=v∧s=σ :=
 Wau (Zbx mixed Xe6 n) f args σ v σ h
theorem Xg1 (n:Nat) (hn:n≤6) (σ:Za):ACalls Tryz.prog 145 [.int .u64 n] σ fun v s=>(∃ k:Int,v=.int .i64 k)∧s=σ:=by
 have:n=0∨n=1∨n=2∨n=3∨n=4∨n=5∨n=6:=by omega
 rcases this with rfl | rfl | rfl | rfl | rfl | rfl | rfl
 ·exact (Zah (v:=.int .i64 0) 60 (by kernel_rfl)).mono fun v s h=>⟨⟨_,h.1⟩,h.2⟩
 ·exact (Zah (v:=.int .i64 1) 60 (by kernel_rfl)).mono fun v s h=>⟨⟨_,h.1⟩,h.2⟩
 ·exact (Zah (v:=.int .i64 2) 60 (by kernel_rfl)).mono fun v s h=>⟨⟨_,h.1⟩,h.2⟩
 ·exact (Zah (v:=.int .i64 2) 60 (by kernel_rfl)).mono fun v s h=>⟨⟨_,h.1⟩,h.2⟩
 ·exact (Zah (v:=.int .i64 3) 60 (by kernel_rfl)).mono fun v s h=>⟨⟨_,h.1⟩,h.2⟩
 ·exact (Zah (v:=.int .i64 3) 60 (by kernel_rfl)).mono fun v s h=>⟨⟨_,h.1⟩,h.2⟩
 ·exact (Zah (v:=.int .i64 3) 60 (by kernel_rfl)).mono fun v s h=>⟨⟨_,h.1⟩,h.2⟩
theorem Uhr {P Q:List AV} {a b:AV} {k:Nat} (hk:P.length=k):List.take k (List.take (k+1) (P++a::b::Q)++a::List.drop (k+1+1) (P++a::b::Q))++b::a::List.drop (k+1+1) (P++a::b::Q)=P++b::a::Q:=by
 subst hk
 have e1:List.take (P.length+1) (P++a::b::Q)=P++[a]:=by rw [List.take_append,List.take_of_length_le (by omega),Nat.add_sub_cancel_left];rfl
 have e2:List.drop (P.length+1+1) (P++a::b::Q)=Q:=by rw [List.drop_append,List.drop_eq_nil_of_le (by omega),show P.length+1+1 - P.length=2 by omega];rfl
 rw [e1,e2]
 simp
attribute [local irreducible] aws awp aw1 Og Om Oc Oa Ogd Ov Ot awd Ua awh Xb Ogh Ohd awl Ogl Ohl awv Ogv Ohv Wb Vb QFn Zc Vg QRo QBe Yf Yg ACode AYield
theorem Zc3 (a b:Int):APure Tryz.prog 219 [.int .i64 a,.int .i64 b] (.bool (decide (a<b))):=by
 intro σ
 refine Yb Tryz.func219 rfl (Zb Tryz.func219 (by decide) rfl) ?_
 have c1:APure Tryz.prog 229 [.int .i64 a] (.bool false):=by
  intro σ
  refine Yb Tryz.func229 rfl (Zb Tryz.func229 (by decide) rfl) ?_
  simp [Tryz.ntmps229]
 simp [Tryz.ntmps219]
 refine c1.use ?_
 simp
def IsB (σ:Za) (r n i:Nat) (l:List Int) (rest:List AV) (env:Env) (σ':Za):Prop:=∃ (u:List AV) (A B C:List Int) (x:Int),env={ t:=u }∧u.length=49∧tg u 0=.arr 1 r 0 n∧tg u 1=.int .i64 0∧tg u 2=.int .i64 n∧tg u 6=.int .i64 i∧tg u 7=.int .i64 A.length∧A.length+B.length=i∧(A++B).Pairwise (·≤·)∧(∀ y∈B,x<y)∧(A++x::(B++C)).Perm l∧σ'=σ.set r (.cells (Ya (A++x::(B++C))++rest))
def IsA (σ:Za) (r n:Nat) (l:List Int) (rest:List AV) (env:Env) (σ':Za):Prop:=∃ (u:List AV) (i:Nat) (m:List Int),env={ t:=u }∧u.length=49∧tg u 0=.arr 1 r 0 n∧tg u 1=.int .i64 0∧tg u 2=.int .i64 n∧tg u 6=.int .i64 i∧(m.take i).Pairwise (·≤·)∧m.Perm l∧i≤n+1∧(i=n+1→n=0)∧σ'=σ.set r (.cells (Ya m++rest))
set_option maxHeartbeats 1000000 in
theorem Wdw (σ:Za) (r:Nat) (l:List Int) (rest:List AV) (hr:σ[r]? = some (.cells (Ya l++rest))) (hl:l.length≤6) :
  ACalls Tryz.prog 213 [.arr 1 r 0 l.length,.int .i64 0,.int .i64 l.length] σ fun _ s=>∃ m,m.Perm l∧m.Pairwise (·≤·)∧s=σ.set r (.cells (Ya m++rest)):=by
 have hrl:=(Qzs.1 hr).1
 have h0:σ.set r (.cells (Ya l++rest))=σ:=by
  apply List.ext_getElem?
  intro i
  rw [List.getElem?_set]
  split
  ·rename_i e
   subst e
   first | exact hr.symm | (rw [if_pos hrl];exact hr.symm)
  ·rfl
 obtain ⟨n,hn⟩:∃ n,l.length=n:=⟨_,rfl⟩
 refine Yb Tryz.func213 rfl (Zb Tryz.func213 (by decide) rfl) ?_
 have w1:IntKind.i64.wrap 1=1:=by decide
 simp [Tryz.ntmps213,hn,w1]
 refine Wd (IsA σ r n l rest) (fun env _=>match tg env.t 6 with | .int _ i=>n+1 - i.toNat | _=>0) ⟨_,1,l,rfl,by simp,by simp,by simp,by simp,by simp,by
  cases l with
  | nil=>simp
  | cons x l=>simp,List.Perm.refl _,by omega,by omega,by rw [h0]⟩ ?_
 rintro env _ ⟨u,i,m,rfl,hl2,g0,g1,g2,g6,hsrt,hp,hi,hi0,rfl⟩
 have hml:m.length=n:=hp.length_eq.trans hn
 rcases Qzn i n with hlt | hge
 ·have hlt':(i:Int)<(n:Int):=by omega
  have hx:=w64 (n:=(i:Int)+1) (by omega) (by omega)
  simp [hl2,g0,g1,g2,g6,hlt']
  refine Wd (IsB σ r n i l rest) (fun env _=>match tg env.t 7 with | .int _ j=>j.toNat | _=>0) ⟨_,m.take i,[],m.drop (i+1),m[i],rfl,by simp [hl2],by simp [hl2,g0],by simp [hl2,g1],by simp [hl2,g2],by simp [hl2,g6],by simp [hl2];omega,by simp;omega,by simpa using hsrt,by simp,by simpa using hp,by simp⟩ ?_
  clear hl2 g0 g1 g2 g6 u hsrt hp
  rintro env _ ⟨u,A,B,C,x,rfl,hl2,g0,g1,g2,g6,g7,hAB,hsrt,hB,hp,rfl⟩
  have hpl:=hp.length_eq
  simp at hpl
  rcases Nat.eq_zero_or_pos A.length with ha | ha
  ·obtain rfl:=List.eq_nil_of_length_eq_zero ha
   simp [hl2,g0,g1,g2,g6,g7]
   refine Yl mixed (by kernel_rfl) ?_
   simp [hl2,g0,g1,g2,g6,g7,hx]
   have hBl:B.length=i:=by simpa using hAB
   have htk:List.take (i+1) (x::(B++C))=x::B:=by rw [List.take_succ_cons,List.take_append_of_le_length (by omega),List.take_of_length_le (by omega)]
   exact ⟨⟨_,i+1,x::(B++C),rfl,by simp [hl2],by simp [hl2,g0],by simp [hl2,g1],by simp [hl2,g2],by simp [hl2],by rw [htk];exact List.pairwise_cons.2 ⟨fun y hy=>by have:=hB y hy;omega,by simpa using hsrt⟩,by simpa using hp,by omega,by omega,rfl⟩,by omega⟩
  ·obtain ⟨A,y,rfl⟩:∃ A' y,A=A'++[y]:=⟨A.dropLast,A.getLast (by intro e;simp [e] at ha),(List.dropLast_concat_getLast _).symm⟩
   obtain ⟨k,hk⟩:∃ k,A.length=k:=⟨_,rfl⟩
   simp [hk] at g7 hAB hpl
   have hZ:Ya (A++[y]++x::(B++C))++rest=Ya A++.int .i64 y::.int .i64 x::(Ya (B++C)++rest):=by simp [Ya]
   have hZ2:Ya (A++x::(y::(B++C)))++rest=Ya A++.int .i64 x::.int .i64 y::(Ya (B++C)++rest):=by simp [Ya]
   have hkA:(Ya A).length=k:=by simp [Ya,hk]
   have hsw:=Uhr (P:=Ya A) (Q:=Ya (B++C)++rest) (a:=.int .i64 y) (b:=.int .i64 x) hkA
   rw [hZ]
   obtain ⟨X,hX⟩:∃ X,Ya A++AV.int .i64 y::.int .i64 x::(Ya (B++C)++rest)=X:=⟨_,rfl⟩
   have hy1:X[k]? = some (.int .i64 y):=by rw [← hX,Qzr (by omega),hkA];simp
   have hx1:X[k+1]? = some (.int .i64 x):=by rw [← hX,Qzr (by omega),hkA];simp
   have hl1:=(Qzs.1 hx1).1
   have hr1:(σ.set r (.cells X))[r]? = some (.cells X):=by simp [hrl]
   have c1:(0:Int)≤(k:Int)+1∧(k:Int)+1<(n:Int):=by omega
   have c2:(k:Int)<(n:Int):=by omega
   have c2':k<n:=by omega
   have c3:k+1+1≤X.length:=hl1
   have c4:k+1≤X.length:=by omega
   have c5:(0:Int)<(k:Int)+1:=by omega
   have wk:=w64 (n:=(k:Int)) (by omega) (by omega)
   rw [hX] at hsw ⊢
   simp [hl2,g0,g1,g2,g6,g7]
   refine Yl mixed (by kernel_rfl) ?_
   simp [hl2,g0,g1,g2,g6,g7,hr1,c1,c2,c2',c3,c4,c5,hy1,hx1,wk]
   refine Yaq (Zc3 x y) ?_
   by_cases hxy:x<y
   ·simp [hl2,g0,g1,g2,g6,g7,hxy]
    refine Uce [15,17] [(2,1),(3,1),(4,1)] mixed (by kernel_rfl) (by kernel_rfl) ?_
    have hr2:∀ Y,(σ.set r (.cells Y))[r]? = some (.cells Y):=fun Y=>by simp [hrl]
    have c6:k+1≤(List.take (k+1) X++AV.int .i64 y::List.drop (k+1+1) X).length:=by simp;omega
    simp [hl2,g0,g1,g2,g6,g7,hr1,hr2,c1,c2,c2',c3,c4,c5,hy1,hx1,wk]
    rw [hsw]
    have hs2:(A++y::B).Pairwise (·≤·):=by simpa using hsrt
    have hp2:(A++x::(y::B++C)).Perm l:=by
     refine List.Perm.trans ?_ hp
     simp only [List.append_assoc,List.cons_append,List.nil_append]
     exact List.Perm.append_left A (List.Perm.swap _ _ _)
    exact ⟨_,A,y::B,C,x,rfl,by simp [hl2],by simp [hl2,g0],by simp [hl2,g1],by simp [hl2,g2],by simp [hl2,g6],by simp [hl2,hk],by simp;omega,hs2,fun z hz=>by
     rcases List.mem_cons.1 hz with rfl | hz
     ·exact hxy
     ·exact hB z hz,hp2,by rw [← hZ2];rfl⟩
   ·simp [hl2,g0,g1,g2,g6,g7,hxy,hx]
    have hm2:A++[y]++x::(B++C)=(A++[y]++x::B)++C:=by simp
    have htk:List.take (i+1) (A++[y]++x::(B++C))=A++[y]++x::B:=by rw [hm2,List.take_append_of_le_length (by simp;omega),List.take_of_length_le (by simp;omega)]
    have hs3:(A++[y]++x::B).Pairwise (·≤·):=by
     rw [List.pairwise_append] at hsrt ⊢
     obtain ⟨q1,q2,q3⟩:=hsrt
     refine ⟨q1,List.pairwise_cons.2 ⟨fun z hz=>by have:=hB z hz;omega,q2⟩,fun a ha b hb=>?_⟩
     rcases List.mem_cons.1 hb with rfl | hb
     ·rw [List.pairwise_append] at q1
      rcases List.mem_append.1 ha with ha | ha
      ·have:=q1.2.2 a ha y (by simp);omega
      ·rw [List.mem_singleton.1 ha];omega
     ·exact q3 a ha b hb
    exact ⟨⟨_,i+1,A++[y]++x::(B++C),rfl,by simp [hl2],by simp [hl2,g0],by simp [hl2,g1],by simp [hl2,g2],by simp [hl2],by rw [htk];exact hs3,hp,by omega,by omega,by rw [hZ,hX]⟩,by omega⟩
 ·have hge':¬ (i:Int)<(n:Int):=by omega
  simp [hl2,g0,g1,g2,g6,hge']
  rw [List.take_of_length_le (by omega)] at hsrt
  exact ⟨m,hp,hsrt,rfl⟩
theorem Wbc (σ:Za) (r:Nat) (l:List Int) (rest:List AV) (hr:σ[r]? = some (.cells (Ya l++rest))) (hl:l.length≤6) :
  ACalls Tryz.prog 63 [.arr 1 r 0 l.length] σ fun _ s=>∃ m,m.Perm l∧m.Pairwise (·≤·)∧s=σ.set r (.cells (Ya m++rest)):=by
 refine Yb Tryz.func63 rfl (Zb Tryz.func63 (by decide) rfl) ?_
 have hw:IntKind.u64.wrap (l.length:Int)=l.length:=by
  have:l.length=0∨l.length=1∨l.length=2∨l.length=3∨l.length=4∨l.length=5∨l.length=6:=by omega
  rcases this with e | e | e | e | e | e | e<;>rw [e]<;>decide
 simp [Tryz.ntmps63,hw]
 refine StA.of ((Xg1 l.length hl σ).mono ?_)
 rintro v s ⟨⟨k,rfl⟩,hs⟩
 obtain rfl:=hs.symm
 simp
 have h2:ACalls Tryz.prog 144 [.arr 1 r 0 l.length,.int .i64 0,.int .i64 l.length,.int .i64 k] σ fun _ s=>∃ m,m.Perm l∧m.Pairwise (·≤·)∧s=σ.set r (.cells (Ya m++rest)):=by
  refine Yb Tryz.func144 rfl (Zb Tryz.func144 (by decide) rfl) ?_
  have hwl:=w64 (n:=(l.length:Int)) (by omega) (by omega)
  have hle:(l.length:Int)≤12:=by omega
  simp [Tryz.ntmps144]
  refine Wd (fun env s=>∃ u,env={ t:=u }∧u.length=134∧tg u 0=.arr 1 r 0 l.length∧tg u 1=.int .i64 0∧tg u 2=.int .i64 l.length∧s=σ) (fun _ _=>0) ⟨_,rfl,by simp,by simp,by simp,by simp,rfl⟩ ?_
  rintro env s' ⟨u,rfl,hl2,g0,g1,g2,hs'⟩
  obtain rfl:=hs'.symm
  simp [hl2,g0,g1,g2,hwl,hle]
  refine StA.of ((Wdw σ r l rest hr hl).mono ?_)
  rintro v s ⟨m,h1,h2,rfl⟩
  try simp
  exact ⟨m,h1,h2,rfl⟩
 refine StA.of (h2.mono ?_)
 rintro v s ⟨m,h1,h2,rfl⟩
 try simp
 exact ⟨m,h1,h2,rfl⟩
end Ab
namespace Ab
open Go Go.RowKit Go.Proofs
def RowAt (b:Nat) (g:Za) (o:Option Nat) (v:AV) (l:List Int):Prop:=∃ p rest,v=.arr 1 (b+p) 0 l.length∧some p≠o∧g[p]? = some (.cells (Ya l++rest))
theorem RowAt.fz {b n:Nat} {g:Za} {o:Option Nat} {v:AV} {l:List Int} {S:Za} (h:RowAt b g o v l) (hn:n≤b) (hg:∀ p x,g[p]? = some x→S[b+p]? = some x):Fz n S v (.pl 1 (Ya l)):=by
 obtain ⟨p,rest,rfl,_,hp⟩:=h
 refine Wag (by omega) (hg _ _ hp) fun i x hx=>?_
 have hi:=(Qzs.1 hx).1
 rw [Nat.zero_add,Qzl (by simpa [Ya] using hi)]
 unfold Ya
 rw [Qzp,hx]
 rfl
theorem RowAt.more {b:Nat} {g:Za} {o:Option Nat} {v:AV} {l:List Int} (h:RowAt b g o v l) (X:Za):RowAt b (g++X) o v l:=by
 obtain ⟨p,rest,h1,h2,h3⟩:=h
 exact ⟨p,rest,h1,h2,by rw [Qzl (Qzs.1 h3).1];exact h3⟩
theorem RowAt.kept {b:Nat} {g g':Za} {o o':Option Nat} {v:AV} {l:List Int} (h:RowAt b g o v l) (hk:∀ j,some j≠o→j<g.length→g'[j]? = g[j]?) (ho:o'=o∨∀ j,o'=some j→g.length≤j):RowAt b g' o' v l:=by
 obtain ⟨p,rest,h1,h2,h3⟩:=h
 have hp:=(Qzs.1 h3).1
 refine ⟨p,rest,h1,fun e=>?_,by rw [hk p h2 hp];exact h3⟩
 rcases ho with rfl | ho
 ·exact h2 e
 ·have:=ho p e.symm;omega
theorem Acc.fzK {S g X:Za} {k n:Nat} {v:AV} {L L':List AV} {o:Option Nat} (h:Acc S g k v L o) (hk:0<k) (hn:n≤S.length) (hl:L'.length=L.length)
  (h1:∀ (i:Nat) (x y:AV),L[i]? = some x→L'[i]? = some y→y.cells.length=k∧(∀ z∈y.cells,z.one=true)∧∀ (j:Nat) (a b:AV),x.cells[j]? = some a→y.cells[j]? = some b→Fz n (S++(g++X)) a b):Fz n (S++(g++X)) v (.pl k L'):=by
 have hv:=h.val
 cases o with
 | none =>
  obtain ⟨rfl,e⟩:=hv
  rw [e] at hl
  rw [List.eq_nil_of_length_eq_zero hl]
  exact .nils_pl k
 | some jo =>
  obtain ⟨rfl,hjo⟩:=hv
  have hjl:=(Qzs.1 hjo).1
  rw [← hl]
  refine .arr k _ 0 (L.flatMap AV.cells) L' (fun i j=>((L[i]?).bind fun x=>x.cells[j]?).getD .any) (by omega) (by rw [Qzr (by omega),Nat.add_sub_cancel_left,Qzl hjl];exact hjo) (fun i y hy=>?_) fun i y hy j b hb=>?_
  ·have hi:=(Qzs.1 hy).1
   have hx:L[i]? = some (L[i]'(by omega)):=Qze (by omega)
   obtain ⟨q1,q2,_⟩:=h1 i _ y hx hy
   refine ⟨q1,fun j b hb=>⟨q2 b (Qzg hb),?_⟩⟩
   have hj:=(Qzs.1 hb).1
   rw [q1] at hj
   have hc:=(h.len _ (Qzg hx)).1
   rw [flat_get L (fun x hx=>(h.len x hx).1) hk,show (0+i)*k+j=j+k*i by rw [Nat.zero_add,Nat.mul_comm,Nat.add_comm],Nat.add_mul_div_left _ _ hk,Nat.div_eq_of_lt hj,Nat.zero_add,Nat.add_mul_mod_self_left,Nat.mod_eq_of_lt hj,hx]
   simp only [Option.bind_some]
   rw [Qze (by omega)]
   rfl
  ·have hi:=(Qzs.1 hy).1
   have hx:L[i]? = some (L[i]'(by omega)):=Qze (by omega)
   obtain ⟨q1,q2,q3⟩:=h1 i _ y hx hy
   have hj:=(Qzs.1 hb).1
   have hc:=(h.len _ (Qzg hx)).1
   have ha:(L[i]'(by omega)).cells[j]? = some ((L[i]'(by omega)).cells[j]'(by omega)):=Qze (by omega)
   rw [hx]
   simp only [Option.bind_some,ha,Option.getD_some]
   exact q3 j _ b ha hb
def Wba (P:Program) (rd:Option Nat) (c:Code) (ex:Exit) (e:Env) (s:Za):Nat→Env→Za→Prop
 | 0,env,σ=>∀ Q:Exit→Env→Za→Prop,Q ex e s→ACode P rd c Q env σ
 | k+1,env,σ=>∃ env' σ',(∀ Q:Exit→Env→Za→Prop,Q .normal env' σ'→ACode P rd c Q env σ)∧Wba P rd c ex e s k env' σ'
theorem Ydu {P:Program} {rd:Option Nat} {c:Code} (Inv:Env→Za→Prop) (μ:Env→Za→Nat) (Out:Env→Za→Prop) (id:Nat)
  (step:∀ env σ,Inv env σ→(∃ env' σ',(∀ Q:Exit→Env→Za→Prop,Q .normal env' σ'→ACode P rd c Q env σ)∧Inv env' σ'∧μ env' σ'<μ env σ)∨(∃ env' σ',(∀ Q:Exit→Env→Za→Prop,Q (.exit id) env' σ'→ACode P rd c Q env σ)∧Out env' σ')) :
  ∃ F:Env→Za→Env × Za,∀ env σ,Inv env σ→Out (F env σ).1 (F env σ).2∧∀ Q:Exit→Env→Za→Prop,Q (.exit id) (F env σ).1 (F env σ).2→@StC _ P rd ⟨.loop c⟩ ⟨Q⟩ env σ:=by
 have a:∀ (m:Nat) (env:Env) (σ:Za),μ env σ=m→Inv env σ→∃ (k:Nat) (e:Env) (s:Za),Out e s∧Wba P rd c (.exit id) e s k env σ:=by
  intro m
  induction m using Nat.strongRecOn with
  | _ m ih =>
   intro env σ hm hi
   rcases step env σ hi with ⟨env',σ',h1,h2,h3⟩ | ⟨env',σ',h1,h2⟩
   ·obtain ⟨k,e,s,h4,h5⟩:=ih _ (hm▸h3) env' σ' rfl h2
    exact ⟨k+1,e,s,h4,env',σ',h1,h5⟩
   ·exact ⟨0,env',σ',h2,h1⟩
 have b:∀ (env:Env) (σ:Za),∃ f:Env × Za,Inv env σ→Out f.1 f.2∧∀ Q:Exit→Env→Za→Prop,Q (.exit id) f.1 f.2→@StC _ P rd ⟨.loop c⟩ ⟨Q⟩ env σ:=by
  intro env σ
  rcases Classical.em (Inv env σ) with hi | hi
  ·obtain ⟨k,e,s,h1,h2⟩:=a _ env σ rfl hi
   refine ⟨(e,s),fun _=>⟨h1,fun Q hQ=>?_⟩⟩
   refine Ubk (n:=k) (Wba P rd c (.exit id) e s) h2 fun n env σ hn=>?_
   cases n with
   | zero=>exact hn _ hQ
   | succ n =>
    obtain ⟨env',σ',h3,h4⟩:=hn
    exact h3 _ ⟨n,Nat.lt_succ_self n,h4⟩
  ·exact ⟨(env,σ),fun h=>absurd h hi⟩
 exact ⟨fun env σ=>Classical.choose (b env σ),fun env σ=>Classical.choose_spec (b env σ)⟩
attribute [local irreducible] aws awp aw1 Og Om Oc Oa Ogd Ov Ot awd Ua awh Xb Ogh Ohd awl Ogl Ohl awv Ogv Ohv Wb Vb QFn Zc Vg QRo QBe Yf Yg ACode AYield
theorem Wg2 (σ:Za) (d:Nat) (l:List UInt8) (a:Nat) (c lo hi:Int) (h:σ[d]? = some (Yc l a c)) (ha:a≤l.length) (hl:l.length≤9223372036854775807) (h0:-1000≤lo) (h1:lo≤hi) (h2:hi≤2^30) :
  ∃ (n:Int) (a':Nat) (c':Int),ACalls Tryz.prog 45 [.ptr d 0,.int .i64 lo,.int .i64 hi] σ (fun v s=>v=.int .i64 n∧s=σ.set d (Yc l a' c'))∧lo≤n∧n≤hi∧a'≤l.length:=by
 obtain ⟨x,a',c',hr,x0,x1,ha'⟩:=Zcb σ d l a c (hi - lo) h ha hl (by omega) (by omega)
 refine ⟨lo+x,a',c',?_,by omega,by omega,ha'⟩
 refine Yb Tryz.func45 rfl (Zb Tryz.func45 (by decide) rfl) ?_
 have hx:=w64 (n:=hi - lo) (by omega) (by omega)
 simp [Tryz.ntmps45,hx]
 refine StA.of (hr.mono ?_)
 rintro v σ' ⟨rfl,rfl⟩
 have hx2:=w64 (n:=lo+x) (by omega) (by omega)
 simp [hx2]
noncomputable def rgC:Code:=match Tryz.f62.body with
 | some (.seq _ (.seq _ (.seq (.seq _ (.block _ (.loop c))) _)))=>c
 | _=>.skip
def RgI (l:List UInt8) (d:Nat) (σ:Za) (n:Nat):Env→Za→Prop:=fun env σ'=>∃ (u:List AV) (k:Nat) (v:AV) (L:List Int) (g:Za) (o:Option Nat) (a2:Nat) (c2:Int),env={ t:=u }∧u.length=36∧tg u 0=.ptr d 0∧tg u 5=v∧tg u 9=.int .i64 n∧tg u 10=.int .i64 k∧σ'=σ.set d (Yc l a2 c2)++g∧a2≤l.length∧k≤n∧L.length=k∧L.Nodup∧(∀ x∈L,0≤x∧x<(k:Int))∧Acc σ g 1 v (Ya L) o
def RgO (l:List UInt8) (d:Nat) (σ:Za) (n:Nat):Env→Za→Prop:=fun env s=>∃ (u:List AV) (L:List Int) (g:Za) (o:Option Nat) (a2:Nat) (c2:Int),env={ t:=u }∧u.length=36∧s=σ.set d (Yc l a2 c2)++g∧a2≤l.length∧L.length=n∧L.Nodup∧(∀ x∈L,0≤x∧x<(n:Int))∧Acc σ g 1 (tg u 5) (Ya L) o
set_option maxHeartbeats 2000000 in
theorem Wb8 (σ:Za) (d:Nat) (l:List UInt8) (a:Nat) (c:Int) (n:Nat) (h:σ[d]? = some (Yc l a c)) (ha:a≤l.length) (hl:l.length≤9223372036854775807) (hn:n≤2^20) :
  ∃ (v:AV) (s:Za),ACalls Tryz.prog 62 [.ptr d 0,.int .i64 n] σ (fun v' s'=>v'=v∧s'=s)∧∃ (L:List Int) (a':Nat) (c':Int) (g:Za) (o:Option Nat),s=σ.set d (Yc l a' c')++g∧L.length=n∧L.Nodup∧(∀ x∈L,0≤x∧x<(n:Int))∧a'≤l.length∧Acc σ g 1 v (Ya L) o:=by
 have hd:=(Qzs.1 h).1
 have h0:σ.set d (Yc l a c)=σ:=by
  apply List.ext_getElem?
  intro i
  rw [List.getElem?_set]
  split
  ·rename_i e;subst e;exact h.symm
  ·rfl
 have hmax:(if (0:Int)<(n:Int) then (n:Int) else 0)=n:=by split<;>omega
 have hstep:∀ env σ',RgI l d σ n env σ'→(∃ env' s',(∀ Q:Exit→Env→Za→Prop,Q .normal env' s'→ACode Tryz.prog none rgC Q env σ')∧RgI l d σ n env' s'∧(match tg env'.t 10 with | .int _ i=>n - i.toNat | _=>0)<(match tg env.t 10 with | .int _ i=>n - i.toNat | _=>0))∨(∃ env' s',(∀ Q:Exit→Env→Za→Prop,Q (.exit 0) env' s'→ACode Tryz.prog none rgC Q env σ')∧RgO l d σ n env' s'):=by
  rintro env σ' ⟨u,k,v,L,g,o,a2,c2,rfl,hl2,g0,g5,g9,g10,rfl,ha2,hk,hLl,hLn,hLm,hA⟩
  rcases Qzn k n with hlt | hge
  ·have hlt':(k:Int)<(n:Int):=by omega
   have hx:=w64 (n:=(k:Int)+1) (by omega) (by omega)
   obtain ⟨i,a3,c3,hr,k0,k1,ha3⟩:=Zcb _ d l a2 c2 k (Xbf (σ:=σ) (g:=g) hd _) ha2 hl (by omega) (by omega)
   obtain ⟨m,rfl⟩:∃ m:Nat,i=m:=⟨i.toNat,by omega⟩
   have hA1:=((hA.set d (Yc l a3 c3)).push (P:=Tryz.prog) (t:=32) (e:=3) (ag:=false) (x:=.int .i64 (k:Nat)) (by simp) (by simp) (by simp) (by omega) ⟨by simp [AV.cells],by simp [AV.cells,AV.one]⟩ (by simp [Ya];omega))
   obtain ⟨v',g',o',he,hA',_⟩:=hA1
   simp [-Xa] at he
   cases o' with
   | none=>exact absurd hA'.val.2 (by simp [Ya])
   | some jo =>
    obtain ⟨rfl,hjo⟩:=hA'.val
    have hfl:List.flatMap AV.cells (Ya L++[AV.int IntKind.i64 (k:Int)])=Ya (L++[(k:Int)]):=by simp [Ya,List.flatMap_append,Vaf,AV.cells]
    have hll:(Ya L).length=k:=by simp [Ya,hLl]
    rw [hfl] at hjo
    have hat:(List.set σ d (Yc l a3 c3)++g')[σ.length+jo]? = some (.cells (Ya (L++[(k:Int)]))):=by rw [Qzr (by simp)];simpa using hjo
    have hmk:m<k+1:=by omega
    have hl1:(Ya (L++[(k:Int)])).length=k+1:=by simp [Ya,hLl]
    have hk1:(Ya (L++[(k:Int)]))[k]? = some (.int .i64 k):=by simp [Ya,hLl]
    have hm1:(Ya (L++[(k:Int)]))[m]? = some (.int .i64 ((L++[(k:Int)])[m]'(by simp [hLl];omega))):=by unfold Ya;rw [Qzp,Qze (by simp [hLl];omega)];rfl
    generalize hx0:(L++[(k:Int)])[m]'(by simp [hLl];omega)=x0 at hm1
    obtain ⟨Z,hZ⟩:∃ Z,Ya (L++[(k:Int)])=Z:=⟨_,rfl⟩
    rw [hZ] at hat hl1 hk1 hm1
    have hk2:Z[k]'(by omega)=.int .i64 k:=Option.some.inj ((Qze (by omega)).symm.trans hk1)
    have hm2:Z[m]'(by omega)=.int .i64 x0:=Option.some.inj ((Qze (by omega)).symm.trans hm1)
    have hmk2:m≤k:=by omega
    have hgl:jo<g'.length:=(Qzs.1 hjo).1
    have hgj:g'[jo]'hgl=.cells Z:=by rw [← hZ];exact Option.some.inj ((Qze hgl).symm.trans hjo)
    have hset:∀ (A B:AV),List.take k (List.take m Z++A::List.drop (m+1) Z)++B::List.drop (k+1) (List.take m Z++A::List.drop (m+1) Z)=(Z.set m A).set k B:=fun A B=>by
     rw [← show Z.set m A=List.take m Z++A::List.drop (m+1) Z from by rw [List.set_eq_take_append_cons_drop,if_pos (by omega)],List.set_eq_take_append_cons_drop (l:=Z.set m A),if_pos (by simp;omega)]
    have hrow:∃ L':List Int,(Z.set m (.int .i64 k)).set k (.int .i64 x0)=Ya L'∧L'.length=k+1∧L'.Nodup∧∀ x∈L',0≤x∧x<(k:Int)+1:=by
     refine ⟨((L++[(k:Int)]).set m k).set k x0,by rw [← hZ];simp [Ya,List.map_set],by simp [hLl],?_⟩
     have hkL:(k:Int)∉L:=fun h=>by have:=hLm _ h;omega
     rcases Qzn m k with h1 | h1
     ·have e:((L++[(k:Int)]).set m k).set k x0=L.set m k++[L[m]'(by omega)]:=by
       rw [List.set_append_left _ _ (by omega),List.set_append_right _ _ (by simp;omega)]
       rw [← hx0,List.getElem_append_left (by omega)]
       simp [hLl]
      rw [e]
      refine ⟨Yd8 hLn hkL (by omega),fun x hx=>?_⟩
      rcases List.mem_append.1 hx with hx | hx
      ·rcases List.mem_or_eq_of_mem_set hx with hx | rfl
       ·have:=hLm x hx;omega
       ·omega
      ·rw [List.mem_singleton.1 hx]
       have:=hLm _ (List.getElem_mem (show m<L.length by omega))
       omega
     ·obtain rfl:m=k:=by omega
      have e:((L++[(m:Int)]).set m m).set m x0=L++[(m:Int)]:=by
       rw [← hx0,List.getElem_append_right (by omega)]
       rw [List.set_append_right _ _ (by omega),List.set_append_right _ _ (by omega)]
       simp [hLl]
      rw [e]
      refine ⟨?_,fun x hx=>?_⟩
      ·rw [List.nodup_append]
       exact ⟨hLn,by simp,fun a ha b hb=>by rw [List.mem_singleton.1 hb];intro e;subst e;exact hkL ha⟩
      ·rcases List.mem_append.1 hx with hx | hx
       ·have:=hLm x hx;omega
       ·rw [List.mem_singleton.1 hx];omega
    obtain ⟨L',hL',hlL',hnL',hmL'⟩:=hrow
    refine .inl ⟨?e,?s,fun Q hQ=>Vk _ ?w,?inv,?mu⟩
    case w =>
     unfold rgC
     dsimp only [Tryz.f62]
     simp [-Xa,hl2,g0,g5,g9,g10,hlt']
     refine StA.of (hr.mono ?_)
     rintro v2 s2 ⟨rfl,rfl⟩
     rw [set_set hd]
     simp [-Xa,hl2,g0,g5,g9,g10,he]
     simp [-Xa,hl2,g0,g5,g9,g10,hll]
     refine Uce [13,15] [(2,1),(3,1)] mixed (by kernel_rfl) (by kernel_rfl) ?_
     simp [-Xa,hl2,g0,g5,g9,g10,hll,hmk,hmk2,hgj,hl1,hk2,hm2,hgl]
     rw [if_pos (by omega),Wl,hset,hL',hx]
     exact hQ
    case inv =>
     exact ⟨_,k+1,_,L',_,some jo,a3,c3,rfl,by simp [hl2],by simp [hl2,g0],rfl,by simp [hl2,g9],by simp [hl2],rfl,ha3,hlt,hlL',hnL',fun x hx=>by have:=hmL' x hx;simpa using this,⟨fun x hx=>by obtain ⟨y,_,rfl⟩:=List.mem_map.1 hx;exact ⟨rfl,by simp [AV.cells,AV.one]⟩,by simp [hl2,Ya,hlL',hll],by simp [hgl,Ya,Vaf]⟩⟩
    case mu =>
     simp [hl2,g10]
     exact Nat.sub_lt_sub_left hlt (Nat.lt_succ_self k)
  ·obtain rfl:k=n:=by omega
   refine .inr ⟨?e2,?s2,fun Q hQ=>Vk _ ?w2,?out⟩
   case w2 =>
    unfold rgC
    dsimp only [Tryz.f62]
    simp [-Xa,hl2,g0,g5,g9,g10]
    exact hQ
   case out =>
    exact ⟨_,L,g,o,a2,c2,rfl,by simp [hl2],rfl,ha2,hLl,hLn,hLm,by simpa [hl2,g5] using hA⟩
 obtain ⟨F,hF⟩:=Ydu (P:=Tryz.prog) (rd:=none) (c:=rgC) (RgI l d σ n) (fun env _=>match tg env.t 10 with | .int _ i=>n - i.toNat | _=>0) (RgO l d σ n) 0 hstep
 have hC:∀ env σ',RgI l d σ n env σ'→∀ Q:Exit→Env→Za→Prop,((F env σ').1.t.length=36→(F env σ').1.m=[]→Q (.exit 0) (F env σ').1 (F env σ').2)→@StC _ Tryz.prog none ⟨.loop rgC⟩ ⟨Q⟩ env σ':=fun env σ' hi Q hq=>(hF env σ' hi).2 Q (hq (by
  obtain ⟨u,_,_,_,_,_,e,hl,_⟩:=(hF env σ' hi).1
  rw [e];exact hl) (by
  obtain ⟨u,_,_,_,_,_,e,hl,_⟩:=(hF env σ' hi).1
  rw [e]))
 refine ⟨?vF,?sF,?calls,?props⟩
 case calls =>
  refine Yb Tryz.func62 rfl (Zb Tryz.func62 (by decide) rfl) ?_
  simp [-Xa,Tryz.ntmps62,hmax]
  refine hC _ _ ?inv0 _ ?rest
  case inv0=>exact ⟨_,0,.nils,[],[],none,a,c,rfl,by simp,by simp,by simp,by simp;omega,by simp,by simp [h0],ha,by omega,rfl,by simp,by simp,by simpa [Ya] using Acc.nil _ _ _⟩
  case rest =>
   intro hlen hmm
   simp [-Xa,hlen,hmm]
   refine And.intro ?_ ?_
   ·exact Eq.refl _
   ·exact Eq.refl _
 case props =>
  have key:∀ e s,RgI l d σ n e s→∃ (L:List Int) (a':Nat) (c':Int) (g:Za) (o:Option Nat),(F e s).2=σ.set d (Yc l a' c')++g∧L.length=n∧L.Nodup∧(∀ x∈L,0≤x∧x<(n:Int))∧a'≤l.length∧Acc σ g 1 (tg (F e s).1.t 5) (Ya L) o:=fun e s hi=>by
   obtain ⟨u,L,g,o,a2,c2,e1,hl36,hs,ha2,q1,q2,q3,q4⟩:=(hF e s hi).1
   exact ⟨L,a2,c2,g,o,hs,q1,q2,q3,ha2,by rw [e1];exact q4⟩
  refine key _ _ ?_
  exact ⟨_,0,.nils,[],[],none,a,c,rfl,by simp,by simp,by simp,by simp;omega,by simp,by simp [h0],ha,by omega,rfl,by simp,by simp,by simpa [Ya] using Acc.nil _ _ _⟩
end Ab

/-
  Texts packed for a claim.
-/
import Derived.Test.YtcoikmapjepdjaaGreatDoorD00
import Derived.Test.YtcoikmapjepdjaaGreatDoorD37
set_option linter.all false
namespace Ab
open Go Go.RowKit Go.Proofs
theorem Zev:Orc.Good Tryz.prog fun _ _ _=>none:=fun f args σ v σ' h=>by cases h
theorem Waf {f:Nat} {args:List AV} {v:AV} {σ:Za} (n:Nat) (h:evF Tryz.prog (evC Tryz.prog (fun _ _ _=>none) n) f args σ=some (v,σ)):ACalls Tryz.prog f args σ fun v' s=>v'=v∧s=σ :=
 Xax (Vbt mixed Zev n) f args σ v σ h
theorem Xge (n:Nat) (hn:n≤6) (σ:Za):ACalls Tryz.prog 145 [.int .u64 n] σ fun v s=>(∃ k:Int,v=.int .i64 k)∧s=σ:=by
 have:n=0∨n=1∨n=2∨n=3∨n=4∨n=5∨n=6:=by omega
 rcases this with rfl | rfl | rfl | rfl | rfl | rfl | rfl
 ·exact (Waf (v:=.int .i64 0) 60 (by kernel_rfl)).mono fun v s h=>⟨⟨_,h.1⟩,h.2⟩
 ·exact (Waf (v:=.int .i64 1) 60 (by kernel_rfl)).mono fun v s h=>⟨⟨_,h.1⟩,h.2⟩
 ·exact (Waf (v:=.int .i64 2) 60 (by kernel_rfl)).mono fun v s h=>⟨⟨_,h.1⟩,h.2⟩
 ·exact (Waf (v:=.int .i64 2) 60 (by kernel_rfl)).mono fun v s h=>⟨⟨_,h.1⟩,h.2⟩
 ·exact (Waf (v:=.int .i64 3) 60 (by kernel_rfl)).mono fun v s h=>⟨⟨_,h.1⟩,h.2⟩
 ·exact (Waf (v:=.int .i64 3) 60 (by kernel_rfl)).mono fun v s h=>⟨⟨_,h.1⟩,h.2⟩
 ·exact (Waf (v:=.int .i64 3) 60 (by kernel_rfl)).mono fun v s h=>⟨⟨_,h.1⟩,h.2⟩
theorem Zhh (n:Nat) (hn:n≤6) (σ:Za):ACalls Tryz.prog 125 [.int .u64 1,.int .u64 n] σ fun v s=>v=.tup [.int .u64 0,.int .u64 n]∧s=σ:=by
 have:n=0∨n=1∨n=2∨n=3∨n=4∨n=5∨n=6:=by omega
 rcases this with rfl | rfl | rfl | rfl | rfl | rfl | rfl<;>exact Waf 60 (by kernel_rfl)
theorem Yge {P Q:List AV} {a b:AV} {k:Nat} (hk:P.length=k):List.take k (List.take (k+1) (P++a::b::Q)++a::List.drop (k+1+1) (P++a::b::Q))++b::a::List.drop (k+1+1) (P++a::b::Q)=P++b::a::Q:=by
 subst hk
 have e1:List.take (P.length+1) (P++a::b::Q)=P++[a]:=by rw [List.take_append,List.take_of_length_le (by omega),Nat.add_sub_cancel_left];rfl
 have e2:List.drop (P.length+1+1) (P++a::b::Q)=Q:=by rw [List.drop_append,List.drop_eq_nil_of_le (by omega),show P.length+1+1 - P.length=2 by omega];rfl
 rw [e1,e2]
 simp
attribute [local irreducible] aws awp aw1 Og Om Oc Oa Ogd Ov Ot awd Zb awh Xb Ogh Ohd awl Ogl Ohl awv Ogv Ohv Wb Vb QFn Ub Wp QRo QBe Ul Vn ACode AYield
theorem Ue2 (a b:Int):APure Tryz.prog 219 [.int .i64 a,.int .i64 b] (.bool (decide (a<b))):=by
 intro σ
 refine Yb Tryz.func219 rfl (Va Tryz.func219 (by decide) rfl) ?_
 have c1:APure Tryz.prog 229 [.int .i64 a] (.bool false):=by
  intro σ
  refine Yb Tryz.func229 rfl (Va Tryz.func229 (by decide) rfl) ?_
  simp [Tryz.ntmps229]
 simp [Tryz.ntmps219]
 refine c1.use ?_
 simp
def IsB (σ:Za) (r n i:Nat) (l:List Int) (rest:List AV) (env:Env) (σ':Za):Prop:=∃ (u:List AV) (A B C:List Int) (x:Int),env={ t:=u }∧u.length=49∧tg u 0=.arr 1 r 0 n∧tg u 1=.int .i64 0∧tg u 2=.int .i64 n∧tg u 6=.int .i64 i∧tg u 7=.int .i64 A.length∧A.length+B.length=i∧(A++B).Pairwise (·≤·)∧(∀ y∈B,x<y)∧(A++x::(B++C)).Perm l∧σ'=σ.set r (.cells (Ya (A++x::(B++C))++rest))
def IsA (σ:Za) (r n:Nat) (l:List Int) (rest:List AV) (env:Env) (σ':Za):Prop:=∃ (u:List AV) (i:Nat) (m:List Int),env={ t:=u }∧u.length=49∧tg u 0=.arr 1 r 0 n∧tg u 1=.int .i64 0∧tg u 2=.int .i64 n∧tg u 6=.int .i64 i∧(m.take i).Pairwise (·≤·)∧m.Perm l∧i≤n+1∧(i=n+1→n=0)∧σ'=σ.set r (.cells (Ya m++rest))
set_option maxHeartbeats 1000000 in
theorem Zda (σ:Za) (r:Nat) (l:List Int) (rest:List AV) (hr:σ[r]? = some (.cells (Ya l++rest))) (hl:l.length≤6) :
  ACalls Tryz.prog 213 [.arr 1 r 0 l.length,.int .i64 0,.int .i64 l.length] σ fun _ s=>∃ m,m.Perm l∧m.Pairwise (·≤·)∧s=σ.set r (.cells (Ya m++rest)):=by
 have hrl:=(Qzs.1 hr).1
 have h0:σ.set r (.cells (Ya l++rest))=σ:=by
  apply List.ext_getElem?
  intro i
  rw [List.getElem?_set]
  split
  ·rename_i e
   subst e
   first | exact hr.symm | (rw [if_pos hrl];exact hr.symm)
  ·rfl
 obtain ⟨n,hn⟩:∃ n,l.length=n:=⟨_,rfl⟩
 refine Yb Tryz.func213 rfl (Va Tryz.func213 (by decide) rfl) ?_
 have w1:IntKind.i64.wrap 1=1:=by decide
 simp [Tryz.ntmps213,hn,w1]
 refine Vd (IsA σ r n l rest) (fun env _=>match tg env.t 6 with | .int _ i=>n+1 - i.toNat | _=>0) ⟨_,1,l,rfl,by simp,by simp,by simp,by simp,by simp,by
  cases l with
  | nil=>simp
  | cons x l=>simp,List.Perm.refl _,by omega,by omega,by rw [h0]⟩ ?_
 rintro env _ ⟨u,i,m,rfl,hl2,g0,g1,g2,g6,hsrt,hp,hi,hi0,rfl⟩
 have hml:m.length=n:=hp.length_eq.trans hn
 rcases Qzn i n with hlt | hge
 ·have hlt':(i:Int)<(n:Int):=by omega
  have hx:=w64 (n:=(i:Int)+1) (by omega) (by omega)
  simp [hl2,g0,g1,g2,g6,hlt']
  refine Vd (IsB σ r n i l rest) (fun env _=>match tg env.t 7 with | .int _ j=>j.toNat | _=>0) ⟨_,m.take i,[],m.drop (i+1),m[i],rfl,by simp [hl2],by simp [hl2,g0],by simp [hl2,g1],by simp [hl2,g2],by simp [hl2,g6],by simp [hl2];omega,by simp;omega,by simpa using hsrt,by simp,by simpa using hp,by simp⟩ ?_
  clear hl2 g0 g1 g2 g6 u hsrt hp
  rintro env _ ⟨u,A,B,C,x,rfl,hl2,g0,g1,g2,g6,g7,hAB,hsrt,hB,hp,rfl⟩
  have hpl:=hp.length_eq
  simp at hpl
  rcases Nat.eq_zero_or_pos A.length with ha | ha
  ·obtain rfl:=List.eq_nil_of_length_eq_zero ha
   simp [hl2,g0,g1,g2,g6,g7]
   refine Zj mixed (by kernel_rfl) ?_
   simp [hl2,g0,g1,g2,g6,g7,hx]
   have hBl:B.length=i:=by simpa using hAB
   have htk:List.take (i+1) (x::(B++C))=x::B:=by rw [List.take_succ_cons,List.take_append_of_le_length (by omega),List.take_of_length_le (by omega)]
   exact ⟨⟨_,i+1,x::(B++C),rfl,by simp [hl2],by simp [hl2,g0],by simp [hl2,g1],by simp [hl2,g2],by simp [hl2],by rw [htk];exact List.pairwise_cons.2 ⟨fun y hy=>by have:=hB y hy;omega,by simpa using hsrt⟩,by simpa using hp,by omega,by omega,rfl⟩,by omega⟩
  ·obtain ⟨A,y,rfl⟩:∃ A' y,A=A'++[y]:=⟨A.dropLast,A.getLast (by intro e;simp [e] at ha),(List.dropLast_concat_getLast _).symm⟩
   obtain ⟨k,hk⟩:∃ k,A.length=k:=⟨_,rfl⟩
   simp [hk] at g7 hAB hpl
   have hZ:Ya (A++[y]++x::(B++C))++rest=Ya A++.int .i64 y::.int .i64 x::(Ya (B++C)++rest):=by simp [Ya]
   have hZ2:Ya (A++x::(y::(B++C)))++rest=Ya A++.int .i64 x::.int .i64 y::(Ya (B++C)++rest):=by simp [Ya]
   have hkA:(Ya A).length=k:=by simp [Ya,hk]
   have hsw:=Yge (P:=Ya A) (Q:=Ya (B++C)++rest) (a:=.int .i64 y) (b:=.int .i64 x) hkA
   rw [hZ]
   obtain ⟨X,hX⟩:∃ X,Ya A++AV.int .i64 y::.int .i64 x::(Ya (B++C)++rest)=X:=⟨_,rfl⟩
   have hy1:X[k]? = some (.int .i64 y):=by rw [← hX,Qzr (by omega),hkA];simp
   have hx1:X[k+1]? = some (.int .i64 x):=by rw [← hX,Qzr (by omega),hkA];simp
   have hl1:=(Qzs.1 hx1).1
   have hr1:(σ.set r (.cells X))[r]? = some (.cells X):=by simp [hrl]
   have c1:(0:Int)≤(k:Int)+1∧(k:Int)+1<(n:Int):=by omega
   have c2:(k:Int)<(n:Int):=by omega
   have c2':k<n:=by omega
   have c3:k+1+1≤X.length:=hl1
   have c4:k+1≤X.length:=by omega
   have c5:(0:Int)<(k:Int)+1:=by omega
   have wk:=w64 (n:=(k:Int)) (by omega) (by omega)
   rw [hX] at hsw ⊢
   simp [hl2,g0,g1,g2,g6,g7]
   refine Zj mixed (by kernel_rfl) ?_
   simp [hl2,g0,g1,g2,g6,g7,hr1,c1,c2,c2',c3,c4,c5,hy1,hx1,wk]
   refine Ut (Ue2 x y) ?_
   by_cases hxy:x<y
   ·simp [hl2,g0,g1,g2,g6,g7,hxy]
    refine Yq [15,17] [(2,1),(3,1),(4,1)] mixed (by kernel_rfl) (by kernel_rfl) ?_
    have hr2:∀ Y,(σ.set r (.cells Y))[r]? = some (.cells Y):=fun Y=>by simp [hrl]
    have c6:k+1≤(List.take (k+1) X++AV.int .i64 y::List.drop (k+1+1) X).length:=by simp;omega
    simp [hl2,g0,g1,g2,g6,g7,hr1,hr2,c1,c2,c2',c3,c4,c5,hy1,hx1,wk]
    rw [hsw]
    have hs2:(A++y::B).Pairwise (·≤·):=by simpa using hsrt
    have hp2:(A++x::(y::B++C)).Perm l:=by
     refine List.Perm.trans ?_ hp
     simp only [List.append_assoc,List.cons_append,List.nil_append]
     exact List.Perm.append_left A (List.Perm.swap _ _ _)
    exact ⟨_,A,y::B,C,x,rfl,by simp [hl2],by simp [hl2,g0],by simp [hl2,g1],by simp [hl2,g2],by simp [hl2,g6],by simp [hl2,hk],by simp;omega,hs2,fun z hz=>by
     rcases List.mem_cons.1 hz with rfl | hz
     ·exact hxy
     ·exact hB z hz,hp2,by rw [← hZ2];rfl⟩
   ·simp [hl2,g0,g1,g2,g6,g7,hxy,hx]
    have hm2:A++[y]++x::(B++C)=(A++[y]++x::B)++C:=by simp
    have htk:List.take (i+1) (A++[y]++x::(B++C))=A++[y]++x::B:=by rw [hm2,List.take_append_of_le_length (by simp;omega),List.take_of_length_le (by simp;omega)]
    have hs3:(A++[y]++x::B).Pairwise (·≤·):=by
     rw [List.pairwise_append] at hsrt ⊢
     obtain ⟨q1,q2,q3⟩:=hsrt
     refine ⟨q1,List.pairwise_cons.2 ⟨fun z hz=>by have:=hB z hz;omega,q2⟩,fun a ha b hb=>?_⟩
     rcases List.mem_cons.1 hb with rfl | hb
     ·rw [List.pairwise_append] at q1
      rcases List.mem_append.1 ha with ha | ha
      ·have:=q1.2.2 a ha y (by simp);omega
      ·rw [List.mem_singleton.1 ha];omega
     ·exact q3 a ha b hb
    exact ⟨⟨_,i+1,A++[y]++x::(B++C),rfl,by simp [hl2],by simp [hl2,g0],by simp [hl2,g1],by simp [hl2,g2],by simp [hl2],by rw [htk];exact hs3,hp,by omega,by omega,by rw [hZ,hX]⟩,by omega⟩
 ·have hge':¬ (i:Int)<(n:Int):=by omega
  simp [hl2,g0,g1,g2,g6,hge']
  rw [List.take_of_length_le (by omega)] at hsrt
  exact ⟨m,hp,hsrt,rfl⟩
theorem Wbe (σ:Za) (r:Nat) (l:List Int) (rest:List AV) (hr:σ[r]? = some (.cells (Ya l++rest))) (hl:l.length≤6) :
  ACalls Tryz.prog 63 [.arr 1 r 0 l.length] σ fun _ s=>∃ m,m.Perm l∧m.Pairwise (·≤·)∧s=σ.set r (.cells (Ya m++rest)):=by
 refine Yb Tryz.func63 rfl (Va Tryz.func63 (by decide) rfl) ?_
 have hw:IntKind.u64.wrap (l.length:Int)=l.length:=by
  have:l.length=0∨l.length=1∨l.length=2∨l.length=3∨l.length=4∨l.length=5∨l.length=6:=by omega
  rcases this with e | e | e | e | e | e | e<;>rw [e]<;>decide
 simp [Tryz.ntmps63,hw]
 refine StA.of ((Xge l.length hl σ).mono ?_)
 rintro v s ⟨⟨k,rfl⟩,hs⟩
 obtain rfl:=hs.symm
 simp
 have h2:ACalls Tryz.prog 144 [.arr 1 r 0 l.length,.int .i64 0,.int .i64 l.length,.int .i64 k] σ fun _ s=>∃ m,m.Perm l∧m.Pairwise (·≤·)∧s=σ.set r (.cells (Ya m++rest)):=by
  refine Yb Tryz.func144 rfl (Va Tryz.func144 (by decide) rfl) ?_
  have hwl:=w64 (n:=(l.length:Int)) (by omega) (by omega)
  have hle:(l.length:Int)≤12:=by omega
  simp [Tryz.ntmps144]
  refine Vd (fun env s=>∃ u,env={ t:=u }∧u.length=134∧tg u 0=.arr 1 r 0 l.length∧tg u 1=.int .i64 0∧tg u 2=.int .i64 l.length∧s=σ) (fun _ _=>0) ⟨_,rfl,by simp,by simp,by simp,by simp,rfl⟩ ?_
  rintro env s' ⟨u,rfl,hl2,g0,g1,g2,hs'⟩
  obtain rfl:=hs'.symm
  simp [hl2,g0,g1,g2,hwl,hle]
  refine StA.of ((Zda σ r l rest hr hl).mono ?_)
  rintro v s ⟨m,h1,h2,rfl⟩
  try simp
  exact ⟨m,h1,h2,rfl⟩
 refine StA.of (h2.mono ?_)
 rintro v s ⟨m,h1,h2,rfl⟩
 try simp
 exact ⟨m,h1,h2,rfl⟩
end Ab
namespace Ab
open Go Go.RowKit Go.Proofs
def Yt (men n:Nat):List Int:=List.replicate n (-1)++List.replicate (men - n) 0
def RpA (σ:Za) (men:Nat) (env:Env) (σ':Za):Prop:=∃ (u:List AV) (n:Nat),env={ t:=u }∧u.length=48∧tg u 7=.arr 1 σ.length 0 men∧tg u 8=.int .i64 n∧1≤n∧n≤men∧σ'=σ++[.cells (Ya (Yt men n))]
attribute [local irreducible] aws awp aw1 Og Om Oc Oa Ogd Ov Ot awd Zb awh Xb Ogh Ohd awl Ogl Ohl awv Ogv Ohv Wb Vb QFn Ub Wp QRo QBe Ul Vn ACode AYield
set_option maxHeartbeats 2000000 in
theorem Udt (σ:Za) (r men:Nat) (hr:σ[r]? = some (.cells [.int .i64 (-1)])) (h1:1≤men) (h4:men≤4) :
  ACalls Tryz.prog 60 [.arr 1 r 0 1,.int .i64 men] σ fun v s=>v=.arr 1 σ.length 0 men∧s=σ++[.cells (Ya (List.replicate men (-1)))]:=by
 have hrl:=(Qzs.1 hr).1
 refine Yb Tryz.func60 rfl (Va Tryz.func60 (by decide) rfl) ?_
 have hm:men=1∨men=2∨men=3∨men=4:=by omega
 have hw:IntKind.u64.wrap (men:Int)=men:=by rcases hm with rfl | rfl | rfl | rfl<;>decide
 have hw1:IntKind.u64.wrap (1:Int)=1:=by decide
 have hneg:¬ (men:Int)<0:=by omega
 have hr2:∀ X:Za,(σ++X)[r]? = some (.cells [.int .i64 (-1)]):=fun X=>by rw [Qzl hrl];exact hr
 simp [Tryz.ntmps60,hw,hw1,hneg]
 refine StA.of ((Zhh men (by omega) σ).mono ?_)
 rintro v s ⟨rfl,hs⟩
 obtain rfl:=hs.symm
 have hbig:¬ (9223372036854775807:Int)<(men:Int):=by omega
 have hwi:=w64 (n:=(men:Int)) (by omega) (by omega)
 have hmax:(men:Int)*8≤281474976710656∧(men:Int)≤9223372036854775807:=by omega
 simp [hbig,hwi,hmax,hr2,h1]
 refine Vd (RpA σ men) (fun env _=>match tg env.t 8 with | .int _ i=>men - i.toNat | _=>0) ⟨_,1,rfl,by simp,by simp,by simp,by omega,h1,by simp [Yt,Ya]⟩ ?_
 rintro env _ ⟨u,n,rfl,hl,g7,g8,n1,n4,rfl⟩
 rcases Qzn n men with hlt | hge
 ·have hn:n=1∨n=2∨n=3:=by omega
  have w2:IntKind.i64.wrap 2=2:=by decide
  have w3:IntKind.i64.wrap 3=3:=by decide
  have w4:IntKind.i64.wrap 4=4:=by decide
  have w1:IntKind.i64.wrap 1=1:=by decide
  rcases hm with rfl | rfl | rfl | rfl
  ·omega
  ·obtain rfl:n=1:=by omega
   simp [hl,g7,g8,Yt,Ya]
   refine Us [7] [(0,1)] mixed (by kernel_rfl) (by kernel_rfl) ?_
   simp [hl,g7,g8,Yt,Ya,w1,w2,w3,w4]
   exact ⟨_,2,rfl,by simp [hl],by simp [hl,g7],by simp [hl],by omega,by omega,rfl⟩
  ·rcases hn with rfl | rfl | rfl
   ·simp [hl,g7,g8,Yt,Ya]
    refine Us [7] [(0,1)] mixed (by kernel_rfl) (by kernel_rfl) ?_
    simp [hl,g7,g8,Yt,Ya,w1,w2,w3,w4]
    exact ⟨_,2,rfl,by simp [hl],by simp [hl,g7],by simp [hl],by omega,by omega,rfl⟩
   ·simp [hl,g7,g8,Yt,Ya]
    refine Us [7] [(0,1)] mixed (by kernel_rfl) (by kernel_rfl) ?_
    simp [hl,g7,g8,Yt,Ya,w1,w2,w3,w4]
    exact ⟨_,3,rfl,by simp [hl],by simp [hl,g7],by simp [hl],by omega,by omega,rfl⟩
   ·omega
  ·rcases hn with rfl | rfl | rfl
   ·simp [hl,g7,g8,Yt,Ya]
    refine Us [7] [(0,1)] mixed (by kernel_rfl) (by kernel_rfl) ?_
    simp [hl,g7,g8,Yt,Ya,w1,w2,w3,w4]
    exact ⟨_,2,rfl,by simp [hl],by simp [hl,g7],by simp [hl],by omega,by omega,rfl⟩
   ·simp [hl,g7,g8,Yt,Ya]
    refine Us [7] [(0,1)] mixed (by kernel_rfl) (by kernel_rfl) ?_
    simp [hl,g7,g8,Yt,Ya,w1,w2,w3,w4]
    exact ⟨_,4,rfl,by simp [hl],by simp [hl,g7],by simp [hl],by omega,by omega,rfl⟩
   ·simp [hl,g7,g8,Yt,Ya]
    refine Us [7] [(0,1)] mixed (by kernel_rfl) (by kernel_rfl) ?_
    simp [hl,g7,g8,Yt,Ya,w1,w2,w3,w4]
    exact ⟨_,4,rfl,by simp [hl],by simp [hl,g7],by simp [hl],by omega,by omega,rfl⟩
 ·obtain rfl:n=men:=by omega
  simp [hl,g7,g8]
  simp [Yt]
theorem Zfr (l:List (List Int)) (hl:l.length≤2^40) (hw:∀ r∈l,r.length≤2^40):APure Tryz.prog 143 [Yf l,Yf l,.fn (.func 83) [] []] (.bool true):=by
 intro σ
 refine Yb Tryz.func143 rfl (Va Tryz.func143 (by decide) rfl) ?_
 simp [Tryz.ntmps143,Yf]
 refine Vd (fun env σ'=>∃ (u:List AV) (i:Nat),env={ t:=u }∧u.length=32∧tg u 1=.pl 1 (l.map fun r=>AV.pl 1 (Ya r))∧tg u 2=.fn (.func 83) [] []∧tg u 15=.pl 1 (l.map fun r=>AV.pl 1 (Ya r))∧tg u 16=.int .i64 l.length∧tg u 17=.int .i64 i∧σ'=σ∧i≤l.length)
  (fun env _=>match tg env.t 17 with | .int _ i=>l.length - i.toNat | _=>0) ⟨_,0,rfl,by simp,by simp,by simp,by simp,by simp,by simp,rfl,by omega⟩ ?_
 rintro env σ' ⟨u,i,rfl,hl0,g1,g2,g15,g16,g17,rfl,hi⟩
 rcases Qzn i l.length with hlt | hge
 ·have hlt':(i:Int)<(l.length:Int):=by omega
  have hw1:=w64 (n:=(i:Int)+1) (by omega) (by omega)
  simp [hl0,g1,g2,g15,g16,g17,hlt',hlt]
  refine (Yex l[i] (hw _ (List.getElem_mem hlt))).use ?_
  simp [hl0,g1,g2,g15,g16,g17,hlt',hlt,hw1]
  exact ⟨⟨i+1,by simp,hlt⟩,by omega⟩
 ·have hge':¬ (i:Int)<(l.length:Int):=by omega
  simp [hl0,g1,g2,g15,g16,g17,hge']
theorem Wcx (l:List (List Int)) (hl:l.length≤2^40) (hw:∀ r∈l,r.length≤2^40):APure Tryz.prog 61 [Yf l,Yf l] (.bool true):=by
 intro σ
 refine Yb Tryz.func61 rfl (Va Tryz.func61 (by decide) rfl) ?_
 simp [Tryz.ntmps61]
 refine (Zfr l hl hw).use ?_
 simp
end Ab

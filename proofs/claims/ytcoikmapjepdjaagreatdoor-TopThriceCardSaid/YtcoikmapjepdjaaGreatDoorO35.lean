/-
  Texts packed for a claim.
-/
import Derived.Test.YtcoikmapjepdjaaGreatDoorO00
import Derived.Test.YtcoikmapjepdjaaGreatDoorO34
set_option linter.all false
namespace Ab
open Go Go.RowKit Go.Proofs
def Waa (t:Tab):List Int:=(List.range 40).map fun k=>t (k / 5) (k % 5)
theorem Yba (t:Tab):Yc t=Ya (Waa t):=by unfold Yc Ya Waa;rw [List.map_map];rfl
theorem Yie:∀ (n:Nat) (a b:List Int),a.length=n→b.length=n→Wg (List.replicate n 1) (Ya a) (Ya b)=some (decide (a=b)):=by
 intro n
 induction n with
 | zero =>
  intro a b ha hb
  obtain rfl:=List.eq_nil_of_length_eq_zero ha
  obtain rfl:=List.eq_nil_of_length_eq_zero hb
  rfl
 | succ n ih =>
  intro a b ha hb
  cases a with
  | nil=>simp at ha
  | cons x a =>
   cases b with
   | nil=>simp at hb
   | cons y b =>
    have h2:=ih a b (by simpa using ha) (by simpa using hb)
    have e1:Ya (x::a)=.int .i64 x::Ya a:=rfl
    have e2:Ya (y::b)=.int .i64 y::Ya b:=rfl
    rw [e1,e2,List.replicate_succ]
    unfold Wg
    rw [h2]
    by_cases hxy:x=y
    ·subst hxy
     simp [Xt]
    ·simp [Xt,hxy]
theorem Ue7 (t t':Tab):Wg [1,1,1,1,1,1,1,1,1,1,1,1,1,1,1,1,1,1,1,1,1,1,1,1,1,1,1,1,1,1,1,1,1,1,1,1,1,1,1,1] (Yc t) (Yc t')=some (decide (Waa t=Waa t')):=by
 rw [Yba,Yba]
 exact Yie 40 _ _ (by simp [Waa]) (by simp [Waa])
theorem Vgv {t t':Tab} (h:Waa t=Waa t') {s m:Nat} (hs:s<8) (hm:m<5):t s m=t' s m:=by
 have h1:=Yas t hs hm
 have h2:=Yas t' hs hm
 rw [Yba,h,← Yba,h2] at h1
 simpa using h1.symm
theorem Xg8 {r:Rl} {S:List (List Int)} (hr:r.Ok) (hs:ShOk r S) (h:shP S=[]):S=[]:=by
 cases S with
 | nil=>rfl
 | cons l S =>
  obtain ⟨n,_,ok,h1,_,_⟩:=hs.mem hr (show (l::S)[0]? = some l from rfl)
  have:=ok.t1
  cases l with
  | nil=>simp at h1;omega
  | cons x l =>
   have:(x.toNat,(0:Int))∈shP ((x::l)::S):=mem_shP.2 ⟨0,x::l,rfl,rfl,x,by simp,rfl⟩
   rw [h] at this
   simp at this
theorem Zgg {r:Rl} (hs:ShOk r []):slotsOf r []=0:=by
 have h1:r.ntcs=[]:=List.eq_nil_of_length_eq_zero hs.len.symm
 have h2:grt (Xu r.men.toNat [])=0:=by
  have a:=Zcv (Xu r.men.toNat [])
  have b:grt (Xu r.men.toNat [])≤0:=Xbu (by omega) fun x hx=>by
   obtain ⟨m,_,rfl⟩:=List.mem_map.1 hx
   simp [Xam,shP]
  omega
 unfold slotsOf
 rw [h2,h1]
 simp [grt]
theorem Xcz (n:Nat) (S:Za) (l:List Int):Fz n S (.pl 1 (Ya l)) (.pl 1 (Ya l)):=by
 refine .pl 1 _ fun i x hx j y hy=>?_
 obtain ⟨z,_,rfl⟩:=List.mem_map.1 (Qzg hx)
 have:=Qzg hy
 simp [AV.cells] at this
 subst this
 exact .int _ _
theorem Ubq (n:Nat) (S:Za) (R:List (List Int)):Fz n S (Ze R) (Ze R):=by
 refine .pl 1 _ fun i x hx j y hy=>?_
 obtain ⟨z,_,rfl⟩:=List.mem_map.1 (Qzg hx)
 have:=Qzg hy
 simp [AV.cells] at this
 subst this
 exact Xcz _ _ _
theorem Xbd {n:Nat} {σ:Za} {a b a' b':AV} (h1:Fz n σ a a') (h2:Fz n σ b b'):Fz n σ (.tup [a,b]) (.tup [a',b']):=by simp [h1,h2]
def PlA (r:Rl) (S:List (List Int)) (slots:Nat) (σ:Za) (env:Env) (σ':Za):Prop:=∃ (u:List AV) (i:Nat) (t:Tab),env={ t:=u }∧u.length=42∧tg u 2=.ptr σ.length 0∧tg u 5=.int .i64 slots∧tg u 6=.ptr (σ.length+1) 0∧tg u 15=.pl 1 (S.map fun x=>.pl 1 (Ya x))∧tg u 16=.int .i64 S.length∧tg u 17=.int .i64 i∧i≤S.length∧SlInv slots (shP (S.take i)) t∧σ'=σ++[.cells [.int .i64 r.men,.pl 2 (r.ntcs.map Zc)],.cells (Yc t)]
def PlB (r:Rl) (S:List (List Int)) (slots:Nat) (σ:Za) (i:Nat) (l:List Int) (env:Env) (σ':Za):Prop:=∃ (u:List AV) (j:Nat) (t:Tab),env={ t:=u }∧u.length=42∧tg u 2=.ptr σ.length 0∧tg u 5=.int .i64 slots∧tg u 6=.ptr (σ.length+1) 0∧tg u 7=.int .i64 i∧tg u 15=.pl 1 (S.map fun x=>.pl 1 (Ya x))∧tg u 16=.int .i64 S.length∧tg u 17=.int .i64 i∧tg u 22=.pl 1 (Ya l)∧tg u 23=.int .i64 l.length∧tg u 24=.int .i64 j∧j≤l.length∧SlInv slots (shP (S.take i)++Yh i (l.take j)) t∧σ'=σ++[.cells [.int .i64 r.men,.pl 2 (r.ntcs.map Zc)],.cells (Yc t)]
attribute [local irreducible] aws awp aw1 Og Om Oc Oa Ogd Ov Ot awd Zb awh Wb Ogh Ohd awl Ogl Ohl awv Ogv Ohv Xb Vb QFn Ub Xi QRo QBe Ui Uj ACode AYield
set_option maxHeartbeats 2000000 in
theorem Zdm (r:Rl) (S:List (List Int)) (h:r.Ok) (hs:ShOk r S) (σ:Za):ACalls Tryz.prog 104 [Uh r,Ze S] σ fun v s=>∃ t,SlInv (slotsOf r S).toNat (shP S) t∧v=Ze (Uf t r.men.toNat (slotsOf r S).toNat)∧s=σ:=by
 refine ACalls.forgetT ?_
 refine Yb Tryz.func104 rfl (Ua Tryz.func104 (by decide) rfl) ?_
 have hr0:Uh r=.agg [.int .i64 r.men,.pl 2 (r.ntcs.map Zc)]:=rfl
 have hS0:Ze S=.pl 1 (S.map fun x=>.pl 1 (Ya x)):=rfl
 have c1:=Vgo r S h hs
 have hsl:=Vbl h hs
 obtain ⟨slots,hsn⟩:∃ k:Nat,slotsOf r S=k:=⟨(slotsOf r S).toNat,by omega⟩
 have hst:(slotsOf r S).toNat=slots:=by omega
 rw [hst]
 rw [hsn] at c1 hsl
 rw [hr0,hS0] at c1 ⊢
 have hl:=Vp fun _ _=>-1
 have ht:=Zbe fun _ _=>-1
 have ho:=Vbn fun _ _=>-1
 obtain ⟨B,hB⟩:∃ B,Yc (fun _ _=>-1)=B:=⟨_,rfl⟩
 have c2:=Uh6
 rw [hB] at hl ht ho c2
 simp [Tryz.ntmps104]
 refine c1.use ?_
 try simp
 refine c2.use ?_
 simp [hl,ht]
 rw [if_pos (by exact ho),Xk]
 try simp [hl,ht]
 refine Xc (PlA r S slots σ) (fun env _=>match tg env.t 17 with | .int _ i=>S.length - i.toNat | _=>0) ⟨_,0,fun _ _=>-1,rfl,by simp,by simp,by simp,by simp,by simp,by simp,by simp,by omega,by simpa [shP] using SlInv.blank slots,by rw [hB]⟩ ?_
 rintro env _ ⟨u,i,t,rfl,hl2,g2,g5,g6,g15,g16,g17,hi,hT,rfl⟩
 rcases Qzn i S.length with hlt | hge
 ·have hlt':(i:Int)<(S.length:Int):=by have:=hs.len;have:=h.few;omega
  have hx:=w64 (n:=(i:Int)+1) (by omega) (by have:=hs.len;have:=h.few;omega)
  obtain ⟨l,hli⟩:∃ l,S[i]=l:=⟨_,rfl⟩
  have hl':S[i]? = some l:=by rw [Qze hlt,hli]
  obtain ⟨n,hn,ok,h1,h2,h3⟩:=hs.mem h hl'
  have hll:l.length≤5:=Va2 h2 fun x hx=>by have:=h3 x hx;have:=h.m5;omega
  simp [hl2,g2,g5,g6,g15,g16,g17,hlt,hlt',hli]
  refine Xc (PlB r S slots σ i l) (fun env _=>match tg env.t 24 with | .int _ j=>l.length - j.toNat | _=>0) ⟨_,0,t,rfl,by simp [hl2],by simp [hl2,g2],by simp [hl2,g5],by simp [hl2,g6],by simp [hl2],by simp [hl2,g15],by simp [hl2,g16],by simp [hl2,g17],by simp [hl2],by simp [hl2,Ya],by simp [hl2],by omega,by simpa [Yh] using hT,rfl⟩ ?_
  clear hl2 g2 g5 g6 g15 g16 g17 u hT t
  rintro env _ ⟨u,j,t,rfl,hl2,g2,g5,g6,g7,g15,g16,g17,g22,g23,g24,hj,hT,rfl⟩
  rcases Qzn j l.length with hlt2 | hge2
  ·have hlt2':(j:Int)<(l.length:Int):=by omega
   have hx2:=w64 (n:=(j:Int)+1) (by omega) (by omega)
   obtain ⟨m,hmj⟩:∃ m,l[j]=m:=⟨_,rfl⟩
   have hm':l[j]? = some m:=by rw [Qze hlt2,hmj]
   have hP:Pre S i j l m (shP (S.take i)++Yh i (l.take j)):=⟨hl',hm',rfl⟩
   have hmm:=(h3 m (Qzg hm')).2
   have q1:=hP.new h hs
   have q2:=hP.rowFew h hs
   have q3:=hP.manFew h hs
   obtain ⟨m,rfl⟩:∃ k:Nat,m=k:=⟨m.toNat,by omega⟩
   have hN1:shP (S.take i)++Yh i (l.take (j+1))=shP (S.take i)++Yh i (l.take j)++[(m,(i:Int))]:=by rw [Yck hm',← List.append_assoc];simp
   have hil:j<(Ya l).length:=by simpa [Ya] using hlt2
   have hx':(Ya l)[j]=.int .i64 m:=by simp [Ya,hmj]
   simp at q1 q2 q3
   simp [hl2,g2,g5,g6,g7,g15,g16,g17,g22,g23,g24,hlt2,hlt2',hil,hx']
   refine StA.of ((Zgk hT (σ++[.cells [.int .i64 r.men,.pl 2 (r.ntcs.map Zc)],.cells (Yc t)]) (σ.length+1) m i (by simp) (by omega) (by have:=h.m5;omega) (by omega) (by simpa using q1) (by simp;omega) (by simp;omega)).mono ?_)
   rintro v s ⟨t',hT',rfl⟩
   rw [← hN1] at hT'
   simp [hl2,g2,g5,g6,g7,g15,g16,g17,g22,g23,g24,hx2]
   exact ⟨⟨_,j+1,t',rfl,by simp [hl2],by simp [hl2,g2],by simp [hl2,g5],by simp [hl2,g6],by simp [hl2,g7],by simp [hl2,g15],by simp [hl2,g16],by simp [hl2,g17],by simp [hl2,g22],by simp [hl2,g23],by simp [hl2],hlt2,hT',rfl⟩,by omega⟩
  ·obtain rfl:j=l.length:=by omega
   simp [hl2,g2,g5,g6,g7,g15,g16,g17,g22,g23,g24,hx]
   exact ⟨⟨_,i+1,t,rfl,by simp [hl2],by simp [hl2,g2],by simp [hl2,g5],by simp [hl2,g6],by simp [hl2,g15],by simp [hl2,g16],by simp [hl2],hlt,by rw [Xcr hl'];simpa using hT,rfl⟩,by omega⟩
 ·obtain rfl:i=S.length:=by omega
  rw [List.take_of_length_le (Nat.le_refl _)] at hT
  have hlt:=Vp t
  have htt:=Zbe t
  simp [hl2,g2,g5,g6,g15,g16,g17]
  refine Ym mixed (by kernel_rfl) ?_
  simp [hl2,g2,g5,g6,hlt,htt]
  refine Zaj c2 ?_
  rw [← hB]
  simp [hl2,g2,g5,g6,hlt,htt,Ue7]
  by_cases heq:Waa t=Waa fun _ _=>-1
  ·have hN:shP S=[]:=by
    cases hc:shP S with
    | nil=>rfl
    | cons p N =>
     obtain ⟨m,n⟩:=p
     rw [hc] at hT
     obtain ⟨s,e⟩:=hT.all m n (by simp)
     have h0:=hT.no m n (by simp)
     have h5:=hT.man m n (by simp)
     have h8:=hT.lt (s:=s) (m:=m) (by omega)
     have:=Vgv heq (s:=s) (m:=m) (by omega) h5
     omega
   obtain rfl:=Xg8 h hs hN
   have h0:slots=0:=by have:=Zgg hs;omega
   subst h0
   simp [heq]
   exact ⟨σ,_,rfl,rfl,fun r o h=>.inl h,_,.nils_pl 1,t,hT,rfl,rfl⟩
  ·have h1:1≤slots:=by
    rcases Nat.eq_zero_or_pos slots with e | e
    ·exfalso
     refine heq ?_
     unfold Waa
     apply List.map_congr_left
     intro k _
     exact hT.hi _ _ (by omega)
    ·exact e
   have c3:=Whv t r.men.toNat slots (by have:=h.m1;omega) (by have:=h.m5;omega) h1 (by omega)
   rw [show ((r.men.toNat:Nat):Int)=r.men by have:=h.m1;omega] at c3
   simp [heq,hl2,g2,g5,g6,hlt,htt]
   refine c3.use ?_
   try simp [hl2]
   exact ⟨σ,_,rfl,rfl,fun r o h=>.inl h,_,Ubq _ _ _,t,hT,rfl,rfl⟩
end Ab
namespace Ab
open Go Go.RowKit Go.Proofs
theorem Whi:Orc.Good Tryz.prog fun _ _ _=>none:=fun f args σ v σ' h=>by cases h
theorem Wal {f:Nat} {args:List AV} {v:AV} {σ:Za} (n:Nat) (h:evF Tryz.prog (evC Tryz.prog (fun _ _ _=>none) n) f args σ=some (v,σ)):ACalls Tryz.prog f args σ fun v' s=>v'=v∧s=σ :=
 Zaz (Ub1 mixed Whi n) f args σ v σ h
theorem Yf2 (n:Nat) (hn:n≤6) (σ:Za):ACalls Tryz.prog 145 [.int .u64 n] σ fun v s=>(∃ k:Int,v=.int .i64 k)∧s=σ:=by
 have:n=0∨n=1∨n=2∨n=3∨n=4∨n=5∨n=6:=by omega
 rcases this with rfl | rfl | rfl | rfl | rfl | rfl | rfl
 ·exact (Wal (v:=.int .i64 0) 60 (by kernel_rfl)).mono fun v s h=>⟨⟨_,h.1⟩,h.2⟩
 ·exact (Wal (v:=.int .i64 1) 60 (by kernel_rfl)).mono fun v s h=>⟨⟨_,h.1⟩,h.2⟩
 ·exact (Wal (v:=.int .i64 2) 60 (by kernel_rfl)).mono fun v s h=>⟨⟨_,h.1⟩,h.2⟩
 ·exact (Wal (v:=.int .i64 2) 60 (by kernel_rfl)).mono fun v s h=>⟨⟨_,h.1⟩,h.2⟩
 ·exact (Wal (v:=.int .i64 3) 60 (by kernel_rfl)).mono fun v s h=>⟨⟨_,h.1⟩,h.2⟩
 ·exact (Wal (v:=.int .i64 3) 60 (by kernel_rfl)).mono fun v s h=>⟨⟨_,h.1⟩,h.2⟩
 ·exact (Wal (v:=.int .i64 3) 60 (by kernel_rfl)).mono fun v s h=>⟨⟨_,h.1⟩,h.2⟩
theorem Yf3 {P Q:List AV} {a b:AV} {k:Nat} (hk:P.length=k):List.take k (List.take (k+1) (P++a::b::Q)++a::List.drop (k+1+1) (P++a::b::Q))++b::a::List.drop (k+1+1) (P++a::b::Q)=P++b::a::Q:=by
 subst hk
 have e1:List.take (P.length+1) (P++a::b::Q)=P++[a]:=by rw [List.take_append,List.take_of_length_le (by omega),Nat.add_sub_cancel_left];rfl
 have e2:List.drop (P.length+1+1) (P++a::b::Q)=Q:=by rw [List.drop_append,List.drop_eq_nil_of_le (by omega),show P.length+1+1 - P.length=2 by omega];rfl
 rw [e1,e2]
 simp
attribute [local irreducible] aws awp aw1 Og Om Oc Oa Ogd Ov Ot awd Zb awh Wb Ogh Ohd awl Ogl Ohl awv Ogv Ohv Xb Vb QFn Ub Xi QRo QBe Ui Uj ACode AYield
theorem Xfu (a b:Int):APure Tryz.prog 219 [.int .i64 a,.int .i64 b] (.bool (decide (a<b))):=by
 intro σ
 refine Yb Tryz.func219 rfl (Ua Tryz.func219 (by decide) rfl) ?_
 have c1:APure Tryz.prog 229 [.int .i64 a] (.bool false):=by
  intro σ
  refine Yb Tryz.func229 rfl (Ua Tryz.func229 (by decide) rfl) ?_
  simp [Tryz.ntmps229]
 simp [Tryz.ntmps219]
 refine c1.use ?_
 simp
def IsB (σ:Za) (r n i:Nat) (l:List Int) (rest:List AV) (env:Env) (σ':Za):Prop:=∃ (u:List AV) (A B C:List Int) (x:Int),env={ t:=u }∧u.length=49∧tg u 0=.arr 1 r 0 n∧tg u 1=.int .i64 0∧tg u 2=.int .i64 n∧tg u 6=.int .i64 i∧tg u 7=.int .i64 A.length∧A.length+B.length=i∧(A++B).Pairwise (·≤·)∧(∀ y∈B,x<y)∧(A++x::(B++C)).Perm l∧σ'=σ.set r (.cells (Ya (A++x::(B++C))++rest))
def IsA (σ:Za) (r n:Nat) (l:List Int) (rest:List AV) (env:Env) (σ':Za):Prop:=∃ (u:List AV) (i:Nat) (m:List Int),env={ t:=u }∧u.length=49∧tg u 0=.arr 1 r 0 n∧tg u 1=.int .i64 0∧tg u 2=.int .i64 n∧tg u 6=.int .i64 i∧(m.take i).Pairwise (·≤·)∧m.Perm l∧i≤n+1∧(i=n+1→n=0)∧σ'=σ.set r (.cells (Ya m++rest))
set_option maxHeartbeats 1000000 in
theorem Xif (σ:Za) (r:Nat) (l:List Int) (rest:List AV) (hr:σ[r]? = some (.cells (Ya l++rest))) (hl:l.length≤6) :
  ACalls Tryz.prog 213 [.arr 1 r 0 l.length,.int .i64 0,.int .i64 l.length] σ fun _ s=>∃ m,m.Perm l∧m.Pairwise (·≤·)∧s=σ.set r (.cells (Ya m++rest)):=by
 have hrl:=(Qzs.1 hr).1
 have h0:σ.set r (.cells (Ya l++rest))=σ:=by
  apply List.ext_getElem?
  intro i
  rw [List.getElem?_set]
  split
  ·rename_i e
   subst e
   first | exact hr.symm | (rw [if_pos hrl];exact hr.symm)
  ·rfl
 obtain ⟨n,hn⟩:∃ n,l.length=n:=⟨_,rfl⟩
 refine Yb Tryz.func213 rfl (Ua Tryz.func213 (by decide) rfl) ?_
 have w1:IntKind.i64.wrap 1=1:=by decide
 simp [Tryz.ntmps213,hn,w1]
 refine Xc (IsA σ r n l rest) (fun env _=>match tg env.t 6 with | .int _ i=>n+1 - i.toNat | _=>0) ⟨_,1,l,rfl,by simp,by simp,by simp,by simp,by simp,by
  cases l with
  | nil=>simp
  | cons x l=>simp,List.Perm.refl _,by omega,by omega,by rw [h0]⟩ ?_
 rintro env _ ⟨u,i,m,rfl,hl2,g0,g1,g2,g6,hsrt,hp,hi,hi0,rfl⟩
 have hml:m.length=n:=hp.length_eq.trans hn
 rcases Qzn i n with hlt | hge
 ·have hlt':(i:Int)<(n:Int):=by omega
  have hx:=w64 (n:=(i:Int)+1) (by omega) (by omega)
  simp [hl2,g0,g1,g2,g6,hlt']
  refine Xc (IsB σ r n i l rest) (fun env _=>match tg env.t 7 with | .int _ j=>j.toNat | _=>0) ⟨_,m.take i,[],m.drop (i+1),m[i],rfl,by simp [hl2],by simp [hl2,g0],by simp [hl2,g1],by simp [hl2,g2],by simp [hl2,g6],by simp [hl2];omega,by simp;omega,by simpa using hsrt,by simp,by simpa using hp,by simp⟩ ?_
  clear hl2 g0 g1 g2 g6 u hsrt hp
  rintro env _ ⟨u,A,B,C,x,rfl,hl2,g0,g1,g2,g6,g7,hAB,hsrt,hB,hp,rfl⟩
  have hpl:=hp.length_eq
  simp at hpl
  rcases Nat.eq_zero_or_pos A.length with ha | ha
  ·obtain rfl:=List.eq_nil_of_length_eq_zero ha
   simp [hl2,g0,g1,g2,g6,g7]
   refine Ym mixed (by kernel_rfl) ?_
   simp [hl2,g0,g1,g2,g6,g7,hx]
   have hBl:B.length=i:=by simpa using hAB
   have htk:List.take (i+1) (x::(B++C))=x::B:=by rw [List.take_succ_cons,List.take_append_of_le_length (by omega),List.take_of_length_le (by omega)]
   exact ⟨⟨_,i+1,x::(B++C),rfl,by simp [hl2],by simp [hl2,g0],by simp [hl2,g1],by simp [hl2,g2],by simp [hl2],by rw [htk];exact List.pairwise_cons.2 ⟨fun y hy=>by have:=hB y hy;omega,by simpa using hsrt⟩,by simpa using hp,by omega,by omega,rfl⟩,by omega⟩
  ·obtain ⟨A,y,rfl⟩:∃ A' y,A=A'++[y]:=⟨A.dropLast,A.getLast (by intro e;simp [e] at ha),(List.dropLast_concat_getLast _).symm⟩
   obtain ⟨k,hk⟩:∃ k,A.length=k:=⟨_,rfl⟩
   simp [hk] at g7 hAB hpl
   have hZ:Ya (A++[y]++x::(B++C))++rest=Ya A++.int .i64 y::.int .i64 x::(Ya (B++C)++rest):=by simp [Ya]
   have hZ2:Ya (A++x::(y::(B++C)))++rest=Ya A++.int .i64 x::.int .i64 y::(Ya (B++C)++rest):=by simp [Ya]
   have hkA:(Ya A).length=k:=by simp [Ya,hk]
   have hsw:=Yf3 (P:=Ya A) (Q:=Ya (B++C)++rest) (a:=.int .i64 y) (b:=.int .i64 x) hkA
   rw [hZ]
   obtain ⟨X,hX⟩:∃ X,Ya A++AV.int .i64 y::.int .i64 x::(Ya (B++C)++rest)=X:=⟨_,rfl⟩
   have hy1:X[k]? = some (.int .i64 y):=by rw [← hX,Qzr (by omega),hkA];simp
   have hx1:X[k+1]? = some (.int .i64 x):=by rw [← hX,Qzr (by omega),hkA];simp
   have hl1:=(Qzs.1 hx1).1
   have hr1:(σ.set r (.cells X))[r]? = some (.cells X):=by simp [hrl]
   have c1:(0:Int)≤(k:Int)+1∧(k:Int)+1<(n:Int):=by omega
   have c2:(k:Int)<(n:Int):=by omega
   have c2':k<n:=by omega
   have c3:k+1+1≤X.length:=hl1
   have c4:k+1≤X.length:=by omega
   have c5:(0:Int)<(k:Int)+1:=by omega
   have wk:=w64 (n:=(k:Int)) (by omega) (by omega)
   rw [hX] at hsw ⊢
   simp [hl2,g0,g1,g2,g6,g7]
   refine Ym mixed (by kernel_rfl) ?_
   simp [hl2,g0,g1,g2,g6,g7,hr1,c1,c2,c2',c3,c4,c5,hy1,hx1,wk]
   refine Zac (Xfu x y) ?_
   by_cases hxy:x<y
   ·simp [hl2,g0,g1,g2,g6,g7,hxy]
    refine Wah [15,17] [(2,1),(3,1),(4,1)] mixed (by kernel_rfl) (by kernel_rfl) ?_
    have hr2:∀ Y,(σ.set r (.cells Y))[r]? = some (.cells Y):=fun Y=>by simp [hrl]
    have c6:k+1≤(List.take (k+1) X++AV.int .i64 y::List.drop (k+1+1) X).length:=by simp;omega
    simp [hl2,g0,g1,g2,g6,g7,hr1,hr2,c1,c2,c2',c3,c4,c5,hy1,hx1,wk]
    rw [hsw]
    have hs2:(A++y::B).Pairwise (·≤·):=by simpa using hsrt
    have hp2:(A++x::(y::B++C)).Perm l:=by
     refine List.Perm.trans ?_ hp
     simp only [List.append_assoc,List.cons_append,List.nil_append]
     exact List.Perm.append_left A (List.Perm.swap _ _ _)
    exact ⟨_,A,y::B,C,x,rfl,by simp [hl2],by simp [hl2,g0],by simp [hl2,g1],by simp [hl2,g2],by simp [hl2,g6],by simp [hl2,hk],by simp;omega,hs2,fun z hz=>by
     rcases List.mem_cons.1 hz with rfl | hz
     ·exact hxy
     ·exact hB z hz,hp2,by rw [← hZ2];rfl⟩
   ·simp [hl2,g0,g1,g2,g6,g7,hxy,hx]
    have hm2:A++[y]++x::(B++C)=(A++[y]++x::B)++C:=by simp
    have htk:List.take (i+1) (A++[y]++x::(B++C))=A++[y]++x::B:=by rw [hm2,List.take_append_of_le_length (by simp;omega),List.take_of_length_le (by simp;omega)]
    have hs3:(A++[y]++x::B).Pairwise (·≤·):=by
     rw [List.pairwise_append] at hsrt ⊢
     obtain ⟨q1,q2,q3⟩:=hsrt
     refine ⟨q1,List.pairwise_cons.2 ⟨fun z hz=>by have:=hB z hz;omega,q2⟩,fun a ha b hb=>?_⟩
     rcases List.mem_cons.1 hb with rfl | hb
     ·rw [List.pairwise_append] at q1
      rcases List.mem_append.1 ha with ha | ha
      ·have:=q1.2.2 a ha y (by simp);omega
      ·rw [List.mem_singleton.1 ha];omega
     ·exact q3 a ha b hb
    exact ⟨⟨_,i+1,A++[y]++x::(B++C),rfl,by simp [hl2],by simp [hl2,g0],by simp [hl2,g1],by simp [hl2,g2],by simp [hl2],by rw [htk];exact hs3,hp,by omega,by omega,by rw [hZ,hX]⟩,by omega⟩
 ·have hge':¬ (i:Int)<(n:Int):=by omega
  simp [hl2,g0,g1,g2,g6,hge']
  rw [List.take_of_length_le (by omega)] at hsrt
  exact ⟨m,hp,hsrt,rfl⟩
theorem Xbv (σ:Za) (r:Nat) (l:List Int) (rest:List AV) (hr:σ[r]? = some (.cells (Ya l++rest))) (hl:l.length≤6) :
  ACalls Tryz.prog 63 [.arr 1 r 0 l.length] σ fun _ s=>∃ m,m.Perm l∧m.Pairwise (·≤·)∧s=σ.set r (.cells (Ya m++rest)):=by
 refine Yb Tryz.func63 rfl (Ua Tryz.func63 (by decide) rfl) ?_
 have hw:IntKind.u64.wrap (l.length:Int)=l.length:=by
  have:l.length=0∨l.length=1∨l.length=2∨l.length=3∨l.length=4∨l.length=5∨l.length=6:=by omega
  rcases this with e | e | e | e | e | e | e<;>rw [e]<;>decide
 simp [Tryz.ntmps63,hw]
 refine StA.of ((Yf2 l.length hl σ).mono ?_)
 rintro v s ⟨⟨k,rfl⟩,hs⟩
 obtain rfl:=hs.symm
 simp
 have h2:ACalls Tryz.prog 144 [.arr 1 r 0 l.length,.int .i64 0,.int .i64 l.length,.int .i64 k] σ fun _ s=>∃ m,m.Perm l∧m.Pairwise (·≤·)∧s=σ.set r (.cells (Ya m++rest)):=by
  refine Yb Tryz.func144 rfl (Ua Tryz.func144 (by decide) rfl) ?_
  have hwl:=w64 (n:=(l.length:Int)) (by omega) (by omega)
  have hle:(l.length:Int)≤12:=by omega
  simp [Tryz.ntmps144]
  refine Xc (fun env s=>∃ u,env={ t:=u }∧u.length=134∧tg u 0=.arr 1 r 0 l.length∧tg u 1=.int .i64 0∧tg u 2=.int .i64 l.length∧s=σ) (fun _ _=>0) ⟨_,rfl,by simp,by simp,by simp,by simp,rfl⟩ ?_
  rintro env s' ⟨u,rfl,hl2,g0,g1,g2,hs'⟩
  obtain rfl:=hs'.symm
  simp [hl2,g0,g1,g2,hwl,hle]
  refine StA.of ((Xif σ r l rest hr hl).mono ?_)
  rintro v s ⟨m,h1,h2,rfl⟩
  try simp
  exact ⟨m,h1,h2,rfl⟩
 refine StA.of (h2.mono ?_)
 rintro v s ⟨m,h1,h2,rfl⟩
 try simp
 exact ⟨m,h1,h2,rfl⟩
end Ab
namespace Ab
open Go Go.RowKit Go.Proofs
def Whk (men n:Nat):List Int:=List.replicate n (-1)++List.replicate (men - n) 0
def RpA (σ:Za) (men:Nat) (env:Env) (σ':Za):Prop:=∃ (u:List AV) (n:Nat),env={ t:=u }∧u.length=48∧tg u 7=.arr 1 σ.length 0 men∧tg u 8=.int .i64 n∧1≤n∧n≤men∧σ'=σ++[.cells (Ya (Whk men n))]
attribute [local irreducible] aws awp aw1 Og Om Oc Oa Ogd Ov Ot awd Zb awh Wb Ogh Ohd awl Ogl Ohl awv Ogv Ohv Xb Vb QFn Ub Xi QRo QBe Ui Uj ACode AYield
end Ab

/-
  Texts packed for a claim.
-/
import Derived.Test.YtcoikmapjepdjaaGreatDoorO00
import Derived.Test.YtcoikmapjepdjaaGreatDoorO33
set_option linter.all false
namespace Ab
open Go Go.RowKit Go.Proofs
def Xm (men:Nat) (N:List (Nat × Int)):List Int:=(List.range men).map fun m=>((N.filter fun p=>p.1 == m).length:Int)
theorem Yd0 (men:Nat) (S:List (List Int)):Xm men (shP S)=Xu men S:=rfl
theorem Va8 (men:Nat) (N:List (Nat × Int)):(Xm men N).length=men:=by simp [Xm]
theorem Zhs (men:Nat) (N:List (Nat × Int)) (m:Nat) (n:Int) (hm:m<men):(Xm men N).set m ((Xm men N)[m]'(by rw [Va8];exact hm)+1)=Xm men (N++[(m,n)]):=by
 apply List.ext_getElem?
 intro k
 rw [List.getElem?_set]
 unfold Xm
 by_cases hk:m=k
 ·subst hk
  simp [hm]
 ·rw [if_neg hk,Qzp,Qzp]
  rcases Qzn k men with h | h
  ·rw [List.getElem?_range h]
   simp [List.filter_append,hk]
  ·rw [List.getElem?_eq_none (by simpa using h)]
   rfl
theorem Xcr {S:List (List Int)} {i:Nat} {l:List Int} (h:S[i]? = some l):shP (S.take (i+1))=shP (S.take i)++Yh i l:=by
 obtain ⟨hi,e⟩:=Qzs.1 h
 rw [Qzt hi,e,Yca]
 simp
 rw [Nat.min_eq_left (by omega)]
theorem Yck {i j:Nat} {l:List Int} {m:Int} (h:l[j]? = some m):Yh i (l.take (j+1))=Yh i (l.take j)++[(m.toNat,(i:Int))]:=by
 obtain ⟨hj,e⟩:=Qzs.1 h
 rw [Qzt hj,e,Vfd]
theorem Uhc (l:List Int) (x:Int):grt (l++[x])=if grt l<x then x else grt l:=by unfold grt;rw [List.foldl_append];rfl
def LdA (r:Rl) (S:List (List Int)) (men:Nat) (σ:Za) (env:Env) (σ':Za):Prop:=∃ (u:List AV) (i:Nat),env={ t:=u }∧u.length=34∧tg u 5=.arr 1 (σ.length+1) 0 men∧tg u 13=.pl 1 (S.map fun x=>.pl 1 (Ya x))∧tg u 14=.int .i64 S.length∧tg u 15=.int .i64 i∧i≤S.length∧σ'=σ++[.cells [.int .i64 men,.pl 2 (r.ntcs.map Zc)],.cells (Ya (Xm men (shP (S.take i))))]
def LdB (r:Rl) (S:List (List Int)) (men:Nat) (σ:Za) (i:Nat) (l:List Int) (env:Env) (σ':Za):Prop:=∃ (u:List AV) (j:Nat),env={ t:=u }∧u.length=34∧tg u 5=.arr 1 (σ.length+1) 0 men∧tg u 13=.pl 1 (S.map fun x=>.pl 1 (Ya x))∧tg u 14=.int .i64 S.length∧tg u 15=.int .i64 i∧tg u 19=.pl 1 (Ya l)∧tg u 20=.int .i64 l.length∧tg u 21=.int .i64 j∧j≤l.length∧σ'=σ++[.cells [.int .i64 men,.pl 2 (r.ntcs.map Zc)],.cells (Ya (Xm men (shP (S.take i)++Yh i (l.take j))))]
attribute [local irreducible] aws awp aw1 Og Om Oc Oa Ogd Ov Ot awd Zb awh Wb Ogh Ohd awl Ogl Ohl awv Ogv Ohv Xb Vb QFn Ub Xi QRo QBe Ui Uj ACode AYield
theorem Vci (l:List Int) (hl:l.length≤2^40):APure Tryz.prog 161 [.pl 1 (Ya l)] (.int .i64 (grt l)):=by
 intro σ
 refine Yb Tryz.func161 rfl (Ua Tryz.func161 (by decide) rfl) ?_
 simp [Tryz.ntmps161]
 refine Xc (fun env σ'=>∃ (u:List AV) (i:Nat),env={ t:=u }∧u.length=17∧tg u 3=.int .i64 (grt (l.take i))∧tg u 6=.pl 1 (Ya l)∧tg u 7=.int .i64 l.length∧tg u 8=.int .i64 i∧σ'=σ∧i≤l.length)
  (fun env _=>match tg env.t 8 with | .int _ i=>l.length - i.toNat | _=>0) ⟨_,0,rfl,by simp,by simp [grt],by simp,by simp [Ya],by simp,rfl,by omega⟩ ?_
 rintro env σ' ⟨u,i,rfl,hl0,g3,g6,g7,g8,rfl,hi⟩
 rcases Qzn i l.length with hlt | hge
 ·have hlt':(i:Int)<(l.length:Int):=by omega
  have hw1:=w64 (n:=(i:Int)+1) (by omega) (by omega)
  have hil:i<(Ya l).length:=by simpa [Ya] using hlt
  have hx':(Ya l)[i]=.int .i64 l[i]:=by simp [Ya]
  have hsuc:grt (l.take (i+1))=if grt (l.take i)<l[i] then l[i] else grt (l.take i):=by rw [Qzt hlt,Uhc]
  obtain ⟨n,hn⟩:∃ n,grt (l.take i)=n:=⟨_,rfl⟩
  rw [hn] at g3 hsuc
  obtain ⟨x,hx⟩:∃ x,l[i]=x:=⟨_,rfl⟩
  rw [hx] at hx' hsuc
  simp [hl0,g3,g6,g7,g8,hlt',hlt,hil,hx',hw1]
  exact ⟨⟨i+1,by rw [hsuc],by simp,hlt⟩,by omega⟩
 ·have hge':¬ (i:Int)<(l.length:Int):=by omega
  rw [List.take_of_length_le hge] at g3
  simp [hl0,g3,g6,g7,g8,hge']
theorem Xhn {f:Nat} {w v:AV} {n:Int} {σ:Za} (h:APure Tryz.prog f [w] (.int .i64 n)) (hz:Fz 0 σ v w):ACalls Tryz.prog f [v] σ fun v' s=>v'=.int .i64 n∧s=σ :=
 APure.lend h rfl (fun i x y hx hy=>by
  match i,hx,hy with
  | 0,hx,hy=>simp at hx hy;subst hx;subst hy;exact hz
  | i+1,hx,hy=>simp at hx) fun C C' c hv=>by cases hv;exact .int _ _
theorem Uii {σ g:Za} {v:AV} {l:List Int} {o:Option Nat} (h:Acc σ g 1 v (Ya l) o):Fz 0 (σ++g) v (.pl 1 (Ya l)):=by
 have hv:=h.val
 cases o with
 | none =>
  obtain ⟨rfl,e⟩:=hv
  rw [e]
  exact .nils_pl 1
 | some jo =>
  obtain ⟨rfl,hjo⟩:=hv
  rw [Xae (fun y hy=>by obtain ⟨z,_,rfl⟩:=List.mem_map.1 hy;rfl)] at hjo
  have hl:(Ya l).length=l.length:=by simp [Ya]
  rw [hl]
  refine Ua4 (cs:=Ya l) (Nat.zero_le _) (by rw [Qzr (by omega),Nat.add_sub_cancel_left];exact hjo) fun i x hx=>?_
  unfold Ya
  rw [Nat.zero_add,Qzp,hx]
  rfl
theorem Zcm {S g:Za} {v:AV} {L:List Int} {o:Option Nat} (hA:Acc S g 1 v (Ya L) o) (x:Int) (hl:L.length≤2^30) :
  ∃ v' g' jo,Xa Tryz.prog #[32,32] v (.arr 1 (S.length+g.length) 0 1) (S++(g++[.cells [.int .i64 x]]))=some (v',S++g')∧Acc S g' 1 v' (Ya (L++[x])) (some jo)∧v'=.arr 1 (S.length+jo) 0 (L.length+1)∧(∀ j,some j≠o→j<g.length→g'[j]? = g[j]?)∧(some jo=o∨g.length≤jo):=by
 obtain ⟨v',g',o',he,hA',hlen,hkeep,ho⟩:=hA.push (P:=Tryz.prog) (t:=32) (e:=3) (ag:=false) (x:=.int .i64 x) (by simp) (by simp) (by simp) (by omega) ⟨by simp [AV.cells],by simp [AV.cells,AV.one]⟩ (by simp [Ya];omega)
 have e:Ya L++[.int .i64 x]=Ya (L++[x]):=by simp [Ya]
 rw [e] at hA'
 obtain ⟨jo,rfl⟩:∃ jo,o'=some jo:=by
  cases o' with
  | none=>exact absurd hA'.val.2 (by simp [Ya])
  | some jo=>exact ⟨jo,rfl⟩
 refine ⟨v',g',jo,by simpa [-Xa] using he,hA',by rw [hA'.val.1];simp [Ya],hkeep,?_⟩
 rcases ho with h | ⟨m,h1,h⟩
 ·exact .inl h
 ·exact .inr (by simp at h;omega)
theorem Ygn (r:Rl) (h:r.Ok):APure Tryz.prog 162 [Uh r] (.int .i64 (grt (r.ntcs.map Ntc.times))):=by
 refine APure.of fun σ=>?_
 refine Yb Tryz.func162 rfl (Ua Tryz.func162 (by decide) rfl) ?_
 have:=h.few
 simp [-Xa,Tryz.ntmps162,Uh]
 refine Xc (fun env σ'=>∃ (u:List AV) (i:Nat) (v:AV) (g:Za) (o:Option Nat),env={ t:=u }∧u.length=21∧tg u 3=v∧tg u 7=.pl 2 (r.ntcs.map Zc)∧tg u 8=.int .i64 r.ntcs.length∧tg u 9=.int .i64 i∧σ'=σ++g∧i≤r.ntcs.length∧Acc σ g 1 v (Ya ((r.ntcs.take i).map Ntc.times)) o)
  (fun env _=>match tg env.t 9 with | .int _ i=>r.ntcs.length - i.toNat | _=>0) ⟨_,0,.nils,[.cells [.int .i64 r.men,.pl 2 (r.ntcs.map Zc)]],none,rfl,by simp,by simp,by simp,by simp,by simp,rfl,by omega,by simpa [Ya] using Acc.nil _ _ _⟩ ?_
 rintro env σ' ⟨u,i,v,g,o,rfl,hl0,g3,g7,g8,g9,rfl,hi,hA⟩
 rcases Qzn i r.ntcs.length with hlt | hge
 ·have hlt':(i:Int)<(r.ntcs.length:Int):=by omega
  have hw1:=w64 (n:=(i:Int)+1) (by omega) (by omega)
  obtain ⟨n,hn⟩:∃ n,r.ntcs[i]=n:=⟨_,rfl⟩
  have hsuc:(r.ntcs.take (i+1)).map Ntc.times=(r.ntcs.take i).map Ntc.times++[n.times]:=by rw [Qzt hlt,hn];simp
  obtain ⟨v',g',jo,he,hA',hv',_,_⟩:=Zcm (hA.more [.cells [.int .i64 n.times,.pl 1 (Ya n.men)]]) n.times (by simp;omega)
  simp [-Xa] at he
  rw [← Nat.add_assoc] at he
  rw [← hsuc] at hA'
  simp [-Xa,-List.map_take,hl0,g3,g7,g8,g9,hlt',hlt,hn,Zc,hw1]
  rw [he,Xk]
  exact ⟨⟨i+1,by simp,g',rfl,hlt,_,hA'⟩,by omega⟩
 ·obtain rfl:i=r.ntcs.length:=by omega
  rw [List.take_of_length_le (Nat.le_refl _)] at hA
  simp [-Xa,hl0,g3,g7,g8,g9]
  refine StA.of ((Xhn (Vci _ (by simp;omega)) (Uii hA)).mono ?_)
  rintro v' s ⟨rfl,rfl⟩
  simp [-Xa,hl0]
theorem Whm (r:Rl) (S:List (List Int)) (h:r.Ok) (hs:ShOk r S):APure Tryz.prog 80 [Uh r,Ze S] (.pl 1 (Ya (Xu r.men.toNat S))):=by
 refine APure.of fun σ=>?_
 refine Yb Tryz.func80 rfl (Ua Tryz.func80 (by decide) rfl) ?_
 have:=h.few
 have hm1:=h.m1
 have hm5:=h.m5
 have hlen:=hs.len
 obtain ⟨men,hmen⟩:∃ men:Nat,r.men=men:=⟨r.men.toNat,by omega⟩
 have htn:r.men.toNat=men:=by omega
 rw [htn]
 have hmax:(men:Int)*8≤281474976710656∧(men:Int)≤9223372036854775807:=by omega
 have hzero:List.replicate men (AV.int .i64 0)=Ya (Xm men []):=by
  apply List.ext_getElem?
  intro k
  simp [Ya,Xm]
  rcases Qzn k men with h | h
  ·rw [List.getElem?_replicate,if_pos h,List.getElem?_range h];rfl
  ·rw [List.getElem?_eq_none (by simpa using h),List.getElem?_eq_none (by simpa using h)];rfl
 simp [-Xa,Tryz.ntmps80,Uh,Ze,hmen,hmax,hzero]
 refine Xc (LdA r S men σ) (fun env _=>match tg env.t 15 with | .int _ i=>S.length - i.toNat | _=>0) ⟨_,0,rfl,by simp,by simp,by simp,by simp,by simp,by omega,by simp [shP]⟩ ?_
 rintro env _ ⟨u,i,rfl,hl,g5,g13,g14,g15,hi,rfl⟩
 rcases Qzn i S.length with hlt | hge
 ·have hlt':(i:Int)<(S.length:Int):=by omega
  have hx:=w64 (n:=(i:Int)+1) (by omega) (by omega)
  obtain ⟨l,hli⟩:∃ l,S[i]=l:=⟨_,rfl⟩
  have hl':S[i]? = some l:=by rw [Qze hlt,hli]
  obtain ⟨n,hn,ok,h1,h2,h3⟩:=hs.mem h hl'
  have hll:l.length≤5:=Va2 h2 fun x hx=>by have:=h3 x hx;omega
  simp [-Xa,hl,g5,g13,g14,g15,hlt,hlt',hli]
  refine Xc (LdB r S men σ i l) (fun env _=>match tg env.t 21 with | .int _ j=>l.length - j.toNat | _=>0) ⟨_,0,rfl,by simp [hl],by simp [hl,g5],by simp [hl,g13],by simp [hl,g14],by simp [hl,g15],by simp [hl],by simp [hl,Ya],by simp [hl],by omega,by simp [Yh]⟩ ?_
  clear hl g5 g13 g14 g15 u
  rintro env _ ⟨u,j,rfl,hl,g5,g13,g14,g15,g19,g20,g21,hj,rfl⟩
  rcases Qzn j l.length with hlt2 | hge2
  ·have hlt2':(j:Int)<(l.length:Int):=by omega
   have hx2:=w64 (n:=(j:Int)+1) (by omega) (by omega)
   obtain ⟨m,hmj⟩:∃ m,l[j]=m:=⟨_,rfl⟩
   have hm':l[j]? = some m:=by rw [Qze hlt2,hmj]
   have hmm:=(h3 m (Qzg hm')).2
   obtain ⟨m,rfl⟩:∃ k:Nat,m=k:=⟨m.toNat,by omega⟩
   have hmen':m<men:=by omega
   obtain ⟨N,hN⟩:∃ N,shP (S.take i)++Yh i (l.take j)=N:=⟨_,rfl⟩
   have hN1:shP (S.take i)++Yh i (l.take (j+1))=N++[(m,(i:Int))]:=by rw [Yck hm',← List.append_assoc,hN];simp
   have hsn:=Zhs men N m (i:Int) hmen'
   obtain ⟨c,hc⟩:∃ c,(Xm men N)[m]'(by rw [Va8];exact hmen')=c:=⟨_,rfl⟩
   rw [hc] at hsn
   have hcb:0≤c∧c≤40:=by
    obtain ⟨C,hC⟩:=(⟨hl',hm',rfl⟩:Pre S i j l (m:Int) (shP (S.take i)++Yh i (l.take j))).split
    rw [hN] at hC
    have hcc:c=((N.filter fun p=>p.1 == m).length:Int):=by rw [← hc];simp [Xm]
    have hle:=Ycf m S.length S rfl fun l hl=>by
     obtain ⟨i,hi⟩:=List.getElem?_of_mem hl
     obtain ⟨n,_,_,_,h4,h5⟩:=hs.mem h hi
     exact ⟨h4,fun x hx=>(h5 x hx).2.1⟩
    unfold Xam at hle
    rw [hC,List.filter_append,List.length_append] at hle
    omega
   have hx3:=w64 (n:=c+1) (by omega) (by omega)
   have hmi:m<(Ya (Xm men N)).length:=by simp [Ya,Va8];exact hmen'
   have hmg:(Ya (Xm men N))[m]? = some (.int .i64 c):=by rw [Qze hmi];simp [Ya,hc]
   have hm1:m+1≤men:=hmen'
   have hset:List.take m (Ya (Xm men N))++.int .i64 (c+1)::List.drop (m+1) (Ya (Xm men N))=Ya (Xm men (N++[(m,(i:Int))])):=by
    rw [← hsn]
    have e1:(Ya (Xm men N)).set m (.int .i64 (c+1))=List.take m (Ya (Xm men N))++.int .i64 (c+1)::List.drop (m+1) (Ya (Xm men N)):=by rw [List.set_eq_take_append_cons_drop,if_pos hmi]
    rw [← e1]
    unfold Ya
    rw [List.map_set]
   have hil:j<(Ya l).length:=by simpa [Ya] using hlt2
   have hx':(Ya l)[j]=.int .i64 m:=by simp [Ya,hmj]
   have hll2:(Ya (Xm men N)).length=men:=by simp [Ya,Va8]
   have hml:(m:Int)<(men:Int):=by omega
   rw [hN]
   simp [-Xa,hl,g5,g13,g14,g15,g19,g20,g21,hlt2,hlt2',hil,hx',hll2,hml,hmg,hx3,hm1,hx2]
   rw [hset]
   exact ⟨⟨_,j+1,rfl,by simp [hl],by simp [hl,g5],by simp [hl,g13],by simp [hl,g14],by simp [hl,g15],by simp [hl,g19],by simp [hl,g20],by simp [hl],hlt2,by rw [hN1]⟩,by omega⟩
  ·obtain rfl:j=l.length:=by omega
   simp [-Xa,hl,g5,g13,g14,g15,g19,g20,g21,hx]
   exact ⟨⟨_,i+1,rfl,by simp [hl],by simp [hl,g5],by simp [hl,g13],by simp [hl,g14],by simp [hl],hlt,by rw [Xcr hl']⟩,by omega⟩
 ·obtain rfl:i=S.length:=by omega
  simp [-Xa,hl,g5,g13,g14,g15]
  have hll2:(Xu men S).length=men:=by simp [Xu]
  have:=Ua4 (n:=σ.length) (σ:=σ++[AObj.cells [.int .i64 men,.pl 2 (r.ntcs.map Zc)],.cells (Ya (Xm men (shP S)))]) (r:=σ.length+1) (off:=0) (cs:=Ya (Xm men (shP S))) (l:=Xu men S) (by omega) (by simp) fun i x hx=>by
   unfold Ya
   rw [Nat.zero_add,Qzp,Yd0,hx]
   rfl
  rw [hll2] at this
  exact this
end Ab
namespace Ab
open Go Go.RowKit Go.Proofs
theorem Zbe (t:Tab):List.take 40 (Yc t)=Yc t:=List.take_of_length_le (by rw [Vp];exact Nat.le_refl _)
theorem Vbn (t:Tab):∀ y∈Yc t,y.one=true:=fun y hy=>by
 obtain ⟨k,_,rfl⟩:=List.mem_map.1 hy
 rfl
theorem Ub2 {t t':Tab} (h:∀ s m,s<8→m<5→t s m=t' s m):Yc t=Yc t':=by
 unfold Yc
 apply List.map_congr_left
 intro k hk
 rw [List.mem_range] at hk
 rw [h _ _ (by omega) (by omega)]
def blT (s m:Nat):Tab:=fun s' m'=>if s'<s∨(s'=s∧m'<m) then -1 else 0
theorem Ug4:Yc (blT 0 0)=List.replicate 40 (.int .i64 0):=rfl
theorem Ud8 (s m:Nat):Vj (blT s m) s m (-1)=blT s (m+1):=by
 funext s' m'
 unfold Vj blT
 by_cases h:s'=s∧m'=m
 ·rw [if_pos h,if_pos (by omega)]
 ·rw [if_neg h]
  by_cases h2:s'<s∨(s'=s∧m'<m)
  ·rw [if_pos h2,if_pos (by omega)]
  ·rw [if_neg h2,if_neg (by omega)]
theorem Yhz (s:Nat):Yc (blT s 5)=Yc (blT (s+1) 0):=Ub2 fun s' m' _ hm=>by
 unfold blT
 by_cases h2:s'<s∨(s'=s∧m'<5)
 ·rw [if_pos h2,if_pos (by omega)]
 ·rw [if_neg h2,if_neg (by omega)]
theorem Wge:Yc (blT 8 0)=Yc fun _ _=>-1:=Ub2 fun s' m' hs _=>by
 unfold blT
 rw [if_pos (by omega)]
def BlA (σ:Za) (z:AObj) (env:Env) (σ':Za):Prop:=∃ (u:List AV) (s:Nat),env={ t:=u }∧u.length=17∧tg u 0=.ptr σ.length 0∧tg u 1=.ptr (σ.length+1) 0∧tg u 4=.int .i64 s∧s≤8∧σ'=σ++[z,.cells (Yc (blT s 0))]
def BlB (σ:Za) (z:AObj) (s:Nat) (env:Env) (σ':Za):Prop:=∃ (u:List AV) (m:Nat),env={ t:=u }∧u.length=17∧tg u 0=.ptr σ.length 0∧tg u 1=.ptr (σ.length+1) 0∧tg u 2=.int .i64 s∧tg u 4=.int .i64 s∧tg u 7=.int .i64 m∧m≤5∧σ'=σ++[z,.cells (Yc (blT s m))]
theorem Xg3 (n:Nat) (σ:Za) (t:Tab):FzL n σ (Yc t) (Yc t):=⟨rfl,fun i x y hx hy=>by
 rw [hx] at hy
 obtain rfl:=Option.some.inj hy
 obtain ⟨k,_,rfl⟩:=List.mem_map.1 (Qzg hx)
 exact .int _ _⟩
attribute [local irreducible] aws awp aw1 Og Om Oc Oa Ogd Ov Ot awd Zb awh Wb Ogh Ohd awl Ogl Ohl awv Ogv Ohv Xb Vb QFn Ub Xi QRo QBe Ui Uj ACode AYield
theorem Vgo (r:Rl) (S:List (List Int)) (h:r.Ok) (hs:ShOk r S):APure Tryz.prog 82 [Uh r,Ze S] (.int .i64 (slotsOf r S)):=by
 refine APure.of fun σ=>?_
 refine Yb Tryz.func82 rfl (Ua Tryz.func82 (by decide) rfl) ?_
 have hr0:Uh r=.agg [.int .i64 r.men,.pl 2 (r.ntcs.map Zc)]:=rfl
 have c1:=Whm r S h hs
 have c2:=Vci (Xu r.men.toNat S) (by have:=h.m5;simp [Xu];omega)
 have c3:=Ygn r h
 rw [hr0] at c1 c3 ⊢
 simp [Tryz.ntmps82]
 refine Ym mixed (by kernel_rfl) ?_
 try simp
 refine Zaj c1 ?_
 try simp
 refine Zaj c2 ?_
 try simp
 refine Zaj c3 ?_
 try simp
 unfold slotsOf
 simp
theorem Uh6:APure Tryz.prog 179 [] (.agg (Yc fun _ _=>-1)):=by
 refine APure.of fun σ=>?_
 refine Yb Tryz.func179 rfl (Ua Tryz.func179 (by decide) rfl) ?_
 have hz:=Ug4
 simp [Tryz.ntmps179]
 refine Xc (BlA σ (.cells (Yc (blT 0 0)))) (fun env _=>match tg env.t 4 with | .int _ i=>8 - i.toNat | _=>0) ⟨_,0,rfl,by simp,by simp,by simp,by simp,by omega,by rw [hz];simp⟩ ?_
 rintro env _ ⟨u,s,rfl,hl,g0,g1,g4,hs,rfl⟩
 have hx:=w64 (n:=(s:Int)+1) (by omega) (by omega)
 rcases Qzn s 8 with hlt | hge
 ·have hlt':(s:Int)<8:=by omega
  simp [hl,g0,g1,g4,hlt']
  refine Xc (BlB σ (.cells (Yc (blT 0 0))) s) (fun env _=>match tg env.t 7 with | .int _ i=>5 - i.toNat | _=>0) ⟨_,0,rfl,by simp [hl],by simp [hl,g0],by simp [hl,g1],by simp [hl,g4],by simp [hl,g4],by simp [hl],by omega,rfl⟩ ?_
  clear hl g0 g1 g4 u
  rintro env _ ⟨u,m,rfl,hl,g0,g1,g2,g4,g7,hm,rfl⟩
  have hx2:=w64 (n:=(m:Int)+1) (by omega) (by omega)
  rcases Qzn m 5 with hlt2 | hge2
  ·have hlt2':(m:Int)<5:=by omega
   have hle:s*5+m+1≤(Yc (blT s m)).length:=by rw [Vp];omega
   simp [hl,g0,g1,g2,g4,g7,hlt2',hlt',hle,hx2]
   rw [Xa2 _ hlt hlt2,Ud8]
   exact ⟨⟨_,m+1,rfl,by simp [hl],by simp [hl,g0],by simp [hl,g1],by simp [hl,g2],by simp [hl,g4],by simp [hl],hlt2,rfl⟩,by omega⟩
  ·obtain rfl:m=5:=by omega
   simp [hl,g0,g1,g2,g4,g7,hx]
   exact ⟨⟨_,s+1,rfl,by simp [hl],by simp [hl,g0],by simp [hl,g1],by simp [hl],hlt,by rw [Yhz]⟩,by omega⟩
 ·obtain rfl:s=8:=by omega
  have hl0:=Vp (blT 0 0)
  have hl8:=Vp (blT 8 0)
  have ht8:=Zbe (blT 8 0)
  have ho8:=Vbn (blT 8 0)
  have hd0:List.drop 40 (Yc (blT 0 0))=[]:=List.drop_eq_nil_of_le (by rw [hl0];exact Nat.le_refl _)
  simp [hl,g0,g1,g4,hl8,ht8,hl0,hd0]
  rw [if_pos (by exact ho8),Xk]
  simp [hl8,ht8]
  rw [Wge]
  exact Xg3 _ _ _
theorem Uep (σ:Za) (q off:Nat) (cs:List AV) (l:List Int) (hq:σ[q]? = some (.cells cs)) (h:List.take l.length (List.drop off cs)=Ya l) (hle:off+l.length≤cs.length) (hl:l≠[]) (hll:l.length≤2^30) :
  ACalls Tryz.prog 73 [.arr 1 q off l.length] σ fun v s=>v=.arr 1 (σ.length+1) 0 l.length∧s=σ++[.cells [],.cells (Ya l)]:=by
 refine Yb Tryz.func73 rfl (Ua Tryz.func73 (by decide) rfl) ?_
 have hq':(σ++[AObj.cells []])[q]? = some (.cells cs):=by rw [Qzl (Qzs.1 hq).1];exact hq
 have ho:∀ x∈Ya l,AV.one x=true:=fun x hx=>by obtain ⟨z,_,rfl⟩:=List.mem_map.1 hx;rfl
 have hl0:¬ l.length=0:=fun e=>hl (List.eq_nil_of_length_eq_zero e)
 have hb:l.length*8≤140737488355328:=by omega
 simp [Tryz.ntmps73,hq',hle,h]
 rw [if_pos (by exact ho)]
 simp [hl,hb]
end Ab
namespace Ab
open Go Go.RowKit Go.Proofs
def Wi (t:Tab) (men s:Nat):List Int:=(List.range men).map fun m=>t s m
theorem Yal (t:Tab) (men s:Nat):(Wi t men s).length=men:=by simp [Wi]
theorem Xh4 (t:Tab) {s men:Nat} (hs:s<8) (hm:men≤5):List.take men (List.drop (s*5) (Yc t))=Ya (Wi t men s):=by
 apply List.ext_getElem?
 intro k
 rcases Qzn k men with h | h
 ·rw [List.getElem?_take_of_lt h,List.getElem?_drop,Yas t hs (by omega)]
  unfold Ya Wi
  rw [Qzp,Qzp,List.getElem?_range h]
  rfl
 ·rw [List.getElem?_eq_none (by simp;omega),List.getElem?_eq_none (by simp [Ya,Wi];omega)]
def Vz (t:Tab) (men:Nat):Nat→Za
 | 0=>[]
 | s+1=>Vz t men s++[.cells [],.cells (Ya (Wi t men s))]
def Wr (L men:Nat):Nat→List AV
 | 0=>[]
 | s+1=>Wr L men s++[.arr 1 (L+2+2*s+1) 0 men]
theorem Wa0 (t:Tab) (men:Nat):∀ s,(Vz t men s).length=2*s
 | 0=>rfl
 | s+1=>by simp [Vz,Wa0 t men s];omega
theorem Xaw (L men:Nat):∀ s,(Wr L men s).length=s
 | 0=>rfl
 | s+1=>by simp [Wr,Xaw L men s]
theorem Vhi (t:Tab) (men:Nat):∀ {s k:Nat},k<s→(Vz t men s)[2*k+1]? = some (.cells (Ya (Wi t men k))):=by
 intro s
 induction s with
 | zero=>intro k h;omega
 | succ s ih =>
  intro k h
  rw [Vz]
  rcases Qzn k s with h1 | h1
  ·rw [Qzl (by rw [Wa0];omega)]
   exact ih h1
  ·obtain rfl:k=s:=by omega
   rw [Qzr (by rw [Wa0];omega),Wa0,show 2*k+1 - 2*k=1 by omega]
   rfl
theorem We0 (L men:Nat):∀ {s k:Nat},k<s→(Wr L men s)[k]? = some (.arr 1 (L+2+2*k+1) 0 men):=by
 intro s
 induction s with
 | zero=>intro k h;omega
 | succ s ih =>
  intro k h
  rw [Wr]
  rcases Qzn k s with h1 | h1
  ·rw [Qzl (by rw [Xaw];omega)]
   exact ih h1
  ·obtain rfl:k=s:=by omega
   rw [Qzr (by rw [Xaw];omega),Xaw]
   simp
theorem Zf5 (L men i slots:Nat) (h:i<slots) (v:AV) (hv:v=.arr 1 (L+2+2*i+1) 0 men):List.take i (Wr L men i++List.replicate (slots - i) AV.nils)++v::List.drop (i+1) (Wr L men i++List.replicate (slots - i) AV.nils)=Wr L men (i+1)++List.replicate (slots - (i+1)) AV.nils:=by
 have hl:=Xaw L men i
 rw [List.take_append_of_le_length (by omega),List.take_of_length_le (by omega),Wr,hv]
 rw [show slots - i=(slots - (i+1))+1 by omega,List.replicate_succ,List.drop_append,List.drop_eq_nil_of_le (by omega),hl,show i+1 - i=1 by omega]
 simp
theorem Xbn {n:Nat} {S:Za} {r:Nat} {cs:List AV} {R:List (List Int)} (hn:n≤r) (hr:S[r]? = some (.cells cs)) (h:∀ (k:Nat) (l:List Int),R[k]? = some l→∃ v,cs[k]? = some v∧Fz n S v (.pl 1 (Ya l))):Fz n S (.arr 1 r 0 R.length) (Ze R):=by
 have e:R.length=(R.map fun x=>AV.pl 1 (Ya x)).length:=by simp
 unfold Ze
 rw [e]
 refine .arr 1 _ 0 cs _ (fun i _=>(cs[i]?).getD .any) hn hr (fun i x hx=>?_) fun i x hx j y hy=>?_
 ·rw [Qzp,Qzm] at hx
  obtain ⟨l,hl,rfl⟩:=hx
  obtain ⟨v,hv,hz⟩:=h i l hl
  refine ⟨rfl,fun j y hy=>?_⟩
  cases j with
  | zero =>
   simp [AV.cells] at hy
   subst hy
   exact ⟨rfl,by rw [show (0+i)*1+0=i by omega,hv];rfl⟩
  | succ j=>simp [AV.cells] at hy
 ·rw [Qzp,Qzm] at hx
  obtain ⟨l,hl,rfl⟩:=hx
  obtain ⟨v,hv,hz⟩:=h i l hl
  cases j with
  | zero =>
   simp [AV.cells] at hy
   subst hy
   rw [hv]
   exact hz
  | succ j=>simp [AV.cells] at hy
theorem Zco {n:Nat} {S:Za} {r:Nat} {l:List Int} (hn:n≤r) (hr:S[r]? = some (.cells (Ya l))):Fz n S (.arr 1 r 0 l.length) (.pl 1 (Ya l)):=Ua4 hn hr fun i x hx=>by
 unfold Ya
 rw [Nat.zero_add,Qzp,hx]
 rfl
def LiA (t:Tab) (σ:Za) (men slots:Nat) (env:Env) (σ':Za):Prop:=∃ (u:List AV) (i:Nat),env={ t:=u }∧u.length=26∧tg u 1=.int .i64 men∧tg u 3=.ptr σ.length 0∧tg u 7=.arr 1 (σ.length+1) 0 slots∧tg u 12=.int .i64 slots∧tg u 13=.int .i64 i∧i≤slots∧σ'=σ++(.cells (Yc t)::.cells (Wr σ.length men i++List.replicate (slots - i) .nils)::Vz t men i)
attribute [local irreducible] aws awp aw1 Og Om Oc Oa Ogd Ov Ot awd Zb awh Wb Ogh Ohd awl Ogl Ohl awv Ogv Ohv Xb Vb QFn Ub Xi QRo QBe Ui Uj ACode AYield
theorem Whv (t:Tab) (men slots:Nat) (hm1:1≤men) (hm5:men≤5) (hs1:1≤slots) (hs8:slots≤8):APure Tryz.prog 181 [.agg (Yc t),.int .i64 men,.int .i64 slots] (Ze (Uf t men slots)):=by
 refine APure.of fun σ=>?_
 refine Yb Tryz.func181 rfl (Ua Tryz.func181 (by decide) rfl) ?_
 have hl:=Vp t
 have ht:=Zbe t
 have ho:=Vbn t
 have hmax:(slots:Int)*24≤281474976710656∧(slots:Int)≤9223372036854775807:=by omega
 simp [Tryz.ntmps181,hl,ht]
 rw [if_pos (by exact ho),Xk]
 simp [hl,ht,hmax]
 refine Xc (LiA t σ men slots) (fun env _=>match tg env.t 13 with | .int _ i=>slots - i.toNat | _=>0) ⟨_,0,rfl,by simp,by simp,by simp,by simp,by simp,by simp,by omega,by simp [Wr,Vz]⟩ ?_
 rintro env _ ⟨u,i,rfl,hl2,g1,g3,g7,g12,g13,hi,rfl⟩
 rcases Qzn i slots with hlt | hge
 ·have hlt':(i:Int)<(slots:Int):=by omega
  have hx:=w64 (n:=(i:Int)+1) (by omega) (by omega)
  have hi8:(i:Int)<8:=by omega
  have hm5':(men:Int)≤5:=by omega
  have hle:i*5+men≤(Yc t).length:=by rw [Vp];omega
  obtain ⟨T,hT⟩:∃ T,σ++(.cells (Yc t)::.cells (Wr σ.length men i++List.replicate (slots - i) .nils)::Vz t men i)=T:=⟨_,rfl⟩
  have hTl:T.length=σ.length+2+2*i:=by rw [← hT];simp [Wa0];omega
  have hT0:T[σ.length]? = some (.cells (Yc t)):=by rw [← hT];simp
  have hT1:∀ X:Za,(T++X)[σ.length+1]? = some (.cells (Wr σ.length men i++List.replicate (slots - i) .nils)):=fun X=>by rw [← hT];simp
  have hT1s:∀ (X:Za) (y:AObj),(T++X).set (σ.length+1) y=σ++(.cells (Yc t)::y::Vz t men i)++X:=fun X y=>by rw [← hT];simp
  have hrl:(Wr σ.length men i++List.replicate (slots - i) AV.nils).length=slots:=by simp [Xaw];omega
  have c1:=Uep T σ.length (i*5) (Yc t) (Wi t men i) hT0 (by rw [Yal];exact Xh4 t (by omega) hm5) (by rw [Yal];exact hle) (fun e=>by have:=Yal t men i;rw [e] at this;simp at this;omega) (by rw [Yal];omega)
  rw [Yal] at c1
  rw [hT]
  have hle5:i*5+5≤(Yc t).length:=by rw [Vp];omega
  have hmn:¬ 0=men:=by omega
  simp [hl2,g1,g3,g7,g12,g13,hlt,hlt',hi8,hm5',hm5,hmn,hle5,hT0]
  refine StA.of (c1.mono ?_)
  rintro v s ⟨rfl,rfl⟩
  have hi1:i+1≤slots:=hlt
  simp [hl2,g1,g3,g7,g12,g13,hlt,hlt',hT1,hT1s,hrl,hi1,hx]
  rw [Zf5 _ _ _ _ hlt _ (by rw [hTl])]
  exact ⟨⟨_,i+1,rfl,by simp [hl2],by simp [hl2,g1],by simp [hl2,g3],by simp [hl2,g7],by simp [hl2,g12],by simp [hl2],hlt,by simp [Vz]⟩,by omega⟩
 ·obtain rfl:i=slots:=by omega
  simp [hl2,g1,g3,g7,g12,g13]
  have hpl:(Uf t men i).length=i:=by simp [Uf]
  have:=Xbn (n:=σ.length) (S:=σ++AObj.cells (Yc t)::AObj.cells (Wr σ.length men i)::Vz t men i) (r:=σ.length+1) (cs:=Wr σ.length men i) (R:=Uf t men i) (by omega) (by simp) fun k l hk=>by
   have hki:=(Qzs.1 hk).1
   rw [hpl] at hki
   refine ⟨_,We0 _ _ hki,?_⟩
   unfold Uf at hk
   rw [Qzp,List.getElem?_range hki] at hk
   obtain rfl:=Option.some.inj hk
   have h2:=Zco (n:=σ.length) (S:=σ++AObj.cells (Yc t)::AObj.cells (Wr σ.length men i)::Vz t men i) (r:=σ.length+2+2*k+1) (l:=Wi t men k) (by omega) (by
    rw [Qzr (by omega),show σ.length+2+2*k+1 - σ.length=(2*k+1)+1+1 by omega]
    simp only [List.getElem?_cons_succ]
    exact Vhi t men hki)
   rw [Yal] at h2
   exact h2
  rw [hpl] at this
  exact this
end Ab

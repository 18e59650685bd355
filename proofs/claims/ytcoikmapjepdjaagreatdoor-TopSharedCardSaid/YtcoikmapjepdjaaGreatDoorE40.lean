/-
  Texts packed for a claim.
-/
import Derived.Test.YtcoikmapjepdjaaGreatDoorE00
import Derived.Test.YtcoikmapjepdjaaGreatDoorE26
import Derived.Test.YtcoikmapjepdjaaGreatDoorE25
import Derived.Test.YtcoikmapjepdjaaGreatDoorE29
import Derived.Test.YtcoikmapjepdjaaGreatDoorE34
import Derived.Test.YtcoikmapjepdjaaGreatDoorE39
set_option linter.all false
namespace Ab
open Go Go.RowKit Go.Proofs
def Zr (A:List Int) (x:Ntc):Int:=if 0<x.times - (((x.men.filter fun m=>!(A.contains m)).length:Nat):Int) then x.times - (((x.men.filter fun m=>!(A.contains m)).length:Nat):Int) else 0
theorem Yci (r:Rl) (A:List Int):Yaa r A=Zg (r.ntcs.map (Zr A)):=rfl
theorem Wgl (l:List Int) (x:Int):Zg (l++[x])=Zg l+x:=by unfold Zg;rw [List.foldl_append];rfl
theorem Xcm {r:Rl} {x:Ntc} (h:x.Ok r.men) (A:List Int):0≤Zr A x∧Zr A x≤3:=by
 have:=h.t3
 have:=h.t1
 unfold Zr
 split<;>omega
theorem Vd6 (q:Int→Bool) (l:List Int) (x:Int):(((l++[x]).filter q).length:Nat)=(l.filter q).length+if q x=true then 1 else 0:=by
 rw [List.filter_append,List.length_append]
 by_cases h:q x=true<;>simp [h]
attribute [local irreducible] aws awp aw1 Og Om Oc Oa Ogd Ov Ot awd Ua awh Xb Ogh Ohd awl Ogl Ohl awv Ogv Ohv Wb Vb QFn Zc Vg QRo QBe Yf Yg ACode AYield
set_option maxHeartbeats 4000000 in
theorem Yb8 (r:Rl) (h:r.Ok) (A:List Int) (hA:A.length≤2^40):APure Tryz.prog 72 [Ug r,.pl 1 (Ya A)] (.int .i64 (Yaa r A)):=by
 refine APure.of fun σ=>?_
 refine Yb Tryz.func72 rfl (Zb Tryz.func72 (by decide) rfl) ?_
 have hfew:=h.few
 have hm5:=h.m5
 rw [Yci]
 simp [Tryz.ntmps72,Ug]
 refine Wd (fun env σ'=>∃ (u:List AV) (i:Nat) (g:Za),env={ t:=u }∧u.length=41∧tg u 1=.pl 1 (Ya A)∧tg u 5=.int .i64 (Zg ((r.ntcs.take i).map (Zr A)))∧tg u 12=.pl 2 (r.ntcs.map Ub)∧tg u 13=.int .i64 r.ntcs.length∧tg u 14=.int .i64 i∧i≤r.ntcs.length∧0≤Zg ((r.ntcs.take i).map (Zr A))∧Zg ((r.ntcs.take i).map (Zr A))≤3*(i:Int)∧σ'=σ++g)
  (fun env _=>match tg env.t 14 with | .int _ i=>r.ntcs.length - i.toNat | _=>0) ⟨_,0,_,rfl,by simp,by simp,by simp [Zg],by simp,by simp,by simp,by omega,by simp [Zg],by simp [Zg],rfl⟩ ?_
 rintro env _ ⟨u,i,g,rfl,hl,g1,g5,g12,g13,g14,hi,hs0,hs1,rfl⟩
 rcases Qzn i r.ntcs.length with hlt | hge
 ·have hlt':(i:Int)<(r.ntcs.length:Int):=by omega
  have hw:=w64 (n:=(i:Int)+1) (by omega) (by omega)
  obtain ⟨n,hn⟩:∃ n,r.ntcs[i]=n:=⟨_,rfl⟩
  have ok:n.Ok r.men:=hn▸h.each _ (List.getElem_mem hlt)
  have hsh:=ok.short h.m5
  have hil:(Ya n.men).length=n.men.length:=by simp [Ya]
  have hsn:Zg ((r.ntcs.take (i+1)).map (Zr A))=Zg ((r.ntcs.take i).map (Zr A))+Zr A n:=by
   rw [Qzt hlt,hn,List.map_append,List.map_singleton,Wgl]
  have hnb:=Xcm ok A
  obtain ⟨s0,hs0e⟩:∃ s0,Zg ((r.ntcs.take i).map (Zr A))=s0:=⟨_,rfl⟩
  rw [hs0e] at g5 hs0 hs1 hsn
  obtain ⟨T,hT⟩:∃ T,σ++g=T:=⟨_,rfl⟩
  have hx1:∀ (x:AObj) (Y:Za),(T++x::Y)[T.length]? = some x:=fun x Y=>by simp
  rw [hT]
  simp [hl,g1,g5,g12,g13,g14,hlt,hlt',hn,Ub,hx1,hil]
  refine Wd (fun env σ'=>∃ (u:List AV) (k:Nat),env={ t:=u }∧u.length=41∧tg u 1=.pl 1 (Ya A)∧tg u 5=.int .i64 s0∧tg u 7=.ptr T.length 0∧tg u 8=.int .i64 (((n.men.take k).filter fun m=>!(A.contains m)).length:Nat)∧tg u 12=.pl 2 (r.ntcs.map Ub)∧tg u 13=.int .i64 r.ntcs.length∧tg u 14=.int .i64 i∧tg u 19=.pl 1 (Ya n.men)∧tg u 20=.int .i64 n.men.length∧tg u 21=.int .i64 k∧k≤n.men.length∧σ'=T++[.cells [.int .i64 n.times,.pl 1 (Ya n.men)]])
   (fun env _=>match tg env.t 21 with | .int _ i=>n.men.length - i.toNat | _=>0) ⟨_,0,rfl,by simp [hl],by simp [hl,g1],by simp [hl,g5],by simp [hl],by simp [hl],by simp [hl,g12],by simp [hl,g13],by simp [hl,g14],by simp [hl],by simp [hl],by simp [hl],by omega,rfl⟩ ?_
  clear hl g1 g5 g12 g13 g14
  rintro env _ ⟨u,k,rfl,hl,g1,g5,g7,g8,g12,g13,g14,g19,g20,g21,hk,rfl⟩
  have hfl:((n.men.take k).filter fun m=>!(A.contains m)).length≤k:=by
   have h1:=List.length_filter_le (fun m=>!(A.contains m)) (n.men.take k)
   have h2:=List.length_take (i:=k) (l:=n.men)
   omega
  rcases Qzn k n.men.length with hltk | hgek
  ·have hltk':(k:Int)<(n.men.length:Int):=by omega
   have hwk:=w64 (n:=(k:Int)+1) (by omega) (by omega)
   obtain ⟨m,hm⟩:∃ m,n.men[k]=m:=⟨_,rfl⟩
   have hmx:(Ya n.men)[k]'(by omega)=.int .i64 m:=by simp [Ya,hm]
   have hsn2:=Vd6 (fun m=>!(A.contains m)) (n.men.take k) m
   rw [← hm,← Qzt hltk,hm] at hsn2
   obtain ⟨f0,hf0⟩:∃ f0,((n.men.take k).filter fun m=>!(A.contains m)).length=f0:=⟨_,rfl⟩
   rw [hf0] at g8 hfl hsn2
   have hwf:=w64 (n:=(f0:Int)+1) (by omega) (by omega)
   have cC:=Uau A m hA
   simp [hl,g1,g5,g7,g8,g12,g13,g14,g19,g20,g21,hltk,hltk',hil,hmx]
   refine cC.use ?_
   by_cases hin:m∈A
   ·have hc:A.contains m=true:=by simpa using hin
    rw [hc,if_neg (by simp)] at hsn2
    simp [hl,g1,g5,g7,g8,g12,g13,g14,g19,g20,g21,hin,hwk]
    exact ⟨⟨k+1,by rw [← Nat.add_zero f0,← hsn2];simp,by simp,hltk⟩,by omega⟩
   ·have hc:A.contains m=false:=by simpa using hin
    rw [hc,if_pos (by simp)] at hsn2
    simp [hl,g1,g5,g7,g8,g12,g13,g14,g19,g20,g21,hin,hwk,hwf]
    exact ⟨⟨k+1,by
     have:((f0:Int)+1)=((f0+1:Nat):Int):=by omega
     rw [this,← hsn2];simp,by simp,hltk⟩,by omega⟩
  ·obtain rfl:k=n.men.length:=by omega
   rw [List.take_length] at g8 hfl
   have hnN:Zr A n=if 0<n.times - (((n.men.filter fun m=>!(A.contains m)).length:Nat):Int) then n.times - (((n.men.filter fun m=>!(A.contains m)).length:Nat):Int) else 0:=rfl
   obtain ⟨f0,hf0⟩:∃ f0,(n.men.filter fun m=>!(A.contains m)).length=f0:=⟨_,rfl⟩
   rw [hf0] at g8 hfl hnN
   have t1:=ok.t1
   have t3:=ok.t3
   have hwd:=w64 (n:=n.times - (f0:Int)) (by omega) (by omega)
   rw [hnN] at hsn hnb
   have hws:=w64 (n:=s0+(if 0<n.times - (f0:Int) then n.times - (f0:Int) else 0)) (by omega) (by omega)
   have hif:(if 0<n.times - (f0:Int) then n.times - (f0:Int) else 0)=if (f0:Int)<n.times then n.times - (f0:Int) else 0:=by
    by_cases hq:(f0:Int)<n.times
    ·rw [if_pos hq,if_pos (by omega)]
    ·rw [if_neg hq,if_neg (by omega)]
   rw [hif] at hws hsn hnb
   simp [hl,g1,g5,g7,g8,g12,g13,g14,g19,g20,g21,hx1,hwd]
   rw [hws,hw,← hsn]
   refine ⟨⟨i+1,by rw [List.map_take],by simp,hlt,?_,?_,?_⟩,by omega⟩
   ·rw [← List.map_take,hsn];omega
   ·rw [← List.map_take,hsn];simp only [Int.natCast_add,Int.natCast_one];omega
   ·exact ⟨g++[AObj.cells [AV.int IntKind.i64 n.times,AV.pl 1 (Ya n.men)]],by rw [← hT,List.append_assoc]⟩
 ·obtain rfl:i=r.ntcs.length:=by omega
  rw [List.take_length] at g5
  simp [hl,g1,g5,g12,g13,g14]
end Ab
namespace Ab
open Go Go.RowKit Go.Proofs
attribute [local irreducible] aws awp aw1 Og Om Oc Oa Ogd Ov Ot awd Ua awh Xb Ogh Ohd awl Ogl Ohl awv Ogv Ohv Wb Vb QFn Zc Vg QRo QBe Yf Yg ACode AYield
def LeastS (r:Rl) (S:List (List Int)) (n:Nat):Prop:=∃ s',Xt r n=some s'∧(∀ j:Nat,j<n→Xt r j=none)∧n≤r.ntcs.length∧S.length=r.ntcs.length∧∀ (n:Nat) (l:List Int),S[n]? = some l→l.Perm (s'.F n)∧l.Pairwise (·≤·)
theorem LeastS.ok {r:Rl} (ok:r.Ok) {S:List (List Int)} {n:Nat} (h:LeastS r S n):ShOk r S:=by
 obtain ⟨s',h1,_,_,h3,h4⟩:=h
 exact Vfz ok h1 h3 h4
set_option maxHeartbeats 2000000 in
theorem Ufo {r:Rl} (ok:r.Ok) (σ:Za):ACalls Tryz.prog 65 [Ug r] σ fun v s=>∃ S n,LeastS r S n∧v=.tup [Uj S,.int .i64 (n:Nat)]∧s=σ:=by
 refine ACalls.forgetT ?_
 refine Yb Tryz.func65 rfl (Zb Tryz.func65 (by decide) rfl) ?_
 have hK6:=ok.few
 simp [Tryz.ntmps65,Ug]
 refine Wd (fun env σ'=>∃ (u:List AV) (i:Nat),env={ t:=u }∧u.length=18∧tg u 1=.ptr σ.length 0∧tg u 4=.int .i64 i∧i≤r.ntcs.length∧(∀ j:Nat,j<i→Xt r j=none)∧σ'=σ++[.cells [.int .i64 r.men,.pl 2 (r.ntcs.map Ub)]])
  (fun env _=>match tg env.t 4 with | .int _ i=>r.ntcs.length - i.toNat | _=>0) ⟨_,0,rfl,by simp,by simp,by simp,by omega,fun j h=>by omega,rfl⟩ ?_
 rintro env _ ⟨u,i,rfl,hl,g1,g4,hi,hno,rfl⟩
 have cS:=Zd3 ok (i:Int) (by omega) (σ++[.cells [.int .i64 r.men,.pl 2 (r.ntcs.map Ub)]])
 have hx:=w64 (n:=(i:Int)+1) (by omega) (by omega)
 simp [hl,g1,g4]
 refine StA.of (cS.mono ?_)
 rintro v s ⟨hv,rfl⟩
 cases hs:Xt r i with
 | none =>
  rw [hs] at hv
  subst hv
  have hlt:i<r.ntcs.length:=by
   rcases Qzn i r.ntcs.length with h | h
   ·exact h
   ·obtain ⟨s',h1⟩:=Vhw ok (most:=(i:Int)) (by omega)
    rw [h1] at hs;cases hs
  simp [hl,g1,g4,hx]
  exact ⟨⟨i+1,by simp,hlt,fun j hj=>(by
   rcases Qzn j i with h | h
   ·exact hno j h
   ·obtain rfl:j=i:=by omega
    exact hs)⟩,by omega⟩
 | some s' =>
  rw [hs] at hv
  obtain ⟨S,rfl,hS1,hS2⟩:=hv
  simp [hl,g1,g4]
  exact ⟨σ,_,rfl,rfl,fun r o h=>.inl h,_,Xbd (Wdr _ _ _) (.int _ _),S,i,⟨s',hs,hno,hi,hS1,hS2⟩,rfl,rfl⟩
end Ab
namespace Ab
open Go Go.RowKit Go.Proofs
attribute [local irreducible] aws awp aw1 Og Om Oc Oa Ogd Ov Ot awd Ua awh Xb Ogh Ohd awl Ogl Ohl awv Ogv Ohv Wb Vb QFn Zc Vg QRo QBe Yf Yg ACode AYield
theorem Wd5 {r:Rl} (ok:r.Ok) (σ:Za):ACalls Tryz.prog 11 [Ug r] σ fun v s=>(∃ S n,LeastS r S n∧v=.tup [Uj S,.int .i64 (n:Nat),.int .i64 0])∧∃ g,s=σ++g:=by
 refine Yb Tryz.func11 rfl (Zb Tryz.func11 (by decide) rfl) ?_
 simp [Tryz.ntmps11,Ug]
 refine (Yax r ok).use ?_
 simp
 refine StA.of ((Ufo ok _).mono ?_)
 rintro _ _ ⟨S,n,hS,rfl,rfl⟩
 simp [Uj]
 exact ⟨S,n,hS,rfl,rfl⟩
theorem Zdj (r:Rl) (S:List (List Int)) (h:r.Ok) (hs:ShOk r S) (σ:Za):ACalls Tryz.prog 19 [Ug r,Uj S] σ fun v s=>v=.tup [.pl 1 (Ya (Zs r.men.toNat S)),.int .i64 0]∧∃ g,s=σ++g:=by
 refine Yb Tryz.func19 rfl (Zb Tryz.func19 (by decide) rfl) ?_
 simp [Tryz.ntmps19,Ug,Uj]
 refine (Yb9 r S h hs).use ?_
 simp
 refine (Xch r S h hs).use ?_
 simp
theorem Wf7 (r:Rl) (S:List (List Int)) (h:r.Ok) (hs:ShOk r S) (σ:Za):ACalls Tryz.prog 21 [Ug r,Uj S] σ fun v s=>v=.tup [.int .i64 (slotsOf r S),.int .i64 0]∧∃ g,s=σ++g:=by
 refine Yb Tryz.func21 rfl (Zb Tryz.func21 (by decide) rfl) ?_
 simp [Tryz.ntmps21,Ug,Uj]
 refine (Yb9 r S h hs).use ?_
 simp
 refine (Zdf r S h hs).use ?_
 simp
theorem Zfe (r:Rl) (h:r.Ok) (A:List Int) (hA:A.Pairwise (·<·)) (hm:∀ x∈A,0≤x∧x<r.men) (σ:Za):ACalls Tryz.prog 16 [Ug r,.pl 1 (Ya A)] σ fun v s=>v=.tup [.int .i64 (Yaa r A),.int .i64 0]∧∃ g,s=σ++g:=by
 refine Yb Tryz.func16 rfl (Zb Tryz.func16 (by decide) rfl) ?_
 have hm1:=h.m1
 have hm5:=h.m5
 have hAl:A.length≤5:=by
  have:=Wam (m:=r.men.toNat) hA fun x hx=>by have:=hm x hx;omega
  omega
 have hil:(Ya A).length=A.length:=by simp [Ya]
 simp [Tryz.ntmps16,Ug]
 refine (Yax r h).use ?_
 simp [hil]
 refine Wd (fun env σ'=>∃ (u:List AV) (i:Nat),env={ t:=u }∧u.length=34∧tg u 1=.pl 1 (Ya A)∧tg u 2=.ptr σ.length 0∧tg u 14=.pl 1 (Ya A)∧tg u 15=.int .i64 A.length∧tg u 16=.int .i64 i∧i≤A.length∧σ'=σ++[.cells [.int .i64 r.men,.pl 2 (r.ntcs.map Ub)]])
  (fun env _=>match tg env.t 16 with | .int _ i=>A.length - i.toNat | _=>0) ⟨_,0,rfl,by simp,by simp,by simp,by simp,by simp,by simp,by omega,rfl⟩ ?_
 rintro env _ ⟨u,i,rfl,hl,g1,g2,g14,g15,g16,hi,rfl⟩
 have hx1:(σ++[AObj.cells [.int .i64 r.men,.pl 2 (r.ntcs.map Ub)]])[σ.length]? = some (.cells [.int .i64 r.men,.pl 2 (r.ntcs.map Ub)]):=by simp
 obtain ⟨T,hT⟩:∃ T,σ++[AObj.cells [.int .i64 r.men,.pl 2 (r.ntcs.map Ub)]]=T:=⟨_,rfl⟩
 rw [hT] at hx1 ⊢
 rcases Qzn i A.length with hlt | hge
 ·have hlt':(i:Int)<(A.length:Int):=by omega
  have hw:=w64 (n:=(i:Int)+1) (by omega) (by omega)
  obtain ⟨m,hm'⟩:∃ m,A[i]=m:=⟨_,rfl⟩
  have hmx:(Ya A)[i]'(by omega)=.int .i64 m:=by simp [Ya,hm']
  have hmm:=hm m (hm'▸List.getElem_mem hlt)
  have hin:Xj m 0 (r.men - 1)=true:=by unfold Xj;simp;omega
  have cM:=Wcj r m h
  rw [hin] at cM
  have cC:=Uau (A.take i) m (by simp;omega)
  have hnot:¬ m∈A.take i:=fun hh=>by
   obtain ⟨j,hj,e⟩:=List.mem_iff_getElem.1 hh
   simp at hj
   rw [List.getElem_take] at e
   have:=List.pairwise_iff_getElem.1 hA j i (by omega) hlt (by omega)
   omega
  rw [decide_eq_false hnot] at cC
  simp [hl,g1,g2,g14,g15,g16,hlt,hlt',hil,hmx,hx1]
  refine cM.use ?_
  simp [hl,g1,g2,g14,g15,g16,hlt,hlt',hil,hmx,hx1]
  rw [if_pos (by omega),Wl,show List.take i (Ya A)=Ya (A.take i) by simp [Ya]]
  refine cC.use ?_
  simp [hl,g1,g2,g14,g15,g16,hlt,hlt',hw]
  exact ⟨⟨i+1,by simp,hlt⟩,by omega⟩
 ·obtain rfl:i=A.length:=by omega
  simp [hl,g1,g2,g14,g15,g16,hx1]
  refine (Yb8 r h A (by omega)).use ?_
  simp
  exact ⟨_,hT.symm⟩
end Ab
namespace Ab
open Go Go.RowKit Go.Proofs
def lV (l:List Int):AV:=if l=[] then .nils else .pl 1 (Ya l)
def set2 (σ:Za) (pM pb:Nat) (acc:List Int × Int):Za:=(σ.set pM (.cells [.int .i64 acc.2])).set pb (.cells [lV acc.1])
structure MoAt (r:Rl) (pr pn pM pb pf many:Nat) (acc:List Int × Int) (σ:Za):Prop where
 hr:σ[pr]? = some (.cells [.int .i64 r.men,.pl 2 (r.ntcs.map Ub)])
 hn:σ[pn]? = some (.cells [.int .i64 many])
 hM:σ[pM]? = some (.cells [.int .i64 acc.2])
 hb:σ[pb]? = some (.cells [lV acc.1])
 hf:σ[pf]? = some (.cells [.fn (.func 71) [] [.ptr pr 0,.ptr pn 0,.ptr pM 0,.ptr pb 0,.ptr pf 0]])
 ne:pr≠pM∧pr≠pb∧pn≠pM∧pn≠pb∧pf≠pM∧pf≠pb∧pM≠pb
theorem Ub2 (σ:Za) (pM pb:Nat) (acc:List Int × Int):(set2 σ pM pb acc).length=σ.length:=by simp [set2]
theorem MoAt.lt {r:Rl} {pr pn pM pb pf many:Nat} {acc:List Int × Int} {σ:Za} (h:MoAt r pr pn pM pb pf many acc σ):pM<σ.length∧pb<σ.length:=⟨(Qzs.1 h.hM).1,(Qzs.1 h.hb).1⟩
theorem MoAt.more {r:Rl} {pr pn pM pb pf many:Nat} {acc:List Int × Int} {σ:Za} (h:MoAt r pr pn pM pb pf many acc σ) (g:Za):MoAt r pr pn pM pb pf many acc (σ++g):=by
 have key:∀ (k:Nat) (o:AObj),σ[k]? = some o→(σ++g)[k]? = some o:=fun k o hk=>by rw [Qzl (Qzs.1 hk).1];exact hk
 exact ⟨key _ _ h.hr,key _ _ h.hn,key _ _ h.hM,key _ _ h.hb,key _ _ h.hf,h.ne⟩
theorem MoAt.turn {r:Rl} {pr pn pM pb pf many:Nat} {acc:List Int × Int} {σ:Za} (h:MoAt r pr pn pM pb pf many acc σ) (acc':List Int × Int):MoAt r pr pn pM pb pf many acc' (set2 σ pM pb acc'):=by
 obtain ⟨h1,h2⟩:=h.lt
 obtain ⟨n1,n2,n3,n4,n5,n6,n7⟩:=h.ne
 have key:∀ (k:Nat) (o:AObj),k≠pM→k≠pb→σ[k]? = some o→(set2 σ pM pb acc')[k]? = some o:=fun k o k1 k2 hk=>by
  unfold set2
  rw [List.getElem?_set_ne (fun e=>k2 e.symm),List.getElem?_set_ne (fun e=>k1 e.symm)];exact hk
 refine ⟨key _ _ n1 n2 h.hr,key _ _ n3 n4 h.hn,?_,?_,key _ _ n5 n6 h.hf,h.ne⟩
 ·unfold set2
  rw [List.getElem?_set_ne (fun e=>n7 e.symm),List.getElem?_set_self h1]
 ·unfold set2
  rw [List.getElem?_set_self (by simpa using h2)]
theorem Ycf {σ:Za} {j:Nat} {o:AObj} (h:σ[j]? = some o):σ.set j o=σ:=by
 obtain ⟨hl,rfl⟩:=Qzs.1 h
 exact List.set_getElem_self hl
theorem MoAt.same {r:Rl} {pr pn pM pb pf many:Nat} {acc:List Int × Int} {σ:Za} (h:MoAt r pr pn pM pb pf many acc σ):set2 σ pM pb acc=σ:=by
 unfold set2
 rw [Ycf h.hM,Ycf h.hb]
theorem Zew {σ g:Za} {pM pb:Nat} (h1:pM<σ.length) (h2:pb<σ.length) (hne:pM≠pb) (a b:List Int × Int):set2 (set2 σ pM pb a++g) pM pb b=set2 σ pM pb b++g:=by
 unfold set2
 rw [List.set_append_left _ _ (by simpa using h1),List.set_append_left _ _ (by simpa using h2)]
 congr 1
 rw [List.set_comm _ _ hne.symm,List.set_set,List.set_set]
theorem Ugx (l:List Int) (m:Int):lV (l++[m])=.pl 1 (Ya (l++[m])):=by unfold lV;rw [if_neg (by simp)]
theorem Yfu (men frm:Nat):((List.range men).filter fun m=>decide (frm≤m))=List.range' frm (men - frm):=by
 rcases Nat.le_total frm men with h | h
 ·have e:men=frm+(men - frm):=by omega
  have h1:List.range men=List.range' 0 frm++List.range' frm (men - frm):=by
   rw [List.range_eq_range']
   conv=>lhs;rw [e]
   rw [← List.range'_append_1,Nat.zero_add]
  rw [h1,List.filter_append,List.filter_eq_nil_iff.2 (fun x hx=>by simp [List.mem_range'_1] at hx ⊢;omega),List.filter_eq_self.2 (fun x hx=>by simp [List.mem_range'_1] at hx ⊢;omega),List.nil_append]
 ·rw [Nat.sub_eq_zero_of_le h]
  simp
  intro x hx
  omega
def Vac (men left:Nat) (l:List Int) (m:Nat):List (List Int):=((List.range' m (men - m)).flatMap fun k=>(Wq men (k+1) left).map fun x=>(k:Int)::x).map (l++·)
theorem Zeg (men left:Nat) (l:List Int) (frm:Nat):(Wq men frm (left+1)).map (l++·)=Vac men left l frm:=by rw [Wq,Yfu,Vac]
theorem Zf6 {men left:Nat} {l:List Int} {m:Nat} (h:m<men):Vac men left l m=(Wq men (m+1) left).map ((l++[(m:Int)])++·)++Vac men left l (m+1):=by
 unfold Vac
 rw [show men - m=(men - (m+1))+1 by omega,List.range'_succ,List.flatMap_cons,List.map_append,List.map_map]
 congr 1
 apply List.map_congr_left
 intro x _
 simp
theorem Vds {men left:Nat} {l:List Int} {m:Nat} (h:men≤m):Vac men left l m=[]:=by
 unfold Vac
 rw [Nat.sub_eq_zero_of_le h]
 rfl
theorem Zef (S:Za) (r:Nat) (l:List Int) (w:Int) (hl:l.length≤8) (hr:S[r]? = some (.cells (Ya l))) :
  Xa Tryz.prog #[32,32] (.arr 1 r 0 l.length) (.pl 1 [.int .i64 w]) S=some (.arr 1 S.length 0 (l.length+1),S.set r .dead++[.cells (Ya l++[.int .i64 w])]):=by
 have h1:(l.length+1)*8≤140737488355328:=by omega
 simp [hr,Ya,h1]
theorem Wgk {T X:Za} {k:Nat} {l:List Int} (h:X[k]? = some (.cells (Ya l))):Vw (fun r=>decide (T.length≤r)) (T++X) (.arr 1 (T.length+k) 0 l.length) (.pl 1 (Ya l)):=by
 have hA:Acc T X 1 (.arr 1 (T.length+k) 0 l.length) (l.map fun x=>AV.int .i64 x) (some k):=⟨fun x hx=>by
  obtain ⟨z,_,rfl⟩:=List.mem_map.1 hx
  simp [AV.cells,AV.one],by simp,by
  rw [show ((l.map fun x=>AV.int .i64 x).flatMap AV.cells)=Ya l from Vaf l];exact h⟩
 exact hA.vw fun r hr=>by simpa using hr
theorem Ucu (l:List Int) (m:Int):Ya l++[.int .i64 m]=Ya (l++[m]):=by simp [Ya]
theorem Xbb {n:Nat} {S:Za}:Fz n S (.tup []) (.tup []):=by simp
theorem Vd8 (n:Nat) (S:Za) (l:List Int):Fz n S (lV l) (lV l):=by
 unfold lV
 split
 ·exact .nils
 ·exact Ya4 _ _ _
theorem Ybr {g:Za} (σ:Za) (pM pb:Nat) (acc:List Int × Int) (r:Nat) (o:AObj) (h:(set2 σ pM pb acc)[r]? = some o):σ[r]? = some o∨∃ cs,o=.cells cs∧∀ y∈cs,Fz (set2 σ pM pb acc).length (set2 σ pM pb acc++g) y y:=by
 generalize (set2 σ pM pb acc).length=n
 generalize set2 σ pM pb acc++g=S
 unfold set2 at h
 rw [List.getElem?_set] at h
 split at h
 ·split at h
  ·cases h
   exact .inr ⟨_,rfl,fun y hy=>by rw [List.mem_singleton.1 hy];exact Vd8 _ _ _⟩
  ·cases h
 ·rw [List.getElem?_set] at h
  split at h
  ·split at h
   ·cases h
    exact .inr ⟨_,rfl,fun y hy=>by rw [List.mem_singleton.1 hy];simp⟩
   ·cases h
  ·exact .inl h
attribute [local irreducible] aws awp aw1 Og Om Oc Oa Ogd Ov Ot awd Ua awh Xb Ogh Ohd awl Ogl Ohl awv Ogv Ohv Wb Vb QFn Zc Vg QRo QBe Yf Yg ACode AYield
set_option maxHeartbeats 4000000 in
theorem Vc4 (r:Rl) (h:r.Ok) {pr pn pM pb pf many:Nat} (h1:1≤many) (h5:many≤5):∀ (left:Nat) (l:List Int) (frm:Nat) (acc:List Int × Int) (σ:Za),MoAt r pr pn pM pb pf many acc σ→l.length+left=many→frm≤5 →
  ACalls Tryz.prog 71 [lV l,.int .i64 frm,.int .i64 left,.ptr pr 0,.ptr pn 0,.ptr pM 0,.ptr pb 0,.ptr pf 0] σ fun v s=>v=.tup []∧s=set2 σ pM pb (((Wq r.men.toNat frm left).map (l++·)).foldl (Vm r) acc):=by
 have hm1:=h.m1
 have hm5:=h.m5
 intro left
 induction left with
 | zero =>
  intro l frm acc σ hat hll hfr
  obtain ⟨p1,p2⟩:=hat.lt
  have hne:=hat.ne.2.2.2.2.2.2
  refine ACalls.forgetT ?_
  refine Yb Tryz.func71 rfl (Zb Tryz.func71 (by decide) rfl) ?_
  have hl0:l≠[]:=fun e=>by subst e;simp at hll;omega
  have hlv:lV l=.pl 1 (Ya l):=by unfold lV;rw [if_neg hl0]
  have hnd:=Yb8 r h l (by omega)
  have hb:=fun x (hx:x∈r.ntcs)=>Xcm (h.each x hx) l
  have hsum:∀ L:List Ntc,(∀ x∈L,0≤Zr l x∧Zr l x≤3)→0≤Zg (L.map (Zr l))∧Zg (L.map (Zr l))≤3*(L.length:Int):=by
   intro L
   induction L with
   | nil=>intro _;exact ⟨Int.le_refl _,Int.le_refl _⟩
   | cons x L ih =>
    intro hL
    have h2:=ih fun y hy=>hL y (by simp [hy])
    have h3:=hL x (by simp)
    rw [List.map_cons,Zaz,List.length_cons]
    omega
  obtain ⟨n0,n3⟩:=hsum r.ntcs hb
  rw [← Yci] at n0 n3
  have hfew:=h.few
  obtain ⟨N,hN⟩:∃ N,Yaa r l=N:=⟨_,rfl⟩
  rw [hN] at hnd n0 n3
  have w1:=w64 (n:=N+(many:Int)) (by omega) (by omega)
  have w2:=w64 (n:=N+(many:Int) - 1) (by omega) (by omega)
  have hq0:0≤(N+(many:Int) - 1).tdiv many:=Int.tdiv_nonneg (by omega) (by omega)
  have hq1:(N+(many:Int) - 1).tdiv many≤N+(many:Int) - 1:=by
   rw [Int.tdiv_eq_ediv_of_nonneg (by omega)]
   exact Int.ediv_le_self _ (by omega)
  have w3:=w64 (n:=(N+(many:Int) - 1).tdiv many) (by omega) (by omega)
  have hti:Yv r l=(N+(many:Int) - 1).tdiv many:=by unfold Yv;rw [hN,show (l.length:Int)=many by omega]
  have hm0:¬ (many:Int)=0:=by omega
  have hm0':¬ many=0:=by omega
  rw [Wq,hlv]
  obtain ⟨Q,hQ⟩:∃ Q,(N+(many:Int) - 1).tdiv many=Q:=⟨_,rfl⟩
  rw [hQ] at w3 hti hq0 hq1
  simp [Tryz.ntmps71]
  refine Xp [2] [(3,0),(6,0)] mixed (by kernel_rfl) (by kernel_rfl) ?_
  simp [hat.hr,hat.hn]
  refine Zab (hnd σ) ?_
  simp [hat.hr,hat.hn,hat.hM,w1,w2,hm0,hm0',hQ,w3]
  have hst:Vm r acc l=if acc.2<Q then (l,Q) else acc:=by unfold Vm;rw [hti]
  by_cases hlt:acc.2<Q
  ·rw [if_pos hlt] at hst
   have hMb:(σ.set pb (.cells [AV.pl 1 (Ya l)]))[pM]? = some (.cells [.int .i64 acc.2]):=by rw [List.getElem?_set_ne (fun e=>hne e.symm)];exact hat.hM
   simp [hlt,hat.hb,hst,hMb]
   have hs:(σ.set pb (.cells [AV.pl 1 (Ya l)])).set pM (.cells [.int .i64 Q])=set2 σ pM pb (l,Q):=by
    unfold set2
    rw [List.set_comm _ _ hne.symm,hlv]
   rw [hs]
   exact ⟨_,[],by simp,Ub2 _ _ _ _,Ybr σ pM pb (l,Q),_,Xbb,rfl,rfl⟩
  ·rw [if_neg hlt] at hst
   simp [hlt,hst]
   exact ⟨σ,[],by simp,rfl,fun r o h=>.inl h,_,Xbb,rfl,hat.same.symm⟩
 | succ left ih =>
  intro l frm acc σ hat hll hfr
  obtain ⟨p1,p2⟩:=hat.lt
  have hne:=hat.ne.2.2.2.2.2.2
  refine ACalls.forgetT ?_
  refine Yb Tryz.func71 rfl (Zb Tryz.func71 (by decide) rfl) ?_
  rw [Zeg]
  obtain ⟨F,hF⟩:∃ F,(Vac r.men.toNat left l frm).foldl (Vm r) acc=F:=⟨_,rfl⟩
  rw [hF]
  have hll0:¬ (left:Int)+1=0:=by omega
  simp [Tryz.ntmps71,hll0]
  refine Wd (fun env σ'=>∃ (u:List AV) (m:Nat) (acc:List Int × Int) (g:Za),env={ t:=u }∧u.length=46∧tg u 0=lV l∧tg u 2=.int .i64 ((left:Int)+1)∧tg u 3=.ptr pr 0∧tg u 4=.ptr pn 0∧tg u 5=.ptr pM 0∧tg u 6=.ptr pb 0∧tg u 7=.ptr pf 0∧tg u 12=.int .i64 m∧m≤5∧σ'=set2 σ pM pb acc++g∧(Vac r.men.toNat left l m).foldl (Vm r) acc=F)
   (fun env _=>match tg env.t 12 with | .int _ i=>5 - i.toNat | _=>0) ⟨_,frm,acc,[],rfl,by simp,by simp,by simp,by simp,by simp,by simp,by simp,by simp,by simp,hfr,by rw [hat.same];simp,hF⟩ ?_
  rintro env _ ⟨u,m,acc2,g,rfl,hl,g0,g2,g3,g4,g5,g6,g7,g12,hm,rfl,hF2⟩
  obtain ⟨T,hT⟩:∃ T,set2 σ pM pb acc2++g=T:=⟨_,rfl⟩
  have hatT:MoAt r pr pn pM pb pf many acc2 T:=hT▸(hat.turn acc2).more g
  have hTs:∀ b,set2 T pM pb b=set2 σ pM pb b++g:=fun b=>by rw [← hT];exact Zew p1 p2 hne _ _
  rw [hT]
  have hTX:∀ (X:Za),(T++X)[pf]? = some (.cells [.fn (.func 71) [] [.ptr pr 0,.ptr pn 0,.ptr pM 0,.ptr pb 0,.ptr pf 0]]):=fun X=>(hatT.more X).hf
  rcases Qzn m r.men.toNat with hlt | hge
  ·have hlt':(m:Int)<r.men:=by omega
   have hw:=w64 (n:=(m:Int)+1) (by omega) (by omega)
   have hw2:(left:Int)+1 - 1=left:=by omega
   have hw3:=w64 (n:=(left:Int)) (by omega) (by omega)
   have hll5:l.length≤5:=by omega
   rw [Zf6 hlt,List.foldl_append] at hF2
   obtain ⟨acc3,hacc3⟩:∃ x,((Wq r.men.toNat (m+1) left).map ((l++[(m:Int)])++·)).foldl (Vm r) acc2=x:=⟨_,rfl⟩
   rw [hacc3] at hF2
   have hrec:∀ (X:Za) (k:Nat),X[k]? = some (.cells (Ya (l++[(m:Int)])))→ACalls Tryz.prog 71 [.arr 1 (T.length+k) 0 (l.length+1),.int .i64 ((m:Int)+1),.int .i64 left,.ptr pr 0,.ptr pn 0,.ptr pM 0,.ptr pb 0,.ptr pf 0] (T++X) fun v s=>v=.tup []∧s=set2 T pM pb acc3++X.map fun _=>AObj.dead:=fun X k hX=>by
    have:=ih (l++[(m:Int)]) (m+1) acc2 (T++X.map fun _=>AObj.dead) (hatT.more _) (by simp;omega) (by omega)
    rw [hacc3] at this
    refine (ACalls.view (args:=[.arr 1 (T.length+k) 0 (l.length+1),.int .i64 ((m:Int)+1),.int .i64 left,.ptr pr 0,.ptr pn 0,.ptr pM 0,.ptr pb 0,.ptr pf 0]) (fun r=>decide (T.length≤r)) (View.dropS T X) this rfl fun i x y hx hy=>?_).mono ?_
    ·match i,hx,hy with
     | 0,hx,hy =>
      simp at hx hy
      subst hx;subst hy
      rw [Ugx]
      have:=Wgk (T:=T) hX
      simpa using this
     | 1,hx,hy=>simp at hx hy;subst hx;subst hy;exact .inl rfl
     | 2,hx,hy=>simp at hx hy;subst hx;subst hy;exact .inl rfl
     | 3,hx,hy=>simp at hx hy;subst hx;subst hy;exact .inl rfl
     | 4,hx,hy=>simp at hx hy;subst hx;subst hy;exact .inl rfl
     | 5,hx,hy=>simp at hx hy;subst hx;subst hy;exact .inl rfl
     | 6,hx,hy=>simp at hx hy;subst hx;subst hy;exact .inl rfl
     | 7,hx,hy=>simp at hx hy;subst hx;subst hy;exact .inl rfl
     | (_+8),hx,hy=>simp at hx
    ·rintro _ _ ⟨rfl,rfl⟩
     refine ⟨rfl,?_⟩
     unfold set2
     rw [List.set_append_left _ _ (by have:=hatT.lt.1;omega),List.set_append_left _ _ (by have:=hatT.lt.2;simpa using this)]
   rcases Classical.em (l=[]) with e | e
   ·subst e
    simp [-Xa,hl,g0,g2,g3,g4,g5,g6,g7,g12,hatT.hr,hlt',lV]
    refine Xp [2,5,10] [(0,1),(0,2),(3,0),(6,0),(6,1),(7,0),(7,1),(8,0),(8,1),(9,0),(9,1)] mixed (by kernel_rfl) (by kernel_rfl) ?_
    simp [-Xa,hl,g0,g2,g3,g4,g5,g6,g7,g12,hatT.hr,hatT.hf,lV]
    refine Zab (Ufg _) ?_
    rw [Xdo,Wl,hw,hw3]
    have hr0:=hrec [.cells [.int .i64 m]] 0 (by simp [Ya])
    refine Zab (xs:=[]) (ys:=[.ptr pr 0,.ptr pn 0,.ptr pM 0,.ptr pb 0,.ptr pf 0]) (by simpa using hr0) ?_
    rw [hTs]
    refine ⟨by simp [-Xa,hl,g0,g2,g3,g4,g5,g6,g7,g12,hatT.hf,hTX,hw,hw2,hw3],?_⟩
    simp [-Xa,hl,g0,g2,g3,g4,g5,g6,g7,g12,hw,lV]
    exact ⟨⟨m+1,by simp,by omega,acc3.1,acc3.2,⟨g++[.dead],by simp⟩,hF2⟩,by omega⟩
   ·have hlV:lV l=.pl 1 (Ya l):=by unfold lV;rw [if_neg e]
    rw [hlV] at g0
    simp [-Xa,hl,g0,g2,g3,g4,g5,g6,g7,g12,hatT.hr,hlt',hlV]
    refine Xp [2,5,10] [(0,1),(0,2),(3,0),(6,0),(6,1),(7,0),(7,1),(8,0),(8,1),(9,0),(9,1)] mixed (by kernel_rfl) (by kernel_rfl) ?_
    simp [-Xa,hl,g0,g2,g3,g4,g5,g6,g7,g12,hatT.hr,hatT.hf,hlV]
    refine Zab (Wc3 l (by omega) T) ?_
    unfold Waq Uaf
    rw [if_neg e,if_neg e]
    rw [Zef _ _ _ _ (by omega) (by simp [Ya]),Wl,hw,hw3,Ucu]
    have hr1:=hrec [.dead,.cells (Ya (l++[(m:Int)]))] 1 (by simp)
    have hset:(T++[AObj.cells (List.map (fun x=>AV.int IntKind.i64 x) l)]).set T.length AObj.dead++[AObj.cells (Ya (l++[(m:Int)]))]=T++[.dead,.cells (Ya (l++[(m:Int)]))]:=by simp
    rw [hset]
    refine Zab (xs:=[]) (ys:=[.ptr pr 0,.ptr pn 0,.ptr pM 0,.ptr pb 0,.ptr pf 0]) (by simpa using hr1) ?_
    rw [hTs]
    refine ⟨by simp [-Xa,hl,g0,g2,g3,g4,g5,g6,g7,g12,hatT.hf,hTX,hw,hw2,hw3],?_⟩
    simp [-Xa,hl,g0,g2,g3,g4,g5,g6,g7,g12,hw,hlV]
    exact ⟨⟨m+1,by simp,by omega,acc3.1,acc3.2,⟨g++[.dead,.dead],by simp⟩,hF2⟩,by omega⟩
  ·have hge':¬ (m:Int)<r.men:=by omega
   rw [Vds hge] at hF2
   simp [hl,g0,g2,g3,g4,g5,g6,g7,g12,hatT.hr,hge']
   rw [show acc2=F by simpa using hF2] at hT
   rw [← hT]
   exact ⟨_,g,rfl,Ub2 _ _ _ _,Ybr σ pM pb F,_,Xbb,rfl,rfl⟩
end Ab

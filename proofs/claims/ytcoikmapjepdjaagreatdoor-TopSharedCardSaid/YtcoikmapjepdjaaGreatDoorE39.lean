/-
  Texts packed for a claim.
-/
import Derived.Test.YtcoikmapjepdjaaGreatDoorE00
import Derived.Test.YtcoikmapjepdjaaGreatDoorE18
import Derived.Test.YtcoikmapjepdjaaGreatDoorE37
import Derived.Test.YtcoikmapjepdjaaGreatDoorE38
set_option linter.all false
namespace Ab
open Go Go.RowKit Go.Proofs
theorem ShAcc.more {b g:Za} {K:Nat} {vs:List AV} {F:Nat→List Int} {os:Nat→Option Nat} (h:ShAcc b g K vs F os) (x:Za):ShAcc b (g++x) K vs F os:=by
 refine ⟨h.len,fun n hn=>?_,h.dis⟩
 obtain ⟨v,hv,hA⟩:=h.acc n hn
 exact ⟨v,hv,hA.kept (o:=none) (fun j _ hj=>Qzl hj) (fun j e=>by cases e)⟩
theorem Yh4 (z:Nat) (σ:Za) (r:Rl) (most:Int) (vs:List AV) (ld:Nat→Int) (X:Za):(dkB z σ r most vs ld++X)[σ.length]? = some (.cells [.int .i64 r.men,.pl 2 (r.ntcs.map Ub)]):=by simp [dkB]
theorem Vb9 (z:Nat) (σ:Za) (r:Rl) (most:Int) (vs:List AV) (ld:Nat→Int) (X:Za):∃ g,dkB z σ r most vs ld++X=σ++g:=⟨_,by unfold dkB;rw [List.append_assoc]⟩
theorem ShAcc.fresh {σ g:Za} {K:Nat} {vs:List AV} {s:DS} {os:Nat→Option Nat} (h:ShAcc (dkZ σ) g K vs s.F os):DkSt σ K (g++[.map []]) vs os g.length s.fresh :=
 ⟨h.more _,by simp;rfl,fun x hx e=>by have:=h.lt hx e;omega⟩
theorem Wj (t:List AV) (m:List Nat) (d:Nat) (v:AV):Env.put { t:=t,m:=m } (some d) v={ t:=ts t d v,m:=m }:=rfl
theorem Yj (t:List AV) (m:List Nat) (v:AV):Env.put { t:=t,m:=m } none v={ t:=t,m:=m }:=rfl
def shV:List (List Nat):=[[],[7],[4],[4,7],[7,4],[4,6],[4,7,6],[7,4,6],[4,6,7],[4,7,6,8],[7,4,6,8],[4,6,7,8]]
def shR (r:Rl) (n:Nat) (s:List Nat):Nat→AV
 | 0=>.agg [.int .i64 r.men,.pl 2 (r.ntcs.map Ub)]
 | 1=>.ptr n 1
 | 2=>.pl 2 (r.ntcs.map Ub)
 | 3=>.int .i64 r.ntcs.length
 | 4=>.arr 1 (n+(2+s.idxOf 4)) 0 r.ntcs.length
 | 5=>.agg [.int .i64 r.men,.pl 2 (r.ntcs.map Ub),.arr 1 (n+(2+s.idxOf 4)) 0 r.ntcs.length,.int .i64 0,.int .i64 0,.int .i64 0,.int .i64 0,.int .i64 0]
 | 6=>.ptr (n+(2+s.idxOf 6)) 0
 | 7=>.ptr (n+(2+s.idxOf 7)) 0
 | _=>.any
def shO (r:Rl) (n:Nat) (s:List Nat):Nat→AObj
 | 4=>.cells (List.replicate r.ntcs.length .nils)
 | 6=>.cells [.int .i64 r.men,.pl 2 (r.ntcs.map Ub),.arr 1 (n+(2+s.idxOf 4)) 0 r.ntcs.length,.int .i64 0,.int .i64 0,.int .i64 0,.int .i64 0,.int .i64 0]
 | 7=>.cells [if 8∈s then .ptr (n+(2+s.idxOf 6)) 0 else .nilp]
 | _=>.dead
def shS (r:Rl) (σ:Za) (most:Int) (s:List Nat):Za:=σ++(.cells [.int .i64 r.men,.pl 2 (r.ntcs.map Ub)]::.cells [.int .i64 most]::(s.filter (· != 8)).map (shO r σ.length s))
def SjA (z:Nat) (r:Rl) (most:Int) (σ:Za) (K:Nat) (res:Option DS) (env:Env) (σ':Za):Prop:=∃ (u:List AV) (i:Nat) (s:DS) (g:Za) (vs:List AV) (os:Nat→Option Nat),env={ t:=u }∧u.length=57∧tg u 6=.ptr (σ.length+pC z) 0∧tg u 7=.ptr (σ.length+5) 0∧tg u 22=.pl 2 (r.ntcs.map Ub)∧tg u 23=.int .i64 K∧tg u 24=.int .i64 i∧i≤K ∧
 σ'=dkB z σ r most vs s.ld++g∧ShAcc (dkZ σ) g K vs s.F os∧DR r s∧shN r most ((List.range K).drop i) s=res
def SjB (z:Nat) (r:Rl) (most:Int) (σ:Za) (K:Nat) (res:Option DS) (i T:Nat) (env:Env) (σ':Za):Prop:=∃ (u:List AV) (j:Nat) (s:DS) (g:Za) (vs:List AV) (os:Nat→Option Nat),env={ t:=u }∧u.length=57∧tg u 6=.ptr (σ.length+pC z) 0∧tg u 7=.ptr (σ.length+5) 0∧tg u 8=.int .i64 i∧tg u 22=.pl 2 (r.ntcs.map Ub)∧tg u 23=.int .i64 K∧tg u 24=.int .i64 i∧tg u 30=.int .i64 T∧tg u 31=.int .i64 j∧j≤T ∧
 σ'=dkB z σ r most vs s.ld++g∧ShAcc (dkZ σ) g K vs s.F os∧DR r s∧(match shT r most i (T - j) s with
  | some s'=>shN r most ((List.range K).drop (i+1)) s'
  | none=>none)=res
def SjC (z:Nat) (r:Rl) (most:Int) (σ:Za) (K:Nat) (s:DS) (env:Env) (σ':Za):Prop:=∃ (u:List AV) (i:Nat) (F:Nat→List Int) (g:Za) (vs:List AV) (os:Nat→Option Nat),env={ t:=u }∧u.length=57∧tg u 6=.ptr (σ.length+pC z) 0∧tg u 44=.arr 1 (σ.length+pS z) 0 K∧tg u 45=.int .i64 K∧tg u 46=.int .i64 i∧i≤K ∧
 σ'=dkB z σ r most vs s.ld++g∧ShAcc (dkZ σ) g K vs F os∧(∀ n,n<K→(F n).Perm (s.F n))∧∀ n,n<i→(F n).Pairwise (·≤·)
attribute [local irreducible] aws awp aw1 Og Om Oc Oa Ogd Ov Ot awd Ua awh Xb Ogh Ohd awl Ogl Ohl awv Ogv Ohv Wb Vb QFn Zc Vg QRo QBe Yf Yg ACode AYield dkB dkL
set_option maxRecDepth 20000 in
set_option maxHeartbeats 8000000 in
theorem Zd3 {r:Rl} (ok:r.Ok) (most:Int) (hmost:-1000≤most∧most≤1000) (σ:Za) :
  ACalls Tryz.prog 148 [Ug r,.int .i64 most] σ fun v s=>(match Xt r most with
   | none=>v=.tup [.nils,.bool false]
   | some s'=>∃ S:List (List Int),v=.tup [Uj S,.bool true]∧S.length=r.ntcs.length∧∀ (n:Nat) (l:List Int),S[n]? = some l→l.Perm (s'.F n)∧l.Pairwise (·≤·))∧s=σ:=by
 refine ACalls.forgetT ?_
 refine Yb Tryz.func148 rfl (Zb Tryz.func148 (by decide) rfl) ?_
 have hK6:r.ntcs.length≤6:=ok.few
 have hKm:(r.ntcs.map Ub).length=r.ntcs.length:=by simp
 simp [-Xa,Tryz.ntmps148,Ug]
 have hm1:(r.ntcs.length:Int)*24≤281474976710656:=by omega
 have hm2:(r.ntcs.length:Int)≤9223372036854775807:=by omega
 have ix1:List.idxOf 4 [7,4]=1:=rfl
 have ix2:List.idxOf 4 [7,4,6]=1:=rfl
 have ix3:List.idxOf 6 [4,7,6]=2:=rfl
 have ix4:List.idxOf 6 [7,4,6]=2:=rfl
 have ix5:List.idxOf 6 [4,6]=1:=rfl
 have ix6:List.idxOf 6 [4,6,7]=1:=rfl
 have ix7:List.idxOf 4 [7,4,6,8]=1:=rfl
 have ix8:List.idxOf 6 [7,4,6,8]=2:=rfl
 have iz1:List.idxOf 7 [4,7,6]=1:=rfl
 have iz2:List.idxOf 7 [7,4,6]=0:=rfl
 have iz3:List.idxOf 7 [4,7,6,8]=1:=rfl
 have iz4:List.idxOf 7 [7,4,6,8]=0:=rfl
 have iz5:List.idxOf 7 [4,6,7,8]=2:=rfl
 have iy1:List.idxOf 7 [7]=0:=rfl
 have iy2:List.idxOf 7 [4,7]=1:=rfl
 have iy3:List.idxOf 7 [4,6,7]=2:=rfl
 have iy4:List.idxOf 6 [4,7,6,8]=2:=rfl
 have iy5:List.idxOf 6 [4,6,7,8]=1:=rfl
 have iy6:List.idxOf 4 [4,7]=0:=rfl
 have iy7:List.idxOf 4 [4,6]=0:=rfl
 have iy8:List.idxOf 4 [4,6,7]=0:=rfl
 have iy9:List.idxOf 4 [4,7,6]=0:=rfl
 have iy10:List.idxOf 4 [4,7,6,8]=0:=rfl
 have iy11:List.idxOf 4 [4,6,7,8]=0:=rfl
 have iy12:List.idxOf 4 [4]=0:=rfl
 refine Vbo mixed [4,6,7,8] (fun s=>s∈shV) (shR r σ.length) (shS r σ most) (by kernel_rfl) (by decide) ⟨by decide,by simp [shS],?_,?_,?_⟩ ?_
 ·intro i o s ho hi hs hb ha
  have hi9:i<9:=(Qzs.1 ho).1
  refine .inl ?_
  have h:i=0∨i=1∨i=2∨i=3∨i=5:=by simp at hi;omega
  rcases h with rfl | rfl | rfl | rfl | rfl
  ·simp only [List.getElem?_cons_zero,Option.some.injEq] at ho
   subst ho
   refine ⟨rfl,.inr ?_⟩
   simp [Va,shS,shR]
  ·simp at ho
   subst ho
   refine ⟨rfl,.inr ?_⟩
   simp [Va,shS,shR,tr,Wj,Yj]
  ·simp at ho
   subst ho
   refine ⟨rfl,.inr ?_⟩
   simp [Va,shS,shR,tr,Wj,Yj]
  ·simp at ho
   subst ho
   refine ⟨rfl,.inr ?_⟩
   simp [Va,shS,shR,tr,Wj,Yj]
  ·simp at ho
   subst ho
   refine ⟨rfl,.inr ?_⟩
   simp [Va,shS,shR,tr,Wj,Yj]
 ·intro i o s ho hi hs his hb
  simp only [List.mem_cons,List.not_mem_nil,or_false] at hi
  have b4:i=6∨i=8→4∈s:=by
   rintro (rfl | rfl)
   ·exact hb 4 (by decide) (by decide)
   ·exact hb 4 (by decide) (by decide)
  have b6:i=8→6∈s:=by
   rintro rfl
   exact hb 6 (by decide) (by decide)
  have b7:i=8→7∈s:=by
   rintro rfl
   exact hb 7 (by decide) (by decide)
  clear hb
  rcases hi with rfl | rfl | rfl | rfl
  ·simp at ho
   subst ho
   have:s=[]∨s=[7]:=by
    simp [shV] at hs
    rcases hs with rfl | rfl | rfl | rfl | rfl | rfl | rfl | rfl | rfl | rfl | rfl | rfl<;>simp at his ⊢
   rcases this with rfl | rfl
   ·refine ⟨by decide,.inl ⟨rfl,?_⟩⟩
    simp [Va,shS,shR,shO,tr,Wj,Yj,hm1,hm2,ix1,ix2,ix3,ix4,ix5,ix6,ix7,ix8,iy1,iy2,iy3,iy4,iy5,iy6,iy7,iy8,iy9,iy10,iy11,iy12,iz1,iz2,iz3,iz4,iz5]
   ·refine ⟨by decide,.inl ⟨rfl,?_⟩⟩
    simp [Va,shS,shR,shO,tr,Wj,Yj,hm1,hm2,ix1,ix2,ix3,ix4,ix5,ix6,ix7,ix8,iy1,iy2,iy3,iy4,iy5,iy6,iy7,iy8,iy9,iy10,iy11,iy12,iz1,iz2,iz3,iz4,iz5]
  ·simp at ho
   subst ho
   have c4:=b4 (by decide)
   have:s=[4]∨s=[4,7]∨s=[7,4]:=by
    simp [shV] at hs
    rcases hs with rfl | rfl | rfl | rfl | rfl | rfl | rfl | rfl | rfl | rfl | rfl | rfl<;>simp at his c4 ⊢
   rcases this with rfl | rfl | rfl
   ·refine ⟨by decide,.inl ⟨rfl,?_⟩⟩
    simp [Va,shS,shR,shO,tr,Wj,Yj,hm1,hm2,ix1,ix2,ix3,ix4,ix5,ix6,ix7,ix8,iy1,iy2,iy3,iy4,iy5,iy6,iy7,iy8,iy9,iy10,iy11,iy12,iz1,iz2,iz3,iz4,iz5]
   ·refine ⟨by decide,.inl ⟨rfl,?_⟩⟩
    simp [Va,shS,shR,shO,tr,Wj,Yj,hm1,hm2,ix1,ix2,ix3,ix4,ix5,ix6,ix7,ix8,iy1,iy2,iy3,iy4,iy5,iy6,iy7,iy8,iy9,iy10,iy11,iy12,iz1,iz2,iz3,iz4,iz5]
   ·refine ⟨by decide,.inl ⟨rfl,?_⟩⟩
    simp [Va,shS,shR,shO,tr,Wj,Yj,hm1,hm2,ix1,ix2,ix3,ix4,ix5,ix6,ix7,ix8,iy1,iy2,iy3,iy4,iy5,iy6,iy7,iy8,iy9,iy10,iy11,iy12,iz1,iz2,iz3,iz4,iz5]
  ·simp at ho
   subst ho
   have:s=[]∨s=[4]∨s=[4,6]:=by
    simp [shV] at hs
    rcases hs with rfl | rfl | rfl | rfl | rfl | rfl | rfl | rfl | rfl | rfl | rfl | rfl<;>simp at his ⊢
   rcases this with rfl | rfl | rfl
   ·refine ⟨by decide,.inl ⟨rfl,?_⟩⟩
    simp [Va,shS,shR,shO,tr,Wj,Yj,hm1,hm2,ix1,ix2,ix3,ix4,ix5,ix6,ix7,ix8,iy1,iy2,iy3,iy4,iy5,iy6,iy7,iy8,iy9,iy10,iy11,iy12,iz1,iz2,iz3,iz4,iz5]
   ·refine ⟨by decide,.inl ⟨rfl,?_⟩⟩
    simp [Va,shS,shR,shO,tr,Wj,Yj,hm1,hm2,ix1,ix2,ix3,ix4,ix5,ix6,ix7,ix8,iy1,iy2,iy3,iy4,iy5,iy6,iy7,iy8,iy9,iy10,iy11,iy12,iz1,iz2,iz3,iz4,iz5]
   ·refine ⟨by decide,.inl ⟨rfl,?_⟩⟩
    simp [Va,shS,shR,shO,tr,Wj,Yj,hm1,hm2,ix1,ix2,ix3,ix4,ix5,ix6,ix7,ix8,iy1,iy2,iy3,iy4,iy5,iy6,iy7,iy8,iy9,iy10,iy11,iy12,iz1,iz2,iz3,iz4,iz5]
  ·simp at ho
   subst ho
   have c4:=b4 (by decide)
   have c6:=b6 rfl
   have c7:=b7 rfl
   have:s=[4,7,6]∨s=[7,4,6]∨s=[4,6,7]:=by
    simp [shV] at hs
    rcases hs with rfl | rfl | rfl | rfl | rfl | rfl | rfl | rfl | rfl | rfl | rfl | rfl<;>simp at his c4 c6 c7 ⊢
   rcases this with rfl | rfl | rfl
   ·refine ⟨by decide,.inl ⟨rfl,?_⟩⟩
    simp [Va,shS,shR,shO,tr,Wj,Yj,hm1,hm2,ix1,ix2,ix3,ix4,ix5,ix6,ix7,ix8,iy1,iy2,iy3,iy4,iy5,iy6,iy7,iy8,iy9,iy10,iy11,iy12,iz1,iz2,iz3,iz4,iz5]
   ·refine ⟨by decide,.inl ⟨rfl,?_⟩⟩
    simp [Va,shS,shR,shO,tr,Wj,Yj,hm1,hm2,ix1,ix2,ix3,ix4,ix5,ix6,ix7,ix8,iy1,iy2,iy3,iy4,iy5,iy6,iy7,iy8,iy9,iy10,iy11,iy12,iz1,iz2,iz3,iz4,iz5]
   ·refine ⟨by decide,.inl ⟨rfl,?_⟩⟩
    simp [Va,shS,shR,shO,tr,Wj,Yj,hm1,hm2,ix1,ix2,ix3,ix4,ix5,ix6,ix7,ix8,iy1,iy2,iy3,iy4,iy5,iy6,iy7,iy8,iy9,iy10,iy11,iy12,iz1,iz2,iz3,iz4,iz5]
 ·intro s i j hs hs' hi his hbi hji hb hj
  have ap:∀ k,k∈s→(s++[i]).idxOf k=s.idxOf k:=fun k hk=>by rw [List.idxOf_append,if_pos hk]
  match j,hb,hj with
  | 0,_,_=>rfl
  | 1,_,_=>rfl
  | 2,_,_=>rfl
  | 3,_,_=>rfl
  | 4,_,hj=>simp only [shR];rw [ap 4 (hj (by decide))]
  | 5,hb,_=>simp only [shR];rw [ap 4 (hb 4 (by decide) (by decide))]
  | 6,_,hj=>simp only [shR];rw [ap 6 (hj (by decide))]
  | 7,_,hj=>simp only [shR];rw [ap 7 (hj (by decide))]
  | j+8,_,_=>rfl
 ·intro s hs hall
  obtain ⟨z,hz,hzz⟩:∃ z,s=(match z with | 0=>[4,6,7,8] | 1=>[4,7,6,8] | _=>[7,4,6,8])∧z<3:=by
   have c8:=hall 8 (by decide)
   simp [shV] at hs
   rcases hs with rfl | rfl | rfl | rfl | rfl | rfl | rfl | rfl | rfl | rfl | rfl | rfl<;>simp at c8
   ·exact ⟨1,rfl,by omega⟩
   ·exact ⟨2,rfl,by omega⟩
   ·exact ⟨0,rfl,by omega⟩
  have hS:shS r σ most s=σ++(.cells [.int .i64 r.men,.pl 2 (r.ntcs.map Ub)]::.cells [.int .i64 most]::dk3 z (.cells (List.replicate r.ntcs.length .nils)) (.cells (dkL z r σ.length fun _=>0)) (.cells [.ptr (σ.length+pD z) 0])):=by
   subst hz
   match z,hzz with
   | 0,_=>simp [shS,shO,dk3,dkL,pS,pD,iy5,iy11,iy12]
   | 1,_=>simp [shS,shO,dk3,dkL,pS,pD,iy4,iy10]
   | 2,_=>simp [shS,shO,dk3,dkL,pS,pD,ix7,ix8]
  have h7:shR r σ.length s 7=.ptr (σ.length+pC z) 0:=by
   subst hz
   match z,hzz with
   | 0,_=>simp [shR,pC,iz5]
   | 1,_=>simp [shR,pC,iz3]
   | 2,_=>simp [shR,pC,iz4]
  have hSB:shS r σ most s++[.cells [Yu z σ.length]]=dkB z σ r most (List.replicate r.ntcs.length .nils) (fun _=>0):=by
   rw [hS]
   unfold dkB
   rw [List.append_assoc]
   rfl
  obtain ⟨S1,hS1⟩:∃ S1,shS r σ most s=S1:=⟨_,rfl⟩
  have hSl:S1.length=σ.length+5:=by
   have:=congrArg List.length hSB
   rw [Vn,hS1,List.length_append] at this
   simpa using this
  rw [hS1] at hSB ⊢
  simp [-Xa,Va,tr,Wj,Yj,h7,hSl]
  have hrf:Yu z σ.length=.fn (.func 224) [] [.ptr (σ.length+pC z) 0,.ptr (σ.length+1) 0]:=rfl
  rw [← hrf,hSB]
  have hb0:=Yh4 z σ r most (List.replicate r.ntcs.length .nils) (fun _=>0) []
  rw [List.append_nil] at hb0
  clear hS h7 hSB hS1 hSl S1 hall hs hz ix1 ix2 ix3 ix4 ix5 ix6 ix7 ix8 iy1 iy2 iy3 iy4 iy5 iy6 iy7 iy8 iy9 iy10 iy11 iy12 iz1 iz2 iz3 iz4 iz5
  simp [-Xa,hb0]
  refine Wd (SjA z r most σ r.ntcs.length (Xt r most)) (fun env _=>match tg env.t 24 with | .int _ i=>r.ntcs.length - i.toNat | _=>0) ⟨_,0,DS.zero,[],List.replicate r.ntcs.length .nils,fun _=>none,rfl,by simp,by simp,by simp,by simp,by simp,by simp,by omega,by rw [List.append_nil];rfl,⟨by simp,fun n hn=>⟨.nils,by simp [hn],Acc.nil _ _ _⟩,fun _ _ _ _ _ _ e=>by cases e⟩,DR.zero r,rfl⟩ ?_
  clear hb0
  rintro env _ ⟨u,i,s,g,vs,os,rfl,hl,g6,g7,g22,g23,g24,hi,rfl,hA,hI,hrest⟩
  rcases Qzn i r.ntcs.length with hlt | hge
  ·have hlt':(i:Int)<(r.ntcs.length:Int):=by omega
   have hx1:=w64 (n:=(i:Int)+1) (by omega) (by omega)
   obtain ⟨x,hx,hxo⟩:=Zag ok hlt
   have hil:i<(r.ntcs.map Ub).length:=by simpa using hlt
   have hng:(r.ntcs.map Ub)[i]'hil=.agg [.int .i64 x.times,.pl 1 (Ya x.men)]:=by
    obtain ⟨h1,h2⟩:=Qzs.1 hx
    simp [h2,Ub]
   have hdrop:(List.range r.ntcs.length).drop i=i::(List.range r.ntcs.length).drop (i+1):=by rw [List.drop_eq_getElem_cons (by simpa using hlt),List.getElem_range]
   rw [hdrop,shN] at hrest
   have ht1:=hxo.t1
   have ht3:=hxo.t3
   obtain ⟨T,hT⟩:∃ T:Nat,x.times=T:=⟨x.times.toNat,by omega⟩
   have hTF:Zac r i=T:=by rw [Zan hx];omega
   rw [hTF] at hrest
   rw [hT] at hng
   have hgx:∀ (y:AObj) (X:Za),(dkB z σ r most vs s.ld++(g++y::X))[σ.length+6+g.length]? = some y:=fun y X=>by rw [Wac];simp
   simp [-Xa,hl,g6,g7,g22,g23,g24,hlt,hlt',hil,hng,Vn]
   refine Wd (SjB z r most σ r.ntcs.length (Xt r most) i T) (fun env _=>match tg env.t 31 with | .int _ i=>T - i.toNat | _=>0) ⟨_,0,s,_,vs,os,rfl,by simp [hl],by simp [hl,g6],by simp [hl,g7],by simp [hl],by simp [hl,g22],by simp [hl,g23],by simp [hl,g24],by simp [hl],by simp [hl],by omega,rfl,hA.more _,hI,hrest⟩ ?_
   clear hl g6 g7 g22 g23 g24 hA hI hrest hgx hdrop
   rintro env _ ⟨u,j,s,g,vs,os,rfl,hl,g6,g7,g8,g22,g23,g24,g30,g31,hj,rfl,hA,hI,hrest⟩
   rcases Qzn j T with hlt2 | hge2
   ·have hlt2':(j:Int)<(T:Int):=by omega
    have hx2:=w64 (n:=(j:Int)+1) (by omega) (by omega)
    rw [show T - j=(T - (j+1))+1 by omega,shT] at hrest
    have hfr:=hA.fresh
    have cP:=Wg5 ok z most hmost σ 6 i g.length (g++[.map []]) vs os s.fresh hlt hfr hI.fresh (by have:=ok.m5;show _<([]:List Int).length+6;simp;omega)
    have hS:=Va6 ok (most:=most) hlt hI
    have hpl:plD (Ue r) most r.ntcs.length 6 i s.fresh=plR r most i s:=rfl
    rw [hpl] at cP
    have hldf:s.fresh.ld=s.ld:=rfl
    rw [hldf] at cP
    simp [-Xa,hl,g6,g7,g8,g22,g23,g24,g30,g31,hlt2,hlt2',Ua3,Wf1,Vn]
    refine StA.of (cP.mono ?_)
    rcases hP:plR r most i s with ⟨b,s'⟩
    rw [hP] at hS hrest
    rintro _ _ ⟨rfl,vs',g',os',rfl,hst5,hkp5⟩
    dsimp only at hS hrest hst5 ⊢
    cases b with
    | true =>
     simp [-Xa,hl,g6,g7,g8,g22,g23,g24,g30,g31,hx2]
     exact ⟨⟨_,j+1,s',g',vs',os',rfl,by simp [hl],by simp [hl,g6],by simp [hl,g7],by simp [hl,g8],by simp [hl,g22],by simp [hl,g23],by simp [hl,g24],by simp [hl,g30],by simp [hl],hlt2,rfl,hst5.sh,hS.inv,hrest⟩,by omega⟩
    | false =>
     simp [-Xa,hl,g6,g7,g8,g22,g23,g24,g30,g31,hx2]
     obtain ⟨X,hX⟩:=Vb9 z σ r most vs' s'.ld g'
     refine ⟨σ,X,hX,rfl,fun r o h=>.inl h,.tup [.nils,.bool false],Xbd .nils (.bool _),by rw [← hrest],rfl⟩
   ·obtain rfl:j=T:=by omega
    rw [Nat.sub_self,shT] at hrest
    simp [-Xa,hl,g6,g7,g8,g22,g23,g24,g30,g31,hx1]
    exact ⟨⟨_,i+1,s,g,vs,os,rfl,by simp [hl],by simp [hl,g6],by simp [hl,g7],by simp [hl,g22],by simp [hl,g23],by simp [hl],hlt,rfl,hA,hI,hrest⟩,by omega⟩
  ·obtain rfl:i=r.ntcs.length:=by omega
   rw [List.drop_eq_nil_of_le (by simp),shN] at hrest
   rw [← hrest]
   obtain ⟨hsI,hsL⟩:=Ube ok _ _ _ List.nodup_range (fun n hn=>List.mem_range.1 hn) (DR.zero r) hrest.symm
   simp [-Xa,hl,g6,g7,g22,g23,g24,Ua3,Xu,Ut,Xz]
   refine Wd (SjC z r most σ r.ntcs.length s) (fun env _=>match tg env.t 46 with | .int _ i=>r.ntcs.length - i.toNat | _=>0) ⟨_,0,s.F,g,vs,os,rfl,by simp [hl],by simp [hl,g6],by simp [hl],by simp [hl],by simp [hl],by omega,rfl,hA,fun _ _=>.refl _,fun _ h=>by omega⟩ ?_
   clear hl g6 g7 g22 g23 g24 hA
   rintro env _ ⟨u,i,F,g,vs,os,rfl,hl,g6,g44,g45,g46,hi,rfl,hA,hpm,hsr⟩
   rcases Qzn i r.ntcs.length with hlt | hge
   ·have hlt':(i:Int)<(r.ntcs.length:Int):=by omega
    have hx1:=w64 (n:=(i:Int)+1) (by omega) (by omega)
    have hvl:=hA.len
    have hnv:i<vs.length:=by omega
    have hnv1:i+1≤vs.length:=hnv
    obtain ⟨v,hv,hAi⟩:=hA.acc i hlt
    have hve:vs[i]'hnv=v:=Option.some.inj ((Qze hnv).symm.trans hv)
    simp [-Xa,hl,g6,g44,g45,g46,hlt,hlt',Xaa,hnv,hnv1,hve,hv]
    have hFl:=(hpm i hlt).length_eq
    have hl5:=hI.len ok hlt
    obtain ⟨j,hj⟩:∃ j,os i=some j:=by
     cases ho:os i with
     | some j=>exact ⟨j,rfl⟩
     | none =>
      exfalso
      rw [ho] at hAi
      have h0:F i=[]:=by simpa [Ya] using hAi.val.2
      have h1:=hsL i hlt
      obtain ⟨x,hx,hxo⟩:=Zag ok hlt
      rw [if_pos (List.mem_range.2 hlt),Zan hx,show DS.zero.F i=[] from rfl] at h1
      have:=hxo.t1
      rw [h0] at hFl
      simp at h1 hFl
      omega
    have hAv:=hAi.val
    rw [hj,Xai,Vy (fun y hy=>by obtain ⟨z,_,rfl⟩:=List.mem_map.1 hy;rfl),Xy] at hAv
    obtain ⟨rfl,hgj⟩:=hAv
    have hsort:=Wbc (dkB z σ r most vs s.ld++g) (σ.length+6+j) (F i) [] (by rw [Wac,List.append_nil];exact hgj) (by omega)
    refine StA.of (hsort.mono ?_)
    rintro _ _ ⟨q,hqp,hqs,rfl⟩
    rw [Ybl,List.append_nil]
    have hlay:=hA.lay hlt hj (m:=q) hqp.length_eq
    simp [-Xa,hl,g6,g44,g45,g46,hx1]
    exact ⟨⟨_,i+1,_,_,vs,os,rfl,by simp [hl],by simp [hl,g6],by simp [hl,g44],by simp [hl,g45],by simp [hl],hlt,rfl,hlay,fun n hn=>(by
     by_cases e:n=i
     ·subst e;simp only [if_pos rfl];exact hqp.trans (hpm n hn)
     ·simp only [if_neg e];exact hpm n hn),fun n hn=>(by
     by_cases e:n=i
     ·subst e;simp only [if_pos rfl];exact hqs
     ·simp only [if_neg e];exact hsr n (by omega))⟩,by omega⟩
   ·obtain rfl:i=r.ntcs.length:=by omega
    simp [-Xa,hl,g6,g44,g45,g46,Ua3,Xu,Ut,Xz]
    obtain ⟨X,hX⟩:=Vb9 z σ r most vs s.ld g
    have hps:2≤pS z:=by match z with | 0=>simp [pS] | 1=>simp [pS] | z+2=>simp [pS]
    have hz:=Uhq (n:=σ.length) (S:=dkB z σ r most vs s.ld++g) (r:=σ.length+pS z) (cs:=vs) (R:=(List.range r.ntcs.length).map F) (by omega) (Xaa _ _ _ _ _ _ _) fun k l hk=>by
     rw [Qzp,Qzm] at hk
     obtain ⟨k',hk',rfl⟩:=hk
     obtain ⟨hkl,hke⟩:=Qzs.1 hk'
     rw [List.getElem_range] at hke
     subst hke
     rw [List.length_range] at hkl
     obtain ⟨v,hv,hAk⟩:=hA.acc k hkl
     exact ⟨v,hv,Ubv (hAk.base (σ':=dkB z σ r most vs s.ld) (by rw [Vn,Xai])) (by rw [Vn];omega)⟩
    rw [List.length_map,List.length_range] at hz
    refine ⟨σ,X,hX,rfl,fun r o h=>.inl h,.tup [Uj ((List.range r.ntcs.length).map F),.bool true],Xbd hz (.bool _),?_,rfl⟩
    refine ⟨_,rfl,by simp,fun n l hn=>?_⟩
    rw [Qzp,Qzm] at hn
    obtain ⟨k,hk,rfl⟩:=hn
    obtain ⟨hkl,hke⟩:=Qzs.1 hk
    rw [List.getElem_range] at hke
    subst hke
    rw [List.length_range] at hkl
    exact ⟨hpm n hkl,hsr n hkl⟩
end Ab

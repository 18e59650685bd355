/-
  Texts packed for a claim.
-/
import Derived.Test.YtcoikmapjepdjaaGreatDoorO00
import Derived.Test.YtcoikmapjepdjaaGreatDoorO29
import Derived.Test.YtcoikmapjepdjaaGreatDoorO28
set_option linter.all false
namespace Ab
open Go Go.RowKit Go.Proofs
attribute [local irreducible] aws awp aw1 Og Om Oc Oa Ogd Ov Ot awd Zb awh Wb Ogh Ohd awl Ogl Ohl awv Ogv Ohv Xb Vb QFn Ub QRo QBe ACode AYield
end Ab
namespace Ab
open Go Go.RowKit Go.Proofs
attribute [local irreducible] aws awp aw1 Og Om Oc Oa Ogd Ov Ot awd Zb awh Wb Ogh Ohd awl Ogl Ohl awv Ogv Ohv Xb Vb QFn Ub Xi QRo QBe ACode AYield Ws
theorem Xfj {b:Bk}:∀ e∈Xd b,e.1.length=24:=fun e he=>by
 obtain ⟨x,hx,rfl⟩:=Xbq e he
 exact (Ubj b _ x hx).got
theorem Wdo {b:Bk} (ok:b.Ok):(Xd b).length≤2^24:=by
 have h1:=Wca (Zj b b.reads.length)
 have h2:=Yb0 b b.reads.length
 exact Nat.le_trans h1 (Nat.le_trans h2 (Nat.le_trans (Nat.pow_le_pow_right (by omega) ok.reads.2) (by decide)))
theorem Wdr (n:Nat) (S:Za) (l:Ends):Fz n S (.pl 25 (l.map Wh)) (.pl 25 (l.map Wh)):=.pl 25 _ fun i x hx j y hy=>by
 obtain ⟨e,he,rfl⟩:=List.mem_map.1 (Qzg hx)
 rcases List.mem_append.1 (show y∈e.1.map AV.bool++[.pl 1 (Zh e.2)] from Qzg hy) with hy | hy
 ·obtain ⟨z,_,rfl⟩:=List.mem_map.1 hy;exact .bool _
 ·rw [List.mem_singleton.1 hy]
  refine .pl 1 _ fun i x hx j y hy=>?_
  obtain ⟨z,_,rfl⟩:=List.mem_map.1 (Qzg hx)
  cases j with
  | zero=>simp [AV.cells] at hy;subst hy;exact .int _ _
  | succ j=>simp [AV.cells] at hy
theorem Zev (b:Bk) (ok:b.Ok) (hn:Xd b≠[]):APure Tryz.prog 128 [Zd b] (.tup [.any,.pl 25 ((Xd b).map Wh),.int .i64 0]):=by
 refine APure.of fun σ=>?_
 refine Yb Tryz.func128 rfl (Ua Tryz.func128 (by decide) rfl) ?_
 have hne:¬ (Xd b).length=0:=fun h=>hn (List.eq_nil_of_length_eq_zero h)
 simp [Tryz.ntmps128,Zd]
 refine StA.of ((Vfn b ok _).mono ?_)
 rintro _ _ ⟨rfl,rfl⟩
 simp
 refine StA.of ((Ygp b ok _ _ (by rw [Qzr (by omega)];simp [Nat.add_assoc])).mono ?_)
 rintro _ _ ⟨rfl,rfl⟩
 simp [hne]
 exact ⟨.any _,Wdr _ _ _⟩
end Ab
namespace Ab
open Go Go.RowKit Go.Proofs
def Xw (r:List Int):AV:=.pl 1 (r.map fun x=>AV.int .i64 x)
def Wv (l:Ends) (hs ns h:Nat):List AV:=(List.range hs).map fun j=>if j<h then Xw ((List.range ns).map fun n=>Xq l j n) else .nils
theorem Ze3 (n:Nat) (S:Za) (r:List Int):Fz n S (Xw r) (Xw r):=.pl 1 _ fun i x hx j y hy=>by
 obtain ⟨z,_,rfl⟩:=List.mem_map.1 (Qzg hx)
 cases j with
 | zero=>simp [AV.cells] at hy;subst hy;exact .int _ _
 | succ j=>simp [AV.cells] at hy
def VdO (b:Bk) (H N:Nat) (σ:Za) (env:Env) (σ':Za):Prop:=∃ (u:List AV) (h:Nat) (C:List AV) (g:Za),env={ t:=u }∧u.length=71∧tg u 1=.ptr σ.length 0∧tg u 5=.pl 25 ((Xd b).map Wh)∧tg u 7=.arr 1 (σ.length+1) 0 H∧tg u 27=.int .i64 (H:Int)∧tg u 28=.int .i64 h∧h≤H ∧
 σ'=(σ++[.cells (Zd b).cells])++(.cells C::g)∧C.length=H∧∀ (i:Nat) (x y:AV),C[i]? = some x→(Wv (Xd b) H N h)[i]? = some y→Vw (fun r=>decide ((σ++[AObj.cells (Zd b).cells]).length+1≤r)) ((σ++[.cells (Zd b).cells])++(.cells C::g)) x y
def VdM (b:Bk) (H N:Nat) (σ:Za) (h:Nat) (C:List AV) (dd:Za) (env:Env) (σ':Za):Prop:=∃ (u:List AV) (n:Nat) (v:AV) (g:Za) (o:Option Nat),env={ t:=u }∧u.length=71∧tg u 1=.ptr σ.length 0∧tg u 5=.pl 25 ((Xd b).map Wh)∧tg u 7=.arr 1 (σ.length+1) 0 H∧tg u 27=.int .i64 (H:Int)∧tg u 28=.int .i64 h∧tg u 8=.int .i64 h∧tg u 32=.int .i64 (N:Int)∧tg u 33=.int .i64 n∧n≤N ∧
 σ'=(σ++[.cells (Zd b).cells])++(.cells (C.set h v)::(dd++g))∧Acc ((σ++[.cells (Zd b).cells])++(.cells []::dd)) g 1 v (((List.range n).map fun k=>Xq (Xd b) h k).map fun x=>AV.int .i64 x) o
def VdK (b:Bk) (H N:Nat) (σ:Za) (h n:Nat) (T:Za) (env:Env) (σ':Za):Prop:=∃ (u:List AV) (i:Nat) (g:Za),env={ t:=u }∧u.length=71∧tg u 1=.ptr σ.length 0∧tg u 5=.pl 25 ((Xd b).map Wh)∧tg u 7=.arr 1 (σ.length+1) 0 H∧tg u 27=.int .i64 (H:Int)∧tg u 28=.int .i64 h∧tg u 8=.int .i64 h∧tg u 32=.int .i64 (N:Int)∧tg u 33=.int .i64 n∧tg u 9=.int .i64 n ∧
 tg u 10=.int .i64 (Uu ((Xd b).take i) (h*4+n):Nat)∧tg u 36=.pl 25 ((Xd b).map Wh)∧tg u 37=.int .i64 (Xd b).length∧tg u 38=.int .i64 i∧i≤(Xd b).length∧σ'=T++g
attribute [local irreducible] aws awp aw1 Og Om Oc Oa Ogd Ov Ot awd Zb awh Wb Ogh Ohd awl Ogl Ohl awv Ogv Ohv Xb Vb QFn Ub Xi QRo QBe ACode AYield Ws
set_option maxHeartbeats 2000000 in
theorem Zd4 (b:Bk) (ok:b.Ok) (hn:Xd b≠[]):APure Tryz.prog 47 [Zd b] (.tup [.pl 1 ((Yav (Xd b) b.houses.toNat b.notices.toNat).map Xw),.int .i64 0]):=by
 refine APure.of fun σ=>?_
 have hgot:=Xfj (b:=b)
 have hlen:=Wdo ok
 have hh:=ok.houses
 have hnn:=ok.notices
 obtain ⟨H,hH⟩:∃ H:Nat,b.houses.toNat=H:=⟨_,rfl⟩
 have hHi:b.houses=(H:Int):=by omega
 obtain ⟨N,hN⟩:∃ N:Nat,b.notices.toNat=N:=⟨_,rfl⟩
 have hNi:b.notices=(N:Int):=by omega
 rw [hH,hN]
 refine Yb Tryz.func47 rfl (Ua Tryz.func47 (by decide) rfl) ?_
 simp [Tryz.ntmps47,Zd]
 refine (Zev b ok hn).use ?_
 have h1:(0:Int)≤b.houses:=by omega
 have h2:b.houses*24≤281474976710656:=by omega
 have h3:b.houses≤9223372036854775807:=by omega
 simp [h1,h2,h3]
 rw [hH]
 obtain ⟨S,hS⟩:∃ S,σ++[AObj.cells (Zd b).cells]=S:=⟨_,rfl⟩
 have hSl:S.length=σ.length+1:=by rw [← hS];simp
 have hSb:∀ g:Za,(S++g)[σ.length]? = some (.cells (Zd b).cells):=fun g=>by rw [← hS];simp
 refine Wc2 (VdO b H N σ) (fun env _=>match tg env.t 28 with | .int _ i=>H - i.toNat | _=>0) ⟨_,0,List.replicate H .nils,[],rfl,by simp,by simp,by simp,by simp,by simp [hHi],by simp,by omega,by simp [Zd],by simp,fun i x y hx hy=>?_⟩ ?_
 ·refine .inl ?_
  rw [List.getElem?_replicate] at hx
  unfold Wv at hy
  rw [Qzp,Qzm] at hy
  obtain ⟨j,_,rfl⟩:=hy
  split at hx
  ·simp at hx;simp [← hx]
  ·cases hx
 rintro env _ ⟨u,h,C,g,rfl,hl,g1,g5,g7,g27,g28,hhH,rfl,hC,hz⟩
 rw [hS] at hz ⊢
 rcases Qzn h H with hlt | hge
 ·have hnl:(Wv (Xd b) H N h).length=C.length:=by rw [hC];simp [Wv]
  refine .inr ⟨_,_,Uc u [(1,.ptr σ.length 0),(5,.pl 25 ((Xd b).map Wh)),(7,.arr 1 (σ.length+1) 0 H),(27,.int .i64 (H:Int)),(28,.int .i64 h)],View.rows hnl hz,Yt _ _,Xaj (by
   simp only [List.mem_cons,List.not_mem_nil,or_false]
   rintro p (rfl | rfl | rfl | rfl | rfl)<;>dsimp only<;>first | (rw [g1];exact .inl rfl) | (rw [g5];exact .inl rfl) | (rw [g7];exact .inl rfl) | (rw [g27];exact .inl rfl) | (rw [g28];exact .inl rfl)),?_⟩
  have e0:(match tg u 28 with | .int _ i=>H - i.toNat | _=>0)=H - h:=by rw [g28];simp
  have hl2:=(Yt u [(1,.ptr σ.length 0),(5,.pl 25 ((Xd b).map Wh)),(7,.arr 1 (σ.length+1) 0 H),(27,.int .i64 (H:Int)),(28,.int .i64 h)]).trans hl
  have k1:tg (Uc u [(1,.ptr σ.length 0),(5,.pl 25 ((Xd b).map Wh)),(7,.arr 1 (σ.length+1) 0 H),(27,.int .i64 (H:Int)),(28,.int .i64 h)]) 1=.ptr σ.length 0:=by simp [Uc,hl]
  have k5:tg (Uc u [(1,.ptr σ.length 0),(5,.pl 25 ((Xd b).map Wh)),(7,.arr 1 (σ.length+1) 0 H),(27,.int .i64 (H:Int)),(28,.int .i64 h)]) 5=.pl 25 ((Xd b).map Wh):=by simp [Uc,hl]
  have k7:tg (Uc u [(1,.ptr σ.length 0),(5,.pl 25 ((Xd b).map Wh)),(7,.arr 1 (σ.length+1) 0 H),(27,.int .i64 (H:Int)),(28,.int .i64 h)]) 7=.arr 1 (σ.length+1) 0 H:=by simp [Uc,hl]
  have k27:tg (Uc u [(1,.ptr σ.length 0),(5,.pl 25 ((Xd b).map Wh)),(7,.arr 1 (σ.length+1) 0 H),(27,.int .i64 (H:Int)),(28,.int .i64 h)]) 27=.int .i64 (H:Int):=by simp [Uc,hl]
  have k28:tg (Uc u [(1,.ptr σ.length 0),(5,.pl 25 ((Xd b).map Wh)),(7,.arr 1 (σ.length+1) 0 H),(27,.int .i64 (H:Int)),(28,.int .i64 h)]) 28=.int .i64 h:=by simp [Uc,hl]
  obtain ⟨u',hu'⟩:∃ x,Uc u [(1,.ptr σ.length 0),(5,.pl 25 ((Xd b).map Wh)),(7,.arr 1 (σ.length+1) 0 H),(27,.int .i64 (H:Int)),(28,.int .i64 h)]=x:=⟨_,rfl⟩
  rw [hu'] at hl2 k1 k5 k7 k27 k28 ⊢
  dsimp only
  rw [e0]
  obtain ⟨dd,hdd⟩:∃ dd,g.map (fun _=>AObj.dead)=dd:=⟨_,rfl⟩
  obtain ⟨C0,hC0⟩:∃ C0,Wv (Xd b) H N h=C0:=⟨_,rfl⟩
  have hC0l:C0.length=H:=by rw [← hC0];simp [Wv]
  rw [hC0,hdd]
  have hlt':(h:Int)<(H:Int):=by omega
  have hb':=hSb (.cells C0::dd)
  obtain ⟨T,hT⟩:∃ T,S++(AObj.cells C0::dd)=T:=⟨_,rfl⟩
  rw [hT] at hb' ⊢
  simp [Zd] at hb'
  simp [-Xa,hl2,k1,k5,k7,k27,k28,hlt,hb']
  have hset0:C0.set h .nils=C0:=by
   apply List.ext_getElem?
   intro j
   rw [List.getElem?_set]
   split
   ·rename_i e
    subst e
    rw [if_pos (by omega),← hC0]
    simp [Wv,hlt]
   ·rfl
  refine Xc (VdM b H N σ h C0 dd) (fun env _=>match tg env.t 33 with | .int _ i=>N - i.toNat | _=>0) ⟨_,0,.nils,[],none,rfl,by simp [hl2],by simp [hl2,k1],by simp [hl2,k5],by simp [hl2,k7],by simp [hl2,k27],by simp [hl2,k28],by simp [hl2],by simp [hl2,hNi],by simp [hl2],by omega,by rw [hset0,hS,← hT];simp,by simpa using Acc.nil _ _ _⟩ ?_
  clear hl2 k1 k5 k7 k27 k28 hu' u' hb' hT T
  rintro env _ ⟨u,n,v,g,o,rfl,hl,g1,g5,g7,g27,g28,g8,g32,g33,hnN,rfl,hA⟩
  rw [hS] at hA ⊢
  have hb':=hSb (.cells (C0.set h v)::(dd++g))
  have hrow:(S++(AObj.cells (C0.set h v)::(dd++g)))[σ.length+1]? = some (.cells (C0.set h v)):=by rw [← hSl];simp
  have hx:=w64 (n:=(h:Int)+1) (by omega) (by omega)
  rcases Qzn n N with hnlt | hnge
  ·have hnlt':(n:Int)<(N:Int):=by omega
   have hx2:=w64 (n:=(n:Int)+1) (by omega) (by omega)
   obtain ⟨T,hT⟩:∃ T,S++(AObj.cells (C0.set h v)::(dd++g))=T:=⟨_,rfl⟩
   rw [hT] at hb' hrow ⊢
   simp [-Xa,hl,g1,g5,g7,g27,g28,g8,g32,g33,hnlt']
   refine Xc (VdK b H N σ h n T) (fun env _=>match tg env.t 38 with | .int _ i=>(Xd b).length - i.toNat | _=>0) ⟨_,0,[],rfl,by simp [hl],by simp [hl,g1],by simp [hl,g5],by simp [hl,g7],by simp [hl,g27],by simp [hl,g28],by simp [hl,g8],by simp [hl,g32],by simp [hl,g33],by simp [hl],by simp [hl,Uu],by simp [hl],by simp [hl],by simp [hl],by omega,by simp⟩ ?_
   clear hl g1 g5 g7 g27 g28 g8 g32 g33
   rintro env _ ⟨u,i,g',rfl,hl,g1,g5,g7,g27,g28,g8,g32,g33,g9,g10,g36,g37,g38,hi,rfl⟩
   rcases Qzn i (Xd b).length with hilt | hige
   ·have hilt':(i:Int)<((Xd b).length:Int):=by omega
    have hx3:=w64 (n:=(i:Int)+1) (by omega) (by omega)
    obtain ⟨e,he⟩:∃ e,(Xd b)[i]=e:=⟨_,rfl⟩
    have heg:e.1.length=24:=hgot e (by rw [← he];exact List.getElem_mem hilt)
    have hs1:=Zf1 ((Xd b).take i) e (h*4+n)
    rw [← he,← Qzt hilt,he] at hs1
    have hml:=Zfv ((Xd b).take i) (h*4+n)
    rw [List.length_take] at hml
    have hea:Wh e=.agg (e.1.map AV.bool++[.pl 1 (Zh e.2)]):=rfl
    have h25:List.take 25 (e.1.map AV.bool++[AV.pl 1 (Zh e.2)])=e.1.map AV.bool++[AV.pl 1 (Zh e.2)]:=List.take_of_length_le (by simp [heg])
    have hk4:h*4+n<e.1.length:=by omega
    have hx4:=w64 (n:=((Uu ((Xd b).take i) (h*4+n):Nat):Int)+1) (by omega) (by omega)
    have hh6:(h:Int)<6:=by omega
    have hn4:(n:Int)<4:=by omega
    have hidx:h*4+n<25:=by omega
    have hget:(e.1.map AV.bool++[AV.pl 1 (Zh e.2)])[h*4+n]'(by simp [heg];omega)=.bool e.1[h*4+n]:=by rw [List.getElem_append_left (by simp [heg];omega)];simp
    have hgd:e.1[h*4+n]?.getD false=e.1[h*4+n]:=by rw [Qze hk4];rfl
    rw [hgd] at hs1
    have hone:=Xbx e
    rw [hea] at hone
    simp only [AV.cells] at hone
    have hll25:(e.1.map AV.bool++[AV.pl 1 (Zh e.2)]).length=25:=by simp [heg]
    obtain ⟨X,hX⟩:∃ X,e.1.map AV.bool++[AV.pl 1 (Zh e.2)]=X:=⟨_,rfl⟩
    rw [hX] at hea h25 hone hll25
    simp only [hX] at hget
    have hone':X.all AV.one=true:=List.all_eq_true.2 hone
    have hk24:h*4+n≤24:=by omega
    obtain ⟨mg,hmg⟩:∃ mg,Uu ((Xd b).take i) (h*4+n)=mg:=⟨_,rfl⟩
    rw [hmg] at g10 hx4 hs1
    obtain ⟨bit,hbit⟩:∃ bit,e.1[h*4+n]=bit:=⟨_,rfl⟩
    rw [hbit] at hs1
    simp only [hbit] at hget
    simp (config:={ maxSteps:=1500000 }) [-Xa,-List.all_eq_true,hl,g1,g5,g7,g27,g28,g8,g32,g33,g9,g10,g36,g37,g38,hilt',hilt,he,hea,h25,hll25,hone',hh6,hn4,hget,hidx,hk24,hx3,hx4]
    cases bit with
    | true =>
     rw [if_pos rfl] at hs1
     simp [-Xa,hl,g10,g38,hx3,hx4]
     exact ⟨⟨_,i+1,g'++[AObj.cells X],rfl,by simp [hl],by simp [hl,g1],by simp [hl,g5],by simp [hl,g7],by simp [hl,g27],by simp [hl,g28],by simp [hl,g8],by simp [hl,g32],by simp [hl,g33],by simp [hl,g9],by simp [hl,hs1,g10],by simp [hl,g36],by simp [hl,g37],by simp [hl],hilt,rfl⟩,by omega⟩
    | false =>
     rw [if_neg (by simp)] at hs1
     simp [-Xa,hl,g10,g38,hx3,hx4]
     exact ⟨⟨_,i+1,g'++[AObj.cells X],rfl,by simp [hl],by simp [hl,g1],by simp [hl,g5],by simp [hl,g7],by simp [hl,g27],by simp [hl,g28],by simp [hl,g8],by simp [hl,g32],by simp [hl,g33],by simp [hl,g9],by simp [hl,hs1,g10],by simp [hl,g36],by simp [hl,g37],by simp [hl],hilt,rfl⟩,by omega⟩
   ·obtain rfl:i=(Xd b).length:=by omega
    rw [List.take_of_length_le hige] at g10
    have hsn:((List.range (n+1)).map fun k=>Xq (Xd b) h k)=((List.range n).map fun k=>Xq (Xd b) h k)++[Xq (Xd b) h n]:=by rw [List.range_succ,List.map_append];rfl
    obtain ⟨mg,hmg⟩:∃ mg,Uu (Xd b) (h*4+n)=mg:=⟨_,rfl⟩
    have hvd:Xq (Xd b) h n=if mg=(Xd b).length then 1 else if mg=0 then 2 else 0:=by unfold Xq;rw [hmg]
    rw [hmg] at g10
    obtain ⟨vd,hvv⟩:∃ vd,Xq (Xd b) h n=vd:=⟨_,rfl⟩
    rw [hvv] at hvd hsn
    obtain ⟨ln,hln⟩:∃ ln,(Xd b).length=ln:=⟨_,rfl⟩
    rw [hln] at hvd g37 g38 hige hlen
    have hCl:(C0.set h v).length=H:=by simp [hC0l]
    have hCh:(C0.set h v)[h]'(by omega)=v:=by simp
    have hA1:=((hA.base (σ':=S++(AObj.cells (C0.set h v)::dd)) (by simp)).more g').push (P:=Tryz.prog) (t:=112) (e:=113) (ag:=false) (x:=.int .i64 vd) (by simp) (by simp) (by simp) (by omega) ⟨by simp [AV.cells],by simp [AV.cells,AV.one]⟩ (by simp;omega)
    obtain ⟨v',g2,o',he,hA',_⟩:=hA1
    have heT:T++(g'++[AObj.cells [.int .i64 vd]])=(S++(AObj.cells (C0.set h v)::dd))++(g++g'++[AObj.cells [.int .i64 vd]]):=by rw [← hT];simp
    have hTl:T.length=(S++(AObj.cells (C0.set h v)::dd)).length+g.length:=by rw [← hT];simp;omega
    have hAe:Xa Tryz.prog #[112,112] v (.arr 1 (T.length+g'.length) 0 1) (T++(g'++[AObj.cells [.int .i64 vd]]))=some (v',(S++(AObj.cells (C0.set h v)::dd))++g2):=by
     rw [heT]
     have e3:(S++(AObj.cells (C0.set h v)::dd)).length+(g++g').length=T.length+g'.length:=by have:(g++g').length=g.length+g'.length:=List.length_append;omega
     rw [e3] at he
     exact he
    obtain ⟨jo,rfl⟩:∃ jo,o'=some jo:=by
     cases o' with
     | none=>exact absurd hA'.val.2 (by simp)
     | some jo=>exact ⟨jo,rfl⟩
    obtain ⟨rfl,hjo⟩:=hA'.val
    have hlt1:h+1≤H:=hlt
    have hrowT:∀ y:Za,(T++y)[σ.length+1]? = some (.cells (C0.set h v)):=fun y=>by rw [Qzl (Qzs.1 hrow).1];exact hrow
    have hrow2:((S++(AObj.cells (C0.set h v)::dd))++g2)[σ.length+1]? = some (.cells (C0.set h v)):=by rw [← hSl];simp
    obtain ⟨T2,hT2⟩:∃ T2,(S++(AObj.cells (C0.set h v)::dd))++g2=T2:=⟨_,rfl⟩
    rw [hT2] at hAe hrow2
    obtain ⟨C1,hC1⟩:∃ C1,C0.set h v=C1:=⟨_,rfl⟩
    rw [hC1] at hCl hrowT hrow2
    simp only [hC1] at hCh
    have hfin:∀ X:AObj,T2.set (σ.length+1) X=S++(X::(dd++g2)):=fun X=>by
     rw [← hT2,← hSl,List.append_assoc,List.set_append_right _ _ (Nat.le_refl _),Nat.sub_self]
     rfl
    have htk:∀ V:AV,List.take h C1++V::List.drop (h+1) C1=C0.set h V:=fun V=>by
     rw [← hC1]
     have:=List.set_eq_take_append_cons_drop (l:=C0.set h v) (i:=h) (a:=V)
     rw [if_pos (by simp [hC0l];exact hlt),List.set_set] at this
     exact this.symm
    have hA3:Acc (σ++[AObj.cells (Zd b).cells]++(AObj.cells []::dd)) g2 1 (.arr 1 (S.length+(dd.length+1)+jo) 0 (n+1)) (((List.range (n+1)).map fun k=>Xq (Xd b) h k).map fun x=>AV.int .i64 x) (some jo):=by
     have:=hA'.base (σ':=σ++[AObj.cells (Zd b).cells]++(AObj.cells []::dd)) (by rw [hS];simp)
     have e1:(List.map (fun x=>AV.int IntKind.i64 x) ((List.range n).map fun k=>Xq (Xd b) h k)++[AV.int IntKind.i64 vd]).length=n+1:=by simp
     have e2:(S++(AObj.cells (C0.set h v)::dd)).length=S.length+(dd.length+1):=by simp
     rw [e1,e2] at this
     rw [hsn,List.map_append]
     exact this
    by_cases hm1:mg=ln
    ·rw [if_pos hm1] at hvd
     subst hvd
     simp (config:={ maxSteps:=1500000 }) [-Xa,hl,g1,g5,g7,g27,g28,g8,g32,g33,g9,g10,g36,g37,g38,hln,hm1,hrowT,hCl,hCh,hlt,hlt1,hAe,hrow2,hx2]
     exact ⟨⟨_,n+1,_,g2,some jo,rfl,by simp [hl],by simp [hl,g1],by simp [hl,g5],by simp [hl,g7],by simp [hl,g27],by simp [hl,g28],by simp [hl,g8],by simp [hl,g32],by simp [hl,hx2],hnlt,by rw [hfin,htk,hS],hA3⟩,by omega⟩
    ·rw [if_neg hm1] at hvd
     by_cases hm2:mg=0
     ·rw [if_pos hm2] at hvd
      have hm1':¬ ln=0:=by omega
      subst hvd
      have hm3:¬ (0:Int)=(ln:Int):=by omega
      simp (config:={ maxSteps:=1500000 }) [-Xa,hl,g1,g5,g7,g27,g28,g8,g32,g33,g9,g10,g36,g37,g38,hln,hm2,hm1',hm3,hrowT,hCl,hCh,hlt,hlt1,hAe,hrow2,hx2]
      exact ⟨⟨_,n+1,_,g2,some jo,rfl,by simp [hl],by simp [hl,g1],by simp [hl,g5],by simp [hl,g7],by simp [hl,g27],by simp [hl,g28],by simp [hl,g8],by simp [hl,g32],by simp [hl,hx2],hnlt,by rw [hfin,htk,hS],hA3⟩,by omega⟩
     ·rw [if_neg hm2] at hvd
      subst hvd
      have hm1':¬ (mg:Int)=(ln:Int):=by omega
      simp (config:={ maxSteps:=1500000 }) [-Xa,hl,g1,g5,g7,g27,g28,g8,g32,g33,g9,g10,g36,g37,g38,hln,hm1,hm2,hm1',hrowT,hCl,hCh,hlt,hlt1,hAe,hrow2,hx2]
      exact ⟨⟨_,n+1,_,g2,some jo,rfl,by simp [hl],by simp [hl,g1],by simp [hl,g5],by simp [hl,g7],by simp [hl,g27],by simp [hl,g28],by simp [hl,g8],by simp [hl,g32],by simp [hl,hx2],hnlt,by rw [hfin,htk,hS],hA3⟩,by omega⟩
  ·obtain rfl:n=N:=by omega
   obtain ⟨T,hT⟩:∃ T,S++(AObj.cells (C0.set h v)::(dd++g))=T:=⟨_,rfl⟩
   have hrv:Vw (fun r=>decide ((σ++[AObj.cells (Zd b).cells]).length+1≤r)) T v (Xw ((List.range n).map fun k=>Xq (Xd b) h k)):=by
    have:=(hA.base (σ':=S++(AObj.cells (C0.set h v)::dd)) (by simp)).vw (p:=fun r=>decide ((σ++[AObj.cells (Zd b).cells]).length+1≤r)) (by rw [hS];intro r hr;simp at hr ⊢;omega)
    rw [List.append_assoc,List.cons_append,hT] at this
    exact this
   rw [hT]
   simp [-Xa,hl,g1,g5,g7,g27,g28,g8,g32,g33,hx]
   refine ⟨⟨_,h+1,C0.set h v,dd++g,rfl,by simp [hl],by simp [hl,g1],by simp [hl,g5],by simp [hl,g7],by simp [hl,g27],by simp [hl],hlt,by rw [hS,hT],by simp [hC0l],fun i x y hx hy=>?_⟩,by omega⟩
   rw [hS,hT,← hS]
   unfold Wv at hy
   rw [Qzp,Qzm] at hy
   obtain ⟨j,hj,rfl⟩:=hy
   obtain ⟨hjl,rfl⟩:=Qzs.1 hj
   simp at hjl
   simp only [List.getElem_range]
   rw [List.getElem?_set] at hx
   split at hx
   ·rename_i e
    subst e
    rw [if_pos (by omega)] at hx
    simp only [Option.some.injEq] at hx
    rw [← hx,if_pos (by omega)]
    exact hrv
   ·rename_i e
    rw [← hC0] at hx
    unfold Wv at hx
    rw [Qzp,List.getElem?_range hjl] at hx
    simp only [Option.map_some,Option.some.injEq] at hx
    have ee:(i<h+1)=(i<h):=by apply propext;omega
    rw [← hx]
    simp only [ee]
    exact .inl rfl
 ·obtain rfl:h=H:=by omega
  refine .inl ?_
  have hverd:(Yav (Xd b) h N).map Xw=Wv (Xd b) h N h:=by
   unfold Yav Wv
   rw [List.map_map]
   apply List.map_congr_left
   intro j hj
   rw [if_pos (by simpa using hj)]
   rfl
  rw [hverd]
  obtain ⟨nl,hnl⟩:∃ nl,Wv (Xd b) h N h=nl:=⟨_,rfl⟩
  have hnll:nl.length=h:=by rw [← hnl];simp [Wv]
  have hnr:∀ (i:Nat) (y:AV),nl[i]? = some y→∃ r,y=Xw r:=by
   intro i y hy
   rw [← hnl] at hy
   unfold Wv at hy
   rw [Qzp,Qzm] at hy
   obtain ⟨j,hj,rfl⟩:=hy
   have:=Qzg hj
   rw [if_pos (by simpa using this)]
   exact ⟨_,rfl⟩
  rw [hnl] at hz ⊢
  obtain ⟨T,hT⟩:∃ T,S++(AObj.cells C::g)=T:=⟨_,rfl⟩
  have hTC:T[σ.length+1]? = some (.cells C):=by rw [← hT,← hSl];simp
  have hTs:∃ x,T=σ++x:=⟨_,by rw [← hT,← hS,List.append_assoc]⟩
  rw [hT] at hz ⊢
  simp [-Xa,hl,g1,g5,g7,g27,g28]
  have hzz:Fz σ.length T (.arr 1 (σ.length+1) 0 nl.length) (.pl 1 nl):=by
   refine .arr 1 _ 0 C nl (fun i _=>(C[i]?).getD .any) (by omega) hTC (fun i x hx=>?_) fun i x hx j y hy=>?_
   ·obtain ⟨r,rfl⟩:=hnr i x hx
    refine ⟨rfl,fun j y hy=>?_⟩
    cases j with
    | zero =>
     simp [AV.cells,Xw] at hy
     subst hy
     have hil:=(Qzs.1 hx).1
     exact ⟨rfl,by rw [show (0+i)*1+0=i by omega,Qze (by omega)];rfl⟩
    | succ j=>simp [AV.cells,Xw] at hy
   ·obtain ⟨r,rfl⟩:=hnr i x hx
    have hil:=(Qzs.1 hx).1
    cases j with
    | zero =>
     have hy':y=Xw r:=by simp [AV.cells,Xw] at hy;rw [← hy];rfl
     subst hy'
     have hCi:C[i]? = some (C[i]'(by omega)):=Qze (by omega)
     rw [hCi]
     rcases hz i _ _ hCi hx with e | e
     ·simp only [Option.getD_some]
      rw [e]
      exact Ze3 _ _ _
     ·exact e.of_bar fun r hr=>by simp at hr;omega
    | succ j=>simp [AV.cells,Xw] at hy
  rw [hnll] at hzz
  exact ⟨hTs,hzz⟩
end Ab

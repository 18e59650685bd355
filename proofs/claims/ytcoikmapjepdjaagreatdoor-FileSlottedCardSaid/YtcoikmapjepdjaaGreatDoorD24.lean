/-
  Texts packed for a claim.
-/
import Derived.Test.YtcoikmapjepdjaaGreatDoorD00
import Derived.Test.YtcoikmapjepdjaaGreatDoorD14
import Derived.Test.YtcoikmapjepdjaaGreatDoorD22
import Derived.Test.YtcoikmapjepdjaaGreatDoorD23
set_option linter.all false
namespace Oyez
theorem Ze1 (l:List Place):(dd l).getLast? = l.getLast?:=by
 suffices hh:∀ m:List Place,(dd m.reverse).getLast? = m.reverse.getLast? by simpa using hh l.reverse
 intro m
 induction m with
 | nil=>rfl
 | cons q t ih =>
  rw [List.reverse_cons,Ubb]
  split
  ·rename_i h;rw [h];simp
  ·simp
theorem dd_take {l:List Place} {k:Nat} (h0:0<k) (hk:k<l.length):dd (l.take (k+1))=if l[k - 1]=l[k] then dd (l.take k) else dd (l.take k)++[l[k]]:=by
 rw [Qzt hk,Ubb,Ze1]
 have:(l.take k).getLast? = some l[k - 1]:=by
  rw [List.getLast?_eq_getElem?,List.length_take,Nat.min_eq_left (by omega),List.getElem?_take_of_lt (by omega),Qze (by omega)]
 rw [this]
 simp only [Option.some.injEq]
theorem dd_one {l:List Place} (h:l.length≤1):dd l=l:=by
 match l,h with
 | [],_=>rfl
 | [p],_=>rfl
 | p::q::t,h=>simp at h
end Oyez
namespace Ab
open Go Go.RowKit Go.Proofs
attribute [local irreducible] aws awp aw1 Og Om Oc Oa Ogd Ov Ot awd Zb awh Xb Ogh Ohd awl Ogl Ohl Wb Vb QFn Ub QRo QBe ACode AYield
def Ug (l:List Oyez.Place):List AV:=l.flatMap fun p=>[.int .i64 p.kind,.int .i64 p.number]
theorem Ubi (l:List Oyez.Place):(l.map Ve).flatMap AV.cells=Ug l:=by unfold Ug;rw [List.flatMap_map];rfl
theorem Zap (l:List Oyez.Place):(Ug l).length=l.length*2:=by
 unfold Ug
 induction l with
 | nil=>rfl
 | cons p t ih=>rw [List.flatMap_cons,List.length_append,ih];simp;omega
theorem Uak (l m:List Oyez.Place):Ug (l++m)=Ug l++Ug m:=by unfold Ug;rw [List.flatMap_append]
theorem Wax:∀ (l:List Oyez.Place) (i:Nat) (h:i<l.length),List.take 2 (List.drop (i*2) (Ug l))=[.int .i64 l[i].kind,.int .i64 l[i].number]:=by
 intro l i h
 have e:l=l.take i++(l[i]::l.drop (i+1)):=by rw [← List.drop_eq_getElem_cons h,List.take_append_drop]
 have h1:Ug l=Ug (l.take i)++(Ug (l[i]::l.drop (i+1))):=by
  conv=>lhs;rw [e]
  rw [Uak]
 have h2:(Ug (l.take i)).length=i*2:=by rw [Zap,List.length_take];omega
 rw [h1,← h2,List.drop_left]
 rfl
theorem Ygf (l:List Oyez.Place) (i:Nat) (p:Oyez.Place) (h:i<l.length):List.take (i*2) (Ug l)++(AV.int .i64 p.kind::AV.int .i64 p.number::List.drop (i*2+2) (Ug l))=Ug (l.set i p):=by
 have h2:(Ug (l.take i)).length=i*2:=by rw [Zap,List.length_take];omega
 have e:Ug l=Ug (l.take i)++(Ug [l[i]]++Ug (l.drop (i+1))):=by
  rw [← Uak,← Uak]
  congr 1
  show l=l.take i++(l[i]::l.drop (i+1))
  rw [← List.drop_eq_getElem_cons h,List.take_append_drop]
 have e2:Ug (l.set i p)=Ug (l.take i)++(Ug [p]++Ug (l.drop (i+1))):=by
  rw [← Uak,← Uak,List.set_eq_take_append_cons_drop,if_pos h]
  rfl
 rw [e2,e,← h2,List.take_left,← List.drop_drop,List.drop_left]
 rfl
theorem Wb7 (p q:Oyez.Place):Uf [1,1] [.int .i64 p.kind,.int .i64 p.number] [.int .i64 q.kind,.int .i64 q.number]=some (decide (p=q)):=by
 have h:(p.kind == q.kind&&(p.number == q.number&&true))=decide (p=q):=by
  rw [Bool.eq_iff_iff]
  simp
  constructor
  ·rintro ⟨h1,h2⟩;exact Oyez.Place.ext' h1 h2
  ·rintro rfl;exact ⟨rfl,rfl⟩
 simp only [Uf,Wu,and_self,if_true]
 rw [h]
theorem Wfu {σ:Za} {r:Nat} (l:List Oyez.Place) (hr:σ[r]? = some (.cells (Ug l))) (hl0:l.length≤2^40) :
  ACalls Tryz.prog 169 [.arr 2 r 0 l.length] σ fun v σ'=>∃ tl,v=.arr 2 r 0 (Oyez.dd l).length∧σ'=σ.set r (.cells (Ug (Oyez.dd l)++tl)):=by
 have hrl:=(Qzs.1 hr).1
 have hself:σ.set r (.cells (Ug l))=σ:=by
  obtain ⟨h1,h2⟩:=Qzs.1 hr
  rw [← h2];exact List.set_getElem_self h1
 refine Yb Tryz.func169 rfl (Va Tryz.func169 (by decide) rfl) ?_
 obtain ⟨n,hn⟩:∃ n,l.length=n:=⟨_,rfl⟩
 rw [hn] at hl0 ⊢
 by_cases h2:n<2
 ·have h2':(n:Int)<2:=by omega
  have he:Oyez.dd l=l:=Oyez.dd_one (by omega)
  simp [Tryz.ntmps169,h2']
  exact ⟨by rw [he,hn],[],by rw [he,List.append_nil,hself]⟩
 ·have h2':¬ (n:Int)<2:=by omega
  simp [Tryz.ntmps169,h2']
  refine Vd (fun env σ'=>∃ (u:List AV) (k:Nat),env={ t:=u }∧u.length=61∧tg u 0=.arr 2 r 0 n∧tg u 3=.int .i64 k∧σ=σ'∧1≤k∧k≤n∧Oyez.dd (l.take k)=l.take k)
   (fun env _=>match tg env.t 3 with | .int _ i=>n - i.toNat | _=>0) ⟨_,1,rfl,by simp,by simp,by simp,rfl,by omega,by omega,Oyez.dd_one (by simp;omega)⟩ ?_
  rintro env _ ⟨u,k,rfl,hl,g0,g3,rfl,hk1,hk,hd⟩
  rcases Qzn k n with hlt | hge
  ·have hlt':(k:Int)<(n:Int):=by omega
   have hx:=w64 (n:=(k:Int)+1) (by omega) (by omega)
   have hx1:=w64 (n:=(k:Int) - 1) (by omega) (by omega)
   have hkl:k<l.length:=by omega
   have hkl1:k - 1<l.length:=by omega
   have hlen:=Zap l
   have hs1:=Wax l k hkl
   have hs2:=Wax l (k - 1) hkl1
   have hlk:k*2+2≤l.length*2:=by omega
   have hlk1:(k - 1)*2+2≤l.length*2:=by omega
   have hp1:(0:Int)≤(k:Int) - 1:=by omega
   have hp2:(k:Int) - 1<(n:Int):=by omega
   have hp3:((k:Int) - 1).toNat=k - 1:=by omega
   have hstep:=Oyez.dd_take (l:=l) (k:=k) (by omega) hkl
   simp [hl,g0,g3,hlt',hlt]
   refine Zj mixed (by kernel_rfl) ?_
   have hk1':(1:Int)≤k:=by omega
   have haq:=Wb7 l[k] l[k - 1]
   by_cases heq:l[k - 1]=l[k]
   ·rw [if_pos heq,hd] at hstep
    have hde:decide (l[k]=l[k - 1])=true:=by simp [heq]
    have hkn:¬ k=n:=by omega
    simp [-Uf,hl,g0,g3,hlt',hlt,hr,hlen,hs1,hs2,hlk,hlk1,hx1,hp1,hp2,hp3,hk1',haq,hde,hk,hkn]
    refine Vd (fun env σ'=>∃ (u:List AV) (q j:Nat) (l':List Oyez.Place),env={ t:=u }∧u.length=61∧tg u 0=.arr 2 r 0 n∧tg u 3=.int .i64 q∧tg u 4=.arr 2 r k (n - k)∧tg u 5=.int .i64 j∧σ'=σ.set r (.cells (Ug l'))∧1≤j∧k+j≤n∧l'.length=n∧1≤q∧q≤k+j - 1∧l'.take q=Oyez.dd (l.take (k+j))∧∀ i,k+j≤i+1→l'[i]? = l[i]?)
     (fun env _=>match tg env.t 5 with | .int _ i=>n - i.toNat | _=>0) ?_ ?_
    ·exact ⟨_,k,1,l,rfl,by simp [hl],by simp [hl,g0],by simp [hl,g3],by simp [hl],by simp [hl],hself.symm,by omega,by omega,hn,hk1,by omega,hstep.symm,fun i _=>rfl⟩
    ·clear g0 g3 hl u
     rintro env _ ⟨u,q,j,l',rfl,hl,g0,g3,g4,g5,rfl,hj1,hj,hln,hq1,hq,hd',hrest⟩
     have hgs:∀ X:AObj,(σ.set r X)[r]? = some X:=fun X=>List.getElem?_set_self hrl
     have hlen':=Zap l'
     rw [hln] at hlen'
     rcases Qzn (k+j) n with hlj | hgj
     ·have hx5:=w64 (n:=(j:Int)+1) (by omega) (by omega)
      have hx51:=w64 (n:=(j:Int) - 1) (by omega) (by omega)
      have hlt5:(j:Int)<((n - k:Nat):Int):=by omega
      have hlt5n:j<n - k:=by omega
      have hj1':(1:Int)≤j:=by omega
      have hlt6:(j:Int) - 1<((n - k:Nat):Int):=by omega
      have hp5:((j:Int) - 1).toNat=j - 1:=by omega
      have hc1:=Wax l' (k+j) (by omega)
      have hc2:=Wax l' (k+(j - 1)) (by omega)
      have hb1:(k+j)*2+2≤n*2:=by omega
      have hb2:(k+(j - 1))*2+2≤n*2:=by omega
      have hv1:l'[k+j]'(by omega)=l[k+j]'(by omega):=by
       have:=hrest (k+j) (by omega)
       rw [Qze (by omega),Qze (by omega)] at this
       exact Option.some.inj this
      have hv2:l'[k+(j - 1)]'(by omega)=l[k+(j - 1)]'(by omega):=by
       have:=hrest (k+(j - 1)) (by omega)
       rw [Qze (by omega),Qze (by omega)] at this
       exact Option.some.inj this
      have hst:=Oyez.dd_take (l:=l) (k:=k+j) (by omega) (by omega)
      have hi0:k+j - 1=k+(j - 1):=by omega
      simp only [hi0] at hst
      have haq2:=Wb7 (l'[k+j]'(by omega)) (l'[k+(j - 1)]'(by omega))
      simp [hl,g0,g3,g4,g5,hlt5,hlt5n]
      refine Zj mixed (by kernel_rfl) ?_
      by_cases heq2:l[k+(j - 1)]'(by omega)=l[k+j]'(by omega)
      ·rw [if_pos heq2] at hst
       have hde2:decide (l'[k+j]'(by omega)=l'[k+(j - 1)]'(by omega))=true:=by rw [hv1,hv2];simp [heq2]
       simp [-Uf,hl,g0,g3,g4,g5,hlt5,hlt5n,hgs,hlen',hc1,hc2,hb1,hb2,hx51,hj1',hlt6,hp5,haq2,hde2,hx5]
       exact ⟨⟨q,rfl,j+1,by simp,l',rfl,by omega,by omega,hln,hq1,by omega,by rw [hd',← Nat.add_assoc,hst],fun i hi=>hrest i (by omega)⟩,by omega⟩
      ·rw [if_neg heq2] at hst
       have hde2:decide (l'[k+j]'(by omega)=l'[k+(j - 1)]'(by omega))=false:=by rw [hv1,hv2];simp [Ne.symm heq2]
       have hset:=Ygf l' q (l'[k+j]'(by omega)) (by omega)
       have hxq:=w64 (n:=(q:Int)+1) (by omega) (by omega)
       have hqn:q<n:=by omega
       have hqn':(q:Int)<(n:Int):=by omega
       have hbq:q*2+2≤n*2:=by omega
       simp [-Uf,hl,g0,g3,g4,g5,hlt5,hlt5n,hgs,hlen',hc1,hc2,hb1,hb2,hx51,hj1',hlt6,hp5,haq2,hde2,hx5,hqn,hqn',hbq,hset,hxq]
       refine ⟨⟨q+1,by simp,j+1,by simp,_,rfl,by omega,by omega,by simp [hln],by omega,by omega,?_,fun i hi=>by rw [List.getElem?_set_ne (by omega)];exact hrest i (by omega)⟩,by omega⟩
       rw [← Nat.add_assoc,hst,← hd',Qzt (by simp;omega),List.getElem_set_self,hv1,List.take_set_of_le (Nat.le_refl _)]
     ·have hqn:q<n:=by omega
      obtain rfl:j=n - k:=by omega
      have hqn':q≤n:=by omega
      have hqe:¬ q=n:=by omega
      have hq0:¬ 0=q:=by omega
      rw [show k+(n - k)=n by omega,List.take_of_length_le (show l.length≤n by omega)] at hd'
      have hdl:q=(Oyez.dd l).length:=by rw [← hd',List.length_take];omega
      have hcut:List.take (q*2) (Ug l')=Ug (Oyez.dd l):=by
       have e:l'=l'.take q++l'.drop q:=(List.take_append_drop _ _).symm
       have h2:(Ug (l'.take q)).length=q*2:=by rw [Zap,List.length_take];omega
       rw [← hd']
       conv=>lhs;rw [e]
       rw [Uak,← h2,List.take_left]
      simp [hl,g0,g3,g4,g5,hgs,hqn,hqn',hqe,hq0,hlen',hcut]
      exact ⟨hdl,_,rfl⟩
   ·have hne:¬ l[k]=l[k - 1]:=fun h=>heq h.symm
    rw [if_neg heq,hd] at hstep
    simp [-Uf,hl,g0,g3,hlt',hlt,hr,hlen,hs1,hs2,hlk,hlk1,hx1,hp1,hp2,hp3,hk1',haq,hne,hk,hx]
    refine ⟨⟨k+1,by simp,by omega,by omega,?_⟩,by omega⟩
    rw [hstep,Qzt hkl]
  ·obtain rfl:k=n:=by omega
   have he:Oyez.dd l=l:=by rw [List.take_of_length_le (by omega)] at hd;exact hd
   simp [hl,g0,g3]
   exact ⟨by rw [he,hn],[],by rw [he,List.append_nil,hself]⟩
end Ab
namespace Ab
open Go Go.RowKit Go.Proofs
attribute [local irreducible] aws awp aw1 Og Om Oc Oa Ogd Ov Ot awd Zb awh Xb Ogh Ohd awl Ogl Ohl awv Ogv Ohv Wb Vb QFn Ub QRo QBe ACode AYield
structure DesksAt (σ:Za) (v:AV) (fs:List (List Oyez.Rec)):Prop where
 ex:∃ q ds,v=.arr 1 q 0 fs.length∧σ[q]? = some (.cells ds)∧ds.length=fs.length∧∀ (i:Nat) (f:List Oyez.Rec) (d:AV),fs[i]? = some f→ds[i]? = some d→DeskAt σ d f
theorem sort_nil:APure Tryz.prog 168 [.nils,.fn (.func 100) [] []] (.tup []):=by
 refine APure.kit (Va Tryz.func168 (by decide) rfl) fun C cargs σ hI hv=>?_
 obtain ⟨x,q,rfl,hx,hq⟩:=hv.inv
 obtain ⟨y,q,rfl,hy,hq⟩:=hq.inv
 obtain rfl:=hq.of_nil
 cases hx
 refine (AnyF.slices_SortFunc_none Tryz.sortPl none 0 y C.w).mono ?_
 rintro e w' ⟨rfl,rfl⟩
 exact ⟨_,rfl,.tup [] [] rfl (by simp),Below.refl _ _⟩
theorem compact_nil:APure Tryz.prog 169 [.nils] .nils:=by
 intro σ
 refine Yb Tryz.func169 rfl (Va Tryz.func169 (by decide) rfl) ?_
 simp [Tryz.ntmps169]
theorem Zer {n r:Nat} {σ:Za} {l:List Oyez.Place} {tl:List AV} (hn:n≤r) (hr:σ[r]? = some (.cells (Ug l++tl))):Fz n σ (.arr 2 r 0 l.length) (.pl 2 (l.map Ve)):=by
 have hlen:(l.map Ve).length=l.length:=by simp
 rw [← hlen]
 have hget:∀ (i:Nat) (x:AV),(l.map Ve)[i]? = some x→∃ h:i<l.length,x=Ve l[i]:=by
  intro i x hx
  rw [Qzp,Qzm] at hx
  obtain ⟨p,hp,rfl⟩:=hx
  obtain ⟨h1,h2⟩:=Qzs.1 hp
  exact ⟨h1,by rw [h2]⟩
 have hcell:∀ (i:Nat) (h:i<l.length),(Ug l++tl)[i*2]? = some (.int .i64 l[i].kind)∧(Ug l++tl)[i*2+1]? = some (.int .i64 l[i].number):=by
  intro i h
  have h1:=Wax l i h
  have hl:=Zap l
  constructor
  ·rw [Qzl (by omega)]
   have:(List.take 2 (List.drop (i*2) (Ug l)))[0]? = some (.int .i64 l[i].kind):=by rw [h1];rfl
   rwa [List.getElem?_take_of_lt (by omega),List.getElem?_drop] at this
  ·rw [Qzl (by omega)]
   have:(List.take 2 (List.drop (i*2) (Ug l)))[1]? = some (.int .i64 l[i].number):=by rw [h1];rfl
   rwa [List.getElem?_take_of_lt (by omega),List.getElem?_drop] at this
 refine .arr 2 r 0 _ (l.map Ve) (fun i j=>((l.map Ve)[i]?.bind fun x=>x.cells[j]?).getD .any) hn hr (fun i x hx=>?_) (fun i x hx j y hy=>?_)
 ·obtain ⟨h,rfl⟩:=hget i x hx
  refine ⟨rfl,fun j y hy=>?_⟩
  obtain ⟨c1,c2⟩:=hcell i h
  match j,hy with
  | 0,hy=>simp [AV.cells] at hy;subst hy;rw [hx];exact ⟨rfl,by simpa [AV.cells] using c1⟩
  | 1,hy=>simp [AV.cells] at hy;subst hy;rw [hx];exact ⟨rfl,by simpa [AV.cells] using c2⟩
  | j+2,hy=>simp [AV.cells] at hy
 ·rw [hx]
  obtain ⟨h,rfl⟩:=hget i x hx
  simp only [Option.bind_some,hy,Option.getD_some]
  have:=Qzg hy
  simp [AV.cells] at this
  rcases this with rfl | rfl
  ·exact .int _ _
  ·exact .int _ _
def Zt (fs:List (List Oyez.Rec)) (i j:Nat):List Oyez.Place:=((fs.take i).flatten++(fs.getD i []).take j).map Oyez.Rec.place
theorem We0 (fs:List (List Oyez.Rec)):Zt fs 0 0=[]:=by simp [Zt]
theorem Yem {fs:List (List Oyez.Rec)} {i j:Nat} {f:List Oyez.Rec} (hi:i<fs.length) (hf:fs[i]=f) (hj:j<f.length):Zt fs i (j+1)=Zt fs i j++[f[j].place]:=by
 have h:fs.getD i []=f:=by rw [List.getD_eq_getElem?_getD,Qze hi,hf];rfl
 unfold Zt
 rw [h,Qzt hj,← List.append_assoc,List.map_append]
 rfl
theorem Xc4 {fs:List (List Oyez.Rec)} {i:Nat} {f:List Oyez.Rec} (hi:i<fs.length) (hf:fs[i]=f) {j:Nat} (hj:f.length≤j):Zt fs i j=Zt fs (i+1) 0:=by
 have h:fs.getD i []=f:=by rw [List.getD_eq_getElem?_getD,Qze hi,hf];rfl
 unfold Zt
 rw [h,List.take_of_length_le hj,Qzt hi,hf]
 simp
theorem Xgp {fs:List (List Oyez.Rec)} {i:Nat} (hi:fs.length≤i):Zt fs i 0=fs.flatten.map Oyez.Rec.place:=by
 unfold Zt
 rw [List.take_of_length_le hi]
 simp
theorem Vbr {fs:List (List Oyez.Rec)} {i j:Nat} {f:List Oyez.Rec} (hi:i<fs.length) (hf:fs[i]=f) (hj:j≤f.length):(Zt fs i j).length+(f.length - j)≤fs.flatten.length:=by
 have h:fs.getD i []=f:=by rw [List.getD_eq_getElem?_getD,Qze hi,hf];rfl
 have e:fs.flatten=(fs.take i).flatten++(fs[i]++(fs.drop (i+1)).flatten):=by
  rw [← List.flatten_cons,← List.drop_eq_getElem_cons hi,← List.flatten_append,List.take_append_drop]
 have e2:fs.flatten.length=(fs.take i).flatten.length+(f.length+(fs.drop (i+1)).flatten.length):=by
  rw [e,List.length_append,List.length_append,hf]
 have e3:(Zt fs i j).length=(fs.take i).flatten.length+min j f.length:=by
  unfold Zt
  rw [h,List.length_map,List.length_append,List.length_take]
 rw [e2,e3]
 omega
set_option maxHeartbeats 4000000 in
theorem Ugu {σ:Za} {v:AV} {fs:List (List Oyez.Rec)} (hD:DesksAt σ v fs) (hb:fs.flatten.length≤2^40) (hb2:fs.length≤2^40) :
  ACalls Tryz.prog 90 [v] σ fun v' σ'=>v'=.pl 2 ((Oyez.placesOf (fs.flatten.map Oyez.Rec.place)).map Ve)∧σ'=σ:=by
 obtain ⟨q,ds,rfl,hq,hds,hdesk⟩:=hD.ex
 have hql:=(Qzs.1 hq).1
 obtain ⟨l,hle⟩:∃ l,fs.flatten.map Oyez.Rec.place=l:=⟨_,rfl⟩
 have hll:l.length≤2^40:=by rw [← hle,List.length_map];exact hb
 rw [hle]
 refine ACalls.forget ?_
 refine Yb Tryz.func90 rfl (Va Tryz.func90 (by decide) rfl) ?_
 simp [Tryz.ntmps90]
 refine Vd (fun env σ'=>∃ (u:List AV) (i:Nat) (v:AV) (g:Za) (o:Option Nat),env={ t:=u }∧u.length=35∧tg u 3=v∧tg u 8=.arr 1 q 0 fs.length∧tg u 9=.int .i64 fs.length∧tg u 10=.int .i64 i∧σ'=σ++g∧i≤fs.length∧Acc σ g 2 v ((Zt fs i 0).map Ve) o)
  (fun env _=>match tg env.t 10 with | .int _ i=>fs.length - i.toNat | _=>0) ⟨_,0,.nils,[],none,rfl,by simp,by simp,by simp,by simp,by simp,by simp,by omega,by rw [We0];exact Acc.nil _ _ _⟩ ?_
 rintro env _ ⟨u,i,v,g,o,rfl,hl,g3,g8,g9,g10,rfl,hi,hA⟩
 rcases Qzn i fs.length with hlt | hge
 ·have hlt':(i:Int)<(fs.length:Int):=by omega
  have hx:=w64 (n:=(i:Int)+1) (by omega) (by omega)
  have hdi:ds[i]? = some (ds[i]'(by omega)):=Qze (by omega)
  obtain ⟨r,m,hd1,hd2,hd3⟩:=(hdesk i _ _ (Qze hlt) hdi).ex
  rw [hd1] at hdi
  obtain ⟨f,hf⟩:∃ f,fs[i]=f:=⟨_,rfl⟩
  rw [hf] at hd2
  have hb3:=Vbr hlt hf (Nat.zero_le _)
  have hq':=Vr (m:=g) hq
  have hd2':=Vr (m:=g) hd2
  have hdl:i+1≤ds.length:=by omega
  have hfl:f.length≤2^40:=by omega
  simp [-Xa,hl,g3,g8,g9,g10,hlt',hlt,hq',hdi,hd2',hdl]
  refine Vd (fun env σ'=>∃ (u:List AV) (j:Nat) (v:AV) (g:Za) (o:Option Nat),env={ t:=u }∧u.length=35∧tg u 3=v∧tg u 8=.arr 1 q 0 fs.length∧tg u 9=.int .i64 fs.length∧tg u 10=.int .i64 i∧tg u 18=We f∧tg u 19=.int .i64 f.length∧tg u 20=.int .i64 j∧σ'=σ++g∧j≤f.length∧Acc σ g 2 v ((Zt fs i j).map Ve) o)
   (fun env _=>match tg env.t 20 with | .int _ i=>f.length - i.toNat | _=>0) ⟨_,0,v,g,o,rfl,by simp [hl],by simp [hl,g3],by simp [hl,g8],by simp [hl,g9],by simp [hl,g10],by simp [hl],by simp [hl],by simp [hl],rfl,by omega,hA⟩ ?_
  rintro env _ ⟨u,j,v,g,o,rfl,hl,g3,g8,g9,g10,g18,g19,g20,rfl,hj,hA⟩
  rcases Qzn j f.length with hjl | hjg
  ·have hjl':(j:Int)<(f.length:Int):=by omega
   have hxj:=w64 (n:=(j:Int)+1) (by omega) (by omega)
   obtain ⟨v',g',o',he,hA',_⟩:=(hA.more [.cells (Uv f[j])]).push (P:=Tryz.prog) (t:=129) (e:=177) (ag:=true) (x:=Ve f[j].place) (by simp) (by simp) (by simp) (by omega) ⟨by simp [AV.cells],by simp [AV.cells,AV.one]⟩ (by
    have:=Vbr hlt hf hj
    rw [List.length_map]
    simp
    omega)
   simp [-Xa,Uv] at he
   simp [-Xa,hl,g3,g8,g9,g10,g18,g19,g20,hjl',hjl]
   refine (Yai f[j]).use ?_
   simp [-Xa,hl,g3,g8,g9,g10,g18,g19,g20,hjl',hjl,hxj,he]
   refine ⟨⟨j+1,by simp,hjl,o',?_⟩,by omega⟩
   rw [Yem hlt hf hjl,List.map_append]
   exact hA'
  ·have hjg':¬ (j:Int)<(f.length:Int):=by omega
   simp [-Xa,hl,g3,g8,g9,g10,g18,g19,g20,hjg',hx]
   exact ⟨⟨i+1,by simp,by omega,o,by rw [← Xc4 hlt hf hjg];exact hA⟩,by omega⟩
 ·have hge':¬ (i:Int)<(fs.length:Int):=by omega
  rw [Xgp hge,hle] at hA
  have hv:=hA.val
  cases o with
  | none =>
   obtain ⟨rfl,hl0⟩:=hv
   have hl0':l=[]:=by simpa using hl0
   subst hl0'
   simp [hl,g3,g8,g9,g10,hge']
   refine sort_nil.use ?_
   refine compact_nil.use ?_
   exact ⟨⟨g,rfl⟩,.nils_pl 2⟩
  | some j =>
   obtain ⟨rfl,hg⟩:=hv
   have hsj:(σ++g)[σ.length+j]? = some (.cells ((l.map Ve).flatMap AV.cells)):=by
    rw [Qzr (by omega),Nat.add_sub_cancel_left]
    simpa using hg
   simp [hl,g3,g8,g9,g10,hge']
   refine StA.of ((Weg l hsj hll).mono ?_)
   rintro _ _ ⟨rfl,l',hp,hs,rfl⟩
   have hjl:=(Qzs.1 hsj).1
   have hll':l.length=l'.length:=hp.length_eq.symm
   simp [-Xa,hl,g3,g8,g9,g10,hge']
   rw [hll']
   rw [Ubi]
   have hj2:j<g.length:=(Qzs.1 hg).1
   have hr2:∀ X:AObj,(σ++g.set j X)[σ.length+j]? = some X:=fun X=>by
    rw [Qzr (by omega),Nat.add_sub_cancel_left,List.getElem?_set_self hj2]
   refine StA.of ((Wfu l' (hr2 _) (by omega)).mono ?_)
   rintro _ _ ⟨tl,rfl,rfl⟩
   rw [Oyez.dd_places hp hs,List.set_append_right _ _ (by omega),Nat.add_sub_cancel_left,List.set_set]
   exact ⟨⟨_,rfl⟩,Zer (by omega) (hr2 _)⟩
end Ab

/-
  Texts packed for a claim.
-/
import Derived.Test.YtcoikmapjepdjaaGreatDoorO10
import Derived.Test.YtcoikmapjepdjaaGreatDoorO12
set_option linter.all false
namespace Ab
open Go Go.RowKit Go.Proofs
attribute [local irreducible] aws awp aw1 Og Om Oc Oa Ogd Ov Ot awd Zb awh Wb Ogh Ohd awl Ogl Ohl Xb Vb QFn Ub QRo QBe ACode AYield
theorem Zhm:Uk Tryz.prog 211=some [1,1]:=by kernel_rfl
attribute [local simp] Ubm Xck Zhm Wg Xt
def Yae (t:List UInt8):List UInt8 × Int :=
 match Oyez.openedOf t with
 | .error e=>([],e)
 | .ok (b,m,n)=>if Oyez.sums b=(m,n) then (b,0) else ([],8)
set_option maxHeartbeats 1000000 in
set_option maxRecDepth 8000 in
theorem Ub0 (s:List UInt8):APure Tryz.prog 42 [.str s] (.tup [.str (Yae s).1,.int .i64 (Yae s).2]):=by
 refine APure.of fun σ=>?_
 generalize hX:Yae s=X
 have ho:=Vb7 s
 unfold Xad at ho
 unfold Yae at hX
 cases hE:Oyez.openedOf s with
 | error e =>
  have he:¬ e=0:=by rcases Oyez.openedOf_err hE with h | h<;>omega
  rw [hE] at hX ho
  simp only at hX ho
  subst hX
  refine Yb Tryz.func42 rfl (Ua Tryz.func42 (by decide) rfl) ?_
  simp [Tryz.ntmps42]
  refine ho.use ?_
  simp [he]
 | ok r =>
  obtain ⟨b,m,n⟩:=r
  obtain ⟨line,a,k,hS⟩:=Oyez.openedOf_inv hE
  have hbl:b.length≤2^40:=by have:=hS.most;omega
  rw [hE] at hX ho
  simp only at hX ho
  refine Yb Tryz.func42 rfl (Ua Tryz.func42 (by decide) rfl) ?_
  simp [Tryz.ntmps42]
  refine ho.use ?_
  simp
  refine Ym mixed (by kernel_rfl) ?_
  simp
  refine Zac (Xbm b (by omega)) ?_
  by_cases hq:Oyez.sums b=(m,n)
  ·rw [if_pos hq] at hX
   subst hX
   simp [Yam,hq]
  ·rw [if_neg hq] at hX
   subst hX
   have hq2:¬ ((Oyez.sums b).1=m∧(Oyez.sums b).2=n):=fun h=>hq (Prod.ext h.1 h.2)
   have hq3:(!decide (((Oyez.sums b).1:Int)=(m:Int))||!decide (((Oyez.sums b).2:Int)=(n:Int)))=true:=by
    rw [← Bool.not_and,Bool.not_eq_true',Bool.eq_false_iff]
    intro h
    rw [Bool.and_eq_true,decide_eq_true_eq,decide_eq_true_eq] at h
    exact hq2 ⟨by omega,by omega⟩
   simp [Yam,hq3]
theorem Zcy (a b j p:Nat):(a % p)*(b % p)^j % p=a*b^j % p:=by
 rw [Nat.mul_mod,Nat.mod_mod,← Nat.pow_mod,← Nat.mul_mod]
theorem Ugp (n:Nat) (hn:n<65537):APure Tryz.prog 120 [.int .i64 n] (.int .i64 (Oyez.inv n:Nat)):=by
 intro σ
 refine Yb Tryz.func120 rfl (Ua Tryz.func120 (by decide) rfl) ?_
 simp [Tryz.ntmps120]
 refine Xc (fun env σ'=>∃ (u:List AV) (o m k:Nat),env={ t:=u }∧u.length=21∧tg u 0=.int .i64 m∧tg u 3=.int .i64 o∧tg u 4=.int .i64 k∧σ'=σ∧m<65537∧o<65537∧k≤65535∧(o*m^k) % 65537=Oyez.inv n)
  (fun env _=>match tg env.t 4 with | .int _ k=>k.toNat | _=>0) ⟨_,1,n,65535,rfl,by simp,by simp,by simp,by simp,rfl,hn,by decide,by decide,by simp [Oyez.inv]⟩ ?_
 rintro env σ' ⟨u,o,m,k,rfl,hl,g0,g3,g4,rfl,hm,ho,hk,hd⟩
 rcases Nat.eq_zero_or_pos k with rfl | hpos
 ·have:o=Oyez.inv n:=by simpa [Nat.mod_eq_of_lt ho] using hd
  subst this
  simp [hl,g0,g3,g4]
 ·have hpos':(0:Int)<(k:Int):=by omega
  have hmm:m*m≤65536*65536:=Nat.mul_le_mul (by omega) (by omega)
  have hom:o*m≤65536*65536:=Nat.mul_le_mul (by omega) (by omega)
  have e1:(m:Int)*(m:Int)=((m*m:Nat):Int):=by simp
  have e2:(o:Int)*(m:Int)=((o*m:Nat):Int):=by simp
  have w1:=w64 (n:=(m:Int)*(m:Int)) (by omega) (by omega)
  have w2:=w64 (n:=(o:Int)*(m:Int)) (by omega) (by omega)
  have t2:(k:Int).tmod 2=((k % 2:Nat):Int):=(Int.ofNat_tmod _ _).symm
  have t1:((m:Int)*(m:Int)).tmod 65537=((m*m % 65537:Nat):Int):=by rw [e1];exact (Int.ofNat_tmod _ _).symm
  have t3:((o:Int)*(m:Int)).tmod 65537=((o*m % 65537:Nat):Int):=by rw [e2];exact (Int.ofNat_tmod _ _).symm
  have t4:(k:Int).tdiv 2=((k / 2:Nat):Int):=(Int.ofNat_tdiv _ _).symm
  have hm1:m*m % 65537<65537:=Nat.mod_lt _ (by decide)
  have ho1:o*m % 65537<65537:=Nat.mod_lt _ (by decide)
  have w3:=w64 (n:=((m*m % 65537:Nat):Int)) (by omega) (by omega)
  have w4:=w64 (n:=((o*m % 65537:Nat):Int)) (by omega) (by omega)
  have w7:=w64 (n:=(k:Int) / 2) (by omega) (by omega)
  have w5:=w64 (n:=((k / 2:Nat):Int)) (by omega) (by omega)
  have w6:=w64 (n:=((k % 2:Nat):Int)) (by omega) (by omega)
  rcases Nat.mod_two_eq_zero_or_one k with h2 | h2
  ·rw [h2] at t2 w6
   simp [hl,g0,g3,g4,hpos,t2,w6]
   refine ⟨⟨o,m*m % 65537,by rw [w1,t1],rfl,k / 2,by rw [w7];simp,hm1,ho,by omega,?_⟩,by rw [w7];omega⟩
   have h3:=Zcy o (m*m) (k / 2) 65537
   rw [Nat.mod_eq_of_lt ho] at h3
   rw [h3,← hd,← Nat.pow_two,← Nat.pow_mul,show 2*(k / 2)=k by omega]
  ·rw [h2] at t2 w6
   simp [hl,g0,g3,g4,hpos,t2,w6]
   refine ⟨⟨o*m % 65537,m*m % 65537,by rw [w1,t1],by rw [w2,t3],k / 2,by rw [w7];simp,hm1,ho1,by omega,?_⟩,by rw [w7];omega⟩
   rw [Zcy,← hd,← Nat.pow_two,← Nat.pow_mul,Nat.mul_assoc,← Nat.pow_succ',show (2*(k / 2)).succ=k by omega]
theorem Yd3 (n:Nat):Oyez.inv n<65537:=by
 have h:∀ a:Nat,a % 65537<65537:=fun a=>Nat.mod_lt _ (by decide)
 rw [show Oyez.inv n=n^65535 % 65537 from Oyez.inv.eq_1 n]
 generalize n^65535=a
 exact h a
theorem Zct (t:List UInt8):(Yae t).2=(Oyez.openOf t).2:=by
 unfold Yae Oyez.openOf
 cases Oyez.openedOf t with
 | error e=>rfl
 | ok q =>
  obtain ⟨b,m,n⟩:=q
  simp only
  split<;>rfl
theorem Wic (s:List UInt8):Uv (s.map fun c=>AV.int .u8 c.toNat)=some s:=by
 induction s with
 | nil=>rfl
 | cons c s ih=>simp [Uv,ih]
theorem Vct (s:List UInt8) (j:Nat) (hj:j<s.length) (v:Int) (h0:0≤v) (h1:v≤255) :
  List.take j (s.map fun c=>AV.int .u8 c.toNat)++AV.int .u8 v::List.drop (j+1) (s.map fun c=>AV.int .u8 c.toNat)=(s.set j (UInt8.ofNat v.toNat)).map fun c=>AV.int .u8 c.toNat:=by
 rw [List.set_eq_take_append_cons_drop,if_pos hj,List.map_append,List.map_cons,List.map_take,List.map_drop]
 have:((UInt8.ofNat v.toNat).toNat:Int)=v:=by simp;omega
 rw [this]
theorem Wcv (s:List UInt8) (σ:Za):Vm Tryz.prog 9 22 (.str s) σ=some (.arr 1 σ.length 0 s.length,σ++[.cells (s.map fun c=>AV.int .u8 c.toNat)]):=by simp [Vm]
theorem Xcc (n:Int) (σ:Za):Vm Tryz.prog 5 3 (.int .u8 n) σ=some (.int .i64 (IntKind.i64.wrap n),σ):=by simp [Vm]
theorem Vcu (n:Int) (σ:Za):Vm Tryz.prog 3 5 (.int .i64 n) σ=some (.int .u8 (IntKind.u8.wrap n),σ):=by simp [Vm]
theorem Xc1 {r n:Nat} {t:List UInt8} {σ:Za} (h:σ[r]? = some (.cells (t.map fun c=>AV.int .u8 c.toNat))) (hn:t.length=n):Vm Tryz.prog 22 9 (.arr 1 r 0 n) σ=some (.str t,σ):=by
 subst hn
 have h1:(t.map fun c=>AV.int .u8 c.toNat).all AV.one=true:=by
  rw [List.all_eq_true]
  intro x hx
  obtain ⟨c,_,rfl⟩:=List.mem_map.1 hx
  rfl
 have h2:Uo 1 (.arr 1 r 0 t.length) σ=some (t.map fun c=>AV.int .u8 c.toNat,t.length):=by
  simp only [Uo]
  rw [h]
  have h3:sub (t.map fun c=>AV.int .u8 c.toNat) (0*1) (t.length*1)=t.map fun c=>AV.int .u8 c.toNat:=by
   unfold sub
   rw [Nat.zero_mul,Nat.mul_one,List.drop_zero,List.take_of_length_le (by simp)]
  simp only [h3]
  rw [if_pos ⟨trivial,by simp,h1⟩]
 have h4:Wc Tryz.prog 22=some 5:=by simp
 have h5:Vf Tryz.prog 5=some .u8∧Ud Tryz.prog 9=true:=by simp
 simp only [Vm,abstr,h4,if_pos h5,h2,Wic]
 rfl
def Xz (t:List UInt8):List UInt8 × Int × Int :=
 match Oyez.openedOf t with
 | .error e=>([],0,e)
 | .ok (b,m,n)=>if Oyez.sums b=(m,n) then ([],0,5) else ((Oyez.mendC t b m n).1,(Oyez.mendC t b m n).2.1,(Oyez.mendC t b m n).2.2)
set_option maxHeartbeats 4000000 in
set_option maxRecDepth 8000 in
theorem Ve4 (s:List UInt8):APure Tryz.prog 41 [.str s] (.tup [.str (Xz s).1,.int .i64 (Xz s).2.1,.int .i64 (Xz s).2.2]):=by
 refine APure.of fun σ=>?_
 generalize hX:Xz s=X
 have ho:=Vb7 s
 unfold Xad at ho
 unfold Xz at hX
 cases hE:Oyez.openedOf s with
 | error e =>
  have he:¬ e=0:=by rcases Oyez.openedOf_err hE with h | h<;>omega
  rw [hE] at hX ho
  simp only at hX ho
  subst hX
  refine Yb Tryz.func41 rfl (Ua Tryz.func41 (by decide) rfl) ?_
  simp [Tryz.ntmps41]
  refine ho.use ?_
  simp [he]
 | ok r =>
  obtain ⟨b,m,n⟩:=r
  obtain ⟨line,a,k,hS⟩:=Oyez.openedOf_inv hE
  have hbm:=hS.most
  have hs:s.length≤2^40:=by have:=hS.len;omega
  have hbs:b.length<s.length:=by have:=congrArg List.length hS.text;simp at this;omega
  have hm:=Vcz hS.one
  have hn:=Vcz hS.two
  have hsl:=Vbu b
  rw [hE] at hX ho
  simp only at hX ho
  refine Yb Tryz.func41 rfl (Ua Tryz.func41 (by decide) rfl) ?_
  simp [Tryz.ntmps41]
  refine ho.use ?_
  simp
  refine (Xbm b (by omega)).use ?_
  by_cases hq:Oyez.sums b=(m,n)
  ·rw [if_pos hq] at hX
   subst hX
   simp [Yam,hq]
  ·rw [if_neg hq] at hX
   have hq2:¬ ((Oyez.sums b).1=m∧(Oyez.sums b).2=n):=fun h=>hq (Prod.ext h.1 h.2)
   have hq3:(decide (((Oyez.sums b).1:Int)=(m:Int))&&decide (((Oyez.sums b).2:Int)=(n:Int)))=false:=by
    rw [Bool.eq_false_iff]
    intro h
    rw [Bool.and_eq_true,decide_eq_true_eq,decide_eq_true_eq] at h
    exact hq2 ⟨by omega,by omega⟩
   have hX2:((Oyez.mendC s b m n).1,((Oyez.mendC s b m n).2.1:Int),(Oyez.mendC s b m n).2.2)=X:=hX
   clear hX
   generalize hC:Oyez.mendC s b m n=C at hX2
   unfold Oyez.mendC at hC
   generalize Oyez.sums b=sm at *
   obtain ⟨x,y⟩:=sm
   obtain ⟨hx1,hy1⟩:=hsl
   simp only at hC hq3 hx1 hy1
   generalize hmd:(x+65537 - m) % 65537=more at hC
   generalize hbd:(y+65537 - n) % 65537=byy at hC
   have hm1:more<65537:=hmd▸Nat.mod_lt _ (by decide)
   have hb1:byy<65537:=hbd▸Nat.mod_lt _ (by decide)
   have hinv:=Ugp more hm1
   have hiv1:Oyez.inv more<65537:=Yd3 more
   generalize Oyez.inv more=iv at hC hinv hiv1
   have hbi:byy*iv≤65536*65536:=Nat.mul_le_mul (by omega) (by omega)
   have e3:(byy:Int)*(iv:Int)=((byy*iv:Nat):Int):=by simp
   have i1:((x:Int) - m+65537).tmod 65537=(more:Int):=by
    rw [show (x:Int) - m+65537=((x+65537 - m:Nat):Int) by omega,← hmd];exact (Int.ofNat_tmod _ _).symm
   have i2:((y:Int) - n+65537).tmod 65537=(byy:Int):=by
    rw [show (y:Int) - n+65537=((y+65537 - n:Nat):Int) by omega,← hbd];exact (Int.ofNat_tmod _ _).symm
   have w3:=w64 (n:=(byy:Int)*(iv:Int)) (by omega) (by omega)
   have i3:((byy:Int)*(iv:Int)).tmod 65537=((byy*iv % 65537:Nat):Int):=by rw [e3];exact (Int.ofNat_tmod _ _).symm
   have hat1:byy*iv % 65537<65537:=Nat.mod_lt _ (by decide)
   generalize byy*iv % 65537=at1 at hC i3 hat1
   have w1:=w64 (n:=(x:Int) - m) (by omega) (by omega)
   have w2:=w64 (n:=(y:Int) - n) (by omega) (by omega)
   have w4:=w64 (n:=(x:Int) - m+65537) (by omega) (by omega)
   have w5:=w64 (n:=(y:Int) - n+65537) (by omega) (by omega)
   have w6:=w64 (n:=(at1:Int) - 1) (by omega) (by omega)
   have w7:=w64 (n:=(more:Int) - 65537) (by omega) (by omega)
   have w9:=w64 (n:=(b.length:Int) - 1) (by omega) (by omega)
   clear hmd hbd hx1 hy1 e3 hbi
   simp [Yam,hq3]
   refine Ym mixed (by kernel_rfl) ?_
   simp [w1,w2,w4,w5,i1,i2]
   refine hinv.use ?_
   simp [w3,i3,w6]
   by_cases h32:(32768:Int)<(more:Int)
   ·have hg:Oyez.sgn more=(more:Int) - 65537:=by unfold Oyez.sgn;rw [if_pos (by omega)]
    rw [hg] at hC
    simp [h32,w7]
    refine (Yah _ _ _).use ?_
    by_cases c1:at1=0∨b.length<at1
    ·have e:(decide (1≤(at1:Int))&&decide (at1≤b.length))=false:=by rw [Bool.eq_false_iff];simp;omega
     rw [if_pos c1] at hC
     subst hC
     subst hX2
     simp [w9,e]
    ·rw [if_neg c1] at hC
     obtain ⟨j,rfl⟩:∃ j,at1=j+1:=⟨at1 - 1,by omega⟩
     have hj:j<b.length:=by omega
     have hjz:((j+1:Nat):Int) - 1=(j:Int):=by omega
     have hj2:(j:Int)≤(b.length:Int) - 1:=by omega
     have hgd:b.getD (j+1 - 1) 0=b[j]:=by simp [hj]
     have hb8:=Xbo b[j]
     rw [hgd] at hC
     have v1:=w64 (n:=(b[j].toNat:Int)) (by omega) (by omega)
     obtain ⟨v,hv⟩:∃ v:Int,(b[j].toNat:Int) - ((more:Int) - 65537)=v:=⟨_,rfl⟩
     have v2:IntKind.i64.wrap ((b[j].toNat:Int) - ((more:Int) - 65537))=v:=by rw [← hv];exact w64 (by omega) (by omega)
     rw [hv] at hC
     clear hv
     simp [w9,hjz,hj,hj2,v1,w7,v2]
     refine (Yah _ _ _).use ?_
     by_cases c2:v<0∨255<v
     ·have e2:(decide (0≤v)&&decide (v≤255))=false:=by rw [Bool.eq_false_iff];simp;omega
      rw [if_pos c2] at hC
      subst hC
      subst hX2
      simp [e2]
     ·have e2:(decide (0≤v)&&decide (v≤255))=true:=by simp;omega
      rw [if_neg c2] at hC
      have hv0:0≤v:=by omega
      have hv1:v≤255:=by omega
      have hw8:=w8 hv0 hv1
      have hjs:j<s.length:=by omega
      have hjs2:j+1≤s.length:=by omega
      have hset:=Vct s j hjs v hv0 hv1
      rw [Nat.add_sub_cancel] at hC
      generalize ht:s.set j (UInt8.ofNat v.toNat)=t at hC hset
      have htl:t.length=s.length:=by rw [← ht];simp
      have hcv:=fun (σ:Za) (r:Nat) (h:σ[r]? = some (.cells (t.map fun c=>AV.int .u8 c.toNat)))=>Xc1 h htl
      simp [-Vm,Wcv,Xcc,Vcu,e2,hjz,hj,v1,w7,v2,hw8,hjs,hjs2]
      rw [hset]
      simp [-Vm,hcv]
      refine (Ub0 t).use ?_
      have hoe:=Zct t
      by_cases h0:(Oyez.openOf t).2=0
      ·rw [if_pos h0] at hC
       rw [h0] at hoe
       subst hC
       subst hX2
       simp [-Vm,hcv,hoe]
      ·rw [if_neg h0] at hC
       have h0':¬ (Yae t).2=0:=by rw [hoe];exact h0
       subst hC
       subst hX2
       simp [-Vm,hcv,h0']
   ·have hg:Oyez.sgn more=(more:Int):=by unfold Oyez.sgn;rw [if_neg (by omega)]
    rw [hg] at hC
    simp [h32,w7]
    refine (Yah _ _ _).use ?_
    by_cases c1:at1=0∨b.length<at1
    ·have e:(decide (1≤(at1:Int))&&decide (at1≤b.length))=false:=by rw [Bool.eq_false_iff];simp;omega
     rw [if_pos c1] at hC
     subst hC
     subst hX2
     simp [w9,e]
    ·rw [if_neg c1] at hC
     obtain ⟨j,rfl⟩:∃ j,at1=j+1:=⟨at1 - 1,by omega⟩
     have hj:j<b.length:=by omega
     have hjz:((j+1:Nat):Int) - 1=(j:Int):=by omega
     have hj2:(j:Int)≤(b.length:Int) - 1:=by omega
     have hgd:b.getD (j+1 - 1) 0=b[j]:=by simp [hj]
     have hb8:=Xbo b[j]
     rw [hgd] at hC
     have v1:=w64 (n:=(b[j].toNat:Int)) (by omega) (by omega)
     obtain ⟨v,hv⟩:∃ v:Int,(b[j].toNat:Int) - ((more:Int))=v:=⟨_,rfl⟩
     have v2:IntKind.i64.wrap ((b[j].toNat:Int) - ((more:Int)))=v:=by rw [← hv];exact w64 (by omega) (by omega)
     rw [hv] at hC
     clear hv
     simp [w9,hjz,hj,hj2,v1,v2]
     refine (Yah _ _ _).use ?_
     by_cases c2:v<0∨255<v
     ·have e2:(decide (0≤v)&&decide (v≤255))=false:=by rw [Bool.eq_false_iff];simp;omega
      rw [if_pos c2] at hC
      subst hC
      subst hX2
      simp [e2]
     ·have e2:(decide (0≤v)&&decide (v≤255))=true:=by simp;omega
      rw [if_neg c2] at hC
      have hv0:0≤v:=by omega
      have hv1:v≤255:=by omega
      have hw8:=w8 hv0 hv1
      have hjs:j<s.length:=by omega
      have hjs2:j+1≤s.length:=by omega
      have hset:=Vct s j hjs v hv0 hv1
      rw [Nat.add_sub_cancel] at hC
      generalize ht:s.set j (UInt8.ofNat v.toNat)=t at hC hset
      have htl:t.length=s.length:=by rw [← ht];simp
      have hcv:=fun (σ:Za) (r:Nat) (h:σ[r]? = some (.cells (t.map fun c=>AV.int .u8 c.toNat)))=>Xc1 h htl
      simp [-Vm,Wcv,Xcc,Vcu,e2,hjz,hj,v1,v2,hw8,hjs,hjs2]
      rw [hset]
      simp [-Vm,hcv]
      refine (Ub0 t).use ?_
      have hoe:=Zct t
      by_cases h0:(Oyez.openOf t).2=0
      ·rw [if_pos h0] at hC
       rw [h0] at hoe
       subst hC
       subst hX2
       simp [-Vm,hcv,hoe]
      ·rw [if_neg h0] at hC
       have h0':¬ (Yae t).2=0:=by rw [hoe];exact h0
       subst hC
       subst hX2
       simp [-Vm,hcv,h0']
end Ab

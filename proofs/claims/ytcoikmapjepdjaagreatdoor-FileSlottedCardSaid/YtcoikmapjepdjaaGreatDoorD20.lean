/-
  Texts packed for a claim.
-/
import Derived.Test.YtcoikmapjepdjaaGreatDoorD00
import Derived.Test.YtcoikmapjepdjaaGreatDoorD11
import Derived.Test.YtcoikmapjepdjaaGreatDoorD17
import Derived.Test.YtcoikmapjepdjaaGreatDoorD18
import Derived.Test.YtcoikmapjepdjaaGreatDoorD19
import Derived.Test.YtcoikmapjepdjaaGreatDoorD13
import Derived.Test.YtcoikmapjepdjaaGreatDoorD15
set_option linter.all false
namespace Ab
open Go Go.RowKit Go.Proofs
attribute [local irreducible] aws awp aw1 Og Om Oc Oa Ogd Ov Ot awd Zb awh Xb Ogh Ohd awl Ogl Ohl Wb Vb QFn Ub QRo QBe ACode AYield
theorem Ydi:Vm Tryz.prog 211=some [1,1]:=by kernel_rfl
attribute [local simp] Vbd Wbw Ydi Uf Wu
def Vae (t:List UInt8):List UInt8 × Int :=
 match Oyez.openedOf t with
 | .error e=>([],e)
 | .ok (b,m,n)=>if Oyez.sums b=(m,n) then (b,0) else ([],8)
set_option maxHeartbeats 1000000 in
set_option maxRecDepth 8000 in
theorem Zcd (s:List UInt8):APure Tryz.prog 42 [.str s] (.tup [.str (Vae s).1,.int .i64 (Vae s).2]):=by
 refine APure.of fun σ=>?_
 generalize hX:Vae s=X
 have ho:=Xb6 s
 unfold Uz at ho
 unfold Vae at hX
 cases hE:Oyez.openedOf s with
 | error e =>
  have he:¬ e=0:=by rcases Oyez.openedOf_err hE with h | h<;>omega
  rw [hE] at hX ho
  simp only at hX ho
  subst hX
  refine Yb Tryz.func42 rfl (Va Tryz.func42 (by decide) rfl) ?_
  simp [Tryz.ntmps42]
  refine ho.use ?_
  simp [he]
 | ok r =>
  obtain ⟨b,m,n⟩:=r
  obtain ⟨line,a,k,hS⟩:=Oyez.openedOf_inv hE
  have hbl:b.length≤2^40:=by have:=hS.most;omega
  rw [hE] at hX ho
  simp only at hX ho
  refine Yb Tryz.func42 rfl (Va Tryz.func42 (by decide) rfl) ?_
  simp [Tryz.ntmps42]
  refine ho.use ?_
  simp
  refine Zj mixed (by kernel_rfl) ?_
  simp
  refine Ut (Ubj b (by omega)) ?_
  by_cases hq:Oyez.sums b=(m,n)
  ·rw [if_pos hq] at hX
   subst hX
   simp [Wad,hq]
  ·rw [if_neg hq] at hX
   subst hX
   have hq2:¬ ((Oyez.sums b).1=m∧(Oyez.sums b).2=n):=fun h=>hq (Prod.ext h.1 h.2)
   have hq3:(!decide (((Oyez.sums b).1:Int)=(m:Int))||!decide (((Oyez.sums b).2:Int)=(n:Int)))=true:=by
    rw [← Bool.not_and,Bool.not_eq_true',Bool.eq_false_iff]
    intro h
    rw [Bool.and_eq_true,decide_eq_true_eq,decide_eq_true_eq] at h
    exact hq2 ⟨by omega,by omega⟩
   simp [Wad,hq3]
theorem Ybu (a b j p:Nat):(a % p)*(b % p)^j % p=a*b^j % p:=by
 rw [Nat.mul_mod,Nat.mod_mod,← Nat.pow_mod,← Nat.mul_mod]
theorem Uef (n:Nat) (hn:n<65537):APure Tryz.prog 120 [.int .i64 n] (.int .i64 (Oyez.inv n:Nat)):=by
 intro σ
 refine Yb Tryz.func120 rfl (Va Tryz.func120 (by decide) rfl) ?_
 simp [Tryz.ntmps120]
 refine Vd (fun env σ'=>∃ (u:List AV) (o m k:Nat),env={ t:=u }∧u.length=21∧tg u 0=.int .i64 m∧tg u 3=.int .i64 o∧tg u 4=.int .i64 k∧σ'=σ∧m<65537∧o<65537∧k≤65535∧(o*m^k) % 65537=Oyez.inv n)
  (fun env _=>match tg env.t 4 with | .int _ k=>k.toNat | _=>0) ⟨_,1,n,65535,rfl,by simp,by simp,by simp,by simp,rfl,hn,by decide,by decide,by simp [Oyez.inv]⟩ ?_
 rintro env σ' ⟨u,o,m,k,rfl,hl,g0,g3,g4,rfl,hm,ho,hk,hd⟩
 rcases Nat.eq_zero_or_pos k with rfl | hpos
 ·have:o=Oyez.inv n:=by simpa [Nat.mod_eq_of_lt ho] using hd
  subst this
  simp [hl,g0,g3,g4]
 ·have hpos':(0:Int)<(k:Int):=by omega
  have hmm:m*m≤65536*65536:=Nat.mul_le_mul (by omega) (by omega)
  have hom:o*m≤65536*65536:=Nat.mul_le_mul (by omega) (by omega)
  have e1:(m:Int)*(m:Int)=((m*m:Nat):Int):=by simp
  have e2:(o:Int)*(m:Int)=((o*m:Nat):Int):=by simp
  have w1:=w64 (n:=(m:Int)*(m:Int)) (by omega) (by omega)
  have w2:=w64 (n:=(o:Int)*(m:Int)) (by omega) (by omega)
  have t2:(k:Int).tmod 2=((k % 2:Nat):Int):=(Int.ofNat_tmod _ _).symm
  have t1:((m:Int)*(m:Int)).tmod 65537=((m*m % 65537:Nat):Int):=by rw [e1];exact (Int.ofNat_tmod _ _).symm
  have t3:((o:Int)*(m:Int)).tmod 65537=((o*m % 65537:Nat):Int):=by rw [e2];exact (Int.ofNat_tmod _ _).symm
  have t4:(k:Int).tdiv 2=((k / 2:Nat):Int):=(Int.ofNat_tdiv _ _).symm
  have hm1:m*m % 65537<65537:=Nat.mod_lt _ (by decide)
  have ho1:o*m % 65537<65537:=Nat.mod_lt _ (by decide)
  have w3:=w64 (n:=((m*m % 65537:Nat):Int)) (by omega) (by omega)
  have w4:=w64 (n:=((o*m % 65537:Nat):Int)) (by omega) (by omega)
  have w7:=w64 (n:=(k:Int) / 2) (by omega) (by omega)
  have w5:=w64 (n:=((k / 2:Nat):Int)) (by omega) (by omega)
  have w6:=w64 (n:=((k % 2:Nat):Int)) (by omega) (by omega)
  rcases Nat.mod_two_eq_zero_or_one k with h2 | h2
  ·rw [h2] at t2 w6
   simp [hl,g0,g3,g4,hpos,t2,w6]
   refine ⟨⟨o,m*m % 65537,by rw [w1,t1],rfl,k / 2,by rw [w7];simp,hm1,ho,by omega,?_⟩,by rw [w7];omega⟩
   have h3:=Ybu o (m*m) (k / 2) 65537
   rw [Nat.mod_eq_of_lt ho] at h3
   rw [h3,← hd,← Nat.pow_two,← Nat.pow_mul,show 2*(k / 2)=k by omega]
  ·rw [h2] at t2 w6
   simp [hl,g0,g3,g4,hpos,t2,w6]
   refine ⟨⟨o*m % 65537,m*m % 65537,by rw [w1,t1],by rw [w2,t3],k / 2,by rw [w7];simp,hm1,ho1,by omega,?_⟩,by rw [w7];omega⟩
   rw [Ybu,← hd,← Nat.pow_two,← Nat.pow_mul,Nat.mul_assoc,← Nat.pow_succ',show (2*(k / 2)).succ=k by omega]
theorem Zhb (n:Nat):Oyez.inv n<65537:=by
 have h:∀ a:Nat,a % 65537<65537:=fun a=>Nat.mod_lt _ (by decide)
 rw [show Oyez.inv n=n^65535 % 65537 from Oyez.inv.eq_1 n]
 generalize n^65535=a
 exact h a
theorem Wcg (t:List UInt8):(Vae t).2=(Oyez.openOf t).2:=by
 unfold Vae Oyez.openOf
 cases Oyez.openedOf t with
 | error e=>rfl
 | ok q =>
  obtain ⟨b,m,n⟩:=q
  simp only
  split<;>rfl
theorem Wgq (s:List UInt8):Zy (s.map fun c=>AV.int .u8 c.toNat)=some s:=by
 induction s with
 | nil=>rfl
 | cons c s ih=>simp [Zy,ih]
theorem Zcl (s:List UInt8) (j:Nat) (hj:j<s.length) (v:Int) (h0:0≤v) (h1:v≤255) :
  List.take j (s.map fun c=>AV.int .u8 c.toNat)++AV.int .u8 v::List.drop (j+1) (s.map fun c=>AV.int .u8 c.toNat)=(s.set j (UInt8.ofNat v.toNat)).map fun c=>AV.int .u8 c.toNat:=by
 rw [List.set_eq_take_append_cons_drop,if_pos hj,List.map_append,List.map_cons,List.map_take,List.map_drop]
 have:((UInt8.ofNat v.toNat).toNat:Int)=v:=by simp;omega
 rw [this]
theorem Xch (s:List UInt8) (σ:Za):Ym Tryz.prog 9 22 (.str s) σ=some (.arr 1 σ.length 0 s.length,σ++[.cells (s.map fun c=>AV.int .u8 c.toNat)]):=by simp [Ym]
theorem Ucl (n:Int) (σ:Za):Ym Tryz.prog 5 3 (.int .u8 n) σ=some (.int .i64 (IntKind.i64.wrap n),σ):=by simp [Ym]
theorem Wbs (n:Int) (σ:Za):Ym Tryz.prog 3 5 (.int .i64 n) σ=some (.int .u8 (IntKind.u8.wrap n),σ):=by simp [Ym]
theorem Xce {r n:Nat} {t:List UInt8} {σ:Za} (h:σ[r]? = some (.cells (t.map fun c=>AV.int .u8 c.toNat))) (hn:t.length=n):Ym Tryz.prog 22 9 (.arr 1 r 0 n) σ=some (.str t,σ):=by
 subst hn
 have h1:(t.map fun c=>AV.int .u8 c.toNat).all AV.one=true:=by
  rw [List.all_eq_true]
  intro x hx
  obtain ⟨c,_,rfl⟩:=List.mem_map.1 hx
  rfl
 have h2:Uo 1 (.arr 1 r 0 t.length) σ=some (t.map fun c=>AV.int .u8 c.toNat,t.length):=by
  simp only [Uo]
  rw [h]
  have h3:sub (t.map fun c=>AV.int .u8 c.toNat) (0*1) (t.length*1)=t.map fun c=>AV.int .u8 c.toNat:=by
   unfold sub
   rw [Nat.zero_mul,Nat.mul_one,List.drop_zero,List.take_of_length_le (by simp)]
  simp only [h3]
  rw [if_pos ⟨trivial,by simp,h1⟩]
 have h4:Yd Tryz.prog 22=some 5:=by simp
 have h5:Vf Tryz.prog 5=some .u8∧Wd Tryz.prog 9=true:=by simp
 simp only [Ym,abstr,h4,if_pos h5,h2,Wgq]
 rfl
def Uag (t:List UInt8):List UInt8 × Int × Int :=
 match Oyez.openedOf t with
 | .error e=>([],0,e)
 | .ok (b,m,n)=>if Oyez.sums b=(m,n) then ([],0,5) else ((Oyez.mendC t b m n).1,(Oyez.mendC t b m n).2.1,(Oyez.mendC t b m n).2.2)
set_option maxHeartbeats 4000000 in
set_option maxRecDepth 8000 in
theorem Udr (s:List UInt8):APure Tryz.prog 41 [.str s] (.tup [.str (Uag s).1,.int .i64 (Uag s).2.1,.int .i64 (Uag s).2.2]):=by
 refine APure.of fun σ=>?_
 generalize hX:Uag s=X
 have ho:=Xb6 s
 unfold Uz at ho
 unfold Uag at hX
 cases hE:Oyez.openedOf s with
 | error e =>
  have he:¬ e=0:=by rcases Oyez.openedOf_err hE with h | h<;>omega
  rw [hE] at hX ho
  simp only at hX ho
  subst hX
  refine Yb Tryz.func41 rfl (Va Tryz.func41 (by decide) rfl) ?_
  simp [Tryz.ntmps41]
  refine ho.use ?_
  simp [he]
 | ok r =>
  obtain ⟨b,m,n⟩:=r
  obtain ⟨line,a,k,hS⟩:=Oyez.openedOf_inv hE
  have hbm:=hS.most
  have hs:s.length≤2^40:=by have:=hS.len;omega
  have hbs:b.length<s.length:=by have:=congrArg List.length hS.text;simp at this;omega
  have hm:=Ubu hS.one
  have hn:=Ubu hS.two
  have hsl:=Xc0 b
  rw [hE] at hX ho
  simp only at hX ho
  refine Yb Tryz.func41 rfl (Va Tryz.func41 (by decide) rfl) ?_
  simp [Tryz.ntmps41]
  refine ho.use ?_
  simp
  refine (Ubj b (by omega)).use ?_
  by_cases hq:Oyez.sums b=(m,n)
  ·rw [if_pos hq] at hX
   subst hX
   simp [Wad,hq]
  ·rw [if_neg hq] at hX
   have hq2:¬ ((Oyez.sums b).1=m∧(Oyez.sums b).2=n):=fun h=>hq (Prod.ext h.1 h.2)
   have hq3:(decide (((Oyez.sums b).1:Int)=(m:Int))&&decide (((Oyez.sums b).2:Int)=(n:Int)))=false:=by
    rw [Bool.eq_false_iff]
    intro h
    rw [Bool.and_eq_true,decide_eq_true_eq,decide_eq_true_eq] at h
    exact hq2 ⟨by omega,by omega⟩
   have hX2:((Oyez.mendC s b m n).1,((Oyez.mendC s b m n).2.1:Int),(Oyez.mendC s b m n).2.2)=X:=hX
   clear hX
   generalize hC:Oyez.mendC s b m n=C at hX2
   unfold Oyez.mendC at hC
   generalize Oyez.sums b=sm at *
   obtain ⟨x,y⟩:=sm
   obtain ⟨hx1,hy1⟩:=hsl
   simp only at hC hq3 hx1 hy1
   generalize hmd:(x+65537 - m) % 65537=more at hC
   generalize hbd:(y+65537 - n) % 65537=byy at hC
   have hm1:more<65537:=hmd▸Nat.mod_lt _ (by decide)
   have hb1:byy<65537:=hbd▸Nat.mod_lt _ (by decide)
   have hinv:=Uef more hm1
   have hiv1:Oyez.inv more<65537:=Zhb more
   generalize Oyez.inv more=iv at hC hinv hiv1
   have hbi:byy*iv≤65536*65536:=Nat.mul_le_mul (by omega) (by omega)
   have e3:(byy:Int)*(iv:Int)=((byy*iv:Nat):Int):=by simp
   have i1:((x:Int) - m+65537).tmod 65537=(more:Int):=by
    rw [show (x:Int) - m+65537=((x+65537 - m:Nat):Int) by omega,← hmd];exact (Int.ofNat_tmod _ _).symm
   have i2:((y:Int) - n+65537).tmod 65537=(byy:Int):=by
    rw [show (y:Int) - n+65537=((y+65537 - n:Nat):Int) by omega,← hbd];exact (Int.ofNat_tmod _ _).symm
   have w3:=w64 (n:=(byy:Int)*(iv:Int)) (by omega) (by omega)
   have i3:((byy:Int)*(iv:Int)).tmod 65537=((byy*iv % 65537:Nat):Int):=by rw [e3];exact (Int.ofNat_tmod _ _).symm
   have hat1:byy*iv % 65537<65537:=Nat.mod_lt _ (by decide)
   generalize byy*iv % 65537=at1 at hC i3 hat1
   have w1:=w64 (n:=(x:Int) - m) (by omega) (by omega)
   have w2:=w64 (n:=(y:Int) - n) (by omega) (by omega)
   have w4:=w64 (n:=(x:Int) - m+65537) (by omega) (by omega)
   have w5:=w64 (n:=(y:Int) - n+65537) (by omega) (by omega)
   have w6:=w64 (n:=(at1:Int) - 1) (by omega) (by omega)
   have w7:=w64 (n:=(more:Int) - 65537) (by omega) (by omega)
   have w9:=w64 (n:=(b.length:Int) - 1) (by omega) (by omega)
   clear hmd hbd hx1 hy1 e3 hbi
   simp [Wad,hq3]
   refine Zj mixed (by kernel_rfl) ?_
   simp [w1,w2,w4,w5,i1,i2]
   refine hinv.use ?_
   simp [w3,i3,w6]
   by_cases h32:(32768:Int)<(more:Int)
   ·have hg:Oyez.sgn more=(more:Int) - 65537:=by unfold Oyez.sgn;rw [if_pos (by omega)]
    rw [hg] at hC
    simp [h32,w7]
    refine (Xac _ _ _).use ?_
    by_cases c1:at1=0∨b.length<at1
    ·have e:(decide (1≤(at1:Int))&&decide (at1≤b.length))=false:=by rw [Bool.eq_false_iff];simp;omega
     rw [if_pos c1] at hC
     subst hC
     subst hX2
     simp [w9,e]
    ·rw [if_neg c1] at hC
     obtain ⟨j,rfl⟩:∃ j,at1=j+1:=⟨at1 - 1,by omega⟩
     have hj:j<b.length:=by omega
     have hjz:((j+1:Nat):Int) - 1=(j:Int):=by omega
     have hj2:(j:Int)≤(b.length:Int) - 1:=by omega
     have hgd:b.getD (j+1 - 1) 0=b[j]:=by simp [hj]
     have hb8:=Wbg b[j]
     rw [hgd] at hC
     have v1:=w64 (n:=(b[j].toNat:Int)) (by omega) (by omega)
     obtain ⟨v,hv⟩:∃ v:Int,(b[j].toNat:Int) - ((more:Int) - 65537)=v:=⟨_,rfl⟩
     have v2:IntKind.i64.wrap ((b[j].toNat:Int) - ((more:Int) - 65537))=v:=by rw [← hv];exact w64 (by omega) (by omega)
     rw [hv] at hC
     clear hv
     simp [w9,hjz,hj,hj2,v1,w7,v2]
     refine (Xac _ _ _).use ?_
     by_cases c2:v<0∨255<v
     ·have e2:(decide (0≤v)&&decide (v≤255))=false:=by rw [Bool.eq_false_iff];simp;omega
      rw [if_pos c2] at hC
      subst hC
      subst hX2
      simp [e2]
     ·have e2:(decide (0≤v)&&decide (v≤255))=true:=by simp;omega
      rw [if_neg c2] at hC
      have hv0:0≤v:=by omega
      have hv1:v≤255:=by omega
      have hw8:=w8 hv0 hv1
      have hjs:j<s.length:=by omega
      have hjs2:j+1≤s.length:=by omega
      have hset:=Zcl s j hjs v hv0 hv1
      rw [Nat.add_sub_cancel] at hC
      generalize ht:s.set j (UInt8.ofNat v.toNat)=t at hC hset
      have htl:t.length=s.length:=by rw [← ht];simp
      have hcv:=fun (σ:Za) (r:Nat) (h:σ[r]? = some (.cells (t.map fun c=>AV.int .u8 c.toNat)))=>Xce h htl
      simp [-Ym,Xch,Ucl,Wbs,e2,hjz,hj,v1,w7,v2,hw8,hjs,hjs2]
      rw [hset]
      simp [-Ym,hcv]
      refine (Zcd t).use ?_
      have hoe:=Wcg t
      by_cases h0:(Oyez.openOf t).2=0
      ·rw [if_pos h0] at hC
       rw [h0] at hoe
       subst hC
       subst hX2
       simp [-Ym,hcv,hoe]
      ·rw [if_neg h0] at hC
       have h0':¬ (Vae t).2=0:=by rw [hoe];exact h0
       subst hC
       subst hX2
       simp [-Ym,hcv,h0']
   ·have hg:Oyez.sgn more=(more:Int):=by unfold Oyez.sgn;rw [if_neg (by omega)]
    rw [hg] at hC
    simp [h32,w7]
    refine (Xac _ _ _).use ?_
    by_cases c1:at1=0∨b.length<at1
    ·have e:(decide (1≤(at1:Int))&&decide (at1≤b.length))=false:=by rw [Bool.eq_false_iff];simp;omega
     rw [if_pos c1] at hC
     subst hC
     subst hX2
     simp [w9,e]
    ·rw [if_neg c1] at hC
     obtain ⟨j,rfl⟩:∃ j,at1=j+1:=⟨at1 - 1,by omega⟩
     have hj:j<b.length:=by omega
     have hjz:((j+1:Nat):Int) - 1=(j:Int):=by omega
     have hj2:(j:Int)≤(b.length:Int) - 1:=by omega
     have hgd:b.getD (j+1 - 1) 0=b[j]:=by simp [hj]
     have hb8:=Wbg b[j]
     rw [hgd] at hC
     have v1:=w64 (n:=(b[j].toNat:Int)) (by omega) (by omega)
     obtain ⟨v,hv⟩:∃ v:Int,(b[j].toNat:Int) - ((more:Int))=v:=⟨_,rfl⟩
     have v2:IntKind.i64.wrap ((b[j].toNat:Int) - ((more:Int)))=v:=by rw [← hv];exact w64 (by omega) (by omega)
     rw [hv] at hC
     clear hv
     simp [w9,hjz,hj,hj2,v1,v2]
     refine (Xac _ _ _).use ?_
     by_cases c2:v<0∨255<v
     ·have e2:(decide (0≤v)&&decide (v≤255))=false:=by rw [Bool.eq_false_iff];simp;omega
      rw [if_pos c2] at hC
      subst hC
      subst hX2
      simp [e2]
     ·have e2:(decide (0≤v)&&decide (v≤255))=true:=by simp;omega
      rw [if_neg c2] at hC
      have hv0:0≤v:=by omega
      have hv1:v≤255:=by omega
      have hw8:=w8 hv0 hv1
      have hjs:j<s.length:=by omega
      have hjs2:j+1≤s.length:=by omega
      have hset:=Zcl s j hjs v hv0 hv1
      rw [Nat.add_sub_cancel] at hC
      generalize ht:s.set j (UInt8.ofNat v.toNat)=t at hC hset
      have htl:t.length=s.length:=by rw [← ht];simp
      have hcv:=fun (σ:Za) (r:Nat) (h:σ[r]? = some (.cells (t.map fun c=>AV.int .u8 c.toNat)))=>Xce h htl
      simp [-Ym,Xch,Ucl,Wbs,e2,hjz,hj,v1,v2,hw8,hjs,hjs2]
      rw [hset]
      simp [-Ym,hcv]
      refine (Zcd t).use ?_
      have hoe:=Wcg t
      by_cases h0:(Oyez.openOf t).2=0
      ·rw [if_pos h0] at hC
       rw [h0] at hoe
       subst hC
       subst hX2
       simp [-Ym,hcv,hoe]
      ·rw [if_neg h0] at hC
       have h0':¬ (Vae t).2=0:=by rw [hoe];exact h0
       subst hC
       subst hX2
       simp [-Ym,hcv,h0']
end Ab
namespace Ab
open Go Go.RowKit Go.Proofs
attribute [local irreducible] aws awp aw1 Og Om Oc Oa Ogd Ov Ot awd Zb awh Xb Ogh Ohd awl Ogl Ohl awv Ogv Ohv Wb Vb QFn Ub QRo QBe ACode AYield
abbrev Zaq:List Oyez.Rec:=[⟨1,3,[[116,105,100,101],[97,116],[115,105,120]]⟩,⟨3,12,[]⟩]
theorem Yf2:APure Tryz.prog 75 [] (We Zaq):=by
 refine APure.of fun σ=>?_
 refine Yb Tryz.func75 rfl (Va Tryz.func75 (by decide) rfl) ?_
 simp [Tryz.ntmps75]
 refine .arr 3 (σ.length+1) 0 _ [Yg ⟨1,3,[[116,105,100,101],[97,116],[115,105,120]]⟩,Yg ⟨3,12,[]⟩] (fun i j=>match i,j with
  | 0,0=>.int .i64 1
  | 0,1=>.int .i64 3
  | 0,_=>.arr 1 σ.length 0 3
  | _,0=>.int .i64 3
  | _,1=>.int .i64 12
  | _,_=>.nils) (by omega) (by simp;rfl) ?_ ?_
 ·intro i x hx
  match i,hx with
  | 0,hx =>
   simp at hx
   subst hx
   refine ⟨rfl,fun j y hy=>?_⟩
   match j,hy with
   | 0,hy=>simp [AV.cells] at hy;subst hy;exact ⟨rfl,rfl⟩
   | 1,hy=>simp [AV.cells] at hy;subst hy;exact ⟨rfl,rfl⟩
   | 2,hy=>simp [AV.cells] at hy;subst hy;exact ⟨rfl,rfl⟩
   | j+3,hy=>simp [AV.cells] at hy
  | 1,hx =>
   simp at hx
   subst hx
   refine ⟨rfl,fun j y hy=>?_⟩
   match j,hy with
   | 0,hy=>simp [AV.cells] at hy;subst hy;exact ⟨rfl,rfl⟩
   | 1,hy=>simp [AV.cells] at hy;subst hy;exact ⟨rfl,rfl⟩
   | 2,hy=>simp [AV.cells] at hy;subst hy;exact ⟨rfl,rfl⟩
   | j+3,hy=>simp [AV.cells] at hy
  | i+2,hx=>simp at hx
 ·intro i x hx j y hy
  match i,hx with
  | 0,hx =>
   simp at hx
   subst hx
   match j,hy with
   | 0,hy=>simp [AV.cells] at hy;subst hy;exact .int _ _
   | 1,hy=>simp [AV.cells] at hy;subst hy;exact .int _ _
   | 2,hy=>simp [AV.cells] at hy;subst hy;exact Ub2 [[116,105,100,101],[97,116],[115,105,120]] 0 (Nat.le_refl _) (by simp)
   | j+3,hy=>simp [AV.cells] at hy
  | 1,hx =>
   simp at hx
   subst hx
   match j,hy with
   | 0,hy=>simp [AV.cells] at hy;subst hy;exact .int _ _
   | 1,hy=>simp [AV.cells] at hy;subst hy;exact .int _ _
   | 2,hy=>simp [AV.cells] at hy;subst hy;exact .nils_pl 1
   | j+3,hy=>simp [AV.cells] at hy
  | i+2,hx=>simp at hx
def Xaa (f0:FuncId) (g:List AV→Option AV):Orc:=fun f args σ=>if f=f0 then (match g args with
 | some v=>some (v,σ)
 | none=>none) else none
theorem Ya3 {f0:FuncId} {g:List AV→Option AV} (h:∀ args v,g args=some v→APure Tryz.prog f0 args v):(Xaa f0 g).Good Tryz.prog:=by
 intro f args σ v σ' hf
 unfold Xaa at hf
 split at hf
 ·rename_i he
  subst he
  split at hf
  ·rename_i w hw
   simp only [Option.some.injEq,Prod.mk.injEq] at hf
   obtain ⟨rfl,rfl⟩:=hf
   exact h args _ hw σ
  ·cases hf
 ·cases hf
def orO (a b:Orc):Orc:=fun f args σ=>match a f args σ with
 | some r=>some r
 | none=>b f args σ
theorem Uae {a b:Orc} (ha:a.Good Tryz.prog) (hb:b.Good Tryz.prog):(orO a b).Good Tryz.prog:=by
 intro f args σ v σ' hf
 unfold orO at hf
 split at hf
 ·rename_i r hr
  simp only [Option.some.injEq] at hf
  subst hf
  exact ha _ _ _ _ _ hr
 ·exact hb _ _ _ _ _ hf
def Wal (g:List UInt8→AV) (args:List AV):Option AV:=match args with
 | [.str s]=>if s.length≤1000 then some (g s) else none
 | _=>none
theorem Zay {f0:FuncId} {g:List UInt8→AV} (h:∀ s:List UInt8,s.length≤1000→APure Tryz.prog f0 [.str s] (g s)):(Xaa f0 (Wal g)).Good Tryz.prog:=Ya3 fun args v hv=>by
 unfold Wal at hv
 split at hv
 ·split at hv
  ·rename_i s hs
   simp only [Option.some.injEq] at hv
   subst hv
   exact h s hs
  ·cases hv
 ·cases hv
def strsOf:List AV→Option (List (List UInt8))
 | []=>some []
 | .str s::l=>(strsOf l).map (s::·)
 | _=>none
theorem Ve2:∀ (l:List AV) (ws:List (List UInt8)),strsOf l=some ws→l=ws.map AV.str:=by
 intro l
 induction l with
 | nil=>intro ws h;simp [strsOf] at h;subst h;rfl
 | cons x l ih =>
  intro ws h
  unfold strsOf at h
  split at h
  ·rename_i h1;cases h1
  ·rename_i s l' h1
   obtain ⟨rfl,rfl⟩:x=.str s∧l=l':=by simpa using h1
   rw [Qzm] at h
   obtain ⟨ws',hw,rfl⟩:=h
   rw [ih _ hw]
   rfl
  ·cases h
def joinO:Orc:=fun f args σ=>if f=189 then (match args with
 | [.arr k r o n]=>(match σ[r]? with
  | some (.cells cs)=>(match strsOf cs with
   | some ws=>if k=1∧o=0∧ws.length=n∧ws.length≤1000∧(Un ws).length≤100000 then some (.str (Un ws),σ) else none
   | none=>none)
  | _=>none)
 | _=>none) else none
theorem Wcw:joinO.Good Tryz.prog:=by
 intro f args σ v σ' hf
 unfold joinO at hf
 split at hf
 ·rename_i he
  subst he
  split at hf
  ·rename_i k r o n
   split at hf
   ·rename_i cs hr
    split at hf
    ·rename_i ws hws
     split at hf
     ·rename_i hc
      obtain ⟨rfl,rfl,rfl,h1,h2⟩:=hc
      simp only [Option.some.injEq,Prod.mk.injEq] at hf
      obtain ⟨rfl,rfl⟩:=hf
      rw [Ve2 _ _ hws] at hr
      exact Za9 σ r ws hr (by omega) (by omega)
     ·cases hf
    ·cases hf
   ·cases hf
  ·cases hf
 ·cases hf
def Ycl (args:List AV):Option AV:=match args with
 | [a]=>if AV.eqb 20 a (We Zaq) then some (.tup [.str (Yag Zaq).1,.int .i64 (Yag Zaq).2]) else none
 | _=>none
def Vb7 (args:List AV):Option AV:=match args with
 | [.int .i64 n]=>if -9223372036854775808≤n∧n≤9223372036854775807 then some (.str (Lib.itoa n)) else none
 | _=>none
def awakeO:Orc:=orO (Xaa 75 fun args=>match args with | []=>some (We Zaq) | _=>none) <| orO (Xaa 39 Ycl) <| orO (Xaa 43 (Wal fun s=>Xao (Oyez.parse s))) <|
 orO (Xaa 40 (Wal fun s=>.tup [.str (Oyez.sealOf s).1,.int .i64 (Oyez.sealOf s).2])) <| orO (Xaa 41 (Wal fun s=>.tup [.str (Uag s).1,.int .i64 (Uag s).2.1,.int .i64 (Uag s).2.2])) <|
 orO (Xaa 201 (Wal fun s=>.bool (Oyez.word s))) <| orO (Xaa 38 Vb7) joinO
theorem Wd7:awakeO.Good Tryz.prog:=by
 refine Uae (Ya3 fun args v hv=>?_) <| Uae (Ya3 fun args v hv=>?_) <| Uae (Zay fun s hs=>Yca s (by omega)) <| Uae (Zay fun s _=>Zff s) <| Uae (Zay fun s _=>Udr s) <|
  Uae (Zay fun s hs=>Wa8 s (by omega)) <| Uae (Ya3 fun args v hv=>?_) Wcw
 ·split at hv
  ·simp only [Option.some.injEq] at hv
   subst hv
   exact Yf2
  ·cases hv
 ·unfold Ycl at hv
  split at hv
  ·split at hv
   ·rename_i a he
    simp only [Option.some.injEq] at hv
    subst hv
    rw [AV.eqb_eq _ _ _ he]
    exact Zb8 Zaq (by intro r hr;simp at hr;rcases hr with rfl | rfl<;>decide)
   ·cases hv
  ·cases hv
 ·unfold Vb7 at hv
  split at hv
  ·split at hv
   ·rename_i n hn
    simp only [Option.some.injEq] at hv
    subst hv
    exact Yap n hn.1 hn.2
   ·cases hv
  ·cases hv
end Ab
namespace Ab
open Go Go.RowKit Go.Proofs
attribute [local irreducible] aws awp aw1 Og Om Oc Oa Ogd Ov Ot awd Zb awh Xb Ogh Ohd awl Ogl Ohl awv Ogv Ohv Wb Vb QFn Ub QRo QBe ACode AYield
theorem Xhg {n m:Nat} (hnm:n≤m):∀ (k:Nat) (v:AV),fzB n k v=true→fzB m k v=true:=by
 intro k
 induction k with
 | zero=>intro v h;cases h
 | succ k ih =>
  intro v h
  cases v<;>simp only [fzB,decide_eq_true_eq,Bool.false_eq_true] at h ⊢
  case ptr=>omega
  case yld=>omega
  case arr=>omega
  case pl l=>exact List.all_eq_true.2 fun x hx=>List.all_eq_true.2 fun y hy=>ih _ (List.all_eq_true.1 (List.all_eq_true.1 h x hx) y hy)
  case agg l=>exact List.all_eq_true.2 fun x hx=>ih _ (List.all_eq_true.1 h x hx)
  case tup l=>exact List.all_eq_true.2 fun x hx=>ih _ (List.all_eq_true.1 h x hx)
def stateF:FOrc:=fun f args σ=>if f=91 then (match args with
 | [.ptr d o,.agg [.int .i64 k,.int .i64 n]]=>if o=0 then (match σ[d]? with
  | some (.cells [rv,.mp m])=>(match σ[m]? with
   | some (.map es)=>(match Wab rv es k n σ with
    | some (w,is)=>if w.one=true∧fzB σ.length 20 w=true then some (.agg [.bool is,w]) else none
    | none=>none)
   | _=>none)
  | _=>none) else none
 | _=>none) else none
theorem Vb9:stateF.Good Tryz.prog:=by
 intro f args σ v hf g
 unfold stateF at hf
 split at hf
 ·rename_i he
  subst he
  split at hf
  ·rename_i d o k n
   split at hf
   ·rename_i ho
    subst ho
    split at hf
    ·rename_i rv m h1
     split at hf
     ·rename_i es h2
      split at hf
      ·rename_i w is h3
       split at hf
       ·rename_i hc
        simp only [Option.some.injEq] at hf
        subst hf
        exact Xbm (σ++g) d m rv es (Zat h1) (Zat h2) k n w is (Zbp h3) hc.1 fun S=>Va9 20 _ _ (Xhg (by simp) _ _ hc.2)
       ·cases hf
      ·cases hf
     ·cases hf
    ·cases hf
   ·cases hf
  ·cases hf
 ·cases hf
def ofF (F:FOrc):Orc:=fun f args σ=>(F f args σ).map (·,σ)
theorem Zhk {F:FOrc} (h:F.Good Tryz.prog):(ofF F).Good Tryz.prog:=by
 intro f args σ v σ' hf
 unfold ofF at hf
 rw [Qzm] at hf
 obtain ⟨v',h1,h2⟩:=hf
 simp only [Prod.mk.injEq] at h2
 obtain ⟨rfl,rfl⟩:=h2
 have:=h f args σ v' h1 []
 simpa using this
abbrev lawO:Orc:=orO awakeO (ofF stateF)
theorem Zfp:lawO.Good Tryz.prog:=Uae Wd7 (Zhk Vb9)
end Ab
namespace Ab
open Go Go.RowKit Go.Proofs
set_option maxRecDepth 100000 in
theorem awake_calls:APure Tryz.prog 57 [] (.bool true):=APure.runG (F:=stateF) (O:=lawO) 300 mixed Vb9 Zfp (by kernel_rfl)
end Ab
namespace Ab
open Go Go.RowKit Go.Proofs
attribute [local irreducible] aws awp aw1 Og Om Oc Oa Ogd Ov Ot awd Zb awh Xb Ogh Ohd awl Ogl Ohl awv Ogv Ohv Wb Vb QFn Ub QRo QBe ACode AYield
set_option maxHeartbeats 1000000 in
theorem Ydj (a b:List (List UInt8)) (ha:a.length≤2^40):APure Tryz.prog 103 [Uc a,Uc b] (.bool (decide (a=b))):=by
 intro σ
 refine Yb Tryz.func103 rfl (Va Tryz.func103 (by decide) rfl) ?_
 by_cases hab:a.length=b.length
 ·obtain ⟨n,hn⟩:∃ n,b.length=n:=⟨_,rfl⟩
  have han:a.length=n:=hab.trans hn
  simp [Tryz.ntmps103,han,hn]
  refine Vd (fun env σ'=>∃ (u:List AV) (i:Nat),env={ t:=u }∧u.length=26∧tg u 0=Uc a∧tg u 1=Uc b∧tg u 12=.int .i64 n∧tg u 13=.int .i64 i∧σ'=σ∧i≤n∧a.take i=b.take i)
   (fun env _=>match tg env.t 13 with | .int _ i=>n - i.toNat | _=>0) ⟨_,0,rfl,by simp,by simp,by simp,by simp,by simp,rfl,by omega,by simp⟩ ?_
  rintro env σ' ⟨u,i,rfl,hl,g0,g1,g12,g13,rfl,hi,hd⟩
  rcases Qzn i n with hlt | hge
  ·have hlt':(i:Int)<(n:Int):=by omega
   have hx:=w64 (n:=(i:Int)+1) (by omega) (by omega)
   have hia:i<a.length:=by omega
   have hib:i<b.length:=by omega
   simp [hl,g0,g1,g12,g13,hlt']
   refine Zj mixed (by kernel_rfl) ?_
   by_cases he:a[i]=b[i]
   ·simp [hl,g0,g1,g12,g13,han,hn,hlt,hlt',he,hx]
    refine ⟨⟨i+1,by simp,by omega,?_⟩,by omega⟩
    rw [Qzt hia,Qzt hib,hd,he]
   ·have hne:¬ a=b:=fun h=>he (by subst h;rfl)
    simp [hl,g0,g1,g12,g13,han,hn,hlt,hlt',he,hne]
  ·have hge':¬ (i:Int)<(n:Int):=by omega
   have hE:a=b:=by
    rw [List.take_of_length_le (by omega),List.take_of_length_le (by omega)] at hd
    exact hd
   simp [hl,g0,g1,g12,g13,hge',hE]
 ·have hne:¬ a=b:=fun h=>hab (by rw [h])
  have hab':¬ (a.length:Int)=(b.length:Int):=by omega
  simp [Tryz.ntmps103,hab',hne,hab]
end Ab
namespace Oyez
end Oyez
namespace Ab
open Go Go.RowKit Go.Proofs
attribute [local irreducible] aws awp aw1 Og Om Oc Oa Ogd Ov Ot awd Zb awh Xb Ogh Ohd awl Ogl Ohl awv Ogv Ohv Wb Vb QFn Ub QRo QBe ACode AYield
end Ab

/-
  Texts packed for a claim.
-/
import Derived.Test.YtcoikmapjepdjaaGreatDoorO00
import Derived.Test.YtcoikmapjepdjaaGreatDoorO10
import Derived.Test.YtcoikmapjepdjaaGreatDoorO12
import Derived.Test.YtcoikmapjepdjaaGreatDoorO20
import Derived.Test.YtcoikmapjepdjaaGreatDoorO21
import Derived.Test.YtcoikmapjepdjaaGreatDoorO22
import Derived.Test.YtcoikmapjepdjaaGreatDoorO28
import Derived.Test.YtcoikmapjepdjaaGreatDoorO25
import Derived.Test.YtcoikmapjepdjaaGreatDoorO27
import Derived.Test.YtcoikmapjepdjaaGreatDoorO23
import Derived.Test.YtcoikmapjepdjaaGreatDoorO31
import Derived.Test.YtcoikmapjepdjaaGreatDoorO39
import Derived.Test.YtcoikmapjepdjaaGreatDoorO41
set_option linter.all false
namespace Ab
open Go Go.RowKit Go.Proofs
attribute [local irreducible] aws awp aw1 Og Om Oc Oa Ogd Ov Ot awd Zb awh Wb Ogh Ohd awl Ogl Ohl awv Ogv Ohv Xb Vb QFn Ub QRo QBe ACode AYield
def Wa8 (a b c:List Oyez.Rec):Int:=if Oyez.check a≠0 then Oyez.check a else if Oyez.check b≠0 then Oyez.check b else Oyez.check c
def ckH (n:Nat) (a b c:List Oyez.Rec):Nat→Za
 | 0=>[]
 | 1=>Xau n a++[.cells [.ptr n 0],.cells [.ptr n 0]]
 | 2=>Xau n a++[.cells [.ptr n 0],.dead]++Xau (n+4) b++[.cells [.ptr (n+4) 0],.cells [.ptr n 0,.ptr (n+4) 0]]
 | _=>Xau n a++[.cells [.ptr n 0],.dead]++Xau (n+4) b++[.cells [.ptr (n+4) 0],.dead]++Xau (n+8) c++[.cells [.ptr (n+8) 0],.cells [.ptr n 0,.ptr (n+4) 0,.ptr (n+8) 0]]
def ckV (n:Nat):Nat→AV
 | 0=>.nils
 | 1=>.arr 1 (n+3) 0 1
 | 2=>.arr 1 (n+7) 0 2
 | _=>.arr 1 (n+11) 0 3
end Ab
namespace Ab
open Go Go.RowKit Go.Proofs
attribute [local irreducible] aws awp aw1 Og Om Oc Oa Ogd Ov Ot awd Zb awh Wb Ogh Ohd awl Ogl Ohl awv Ogv Ohv Xb Vb QFn Ub QRo QBe ACode AYield
theorem Wdv {P:Program} {dst:Option Tmp} {ty:TypeId} {pos:String} {after:Array Edge} {g:Option (Nat × Bool)} {f:Fn} {xs ys:Array Operand} {Kv:AV→Prop} {env:Env} {σ:Za} :
  Zb P ⟨dst,.makeFunc f xs ys,ty,pos,after,g⟩ Kv env σ=Kv (.fn f (xs.toList.map (Wa env.t)) (ys.toList.map (Wa env.t))):=by
 have h:Zb P ⟨dst,.makeFunc f xs ys,ty,pos,after,g⟩ Kv env σ=aw1 P ⟨dst,.makeFunc f xs ys,ty,pos,after,g⟩ (fun v s=>s=σ∧Kv v) env σ:=Zq rfl rfl
 rw [h,Ubv]
 simp
attribute [simp] Wdv
def Xip (a b c:List Oyez.Rec):List Oyez.Rec × List Oyez.Place × Int :=
 if Wa8 a b c≠0 then ([],[],Wa8 a b c) else if 40<(Oyez.join a b c []).out.length then ([],[],2) else ((Oyez.join a b c []).out,(Oyez.join a b c []).conf.map Oyez.Chg.place,0)
end Ab
namespace Ab
open Go Go.RowKit Go.Proofs
attribute [local irreducible] aws awp aw1 Og Om Oc Oa Ogd Ov Ot awd Zb awh Wb Ogh Ohd awl Ogl Ohl awv Ogv Ohv Xb Vb QFn Ub QRo QBe ACode AYield
def Zi0 (a b c:List Oyez.Rec) (sec:List Bool):List Oyez.Rec × Int :=
 if Wa8 a b c≠0 then ([],Wa8 a b c) else if (Oyez.join a b c []).conf.length≠sec.length then ([],2) else if 40<(Oyez.join a b c sec).out.length then ([],2) else ((Oyez.join a b c sec).out,0)
end Ab
namespace Ab
open Go Go.RowKit Go.Proofs
attribute [local irreducible] aws awp aw1 Og Om Oc Oa Ogd Ov Ot awd Zb awh Wb Ogh Ohd awl Ogl Ohl awv Ogv Ohv Xb Vb QFn Ub QRo QBe ACode AYield
end Ab
namespace Ab
open Go Go.RowKit Go.Proofs
structure OwnIn (X:List (List UInt8)→List AV→Prop) (τ:Za) (lo:Nat) (f:List Oyez.Rec) (v:AV):Prop where
 row:(f=[]∧v=.nils)∨(f≠[]∧v=.arr 3 lo 0 f.length∧∃ cs,τ[lo]? = some (.cells cs)∧cs.length=f.length*3 ∧
  ∀ (i:Nat) (r:Oyez.Rec),f[i]? = some r→∃ w,List.take 3 (List.drop (i*3) cs)=[.int .i64 r.kind,.int .i64 r.number,w] ∧
   ((r.words=[]∧w=.pl 1 [])∨∃ (q:Nat) (xs:List AV),lo<q∧q<lo+1+(wne f).length∧w=.arr 1 q 0 r.words.length∧τ[q]? = some (.cells xs)∧X r.words xs))
theorem OwnIn.many {τ:Za} {lo:Nat} {f:List Oyez.Rec} {v:AV} (h:OwnIn Ucu τ lo f v):OwnIn Vba τ lo f v:=by
 refine ⟨?_⟩
 rcases h.row with h | ⟨h1,h2,cs,h3,h4,h5⟩
 ·exact .inl h
 ·refine .inr ⟨h1,h2,cs,h3,h4,fun i r hr=>?_⟩
  obtain ⟨w,g1,g2⟩:=h5 i r hr
  refine ⟨w,g1,?_⟩
  rcases g2 with g2 | ⟨q,xs,a1,a2,a3,a4,a5⟩
  ·exact .inl g2
  ·exact .inr ⟨q,xs,a1,a2,a3,a4,by rw [Vba,show xs=strs r.words from a5];simp [strs]⟩
theorem OwnIn.fz {τ:Za} {lo:Nat} {f:List Oyez.Rec} {v:AV} (h:OwnIn Ucu τ lo f v):Fz 0 τ v (Yk f):=by
 rcases h.row with ⟨rfl,rfl⟩ | ⟨h1,rfl,cs,h3,h4,h5⟩
 ·exact .nils_pl 3
 ·have hl:f.length=(f.map Yg).length:=by simp
  rw [hl]
  have hcell:∀ (i:Nat) (r:Oyez.Rec),f[i]? = some r→∃ w,(∀ j,j<3→cs[i*3+j]? = [AV.int .i64 r.kind,.int .i64 r.number,w][j]?)∧Fz 0 τ w (Xl r.words):=by
   intro i r hr
   obtain ⟨w,g1,g2⟩:=h5 i r hr
   refine ⟨w,fun j hj=>?_,?_⟩
   ·rw [← g1,List.getElem?_take_of_lt hj,List.getElem?_drop]
   ·rcases g2 with ⟨g2,rfl⟩ | ⟨q,xs,a1,a2,rfl,a4,a5⟩
    ·rw [g2];exact .pl0 1 1
    ·rw [show xs=strs r.words from a5] at a4
     exact Yg4 _ a4
  refine Fz.arr 3 lo 0 cs (f.map Yg) (fun i j=>(cs[i*3+j]?).getD .any) (Nat.zero_le _) h3 (fun i x hx=>?_) (fun i x hx j y hy=>?_)
  ·rw [Qzp,Qzm] at hx
   obtain ⟨r,hr,rfl⟩:=hx
   obtain ⟨w,g1,g2⟩:=hcell i r hr
   refine ⟨rfl,fun j y hy=>?_⟩
   have hj:j<3:=(Qzs.1 hy).1
   refine ⟨?_,?_⟩
   ·match j,hj,hy with
    | 0,_,hy=>simp [AV.cells] at hy;subst hy;rfl
    | 1,_,hy=>simp [AV.cells] at hy;subst hy;rfl
    | 2,_,hy=>simp [AV.cells] at hy;subst hy;rfl
   ·have:=g1 j hj
    rw [Nat.zero_add,this]
    match j,hj with
    | 0,_=>rfl
    | 1,_=>rfl
    | 2,_=>rfl
  ·rw [Qzp,Qzm] at hx
   obtain ⟨r,hr,rfl⟩:=hx
   obtain ⟨w,g1,g2⟩:=hcell i r hr
   have hj:j<3:=(Qzs.1 hy).1
   rw [g1 j hj]
   match j,hj,hy with
   | 0,_,hy=>simp [AV.cells] at hy;subst hy;exact .int _ _
   | 1,_,hy=>simp [AV.cells] at hy;subst hy;exact .int _ _
   | 2,_,hy=>simp [AV.cells] at hy;subst hy;exact g2
structure Keep (lo hi:Nat) (τ τ':Za):Prop where
 out:∀ r,r<τ.length→¬ (lo<r∧r<hi)→τ'[r]? = τ[r]?
 cells:∀ (r:Nat) (cs:List AV),τ[r]? = some (.cells cs)→∃ cs',τ'[r]? = some (.cells cs')∧cs'.length=cs.length
 len:τ.length≤τ'.length
theorem Keep.refl (lo hi:Nat) (τ:Za):Keep lo hi τ τ:=⟨fun _ _ _=>rfl,fun r cs h=>⟨cs,h,rfl⟩,Nat.le_refl _⟩
theorem Keep.app {lo hi:Nat} {τ τ':Za} (h:Keep lo hi τ τ') (g:Za):Keep lo hi τ (τ'++g):=by
 have hl:=h.len
 refine ⟨fun r h1 h2=>?_,fun r cs h1=>?_,by rw [List.length_append];omega⟩
 ·rw [Qzl (by omega)];exact h.out r h1 h2
 ·obtain ⟨cs',h2,h3⟩:=h.cells r cs h1
  have:=(Qzs.1 h2).1
  exact ⟨cs',by rw [Qzl this];exact h2,h3⟩
theorem Keep.set {lo hi:Nat} {τ τ':Za} (h:Keep lo hi τ τ') {q:Nat} {cs cs':List AV} (h1:lo<q) (h2:q<hi) (hq:τ'[q]? = some (.cells cs)) (hl:cs'.length=cs.length):Keep lo hi τ (τ'.set q (.cells cs')):=by
 refine ⟨fun r g1 g2=>?_,fun r ds g1=>?_,by rw [List.length_set];exact h.len⟩
 ·rw [List.getElem?_set_ne (by omega)];exact h.out r g1 g2
 ·obtain ⟨ds',g2,g3⟩:=h.cells r ds g1
  by_cases e:q=r
  ·subst e
   rw [hq] at g2
   obtain rfl:cs=ds':=by simpa using g2
   exact ⟨cs',List.getElem?_set_self (Qzs.1 hq).1,by omega⟩
  ·exact ⟨ds',by rw [List.getElem?_set_ne e];exact g2,g3⟩
theorem Keep.own {lo hi:Nat} {τ τ':Za} (h:Keep lo hi τ τ') {f:List Oyez.Rec} {v:AV} (ho:OwnIn Vba τ lo f v):OwnIn Vba τ' lo f v:=by
 refine ⟨?_⟩
 rcases ho.row with h1 | ⟨h1,h2,cs,h3,h4,h5⟩
 ·exact .inl h1
 ·have hlo:=(Qzs.1 h3).1
  refine .inr ⟨h1,h2,cs,by rw [h.out lo hlo (by omega)];exact h3,h4,fun i r hr=>?_⟩
  obtain ⟨w,g1,g2⟩:=h5 i r hr
  refine ⟨w,g1,?_⟩
  rcases g2 with g2 | ⟨q,xs,a1,a2,a3,a4,a5⟩
  ·exact .inl g2
  ·obtain ⟨xs',b1,b2⟩:=h.cells q xs a4
   exact .inr ⟨q,xs',a1,a2,a3,b1,b2.trans a5⟩
theorem OwnIn.more {X:List (List UInt8)→List AV→Prop} {τ:Za} {lo:Nat} {f:List Oyez.Rec} {v:AV} (h:OwnIn X τ lo f v) (g:Za):OwnIn X (τ++g) lo f v:=by
 refine ⟨?_⟩
 rcases h.row with h1 | ⟨h1,h2,cs,h3,h4,h5⟩
 ·exact .inl h1
 ·refine .inr ⟨h1,h2,cs,Zab h3,h4,fun i r hr=>?_⟩
  obtain ⟨w,g1,g2⟩:=h5 i r hr
  refine ⟨w,g1,?_⟩
  rcases g2 with g2 | ⟨q,xs,a1,a2,a3,a4,a5⟩
  ·exact .inl g2
  ·exact .inr ⟨q,xs,a1,a2,a3,Zab a4,a5⟩
end Ab
namespace Oyez
end Oyez
namespace Ab
open Go Go.RowKit Go.Proofs
attribute [local irreducible] aws awp aw1 Og Om Oc Oa Ogd Ov Ot awd Zb awh Wb Ogh Ohd awl Ogl Ohl awv Ogv Ohv Xb Vb QFn Ub QRo QBe ACode AYield
end Ab
namespace Oyez
end Oyez
namespace Ab
open Go Go.RowKit Go.Proofs
attribute [local irreducible] aws awp aw1 Og Om Oc Oa Ogd Ov Ot awd Zb awh Wb Ogh Ohd awl Ogl Ohl awv Ogv Ohv Xb Vb QFn Ub QRo QBe ACode AYield
def Ve7 (l:List Oyez.Place):AV:=.pl 2 (l.map Vag)
attribute [simp] Ve7
def Ziv (l:List Oyez.Place) (p:Oyez.Place):Int:=if p∈l then (l.idxOf p:Nat) else -1
end Ab
namespace Ab
open Go Go.RowKit Go.Proofs
variable [Mode]
end Ab
namespace Ab
open Go Go.RowKit Go.Proofs
attribute [local irreducible] aws awp aw1 Og Om Oc Oa Ogd Ov Ot awd Zb awh Wb Ogh Ohd awl Ogl Ohl awv Ogv Ohv Xb Vb QFn Ub QRo QBe ACode AYield
end Ab
namespace Ab
open Go Go.RowKit Go.Proofs
end Ab
namespace Ab
open Go Go.RowKit Go.Proofs
theorem Acc.fzG {S g T:Za} {k n:Nat} {v:AV} {L L':List AV} {o:Option Nat} (h:Acc S g k v L o) (hk:0<k) (hn:n≤S.length) (hT:∀ j x,o=some j→g[j]? = some (.cells x)→T[S.length+j]? = some (.cells x)) (hl:L'.length=L.length)
  (h1:∀ (i:Nat) (x y:AV),L[i]? = some x→L'[i]? = some y→y.cells.length=k∧(∀ z∈y.cells,z.one=true)∧∀ (j:Nat) (a b:AV),x.cells[j]? = some a→y.cells[j]? = some b→Fz n T a b):Fz n T v (.pl k L'):=by
 have hv:=h.val
 cases o with
 | none =>
  obtain ⟨rfl,e⟩:=hv
  rw [e] at hl
  rw [List.eq_nil_of_length_eq_zero hl]
  exact .nils_pl k
 | some jo =>
  obtain ⟨rfl,hjo⟩:=hv
  rw [← hl]
  refine .arr k _ 0 (L.flatMap AV.cells) L' (fun i j=>((L[i]?).bind fun x=>x.cells[j]?).getD .any) (by omega) (hT jo _ rfl hjo) (fun i y hy=>?_) fun i y hy j b hb=>?_
  ·have hi:=(Qzs.1 hy).1
   have hx:L[i]? = some (L[i]'(by omega)):=Qze (by omega)
   obtain ⟨q1,q2,_⟩:=h1 i _ y hx hy
   refine ⟨q1,fun j b hb=>⟨q2 b (Qzg hb),?_⟩⟩
   have hj:=(Qzs.1 hb).1
   rw [q1] at hj
   have hc:=(h.len _ (Qzg hx)).1
   rw [flat_get L (fun x hx=>(h.len x hx).1) hk,show (0+i)*k+j=j+k*i by rw [Nat.zero_add,Nat.mul_comm,Nat.add_comm],Nat.add_mul_div_left _ _ hk,Nat.div_eq_of_lt hj,Nat.zero_add,Nat.add_mul_mod_self_left,Nat.mod_eq_of_lt hj,hx]
   simp only [Option.bind_some]
   rw [Qze (by omega)]
   rfl
  ·have hi:=(Qzs.1 hy).1
   have hx:L[i]? = some (L[i]'(by omega)):=Qze (by omega)
   obtain ⟨q1,q2,q3⟩:=h1 i _ y hx hy
   have hj:=(Qzs.1 hb).1
   have hc:=(h.len _ (Qzg hx)).1
   have ha:(L[i]'(by omega)).cells[j]? = some ((L[i]'(by omega)).cells[j]'(by omega)):=Qze (by omega)
   rw [hx]
   simp only [Option.bind_some,ha,Option.getD_some]
   exact q3 j _ b ha hb
end Ab
namespace Ab
open Go Go.RowKit Go.Proofs
theorem SlF.ents {r:Rl} {S:List (List Int)} {t:Tab} {men slots:Nat} (h:SlF r S t men slots):EntsOk (Wd t men slots):=by
 have hs:=h.s6
 have hm:=h.m4
 refine ⟨(Vbm (by omega)).1,fun e he=>?_,fun e he=>?_,?_⟩
 ·have:=entE_mem.1 he;omega
 ·obtain ⟨q1,q2,q3,q4⟩:=entE_mem.1 he
  have:=h.sh.pairs h.ok (h.inv.mem _ _ q4)
  have:=h.ok.few
  rw [q3]
  omega
 ·have q1:=Ubd t men slots
  have q2:slots*men≤6*4:=Nat.mul_le_mul hs hm
  omega
theorem RcAcc.vw {b g T:Za} {vs:Nat→AV} {F:Nat→List (Ent × AV)} {os:Nat→Option Nat} (h:RcAcc b g vs F os) (hT:∀ (j:Nat) x,g[j]? = some (.cells x)→T[b.length+j]? = some (.cells x)) {n:Nat} (hn:n<3):Fz 0 T (vs n) (Yk (Yj (if n=2 then Zcx else Xh) ((F n).map Prod.fst))):=by
 refine (h.acc n hn).fzG (by omega) (Nat.zero_le _) (fun j x _ e=>hT j x e) (by simp [Yj]) fun i x y hx hy=>?_
 rw [Qzp,Qzm] at hx
 obtain ⟨p,hp,rfl⟩:=hx
 have hy':y=Yg ⟨1,Zl p.1,[(if n=2 then Zcx else Xh) p.1]⟩:=by
  unfold Yj at hy
  rw [Qzp,Qzp,Qzp,hp] at hy
  exact (Option.some.inj hy).symm
 subst hy'
 have hpm:=Qzg hp
 refine ⟨rfl,fun z hz=>?_,fun j a b ha hb=>?_⟩
 ·simp [Yg,AV.cells,Xl] at hz
  rcases hz with rfl | rfl | rfl<;>rfl
 ·match j,ha,hb with
  | 0,ha,hb=>simp [Zt,Yg,AV.cells] at ha hb;subst ha;subst hb;exact .int _ _
  | 1,ha,hb=>simp [Zt,Yg,AV.cells] at ha hb;subst ha;subst hb;exact .int _ _
  | 2,ha,hb =>
   simp [Zt,Yg,AV.cells] at ha hb
   subst ha;subst hb
   have hst:∀ w:List UInt8,Fz 0 T (.pl 1 [.str w]) (.pl 1 [.str w]):=fun w=>by
    refine .pl 1 _ fun i x hx j y hy=>?_
    have:=Qzg hx
    simp at this
    subst this
    have:=Qzg hy
    simp [AV.cells] at this
    subst this
    exact .str _
   by_cases h2:n=2
   ·subst h2
    obtain ⟨q,e1,_,e3⟩:=h.words p hpm
    rw [e1,if_pos rfl]
    exact Ubz (n:=0) (cs:=[.str Xbg]) (Nat.zero_le _) (hT q _ e3) fun y hy=>by rw [List.mem_singleton.1 hy];exact ⟨rfl,rfl,.str _⟩
   ·rw [if_neg h2,h.lit n (by omega) p hpm]
    exact hst _
  | j+3,ha,hb=>simp [Zt,AV.cells] at ha
end Ab
namespace Ab
open Go Go.RowKit Go.Proofs
attribute [local irreducible] aws awp aw1 Og Om Oc Oa Ogd Ov Ot awd Zb awh Wb Ogh Ohd awl Ogl Ohl awv Ogv Ohv Xb Vb QFn Ub Xi QRo QBe Ui Uj ACode AYield
def LeastS (r:Rl) (S:List (List Int)) (n:Nat):Prop:=∃ s',Xah r n=some s'∧(∀ j:Nat,j<n→Xah r j=none)∧n≤r.ntcs.length∧S.length=r.ntcs.length∧∀ (n:Nat) (l:List Int),S[n]? = some l→l.Perm (s'.F n)∧l.Pairwise (·≤·)
theorem LeastS.ok {r:Rl} (ok:r.Ok) {S:List (List Int)} {n:Nat} (h:LeastS r S n):ShOk r S:=by
 obtain ⟨s',h1,_,_,h3,h4⟩:=h
 exact Udd ok h1 h3 h4
set_option maxHeartbeats 2000000 in
theorem Xf1 {r:Rl} (ok:r.Ok) (σ:Za):ACalls Tryz.prog 65 [Uh r] σ fun v s=>∃ S n,LeastS r S n∧v=.tup [Ze S,.int .i64 (n:Nat)]∧s=σ:=by
 refine ACalls.forgetT ?_
 refine Yb Tryz.func65 rfl (Ua Tryz.func65 (by decide) rfl) ?_
 have hK6:=ok.few
 simp [Tryz.ntmps65,Uh]
 refine Xc (fun env σ'=>∃ (u:List AV) (i:Nat),env={ t:=u }∧u.length=18∧tg u 1=.ptr σ.length 0∧tg u 4=.int .i64 i∧i≤r.ntcs.length∧(∀ j:Nat,j<i→Xah r j=none)∧σ'=σ++[.cells [.int .i64 r.men,.pl 2 (r.ntcs.map Zc)]])
  (fun env _=>match tg env.t 4 with | .int _ i=>r.ntcs.length - i.toNat | _=>0) ⟨_,0,rfl,by simp,by simp,by simp,by omega,fun j h=>by omega,rfl⟩ ?_
 rintro env _ ⟨u,i,rfl,hl,g1,g4,hi,hno,rfl⟩
 have cS:=Vdn ok (i:Int) (by omega) (σ++[.cells [.int .i64 r.men,.pl 2 (r.ntcs.map Zc)]])
 have hx:=w64 (n:=(i:Int)+1) (by omega) (by omega)
 simp [hl,g1,g4]
 refine StA.of (cS.mono ?_)
 rintro v s ⟨hv,rfl⟩
 cases hs:Xah r i with
 | none =>
  rw [hs] at hv
  subst hv
  have hlt:i<r.ntcs.length:=by
   rcases Qzn i r.ntcs.length with h | h
   ·exact h
   ·obtain ⟨s',h1⟩:=Ufi ok (most:=(i:Int)) (by omega)
    rw [h1] at hs;cases hs
  simp [hl,g1,g4,hx]
  exact ⟨⟨i+1,by simp,hlt,fun j hj=>(by
   rcases Qzn j i with h | h
   ·exact hno j h
   ·obtain rfl:j=i:=by omega
    exact hs)⟩,by omega⟩
 | some s' =>
  rw [hs] at hv
  obtain ⟨S,rfl,hS1,hS2⟩:=hv
  simp [hl,g1,g4]
  exact ⟨σ,_,rfl,rfl,fun r o h=>.inl h,_,Xbd (Ubq _ _ _) (.int _ _),S,i,⟨s',hs,hno,hi,hS1,hS2⟩,rfl,rfl⟩
set_option maxHeartbeats 2000000 in
theorem Wia {r:Rl} (ok:r.Ok) (σ:Za):ACalls Tryz.prog 36 [Uh r] σ fun v s=>∃ S n t,LeastS r S n∧SlInv (slotsOf r S).toNat (shP S) t∧v=.tup [Ze (Uf t r.men.toNat (slotsOf r S).toNat),.int .i64 0]∧s=σ:=by
 refine ACalls.forgetT ?_
 refine Yb Tryz.func36 rfl (Ua Tryz.func36 (by decide) rfl) ?_
 have hr0:Uh r=.agg [.int .i64 r.men,.pl 2 (r.ntcs.map Zc)]:=rfl
 have c1:=Zbp r ok
 have c2:=fun σ=>Xf1 ok σ
 rw [hr0] at c1 c2 ⊢
 simp [Tryz.ntmps36]
 refine c1.use ?_
 try simp
 refine StA.of ((c2 _).mono ?_)
 rintro v s ⟨S,n,hS,rfl,rfl⟩
 have c3:=Zdm r S ok (hS.ok ok) (σ++[.cells [.int .i64 r.men,.pl 2 (r.ntcs.map Zc)]])
 rw [hr0] at c3
 try simp
 refine StA.of (c3.mono ?_)
 rintro v s ⟨t,hT,rfl,rfl⟩
 try simp
 exact ⟨σ,_,rfl,rfl,fun r o h=>.inl h,_,Xbd (Ubq _ _ _) (.int _ _),S,⟨n,hS⟩,t,hT,rfl,rfl⟩
end Ab
namespace Ab
open Go Go.RowKit Go.Proofs
def Vab (men:Nat):List (List (List Int)):=(List.range men).map fun m:Nat=>List.replicate 8 [(m:Int)]
def Uag (e:Ent):Cr:=⟨e.1,e.2.1,e.2.2⟩
def thB (men K:Nat) (E:List Ent) (reads:List Int):Bk:=⟨men,K,Vab men,reads,E.map Uag⟩
structure ThOk (men K:Nat) (E:List Ent) (reads:List Int):Prop where
 m1:1≤men
 m4:men≤4
 k1:1≤K
 k4:K≤4
 few:E.length≤12
 r1:1≤reads.length
 r8:reads.length≤8
 read:∀ x∈reads,0≤x∧x≤1
 ent:∀ e∈E,e.1<reads.length∧e.2.1<men∧0≤e.2.2∧e.2.2<(K:Int)
theorem ThOk.ok {men K:Nat} {E:List Ent} {reads:List Int} (h:ThOk men K E reads):(thB men K E reads).Ok:=by
 have:=h.m1;have:=h.m4;have:=h.k1;have:=h.k4
 refine ⟨by simp [thB];omega,by simp [thB];omega,by simp [thB,Vab];omega,⟨h.r1,h.r8⟩,by simp [thB];exact h.few,fun x hx=>?_,fun x hx l hl=>?_,fun n hn=>.inr (by have:=h.read n hn;omega),fun c hc=>?_⟩
 ·obtain ⟨m,_,rfl⟩:=List.mem_map.1 (show x∈Vab men from hx)
  simp
 ·obtain ⟨m,hm,rfl⟩:=List.mem_map.1 (show x∈Vab men from hx)
  obtain rfl:=List.eq_of_mem_replicate hl
  have:=List.mem_range.1 hm
  exact ⟨⟨by simp,fun x hx=>by rw [List.mem_singleton.1 hx];show 0≤(m:Int)∧(m:Int)≤(men:Int) - 1;omega⟩,by simp⟩
 ·obtain ⟨e,he,rfl⟩:=List.mem_map.1 (show c∈E.map Uag from hc)
  have:=h.ent e he
  refine ⟨⟨?_,?_⟩,⟨?_,?_⟩,this.2.2.1,this.2.2.2⟩
  ·show (0:Int)≤(e.1:Nat);omega
  ·show ((e.1:Nat):Int)<reads.length;omega
  ·show (0:Int)≤(e.2.1:Nat);omega
  ·show ((e.2.1:Nat):Int)<((Vab men).length:Nat);simp [Vab];omega
theorem ThOk.at {men K:Nat} {E:List Ent} {reads:List Int} (h:ThOk men K E reads) {e:Ent} (he:e∈E) {w:Nat} (hw:w<8):Zp (thB men K E reads) (Uag e) w=[(e.2.1:Int)]:=by
 have h2:=(h.ent e he).2.1
 unfold Zp
 show ((Vab men)[((e.2.1:Nat):Int).toNat]?.getD [])[w]?.getD []=_
 rw [Int.toNat_natCast]
 simp [-List.reduceReplicate,Vab,h2,List.getElem?_replicate,hw]
def Zr (b:Bk):Nat→List Bool
 | 0=>List.replicate 24 false
 | h+1=>Uy b h 0 (Zr b h)
theorem Ydv {men K:Nat} {E:List Ent} {reads:List Int} (ok:ThOk men K E reads) {h w:Nat} (hw:w<8) (g:List Bool):Uy (thB men K E reads) h w g=Uy (thB men K E reads) h 0 g:=by
 have key:∀ (l:List Ent) (g:List Bool),(∀ e∈l,e∈E)→(l.map Uag).foldl (Um (thB men K E reads) h w) g=(l.map Uag).foldl (Um (thB men K E reads) h 0) g:=by
  intro l
  induction l with
  | nil=>intro g _;rfl
  | cons e l ih =>
   intro g hl
   rw [List.map_cons,List.foldl_cons,List.foldl_cons,ih _ (fun e he=>hl e (by simp [he]))]
   have:Um (thB men K E reads) h w g (Uag e)=Um (thB men K E reads) h 0 g (Uag e):=by
    unfold Um
    rw [ok.at (hl e (by simp)) hw,ok.at (hl e (by simp)) (by omega)]
   rw [this]
 exact key E g fun _ h=>h
theorem Zcs {men K:Nat} {E:List Ent} {reads:List Int} (ok:ThOk men K E reads) {h:Nat} {x:At} (hx:x.got=Zr (thB men K E reads) h):∀ (ws:List Nat) (next:List At),(∀ w∈ws,w<8)→(∀ a∈next,a.got=Zr (thB men K E reads) (h+1))→∀ a∈ws.foldl (Xg (thB men K E reads) h x) next,a.got=Zr (thB men K E reads) (h+1):=by
 intro ws
 induction ws with
 | nil=>intro next _ hn;exact hn
 | cons w ws ih =>
  intro next hw hn
  refine ih _ (fun v hv=>hw v (by simp [hv])) fun a ha=>?_
  unfold Xg at ha
  split at ha
  ·split at ha
   ·exact hn a ha
   ·rcases List.mem_append.1 ha with ha | ha
    ·exact hn a ha
    ·rw [List.mem_singleton.1 ha]
     show Uy _ h w x.got=_
     rw [Ydv ok (hw w (by simp)),hx]
     rfl
  ·exact hn a ha
theorem Xfy {men K:Nat} {E:List Ent} {reads:List Int} (ok:ThOk men K E reads):∀ h,∀ x∈Zj (thB men K E reads) h,x.got=Zr (thB men K E reads) h:=by
 intro h
 induction h with
 | zero=>intro x hx;cases hx
 | succ h ih =>
  have hf:∀ a∈Yl (thB men K E reads) h,a.got=Zr (thB men K E reads) (h+1):=by
   unfold Yl
   split
   ·rename_i e
    subst e
    exact Zcs ok rfl _ _ (fun w hw=>List.mem_range.1 hw) (fun a ha=>by cases ha)
   ·intro a ha;cases ha
  have key:∀ (l next:List At),(∀ x∈l,x.got=Zr (thB men K E reads) h)→(∀ a∈next,a.got=Zr (thB men K E reads) (h+1))→∀ a∈l.foldl (fun next x=>(Yu x.wind).foldl (Xg (thB men K E reads) h x) next) next,a.got=Zr (thB men K E reads) (h+1):=by
   intro l
   induction l with
   | nil=>intro next _ hn;exact hn
   | cons x l ihl =>
    intro next hl hn
    exact ihl _ (fun y hy=>hl y (by simp [hy])) (Zcs ok (hl x (by simp)) _ _ (fun w hw=>Ycn hw) hn)
  exact key _ _ ih hf
theorem Vhk {men K:Nat} {E:List Ent} {reads:List Int} (ok:ThOk men K E reads):∀ e∈Xd (thB men K E reads),e.1=Zr (thB men K E reads) reads.length:=by
 intro e he
 obtain ⟨x,hx,rfl⟩:=Xbq e he
 exact Xfy ok _ x hx
theorem Wcw (b:Bk):∀ h,(Zr b h).length=24
 | 0=>by simp [Zr]
 | h+1=>by rw [Zr,Wbs,Wcw b h]
theorem Ufb {men K:Nat} {E:List Ent} {reads:List Int} (ok:ThOk men K E reads) {h:Nat} {m n:Nat} (hm:m<men) (hn:n<K) (g:List Bool) (hg:g.length=24) :
  (Uy (thB men K E reads) h 0 g)[m*4+n]? = some true↔g[m*4+n]? = some true∨(h,m,(n:Int))∈E:=by
 have m4:=ok.m4
 have k4:=ok.k4
 have key:∀ (l:List Ent) (g:List Bool),g.length=24→(∀ e∈l,e∈E)→(((l.map Uag).foldl (Um (thB men K E reads) h 0) g)[m*4+n]? = some true↔g[m*4+n]? = some true∨(h,m,(n:Int))∈l):=by
  intro l
  induction l with
  | nil=>intro g _ _;simp
  | cons e l ih =>
   intro g hg hl
   rw [List.map_cons,List.foldl_cons,ih _ (by rw [Zc1,hg]) (fun e he=>hl e (by simp [he]))]
   have hE:=ok.ent e (hl e (by simp))
   obtain ⟨s,m',v⟩:=e
   simp only at hE
   have h1:Um (thB men K E reads) h 0 g (Uag (s,m',v))=if s=h then g.set (m'*4+v.toNat) true else g:=by
    unfold Um
    rw [ok.at (hl _ (by simp)) (by omega)]
    by_cases e:s=h
    ·rw [if_pos e,if_pos (by show ((s:Nat):Int)=h;omega)]
     show g.set (((m':Nat):Int)*4+v).toNat true=_
     rw [show (((m':Nat):Int)*4+v).toNat=m'*4+v.toNat by omega]
    ·rw [if_neg e,if_neg (by show ¬ ((s:Nat):Int)=h;omega)]
   rw [h1]
   by_cases e:s=h
   ·subst e
    rw [if_pos rfl,List.getElem?_set]
    by_cases e2:m'*4+v.toNat=m*4+n
    ·have:m'=m∧v=n:=by omega
     obtain ⟨rfl,rfl⟩:=this
     rw [if_pos e2,if_pos (by omega)]
     simp
    ·rw [if_neg e2]
     have:¬ (m=m'∧(n:Int)=v):=fun ⟨a,b⟩=>e2 (by omega)
     simp only [List.mem_cons,Prod.mk.injEq,true_and]
     constructor
     ·rintro (h | h)
      ·exact .inl h
      ·exact .inr (.inr h)
     ·rintro (h | h | h)
      ·exact .inl h
      ·exact absurd h this
      ·exact .inr h
   ·rw [if_neg e]
    have:¬ h=s:=fun x=>e x.symm
    simp [this]
 exact key E g hg fun _ h=>h
theorem Vcv {men K:Nat} {E:List Ent} {reads:List Int} (ok:ThOk men K E reads) {m n:Nat} (hm:m<men) (hn:n<K):∀ h,(Zr (thB men K E reads) h)[m*4+n]? = some true↔∃ s,s<h∧(s,m,(n:Int))∈E
 | 0=>by
  have:=ok.m4;have:=ok.k4
  simp [-List.reduceReplicate,Zr,List.getElem?_replicate]
 | h+1=>by
  rw [Zr,Ufb ok hm hn _ (Wcw _ _),Vcv ok hm hn h]
  constructor
  ·rintro (⟨s,h1,h2⟩ | h1)
   ·exact ⟨s,by omega,h2⟩
   ·exact ⟨h,by omega,h1⟩
  ·rintro ⟨s,h1,h2⟩
   by_cases e:s=h
   ·subst e;exact .inr h2
   ·exact .inl ⟨s,by omega,h2⟩
theorem Vfy {men K:Nat} {E:List Ent} {reads:List Int} (ok:ThOk men K E reads) (hne:Xd (thB men K E reads)≠[]) {m n:Nat} (hm:m<men) (hn:n<K) :
  ((∃ s,(s,m,(n:Int))∈E)→Xq (Xd (thB men K E reads)) m n=1)∧((¬ ∃ s,(s,m,(n:Int))∈E)→Xq (Xd (thB men K E reads)) m n=2):=by
 have hall:=Vhk ok
 have hg:=Vcv ok hm hn reads.length
 have hpos:0<(Xd (thB men K E reads)).length:=List.length_pos_iff.2 hne
 constructor
 ·rintro ⟨s,hs⟩
  have h1:=hg.2 ⟨s,(ok.ent _ hs).1,hs⟩
  have:Uu (Xd (thB men K E reads)) (m*4+n)=(Xd (thB men K E reads)).length:=by
   unfold Uu
   rw [List.filter_eq_self.2]
   intro e he
   rw [hall e he,h1];rfl
  unfold Xq
  rw [if_pos this]
 ·intro hno
  have h1:¬ (Zr (thB men K E reads) reads.length)[m*4+n]? = some true:=fun h=>by
   obtain ⟨s,_,h2⟩:=hg.1 h
   exact hno ⟨s,h2⟩
  have:Uu (Xd (thB men K E reads)) (m*4+n)=0:=by
   unfold Uu
   rw [List.length_eq_zero_iff,List.filter_eq_nil_iff]
   intro e he
   rw [hall e he]
   cases hx:(Zr (thB men K E reads) reads.length)[m*4+n]? with
   | none=>simp
   | some b =>
    cases b with
    | true=>exact absurd hx h1
    | false=>simp
  unfold Xq
  rw [this,if_neg (by omega),if_pos rfl]
theorem Ve0 {men K:Nat} {E:List Ent} {reads:List Int} (ok:ThOk men K E reads):∃ real,Fits (thB men K E reads) real:=by
 have h01:∀ (h w:Nat),(reads.map Int.toNat)[h]? = some w→(w=0∨w=1)∧reads[h]? = some (w:Int):=fun h w hw=>by
  rw [Qzp,Qzm] at hw
  obtain ⟨x,hx,rfl⟩:=hw
  have:=ok.read x (Qzg hx)
  refine ⟨by omega,?_⟩
  rw [hx]
  congr 1
  omega
 refine ⟨reads.map Int.toNat,by simp [thB],fun h w hw=>?_,fun h v w hv hw=>?_⟩
 ·obtain ⟨h1,h2⟩:=h01 h w hw
  refine ⟨by omega,?_⟩
  unfold Yab
  show (decide (reads[h]? = some (-1))||Uq w (reads[h]?.getD 0))=true
  rw [h2]
  rcases h1 with rfl | rfl<;>decide
 ·obtain ⟨h1,_⟩:=h01 h v hv
  obtain ⟨h2,_⟩:=h01 (h+1) w hw
  rcases h1 with rfl | rfl<;>rcases h2 with rfl | rfl<;>decide
theorem ThOk.ne {men K:Nat} {E:List Ent} {reads:List Int} (ok:ThOk men K E reads):Xd (thB men K E reads)≠[]:=by
 obtain ⟨real,h⟩:=Ve0 ok
 exact Xee ok.ok h
theorem Yhs {r:Rl} {S:List (List Int)} (hr:r.Ok) (hs:ShOk r S):(shP S).length≤3*r.ntcs.length:=by
 have key:∀ (T:List (List Int)) (k:Nat),(∀ l∈T,l.length≤3)→((T.mapIdx fun i l=>Yh (i+k) l).flatten).length≤3*T.length:=by
  intro T
  induction T with
  | nil=>intro k _;simp
  | cons l T ih =>
   intro k h
   have h1:=ih (k+1) fun x hx=>h x (by simp [hx])
   have h2:=h l (by simp)
   rw [List.mapIdx_cons,List.flatten_cons,List.length_append,List.length_cons]
   have h3:(Yh (0+k) l).length=l.length:=by simp [Yh]
   have h4:(List.mapIdx (fun i l=>Yh (i+1+k) l) T)=List.mapIdx (fun i l=>Yh (i+(k+1)) l) T:=by
    apply List.mapIdx_eq_mapIdx_iff.2
    intro i hi
    rw [show i+1+k=i+(k+1) by omega]
   rw [h4]
   omega
 have:=key S 0 fun l hl=>by
  obtain ⟨i,hi⟩:=List.mem_iff_getElem?.1 hl
  obtain ⟨n,_,hn,h1,_⟩:=hs.mem hr hi
  have:=hn.t3
  omega
 rw [hs.len] at this
 exact this
theorem Zeu {r:Rl} {S:List (List Int)} {t:Tab} {men slots:Nat} (hr:r.Ok) (hs:ShOk r S) (ht:SlInv slots (shP S) t) (hm:men≤10):(Wd t men slots).length≤3*r.ntcs.length:=by
 have h1:=(Vbm (t:=t) hm (s:=slots)).1
 have hnd:((Wd t men slots).map fun e=>(e.2.1,e.2.2)).Nodup:=by
  have hE:(Wd t men slots).Nodup:=(List.Pairwise.of_map _ (fun a b h e=>by subst e;omega) h1)
  refine Vai hE fun a ha b hb e=>?_
  obtain ⟨_,_,a3,a4⟩:=entE_mem.1 ha
  obtain ⟨_,_,b3,b4⟩:=entE_mem.1 hb
  simp only [Prod.mk.injEq] at e
  have:a.1=b.1:=ht.uniq a.1 b.1 a.2.1 (by rw [← a3,e.1,← b3,e.2]) a4
  exact Prod.ext this (Prod.ext e.1 e.2)
 have:=Yz _ (shP S) hnd fun x hx=>by
  obtain ⟨e,he,rfl⟩:=List.mem_map.1 hx
  obtain ⟨_,_,a3,a4⟩:=entE_mem.1 he
  rw [a3]
  exact ht.mem _ _ a4
 rw [List.length_map] at this
 exact Nat.le_trans this (Yhs hr hs)
end Ab
namespace Ab
open Go Go.RowKit Go.Proofs
theorem Xh7 (σ:Za):ACalls Tryz.prog 125 [.int .u64 1,.int .u64 8] σ fun v s=>v=.tup [.int .u64 0,.int .u64 8]∧s=σ:=Wal 60 (by kernel_rfl)
def Waf (x:AV) (n:Nat):List AV:=List.replicate n x++List.replicate (8 - n) .nils
def Rp8 (x:AV) (σ:Za) (env:Env) (σ':Za):Prop:=∃ (u:List AV) (n:Nat),env={ t:=u }∧u.length=48∧tg u 7=.arr 1 σ.length 0 8∧tg u 8=.int .i64 n∧(n=1∨n=2∨n=4∨n=8)∧σ'=σ++[.cells (Waf x n)]
attribute [local irreducible] aws awp aw1 Og Om Oc Oa Ogd Ov Ot awd Zb awh Wb Ogh Ohd awl Ogl Ohl awv Ogv Ohv Xb Vb QFn Ub Xi QRo QBe Ui Uj ACode AYield
set_option maxHeartbeats 2000000 in
theorem Wif (σ:Za) (m:Int) :
  ACalls Tryz.prog 44 [.pl 1 [.pl 1 [.int .i64 m]],.int .i64 8] σ fun v s=>v=.arr 1 σ.length 0 8∧s=σ++[.cells (List.replicate 8 (.pl 1 [.int .i64 m]))]:=by
 refine Yb Tryz.func44 rfl (Ua Tryz.func44 (by decide) rfl) ?_
 have hw:IntKind.u64.wrap (8:Int)=8:=by decide
 have hw1:IntKind.u64.wrap (1:Int)=1:=by decide
 have hwi:IntKind.i64.wrap (8:Int)=8:=by decide
 have w1:IntKind.i64.wrap 1=1:=by decide
 have w2:IntKind.i64.wrap 2=2:=by decide
 have w4:IntKind.i64.wrap 4=4:=by decide
 simp [Tryz.ntmps44,hw,hw1]
 refine StA.of ((Xh7 σ).mono ?_)
 rintro v s ⟨rfl,hs⟩
 obtain rfl:=hs.symm
 simp [hwi]
 refine Xc (Rp8 (.pl 1 [.int .i64 m]) σ) (fun env _=>match tg env.t 8 with | .int _ i=>8 - i.toNat | _=>0) ⟨_,1,rfl,by simp,by simp,by simp,by omega,by simp [Waf,List.replicate]⟩ ?_
 rintro env _ ⟨u,n,rfl,hl,g7,g8,hn,rfl⟩
 rcases hn with rfl | rfl | rfl | rfl
 ·simp [hl,g7,g8,Waf,List.replicate]
  refine Ut [7] [(0,1)] mixed (by kernel_rfl) (by kernel_rfl) ?_
  simp [hl,g7,g8,Waf,w1,w2,w4,List.replicate]
  exact ⟨_,2,rfl,by simp [hl],by simp [hl,g7],by simp [hl],by omega,rfl⟩
 ·simp [hl,g7,g8,Waf,List.replicate]
  refine Ut [7] [(0,1)] mixed (by kernel_rfl) (by kernel_rfl) ?_
  simp [hl,g7,g8,Waf,w1,w2,w4,List.replicate]
  exact ⟨_,4,rfl,by simp [hl],by simp [hl,g7],by simp [hl],by omega,rfl⟩
 ·simp [hl,g7,g8,Waf,List.replicate]
  refine Ut [7] [(0,1)] mixed (by kernel_rfl) (by kernel_rfl) ?_
  simp [hl,g7,g8,Waf,w1,w2,w4,hwi,List.replicate]
  exact ⟨_,8,rfl,by simp [hl],by simp [hl,g7],by simp [hl],by omega,rfl⟩
 ·simp [hl,g7,g8]
  simp [Waf]
end Ab

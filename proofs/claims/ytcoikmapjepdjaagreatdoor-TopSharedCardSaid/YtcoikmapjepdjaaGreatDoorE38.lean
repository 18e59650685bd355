/-
  Texts packed for a claim.
-/
import Derived.Test.YtcoikmapjepdjaaGreatDoorE00
import Derived.Test.YtcoikmapjepdjaaGreatDoorE32
set_option linter.all false
namespace Ab
open Go Go.RowKit Go.Proofs
@[simp] theorem Vit {P:Program} {σ:Za} {env:Env} {Kv:AV→Prop} {dst:Option Nat} {ty:TypeId} {pos:String} {after:Array Edge} {g:Option (Nat × Bool)} {f:Fn} {xs ys:Array Operand}:Ua P ⟨dst,.makeFunc f xs ys,ty,pos,after,g⟩ Kv env σ=Kv (.fn f (xs.toList.map (Wa env.t)) (ys.toList.map (Wa env.t))):=by
 rw [Yp rfl,Xcl];exact propext ⟨fun h=>h.2,fun h=>⟨rfl,h⟩⟩
def pS:Nat→Nat
 | 0=>2
 | 1=>2
 | _=>3
def pD:Nat→Nat
 | 0=>3
 | _=>4
def pC:Nat→Nat
 | 0=>4
 | 1=>3
 | _=>2
def dkL (z:Nat) (r:Rl) (n:Nat) (ld:Nat→Int):List AV:=[.int .i64 r.men,.pl 2 (r.ntcs.map Ub),.arr 1 (n+pS z) 0 r.ntcs.length,.int .i64 (ld 0),.int .i64 (ld 1),.int .i64 (ld 2),.int .i64 (ld 3),.int .i64 (ld 4)]
def Yu (z n:Nat):AV:=.fn (.func 224) [] [.ptr (n+pC z) 0,.ptr (n+1) 0]
def dk3 (z:Nat) (a b c:AObj):Za:=match z with
 | 0=>[a,b,c]
 | 1=>[a,c,b]
 | _=>[c,a,b]
def dkB (z:Nat) (σ:Za) (r:Rl) (most:Int) (vs:List AV) (ld:Nat→Int):Za:=σ++(.cells [.int .i64 r.men,.pl 2 (r.ntcs.map Ub)]::.cells [.int .i64 most]::(dk3 z (.cells vs) (.cells (dkL z r σ.length ld)) (.cells [.ptr (σ.length+pD z) 0])++[.cells [Yu z σ.length]]))
def dkZ (σ:Za):Za:=σ++[.dead,.dead,.dead,.dead,.dead,.dead]
theorem Vn (z:Nat) (σ:Za) (r:Rl) (most:Int) (vs:List AV) (ld:Nat→Int):(dkB z σ r most vs ld).length=σ.length+6:=by match z with | 0=>simp [dkB,dk3] | 1=>simp [dkB,dk3] | z+2=>simp [dkB,dk3]
theorem Xai (σ:Za):(dkZ σ).length=σ.length+6:=by simp [dkZ]
section
variable (z:Nat) (σ:Za) (r:Rl) (most:Int) (vs:List AV) (ld:Nat→Int) (X:Za)
theorem Zc2:(dkB z σ r most vs ld++X)[σ.length+1]? = some (.cells [.int .i64 most]):=by match z with | 0=>simp [dkB,dk3,pS,pD,pC] | 1=>simp [dkB,dk3,pS,pD,pC] | z+2=>simp [dkB,dk3,pS,pD,pC]
theorem Xaa:(dkB z σ r most vs ld++X)[σ.length+pS z]? = some (.cells vs):=by match z with | 0=>simp [dkB,dk3,pS,pD,pC] | 1=>simp [dkB,dk3,pS,pD,pC] | z+2=>simp [dkB,dk3,pS,pD,pC]
theorem Xu:(dkB z σ r most vs ld++X)[σ.length+pD z]? = some (.cells (dkL z r σ.length ld)):=by match z with | 0=>simp [dkB,dk3,pS,pD,pC] | 1=>simp [dkB,dk3,pS,pD,pC] | z+2=>simp [dkB,dk3,pS,pD,pC]
theorem Ua3:(dkB z σ r most vs ld++X)[σ.length+pC z]? = some (.cells [.ptr (σ.length+pD z) 0]):=by match z with | 0=>simp [dkB,dk3,pS,pD,pC] | 1=>simp [dkB,dk3,pS,pD,pC] | z+2=>simp [dkB,dk3,pS,pD,pC]
theorem Wf1:(dkB z σ r most vs ld++X)[σ.length+5]? = some (.cells [Yu z σ.length]):=by match z with | 0=>simp [dkB,dk3,pS,pD,pC] | 1=>simp [dkB,dk3,pS,pD,pC] | z+2=>simp [dkB,dk3,pS,pD,pC]
theorem Wac (j:Nat):(dkB z σ r most vs ld++X)[σ.length+6+j]? = X[j]?:=by
 rw [Qzr (by rw [Vn];omega),Vn,Nat.add_sub_cancel_left]
theorem Xau (vs':List AV):(dkB z σ r most vs ld++X).set (σ.length+pS z) (.cells vs')=dkB z σ r most vs' ld++X:=by match z with | 0=>simp [dkB,dk3,pS,pD,pC] | 1=>simp [dkB,dk3,pS,pD,pC] | z+2=>simp [dkB,dk3,pS,pD,pC]
theorem Xbz (ld':Nat→Int):(dkB z σ r most vs ld++X).set (σ.length+pD z) (.cells (dkL z r σ.length ld'))=dkB z σ r most vs ld'++X:=by match z with | 0=>simp [dkB,dk3,pS,pD,pC] | 1=>simp [dkB,dk3,pS,pD,pC] | z+2=>simp [dkB,dk3,pS,pD,pC]
theorem Zcj (vs':List AV):(dkB z σ r most vs ld).set (σ.length+pS z) (.cells vs')=dkB z σ r most vs' ld:=by match z with | 0=>simp [dkB,dk3,pS,pD,pC] | 1=>simp [dkB,dk3,pS,pD,pC] | z+2=>simp [dkB,dk3,pS,pD,pC]
theorem Zce (ld':Nat→Int):(dkB z σ r most vs ld).set (σ.length+pD z) (.cells (dkL z r σ.length ld'))=dkB z σ r most vs ld':=by match z with | 0=>simp [dkB,dk3,pS,pD,pC] | 1=>simp [dkB,dk3,pS,pD,pC] | z+2=>simp [dkB,dk3,pS,pD,pC]
theorem Ybl (j:Nat) (y:AObj):(dkB z σ r most vs ld++X).set (σ.length+6+j) y=dkB z σ r most vs ld++X.set j y:=by
 rw [List.set_append_right _ _ (by rw [Vn];omega),Vn,Nat.add_sub_cancel_left]
end
theorem Ut (z:Nat) (r:Rl) (n:Nat) (ld:Nat→Int):(dkL z r n ld).length=8:=rfl
theorem Yap (z:Nat) (r:Rl) (n:Nat) (ld:Nat→Int):(dkL z r n ld)[0]? = some (.int .i64 r.men):=rfl
theorem Xag (z:Nat) (r:Rl) (n:Nat) (ld:Nat→Int):(dkL z r n ld)[1]? = some (.pl 2 (r.ntcs.map Ub)):=rfl
theorem Xz (z:Nat) (r:Rl) (n:Nat) (ld:Nat→Int):(dkL z r n ld)[2]? = some (.arr 1 (n+pS z) 0 r.ntcs.length):=rfl
theorem Xbe (z:Nat) (r:Rl) (n:Nat) (ld:Nat→Int) {m:Nat} (h:m<5):(dkL z r n ld)[3+m]? = some (.int .i64 (ld m)):=by
 have:m=0∨m=1∨m=2∨m=3∨m=4:=by omega
 rcases this with rfl | rfl | rfl | rfl | rfl<;>rfl
theorem Vcj (z:Nat) (r:Rl) (n:Nat) (ld:Nat→Int) {m:Nat} (h:m<5) (v:Int):List.take (3+m) (dkL z r n ld)++AV.int .i64 v::List.drop (3+m+1) (dkL z r n ld)=dkL z r n fun k=>if (k:Int)=m then v else ld k:=by
 have:m=0∨m=1∨m=2∨m=3∨m=4:=by omega
 rcases this with rfl | rfl | rfl | rfl | rfl<;>simp [dkL]
def Zu (l:List Int):List (AV × AV):=l.map fun m=>(.int .i64 m,.bool true)
structure DkSt (σ:Za) (K:Nat) (g:Za) (vs:List AV) (os:Nat→Option Nat) (jm:Nat) (s:DS):Prop where
 sh:ShAcc (dkZ σ) g K vs s.F os
 map:g[jm]? = some (.map (Zu s.met))
 dis:∀ x,x<K→os x≠some jm
structure Kp (K jm:Nat) (g:Za) (os:Nat→Option Nat) (g':Za) (os':Nat→Option Nat):Prop where
 len:g.length≤g'.length
 keep:∀ j,j<g.length→j≠jm→(∀ x,x<K→os x≠some j)→g'[j]? = g[j]?
 own:∀ x,x<K→∀ j,os' x=some j→os x=some j∨g.length≤j
theorem Kp.refl (K jm:Nat) (g:Za) (os:Nat→Option Nat):Kp K jm g os g os:=⟨Nat.le_refl _,fun _ _ _ _=>rfl,fun _ _ _ h=>.inl h⟩
theorem Kp.trans {K jm:Nat} {g g' g'':Za} {os os' os'':Nat→Option Nat} (h:Kp K jm g os g' os') (h':Kp K jm g' os' g'' os''):Kp K jm g os g'' os'':=by
 refine ⟨Nat.le_trans h.len h'.len,fun j hj hm ho=>?_,fun x hx j hj=>?_⟩
 ·rw [h'.keep j (Nat.lt_of_lt_of_le hj h.len) hm fun x hx e=>?_,h.keep j hj hm ho]
  rcases h.own x hx j e with e | e
  ·exact ho x hx e
  ·omega
 ·rcases h'.own x hx j hj with e | e
  ·exact h.own x hx j e
  ·exact .inr (Nat.le_trans h.len e)
theorem ShAcc.lt {b g:Za} {K:Nat} {vs:List AV} {F:Nat→List Int} {os:Nat→Option Nat} (h:ShAcc b g K vs F os) {x j:Nat} (hx:x<K) (hj:os x=some j):j<g.length:=by
 obtain ⟨v,_,hA⟩:=h.acc x hx
 have:=hA.val
 rw [hj] at this
 exact (Qzs.1 this.2).1
theorem DkSt.more {σ:Za} {K:Nat} {g:Za} {vs:List AV} {os:Nat→Option Nat} {jm:Nat} {s:DS} (h:DkSt σ K g vs os jm s) (x:Za):DkSt σ K (g++x) vs os jm s∧Kp K jm g os (g++x) os:=by
 have hjm:=(Qzs.1 h.map).1
 have hk:∀ j,j<g.length→(g++x)[j]? = g[j]?:=fun j hj=>Qzl hj
 refine ⟨⟨⟨h.sh.len,fun n hn=>?_,h.sh.dis⟩,by rw [hk jm hjm];exact h.map,h.dis⟩,by simp,fun j hj _ _=>hk j hj,fun _ _ _ e=>.inl e⟩
 obtain ⟨v,hv,hA⟩:=h.sh.acc n hn
 exact ⟨v,hv,hA.kept (o:=none) (fun j _ hj=>hk j hj) (fun j e=>by cases e)⟩
theorem DkSt.push {σ:Za} {K:Nat} {g:Za} {vs:List AV} {os:Nat→Option Nat} {jm:Nat} {s:DS} (h:DkSt σ K g vs os jm s) {b:Za} (hb:b.length=σ.length+6) {n:Nat} (hn:n<K) {v:AV} (hv:vs[n]? = some v) (x:Int) (hl:(s.F n).length≤2^20) :
  ∃ v' g' os',Xa Tryz.prog #[32,32] v (.pl 1 [.int .i64 x]) (b++g)=some (v',b++g')∧(∃ j ln,v'=.arr 1 j 0 ln)∧DkSt σ K g' (vs.set n v') os' jm (s.give x n)∧Kp K jm g os g' os':=by
 have hsh:=h.sh.base (b':=b) (by rw [hb,Xai])
 obtain ⟨w,hw,hA⟩:=hsh.acc n hn
 rw [hv] at hw
 obtain rfl:=Option.some.inj hw
 obtain ⟨v',g',jo,he,hA',hv',hkeep,hjo⟩:=Ue7 hA x (by omega)
 have hjm:=(Qzs.1 h.map).1
 have hjg:jo<g'.length:=by
  have:=hA'.val
  exact (Qzs.1 this.2).1
 have hlt:∀ k,k<K→∀ j,os k=some j→j<g.length:=fun k hk j e=>hsh.lt hk e
 have hjom:jo≠jm:=by
  rintro rfl
  rcases hjo with h1 | h1
  ·exact h.dis n hn h1.symm
  ·omega
 have hglen:g.length≤g'.length:=by
  by_cases h0:g.length=0
  ·omega
  ·rcases hjo with h1 | h1
   ·refine Classical.byContradiction fun hc=>?_
    by_cases hl:g.length - 1=jo
    ·omega
    ·have:=hkeep (g.length - 1) (by rw [← h1];intro e;exact hl (Option.some.inj e)) (by omega)
     rw [Qze (show g.length - 1<g.length by omega),List.getElem?_eq_none (show g'.length≤g.length - 1 by omega)] at this
     cases this
   ·omega
 refine ⟨v',g',fun k=>if k=n then some jo else os k,he,⟨_,_,hv'⟩,⟨⟨by simp [hsh.len],fun k hk=>?_,fun p q hp hq hne j e1 e2=>?_⟩,?_,fun k hk=>?_⟩,hglen,fun j hj hm ho=>hkeep j (fun e=>ho n hn e.symm) hj,fun k hk j e=>?_⟩
 ·by_cases hkn:k=n
  ·subst hkn
   refine ⟨v',by rw [List.getElem?_set_self (by rw [hsh.len];exact hk)],?_⟩
   have:=hA'.base (σ':=dkZ σ) (by rw [hb,Xai])
   simpa [DS.give] using this
  ·obtain ⟨w,hw,hAk⟩:=h.sh.acc k hk
   refine ⟨w,by rw [List.getElem?_set_ne (fun e=>hkn e.symm)];exact hw,?_⟩
   have:=hAk.kept hkeep fun j e1 e2=>hsh.dis n k hn hk (fun e=>hkn e.symm) j e1 e2
   simpa [DS.give,hkn] using this
 ·by_cases hpn:p=n
  ·subst hpn
   have hqn:¬ q=p:=fun e=>hne e.symm
   simp only [if_pos rfl,if_neg hqn] at e1 e2
   obtain rfl:=Option.some.inj e1
   rcases hjo with h1 | h1
   ·exact hsh.dis p q hp hq hne jo h1.symm e2
   ·have:=hlt q hq jo e2;omega
  ·by_cases hqn:q=n
   ·subst hqn
    simp only [if_pos rfl,if_neg hpn] at e1 e2
    obtain rfl:=Option.some.inj e2
    rcases hjo with h1 | h1
    ·exact hsh.dis p q hp hq hne jo e1 h1.symm
    ·have:=hlt p hp jo e1;omega
   ·simp only [if_neg hpn,if_neg hqn] at e1 e2
    exact hsh.dis p q hp hq hne j e1 e2
 ·rw [hkeep jm (fun e=>h.dis n hn e.symm) hjm];exact h.map
 ·by_cases hkn:k=n
  ·simp only [if_pos hkn];intro e;exact hjom (Option.some.inj e)
  ·simp only [if_neg hkn];exact h.dis k hk
 ·by_cases hkn:k=n
  ·simp only [if_pos hkn] at e
   obtain rfl:=Option.some.inj e
   subst hkn
   rcases hjo with h1 | h1
   ·exact .inl h1.symm
   ·exact .inr (by omega)
  ·simp only [if_neg hkn] at e;exact .inl e
attribute [local irreducible] aws awp aw1 Og Om Oc Oa Ogd Ov Ot awd Ua awh Xb Ogh Ohd awl Ogl Ohl awv Ogv Ohv Wb Vb QFn Zc Vg QRo QBe Yf Yg ACode AYield dkB dkL
set_option maxHeartbeats 2000000 in
theorem Ubr {z:Nat} {σ:Za} {r:Rl} {most:Int} {g:Za} {vs:List AV} {os:Nat→Option Nat} {jm:Nat} {s:DS} (hst:DkSt σ r.ntcs.length g vs os jm s) {n m:Nat} (hn:n<r.ntcs.length) (hm:m<5) (hl:(s.F n).length≤2^20) (hb:-100≤s.ld m∧s.ld m≤100) (hK:r.ntcs.length≤6) :
  ACalls Tryz.prog 284 [.ptr (σ.length+pD z) 0,.int .i64 m,.int .i64 n] (dkB z σ r most vs s.ld++g) fun _ s'=>∃ vs' g' os',s'=dkB z σ r most vs' (s.give m n).ld++g'∧DkSt σ r.ntcs.length g' vs' os' jm (s.give m n)∧Kp r.ntcs.length jm g os g' os':=by
 have hvl:=hst.sh.len
 have hnv:n<vs.length:=by omega
 have hnv1:n+1≤vs.length:=hnv
 have hn1:n+1≤r.ntcs.length:=hn
 have hn':(n:Int)<(r.ntcs.length:Int):=by omega
 have hv:vs[n]? = some (vs[n]'hnv):=Qze hnv
 obtain ⟨v,hve⟩:∃ v,vs[n]'hnv=v:=⟨_,rfl⟩
 rw [hve] at hv
 obtain ⟨v',g',os',he,⟨jj,ln,rfl⟩,hst',hkp⟩:=hst.push (b:=dkB z σ r most vs s.ld) (Vn _ _ _ _ _ _) hn hv m hl
 have hvs:List.take n vs++AV.arr 1 jj 0 ln::List.drop (n+1) vs=vs.set n (.arr 1 jj 0 ln):=by rw [List.set_eq_take_append_cons_drop,if_pos hnv]
 have hm1:m+1≤5:=hm
 have hm3:3+m+1≤8:=by omega
 have hm4:3+m<8:=by omega
 have hm':(m:Int)<5:=by omega
 have hld:=Xbe z r σ.length s.ld hm
 have hw:=w64 (n:=s.ld m+1) (by omega) (by omega)
 refine Yb Tryz.func284 rfl (Zb Tryz.func284 (by decide) rfl) ?_
 simp [-Xa,Tryz.ntmps284]
 refine Xp [14,16] [(0,1),(1,1),(2,1),(3,1),(4,1)] mixed (by kernel_rfl) (by kernel_rfl) ?_
 simp [-Xa,Xu,Xaa,Vn,Ut,Yap,Xag,Xz,hn,hn1,hn',hnv,hnv1,hve,hv]
 rw [he,Wl]
 simp [-Xa,Xu,Xaa,Xau,Vn,Ut,Yap,Xag,Xz,hn,hn1,hn',hnv,hnv1,hve,hv]
 rw [hvs]
 try simp only [Zcj,Xau]
 refine Xp [10] [] mixed (by kernel_rfl) (by kernel_rfl) ?_
 simp [-Xa,Xu,Xaa,Xau,Vn,Ut,Yap,Xag,Xz,hm,hm1,hm',hld,hw,hm3,hm4]
 rw [Vcj z r σ.length s.ld hm]
 simp only [Zce,Xbz]
 have e:(s.give m n).ld=fun (k:Nat)=>if (k:Int)=m then s.ld m+1 else s.ld k:=by
  funext k
  show (if (k:Int)=m then s.ld k+1 else s.ld k)=_
  split
  ·rename_i e;rw [show k=m by omega]
  ·rfl
 exact ⟨_,_,by rw [e],_,hst',hkp⟩
theorem DkSt.lay {σ:Za} {K:Nat} {g:Za} {vs:List AV} {os:Nat→Option Nat} {jm:Nat} {s:DS} (h:DkSt σ K g vs os jm s) {n j:Nat} (hn:n<K) (hj:os n=some j) (x:Int) :
  DkSt σ K (g.set j (.cells (Ya (Wp (s.F n) x)))) (vs.set n (.arr 1 (σ.length+6+j) 0 (Wp (s.F n) x).length)) os jm (s.take x n)∧Kp K jm g os (g.set j (.cells (Ya (Wp (s.F n) x)))) os:=by
 have hlt:∀ k,k<K→∀ j,os k=some j→j<g.length:=fun k hk j e=>h.sh.lt hk e
 have hjm:jm≠j:=fun e=>h.dis n hn (e▸hj)
 refine ⟨⟨⟨by simp [h.sh.len],fun k hk=>?_,h.sh.dis⟩,by rw [List.getElem?_set_ne (Ne.symm hjm)];exact h.map,h.dis⟩,by simp,fun i hi hm ho=>List.getElem?_set_ne (fun e=>ho n hn (by rw [hj,e])),fun _ _ _ e=>.inl e⟩
 obtain ⟨w,hw,hA⟩:=h.sh.acc k hk
 by_cases hkn:k=n
 ·subst hkn
  refine ⟨_,by rw [List.getElem?_set_self (by rw [h.sh.len];exact hk)],fun y hy=>by obtain ⟨z,_,rfl⟩:=List.mem_map.1 hy;exact ⟨rfl,by simp [AV.cells,AV.one]⟩,?_⟩
  have e:(s.take x k).F k=Wp (s.F k) x:=by show (if k=k then _ else _)=_;rw [if_pos rfl];rfl
  rw [hj,e]
  refine ⟨by rw [Xai,Xy],?_⟩
  rw [List.getElem?_set_self (hlt k hk j hj),Vy (fun y hy=>by obtain ⟨z,_,rfl⟩:=List.mem_map.1 hy;rfl)]
 ·refine ⟨w,by rw [List.getElem?_set_ne (fun e=>hkn e.symm)];exact hw,?_⟩
  have e:(s.take x n).F k=s.F k:=by show (if k=n then _ else _)=_;rw [if_neg hkn]
  rw [e]
  refine ⟨hA.len,?_⟩
  have hv:=hA.val
  cases ho:os k with
  | none=>rw [ho] at hv;exact hv
  | some i =>
   rw [ho] at hv
   refine ⟨hv.1,?_⟩
   rw [List.getElem?_set_ne (fun e=>h.sh.dis n k hn hk (fun e=>hkn e.symm) j hj (by rw [ho,e]))]
   exact hv.2
set_option maxHeartbeats 2000000 in
theorem Zfz {z:Nat} {σ:Za} {r:Rl} {most:Int} {g:Za} {vs:List AV} {os:Nat→Option Nat} {jm:Nat} {s:DS} (hst:DkSt σ r.ntcs.length g vs os jm s) {n m:Nat} (hn:n<r.ntcs.length) (hm:m<5) (hl:(s.F n).length≤2^20) (hin:(m:Int)∈s.F n) (hb:-100≤s.ld m∧s.ld m≤100) (hK:r.ntcs.length≤6) :
  ACalls Tryz.prog 283 [.ptr (σ.length+pD z) 0,.int .i64 m,.int .i64 n] (dkB z σ r most vs s.ld++g) fun _ s'=>∃ vs' g' os',s'=dkB z σ r most vs' (s.take m n).ld++g'∧DkSt σ r.ntcs.length g' vs' os' jm (s.take m n)∧Kp r.ntcs.length jm g os g' os':=by
 have hst0:=hst
 obtain ⟨hst,hkp0⟩:=hst.more [.cells [.int .i64 m]]
 obtain ⟨g1,hg1⟩:∃ g1,g++[AObj.cells [.int .i64 m]]=g1:=⟨_,rfl⟩
 rw [hg1] at hst hkp0
 have hmg:g1[g.length]? = some (.cells [.int .i64 m]):=by rw [← hg1];simp
 have hvl:=hst.sh.len
 have hnv:n<vs.length:=by omega
 obtain ⟨v,hv,hA⟩:=hst.sh.acc n hn
 have hve:vs[n]'hnv=v:=Option.some.inj ((Qze hnv).symm.trans hv)
 obtain ⟨j,hj⟩:∃ j,os n=some j:=by
  cases ho:os n with
  | some j=>exact ⟨j,rfl⟩
  | none =>
   rw [ho] at hA
   have:s.F n=[]:=by simpa [Ya] using hA.val.2
   rw [this] at hin;cases hin
 have hvj:=hA.val
 rw [hj,Xai,Vy (fun y hy=>by obtain ⟨z,_,rfl⟩:=List.mem_map.1 hy;rfl),Xy] at hvj
 obtain ⟨rfl,hgj⟩:=hvj
 obtain ⟨hst2,hkp⟩:=hst.lay hn hj (m:Int)
 have hjb:j≠g.length:=by
  have:=hst0.sh.lt hn hj
  omega
 have hnv1:n+1≤vs.length:=hnv
 have hn1:n+1≤r.ntcs.length:=hn
 have hn':(n:Int)<(r.ntcs.length:Int):=by omega
 have cD:=Xf5 (r:=σ.length+6+j) (t:=σ.length+6+g.length) (s.F n) (m:Int) (by omega) (by omega) (dkB z σ r most vs s.ld++g1) (by rw [Wac];exact hgj) (by rw [Wac];exact hmg)
 rw [Ybl] at cD
 have hvs:∀ y,List.take n vs++y::List.drop (n+1) vs=vs.set n y:=fun y=>by rw [List.set_eq_take_append_cons_drop,if_pos hnv]
 have hm1:m+1≤5:=hm
 have hm3:3+m+1≤8:=by omega
 have hm4:3+m<8:=by omega
 have hm':(m:Int)<5:=by omega
 have hld:=Xbe z r σ.length s.ld hm
 have hw:=w64 (n:=s.ld m - 1) (by omega) (by omega)
 refine Yb Tryz.func283 rfl (Zb Tryz.func283 (by decide) rfl) ?_
 simp [-Xa,Tryz.ntmps283,Vn]
 rw [hg1]
 refine Xp [13,15] [(0,1),(1,1),(2,1),(3,1),(4,1)] mixed (by kernel_rfl) (by kernel_rfl) ?_
 simp [-Xa,Xu,Xaa,Vn,Ut,Yap,Xag,Xz,hn,hn1,hn',hnv,hnv1,hve,hv]
 refine Zab cD ?_
 simp [-Xa,Xu,Xaa,Xau,Vn,Ut,Yap,Xag,Xz,hn,hn1,hn',hnv,hnv1,hve,hv,hvs,Zcj]
 refine Xp [10] [] mixed (by kernel_rfl) (by kernel_rfl) ?_
 have hmg2:(g1.set j (.cells (Ya (Wp (s.F n) m))))[g.length]? = some (.cells [.int .i64 m]):=by rw [List.getElem?_set_ne hjb];exact hmg
 simp [-Xa,Xu,Xaa,Wac,Xau,Vn,Ut,Yap,Xag,Xz,hm,hm1,hm',hld,hw,hm3,hm4,hmg2]
 rw [Vcj z r σ.length s.ld hm]
 simp only [Zce,Xbz]
 have e:(s.take m n).ld=fun (k:Nat)=>if (k:Int)=m then s.ld m - 1 else s.ld k:=by
  funext k
  show (if (k:Int)=m then s.ld k - 1 else s.ld k)=_
  split
  ·rename_i e;rw [show k=m by omega]
  ·rfl
 exact ⟨_,_,by rw [e],_,hst2,hkp0.trans hkp⟩
end Ab
namespace Ab
open Go Go.RowKit Go.Proofs
theorem Zes {f:FuncId} {args args':List AV} {b:Bool} {τ:Za} (h:APure Tryz.prog f args (.bool b)) (hz:FzL 0 τ args' args):ACalls Tryz.prog f args' τ fun v s=>v=.bool b∧s=τ :=
 APure.lend h hz.1 hz.2 fun C C' c hv=>by cases hv;exact .bool _
theorem Ubs (m:Int):∀ (l:List Int) (i:Nat),if m∈l then ∃ j,Zw 1 (.int .i64 m) (Zu l) i=some (some (j,.bool true)) else Zw 1 (.int .i64 m) (Zu l) i=some none
 | [],i=>by simp [Zu,Zw]
 | x::l,i=>by
  have ih:=Ubs m l (i+1)
  have e:Zu (x::l)=(.int .i64 x,.bool true)::Zu l:=rfl
  rw [e]
  unfold Zw
  by_cases h:m=x
  ·subst h
   rw [if_pos (by simp)]
   exact ⟨i,by simp [Zt]⟩
  ·have h':Zt 1 (.int .i64 m) (.int .i64 x)=some false:=by simp [Zt,h]
   rw [h']
   by_cases hm:m∈l
   ·rw [if_pos hm] at ih
    rw [if_pos (by simp [hm])]
    exact ih
   ·rw [if_neg hm] at ih
    rw [if_neg (by simp [hm,h])]
    exact ih
theorem DR.len {r:Rl} (ok:r.Ok) {s:DS} (h:DR r s) {n:Nat} (hn:n<r.ntcs.length):(s.F n).length≤5:=by
 have:=Ws (s.F n) ((List.range 5).map fun k:Nat=>(k:Int)) (h.nd n hn) fun x hx=>by
  have h1:=Vr ok n hn x (h.sub n hn x hx)
  have:=ok.m5
  exact List.mem_map.2 ⟨x.toNat,List.mem_range.2 (by omega),by omega⟩
 simpa using this
theorem DR.lds {r:Rl} (ok:r.Ok) {s:DS} (h:DR r s) {m:Nat} (hm:m<r.men.toNat):-100≤s.ld m∧s.ld m≤6:=by
 have h1:=h.ld m hm
 have:=Xba s.F m r.ntcs.length
 have:=ok.few
 omega
theorem DI.met_le {M:Nat→List Int} {men K:Nat} {s:DS} (h:DI M men K s):s.met.length≤men:=by
 have:=Ws s.met ((List.range men).map fun k:Nat=>(k:Int)) h.mnd fun x hx=>by
  have h1:=h.mlt x hx
  exact List.mem_map.2 ⟨x.toNat,List.mem_range.2 (by omega),by omega⟩
 simpa using this
theorem DkSt.meet {σ:Za} {K:Nat} {g:Za} {vs:List AV} {os:Nat→Option Nat} {jm:Nat} {s:DS} (h:DkSt σ K g vs os jm s) (m:Int) :
  DkSt σ K (g.set jm (.map (Zu s.met++[(.int .i64 m,.bool true)]))) vs os jm (s.meet m)∧Kp K jm g os (g.set jm (.map (Zu s.met++[(.int .i64 m,.bool true)]))) os:=by
 have hjm:=(Qzs.1 h.map).1
 refine ⟨⟨⟨h.sh.len,fun k hk=>?_,h.sh.dis⟩,?_,h.dis⟩,by simp,fun i hi hm ho=>List.getElem?_set_ne (fun e=>hm e.symm),fun _ _ _ e=>.inl e⟩
 ·obtain ⟨w,hw,hA⟩:=h.sh.acc k hk
  refine ⟨w,hw,hA.len,?_⟩
  have hv:=hA.val
  cases ho:os k with
  | none=>rw [ho] at hv;exact hv
  | some i =>
   rw [ho] at hv
   refine ⟨hv.1,?_⟩
   rw [List.getElem?_set_ne (fun e=>h.dis k hk (by rw [ho,e]))]
   exact hv.2
 ·rw [List.getElem?_set_self hjm]
  show _=some (AObj.map (Zu (s.met++[m])))
  simp [Zu]
attribute [local irreducible] aws awp aw1 Og Om Oc Oa Ogd Ov Ot awd Ua awh Xb Ogh Ohd awl Ogl Ohl awv Ogv Ohv Wb Vb QFn Zc Vg QRo QBe Yf Yg ACode AYield dkB dkL
theorem Wfu (z:Nat) (σ:Za) (r:Rl) (most:Int) (vs:List AV) (ld:Nat→Int) (g:Za) {m:Nat} (hm:m<5) :
  ACalls Tryz.prog 224 [.int .i64 m,.ptr (σ.length+pC z) 0,.ptr (σ.length+1) 0] (dkB z σ r most vs ld++g) fun v s=>v=.bool (decide (ld m<most))∧s=dkB z σ r most vs ld++g:=by
 refine Yb Tryz.func224 rfl (Zb Tryz.func224 (by decide) rfl) ?_
 have hm3:3+m+1≤8:=by omega
 have hm':(m:Int)<5:=by omega
 have hld:=Xbe z r σ.length ld hm
 simp [Tryz.ntmps224]
 refine Yl mixed (by kernel_rfl) ?_
 simp [Ua3,Xu,Zc2,Ut,hm,hm',hm3,hld]
theorem DkSt.has {z:Nat} {σ:Za} {r:Rl} {most:Int} {K:Nat} {g:Za} {vs:List AV} {os:Nat→Option Nat} {jm:Nat} {s:DS} (h:DkSt σ K g vs os jm s) {ld:Nat→Int} {n:Nat} (hn:n<K) {v:AV} (hv:vs[n]? = some v) (m:Int) (hl:(s.F n).length≤2^40) :
  ACalls Tryz.prog 48 [v,.int .i64 m] (dkB z σ r most vs ld++g) fun v s'=>v=.bool (decide (m∈s.F n))∧s'=dkB z σ r most vs ld++g:=by
 obtain ⟨w,hw,hA⟩:=h.sh.acc n hn
 rw [hv] at hw
 obtain rfl:=Option.some.inj hw
 have hA:=hA.base (σ':=dkB z σ r most vs ld) (by rw [Vn,Xai])
 have c:=Uau (s.F n) m hl
 refine Zes (by simpa [Ya] using c) (FzL.cons_iff.2 ⟨?_,FzL.cons_iff.2 ⟨.int _ _,FzL.nil_iff.2 trivial⟩⟩)
 have:=Ubv (n:=0) hA (by omega)
 simpa [Ya] using this
def DpA (z:Nat) (r:Rl) (most:Int) (σ:Za) (K k n jm jr:Nat) (L:List Int) (g0:Za) (os0:Nat→Option Nat) (s0:DS) (res:Bool × DS) (env:Env) (σ':Za):Prop:=∃ (u:List AV) (i:Nat) (s:DS) (g:Za) (vs:List AV) (os:Nat→Option Nat),env={ t:=u }∧u.length=86∧tg u 0=.ptr (σ.length+pD z) 0∧tg u 1=.int .i64 n∧tg u 3=.mp (σ.length+6+jm)∧tg u 6=.ptr (σ.length+6+jr) 0∧tg u 9=.int .i64 (-1)∧tg u 21=.pl 1 (Ya L)∧tg u 22=.int .i64 L.length∧tg u 23=.int .i64 i∧i≤L.length ∧
 σ'=dkB z σ r most vs s.ld++g∧DkSt σ K g vs os jm s∧Kp K jm g0 os0 g os∧DR r s∧(∃ x,s.met=s0.met++x)∧plM (plD (Ue r) most K k) most n K (L.drop i) s=res
def DpB (z:Nat) (r:Rl) (most:Int) (σ:Za) (K k n jm jr:Nat) (L:List Int) (i m:Nat) (g0:Za) (os0:Nat→Option Nat) (s0:DS) (res:Bool × DS) (env:Env) (σ':Za):Prop:=∃ (u:List AV) (o:Nat) (s:DS) (g:Za) (vs:List AV) (os:Nat→Option Nat),env={ t:=u }∧u.length=86∧tg u 0=.ptr (σ.length+pD z) 0∧tg u 1=.int .i64 n∧tg u 3=.mp (σ.length+6+jm)∧tg u 6=.ptr (σ.length+6+jr) 0∧tg u 9=.int .i64 (-1)∧tg u 11=.int .i64 m∧tg u 21=.pl 1 (Ya L)∧tg u 22=.int .i64 L.length∧tg u 23=.int .i64 i∧tg u 53=.int .i64 K∧tg u 54=.int .i64 o∧o≤K ∧
 σ'=dkB z σ r most vs s.ld++g∧DkSt σ K g vs os jm s∧Kp K jm g0 os0 g os∧DR r s∧(∃ x,s.met=s0.met++x)∧s0.met.length<s.met.length∧(m:Int)∈s.met∧(m:Int)∉s.F n∧(match plO (plD (Ue r) most K k) m ((List.range K).drop o) s with
  | (true,s')=>(true,s'.give m n)
  | (false,s')=>plM (plD (Ue r) most K k) most n K (L.drop (i+1)) s')=res
set_option maxRecDepth 20000 in
set_option maxHeartbeats 8000000 in
theorem Wg5 {r:Rl} (ok:r.Ok) (z:Nat) (most:Int) (hmost:-1000≤most∧most≤1000) (σ:Za):∀ (k n jm:Nat) (g0:Za) (vs0:List AV) (os0:Nat→Option Nat) (s0:DS),n<r.ntcs.length→DkSt σ r.ntcs.length g0 vs0 os0 jm s0→DR r s0→r.men.toNat<s0.met.length+k →
  ACalls Tryz.prog 225 [.ptr (σ.length+pD z) 0,.int .i64 n,.agg [Yu z σ.length],.mp (σ.length+6+jm)] (dkB z σ r most vs0 s0.ld++g0) fun v s'=>v=.bool (plD (Ue r) most r.ntcs.length k n s0).1∧∃ vs' g' os',s'=dkB z σ r most vs' (plD (Ue r) most r.ntcs.length k n s0).2.ld++g'∧DkSt σ r.ntcs.length g' vs' os' jm (plD (Ue r) most r.ntcs.length k n s0).2∧Kp r.ntcs.length jm g0 os0 g' os':=by
 intro k
 induction k with
 | zero =>
  intro n jm g0 vs0 os0 s0 hn hst hI hk
  have:=hI.met_le
  omega
 | succ k ih =>
 intro n jm g0 vs0 os0 s0 hn hst hI hk
 obtain ⟨x,hx,hxo⟩:=Zag ok hn
 obtain ⟨L,hL⟩:∃ L,x.men=L:=⟨_,rfl⟩
 have hML:Ue r n=L:=by rw [Zx hx,hL]
 obtain ⟨res,hres⟩:∃ x,plD (Ue r) most r.ntcs.length (k+1) n s0=x:=⟨_,rfl⟩
 have hres':plM (plD (Ue r) most r.ntcs.length k) most n r.ntcs.length L s0=res:=by rw [← hres,plD,hML]
 rw [hres]
 have hspec:=Zca (most:=most) (Vr ok) k
 obtain ⟨K,hK⟩:∃ K,r.ntcs.length=K:=⟨_,rfl⟩
 have hK6:K≤6:=by have:=ok.few;omega
 have hLin:∀ m∈L,0≤m∧m<(r.men.toNat:Int):=fun m hm=>Vr ok n hn m (by rw [hML];exact hm)
 have hm5:=ok.m5
 have hL5:L.length≤5:=by
  have:=Ws L ((List.range 5).map fun k:Nat=>(k:Int)) (by rw [← hL];exact hxo.srt.imp fun {a b} h e=>by omega) fun x hx=>by
   have h1:=hLin x hx
   exact List.mem_map.2 ⟨x.toNat,List.mem_range.2 (by omega),by omega⟩
  simpa using this
 have hnl:n<(r.ntcs.map Ub).length:=by simpa using hn
 have hng:(r.ntcs.map Ub)[n]'hnl=.agg [.int .i64 x.times,.pl 1 (Ya L)]:=by
  obtain ⟨h1,h2⟩:=Qzs.1 hx
  simp [h2,Ub,hL]
 rw [hK] at hn hst hres' hspec ⊢
 have hn':(n:Int)<(K:Int):=by omega
 have hng2:(r.ntcs.map Ub).length=K:=by simp [hK]
 refine Yb Tryz.func225 rfl (Zb Tryz.func225 (by decide) rfl) ?_
 simp [-Xa,Tryz.ntmps225,Vn,Yu]
 refine Yaw ?_
 obtain ⟨hst1,hkp1⟩:=hst.more [.cells [Yu z σ.length]]
 have hrf:Yu z σ.length=.fn (.func 224) [] [.ptr (σ.length+pC z) 0,.ptr (σ.length+1) 0]:=rfl
 rw [← hrf]
 obtain ⟨g1,hg1⟩:∃ g1,g0++[AObj.cells [Yu z σ.length]]=g1:=⟨_,rfl⟩
 have hjr:g1[g0.length]? = some (.cells [Yu z σ.length]):=by rw [← hg1];simp
 obtain ⟨jr,hjr0⟩:∃ jr,g0.length=jr:=⟨_,rfl⟩
 have hjrm:jr≠jm:=by have:=(Qzs.1 hst.map).1;omega
 have hjro:∀ x,x<K→os0 x≠some jr:=fun x hx e=>by have:=hst.sh.lt hx e;omega
 rw [hg1] at hst1 hkp1 ⊢
 rw [hjr0] at hjr ⊢
 simp [-Xa,Xu,Ut,Xag,hng2,hn,hn',hng]
 rw [Xy]
 refine Wd (DpA z r most σ K k n jm jr L g1 os0 s0 res) (fun env _=>match tg env.t 23 with | .int _ i=>L.length - i.toNat | _=>0) ⟨_,0,s0,g1,vs0,os0,rfl,by simp,by simp,by simp,by simp,by simp,by simp,by simp,by simp,by simp,by omega,rfl,hst1,Kp.refl _ _ _ _,hI,⟨[],by simp⟩,hres'⟩ ?_
 have hroomK:∀ {g:Za} {os:Nat→Option Nat},Kp K jm g1 os0 g os→g[jr]? = some (.cells [Yu z σ.length]):=fun {g os} h=>by
  rw [h.keep jr (Qzs.1 hjr).1 hjrm hjro];exact hjr
 clear hst1 hg1
 rintro env _ ⟨u,i,s,g,vs,os,rfl,hl,g0',g1',g3,g6,g9,g21,g22,g23,hi,rfl,hst2,hkp2,hI2,hmet,hrest⟩
 rcases Qzn i L.length with hlt | hge
 ·have hlt':(i:Int)<(L.length:Int):=by omega
  have hx1:=w64 (n:=(i:Int)+1) (by omega) (by omega)
  have hmem:L[i]∈L:=List.getElem_mem hlt
  obtain ⟨m,hm⟩:∃ m:Nat,L[i]=(m:Int):=⟨L[i].toNat,by have:=hLin _ hmem;omega⟩
  rw [hm] at hmem
  have hmen:=hLin _ hmem
  have hm5':m<5:=by omega
  have hil:i<(Ya L).length:=by rw [Xy];exact hlt
  have hix:(Ya L)[i]'hil=.int .i64 m:=by simp [Ya,hm]
  have hix2:(Ya L)[i]? = some (.int .i64 m):=by rw [Qze hil,hix]
  have hdrop:L.drop i=(m:Int)::L.drop (i+1):=by rw [List.drop_eq_getElem_cons hlt,hm]
  rw [hdrop,plM] at hrest
  have hvl:=hst2.sh.len
  have hnv:n<vs.length:=by omega
  have hnv1:n+1≤vs.length:=hnv
  have hv:vs[n]? = some (vs[n]'hnv):=Qze hnv
  obtain ⟨v,hve⟩:∃ v,vs[n]'hnv=v:=⟨_,rfl⟩
  rw [hve] at hv
  have hFn5:=hI2.len ok (show n<r.ntcs.length by omega)
  have hcon:=hst2.has (z:=z) (r:=r) (most:=most) (ld:=s.ld) hn hv (m:Int) (by omega)
  have hfind:=Ubs m s.met 0
  have hmapx:∀ X:Za,(dkB z σ r most vs s.ld++(g++X))[σ.length+6+jm]? = some (.map (Zu s.met)):=fun X=>by
   rw [Wac,Qzl (Qzs.1 hst2.map).1];exact hst2.map
  have hmapx0:(dkB z σ r most vs s.ld++g)[σ.length+6+jm]? = some (.map (Zu s.met)):=by rw [Wac];exact hst2.map
  by_cases hin:(m:Int)∈s.met
  ·rw [if_pos hin] at hfind
   obtain ⟨j,hj⟩:=hfind
   rw [if_pos (.inl hin)] at hrest
   simp [-Xa,hl,g0',g1',g3,g6,g9,g21,g22,g23,hlt,hlt',hil,hix,hix2,Xy,hmapx0,hj,hx1]
   exact ⟨⟨_,i+1,s,g,vs,os,rfl,by simp [hl],by simp [hl,g0'],by simp [hl,g1'],by simp [hl,g3],by simp [hl,g6],by simp [hl,g9],by simp [hl,g21],by simp [hl,g22],by simp [hl],hlt,rfl,hst2,hkp2,hI2,hmet,hrest⟩,by omega⟩
  ·rw [if_neg hin] at hfind
   simp [-Xa,hl,g0',g1',g3,g6,g9,g21,g22,g23,hlt,hlt',hil,hix,hix2,Xy,hmapx0,hfind,Xu,Xaa,Ut,Xz,hn,hn',hnv,hnv1,hve,hv,hK]
   refine StA.of (hcon.mono ?_)
   rintro _ _ ⟨rfl,rfl⟩
   by_cases hin2:(m:Int)∈s.F n
   ·rw [if_pos (.inr hin2)] at hrest
    simp [-Xa,hl,g0',g1',g3,g6,g9,g21,g22,g23,hin2,hx1]
    exact ⟨⟨_,i+1,s,g,vs,os,rfl,by simp [hl],by simp [hl,g0'],by simp [hl,g1'],by simp [hl,g3],by simp [hl,g6],by simp [hl,g9],by simp [hl,g21],by simp [hl,g22],by simp [hl],hlt,rfl,hst2,hkp2,hI2,hmet,hrest⟩,by omega⟩
   ·rw [if_neg (by rintro (h | h);exact hin h;exact hin2 h),Int.toNat_natCast] at hrest
    obtain ⟨hst3,hkp3⟩:=hst2.meet (m:Int)
    have hI3:=hI2.meet hmen hin
    have hld3:(s.meet m).ld=s.ld:=rfl
    have hF3:(s.meet m).F=s.F:=rfl
    have hmet3:(s.meet m).met=s.met++[(m:Int)]:=rfl
    have hlds:=hI2.lds ok (m:=m) (by omega)
    obtain ⟨g2,hg2⟩:∃ g2,g.set jm (.map (Zu s.met++[(.int .i64 m,.bool true)]))=g2:=⟨_,rfl⟩
    rw [hg2] at hst3 hkp3
    have hkp4:=hkp2.trans hkp3
    have hjr4:=hroomK hkp4
    have hroom:(dkB z σ r most vs s.ld++g2)[σ.length+6+jr]? = some (.cells [Yu z σ.length]):=by rw [Wac];exact hjr4
    have cF:=Wfu z σ r most vs s.ld g2 hm5'
    simp [-Xa,hl,g0',g1',g3,g6,g9,g21,g22,g23,hin2,hmapx0,hfind,Ybl,hg2,hroom]
    rw [hrf]
    simp [-Xa]
    refine StA.of (cF.mono ?_)
    rintro _ _ ⟨rfl,rfl⟩
    by_cases hfree:s.ld m<most
    ·rw [if_pos hfree] at hrest
     subst hrest
     simp [-Xa,hfree,hl,g0',g1',g3,g6,g9,g21,g22,g23]
     have cG:=Ubr (z:=z) (most:=most) (s:=s.meet m) (n:=n) (m:=m) (by rw [hK];exact hst3) (by omega) hm5' (by rw [hF3];omega) (by rw [hld3];omega) (by omega)
     rw [hK,hld3] at cG
     refine StA.of (cG.mono ?_)
     rintro _ _ ⟨vs',g',os',rfl,hst5,hkp5⟩
     simp [-Xa,hfree,hl,g0',g1',g3,g6,g9,g21,g22,g23]
     exact ⟨_,_,rfl,_,hst5,hkp1.trans (hkp4.trans hkp5)⟩
    ·rw [if_neg hfree] at hrest
     simp [-Xa,hfree,hl,g0',g1',g3,g6,g9,g21,g22,g23,Xu,Ut,Xag]
     refine Wd (DpB z r most σ K k n jm jr L i m g1 os0 s0 res) (fun env _=>match tg env.t 54 with | .int _ i=>K - i.toNat | _=>0) ⟨_,0,s.meet m,g2,vs,os,rfl,by simp [hl],by simp [hl,g0'],by simp [hl,g1'],by simp [hl,g3],by simp [hl,g6],by simp [hl,g9],by simp [hl],by simp [hl,g21],by simp [hl,g22],by simp [hl,g23],by simp [hl,hng2,hK],by simp [hl],by omega,rfl,hst3,hkp4,hI3,(by obtain ⟨x,hx⟩:=hmet;exact ⟨x++[(m:Int)],by rw [hmet3,hx,List.append_assoc]⟩),(by obtain ⟨x,hx⟩:=hmet;rw [hmet3,hx];simp),by rw [hmet3];simp,hin2,by rw [List.drop_zero];exact hrest⟩ ?_
     clear hrest hst3 hkp3 hkp4 hI3 hg2 hst2 hkp2 hI2 hmet hcon hfind hmapx hmapx0 hv hve hnv1 hvl hFn5 hin hin2 hlds hjr4 hroom cF hfree hld3 hF3 hmet3 hl g0' g1' g3 g6 g9 g21 g22 g23 hdrop
     rintro env _ ⟨u,o,s,g,vs,os,rfl,hl,g0',g1',g3,g6,g9,g11,g21,g22,g23,g53,g54,ho,rfl,hst2,hkp2,hI2,hmet,hmetl,hmm,hmn,hrest⟩
     rcases Qzn o K with hlt2 | hge2
     ·have hlt2':(o:Int)<(K:Int):=by omega
      have hx2:=w64 (n:=(o:Int)+1) (by omega) (by omega)
      have hdrop:(List.range K).drop o=o::(List.range K).drop (o+1):=by rw [List.drop_eq_getElem_cons (by simpa using hlt2),List.getElem_range]
      rw [hdrop,plO] at hrest
      have hvl:=hst2.sh.len
      have hov:o<vs.length:=by omega
      have hov1:o+1≤vs.length:=hov
      have hv:vs[o]? = some (vs[o]'hov):=Qze hov
      obtain ⟨v,hve⟩:∃ v,vs[o]'hov=v:=⟨_,rfl⟩
      rw [hve] at hv
      have hFo5:=hI2.len ok (show o<r.ntcs.length by omega)
      have hcon:=hst2.has (z:=z) (r:=r) (most:=most) (ld:=s.ld) hlt2 hv (m:Int) (by omega)
      have hroom:(dkB z σ r most vs s.ld++g)[σ.length+6+jr]? = some (.cells [Yu z σ.length]):=by rw [Wac];exact hroomK hkp2
      simp [-Xa,hl,g0',g1',g3,g6,g9,g11,g21,g22,g23,g53,g54,hlt2,hlt2',Xu,Xaa,Ut,Xz,hov,hov1,hve,hv,hK]
      refine StA.of (hcon.mono ?_)
      rintro _ _ ⟨rfl,rfl⟩
      by_cases hin3:(m:Int)∈s.F o
      ·rw [if_pos hin3] at hrest
       have hS:=hspec o s hlt2 (hK▸hI2)
       have cR:=ih o jm g vs os s (by omega) (by rw [hK];exact hst2) hI2 (by omega)
       rw [hK] at cR
       simp [-Xa,hl,g0',g1',g3,g6,g9,g11,g21,g22,g23,g53,g54,hin3,hroom]
       refine StA.of (cR.mono ?_)
       rcases hP:plD (Ue r) most K k o s with ⟨b,s'⟩
       rw [hP] at hS hrest
       rintro _ _ ⟨rfl,vs',g',os',rfl,hst5,hkp5⟩
       dsimp only at hS hrest hst5 ⊢
       have hI5:DR r s':=by have:=hS.inv;rwa [← hK] at this
       cases b with
       | false =>
        simp [-Xa,hl,g0',g1',g3,g6,g9,g11,g21,g22,g23,g53,g54,hin3,hx2]
        obtain ⟨y,hy⟩:=hS.met
        exact ⟨⟨_,o+1,s',g',vs',os',rfl,by simp [hl],by simp [hl,g0'],by simp [hl,g1'],by simp [hl,g3],by simp [hl,g6],by simp [hl,g9],by simp [hl,g11],by simp [hl,g21],by simp [hl,g22],by simp [hl,g23],by simp [hl,g53],by simp [hl],hlt2,rfl,hst5,hkp2.trans hkp5,hI5,(by obtain ⟨x,hx⟩:=hmet;exact ⟨x++y,by rw [hy,hx,List.append_assoc]⟩),(by rw [hy,List.length_append];omega),(by rw [hy];simp [hmm]),(fun h=>hmn ((hS.stay m hmm (by omega) n hn).1 h)),hrest⟩,by omega⟩
       | true =>
        simp [-Xa,hl,g0',g1',g3,g6,g9,g11,g21,g22,g23,g53,g54,hin3,hx2]
        have hin5:(m:Int)∈s'.F o:=(hS.stay m hmm (by omega) o hlt2).2 hin3
        have hl5:=hI5.lds ok (m:=m) (by omega)
        have hlo5:=hI5.len ok (n:=o) (by omega)
        have cT:=Zfz (z:=z) (most:=most) (s:=s') (n:=o) (m:=m) (by rw [hK];exact hst5) (by omega) hm5' (by omega) hin5 (by omega) (by omega)
        rw [hK] at cT
        refine StA.of (cT.mono ?_)
        rintro _ _ ⟨vs6,g6',os6,rfl,hst6,hkp6⟩
        have hI6:DR r (s'.take m o):=hI5.take (by omega) hin5
        have hl6:=hI6.lds ok (m:=m) (by omega)
        have hlo6:=hI6.len ok (n:=n) (by omega)
        have cG:=Ubr (z:=z) (most:=most) (s:=s'.take m o) (n:=n) (m:=m) (by rw [hK];exact hst6) (by omega) hm5' (by omega) (by omega) (by omega)
        rw [hK] at cG
        refine StA.of (cG.mono ?_)
        rintro _ _ ⟨vs7,g7',os7,rfl,hst7,hkp7⟩
        subst hrest
        simp [-Xa,hl,g0',g1',g3,g6,g9,g11,g21,g22,g23,g53,g54,hin3,hx2]
        exact ⟨_,_,rfl,_,hst7,hkp1.trans (hkp2.trans (hkp5.trans (hkp6.trans hkp7)))⟩
      ·rw [if_neg hin3] at hrest
       simp [-Xa,hl,g0',g1',g3,g6,g9,g11,g21,g22,g23,g53,g54,hin3,hx2]
       exact ⟨⟨_,o+1,s,g,vs,os,rfl,by simp [hl],by simp [hl,g0'],by simp [hl,g1'],by simp [hl,g3],by simp [hl,g6],by simp [hl,g9],by simp [hl,g11],by simp [hl,g21],by simp [hl,g22],by simp [hl,g23],by simp [hl,g53],by simp [hl],hlt2,rfl,hst2,hkp2,hI2,hmet,hmetl,hmm,hmn,hrest⟩,by omega⟩
     ·obtain rfl:o=K:=by omega
      rw [List.drop_eq_nil_of_le (by simp),plO] at hrest
      simp [-Xa,hl,g0',g1',g3,g6,g9,g11,g21,g22,g23,g53,g54,hx1]
      exact ⟨⟨_,i+1,s,g,vs,os,rfl,by simp [hl],by simp [hl,g0'],by simp [hl,g1'],by simp [hl,g3],by simp [hl,g6],by simp [hl,g9],by simp [hl,g21],by simp [hl,g22],by simp [hl],hlt,rfl,hst2,hkp2,hI2,hmet,hrest⟩,by omega⟩
 ·obtain rfl:i=L.length:=by omega
  rw [List.drop_length,plM] at hrest
  subst hrest
  simp [-Xa,hl,g0',g1',g3,g6,g9,g21,g22,g23]
  exact ⟨_,_,rfl,_,hst2,hkp1.trans hkp2⟩
end Ab

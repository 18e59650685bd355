/-
  Texts packed for a claim.
-/
import Derived.Test.YtdifgaapdnbliaaGreatDoorS00
import Derived.Test.YtdifgaapdnbliaaGreatDoorS16
import Derived.Test.YtdifgaapdnbliaaGreatDoorS17
import Derived.Test.YtdifgaapdnbliaaGreatDoorS33
import Derived.Test.YtdifgaapdnbliaaGreatDoorS37
import Derived.Test.YtdifgaapdnbliaaGreatDoorS22
import Derived.Test.YtdifgaapdnbliaaGreatDoorS31
import Derived.Test.YtdifgaapdnbliaaGreatDoorS35
set_option linter.all false
namespace Oyez
end Oyez
namespace Ab
open Go Go.RowKit Go.Proofs
attribute [local irreducible] aws awp aw1 Og Om Oc Oa Ogd Ov Ot awd Ub awh Xc Ogh Ohd awl Ogl Ohl awv Ogv Ohv Zc Wc QFn Zd QRo QBe ACode AYield
end Ab
namespace Ab
open Go Go.RowKit Go.Proofs
attribute [local irreducible] aws awp aw1 Og Om Oc Oa Ogd Ov Ot awd Ub awh Xc Ogh Ohd awl Ogl Ohl awv Ogv Ohv Zc Wc QFn Zd QRo QBe ACode AYield
end Ab
namespace Ab
open Go Go.RowKit Go.Proofs
attribute [local irreducible] aws awp aw1 Og Om Oc Oa Ogd Ov Ot awd Ub awh Xc Ogh Ohd awl Ogl Ohl awv Ogv Ohv Zc Wc QFn Zd QRo QBe ACode AYield
structure GoodF (f:List Oyez.Rec):Prop where
 recs:∀ r∈f,Oyez.recErr r=0
 sorted:Oyez.RSorted f
 words:∀ r∈f,∀ w∈r.words,w∈Zdi
theorem GoodF.nil:GoodF []:=⟨by simp,by simp [Oyez.RSorted,Oyez.Sorted],by simp⟩
end Ab
namespace Ab
open Go Go.RowKit Go.Proofs
theorem GoodF.right {f:List Oyez.Rec} (h:GoodF f) (hl:f.length≤40):Oyez.Right f:=⟨hl,h.recs,h.sorted⟩
def dmg (b:UInt8) (dm:Nat):UInt8:=UInt8.ofNat (b.toNat+(1+dm / 256 % 255))
structure CopyOf (f a:List Oyez.Rec) (e:List Oyez.Place):Prop where
 good:GoodF a
 len:a.length≤f.length+3
 few:e.length≤3
 at_:∀ r∈a,r.place∈f.map Oyez.Rec.place∨r.place∈e
theorem CopyOf.mem {f a:List Oyez.Rec} {e:List Oyez.Place} (h:CopyOf f a e):∀ p∈a.map Oyez.Rec.place,p∈f.map Oyez.Rec.place++e:=fun p hp=>by
 obtain ⟨r,hr,rfl⟩:=List.mem_map.1 hp
 exact List.mem_append.2 (h.at_ r hr)
end Ab
namespace Oyez
theorem drop_drop (f:List Rec) (p:Place):drop (drop f p) p=drop f p:=by unfold drop;rw [List.filter_filter];simp
theorem put_drop (f:List Rec) (r:Rec):put (drop f r.place) r=put f r:=by unfold put;rw [drop_drop]
theorem Xb8 (r:Rec):∀ l:List Rec,(Ym r l).length=l.length+1
 | []=>rfl
 | q::t=>by
  unfold Ym
  split
  ·rfl
  ·rw [List.length_cons,Xb8 r t,List.length_cons]
theorem Zen (f:List Rec) (r:Rec):(put f r).length≤f.length+1:=by
 unfold put
 rw [Xb8]
 have:=List.length_filter_le (fun r':Rec=>!decide (r'.place=r.place)) f
 unfold drop
 omega
theorem drop_le (f:List Rec) (p:Place):(drop f p).length≤f.length:=List.length_filter_le _ _
theorem make_snoc (f:List Rec) (l:List Chg) (c:Chg):make f (l++[c])=make1 (make f l) c:=by unfold make;rw [List.foldl_append];rfl
structure Mk (n:Nat) (f:List Rec):Prop where
 sorted:RSorted f
 len:f.length≤n
 words:∀ r∈f,r.words.length≤6
theorem Mk.drop {n:Nat} {f:List Rec} (h:Mk n f) (p:Place):Mk n (drop f p):=⟨drop_sorted h.sorted p,Nat.le_trans (drop_le f p) h.len,fun r hr=>h.words r (mem_drop.1 hr).1⟩
theorem Mk.put {n:Nat} {f:List Rec} (h:Mk n f) {r:Rec} (hr:r.words.length≤6):Mk (n+1) (put f r):=⟨Uci h.sorted r,Nat.le_trans (Zen f r) (Nat.succ_le_succ h.len),fun x hx=>by
 rcases mem_put hx with rfl | hx
 ·exact hr
 ·exact h.words x hx⟩
theorem Mk.up {n m:Nat} {f:List Rec} (h:Mk n f) (hn:n≤m):Mk m f:=⟨h.sorted,Nat.le_trans h.len hn,h.words⟩
theorem Right.mks {f:List Rec} (h:Right f):Mk 40 f:=⟨h.sorted,h.len,fun r hr=>((recErr_iff r).1 (h.recs r hr)).2 |> fun k=>(wordsErr_zero k).1⟩
end Oyez
namespace Ab
open Go Go.RowKit Go.Proofs
attribute [local irreducible] aws awp aw1 Og Om Oc Oa Ogd Ov Ot awd Ub awh Xc Ogh Ohd awl Ogl Ohl awv Ogv Ohv Zc Wc QFn Zd QRo QBe ACode AYield
def putR (f:List Oyez.Rec) (r:Oyez.Rec):List Oyez.Rec × Int:=if Oyez.check f≠0 then ([],Oyez.check f) else if Oyez.recErr r≠0 then ([],Oyez.recErr r) else if 40<(Oyez.put f r).length then ([],2) else (Oyez.put f r,0)
def Yp (f:List Oyez.Rec) (l:List Oyez.Chg):List Oyez.Rec × Int:=if Oyez.check f≠0 then ([],Oyez.check f) else if Oyez.checkChg l≠0 then ([],Oyez.checkChg l) else if Oyez.fits f l=false then ([],7) else if 40<(Oyez.make f l).length then ([],2) else (Oyez.make f l,0)
theorem RA.down {lo lo':Nat} {τ:Za} {q:Nat} {Y:List (Oyez.Rec × AV)} (h:RA lo τ q Y) (hl:lo'≤lo):RA lo' τ q Y:=⟨Nat.le_trans hl h.low,h.row,fun y hy=>(h.wd y hy).mono hl fun j _ h2 o ho=>⟨ho,h2⟩⟩
set_option maxHeartbeats 4000000 in
theorem Xd5 (f:List Oyez.Rec) (r:Oyez.Rec) (hf:Few f) (hw:Yh r.words≤2^38) (hwl:r.words.length≤2^38) (σ:Za):ACalls Tryz.prog 65 [Xa f,Yd r] σ fun v s=>∃ g w,s=σ++g∧v=.tup [w,.int .i64 (putR f r).2]∧FileO σ.length s w (putR f r).1:=by
 suffices hh:∀ Post:AV→Za→Prop,(∀ v g,(∃ w,v=.tup [w,.int .i64 (putR f r).2]∧FileO σ.length (σ++g) w (putR f r).1)→Post v (σ++g))→ACalls Tryz.prog 65 [Xa f,Yd r] σ Post from hh _ fun v g h=>by
  obtain ⟨w,h1,h2⟩:=h
  exact ⟨g,w,rfl,h1,h2⟩
 intro Post hPost
 obtain ⟨R,hR⟩:∃ R,putR f r=R:=⟨_,rfl⟩
 rw [hR] at hPost
 unfold putR at hR
 have c127:=Wbu r hw hwl
 refine Ua Tryz.func65 rfl (Wa Tryz.func65 (by decide) rfl) ?_
 simp [Tryz.ntmps65,Yd]
 refine (Vy f hf).use ?_
 by_cases h0:Oyez.check f=0
 ·rw [if_neg (by simp [h0])] at hR
  have rf:=Oyez.check_zero h0
  have hm:=rf.mks
  simp [h0]
  refine (c127).use ?_
  by_cases h1:Oyez.recErr r=0
  ·rw [if_neg (by simp [h1])] at hR
   have c134:=Xcp f r rf.sorted (by have:=rf.len;omega) (fun x hx=>by have:=hm.words x hx;omega) (by omega)
   simp [h1]
   refine StA.of ((c134 _).mono ?_)
   rintro _ _ ⟨g,q,Y,rfl,rfl,hY,hRA⟩
   have hYl:(Y.length:Int)=((Oyez.put f r).length:Int):=by rw [← hY];simp
   by_cases h2:40<(Oyez.put f r).length
   ·rw [if_pos h2] at hR
    subst hR
    have h2':(40:Int)<((Oyez.put f r).length:Int):=by omega
    simp [hYl,h2']
    exact hPost _ _ ⟨_,rfl,.inl ⟨rfl,rfl⟩⟩
   ·rw [if_neg h2] at hR
    subst hR
    have h2':¬ (40:Int)<((Oyez.put f r).length:Int):=by omega
    simp [hYl,h2']
    exact hPost _ _ ⟨_,rfl,.inr ⟨q,Y,rfl,hY,by simpa using hRA.down (lo':=σ.length) (by simp)⟩⟩
  ·rw [if_pos (by simp [h1])] at hR
   subst hR
   simp [h1]
   exact hPost _ _ ⟨_,rfl,.inl ⟨rfl,rfl⟩⟩
 ·rw [if_pos (by simp [h0])] at hR
  subst hR
  simp [h0]
  exact hPost _ _ ⟨_,rfl,.inl ⟨rfl,rfl⟩⟩
end Ab
namespace Ab
open Go Go.RowKit Go.Proofs
attribute [local irreducible] aws awp aw1 Og Om Oc Oa Ogd Ov Ot awd Ub awh Xc Ogh Ohd awl Ogl Ohl awv Ogv Ohv Zc Wc QFn Zd QRo QBe ACode AYield
def Zk (f:List Oyez.Rec) (p:Oyez.Place):List (List UInt8) × Int:=if Oyez.check f≠0 then ([],Oyez.check f) else match Oyez.getIn f p with | none=>([],1) | some ws=>(ws,0)
def Un (f:List Oyez.Rec) (p:Oyez.Place):List Oyez.Rec × Int:=if (Zk f p).2≠0 then ([],(Zk f p).2) else (Oyez.drop f p,0)
theorem Ue0 {σ:Za} {d:AV} {f:List Oyez.Rec} (hd:DeskAt σ d f) (p:Oyez.Place):ACalls Tryz.prog 131 [d,Xd p] σ (fun v σ'=>v=.tup [Zb (Xb (Oyez.getIn f p)),.bool (Oyez.getIn f p).isSome]∧σ'=σ):=by
 obtain ⟨r,m,rfl,h1,h2⟩:=hd.ex
 refine ACalls.forget ?_
 cases hg:Oyez.getIn f p with
 | none =>
  refine (Xbj σ r m (Xa f) (Xt f) h1 h2 p.kind p.number .nils false (by rw [Wa7,hg])).mono ?_
  rintro v σ' ⟨rfl,g,rfl⟩
  exact ⟨g,_,rfl,Fz.tup2 (.nils_pl 1) (.bool _),rfl,rfl⟩
 | some ws =>
  refine (Xbj σ r m (Xa f) (Xt f) h1 h2 p.kind p.number (Zb ws) true (by rw [Wa7,hg])).mono ?_
  rintro v σ' ⟨rfl,g,rfl⟩
  exact ⟨g,_,rfl,Fz.tup2 (Xav _ _ _) (.bool _),rfl,rfl⟩
set_option maxHeartbeats 4000000 in
theorem Xb3 (f:List Oyez.Rec) (p:Oyez.Place) (hf:Few f) (σ:Za):ACalls Tryz.prog 63 [Xa f,Xd p] σ fun v s=>∃ g v1,s=σ++g∧v=.tup [v1,.int .i64 (Zk f p).2]∧WdO σ.length s v1 (Zk f p).1:=by
 suffices hh:∀ Post:AV→Za→Prop,(∀ v s,(∃ g v1,s=σ++g∧v=.tup [v1,.int .i64 (Zk f p).2]∧WdO σ.length s v1 (Zk f p).1)→Post v s)→ACalls Tryz.prog 63 [Xa f,Xd p] σ Post from hh _ fun v s h=>h
 intro Post hPost
 obtain ⟨R,hR⟩:∃ R,Zk f p=R:=⟨_,rfl⟩
 rw [hR] at hPost
 unfold Zk at hR
 refine Ua Tryz.func63 rfl (Wa Tryz.func63 (by decide) rfl) ?_
 simp [Tryz.ntmps63]
 refine (Vy f hf).use ?_
 by_cases h0:Oyez.check f=0
 ·rw [if_neg (by simp [h0])] at hR
  have rf:=Oyez.check_zero h0
  simp [h0]
  refine Wj [1] [(2,0)] mixed (by kernel_rfl) (by kernel_rfl) ?_
  simp
  refine Vi (Ual f rf.sorted (by have:=rf.len;omega) _) ?_
  have hD:∀ S:Za,DeskAt (S++Vg S.length f) (.ptr S.length 0) f:=fun S=>⟨S.length,S.length+1,rfl,by unfold Vg;simp,by unfold Vg;simp⟩
  simp
  have key:∀ S:Za,S=σ++[AObj.cells [AV.int .i64 p.kind,AV.int .i64 p.number]]→ACalls Tryz.prog 131 [.ptr (σ.length+1) 0,Xd p] (S++Vg S.length f) (fun v σ'=>v=.tup [Zb (Xb (Oyez.getIn f p)),.bool (Oyez.getIn f p).isSome]∧σ'=S++Vg S.length f):=by
   rintro S rfl
   have k:=Ue0 (hD (σ++[AObj.cells [AV.int .i64 p.kind,AV.int .i64 p.number]])) p
   simpa using k
  have key:=key _ rfl
  obtain ⟨T,hT⟩:∃ T,Vg (σ.length+1) f=T:=⟨_,rfl⟩
  simp [hT] at key
  rw [hT]
  refine Zai key ?_
  cases hg:Oyez.getIn f p with
  | none =>
   rw [hg] at hR
   subst hR
   simp [Xb]
   exact hPost _ _ ⟨_,_,rfl,rfl,.inl ⟨rfl,.inl rfl⟩⟩
  | some ws =>
   rw [hg] at hR
   subst hR
   obtain ⟨r,hr,_,hrw⟩:=Oyez.getIn_mem hg
   have hwl:=rf.mks.words r hr
   rw [hrw] at hwl
   simp [Xb]
   refine StA.of ((Xx ws (by omega) _).mono ?_)
   rintro _ _ ⟨rfl,rfl⟩
   simp
   by_cases hw0:ws=[]
   ·subst hw0
    exact hPost _ _ ⟨_,_,by simp [Uc];rfl,rfl,.inl ⟨rfl,.inr (by simp [Xe])⟩⟩
   ·refine hPost _ _ ⟨AObj.cells [AV.int .i64 p.kind,AV.int .i64 p.number]::(T++Uc ws),_,by simp [hT],rfl,?_⟩
    refine .inr ⟨_,?_,by simp [Xe,hw0];rfl,?_⟩
    ·simp
    ·simp [Uc,hw0]
 ·rw [if_pos (by simp [h0])] at hR
  subst hR
  simp [h0]
  exact hPost _ _ ⟨_,_,rfl,rfl,.inl ⟨rfl,.inl rfl⟩⟩
theorem Weh (f:List Oyez.Rec) (p:Oyez.Place) (hf:Few f):APure Tryz.prog 63 [Xa f,Xd p] (.tup [Zb (Zk f p).1,.int .i64 (Zk f p).2]):=by
 refine APure.of fun σ=>(Xb3 f p hf σ).mono ?_
 rintro _ _ ⟨g,w,rfl,rfl,h⟩
 exact ⟨g,rfl,Fz.tup2 (h.fz (Nat.le_refl _)) (.int _ _)⟩
theorem Wek {f:List Oyez.Rec} {p:Oyez.Place} (h:(Zk f p).2=0):Oyez.check f=0∧(Oyez.getIn f p).isSome=true:=by
 unfold Zk at h
 by_cases h0:Oyez.check f=0
 ·rw [if_neg (by simp [h0])] at h
  refine ⟨h0,?_⟩
  cases hg:Oyez.getIn f p with
  | none=>rw [hg] at h;simp at h
  | some ws=>rfl
 ·rw [if_pos h0] at h
  exact absurd h h0
set_option maxHeartbeats 4000000 in
theorem Yc9 (f:List Oyez.Rec) (p:Oyez.Place) (hf:Few f) (σ:Za):ACalls Tryz.prog 64 [Xa f,Xd p] σ fun v s=>∃ g w,s=σ++g∧v=.tup [w,.int .i64 (Un f p).2]∧FileO σ.length s w (Un f p).1:=by
 suffices hh:∀ Post:AV→Za→Prop,(∀ v s,(∃ g w,s=σ++g∧v=.tup [w,.int .i64 (Un f p).2]∧FileO σ.length s w (Un f p).1)→Post v s)→ACalls Tryz.prog 64 [Xa f,Xd p] σ Post from hh _ fun v s h=>h
 intro Post hPost
 obtain ⟨R,hR⟩:∃ R,Un f p=R:=⟨_,rfl⟩
 rw [hR] at hPost
 unfold Un at hR
 have c63:=Weh f p hf
 have two:=Wek (f:=f) (p:=p)
 obtain ⟨G,hG⟩:∃ G,Zk f p=G:=⟨_,rfl⟩
 rw [hG] at hR c63 two
 refine Ua Tryz.func64 rfl (Wa Tryz.func64 (by decide) rfl) ?_
 simp [Tryz.ntmps64]
 refine c63.use ?_
 by_cases h1:G.2=0
 ·rw [if_neg (by simp [h1])] at hR
  subst hR
  have rf:=Oyez.check_zero (two h1).1
  have hm:=rf.mks
  have c133:=Ubj f p (by have:=rf.len;omega) (fun x hx=>by have:=hm.words x hx;omega)
  simp [h1]
  refine StA.of ((c133 _).mono ?_)
  rintro _ _ ⟨g,q,Y,rfl,rfl,hY,hRA⟩
  simp
  exact hPost _ _ ⟨_,_,rfl,rfl,.inr ⟨q,Y,rfl,hY,by simpa using hRA.down (lo':=σ.length) (by simp)⟩⟩
 ·rw [if_pos (by simp [h1])] at hR
  subst hR
  simp [h1]
  exact hPost _ _ ⟨_,_,rfl,rfl,.inl ⟨rfl,rfl⟩⟩
end Ab
namespace Ab
open Go Go.RowKit Go.Proofs
attribute [local irreducible] aws awp aw1 Og Om Oc Oa Ogd Ov Ot awd Ub awh Xc Ogh Ohd awl Ogl Ohl awv Ogv Ohv Zc Wc QFn Zd QRo QBe ACode AYield
structure Cl (lo hi q:Nat) (F:List Oyez.Rec) (τ:Za):Prop where
 low:lo≤q∧q<hi
 row:∃ cs,τ[q]? = some (.cells cs)∧cs.length=F.length*3∧∀ (i:Nat) (r:Oyez.Rec),F[i]? = some r→∃ w,List.take 3 (List.drop (i*3) cs)=[.int .i64 r.kind,.int .i64 r.number,w] ∧
  ((r.words=[]∧w=.pl 1 [])∨∃ (j:Nat) (xs:List AV),lo≤j∧j<hi∧j≠q∧w=.arr 1 j 0 r.words.length∧τ[j]? = some (.cells xs)∧xs.length=r.words.length)
structure Sm (lo hi q:Nat) (τ τ':Za):Prop where
 out:∀ r,r<τ.length→¬ (lo≤r∧r<hi∧r≠q)→τ'[r]? = τ[r]?
 cells:∀ (r:Nat) (cs:List AV),τ[r]? = some (.cells cs)→∃ cs',τ'[r]? = some (.cells cs')∧cs'.length=cs.length
 len:τ.length≤τ'.length
theorem Sm.refl (lo hi q:Nat) (τ:Za):Sm lo hi q τ τ:=⟨fun _ _ _=>rfl,fun r cs h=>⟨cs,h,rfl⟩,Nat.le_refl _⟩
theorem Sm.app {lo hi q:Nat} {τ τ':Za} (h:Sm lo hi q τ τ') (g:Za):Sm lo hi q τ (τ'++g):=by
 have hl:=h.len
 refine ⟨fun r h1 h2=>?_,fun r cs h1=>?_,by rw [List.length_append];omega⟩
 ·rw [Qzl (by omega)];exact h.out r h1 h2
 ·obtain ⟨cs',h2,h3⟩:=h.cells r cs h1
  exact ⟨cs',Vf h2,h3⟩
theorem Sm.set {lo hi q:Nat} {τ τ':Za} (h:Sm lo hi q τ τ') {p:Nat} {cs cs':List AV} (h1:lo≤p) (h2:p<hi) (h3:p≠q) (hp:τ'[p]? = some (.cells cs)) (hl:cs'.length=cs.length):Sm lo hi q τ (τ'.set p (.cells cs')):=by
 refine ⟨fun r g1 g2=>?_,fun r ds g1=>?_,by rw [List.length_set];exact h.len⟩
 ·rw [List.getElem?_set_ne (fun e=>g2 (by subst e;exact ⟨h1,h2,h3⟩))];exact h.out r g1 g2
 ·obtain ⟨ds',g2,g3⟩:=h.cells r ds g1
  by_cases e:p=r
  ·subst e
   rw [hp] at g2
   obtain rfl:cs=ds':=by simpa using g2
   exact ⟨cs',List.getElem?_set_self (Qzs.1 hp).1,by omega⟩
  ·exact ⟨ds',by rw [List.getElem?_set_ne e];exact g2,g3⟩
theorem Sm.keep {lo hi q:Nat} {τ τ':Za} (h:Sm lo hi q τ τ') {lo2 hi2 q2:Nat} {F:List Oyez.Rec} (hc:Cl lo2 hi2 q2 F τ) (hq:¬ (lo≤q2∧q2<hi∧q2≠q)):Cl lo2 hi2 q2 F τ':=by
 obtain ⟨cs,h1,h2,h3⟩:=hc.row
 refine ⟨hc.low,cs,by rw [h.out q2 (Qzs.1 h1).1 hq];exact h1,h2,fun i r hr=>?_⟩
 obtain ⟨w,g1,g2⟩:=h3 i r hr
 refine ⟨w,g1,?_⟩
 rcases g2 with g2 | ⟨j,xs,a1,a2,a3,a4,a5,a6⟩
 ·exact .inl g2
 ·obtain ⟨xs',b1,b2⟩:=h.cells j xs a5
  exact .inr ⟨j,xs',a1,a2,a3,a4,b1,b2.trans a6⟩
theorem Sm.own {lo hi q:Nat} {τ τ':Za} (h:Sm lo hi q τ τ') {F:List Oyez.Rec} (hc:Cl lo hi q F τ):Cl lo hi q F τ':=h.keep hc (by omega)
theorem RA.cl {lo:Nat} {τ:Za} {q:Nat} {Y:List (Oyez.Rec × AV)} (h:RA lo τ q Y):Cl lo τ.length q (Y.map Prod.fst) τ:=by
 refine ⟨⟨h.low,(Qzs.1 h.row).1⟩,_,h.row,by rw [Zt];simp,fun i r hr=>?_⟩
 rw [Qzp,Qzm] at hr
 obtain ⟨y,hy,rfl⟩:=hr
 obtain ⟨hi,hyi⟩:=Qzs.1 hy
 have hs:=Yaf (Y.map pvY) (i:=i) (by simpa using hi)
 rw [List.getElem_map,hyi] at hs
 refine ⟨y.2,hs,?_⟩
 rcases h.wd y (Qzg hy) with h1 | ⟨j,h1,h2,h3,h4⟩
 ·exact .inl h1
 ·exact .inr ⟨j,strs y.1.words,h1,(Qzs.1 h4).1,h2,h3,h4,by simp [strs]⟩
theorem Cl.more {lo hi q:Nat} {F:List Oyez.Rec} {τ:Za} (h:Cl lo hi q F τ) (g:Za):Cl lo hi q F (τ++g):=((Sm.refl lo hi q τ).app g).own h
def FileC (lo hi:Nat) (τ:Za) (v:AV) (F:List Oyez.Rec):Prop:=(F=[]∧v=.nils)∨∃ q,v=.arr 3 q 0 F.length∧Cl lo hi q F τ
theorem FileO.cl {lo:Nat} {τ:Za} {v:AV} {F:List Oyez.Rec} (h:FileO lo τ v F):FileC lo τ.length τ v F:=by
 rcases h with h | ⟨q,Y,rfl,rfl,h⟩
 ·exact .inl h
 ·exact .inr ⟨q,by simp,h.cl⟩
theorem FileC.more {lo hi:Nat} {F:List Oyez.Rec} {v:AV} {τ:Za} (h:FileC lo hi τ v F) (g:Za):FileC lo hi (τ++g) v F:=by
 rcases h with h | ⟨q,h1,h2⟩
 ·exact .inl h
 ·exact .inr ⟨q,h1,h2.more g⟩
theorem FileC.one {lo hi:Nat} {F:List Oyez.Rec} {v:AV} {τ:Za} (h:FileC lo hi τ v F):v.one=true∧v.cells=[v]∧∀ S,Vb Tryz.prog 23 v S=some (.int .i64 F.length):=by
 rcases h with ⟨rfl,rfl⟩ | ⟨q,rfl,_⟩
 ·exact ⟨rfl,rfl,fun S=>by simp⟩
 ·exact ⟨rfl,rfl,fun S=>by simp⟩
theorem FileC.set {lo hi:Nat} {F:List Oyez.Rec} {v:AV} {τ:Za} (h:FileC lo hi τ v F) {p:Nat} {o:AObj} (hp:p<lo):FileC lo hi (τ.set p o) v F:=by
 rcases h with h | ⟨q,h1,h2⟩
 ·exact .inl h
 ·obtain ⟨cs,k1,k2,k3⟩:=h2.row
  have hq:=h2.low
  refine .inr ⟨q,h1,hq,cs,by rw [List.getElem?_set_ne (by omega)];exact k1,k2,fun i r hr=>?_⟩
  obtain ⟨w,g1,g2⟩:=k3 i r hr
  refine ⟨w,g1,?_⟩
  rcases g2 with g2 | ⟨j,xs,a1,a2,a3,a4,a5,a6⟩
  ·exact .inl g2
  ·exact .inr ⟨j,xs,a1,a2,a3,a4,by rw [List.getElem?_set_ne (by omega)];exact a5,a6⟩
theorem Wbf {S:Za} {lo:Nat} {f:List Oyez.Rec} {v:AV} (h:FileO lo S v f) (hf:f.length≤2^40) (hw:∀ r∈f,r.words.length≤2^40):ACalls Tryz.prog 19 [v,Xa f] S fun v s=>v=.bool true∧s=S:=by
 have k:=Xac f f hf hw
 simp only [decide_true] at k
 refine APure.lend k rfl (fun i x y hx hy=>?_) (fun C C' c hv=>?_)
 ·match i,hx,hy with
  | 0,hx,hy=>simp only [List.getElem?_cons_zero,Option.some.injEq] at hx hy;subst hx;subst hy;exact h.fz (Nat.zero_le _)
  | 1,hx,hy=>simp only [List.getElem?_cons_zero,List.getElem?_cons_succ,Option.some.injEq] at hx hy;subst hx;subst hy;exact Vag _ _ _
  | i+2,hx,_=>simp at hx
 ·cases hv;exact .bool _
end Ab
namespace Ab
open Go Go.RowKit
variable [Mode]
variable {P:Program}
theorem ACode.frz {rd:Option Nat} {c:Code} {Q:Exit→Env→Za→Prop} {u u':List AV} {m:List Nat} {σ:Za} (n:Nat) (h:ACode P rd c Q { t:=u',m:=m } (cold n σ)) (hl:u'.length=u.length)
  (hz:∀ (i:Nat) (x y:AV),u[i]? = some x→u'[i]? = some y→Fz n σ x y):ACode P rd c Q { t:=u,m:=m } σ:=by
 intro C a ro hI he hr
 have he':ER (C.ice n σ) { t:=u',m:=m } a:=⟨⟨hl▸he.t.len,fun i y c hy hc=>by
  have hi:i<u'.length:=(Qzs.1 hy).1
  have hx:u[i]? = some (u[i]'(by omega)):=Qze (by omega)
  exact ((he.t.at_ i _ c hx hc).frz hI (hz i _ y hx hy)).ext (Ext.frz_ice n σ)⟩,he.m,fun i r d h1 h2=>he.mark i r d h1 h2⟩
 exact wpIn_mono (h (C.ice n σ) a ro (hI.ice n) he' (hr.ext (Ext.ice n σ))) fun _ _ _ hp=>hp.ext (Ext.ice n σ)
theorem Yeo {rd:Option Nat} {c:Code} {Q:Exit→Env→Za→Prop} {env:Env} {σ:Za} (I:Env→Za→Prop) (μ:Env→Za→Nat) (h0:I env σ)
  (round:∀ env σ,I env σ→awp P rd c (Zc (fun env' σ'=>I env' σ'∧μ env' σ'<μ env σ) Q) env σ∨∃ (n:Nat) (u':List AV),u'.length=env.t.length∧(∀ (i:Nat) (x y:AV),env.t[i]? = some x→u'[i]? = some y→Fz n σ x y)∧awp P rd c (Zc (fun env' σ'=>I env' σ'∧μ env' σ'<μ env σ) Q) { t:=u',m:=env.m } (cold n σ)):@StC _ P rd ⟨.loop c⟩ ⟨Q⟩ env σ :=
 Ub1 I μ h0 fun env σ hi=>by
  rcases round env σ hi with h | ⟨n,u',h1,h2,h3⟩
  ·exact Yl c h
  ·exact (Yl c h3).frz n h1 h2
def Zu (u:List AV) (l:List (Nat × AV)):List AV:=l.foldl (fun t p=>ts t p.1 p.2) (List.replicate u.length .any)
theorem Vcl (u:List AV) (l:List (Nat × AV)):(Zu u l).length=u.length:=by
 unfold Zu
 suffices h:∀ (l:List (Nat × AV)) (t:List AV),(l.foldl (fun t p=>ts t p.1 p.2) t).length=t.length by rw [h,List.length_replicate]
 intro l
 induction l with
 | nil=>intro t;rfl
 | cons p l ih=>intro t;rw [List.foldl_cons,ih];simp [ts]
theorem Xee {n:Nat} {σ:Za} {u:List AV} {l:List (Nat × AV)} (h:∀ p∈l,Fz n σ (tg u p.1) p.2):∀ (i:Nat) (x y:AV),u[i]? = some x→(Zu u l)[i]? = some y→Fz n σ x y:=by
 unfold Zu
 suffices hh:∀ (l:List (Nat × AV)),(∀ p∈l,Fz n σ (tg u p.1) p.2)→∀ t:List AV,(∀ (i:Nat) (x y:AV),u[i]? = some x→t[i]? = some y→Fz n σ x y)→∀ (i:Nat) (x y:AV),u[i]? = some x→(l.foldl (fun t p=>ts t p.1 p.2) t)[i]? = some y→Fz n σ x y from
  hh l h _ fun i x y _ hy=>by
   rw [List.getElem?_replicate] at hy
   split at hy
   ·cases hy;exact .any _
   ·cases hy
 intro l
 induction l with
 | nil=>intro _ t ht;exact ht
 | cons p l ih =>
  intro h t ht
  refine ih (fun q hq=>h q (List.mem_cons_of_mem _ hq)) _ fun i x y hx hy=>?_
  have hp:=h p (by simp)
  unfold ts at hy
  rw [List.getElem?_set] at hy
  split at hy
  ·rename_i e
   subst e
   split at hy
   ·cases hy
    unfold tg at hp
    rwa [List.getD_eq_getElem?_getD,hx] at hp
   ·cases hy
  ·exact ht i x y hx hy
end Ab
namespace Ab
open Go Go.RowKit Go.Proofs
attribute [local irreducible] aws awp aw1 Og Om Oc Oa Ogd Ov Ot awd Ub awh Xc Ogh Ohd awl Ogl Ohl awv Ogv Ohv Zc Wc QFn Zd QRo QBe ACode AYield
theorem Wec (n:Nat) (S:Za) (l:List Oyez.Chg):Fz n S (Wb l) (Wb l):=.pl 6 _ fun i x hx j y hy=>Zy n S l x (Qzg hx) y (Qzg hy)
theorem Wez {S g:Za} {q:Nat} {Y:List (Oyez.Rec × AV)} (r:Oyez.Rec) (h:RA S.length (S++g) q Y) (hs:Oyez.RSorted (Y.map Prod.fst)) (hl:(Y.map Prod.fst).length≤2^19) (hw:∀ x∈Y.map Prod.fst,x.words.length≤2^40) (hwr:r.words.length≤2^40) :
  ACalls Tryz.prog 134 [.arr 3 q 0 Y.length,Yd r] (S++g) fun v s=>∃ g2 q2 Y2,s=S++g2∧v=.arr 3 q2 0 Y2.length∧Y2.map Prod.fst=Oyez.put (Y.map Prod.fst) r∧RA S.length s q2 Y2:=by
 have hc:=Ubl (σ:=S) (g:=g)
 refine ACalls.freeze (args:=[.arr 3 q 0 Y.length,Yd r]) (args':=[Xa (Y.map Prod.fst),Yd r]) S.length ?_ rfl fun i x y hx hy=>?_
 ·refine (Xcp (Y.map Prod.fst) r hs hl hw hwr _).mono ?_
  rintro v s ⟨g2,q2,Y2,rfl,rfl,h1,h2⟩
  refine ⟨List.replicate g.length .dead++g2,q2,Y2,by rw [hc,List.append_assoc],rfl,h1,h2.down (by rw [hc];simp)⟩
 ·match i,hx,hy with
  | 0,hx,hy=>simp only [List.getElem?_cons_zero,Option.some.injEq] at hx hy;subst hx;subst hy;exact h.fz (Nat.le_refl _)
  | 1,hx,hy =>
   simp only [List.getElem?_cons_zero,List.getElem?_cons_succ,Option.some.injEq] at hx hy
   subst hx;subst hy
   exact Fz.agg_iff.2 (FzL.cons_iff.2 ⟨.int _ _,FzL.cons_iff.2 ⟨.int _ _,FzL.cons_iff.2 ⟨Xav _ _ _,FzL.nil_iff.2 trivial⟩⟩⟩)
  | i+2,hx,_=>simp at hx
set_option maxHeartbeats 8000000 in
theorem Ve5 (f:List Oyez.Rec) (l:List Oyez.Chg) (hf:Few f) (hl:Waa l) (σ:Za):ACalls Tryz.prog 75 [Xa f,Wb l] σ fun v s=>∃ g w,s=σ++g∧v=.tup [w,.int .i64 (Yp f l).2]∧FileO σ.length s w (Yp f l).1:=by
 suffices hh:∀ Post:AV→Za→Prop,(∀ v g,(∃ w,v=.tup [w,.int .i64 (Yp f l).2]∧FileO σ.length (σ++g) w (Yp f l).1)→Post v (σ++g))→ACalls Tryz.prog 75 [Xa f,Wb l] σ Post from hh _ fun v g h=>by
  obtain ⟨w,h1,h2⟩:=h
  exact ⟨g,w,rfl,h1,h2⟩
 intro Post hPost
 obtain ⟨R,hR⟩:∃ R,Yp f l=R:=⟨_,rfl⟩
 rw [hR] at hPost
 have hPost0:∀ v,(R.1=[]∧v=.tup [.nils,.int .i64 R.2])→Post v σ:=fun v h=>by
  have:=hPost v [] ⟨.nils,h.2,.inl ⟨h.1,rfl⟩⟩
  rwa [List.append_nil] at this
 unfold Yp at hR
 refine Ua Tryz.func75 rfl (Wa Tryz.func75 (by decide) rfl) ?_
 simp [Tryz.ntmps75]
 refine Wbq ?_
 simp
 refine (Vy f hf).use ?_
 by_cases h0:Oyez.check f=0
 ·rw [if_neg (by simp [h0])] at hR
  have rf:=Oyez.check_zero h0
  have hm:=rf.mks
  simp [h0]
  refine (Zay l hl).use ?_
  by_cases h1:Oyez.checkChg l=0
  ·rw [if_neg (by simp [h1])] at hR
   have rl:=Oyez.checkChg_zero h1
   simp [h1]
   refine StA.of ((Ual f rf.sorted (by have:=rf.len;omega) σ).mono ?_)
   rintro _ _ ⟨rfl,rfl⟩
   simp
   have hD:DeskAt (σ++Vg σ.length f) (.ptr σ.length 0) f:=⟨σ.length,σ.length+1,rfl,by unfold Vg;simp,by unfold Vg;simp⟩
   obtain ⟨T,hT⟩:∃ T,Vg σ.length f=T:=⟨_,rfl⟩
   rw [hT] at hD ⊢
   have hDm:=fun g=>hD.more g
   refine Yc (fun env σ'=>∃ (u:List AV) (i:Nat) (g:Za),env={ t:=u }∧u.length=72∧tg u 0=Xa f∧tg u 1=Wb l∧tg u 8=.ptr σ.length 0∧tg u 9=.bool true∧tg u 27=Wb l∧tg u 28=.int .i64 l.length∧tg u 29=.int .i64 i∧σ'=σ++(T++g)∧i≤l.length∧∀ c∈l.take i,Oyez.getIn f c.place=c.was)
    (fun env _=>match tg env.t 29 with | .int _ i=>l.length - i.toNat | _=>0) ⟨_,0,[],rfl,by simp,by simp,by simp,by simp,by simp,by simp,by simp,by simp,by simp,by omega,by simp⟩ ?_
   rintro env _ ⟨u,i,g,rfl,hl2,g0,g1,g8,g9,g27,g28,g29,rfl,hi,hfit⟩
   rcases Qzn i l.length with hlt | hge
   ·have hlt':(i:Int)<(l.length:Int):=by omega
    have hll:=rl.len
    have hx:=w64 (n:=(i:Int)+1) (by omega) (by omega)
    obtain ⟨c,hc⟩:∃ c,l[i]=c:=⟨_,rfl⟩
    have hcm:c∈l:=hc▸List.getElem_mem hlt
    have gc:=rl.each c hcm
    have bc:=Ut gc
    have wc:=Vah gc
    have htk:l.take (i+1)=l.take i++[c]:=by rw [Qzt hlt,hc]
    have hgl:(Xb (Oyez.getIn f c.place)).length≤2^40:=by
     cases h:Oyez.getIn f c.place with
     | none=>exact Nat.zero_le _
     | some ws =>
      obtain ⟨r,hr,_,rfl⟩:=Oyez.getIn_mem h
      have:=hm.words r hr
      show r.words.length≤2^40
      omega
    simp [hl2,g0,g1,g8,g9,g27,g28,g29,hlt',hlt,hc,Nat.add_assoc]
    refine Zg mixed (by kernel_rfl) ?_
    simp [hl2,g0,g1,g8,g9,g27,g28,g29,hlt',hlt,hc,Nat.add_assoc]
    refine Vd (Ws c) ?_
    try simp [hl2,g0,g1,g8,g9,g27,g28,g29,hlt',hlt,hc,Nat.add_assoc]
    refine Zai (by
     have k:=Xal (hDm (g++[AObj.cells (Wd c)])) c.place
     simpa [Wd] using k) ?_
    try simp [hl2,g0,g1,g8,g9,g27,g28,g29,hlt',hlt,hc,Nat.add_assoc]
    refine Vd (Wai bc) ?_
    try simp [hl2,g0,g1,g8,g9,g27,g28,g29,hlt',hlt,hc,Nat.add_assoc]
    refine Vd (Zad _ c.was hgl) ?_
    by_cases he:Oyez.getIn f c.place=c.was
    ·simp [hl2,g0,g1,g8,g9,g27,g28,g29,hlt',hlt,hc,hx,he,Nat.add_assoc]
     refine ⟨⟨i+1,by simp,by omega,fun d hd=>?_⟩,by omega⟩
     rw [htk,List.mem_append,List.mem_singleton] at hd
     rcases hd with hd | rfl
     ·exact hfit d hd
     ·exact he
    ·have hfn:Oyez.fits f l=false:=by
      unfold Oyez.fits
      rw [List.all_eq_false]
      exact ⟨c,hcm,by simpa using he⟩
     rw [if_pos hfn] at hR
     subst hR
     simp [hl2,g0,g1,g8,g9,g27,g28,g29,hlt',hlt,hc,hx,he,Nat.add_assoc]
     exact hPost _ _ ⟨_,rfl,.inl ⟨rfl,rfl⟩⟩
   ·have hge':¬ (i:Int)<(l.length:Int):=by omega
    have hfy:Oyez.fits f l=true:=by
     unfold Oyez.fits
     rw [List.all_eq_true]
     intro c hc
     rw [List.take_of_length_le hge] at hfit
     simpa using hfit c hc
    rw [if_neg (by simp [hfy])] at hR
    simp [hl2,g0,g1,g8,g9,g27,g28,g29,hge']
    refine StA.of ((Zbn f (by have:=rf.len;omega) (fun r hr=>by have:=hm.words r hr;omega) (Xa f) _ (fun g=>Xb5 f _) (fun S=>by simp)).mono ?_)
    rintro _ _ ⟨g2,rfl,hC⟩
    obtain ⟨q,Y,rfl,hY,hRA⟩:=hC.ra
    have hRA2:=hRA.down (lo':=σ.length) (by simp)
    rw [List.append_assoc] at hRA2
    simp [hl2,g0,g1,g8,g9,g27,g28,g29,hge']
    clear g0 g1 g8 g9 g27 g28 g29 hfit hi hge hge'
    refine Yeo (fun env σ'=>∃ (u:List AV) (i:Nat) (g:Za) (q:Nat) (Y:List (Oyez.Rec × AV)),env={ t:=u }∧u.length=72∧tg u 12=.arr 3 q 0 Y.length∧tg u 46=Wb l∧tg u 47=.int .i64 l.length∧tg u 48=.int .i64 i∧σ'=σ++g∧i≤l.length∧Y.map Prod.fst=Oyez.make f (l.take i)∧RA σ.length (σ++g) q Y∧Oyez.Mk (40+i) (Oyez.make f (l.take i)))
     (fun env _=>match tg env.t 48 with | .int _ i=>l.length - i.toNat | _=>0) ⟨_,0,_,q,Y,rfl,by simp [hl2],by simp [hl2],by simp [hl2],by simp [hl2],by simp [hl2],by simp;rfl,by omega,by simpa [Oyez.make] using hY,by simpa using hRA2,by simpa [Oyez.make] using hm⟩ ?_
    clear hl2 u hC hRA hRA2 hY Y q
    rintro env _ ⟨u,i,g,q,Y,rfl,hl2,g12,g46,g47,g48,rfl,hi,hY,hRA,hM⟩
    have hll:=rl.len
    rcases Qzn i l.length with hlt | hge
    ·skip
     refine .inr ⟨σ.length,Zu u [(12,Xa (Oyez.make f (l.take i))),(46,Wb l),(47,.int .i64 l.length),(48,.int .i64 i)],Vcl _ _,Xee (by simp only [List.mem_cons,List.not_mem_nil,or_false];rintro p (rfl | rfl | rfl | rfl)<;>dsimp only<;>first | (rw [g12,← hY];exact hRA.fz (Nat.le_refl _)) | (rw [g46];exact Wec _ _ _) | (rw [g47];exact .int _ _) | (rw [g48];exact .int _ _)),?_⟩
     have e0:(match tg u 48 with | .int _ i=>l.length - i.toNat | _=>0)=l.length - i:=by rw [g48];simp
     have hl2':=(Vcl u [(12,Xa (Oyez.make f (l.take i))),(46,Wb l),(47,.int .i64 l.length),(48,.int .i64 i)]).trans hl2
     have k12:tg (Zu u [(12,Xa (Oyez.make f (l.take i))),(46,Wb l),(47,.int .i64 l.length),(48,.int .i64 i)]) 12=Xa (Oyez.make f (l.take i)):=by simp [Zu,hl2]
     have k46:tg (Zu u [(12,Xa (Oyez.make f (l.take i))),(46,Wb l),(47,.int .i64 l.length),(48,.int .i64 i)]) 46=Wb l:=by simp [Zu,hl2]
     have k47:tg (Zu u [(12,Xa (Oyez.make f (l.take i))),(46,Wb l),(47,.int .i64 l.length),(48,.int .i64 i)]) 47=.int .i64 l.length:=by simp [Zu,hl2]
     have k48:tg (Zu u [(12,Xa (Oyez.make f (l.take i))),(46,Wb l),(47,.int .i64 l.length),(48,.int .i64 i)]) 48=.int .i64 i:=by simp [Zu,hl2]
     obtain ⟨u',hu'⟩:∃ x,Zu u [(12,Xa (Oyez.make f (l.take i))),(46,Wb l),(47,.int .i64 l.length),(48,.int .i64 i)]=x:=⟨_,rfl⟩
     rw [hu'] at hl2' k12 k46 k47 k48 ⊢
     rw [Ubl]
     obtain ⟨dd,hdd⟩:∃ x,List.replicate g.length AObj.dead=x:=⟨_,rfl⟩
     rw [hdd]
     dsimp only
     rw [e0]
     have hlt':(i:Int)<(l.length:Int):=by omega
     have hx:=w64 (n:=(i:Int)+1) (by omega) (by omega)
     obtain ⟨c,hc⟩:∃ c,l[i]=c:=⟨_,rfl⟩
     have hcm:c∈l:=hc▸List.getElem_mem hlt
     have wc:=Vah (rl.each c hcm)
     have htk:l.take (i+1)=l.take i++[c]:=by rw [Qzt hlt,hc]
     have hsn:=Oyez.make_snoc f (l.take i) c
     rw [← htk] at hsn
     obtain ⟨O,hO⟩:∃ O,Oyez.make f (l.take i)=O:=⟨_,rfl⟩
     rw [hO] at hM k12 hsn
     have hMd:=hM.drop c.place
     have c133:=Ubj O c.place (by have:=hM.len;omega) (fun r hr=>by have:=hM.words r hr;omega)
     have epd:Oyez.put (Oyez.drop O c.place) ⟨c.kind,c.number,c.new⟩=Oyez.put O ⟨c.kind,c.number,c.new⟩:=Oyez.put_drop O ⟨c.kind,c.number,c.new⟩
     have c134:=fun (S g:Za) (q:Nat) (Y:List (Oyez.Rec × AV)) (hY:Y.map Prod.fst=Oyez.drop O c.place) (hR:RA S.length (S++g) q Y)=>Wez (S:=S) (g:=g) (q:=q) (Y:=Y) ⟨c.kind,c.number,c.new⟩ hR (by rw [hY];exact hMd.sorted) (by rw [hY];have:=hMd.len;omega) (by rw [hY];exact fun r hr=>by have:=hMd.words r hr;omega) (by show c.new.length≤_;omega)
     simp [hl2',k12,k46,k47,k48,hlt',hlt,hc,Nat.add_assoc]
     refine (Ws c).use ?_
     simp [hl2',k12,k46,k47,k48,hlt',hlt,hc,Nat.add_assoc]
     refine StA.of ((c133 _).mono ?_)
     rintro _ _ ⟨g3,q3,Y3,rfl,rfl,hY3,hR3⟩
     unfold Oyez.make1 at hsn
     have l134:∀ Z:Za,Z=σ++(dd++[AObj.cells (Wd c)])++g3→ACalls Tryz.prog 134 [.arr 3 q3 0 Y3.length,.agg [.int .i64 c.kind,.int .i64 c.number,Zb c.new]] Z fun v s=>∃ g2 q2 Y2,s=σ++(dd++[AObj.cells (Wd c)])++g2∧v=.arr 3 q2 0 Y2.length∧Y2.map Prod.fst=Oyez.put O ⟨c.kind,c.number,c.new⟩∧RA (σ++(dd++[AObj.cells (Wd c)])).length s q2 Y2:=by
      rintro _ rfl
      have k:=c134 (σ++(dd++[AObj.cells (Wd c)])) g3 q3 Y3 hY3 hR3
      rw [hY3,epd] at k
      exact k
     clear c134
     cases hh:c.has with
     | true =>
      rw [hh,if_pos rfl] at hsn
      simp [hl2',k12,k46,k47,k48,hlt',hlt,hc,hh,Nat.add_assoc]
      refine StA.of ((l134 _ (by simp [Wd,hh])).mono ?_)
      rintro _ _ ⟨g4,q4,Y4,rfl,rfl,hY4,hR4⟩
      have hR5:=hR4.down (lo':=σ.length) (by simp)
      simp [hl2',k12,k46,k47,k48,hlt',hlt,hc,hh,hx,Nat.add_assoc]
      exact ⟨⟨i+1,_,q4,Y4,⟨rfl,rfl⟩,by simp,rfl,by omega,by rw [hY4,hsn],by simpa using hR5,by rw [hsn];exact (hM.put (by show c.new.length≤6;omega)).up (by omega)⟩,by omega⟩
     | false =>
      rw [hh,if_neg (by simp)] at hsn
      have hR5:=hR3.down (lo':=σ.length) (by simp)
      simp [hl2',k12,k46,k47,k48,hlt',hlt,hc,hh,hx,Nat.add_assoc]
      exact ⟨⟨i+1,_,q3,Y3,⟨rfl,rfl⟩,by simp,rfl,by omega,by rw [hY3,hsn],by simpa [Wd,hh] using hR5,by rw [hsn];exact hMd.up (by omega)⟩,by omega⟩
    ·have hge':¬ (i:Int)<(l.length:Int):=by omega
     rw [List.take_of_length_le hge] at hY hM
     have hYl:(Y.length:Int)=((Oyez.make f l).length:Int):=by rw [← hY];simp
     refine .inl ?_
     by_cases h2:40<(Oyez.make f l).length
     ·rw [if_pos h2] at hR
      subst hR
      have h2':(40:Int)<((Oyez.make f l).length:Int):=by omega
      simp [hl2,g12,g46,g47,g48,hge',hYl,h2']
      exact hPost _ _ ⟨_,rfl,.inl ⟨rfl,rfl⟩⟩
     ·rw [if_neg h2] at hR
      subst hR
      have h2':¬ (40:Int)<((Oyez.make f l).length:Int):=by omega
      simp [hl2,g12,g46,g47,g48,hge',hYl,h2']
      exact hPost _ _ ⟨_,rfl,.inr ⟨q,Y,rfl,hY,hRA⟩⟩
  ·rw [if_pos (by simp [h1])] at hR
   subst hR
   simp [h1]
   exact hPost0 _ ⟨rfl,rfl⟩
 ·rw [if_pos (by simp [h0])] at hR
  subst hR
  simp [h0]
  exact hPost0 _ ⟨rfl,rfl⟩
end Ab

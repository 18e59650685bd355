/-
  Texts packed for a claim.
-/
import Derived.Test.YtcoikmapjepdjaaGreatDoorO00
import Derived.Test.YtcoikmapjepdjaaGreatDoorO07
import Derived.Test.YtcoikmapjepdjaaGreatDoorO08
import Derived.Test.YtcoikmapjepdjaaGreatDoorO10
import Derived.Test.YtcoikmapjepdjaaGreatDoorO12
set_option linter.all false
namespace Ab
open Go Go.RowKit Go.Proofs
attribute [local irreducible] aws awp aw1 Og Om Oc Oa Ogd Ov Ot awd Zb awh Wb Ogh Ohd awl Ogl Ohl Xb Vb QFn Ub QRo QBe ACode AYield
def Vu (σ:Za) (re rw:Nat) (e:Int) (ok:Bool) (w bad:Int):Za:=if e=0∧ok=false then (σ.set rw (.cells [.int .i64 w])).set re (.cells [.int .i64 bad]) else σ
theorem Zw (σ:Za) (re rw:Nat) (e w0:Int) (h1:σ[re]? = some (.cells [.int .i64 e])) (h2:σ[rw]? = some (.cells [.int .i64 w0])) (hne:¬ rw=re) (ok:Bool) (w bad:Int) :
  ACalls Tryz.prog 197 [.bool ok,.int .i64 w,.int .i64 bad,.ptr re 0,.ptr rw 0] σ (fun v σ'=>v=.tup []∧σ'=Vu σ re rw e ok w bad):=by
 unfold Vu
 refine Yb Tryz.func197 rfl (Ua Tryz.func197 (by decide) rfl) ?_
 by_cases he:e=0
 ·subst he
  cases ok with
  | false =>
   have h3:(σ.set rw (.cells [.int .i64 w]))[re]? = some (.cells [.int .i64 0]):=by rw [List.getElem?_set_ne hne];exact h1
   simp [Tryz.ntmps197,h1,h2,h3]
  | true=>simp [Tryz.ntmps197,h1,h2]
 ·simp [Tryz.ntmps197,h1,h2,he]
def idxOf (w:List UInt8):List (List UInt8)→Nat→Int
 | [],_=>-1
 | x::t,i=>if w=x then i else idxOf w t (i+1)
theorem Ygh (ws:List (List UInt8)) (w:List UInt8) (hl:ws.length≤2^40):APure Tryz.prog 199 [Xl ws,.str w] (.int .i64 (idxOf w ws 0)):=by
 intro σ
 refine Yb Tryz.func199 rfl (Ua Tryz.func199 (by decide) rfl) ?_
 generalize hX:idxOf w ws 0=X
 simp [Tryz.ntmps199]
 refine Xc (fun env σ'=>∃ (u:List AV) (i:Nat),env={ t:=u }∧u.length=19∧tg u 0=Xl ws∧tg u 1=.str w∧tg u 7=.int .i64 ws.length∧tg u 8=.int .i64 i∧σ'=σ∧i≤ws.length∧idxOf w (ws.drop i) i=X)
  (fun env _=>match tg env.t 8 with | .int _ i=>ws.length - i.toNat | _=>0) ⟨_,0,rfl,by simp,by simp,by simp,by simp,by simp,rfl,by omega,hX⟩ ?_
 rintro env σ' ⟨u,i,rfl,hl,g0,g1,g7,g8,rfl,hi,hd⟩
 rcases Qzn i ws.length with hlt | hge
 ·have hlt':(i:Int)<(ws.length:Int):=by omega
  rw [List.drop_eq_getElem_cons hlt,idxOf] at hd
  by_cases hw:w=ws[i]
  ·rw [if_pos hw] at hd
   subst hd
   simp [hl,g0,g1,g7,g8,hlt',hlt,← hw]
  ·rw [if_neg hw] at hd
   have hw1:=w64 (n:=(i:Int)+1) (by omega) (by omega)
   simp [hl,g0,g1,g7,g8,hlt',hlt,hw,hw1]
   exact ⟨⟨i+1,by simp,by omega,hd⟩,by omega⟩
 ·have hge':¬ (i:Int)<(ws.length:Int):=by omega
  rw [List.drop_eq_nil_of_le hge,idxOf] at hd
  subst hd
  simp [hl,g0,g1,g7,g8,hge']
theorem Xh9 (w:List UInt8):idxOf w nameList 0=Wk w:=by
 unfold Wk Oyez.kindOf
 simp only [nameList,idxOf]
 split
 ·rfl
 ·split
  ·rfl
  ·split
   ·rfl
   ·split
    ·rfl
    ·split<;>rfl
theorem Zhz (σ:Za) (r:Nat) (k n:Int) (x:AV) (hx:x.one=true) (h:σ[r]? = some (.cells [.int .i64 k,.int .i64 n,x])) (w:List UInt8) :
  ACalls Tryz.prog 198 [.str w,.ptr r 0] σ (fun v σ'=>v=.bool (decide (0≤Wk w))∧σ'=σ.set r (.cells [.int .i64 (Wk w),.int .i64 n,x])):=by
 refine Yb Tryz.func198 rfl (Ua Tryz.func198 (by decide) rfl) ?_
 have hN:APure Tryz.prog 190 [] (Xl nameList):=Vcr
 have hi:=Ygh nameList w (by decide)
 rw [Xh9] at hi
 generalize nameList=L at hN hi
 simp [Tryz.ntmps198]
 refine hN.use ?_
 simp
 refine hi.use ?_
 have hlt:=(Qzs.1 h).1
 have hs:∀ v,(σ.set r v)[r]? = some v:=fun v=>List.getElem?_set_self hlt
 simp [h,hs]
theorem Xdv (σ:Za) (r:Nat) (k n:Int) (x:AV) (hx:x.one=true) (h:σ[r]? = some (.cells [.int .i64 k,.int .i64 n,x])) (w:List UInt8) (hw:w.length≤2^40) :
  ACalls Tryz.prog 200 [.str w,.ptr r 0] σ (fun v σ'=>v=.bool (Us w 999)∧σ'=σ.set r (.cells [.int .i64 k,.int .i64 (Yad w),x])):=by
 refine Yb Tryz.func200 rfl (Ua Tryz.func200 (by decide) rfl) ?_
 simp [Tryz.ntmps200]
 refine (Yco w 999 hw (by decide)).use ?_
 have hlt:=(Qzs.1 h).1
 have hs:∀ v,(σ.set r v)[r]? = some v:=fun v=>List.getElem?_set_self hlt
 simp [h,hs]
end Ab
namespace Ab
open Go Go.RowKit Go.Proofs
attribute [local irreducible] aws awp aw1 Og Om Oc Oa Ogd Ov Ot awd Zb awh Wb Ogh Ohd awl Ogl Ohl awv Ogv Ohv Xb Vb QFn Ub QRo QBe ACode AYield
def Uah (x:Except (Nat × Int) Oyez.Rec):AV:=match x with
 | .ok r=>.tup [Yg r,.int .i64 0,.int .i64 0]
 | .error (w,e)=>.tup [.agg [.int .i64 0,.int .i64 0,.nils],.int .i64 w,.int .i64 e]
theorem Uci {r:Option (AV × Za)} {v:AV} {s:Za} {K:AV→Za→Prop} (h:r=some (v,s)) (hk:K v s):Om r K:=by rw [h,Xk];exact hk
theorem Yht (S:Za) (w:List UInt8) (R:Nat) (hR:S[R]? = some (.cells [.str w])):Xa Tryz.prog #[66,66] .nils (.arr 1 R 0 1) S=some (.arr 1 S.length 0 1,S++[.cells [.str w]]):=by
 simp [Xa,Uo,hR,sub]
theorem Wh3 (S A B:Za) (pre:List (List UInt8)) (w:List UInt8) (q R:Nat) (hS:S=A++.cells (pre.map AV.str)::B) (hq:q=A.length) (hR:S[R]? = some (.cells [.str w])) (hl:pre.length≤2^41) :
  Xa Tryz.prog #[66,66] (.arr 1 q 0 pre.length) (.arr 1 R 0 1) S=some (.arr 1 S.length 0 (pre.length+1),A++.dead::B++[.cells ((pre++[w]).map AV.str)]):=by
 have h1:S[q]? = some (.cells (pre.map AV.str)):=by rw [hS,hq];simp
 have h2:S.set q .dead=A++.dead::B:=by rw [hS,hq];simp
 have hb:(pre.length+1)*16≤140737488355328:=by omega
 simp [Xa,Uo,hR,sub,h1,h2,hb]
theorem Weg (n:Nat) (σ:Za):Fz n σ .nils .nils↔True:=⟨fun _=>trivial,fun _=>.nils⟩
attribute [local simp] Weg
theorem Vcn {n r:Nat} {σ:Za} (ws:List (List UInt8)) (off:Nat) (hn:n≤r) (h:σ[r]? = some (.cells (ws.map AV.str))):Fz n σ (.arr 1 r off (ws.drop off).length) (.pl 1 ((ws.drop off).map AV.str)):=by
 have:=Fz.arr (n:=n) (σ:=σ) 1 r off (ws.map AV.str) ((ws.drop off).map AV.str) (fun i _=>(ws[off+i]?).elim .any AV.str) hn h (fun i x hx=>by
  rw [Qzp,List.getElem?_drop,Qzm] at hx
  obtain ⟨w,hw,rfl⟩:=hx
  refine ⟨rfl,fun j y hy=>?_⟩
  cases j with
  | succ j=>simp [AV.cells] at hy
  | zero =>
   simp [AV.cells] at hy
   subst hy
   refine ⟨rfl,?_⟩
   rw [Nat.mul_one,Nat.add_zero,Qzp,hw]
   rfl) (fun i x hx j y hy=>by
  rw [Qzp,List.getElem?_drop,Qzm] at hx
  obtain ⟨w,hw,rfl⟩:=hx
  cases j with
  | succ j=>simp [AV.cells] at hy
  | zero =>
   simp [AV.cells] at hy
   subst hy
   rw [hw]
   exact .str w)
 rwa [List.length_map] at this
def Zo (s:Int × Int) (ok:Bool) (w bad:Int):Int × Int:=if s.2=0∧ok=false then (w,bad) else s
theorem Za5 {s:Int × Int} (h:s.2≠0) (ok:Bool) (w bad:Int):Zo s ok w bad=s:=by unfold Zo;rw [if_neg (fun x=>h x.1)]
theorem Uap (s:Int × Int) (w bad:Int):Zo s true w bad=s:=by unfold Zo;rw [if_neg (fun x=>by cases x.2)]
theorem Ya0 (x w bad:Int):Zo (x,0) false w bad=(w,bad):=by unfold Zo;rw [if_pos ⟨rfl,rfl⟩]
def wst:List (List UInt8)→Nat→Int × Int→Int × Int
 | [],_,s=>s
 | w::t,i,s=>wst t (i+1) (Zo s (decide (i<2)||Oyez.word w) i 11)
theorem Ya5:∀ (l:List (List UInt8)) (i:Nat) (s:Int × Int),s.2≠0→wst l i s=s:=by
 intro l
 induction l with
 | nil=>intro i s h;rfl
 | cons w t ih=>intro i s h;rw [wst,Za5 h,ih _ _ h]
theorem Vfr:∀ (l:List (List UInt8)) (i:Nat) (x:Int),2≤i→wst l i (x,0)=match Oyez.firstBad l i with | some j=>((j:Int),11) | none=>(x,0):=by
 intro l
 induction l with
 | nil=>intro i x h;rfl
 | cons w t ih =>
  intro i x h
  rw [wst,Oyez.firstBad]
  have hd:decide (i<2)=false:=by simp;omega
  rw [hd,Bool.false_or]
  cases Oyez.word w with
  | true=>rw [Uap,ih _ _ (by omega)];simp
  | false=>rw [Ya0,Ya5 _ _ _ (by simp)];simp
def Wan (ws:List (List UInt8)):Int × Int:=Zo (0,0) (decide (0≤Wk (ws.getD 0 []))) 0 12
def Wad (ws:List (List UInt8)):Int:=if 1<ws.length then Yad (ws.getD 1 []) else 0
def rule2 (ws:List (List UInt8)):Int × Int:=Zo (Wan ws) (decide (1<ws.length)&&Us (ws.getD 1 []) 999) 1 11
def Vae (ws:List (List UInt8)):Int × Int:=Zo (rule2 ws) (decide (ws.length≤8)) 8 2
def Vs (ws:List (List UInt8)):Int × Int:=wst ws 0 (Vae ws)
theorem Yc5 (w:List UInt8):0≤Wk w↔Oyez.kindOf w=some (Wk w):=by
 unfold Wk
 cases h:Oyez.kindOf w with
 | none=>simp
 | some k =>
  simp only [true_and,iff_true]
  unfold Oyez.kindOf at h
  (repeat' split at h)<;>simp at h<;>omega
theorem Ug1 (own:List UInt8) (at_:Nat) (h1:¬ 40≤at_) (h2:¬ 64<own.length):((Vs (Oyez.words own)).2≠0∧∃ w:Nat,(Vs (Oyez.words own)).1=w∧Oyez.readLine own true at_=.error (w,(Vs (Oyez.words own)).2)) ∨
  ((Vs (Oyez.words own)).2=0∧2≤(Oyez.words own).length∧Oyez.readLine own true at_=.ok ⟨Wk ((Oyez.words own).getD 0 []),Wad (Oyez.words own),(Oyez.words own).drop 2⟩):=by
 have hne:=Ycg own
 unfold Oyez.readLine
 rw [if_neg h1,if_neg h2,if_neg (by decide)]
 generalize Oyez.words own=ws at hne
 cases ws with
 | nil=>exact absurd rfl hne
 | cons w0 t =>
  have hk:=Yc5 w0
  simp only
  cases hK:Oyez.kindOf w0 with
  | none =>
   have hk0:decide (0≤Wk w0)=false:=by
    rw [hK] at hk
    simpa using hk
   have hr1:Wan (w0::t)=(0,12):=by unfold Wan;rw [List.getD_cons_zero,hk0,Ya0]
   have hf:Vs (w0::t)=(0,12):=by
    unfold Vs Vae rule2
    rw [hr1,Za5 (s:=(0,12)) (by decide),Za5 (s:=(0,12)) (by decide),Ya5 _ _ _ (by decide)]
   rw [hf]
   exact .inl ⟨by decide,0,rfl,rfl⟩
  | some kind =>
   have hkk:Wk w0=kind:=by unfold Wk;rw [hK]
   have hk0:decide (0≤Wk w0)=true:=by
    rw [hK,hkk] at hk
    rw [hkk]
    simpa using hk
   have hr1:Wan (w0::t)=(0,0):=by unfold Wan;rw [List.getD_cons_zero,hk0,Uap]
   cases t with
   | nil =>
    have hr2:rule2 [w0]=(1,11):=by
     unfold rule2
     rw [hr1]
     exact Ya0 _ _ _
    have hf:Vs [w0]=(1,11):=by
     unfold Vs Vae
     rw [hr2,Za5 (by decide),Ya5 _ _ _ (by decide)]
    rw [hf]
    exact .inl ⟨by decide,1,rfl,rfl⟩
   | cons w1 ws =>
    obtain ⟨n1,n2⟩:=Xa8 w1 999 (by decide)
    have n1':Us w1 999=(Oyez.value w1 999).isSome:=n1
    simp only
    cases hV:Oyez.value w1 999 with
    | none =>
     have hr2:rule2 (w0::w1::ws)=(1,11):=by
      unfold rule2
      rw [hr1,List.getD_cons_succ,List.getD_cons_zero,n1',hV,Option.isSome_none,Bool.and_false]
      exact Ya0 _ _ _
     have hf:Vs (w0::w1::ws)=(1,11):=by
      unfold Vs Vae
      rw [hr2,Za5 (by decide),Ya5 _ _ _ (by decide)]
     rw [hf]
     exact .inl ⟨by decide,1,rfl,rfl⟩
    | some num =>
     have hr2:rule2 (w0::w1::ws)=(0,0):=by
      unfold rule2
      rw [hr1,List.getD_cons_succ,List.getD_cons_zero,n1',hV,Option.isSome_some,Bool.and_true]
      simp [Uap]
     have hnum:Wad (w0::w1::ws)=num:=by
      unfold Wad
      rw [if_pos (by simp),List.getD_cons_succ,List.getD_cons_zero]
      exact n2 num hV
     simp only
     by_cases h6:6<ws.length
     ·have hd:decide ((w0::w1::ws).length≤8)=false:=by simp;omega
      have hf:Vs (w0::w1::ws)=(8,2):=by
       unfold Vs Vae
       rw [hr2,hd,Ya0,Ya5 _ _ _ (by decide)]
      rw [hf,if_pos h6]
      exact .inl ⟨by decide,8,rfl,rfl⟩
     ·have hd:decide ((w0::w1::ws).length≤8)=true:=by simp;omega
      have hf:Vs (w0::w1::ws)=wst ws 2 (0,0):=by
       unfold Vs Vae
       rw [hr2,hd,Uap,wst,wst]
       simp [Uap]
      rw [hf,if_neg h6,Vfr _ _ _ (by decide),hnum,List.getD_cons_zero,hkk]
      cases Oyez.firstBad ws 2 with
      | some j=>exact .inl ⟨by simp,j,rfl,rfl⟩
      | none=>exact .inr ⟨rfl,by simp,rfl⟩
def rdH (σ p2:Za) (ws:List (List UInt8)) (x:List UInt8) (k n:Int) (st:Int × Int) (more:Za):Za :=
 σ++(.cells [.int .i64 0,.int .i64 0,.nils]::.cells [.int .i64 k,.int .i64 n,.nils]::.cells [.int .i64 st.1]::.cells [.int .i64 st.2]::.cells [.arr 1 (σ.length+(p2.length+8)) 0 ws.length]::.cells [.str x]::.deferred::.dead ::
  (p2++(.cells (ws.map AV.str)::.cells [.fn (.func 198) [] [.ptr (σ.length+1) 0],.int .i64 12,.fn (.func 200) [] [.ptr (σ.length+1) 0],.int .i64 11]::more)))
theorem Xar (σ p2:Za) (ws:List (List UInt8)) (x:List UInt8) (k n:Int) (st:Int × Int) (more:Za) (ok:Bool) (w bad:Int) :
  ACalls Tryz.prog 197 [.bool ok,.int .i64 w,.int .i64 bad,.ptr (σ.length+3) 0,.ptr (σ.length+2) 0] (rdH σ p2 ws x k n st more) (fun v σ'=>v=.tup []∧σ'=rdH σ p2 ws x k n (Zo st ok w bad) more):=by
 refine (Zw _ (σ.length+3) (σ.length+2) st.2 st.1 (by simp [rdH]) (by simp [rdH]) (by omega) ok w bad).mono ?_
 rintro v σ' ⟨rfl,rfl⟩
 refine ⟨rfl,?_⟩
 unfold Vu Zo
 split
 ·simp [rdH]
 ·rfl
set_option maxHeartbeats 4000000 in
set_option maxRecDepth 8000 in
theorem Vh1 (own:List UInt8) (ended:Bool) (at_:Nat) (hown:own.length≤2^40):APure Tryz.prog 123 [.str own,.bool ended,.int .i64 at_] (Uah (Oyez.readLine own ended at_)):=by
 refine APure.of fun σ=>?_
 generalize hX:Oyez.readLine own ended at_=X
 by_cases h1:40≤at_
 ·have hE:X=.error (0,2):=by rw [← hX];unfold Oyez.readLine;rw [if_pos h1]
  have h1':¬ (at_:Int)<40:=by omega
  subst hE
  refine Ya7 Tryz.func123 rfl (Ua Tryz.func123 (by decide) rfl) ?_
  simp [Tryz.ntmps123,h1']
  refine StA.of ((Zw _ (σ.length+3) (σ.length+2) 0 0 (by simp) (by simp) (by omega) false 0 2).mono ?_)
  rintro v σ' ⟨rfl,rfl⟩
  simp [Vu]
  refine StA.of ((Zw _ (σ.length+3) (σ.length+2) 2 0 (by simp) (by simp) (by omega) _ 0 10).mono ?_)
  rintro v σ' ⟨rfl,rfl⟩
  simp [Vu]
  refine StA.of ((Zw _ (σ.length+3) (σ.length+2) 2 0 (by simp) (by simp) (by omega) _ 0 11).mono ?_)
  rintro v σ' ⟨rfl,rfl⟩
  simp [Vu]
  refine Wah [2] [(1,1)] mixed (by kernel_rfl) (by kernel_rfl) ?_
  simp [Uah]
 have h1':(at_:Int)<40:=by omega
 by_cases h2:64<own.length
 ·have hE:X=.error (0,10):=by rw [← hX];unfold Oyez.readLine;rw [if_neg h1,if_pos h2]
  have h2':¬ (own.length:Int)≤64:=by omega
  have h2n:¬ own.length≤64:=by omega
  subst hE
  refine Ya7 Tryz.func123 rfl (Ua Tryz.func123 (by decide) rfl) ?_
  simp [Tryz.ntmps123,h1']
  refine StA.of ((Zw _ (σ.length+3) (σ.length+2) 0 0 (by simp) (by simp) (by omega) true 0 2).mono ?_)
  rintro v σ' ⟨rfl,rfl⟩
  simp [Vu]
  refine StA.of ((Zw _ (σ.length+3) (σ.length+2) 0 0 (by simp) (by simp) (by omega) _ 0 10).mono ?_)
  rintro v σ' ⟨rfl,rfl⟩
  simp [Vu,h2',h2n]
  refine StA.of ((Zw _ (σ.length+3) (σ.length+2) 10 0 (by simp) (by simp) (by omega) _ 0 11).mono ?_)
  rintro v σ' ⟨rfl,rfl⟩
  simp [Vu]
  refine Wah [2] [(1,1)] mixed (by kernel_rfl) (by kernel_rfl) ?_
  simp [Uah]
 have h2':(own.length:Int)≤64:=by omega
 have h2n:own.length≤64:=by omega
 cases ended with
 | false =>
  have hE:X=.error (0,11):=by rw [← hX];unfold Oyez.readLine;rw [if_neg h1,if_neg h2];rfl
  subst hE
  refine Ya7 Tryz.func123 rfl (Ua Tryz.func123 (by decide) rfl) ?_
  simp [Tryz.ntmps123,h1',h2',h2n]
  refine StA.of ((Zw _ (σ.length+3) (σ.length+2) 0 0 (by simp) (by simp) (by omega) _ 0 2).mono ?_)
  rintro v σ' ⟨rfl,rfl⟩
  simp [Vu]
  refine StA.of ((Zw _ (σ.length+3) (σ.length+2) 0 0 (by simp) (by simp) (by omega) _ 0 10).mono ?_)
  rintro v σ' ⟨rfl,rfl⟩
  simp [Vu]
  refine StA.of ((Zw _ (σ.length+3) (σ.length+2) 0 0 (by simp) (by simp) (by omega) _ 0 11).mono ?_)
  rintro v σ' ⟨rfl,rfl⟩
  simp [Vu]
  refine Wah [2] [(1,1)] mixed (by kernel_rfl) (by kernel_rfl) ?_
  simp [Uah]
 | true =>
  refine Ycw 8 (fun env σ'=>∃ t,env={ t }∧t.length=108∧tg t 0=.str own∧tg t 6=.ptr σ.length 0∧tg t 9=.ptr (σ.length+1) 0∧tg t 10=.ptr (σ.length+2) 0∧tg t 11=.ptr (σ.length+3) 0 ∧
   tg t 12=.fn (.func 197) [] [.ptr (σ.length+3) 0,.ptr (σ.length+2) 0] ∧
   σ'=σ++[.cells [.int .i64 0,.int .i64 0,.nils],.cells [.int .i64 0,.int .i64 0,.nils],.cells [.int .i64 0],.cells [.int .i64 0]]) Tryz.func123 rfl (Ua Tryz.func123 (by decide) rfl) ?_ ?_
  ·simp [Tryz.ntmps123,h1',h2',h2n]
   refine StA.of ((Zw _ (σ.length+3) (σ.length+2) 0 0 (by simp) (by simp) (by omega) _ 0 2).mono ?_)
   rintro v σ' ⟨rfl,rfl⟩
   simp [Vu,h2',h2n]
   refine StA.of ((Zw _ (σ.length+3) (σ.length+2) 0 0 (by simp) (by simp) (by omega) _ 0 10).mono ?_)
   rintro v σ' ⟨rfl,rfl⟩
   simp [Vu]
   refine StA.of ((Zw _ (σ.length+3) (σ.length+2) 0 0 (by simp) (by simp) (by omega) _ 0 11).mono ?_)
   rintro v σ' ⟨rfl,rfl⟩
   simp [Vu]
  ·rintro env σ' ⟨t,rfl,hl,g0,g6,g9,g10,g11,g12,rfl⟩
   simp [hl,g0,g6,g9,g10,g11,g12]
   refine StA.of ((Vb1 _ _).mono ?_)
   rintro v σ' ⟨rfl,rfl⟩
   simp [hl,g0,g6,g9,g10,g11,g12]
   refine Ybz (gf:=264) (first:=[]) (caps:=[.ptr (σ.length+5) 0]) (σ.length+6) (σ.length+7) (by simp) rfl (by simp [hl]) fun fn D o σ2 ho hrd hσ2=>?_
   simp only [List.append_assoc,List.cons_append,List.nil_append] at hσ2
   subst hσ2
   refine AEnter.mono (Xb8 own (by omega) _ _ (fun pre x σ'=>∃ lv pad,σ'=σ++(.cells [.int .i64 0,.int .i64 0,.nils]::.cells [.int .i64 0,.int .i64 0,.nils]::.cells [.int .i64 0]::.cells [.int .i64 0]::.cells [lv]::.cells [.str x]::.deferred::o::pad) ∧
    ((pre=[]∧lv=.nils∧pad=[])∨∃ p2,pad=p2++[.cells (pre.map AV.str)]∧lv=.arr 1 (σ.length+(p2.length+8)) 0 pre.length)) ?_ ?_ ?_ _ ?_) ?_
   ·rintro pre x σ' ⟨lv,pad,rfl,_⟩
    simp
   ·rintro pre x y σ' ⟨lv,pad,rfl,h⟩
    exact ⟨lv,pad,by simp,h⟩
   ·rintro pre x w σ' ⟨lv,pad,rfl,h⟩ hp hw
    refine AYield.round ho (by simp) (by simp) fun o'=>?_
    clear ho
    rcases h with ⟨rfl,rfl,rfl⟩ | ⟨p2,rfl,rfl⟩
    ·simp [-Xa,hl,g0,g6,g9,g10,g11,g12]
     refine Uci (Yht _ w _ (by simp)) ?_
     simp [-Xa,hl,g0,g6,g9,g10,g11,g12]
     exact ⟨_,_,⟨rfl,rfl⟩,[.cells [.str w]],rfl,by simp⟩
    ·simp [-Xa,hl,g0,g6,g9,g10,g11,g12]
     refine Uci (Wh3 _ (σ++(.cells [.int .i64 0,.int .i64 0,.nils]::.cells [.int .i64 0,.int .i64 0,.nils]::.cells [.int .i64 0]::.cells [.int .i64 0]::.cells [.arr 1 (σ.length+(p2.length+8)) 0 pre.length]::.cells [.str x]::.deferred::o'::p2)) [.cells [.str w]] pre w _ _ (by simp) (by simp) (by simp) hp) ?_
     simp [-Xa,hl,g0,g6,g9,g10,g11,g12]
     exact ⟨_,_,⟨rfl,rfl⟩,p2++[.dead,.cells [.str w]],by simp,by simp⟩
   ·exact ⟨.nils,[],rfl,.inl ⟨rfl,rfl,rfl⟩⟩
   ·rintro v σ' ⟨x,lv,pad,rfl,h⟩
    clear ho
    have hne:=Ycg own
    have hwl:=Ue5 own
    have hwm:∀ w∈Oyez.words own,w.length≤own.length:=fun w hw=>Zfq hw
    obtain ⟨p2,rfl,rfl⟩:∃ p2,pad=p2++[.cells ((Oyez.words own).map AV.str)]∧lv=.arr 1 (σ.length+(p2.length+8)) 0 (Oyez.words own).length:=by
     rcases h with ⟨h,_⟩ | h
     ·exact absurd h hne
     ·exact h
    clear h
    have hP:=Ug1 own at_ h1 h2
    rw [hX] at hP
    generalize Oyez.words own=ws at hne hwl hwm hP
    simp [hl,g0,g6,g9,g10,g11,g12,hrd]
    refine Xc (fun env σ'=>∃ (u:List AV) (i:Nat) (k n:Int) (st:Int × Int) (more:Za),env={ t:=u,m:=[σ.length+6] }∧u.length=108∧tg u 6=.ptr σ.length 0∧tg u 9=.ptr (σ.length+1) 0∧tg u 10=.ptr (σ.length+2) 0 ∧
      tg u 11=.ptr (σ.length+3) 0∧tg u 12=.fn (.func 197) [] [.ptr (σ.length+3) 0,.ptr (σ.length+2) 0]∧tg u 13=.ptr (σ.length+4) 0∧tg u 51=.arr 2 (σ.length+(p2.length+9)) 0 2∧tg u 52=.int .i64 2∧tg u 53=.int .i64 i∧i≤2 ∧
      σ'=rdH σ p2 ws x k n st more∧((i=0∧k=0∧n=0∧st=(0,0))∨(i=1∧k=Wk (ws.getD 0 [])∧n=0∧st=Wan ws)∨(i=2∧k=Wk (ws.getD 0 [])∧n=Wad ws∧st=rule2 ws)))
     (fun env _=>match tg env.t 53 with | .int _ i=>2 - i.toNat | _=>0) ⟨_,0,0,0,(0,0),[],rfl,by simp [hl],by simp [hl,g6],by simp [hl,g9],by simp [hl,g10],by simp [hl,g11],by simp [hl,g12],by simp [hl],by simp [hl],by simp [hl],by simp [hl],by omega,by simp [rdH],.inl ⟨rfl,rfl,rfl,rfl⟩⟩ ?_
    clear hl g0 g6 g9 g10 g11 g12 t hrd
    rintro env σ' ⟨t,i,k,n,st,more,rfl,hl,g6,g9,g10,g11,g12,g13,g51,g52,g53,hi,rfl,hst⟩
    obtain ⟨w0,tl,rfl⟩:∃ w0 tl,ws=w0::tl:=by
     cases ws with
     | nil=>exact absurd rfl hne
     | cons w0 tl=>exact ⟨w0,tl,rfl⟩
    have wl1:IntKind.i64.wrap 1=1:=w64 (by decide) (by decide)
    have wl2:IntKind.i64.wrap 2=2:=w64 (by decide) (by decide)
    rcases hst with ⟨rfl,rfl,rfl,rfl⟩ | ⟨rfl,rfl,rfl,rfl⟩ | ⟨rfl,rfl,rfl,rfl⟩
    ·simp [rdH,hl,g6,g9,g10,g11,g12,g13,g51,g52,g53]
     refine Wah [12,17] [(0,1),(14,0),(15,0),(16,0)] mixed (by kernel_rfl) (by kernel_rfl) ?_
     simp [hl,g6,g9,g10,g11,g12,g13,g51,g52,g53]
     refine Uaa (Zhz _ (σ.length+1) 0 0 .nils rfl (by simp) w0) ?_
     simp [hl,g6,g9,g10,g11,g12,g13,g51,g52,g53]
     refine Uaa (Xar σ p2 (w0::tl) x (Wk w0) 0 (0,0) (more++[_]) _ 0 12) ?_
     simp [hl,g6,g9,g10,g11,g12,g13,g51,g52,g53,wl1]
     exact ⟨1,rfl,by omega,Wk w0,0,(Zo (0,0) (decide (0≤Wk w0)) 0 12).1,(Zo (0,0) (decide (0≤Wk w0)) 0 12).2,⟨more++[.cells [.fn (.func 198) [] [.ptr (σ.length+1) 0],.int .i64 12]],by simp [rdH]⟩,.inr (.inl ⟨rfl,rfl,rfl,rfl⟩)⟩
    ·generalize hst1:Wan (w0::tl)=st1
     cases tl with
     | nil =>
      simp [rdH,hl,g6,g9,g10,g11,g12,g13,g51,g52,g53]
      refine Wah [12,17] [(0,1),(14,0),(15,0),(16,0)] mixed (by kernel_rfl) (by kernel_rfl) ?_
      simp [hl,g6,g9,g10,g11,g12,g13,g51,g52,g53]
      refine Uaa (Xar σ p2 [w0] x (Wk w0) 0 st1 (more++[_]) _ 1 11) ?_
      simp [hl,g6,g9,g10,g11,g12,g13,g51,g52,g53,wl2]
      exact ⟨2,rfl,by omega,Wk w0,0,(Zo st1 false 1 11).1,(Zo st1 false 1 11).2,⟨more++[.cells [.fn (.func 200) [] [.ptr (σ.length+1) 0],.int .i64 11]],by simp [rdH]⟩,.inr (.inr ⟨rfl,rfl,by simp [Wad],by unfold rule2;rw [hst1];rfl⟩)⟩
     | cons w1 t2 =>
      have h12:(1:Int)<(t2.length:Int)+1+1:=by omega
      simp [rdH,hl,g6,g9,g10,g11,g12,g13,g51,g52,g53]
      refine Wah [12,17] [(0,1),(14,0),(15,0),(16,0)] mixed (by kernel_rfl) (by kernel_rfl) ?_
      simp [hl,g6,g9,g10,g11,g12,g13,g51,g52,g53,h12]
      refine Uaa (Xdv _ (σ.length+1) (Wk w0) 0 .nils rfl (by simp) w1 (by have:=hwm w1 (by simp);omega)) ?_
      simp [hl,g6,g9,g10,g11,g12,g13,g51,g52,g53,h12]
      refine Uaa (Xar σ p2 (w0::w1::t2) x (Wk w0) (Yad w1) st1 (more++[_]) _ 1 11) ?_
      simp [hl,g6,g9,g10,g11,g12,g13,g51,g52,g53,wl2]
      exact ⟨2,rfl,by omega,Wk w0,Yad w1,(Zo st1 (Us w1 999) 1 11).1,(Zo st1 (Us w1 999) 1 11).2,⟨more++[.cells [.fn (.func 200) [] [.ptr (σ.length+1) 0],.int .i64 11]],by simp [rdH]⟩,.inr (.inr ⟨rfl,rfl,by simp [Wad],by unfold rule2;rw [hst1];simp⟩)⟩
    ·generalize hst2:rule2 (w0::tl)=st2
     simp [rdH,hl,g6,g9,g10,g11,g12,g13,g51,g52,g53]
     refine StA.of ((Xar σ p2 (w0::tl) x (Wk w0) (Wad (w0::tl)) st2 more _ 8 2).mono ?_)
     rintro v σ' ⟨rfl,rfl⟩
     have hst3:Zo st2 (decide ((tl.length:Int)+1≤8)) 8 2=Vae (w0::tl):=by
      unfold Vae
      rw [hst2]
      congr 1
      exact decide_eq_decide.2 (by simp;omega)
     rw [hst3]
     have hfin:wst (w0::tl) 0 (Vae (w0::tl))=Vs (w0::tl):=rfl
     generalize Vae (w0::tl)=st3 at hfin
     clear hst3
     simp [rdH,hl,g6,g9,g10,g11,g12,g13,g51,g52,g53]
     refine Xc (fun env σ'=>∃ (u:List AV) (j:Nat) (st:Int × Int),env={ t:=u,m:=[σ.length+6] }∧u.length=108∧tg u 6=.ptr σ.length 0∧tg u 9=.ptr (σ.length+1) 0∧tg u 10=.ptr (σ.length+2) 0 ∧
       tg u 11=.ptr (σ.length+3) 0∧tg u 12=.fn (.func 197) [] [.ptr (σ.length+3) 0,.ptr (σ.length+2) 0]∧tg u 13=.ptr (σ.length+4) 0∧tg u 82=.arr 1 (σ.length+(p2.length+8)) 0 (tl.length+1)∧tg u 83=.int .i64 ((tl.length:Int)+1)∧tg u 84=.int .i64 j∧j≤tl.length+1 ∧
       σ'=rdH σ p2 (w0::tl) x (Wk w0) (Wad (w0::tl)) st more∧wst ((w0::tl).drop j) j st=Vs (w0::tl))
      (fun env _=>match tg env.t 84 with | .int _ j=>tl.length+1 - j.toNat | _=>0) ⟨_,0,st3,rfl,by simp [hl],by simp [hl,g6],by simp [hl,g9],by simp [hl,g10],by simp [hl,g11],by simp [hl,g12],by simp [hl,g13],by simp [hl],by simp [hl],by simp [hl],by omega,by simp [rdH],hfin⟩ ?_
     clear hl g6 g9 g10 g11 g12 g13 g51 g52 g53 t hst2 hfin
     rintro env σ' ⟨t,j,st,rfl,hl,g6,g9,g10,g11,g12,g13,g82,g83,g84,hj,rfl,hd⟩
     rcases Qzn j (tl.length+1) with hlt | hge
     ·have hlt':(j:Int)<(tl.length:Int)+1:=by omega
      have hlt2:j<(w0::tl).length:=by simpa using hlt
      have hgw:(AV.str w0::tl.map AV.str)[j]? = some (.str (w0::tl)[j]):=by
       rw [← List.map_cons,Qzp,Qze hlt2]
       rfl
      have hwj:=hwm _ (List.getElem_mem hlt2)
      have hlt3:j≤tl.length:=by omega
      have hgw2:∀ h,(AV.str w0::tl.map AV.str)[j]'h=.str (w0::tl)[j]:=fun h=>by rw [Qze h] at hgw;exact Option.some.inj hgw
      clear hgw
      rw [List.drop_eq_getElem_cons hlt2,wst] at hd
      generalize (w0::tl)[j]=w at hgw2 hwj hd
      have hw1:=w64 (n:=(j:Int)+1) (by omega) (by omega)
      by_cases h2j:j<2
      ·have h2j':(j:Int)<2:=by omega
       simp [rdH,hl,g6,g9,g10,g11,g12,g13,g82,g83,g84,hlt',hlt,hlt3,hgw2,h2j,h2j',hw1]
       refine StA.of ((Xar σ p2 (w0::tl) x (Wk w0) (Wad (w0::tl)) st more _ j 11).mono ?_)
       rintro v σ' ⟨rfl,rfl⟩
       rw [Uap]
       rw [decide_eq_true h2j,Bool.true_or,Uap] at hd
       simp [rdH,hl,g6,g9,g10,g11,g12,g13,g82,g83,g84,hw1]
       exact ⟨⟨j+1,by simp,by omega,st.1,st.2,⟨rfl,rfl⟩,hd⟩,by omega⟩
      ·have h2j':¬ (j:Int)<2:=by omega
       simp [rdH,hl,g6,g9,g10,g11,g12,g13,g82,g83,g84,hlt',hlt,hlt3,hgw2,h2j,h2j',hw1]
       refine (Ycq w (by omega)).use ?_
       simp [hl,g6,g9,g10,g11,g12,g13,g82,g83,g84]
       refine StA.of ((Xar σ p2 (w0::tl) x (Wk w0) (Wad (w0::tl)) st more _ j 11).mono ?_)
       rintro v σ' ⟨rfl,rfl⟩
       rw [decide_eq_false h2j,Bool.false_or] at hd
       generalize Zo st (Oyez.word w) j 11=st1 at hd
       simp [rdH,hl,g6,g9,g10,g11,g12,g13,g82,g83,g84,hw1]
       exact ⟨⟨j+1,by simp,by omega,st1.1,st1.2,⟨rfl,rfl⟩,hd⟩,by omega⟩
     ·obtain rfl:j=tl.length+1:=by omega
      rw [List.drop_eq_nil_of_le (by simp),wst] at hd
      subst hd
      have hge':¬ ((tl.length:Int)+1<(tl.length:Int)+1):=by omega
      rcases hP with ⟨hne0,wd,hwd,rfl⟩ | ⟨he0,h2l,hX2⟩
      ·simp [rdH,hl,g6,g9,g10,g11,g12,g13,g82,g83,g84,hge',hne0]
       refine Wah [3] [(1,1),(2,1)] mixed (by kernel_rfl) (by kernel_rfl) ?_
       simp [hl,g6,g9,g10,g11,g12,g13,Uah,hwd]
      ·subst hX2
       obtain ⟨w1,t2,rfl⟩:∃ w1 t2,tl=w1::t2:=by
        cases tl with
        | nil=>simp at h2l
        | cons w1 t2=>exact ⟨w1,t2,rfl⟩
       cases t2 with
       | nil =>
        simp [rdH,hl,g6,g9,g10,g11,g12,g13,g82,g83,g84,he0,Uah]
        exact .pl0 1 1
       | cons w2 t3 =>
        simp [rdH,hl,g6,g9,g10,g11,g12,g13,g82,g83,g84,he0,Uah]
        exact Vcn (w0::w1::w2::t3) 2 (by omega) (by simp)
end Ab
namespace Ab
open Go Go.RowKit Go.Proofs
attribute [local irreducible] aws awp aw1 Og Om Oc Oa Ogd Ov Ot awd Zb awh Wb Ogh Ohd awl Ogl Ohl awv Ogv Ohv Xb Vb QFn Ub QRo QBe ACode AYield
def Var (x:List UInt8) (f:List Oyez.Rec):Oyez.Parsed:=glue f (Oyez.parseLines (Oyez.linesOf x) (Yai f) f.length)
theorem Yep (f:List Oyez.Rec):Var [] f=⟨f,0,0,0⟩:=by simp [Var,Oyez.linesOf,Oyez.parseLines,glue]
theorem Ye0 (b:UInt8) (t:List UInt8) (f:List Oyez.Rec):Var (b::t) f=match Oyez.readLine (We 10 (b::t)).1 (We 10 (b::t)).2.2 f.length with
   | .error (w,x)=>⟨[],f.length,w,x⟩
   | .ok r=>if (Yai f).all (fun q=>q.lt r.place)=false then ⟨[],f.length,1,4⟩ else Var (We 10 (b::t)).2.1 (f++[r]):=by
 unfold Var
 rw [Oyez.linesOf_cut,Yhw]
 simp only
 rw [Oyez.parseLines]
 cases hr:Oyez.readLine (We 10 (b::t)).1 (We 10 (b::t)).2.2 f.length with
 | error x =>
  obtain ⟨w,x⟩:=x
  have:=Wbk hr
  simp [glue,this]
 | ok r =>
  simp only
  cases hl:(Yai f).all (fun q=>q.lt r.place) with
  | false=>simp [glue]
  | true =>
   have hlp:Yai (f++[r])=some r.place:=by simp [Yai]
   rw [hlp,List.length_append]
   simp only [Bool.true_eq_false,if_false,List.length_cons,List.length_nil]
   unfold glue
   split
   ·simp
   ·rfl
theorem Ue6 (c:UInt8) (s:List UInt8) (h:(We c s).2.2=false):(We c s).2.1=[]:=by
 induction s with
 | nil=>rfl
 | cons b t ih =>
  unfold We at h ⊢
  split at h
  ·cases h
  ·rename_i hb
   rw [if_neg hb]
   exact ih h
theorem take3 {cs:List AV} {n:Nat} {a b c:AV} (h0:cs[n]? = some a) (h1:cs[n+1]? = some b) (h2:cs[n+2]? = some c):List.take 3 (List.drop n cs)=[a,b,c]:=by
 obtain ⟨l0,e0⟩:=Qzs.1 h0
 obtain ⟨l1,e1⟩:=Qzs.1 h1
 obtain ⟨l2,e2⟩:=Qzs.1 h2
 rw [List.drop_eq_getElem_cons l0,List.drop_eq_getElem_cons l1,List.drop_eq_getElem_cons l2]
 simp [e0,e1,e2]
set_option maxHeartbeats 4000000 in
set_option maxRecDepth 8000 in
theorem Ydb (s:List UInt8) (hs:s.length≤2^40):APure Tryz.prog 43 [.str s] (Xav (Oyez.parse s)):=by
 refine APure.of fun σ=>?_
 generalize hX:Oyez.parse s=X
 refine Yb Tryz.func43 rfl (Ua Tryz.func43 (by decide) rfl) ?_
 simp [Tryz.ntmps43]
 refine Xc (fun env σ'=>∃ (u:List AV) (x:List UInt8) (v:AV) (f:List Oyez.Rec) (g:Za) (o:Option Nat),env={ t:=u }∧u.length=61∧tg u 0=.str x∧tg u 2=v∧tg u 3=.int .i64 f.length ∧
   σ'=σ++g∧Acc σ g 3 v (f.map Yg) o∧x.length≤s.length∧f.length≤40∧Var x f=X)
  (fun env _=>match tg env.t 0 with | .str x=>x.length | _=>0) ⟨_,s,.nils,[],[],none,rfl,by simp,by simp,by simp,by simp,by simp,Acc.nil _ _ _,by omega,by simp,?_⟩ ?_
 ·rw [← hX,← Uh3];rfl
 rintro env σ' ⟨u,x,v,f,g,o,rfl,hl,g0,g2,g3,rfl,hA,hxl,hf40,hd⟩
 cases x with
 | nil =>
  rw [Yep] at hd
  subst hd
  have hz:=hA.fz (fun x hx y hy=>by
   obtain ⟨r,_,rfl⟩:=List.mem_map.1 hx
   simp [AV.cells] at hy
   rcases hy with rfl | rfl | rfl
   ·exact .int _ _
   ·exact .int _ _
   ·exact (Xcq _ _ _).2 trivial)
  simpa [hl,g0,g2,g3,Xav] using hz
 | cons b t =>
  rw [Ye0] at hd
  have hcl:=Ub6 10 (b::t)
  have hrs:=Ue6 10 (b::t)
  have hcut:=Uc0 (b::t) 10 (by omega)
  generalize We 10 (b::t)=q at hd hcl hrs hcut
  obtain ⟨own,rest,ended⟩:=q
  simp only at hd hcl hrs hcut
  have hread:=Vh1 own ended f.length (by omega)
  simp [hl,g0,g2,g3]
  refine hcut.use ?_
  simp [hl,g0,g2,g3]
  refine hread.use ?_
  cases hr:Oyez.readLine own ended f.length with
  | error x =>
   obtain ⟨w,x⟩:=x
   have hx0:¬ x=0:=Wbk hr
   rw [hr] at hd
   simp only at hd
   subst hd
   simp [hl,g0,g2,g3,Uah]
   refine Ym mixed (by kernel_rfl) ?_
   simp [hl,g0,g2,g3,hx0,Xav]
  | ok r =>
   rw [hr] at hd
   simp only at hd
   obtain ⟨hr1,hr2,hr3⟩:=Yhv hr
   simp [hl,g0,g2,g3,Uah]
   refine Ym mixed (by kernel_rfl) ?_
   have hwl:=w64 (n:=(f.length:Int)+1) (by omega) (by omega)
   have hA1:=(hA.more [.cells (Vac r)]).push (P:=Tryz.prog) (t:=57) (e:=88) (ag:=true) (x:=Yg r) (by simp) (by simp) (by simp) (by omega) ⟨by simp [AV.cells],by simp [AV.cells,AV.one]⟩ (by simp;omega)
   obtain ⟨v',g',o',he,hA',_⟩:=hA1
   simp [-Xa,Vac] at he
   obtain rfl | ⟨f',q,rfl⟩:f=[]∨∃ f' q,f=f'++[q]:=by
    rcases List.eq_nil_or_concat f with h | ⟨a,b,h⟩
    ·exact .inl h
    ·exact .inr ⟨a,b,by simpa using h⟩
   ·have hvl:∀ S:Za,Uan Tryz.prog 57 v S=some (.int .i64 0):=by
     intro S
     have:=hA.val
     cases o with
     | none=>obtain ⟨rfl,_⟩:=this;simp
     | some j=>obtain ⟨rfl,_⟩:=this;simp
    simp [Yai] at hd
    have wl1:IntKind.i64.wrap 1=1:=w64 (by decide) (by decide)
    simp [-Xa,-Uan,hl,g0,g2,g3,he,hvl,wl1]
    have hrl:=hcl.2.2 hr3
    simp at hrl hxl
    exact ⟨⟨[r],by simp,⟨o',by simpa using hA'⟩,by omega,by simp,hd⟩,by omega⟩
   ·obtain ⟨j0,rfl⟩:∃ j,o=some j:=by
     cases o with
     | none=>have:=hA.val;simp at this
     | some j=>exact ⟨j,rfl⟩
    have hv:=hA.val
    simp only [List.length_map,List.length_append,List.length_cons,List.length_nil] at hv
    obtain ⟨rfl,hg⟩:=hv
    have hc0:=Vbs (f'++[q]) f'.length 0 (by simp) (by decide)
    have hc1:=Vbs (f'++[q]) f'.length 1 (by simp) (by decide)
    have hc2:=Vbs (f'++[q]) f'.length 2 (by simp) (by decide)
    have hcl2:=Xa0 ((f'++[q]).map Yg) (k:=3) (fun x hx=>by obtain ⟨r,_,rfl⟩:=List.mem_map.1 hx;rfl)
    generalize ((f'++[q]).map Yg).flatMap AV.cells=cs at hg hc0 hc1 hc2 hcl2
    have hj0:=(Qzs.1 hg).1
    have happ:∀ y:Za,(g++y)[j0]? = some (.cells cs):=fun y=>by rw [Qzl hj0,hg]
    simp [Vac] at hc0 hc1 hc2 hcl2
    have hm2:f'.length*3+3≤cs.length:=by omega
    have hz1:(0:Int)<(f'.length:Int)+1:=by omega
    have hw:=w64 (n:=(f'.length:Int)) (by simp at hf40;omega) (by simp at hf40;omega)
    have hlp:Yai (f'++[q])=some q.place:=by simp [Yai]
    rw [hlp] at hd
    simp only [List.length_append,List.length_cons,List.length_nil,Nat.zero_add] at he g2 g3
    have htk:=take3 hc0 hc1 hc2
    simp [-Xa,hl,g0,g2,g3,hz1,hw,happ,hm2,he]
    rw [htk]
    refine Zac (Xay q) ?_
    refine Zac (Xay r) ?_
    refine Zac (Wb8 q.place r.place) ?_
    have hneg:=Vcd q.place r.place
    have hrl:=hcl.2.2 hr3
    simp at hrl hxl hr1
    have w2:=w64 (n:=(f'.length:Int)+1+1) (by omega) (by omega)
    cases hb:q.place.lt r.place with
    | true =>
     have hc:¬ 0≤Zam q.place r.place:=by have:=hneg.2 hb;omega
     simp [hb] at hd
     simp [-Xa,hl,g0,g2,g3,hc,happ,he,w2]
     exact ⟨⟨f'++[q]++[r],by simp;omega,⟨o',by simpa using hA'⟩,by omega,by simp;omega,by simpa using hd⟩,by omega⟩
    | false =>
     have hc:0≤Zam q.place r.place:=by
      rw [hb] at hneg
      have:¬ Zam q.place r.place<0:=fun h=>by have:=hneg.1 h;cases this
      omega
     simp [hb] at hd
     subst hd
     simp [-Xa,hl,g0,g2,g3,hc,happ,he,w2,Xav]
end Ab

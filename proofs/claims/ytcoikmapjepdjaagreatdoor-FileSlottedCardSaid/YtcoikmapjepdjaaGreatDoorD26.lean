/-
  Texts packed for a claim.
-/
import Derived.Test.YtcoikmapjepdjaaGreatDoorD00
import Derived.Test.YtcoikmapjepdjaaGreatDoorD20
import Derived.Test.YtcoikmapjepdjaaGreatDoorD25
set_option linter.all false
namespace Ab
open Go Go.RowKit Go.Proofs
attribute [local irreducible] aws awp aw1 Og Om Oc Oa Ogd Ov Ot awd Zb awh Xb Ogh Ohd awl Ogl Ohl awv Ogv Ohv Wb Vb QFn Ub QRo QBe ACode AYield
theorem Vc6 (d s:Nat):∀ k,(List.range' s k).map (d+·)=List.range' (d+s) k:=by
 intro k
 induction k generalizing s with
 | zero=>rfl
 | succ k ih=>rw [List.range'_succ,List.range'_succ,List.map_cons,ih,Nat.add_assoc]
theorem Yeq (n s:Nat) (f:List Oyez.Rec):(Xh n s f).length=if f=[] then 0 else (wne f).length+1:=by
 unfold Xh
 split<;>simp
theorem Wez (n d:Nat) (pre post:Za) (hd:pre.length=d) (f:List Oyez.Rec):OwnAt n (pre++(Xh (n+d) 0 f++post)) f (Yn (n+d) 0 f) (if f=[] then none else some d) (List.range' (d+1) (wne f).length):=by
 refine ⟨?_,by simp,fun i q ws hq hw=>?_⟩
 ·by_cases hf:f=[]
  ·rw [if_pos hf]
   exact ⟨by rw [Yn,if_pos hf],hf⟩
  ·rw [if_neg hf]
   refine ⟨by rw [Yn,if_neg hf,Nat.add_zero],hf,?_⟩
   rw [Qzr (by omega),hd,Nat.sub_self]
   unfold Xh
   rw [if_neg hf,List.cons_append,List.getElem?_cons_zero,Ubg n d f _ (by simp),Vc6,Nat.zero_add]
 ·have hi:i<(wne f).length:=(Qzs.1 hw).1
  have hf:f≠[]:=Vcn fun e=>by rw [e] at hi;simp at hi
  rw [List.getElem?_range' hi] at hq
  simp at hq
  subst hq
  rw [Qzr (by omega),show d+1+i - pre.length=1+i by omega]
  unfold Xh
  rw [if_neg hf,List.cons_append,Nat.add_comm 1 i,List.getElem?_cons_succ,Qzl (by simpa using hi),Qzp,hw]
  rfl
theorem Xcw (n d s:Nat) (pre mid post:Za) (hd:pre.length=d) (hs:mid.length=s) (l:List Oyez.Place):ConfAt n (pre++(mid++(Xm l++post))) l (Vp (n+d) s l) (if l=[] then none else some (d+s)):=by
 refine ⟨?_⟩
 by_cases hl:l=[]
 ·rw [if_pos hl]
  exact ⟨by rw [Vp,if_pos hl],hl⟩
 ·rw [if_neg hl]
  refine ⟨by rw [Vp,if_neg hl,Nat.add_assoc],hl,?_⟩
  rw [Qzr (by omega),Qzr (by omega),show d+s - pre.length - mid.length=0 by omega]
  unfold Xm
  rw [if_neg hl]
  rfl
theorem Ufs (n d:Nat) (pre:Za) (hd:pre.length=d) (f:List Oyez.Rec) (l:List Oyez.Place) :
  ∃ m:List Nat,m.length=(Xh n 0 f++Xm l).length∧m.Nodup∧PwAt n m (pre++(Xh (n+d) 0 f++Xm l)) m (Xh n 0 f++Xm l)∧Rn n m (Yn (n+d) 0 f) (Yn n 0 f)∧Rn n m (Vp (n+d) (Xh (n+d) 0 f).length l) (Vp n (Xh n 0 f).length l):=by
 have h1:=Wez n d pre (Xm l) hd f
 have h2:=Xcw n d (Xh (n+d) 0 f).length pre (Xh (n+d) 0 f) [] hd rfl l
 rw [List.append_nil] at h2
 refine Xbt h1 h2 ?_
 have hlen:=Yeq (n+d) 0 f
 by_cases hf:f=[]
 ·have hw:wne f=[]:=by rw [hf];rfl
  rw [if_pos hf,hw]
  by_cases hl:l=[]<;>simp [hl]
 ·rw [if_neg hf] at hlen ⊢
  rw [hlen]
  have hr:(List.range' (d+1) (wne f).length).Nodup:=List.nodup_range'
  have e1:[d]++List.range' (d+1) (wne f).length=List.range' d ((wne f).length+1):=by rw [List.range'_succ];rfl
  by_cases hl:l=[]
  ·rw [if_pos hl]
   show ([d]++List.range' (d+1) (wne f).length++[]).Nodup
   rw [List.append_nil,e1]
   exact List.nodup_range'
  ·rw [if_neg hl]
   show ([d]++List.range' (d+1) (wne f).length++[d+((wne f).length+1)]).Nodup
   have e2:List.range' d ((wne f).length+1)++[d+((wne f).length+1)]=List.range' d ((wne f).length+1+1):=by
    rw [List.range'_concat (n:=(wne f).length+1),Nat.one_mul]
   rw [e1,e2]
   exact List.nodup_range'
theorem Whn (n s:Nat) (f:List Oyez.Rec) (S:Za):Ze Tryz.prog 57 (Yn n s f) S=some (.int .i64 f.length):=by
 unfold Yn
 split
 ·rename_i h;subst h;simp
 ·simp
def Up (a b c:List Oyez.Rec):Int:=if Oyez.check a≠0 then Oyez.check a else if Oyez.check b≠0 then Oyez.check b else Oyez.check c
def ckH (n:Nat) (a b c:List Oyez.Rec):Nat→Za
 | 0=>[]
 | 1=>Yp n a++[.cells [.ptr n 0],.cells [.ptr n 0]]
 | 2=>Yp n a++[.cells [.ptr n 0],.dead]++Yp (n+4) b++[.cells [.ptr (n+4) 0],.cells [.ptr n 0,.ptr (n+4) 0]]
 | _=>Yp n a++[.cells [.ptr n 0],.dead]++Yp (n+4) b++[.cells [.ptr (n+4) 0],.dead]++Yp (n+8) c++[.cells [.ptr (n+8) 0],.cells [.ptr n 0,.ptr (n+4) 0,.ptr (n+8) 0]]
def ckV (n:Nat):Nat→AV
 | 0=>.nils
 | 1=>.arr 1 (n+3) 0 1
 | 2=>.arr 1 (n+7) 0 2
 | _=>.arr 1 (n+11) 0 3
set_option maxHeartbeats 4000000 in
theorem Uc0 {σ:Za} {q:Nat} (a b c:List Oyez.Rec) (hq:σ[q]? = some (.cells [We a,We b,We c])) (ha:Few a) (hb:Few b) (hc:Few c) (hl:a.length≤2^40∧b.length≤2^40∧c.length≤2^40) :
  ACalls Tryz.prog 89 [.arr 1 q 0 3] σ fun v σ'=>(Up a b c≠0∧v=.tup [.nils,.int .i64 (Up a b c)]∧∃ g,σ'=σ++g)∨(Up a b c=0∧v=.tup [.arr 1 (σ.length+11) 0 3,.int .i64 0]∧σ'=σ++ckH σ.length a b c 3):=by
 have hql:=(Qzs.1 hq).1
 have hqa:∀ g:Za,(σ++g)[q]? = _:=fun g=>Vr hq
 refine Yb Tryz.func89 rfl (Va Tryz.func89 (by decide) rfl) ?_
 simp [Tryz.ntmps89]
 refine Vd (fun env σ'=>∃ (u:List AV) (i:Nat),env={ t:=u }∧u.length=26∧tg u 4=ckV σ.length i∧tg u 8=.arr 1 q 0 3∧tg u 9=.int .i64 3∧tg u 10=.int .i64 i∧σ'=σ++ckH σ.length a b c i∧i≤3∧(0<i→Oyez.check a=0)∧(1<i→Oyez.check b=0)∧(2<i→Oyez.check c=0))
  (fun env _=>match tg env.t 10 with | .int _ i=>3 - i.toNat | _=>0) ⟨_,0,rfl,by simp,by simp [ckV],by simp,by simp,by simp,by simp [ckH],by omega,by omega,by omega,by omega⟩ ?_
 rintro env _ ⟨u,i,rfl,hl',g4,g8,g9,g10,rfl,hi,h0,h1,h2⟩
 have ax:∀ n,(Yp n a).length=2∧(Yp n b).length=2∧(Yp n c).length=2:=fun n=>⟨rfl,rfl,rfl⟩
 have w1:=w64 (n:=(1:Int)) (by omega) (by omega)
 have w2:=w64 (n:=(2:Int)) (by omega) (by omega)
 have w3:=w64 (n:=(3:Int)) (by omega) (by omega)
 match i,hi with
 | 0,_ =>
  simp [hl',g4,g8,g9,g10,hqa,ckV,ckH,hq,w1,w2,w3]
  refine (Vam a ha).use ?_
  by_cases he:Oyez.check a=0
  ·simp [hl',g4,g8,g9,g10,hqa,ckV,ckH,hq,w1,w2,w3,he]
   have hs:=(Oyez.check_zero he).sorted
   refine StA.of ((Ybl a hs hl.1 _).mono ?_)
   rintro _ _ ⟨rfl,rfl⟩
   simp [hl',g4,g8,g9,g10,hqa,ckV,ckH,hq,w1,w2,w3,he,Yp]
   exact ⟨1,rfl,rfl,rfl,by omega,fun h=>by omega,fun h=>by omega⟩
  ·simp [hl',g4,g8,g9,g10,hqa,ckV,ckH,hq,w1,w2,w3,he]
   have e:Up a b c=Oyez.check a:=by simp [Up,he]
   rw [e]
   exact ⟨he,rfl⟩
 | 1,_ =>
  have ha0:=h0 (by omega)
  simp [hl',g4,g8,g9,g10,hqa,ckV,ckH,hq,w1,w2,w3,ha0]
  refine (Vam b hb).use ?_
  by_cases he:Oyez.check b=0
  ·simp [hl',g4,g8,g9,g10,hqa,ckV,ckH,hq,w1,w2,w3,he,ha0]
   have hs:=(Oyez.check_zero he).sorted
   refine StA.of ((Ybl b hs hl.2.1 _).mono ?_)
   rintro _ _ ⟨rfl,rfl⟩
   simp [hl',g4,g8,g9,g10,hqa,ckV,ckH,hq,w1,w2,w3,he,Yp,ha0]
   exact ⟨2,rfl,rfl,rfl,by omega,fun h=>by omega⟩
  ·simp [hl',g4,g8,g9,g10,hqa,ckV,ckH,hq,w1,w2,w3,he,ha0]
   have e:Up a b c=Oyez.check b:=by simp [Up,ha0,he]
   rw [e]
   exact ⟨he,rfl⟩
 | 2,_ =>
  have ha0:=h0 (by omega)
  have hb0:=h1 (by omega)
  simp [hl',g4,g8,g9,g10,hqa,ckV,ckH,hq,w1,w2,w3,ha0,hb0]
  refine (Vam c hc).use ?_
  by_cases he:Oyez.check c=0
  ·simp [hl',g4,g8,g9,g10,hqa,ckV,ckH,hq,w1,w2,w3,he,ha0,hb0]
   have hs:=(Oyez.check_zero he).sorted
   refine StA.of ((Ybl c hs hl.2.2 _).mono ?_)
   rintro _ _ ⟨rfl,rfl⟩
   simp [hl',g4,g8,g9,g10,hqa,ckV,ckH,hq,w1,w2,w3,he,Yp,ha0,hb0]
   exact ⟨3,rfl,rfl,rfl,by omega⟩
  ·simp [hl',g4,g8,g9,g10,hqa,ckV,ckH,hq,w1,w2,w3,he,ha0,hb0]
   have e:Up a b c=Oyez.check c:=by simp [Up,ha0,hb0,he]
   rw [e]
   exact ⟨he,rfl⟩
 | 3,_ =>
  have ha0:=h0 (by omega)
  have hb0:=h1 (by omega)
  have hc0:=h2 (by omega)
  simp [hl',g4,g8,g9,g10,hqa,ckV,ckH,hq]
  have e:Up a b c=0:=by simp [Up,ha0,hb0,hc0]
  exact e
end Ab
namespace Ab
open Go Go.RowKit Go.Proofs
attribute [local irreducible] aws awp aw1 Og Om Oc Oa Ogd Ov Ot awd Zb awh Xb Ogh Ohd awl Ogl Ohl awv Ogv Ohv Wb Vb QFn Ub QRo QBe ACode AYield
theorem Ygl {P:Program} {dst:Option Tmp} {ty:TypeId} {pos:String} {after:Array Edge} {g:Option (Nat × Bool)} {f:Fn} {xs ys:Array Operand} {Kv:AV→Prop} {env:Env} {σ:Za} :
  Zb P ⟨dst,.makeFunc f xs ys,ty,pos,after,g⟩ Kv env σ=Kv (.fn f (xs.toList.map (Wa env.t)) (ys.toList.map (Wa env.t))):=by
 have h:Zb P ⟨dst,.makeFunc f xs ys,ty,pos,after,g⟩ Kv env σ=aw1 P ⟨dst,.makeFunc f xs ys,ty,pos,after,g⟩ (fun v s=>s=σ∧Kv v) env σ:=Zq rfl rfl
 rw [h,Uca]
 simp
attribute [simp] Ygl
theorem Vgt {σ:Za} {t q:Nat} {d0 d1 d2:AV} (i:Nat) (h1:σ[t]? = some (.cells [.arr 1 q 0 3])) (h2:σ[q]? = some (.cells [d0,d1,d2])) (ho:d0.one=true) :
  ACalls Tryz.prog 142 [.int .i64 i,.ptr t 0] σ fun v s=>v=d0∧s=σ:=by
 refine Yb Tryz.func142 rfl (Va Tryz.func142 (by decide) rfl) ?_
 simp [Tryz.ntmps142,h1,h2]
def Xo (a b c:List Oyez.Rec):List Oyez.Rec × List Oyez.Place × Int :=
 if Up a b c≠0 then ([],[],Up a b c) else if 40<(Oyez.join a b c []).out.length then ([],[],2) else ((Oyez.join a b c []).out,(Oyez.join a b c []).conf.map Oyez.Chg.place,0)
theorem Ygd {n d:Nat} {pre:Za} (hd:pre.length=d) (f:List Oyez.Rec) (l:List Oyez.Place) (E:Int) :
  ∃ (x:List AObj) (m:List Nat),m.length=x.length∧m.Nodup∧(∀ (i:Nat) (o':AObj),x[i]? = some o'→∃ j,m[i]? = some j∧∃ o,(pre++(Xh (n+d) 0 f++Xm l))[j]? = some o∧ORn n m o o') ∧
   ∃ v',Rn n m (.tup [Yn (n+d) 0 f,Vp (n+d) (Xh (n+d) 0 f).length l,.int .i64 E]) v'∧v'=.tup [Yn n 0 f,Vp n (Xh n 0 f).length l,.int .i64 E]∧x=Xh n 0 f++Xm l:=by
 obtain ⟨m,m1,m2,m3,m4,m5⟩:=Ufs n d pre hd f l
 exact ⟨_,m,m1,m2,fun i o' h=>by obtain ⟨j,o,a1,a2,a3⟩:=m3 i o' h;exact ⟨j,a1,o,a2,a3⟩,.tup [Yn n 0 f,Vp n (Xh n 0 f).length l,.int .i64 E],.tup _ _ rfl (RnL.cons m4 (RnL.cons m5 (RnL.cons (.int _ _) (RnL.nil _ _)))).2,rfl,rfl⟩
set_option maxHeartbeats 8000000 in
theorem Yed (a b c:List Oyez.Rec) (ha:Few a) (hb:Few b) (hc:Few c) (hl:a.length≤2^38∧b.length≤2^38∧c.length≤2^38) (σ:Za) :
  ACalls Tryz.prog 59 [We a,We b,We c] σ fun v σ'=>v=.tup [Yn σ.length 0 (Xo a b c).1,Vp σ.length (Xh σ.length 0 (Xo a b c).1).length (Xo a b c).2.1,.int .i64 (Xo a b c).2.2] ∧
   σ'=σ++(Xh σ.length 0 (Xo a b c).1++Xm (Xo a b c).2.1):=by
 have hw:∀ r∈a++b++c,r.words.length≤2^40:=by
  intro r hr
  rcases List.mem_append.1 hr with hr | hr
  ·rcases List.mem_append.1 hr with hr | hr
   ·have:=(ha r hr).2;omega
   ·have:=(hb r hr).2;omega
  ·have:=(hc r hr).2;omega
 refine ACalls.canon ?_
 obtain ⟨R,hR⟩:∃ R,Xo a b c=R:=⟨_,rfl⟩
 rw [hR]
 unfold Xo at hR
 refine Yb Tryz.func59 rfl (Va Tryz.func59 (by decide) rfl) ?_
 simp [Tryz.ntmps59]
 refine StA.of ((Uc0 (σ:=σ++[.cells [We a,We b,We c]]) (q:=σ.length) a b c (by simp) ha hb hc (by omega)).mono ?_)
 rintro v σ' (⟨he,rfl,g,rfl⟩ | ⟨he,rfl,rfl⟩)
 ·rw [if_pos he] at hR
  subst hR
  simp [he]
  exact ⟨[],[],rfl,List.nodup_nil,fun i o' h=>by simp at h,.tup [.nils,.nils,.int .i64 (Up a b c)],.tup _ _ rfl (RnL.cons .nils (RnL.cons .nils (RnL.cons (.int _ _) (RnL.nil _ _)))).2,by simp [Yn,Vp],by simp [Xh,Xm]⟩
 ·rw [if_neg (by simp [he])] at hR
  have hlab:(a++b++c).length≤2^40:=by rw [List.length_append,List.length_append];omega
  simp [he,ckH,Yp]
  refine Vag [10] mixed (by kernel_rfl) ?_
  simp [-Ze,Nat.add_assoc]
  apply Xr
  case h =>
   refine Vel (base:=a) (a:=b) (b:=c) ?_ ?_ ?_ hlab hw [] 142 [.ptr (σ.length+13) 0] ?_
   ·exact ⟨σ.length+1,σ.length+2,rfl,by simp,by simp⟩
   ·exact ⟨σ.length+5,σ.length+6,rfl,by simp,by simp⟩
   ·exact ⟨σ.length+9,σ.length+10,rfl,by simp,by simp⟩
   ·intro g i hi
    refine ⟨.ptr (σ.length+1) 0,a,⟨σ.length+1,σ.length+2,rfl,by simp,by simp⟩,fun p=>rfl,?_⟩
    exact Vgt (q:=σ.length+12) (d0:=.ptr (σ.length+1) 0) (d1:=.ptr (σ.length+5) 0) (d2:=.ptr (σ.length+9) 0) i (by simp) (by simp) rfl
  obtain ⟨F,hF⟩:∃ F,(Oyez.join a b c []).out=F:=⟨_,rfl⟩
  obtain ⟨L,hL⟩:∃ L,(Oyez.join a b c []).conf.map Oyez.Chg.place=L:=⟨_,rfl⟩
  rw [hF,hL] at hR
  rw [hF,hL]
  have hF1:=Whn (σ.length+14) 0 F
  simp [-Ze,hF1]
  by_cases h40:40<F.length
  ·rw [if_pos h40] at hR
   subst hR
   have h40':(40:Int)<(F.length:Int):=by omega
   simp [-Ze,h40,h40']
   exact ⟨[],[],rfl,List.nodup_nil,fun i o' h=>by simp at h,.tup [.nils,.nils,.int .i64 2],.tup _ _ rfl (RnL.cons .nils (RnL.cons .nils (RnL.cons (.int _ _) (RnL.nil _ _)))).2,by simp [Yn,Vp],by simp [Xh,Xm]⟩
  ·rw [if_neg h40] at hR
   subst hR
   have h40':¬ (40:Int)<(F.length:Int):=by omega
   simp [-Ze,h40,h40']
   exact Ygd (pre:=[_,_,_,_,_,_,_,_,_,_,_,_,_,_]) rfl F L 0
end Ab
namespace Ab
open Go Go.RowKit Go.Proofs
attribute [local irreducible] aws awp aw1 Og Om Oc Oa Ogd Ov Ot awd Zb awh Xb Ogh Ohd awl Ogl Ohl awv Ogv Ohv Wb Vb QFn Ub QRo QBe ACode AYield
def Zic (a b c:List Oyez.Rec) (sec:List Bool):List Oyez.Rec × Int :=
 if Up a b c≠0 then ([],Up a b c) else if (Oyez.join a b c []).conf.length≠sec.length then ([],2) else if 40<(Oyez.join a b c sec).out.length then ([],2) else ((Oyez.join a b c sec).out,0)
end Ab

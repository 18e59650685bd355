/-
  Texts packed for a claim.
-/
import Derived.Test.YtdifgaapdnbliaaGreatDoorS00
import Derived.Test.YtdifgaapdnbliaaGreatDoorS21
import Derived.Test.YtdifgaapdnbliaaGreatDoorS27
set_option linter.all false
namespace Ab
open Go Go.RowKit Go.Proofs
attribute [local irreducible] aws awp aw1 Og Om Oc Oa Ogd Ov Ot awd Ub awh Xc Ogh Ohd awl Ogl Ohl awv Ogv Ohv Zc Wc QFn Zd QRo QBe ACode AYield
theorem Ze5 (d s:Nat):∀ k,(List.range' s k).map (d+·)=List.range' (d+s) k:=by
 intro k
 induction k generalizing s with
 | zero=>rfl
 | succ k ih=>rw [List.range'_succ,List.range'_succ,List.map_cons,ih,Nat.add_assoc]
theorem Yb1 (n s:Nat) (f:List Oyez.Rec):(Ye n s f).length=if f=[] then 0 else (wne f).length+1:=by
 unfold Ye
 split<;>simp
theorem Zb4 (n d:Nat) (pre post:Za) (hd:pre.length=d) (f:List Oyez.Rec):OwnAt n (pre++(Ye (n+d) 0 f++post)) f (Yi (n+d) 0 f) (if f=[] then none else some d) (List.range' (d+1) (wne f).length):=by
 refine ⟨?_,by simp,fun i q ws hq hw=>?_⟩
 ·by_cases hf:f=[]
  ·rw [if_pos hf]
   exact ⟨by rw [Yi,if_pos hf],hf⟩
  ·rw [if_neg hf]
   refine ⟨by rw [Yi,if_neg hf,Nat.add_zero],hf,?_⟩
   rw [Qzr (by omega),hd,Nat.sub_self]
   unfold Ye
   rw [if_neg hf,List.cons_append,List.getElem?_cons_zero,Vbo n d f _ (by simp),Ze5,Nat.zero_add]
 ·have hi:i<(wne f).length:=(Qzs.1 hw).1
  have hf:f≠[]:=Ze4 fun e=>by rw [e] at hi;simp at hi
  rw [List.getElem?_range' hi] at hq
  simp at hq
  subst hq
  rw [Qzr (by omega),show d+1+i - pre.length=1+i by omega]
  unfold Ye
  rw [if_neg hf,List.cons_append,Nat.add_comm 1 i,List.getElem?_cons_succ,Qzl (by simpa using hi),Qzp,hw]
  rfl
theorem Xej (n d s:Nat) (pre mid post:Za) (hd:pre.length=d) (hs:mid.length=s) (l:List Oyez.Place):ConfAt n (pre++(mid++(Zj l++post))) l (Xl (n+d) s l) (if l=[] then none else some (d+s)):=by
 refine ⟨?_⟩
 by_cases hl:l=[]
 ·rw [if_pos hl]
  exact ⟨by rw [Xl,if_pos hl],hl⟩
 ·rw [if_neg hl]
  refine ⟨by rw [Xl,if_neg hl,Nat.add_assoc],hl,?_⟩
  rw [Qzr (by omega),Qzr (by omega),show d+s - pre.length - mid.length=0 by omega]
  unfold Zj
  rw [if_neg hl]
  rfl
theorem Xdj (n d:Nat) (pre:Za) (hd:pre.length=d) (f:List Oyez.Rec) (l:List Oyez.Place) :
  ∃ m:List Nat,m.length=(Ye n 0 f++Zj l).length∧m.Nodup∧PwAt n m (pre++(Ye (n+d) 0 f++Zj l)) m (Ye n 0 f++Zj l)∧Rn n m (Yi (n+d) 0 f) (Yi n 0 f)∧Rn n m (Xl (n+d) (Ye (n+d) 0 f).length l) (Xl n (Ye n 0 f).length l):=by
 have h1:=Zb4 n d pre (Zj l) hd f
 have h2:=Xej n d (Ye (n+d) 0 f).length pre (Ye (n+d) 0 f) [] hd rfl l
 rw [List.append_nil] at h2
 refine Ybl h1 h2 ?_
 have hlen:=Yb1 (n+d) 0 f
 by_cases hf:f=[]
 ·have hw:wne f=[]:=by rw [hf];rfl
  rw [if_pos hf,hw]
  by_cases hl:l=[]<;>simp [hl]
 ·rw [if_neg hf] at hlen ⊢
  rw [hlen]
  have hr:(List.range' (d+1) (wne f).length).Nodup:=List.nodup_range'
  have e1:[d]++List.range' (d+1) (wne f).length=List.range' d ((wne f).length+1):=by rw [List.range'_succ];rfl
  by_cases hl:l=[]
  ·rw [if_pos hl]
   show ([d]++List.range' (d+1) (wne f).length++[]).Nodup
   rw [List.append_nil,e1]
   exact List.nodup_range'
  ·rw [if_neg hl]
   show ([d]++List.range' (d+1) (wne f).length++[d+((wne f).length+1)]).Nodup
   have e2:List.range' d ((wne f).length+1)++[d+((wne f).length+1)]=List.range' d ((wne f).length+1+1):=by
    rw [List.range'_concat (n:=(wne f).length+1),Nat.one_mul]
   rw [e1,e2]
   exact List.nodup_range'
theorem Zba (n s:Nat) (f:List Oyez.Rec) (S:Za):Vb Tryz.prog 23 (Yi n s f) S=some (.int .i64 f.length):=by
 unfold Yi
 split
 ·rename_i h;subst h;simp
 ·simp
theorem Yca (n s:Nat) (l:List Oyez.Place) (S:Za):Vb Tryz.prog 47 (Xl n s l) S=some (.int .i64 l.length):=by
 unfold Xl
 split
 ·rename_i h;subst h;simp
 ·simp
def Vj (a b c:List Oyez.Rec):Int:=if Oyez.check a≠0 then Oyez.check a else if Oyez.check b≠0 then Oyez.check b else Oyez.check c
def ckH (n:Nat) (a b c:List Oyez.Rec):Nat→Za
 | 0=>[]
 | 1=>Vg n a++[.cells [.ptr n 0],.cells [.ptr n 0]]
 | 2=>Vg n a++[.cells [.ptr n 0],.dead]++Vg (n+4) b++[.cells [.ptr (n+4) 0],.cells [.ptr n 0,.ptr (n+4) 0]]
 | _=>Vg n a++[.cells [.ptr n 0],.dead]++Vg (n+4) b++[.cells [.ptr (n+4) 0],.dead]++Vg (n+8) c++[.cells [.ptr (n+8) 0],.cells [.ptr n 0,.ptr (n+4) 0,.ptr (n+8) 0]]
def ckV (n:Nat):Nat→AV
 | 0=>.nils
 | 1=>.arr 1 (n+3) 0 1
 | 2=>.arr 1 (n+7) 0 2
 | _=>.arr 1 (n+11) 0 3
set_option maxHeartbeats 4000000 in
theorem Zbw {σ:Za} {q:Nat} (a b c:List Oyez.Rec) (hq:σ[q]? = some (.cells [Xa a,Xa b,Xa c])) (ha:Few a) (hb:Few b) (hc:Few c) (hl:a.length≤2^40∧b.length≤2^40∧c.length≤2^40) :
  ACalls Tryz.prog 99 [.arr 1 q 0 3] σ fun v σ'=>(Vj a b c≠0∧v=.tup [.nils,.int .i64 (Vj a b c)]∧∃ g,σ'=σ++g)∨(Vj a b c=0∧v=.tup [.arr 1 (σ.length+11) 0 3,.int .i64 0]∧σ'=σ++ckH σ.length a b c 3):=by
 have hql:=(Qzs.1 hq).1
 have hqa:∀ g:Za,(σ++g)[q]? = _:=fun g=>Vf hq
 refine Ua Tryz.func99 rfl (Wa Tryz.func99 (by decide) rfl) ?_
 simp [Tryz.ntmps99]
 refine Yc (fun env σ'=>∃ (u:List AV) (i:Nat),env={ t:=u }∧u.length=26∧tg u 4=ckV σ.length i∧tg u 8=.arr 1 q 0 3∧tg u 9=.int .i64 3∧tg u 10=.int .i64 i∧σ'=σ++ckH σ.length a b c i∧i≤3∧(0<i→Oyez.check a=0)∧(1<i→Oyez.check b=0)∧(2<i→Oyez.check c=0))
  (fun env _=>match tg env.t 10 with | .int _ i=>3 - i.toNat | _=>0) ⟨_,0,rfl,by simp,by simp [ckV],by simp,by simp,by simp,by simp [ckH],by omega,by omega,by omega,by omega⟩ ?_
 rintro env _ ⟨u,i,rfl,hl',g4,g8,g9,g10,rfl,hi,h0,h1,h2⟩
 have ax:∀ n,(Vg n a).length=2∧(Vg n b).length=2∧(Vg n c).length=2:=fun n=>⟨rfl,rfl,rfl⟩
 have w1:=w64 (n:=(1:Int)) (by omega) (by omega)
 have w2:=w64 (n:=(2:Int)) (by omega) (by omega)
 have w3:=w64 (n:=(3:Int)) (by omega) (by omega)
 match i,hi with
 | 0,_ =>
  simp [hl',g4,g8,g9,g10,hqa,ckV,ckH,hq,w1,w2,w3]
  refine (Vy a ha).use ?_
  by_cases he:Oyez.check a=0
  ·simp [hl',g4,g8,g9,g10,hqa,ckV,ckH,hq,w1,w2,w3,he]
   have hs:=(Oyez.check_zero he).sorted
   refine StA.of ((Ual a hs hl.1 _).mono ?_)
   rintro _ _ ⟨rfl,rfl⟩
   simp [hl',g4,g8,g9,g10,hqa,ckV,ckH,hq,w1,w2,w3,he,Vg]
   exact ⟨1,rfl,rfl,rfl,by omega,fun h=>by omega,fun h=>by omega⟩
  ·simp [hl',g4,g8,g9,g10,hqa,ckV,ckH,hq,w1,w2,w3,he]
   have e:Vj a b c=Oyez.check a:=by simp [Vj,he]
   rw [e]
   exact ⟨he,rfl⟩
 | 1,_ =>
  have ha0:=h0 (by omega)
  simp [hl',g4,g8,g9,g10,hqa,ckV,ckH,hq,w1,w2,w3,ha0]
  refine (Vy b hb).use ?_
  by_cases he:Oyez.check b=0
  ·simp [hl',g4,g8,g9,g10,hqa,ckV,ckH,hq,w1,w2,w3,he,ha0]
   have hs:=(Oyez.check_zero he).sorted
   refine StA.of ((Ual b hs hl.2.1 _).mono ?_)
   rintro _ _ ⟨rfl,rfl⟩
   simp [hl',g4,g8,g9,g10,hqa,ckV,ckH,hq,w1,w2,w3,he,Vg,ha0]
   exact ⟨2,rfl,rfl,rfl,by omega,fun h=>by omega⟩
  ·simp [hl',g4,g8,g9,g10,hqa,ckV,ckH,hq,w1,w2,w3,he,ha0]
   have e:Vj a b c=Oyez.check b:=by simp [Vj,ha0,he]
   rw [e]
   exact ⟨he,rfl⟩
 | 2,_ =>
  have ha0:=h0 (by omega)
  have hb0:=h1 (by omega)
  simp [hl',g4,g8,g9,g10,hqa,ckV,ckH,hq,w1,w2,w3,ha0,hb0]
  refine (Vy c hc).use ?_
  by_cases he:Oyez.check c=0
  ·simp [hl',g4,g8,g9,g10,hqa,ckV,ckH,hq,w1,w2,w3,he,ha0,hb0]
   have hs:=(Oyez.check_zero he).sorted
   refine StA.of ((Ual c hs hl.2.2 _).mono ?_)
   rintro _ _ ⟨rfl,rfl⟩
   simp [hl',g4,g8,g9,g10,hqa,ckV,ckH,hq,w1,w2,w3,he,Vg,ha0,hb0]
   exact ⟨3,rfl,rfl,rfl,by omega⟩
  ·simp [hl',g4,g8,g9,g10,hqa,ckV,ckH,hq,w1,w2,w3,he,ha0,hb0]
   have e:Vj a b c=Oyez.check c:=by simp [Vj,ha0,hb0,he]
   rw [e]
   exact ⟨he,rfl⟩
 | 3,_ =>
  have ha0:=h0 (by omega)
  have hb0:=h1 (by omega)
  have hc0:=h2 (by omega)
  simp [hl',g4,g8,g9,g10,hqa,ckV,ckH,hq]
  have e:Vj a b c=0:=by simp [Vj,ha0,hb0,hc0]
  exact e
end Ab
namespace Ab
open Go Go.RowKit Go.Proofs
attribute [local irreducible] aws awp aw1 Og Om Oc Oa Ogd Ov Ot awd Ub awh Xc Ogh Ohd awl Ogl Ohl awv Ogv Ohv Zc Wc QFn Zd QRo QBe ACode AYield
theorem Xc3 {P:Program} {dst:Option Tmp} {ty:TypeId} {pos:String} {after:Array Edge} {g:Option (Nat × Bool)} {f:Fn} {xs ys:Array Operand} {Kv:AV→Prop} {env:Env} {σ:Za} :
  Ub P ⟨dst,.makeFunc f xs ys,ty,pos,after,g⟩ Kv env σ=Kv (.fn f (xs.toList.map (Va env.t)) (ys.toList.map (Va env.t))):=by
 have h:Ub P ⟨dst,.makeFunc f xs ys,ty,pos,after,g⟩ Kv env σ=aw1 P ⟨dst,.makeFunc f xs ys,ty,pos,after,g⟩ (fun v s=>s=σ∧Kv v) env σ:=Vn rfl rfl
 rw [h,Vb4]
 simp
attribute [simp] Xc3
theorem Xdy {σ:Za} {t q:Nat} {d0 d1 d2:AV} (i:Nat) (h1:σ[t]? = some (.cells [.arr 1 q 0 3])) (h2:σ[q]? = some (.cells [d0,d1,d2])) (ho:d0.one=true) :
  ACalls Tryz.prog 101 [.int .i64 i,.ptr t 0] σ fun v s=>v=d0∧s=σ:=by
 refine Ua Tryz.func101 rfl (Wa Tryz.func101 (by decide) rfl) ?_
 simp [Tryz.ntmps101,h1,h2]
theorem Zel {σ:Za} {t q:Nat} {d0 d1 d2:AV} (i:Nat) (h1:σ[t]? = some (.cells [.arr 1 q 0 3])) (h2:σ[q]? = some (.cells [d0,d1,d2])) (ho:d0.one=true) :
  ACalls Tryz.prog 102 [.int .i64 i,.ptr t 0] σ fun v s=>v=d0∧s=σ:=by
 refine Ua Tryz.func102 rfl (Wa Tryz.func102 (by decide) rfl) ?_
 simp [Tryz.ntmps102,h1,h2]
theorem Yek {σ:Za} {t q p:Nat} {d0 d1 d2:AV} {sec:List Bool} (i:Nat) (hi:i<sec.length) (hp:σ[p]? = some (.cells [.pl 1 (sec.map AV.bool)])) (h1:σ[t]? = some (.cells [.arr 1 q 0 3])) (h2:σ[q]? = some (.cells [d0,d1,d2])) (ho:d1.one=true) (ho2:d2.one=true) :
  ACalls Tryz.prog 103 [.int .i64 i,.ptr p 0,.ptr t 0] σ fun v s=>v=(if sec[i] then d2 else d1)∧s=σ:=by
 refine Ua Tryz.func103 rfl (Wa Tryz.func103 (by decide) rfl) ?_
 have hi':(i:Int)<(sec.length:Int):=by omega
 cases hs:sec[i] with
 | true=>simp [Tryz.ntmps103,h1,h2,hp,hi,hi',hs]
 | false=>simp [Tryz.ntmps103,h1,h2,hp,hi,hi',hs]
def Yv (a b c:List Oyez.Rec):List Oyez.Rec × List Oyez.Place × Int :=
 if Vj a b c≠0 then ([],[],Vj a b c) else if 40<(Oyez.join a b c []).out.length then ([],[],2) else ((Oyez.join a b c []).out,(Oyez.join a b c []).conf.map Oyez.Chg.place,0)
theorem Vdm {n d:Nat} {pre:Za} (hd:pre.length=d) (f:List Oyez.Rec) (l:List Oyez.Place) (E:Int) :
  ∃ (x:List AObj) (m:List Nat),m.length=x.length∧m.Nodup∧(∀ (i:Nat) (o':AObj),x[i]? = some o'→∃ j,m[i]? = some j∧∃ o,(pre++(Ye (n+d) 0 f++Zj l))[j]? = some o∧ORn n m o o') ∧
   ∃ v',Rn n m (.tup [Yi (n+d) 0 f,Xl (n+d) (Ye (n+d) 0 f).length l,.int .i64 E]) v'∧v'=.tup [Yi n 0 f,Xl n (Ye n 0 f).length l,.int .i64 E]∧x=Ye n 0 f++Zj l:=by
 obtain ⟨m,m1,m2,m3,m4,m5⟩:=Xdj n d pre hd f l
 exact ⟨_,m,m1,m2,fun i o' h=>by obtain ⟨j,o,a1,a2,a3⟩:=m3 i o' h;exact ⟨j,a1,o,a2,a3⟩,.tup [Yi n 0 f,Xl n (Ye n 0 f).length l,.int .i64 E],.tup _ _ rfl (RnL.cons m4 (RnL.cons m5 (RnL.cons (.int _ _) (RnL.nil _ _)))).2,rfl,rfl⟩
set_option maxHeartbeats 8000000 in
theorem Zdz (a b c:List Oyez.Rec) (ha:Few a) (hb:Few b) (hc:Few c) (hl:a.length≤2^38∧b.length≤2^38∧c.length≤2^38) (σ:Za) :
  ACalls Tryz.prog 33 [Xa a,Xa b,Xa c] σ fun v σ'=>v=.tup [Yi σ.length 0 (Yv a b c).1,Xl σ.length (Ye σ.length 0 (Yv a b c).1).length (Yv a b c).2.1,.int .i64 (Yv a b c).2.2] ∧
   σ'=σ++(Ye σ.length 0 (Yv a b c).1++Zj (Yv a b c).2.1):=by
 have hw:∀ r∈a++b++c,r.words.length≤2^40:=by
  intro r hr
  rcases List.mem_append.1 hr with hr | hr
  ·rcases List.mem_append.1 hr with hr | hr
   ·have:=(ha r hr).2;omega
   ·have:=(hb r hr).2;omega
  ·have:=(hc r hr).2;omega
 refine ACalls.canon ?_
 obtain ⟨R,hR⟩:∃ R,Yv a b c=R:=⟨_,rfl⟩
 rw [hR]
 unfold Yv at hR
 refine Ua Tryz.func33 rfl (Wa Tryz.func33 (by decide) rfl) ?_
 simp [Tryz.ntmps33]
 refine StA.of ((Zbw (σ:=σ++[.cells [Xa a,Xa b,Xa c]]) (q:=σ.length) a b c (by simp) ha hb hc (by omega)).mono ?_)
 rintro v σ' (⟨he,rfl,g,rfl⟩ | ⟨he,rfl,rfl⟩)
 ·rw [if_pos he] at hR
  subst hR
  simp [he]
  exact ⟨[],[],rfl,List.nodup_nil,fun i o' h=>by simp at h,.tup [.nils,.nils,.int .i64 (Vj a b c)],.tup _ _ rfl (RnL.cons .nils (RnL.cons .nils (RnL.cons (.int _ _) (RnL.nil _ _)))).2,by simp [Yi,Xl],by simp [Ye,Zj]⟩
 ·rw [if_neg (by simp [he])] at hR
  have hlab:(a++b++c).length≤2^40:=by rw [List.length_append,List.length_append];omega
  simp [he,ckH,Vg]
  refine Xv [10] mixed (by kernel_rfl) ?_
  simp [-Vb,Nat.add_assoc]
  apply Vi
  case h =>
   refine Wbi (base:=a) (a:=b) (b:=c) ?_ ?_ ?_ hlab hw [] 101 [.ptr (σ.length+13) 0] ?_
   ·exact ⟨σ.length+1,σ.length+2,rfl,by simp,by simp⟩
   ·exact ⟨σ.length+5,σ.length+6,rfl,by simp,by simp⟩
   ·exact ⟨σ.length+9,σ.length+10,rfl,by simp,by simp⟩
   ·intro g i hi
    refine ⟨.ptr (σ.length+1) 0,a,⟨σ.length+1,σ.length+2,rfl,by simp,by simp⟩,fun p=>rfl,?_⟩
    exact Xdy (q:=σ.length+12) (d0:=.ptr (σ.length+1) 0) (d1:=.ptr (σ.length+5) 0) (d2:=.ptr (σ.length+9) 0) i (by simp) (by simp) rfl
  obtain ⟨F,hF⟩:∃ F,(Oyez.join a b c []).out=F:=⟨_,rfl⟩
  obtain ⟨L,hL⟩:∃ L,(Oyez.join a b c []).conf.map Oyez.Chg.place=L:=⟨_,rfl⟩
  rw [hF,hL] at hR
  rw [hF,hL]
  have hF1:=Zba (σ.length+14) 0 F
  simp [-Vb,hF1]
  by_cases h40:40<F.length
  ·rw [if_pos h40] at hR
   subst hR
   have h40':(40:Int)<(F.length:Int):=by omega
   simp [-Vb,h40,h40']
   exact ⟨[],[],rfl,List.nodup_nil,fun i o' h=>by simp at h,.tup [.nils,.nils,.int .i64 2],.tup _ _ rfl (RnL.cons .nils (RnL.cons .nils (RnL.cons (.int _ _) (RnL.nil _ _)))).2,by simp [Yi,Xl],by simp [Ye,Zj]⟩
  ·rw [if_neg h40] at hR
   subst hR
   have h40':¬ (40:Int)<(F.length:Int):=by omega
   simp [-Vb,h40,h40']
   exact Vdm (pre:=[_,_,_,_,_,_,_,_,_,_,_,_,_,_]) rfl F L 0
end Ab
namespace Ab
open Go Go.RowKit Go.Proofs
attribute [local irreducible] aws awp aw1 Og Om Oc Oa Ogd Ov Ot awd Ub awh Xc Ogh Ohd awl Ogl Ohl awv Ogv Ohv Zc Wc QFn Zd QRo QBe ACode AYield
def Zab (a b c:List Oyez.Rec) (sec:List Bool):List Oyez.Rec × Int :=
 if Vj a b c≠0 then ([],Vj a b c) else if (Oyez.join a b c []).conf.length≠sec.length then ([],2) else if 40<(Oyez.join a b c sec).out.length then ([],2) else ((Oyez.join a b c sec).out,0)
theorem Veb {n d:Nat} {pre post:Za} (hd:pre.length=d) (f:List Oyez.Rec) (E:Int) :
  ∃ (x:List AObj) (m:List Nat),m.length=x.length∧m.Nodup∧(∀ (i:Nat) (o':AObj),x[i]? = some o'→∃ j,m[i]? = some j∧∃ o,(pre++(Ye (n+d) 0 f++post))[j]? = some o∧ORn n m o o') ∧
   ∃ v',Rn n m (.tup [Yi (n+d) 0 f,.int .i64 E]) v'∧v'=.tup [Yi n 0 f,.int .i64 E]∧x=Ye n 0 f:=by
 obtain ⟨m,m1,m2,m3,m4,_⟩:=Ybl (Zb4 n d pre post hd f) (l:=[]) (v2:=.nils) (o2:=none) ⟨rfl,rfl⟩ (by
  by_cases hf:f=[]
  ·simp [hf,wne]
  ·simp only [hf,if_false]
   have e1:[d]++List.range' (d+1) (wne f).length=List.range' d ((wne f).length+1):=by rw [List.range'_succ];rfl
   show ([d]++List.range' (d+1) (wne f).length++[]).Nodup
   rw [List.append_nil,e1]
   exact List.nodup_range')
 have e:Ye n 0 f++Zj []=Ye n 0 f:=by simp [Zj]
 rw [e] at m1 m3
 exact ⟨_,m,m1,m2,fun i o' h=>by obtain ⟨j,o,a1,a2,a3⟩:=m3 i o' h;exact ⟨j,a1,o,a2,a3⟩,.tup [Yi n 0 f,.int .i64 E],.tup _ _ rfl (RnL.cons m4 (RnL.cons (.int _ _) (RnL.nil _ _))).2,rfl,rfl⟩
set_option maxHeartbeats 8000000 in
theorem Udb (a b c:List Oyez.Rec) (sec:List Bool) (ha:Few a) (hb:Few b) (hc:Few c) (hl:a.length≤2^38∧b.length≤2^38∧c.length≤2^38) (hs:sec.length≤2^40) (σ:Za) :
  ACalls Tryz.prog 34 [Xa a,Xa b,Xa c,.pl 1 (sec.map AV.bool)] σ fun v σ'=>v=.tup [Yi σ.length 0 (Zab a b c sec).1,.int .i64 (Zab a b c sec).2]∧σ'=σ++Ye σ.length 0 (Zab a b c sec).1:=by
 have hw:∀ r∈a++b++c,r.words.length≤2^40:=by
  intro r hr
  rcases List.mem_append.1 hr with hr | hr
  ·rcases List.mem_append.1 hr with hr | hr
   ·have:=(ha r hr).2;omega
   ·have:=(hb r hr).2;omega
  ·have:=(hc r hr).2;omega
 have hlab:(a++b++c).length≤2^40:=by rw [List.length_append,List.length_append];omega
 refine ACalls.canon ?_
 obtain ⟨R,hR⟩:∃ R,Zab a b c sec=R:=⟨_,rfl⟩
 rw [hR]
 unfold Zab at hR
 refine Ua Tryz.func34 rfl (Wa Tryz.func34 (by decide) rfl) ?_
 simp [Tryz.ntmps34]
 refine StA.of ((Zbw (σ:=σ++[.cells [.pl 1 (sec.map AV.bool)],.cells [Xa a,Xa b,Xa c]]) (q:=σ.length+1) a b c (by simp) ha hb hc (by omega)).mono ?_)
 rintro v σ' (⟨he,rfl,g,rfl⟩ | ⟨he,rfl,rfl⟩)
 ·rw [if_pos he] at hR
  subst hR
  simp [he]
  exact ⟨[],[],rfl,List.nodup_nil,fun i o' h=>by simp at h,.tup [.nils,.int .i64 (Vj a b c)],.tup _ _ rfl (RnL.cons .nils (RnL.cons (.int _ _) (RnL.nil _ _))).2,by simp [Yi],by simp [Ye]⟩
 ·rw [if_neg (by simp [he])] at hR
  simp [he,ckH,Vg]
  refine Xv [10] mixed (by kernel_rfl) ?_
  simp [-Vb,Nat.add_assoc]
  apply Vi
  case h =>
   refine Wbi (base:=a) (a:=b) (b:=c) ?_ ?_ ?_ hlab hw [] 102 [.ptr (σ.length+14) 0] ?_
   ·exact ⟨σ.length+2,σ.length+3,rfl,by simp,by simp⟩
   ·exact ⟨σ.length+6,σ.length+7,rfl,by simp,by simp⟩
   ·exact ⟨σ.length+10,σ.length+11,rfl,by simp,by simp⟩
   ·intro g i hi
    refine ⟨.ptr (σ.length+2) 0,a,⟨σ.length+2,σ.length+3,rfl,by simp,by simp⟩,fun p=>rfl,?_⟩
    exact Zel (q:=σ.length+13) (d0:=.ptr (σ.length+2) 0) (d1:=.ptr (σ.length+6) 0) (d2:=.ptr (σ.length+10) 0) i (by simp) (by simp) rfl
  obtain ⟨F0,hF0⟩:∃ F,(Oyez.join a b c []).out=F:=⟨_,rfl⟩
  obtain ⟨L0,hL0⟩:∃ L,(Oyez.join a b c []).conf.map Oyez.Chg.place=L:=⟨_,rfl⟩
  have hL0l:(Oyez.join a b c []).conf.length=L0.length:=by rw [← hL0,List.length_map]
  rw [hL0l] at hR
  rw [hF0,hL0]
  have hc1:=Yca (σ.length+15) (Ye (σ.length+15) 0 F0).length L0
  have hsl:∀ S:Za,Vb Tryz.prog 37 (.pl 1 (sec.map AV.bool)) S=some (.int .i64 sec.length):=fun S=>by simp
  simp [-Vb,hc1,hsl]
  by_cases hsec:L0.length=sec.length
  ·rw [if_neg (by simp [hsec])] at hR
   have hsec':(L0.length:Int)=(sec.length:Int):=by omega
   simp [-Vb,hc1,hsl,hsec,hsec']
   refine Xv [10] mixed (by kernel_rfl) ?_
   simp [-Vb,Nat.add_assoc]
   simp [-Vb,Nat.add_assoc,List.getElem?_cons_zero]
   apply Vi
   case h =>
    refine Wbi (base:=a) (a:=b) (b:=c) ?_ ?_ ?_ hlab hw sec 103 [.ptr σ.length 0,.ptr (σ.length+14) 0] ?_
    ·exact ⟨σ.length+2,σ.length+3,rfl,by simp,by simp⟩
    ·exact ⟨σ.length+6,σ.length+7,rfl,by simp,by simp⟩
    ·exact ⟨σ.length+10,σ.length+11,rfl,by simp,by simp⟩
    ·intro g i hi
     rw [Oyez.join_conf a b c sec [],hL0l,hsec] at hi
     refine ⟨if sec[i] then .ptr (σ.length+10) 0 else .ptr (σ.length+6) 0,if sec[i] then c else b,?_,fun p=>?_,?_⟩
     ·cases sec[i] with
      | true=>exact ⟨σ.length+10,σ.length+11,rfl,by simp,by simp⟩
      | false=>exact ⟨σ.length+6,σ.length+7,rfl,by simp,by simp⟩
     ·unfold Oyez.pickJ
      rw [Qze hi]
      cases sec[i]<;>rfl
     ·exact Yek (q:=σ.length+13) (p:=σ.length) (d0:=.ptr (σ.length+2) 0) (d1:=.ptr (σ.length+6) 0) (d2:=.ptr (σ.length+10) 0) i hi (by simp) (by simp) (by simp) rfl rfl
   obtain ⟨F,hF⟩:∃ F,(Oyez.join a b c sec).out=F:=⟨_,rfl⟩
   obtain ⟨L,hL⟩:∃ L,(Oyez.join a b c sec).conf.map Oyez.Chg.place=L:=⟨_,rfl⟩
   rw [hF] at hR
   rw [hF,hL]
   have hF1:∀ (m:Nat) (S:Za),Vb Tryz.prog 23 (Yi m 0 F) S=some (.int .i64 F.length):=fun m S=>Zba m 0 F S
   simp [-Vb,hF1]
   by_cases h40:40<F.length
   ·rw [if_pos h40] at hR
    subst hR
    have h40':(40:Int)<(F.length:Int):=by omega
    simp [-Vb,hF1,h40,h40']
    exact ⟨[],[],rfl,List.nodup_nil,fun i o' h=>by simp at h,.tup [.nils,.int .i64 2],.tup _ _ rfl (RnL.cons .nils (RnL.cons (.int _ _) (RnL.nil _ _))).2,by simp [Yi],by simp [Ye]⟩
   ·rw [if_neg h40] at hR
    subst hR
    have key:=Veb (n:=σ.length) (pre:=[.cells [.pl 1 (sec.map AV.bool)],.cells [Xa a,Xa b,Xa c]]++(ckH (σ.length+2) a b c 3++[.cells [.arr 1 (σ.length+13) 0 3]])++(Ye (σ.length+15) 0 F0++Zj L0)) (post:=Zj L) rfl F 0
    simp [ckH,Vg,Nat.add_assoc] at key
    have h40':¬ (40:Int)<(F.length:Int):=by omega
    simp [-Vb,hF1,h40,h40',Nat.add_assoc]
    exact key
  ·have hsec':¬ (L0.length:Int)=(sec.length:Int):=by omega
   rw [if_pos hsec] at hR
   subst hR
   simp [-Vb,hc1,hsl,hsec,hsec']
   exact ⟨[],[],rfl,List.nodup_nil,fun i o' h=>by simp at h,.tup [.nils,.int .i64 2],.tup _ _ rfl (RnL.cons .nils (RnL.cons (.int _ _) (RnL.nil _ _))).2,by simp [Yi],by simp [Ye]⟩
end Ab

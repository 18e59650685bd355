/-
  Texts packed for a claim.
-/
import Derived.Test.YtcoikmapjepdjaaGreatDoorE00
import Derived.Test.YtcoikmapjepdjaaGreatDoorE26
import Derived.Test.YtcoikmapjepdjaaGreatDoorE33
set_option linter.all false
namespace Ab
open Go Go.RowKit Go.Proofs
def Vo (cmp:List Nat→List Nat→Int) (rs:List (Int × List Int)) (acc:List Nat × Int) (s:Nat):List Nat × Int :=
 if acc.2<Ur rs (Xm rs.length s)∨Ur rs (Xm rs.length s)=acc.2∧((Xm rs.length s).length<acc.1.length∨(Xm rs.length s).length=acc.1.length∧cmp (Xm rs.length s) acc.1<0) then (Xm rs.length s,Ur rs (Xm rs.length s)) else acc
def Uw (cmp:List Nat→List Nat→Int) (rs:List (Int × List Int)):List Nat × Int:=(List.range (2^rs.length)).foldl (Vo cmp rs) ([],0)
theorem Udb (cmp:List Nat→List Nat→Int) (rs:List (Int × List Int)):∀ (l:List Nat) (acc:List Nat × Int),acc.2≤(l.foldl (Vo cmp rs) acc).2∧(∀ s∈l,Ur rs (Xm rs.length s)≤(l.foldl (Vo cmp rs) acc).2)∧((l.foldl (Vo cmp rs) acc).2=acc.2∨∃ s∈l,(l.foldl (Vo cmp rs) acc).2=Ur rs (Xm rs.length s)):=by
 intro l
 induction l with
 | nil=>intro acc;exact ⟨Int.le_refl _,fun s h=>(by cases h),.inl rfl⟩
 | cons x l ih =>
  intro acc
  rw [List.foldl_cons]
  obtain ⟨h1,h2,h3⟩:=ih (Vo cmp rs acc x)
  have hx:acc.2≤(Vo cmp rs acc x).2∧Ur rs (Xm rs.length x)≤(Vo cmp rs acc x).2∧((Vo cmp rs acc x).2=acc.2∨(Vo cmp rs acc x).2=Ur rs (Xm rs.length x)):=by
   unfold Vo
   split
   ·rename_i h
    refine ⟨?_,Int.le_refl _,.inr rfl⟩
    dsimp only
    rcases h with h | h<;>omega
   ·rename_i h
    refine ⟨Int.le_refl _,?_,.inl rfl⟩
    have:=fun h'=>h (.inl h')
    omega
  refine ⟨Int.le_trans hx.1 h1,fun s hs=>?_,?_⟩
  ·rcases List.mem_cons.1 hs with rfl | hs
   ·exact Int.le_trans hx.2.1 h1
   ·exact h2 s hs
  ·rcases h3 with h3 | ⟨s,hs,h3⟩
   ·rcases hx.2.2 with h | h
    ·exact .inl (h3.trans h)
    ·exact .inr ⟨x,by simp,h3.trans h⟩
   ·exact .inr ⟨s,by simp [hs],h3⟩
theorem Ubf:∀ (l:List Int) (n:Int),l.foldl (fun a b=>a+b) n=n+Zg l
 | [],n=>by simp [Zg]
 | x::l,n=>by
  unfold Zg
  rw [List.foldl_cons,List.foldl_cons,Ubf l (n+x),Ubf l (0+x)]
  omega
theorem Zaz (x:Int) (l:List Int):Zg (x::l)=x+Zg l:=by
 unfold Zg
 rw [List.foldl_cons,Ubf]
 unfold Zg
 omega
theorem Zbz:∀ l:List Int,(∀ x∈l,x=1)→Zg l=l.length
 | [],_=>rfl
 | x::l,h=>by rw [Zaz,Zbz l fun y hy=>h y (by simp [hy]),h x (by simp)];simp;omega
theorem Vbu {a b n:Int} (hb:0<b) (h:a≤n*b) (h0:0≤a):(a+b - 1).tdiv b≤n:=by
 rw [Int.tdiv_eq_ediv_of_nonneg (by omega)]
 have:(a+b - 1) / b<n+1:=by
  apply Int.ediv_lt_of_lt_mul hb
  rw [Int.add_mul];omega
 omega
theorem Xbv {a b n:Int} (hb:0<b) (h:(n - 1)*b<a) (h0:0≤a):n≤(a+b - 1).tdiv b:=by
 rw [Int.tdiv_eq_ediv_of_nonneg (by omega)]
 apply Int.le_ediv_of_mul_le hb
 rw [Int.sub_mul] at h
 omega
def Ze (r:Rl):List (Int × List Int):=r.ntcs.map fun x=>(1,x.men)
theorem Wcl (r:Rl) (i:Nat) (hi:i<r.ntcs.length):(Ze r)[i]? = some (1,Ue r i):=by
 unfold Ze Ue
 rw [Qzp,Qze hi]
 rfl
def Uv (r:Rl) (l:List Nat):List Nat:=(List.range 4).filter fun c:Nat=>l.any fun i=>decide ((c:Int)∈Ue r i)
theorem Wby (r:Rl) {l:List Nat} (hl:∀ i∈l,i<r.ntcs.length):Ur (Ze r) l=if (Uv r l).length=0 then 0 else ((l.length:Int)+(Uv r l).length - 1).tdiv (Uv r l).length:=by
 have h1:((Yao (Ze r) l).filter id).length=(Uv r l).length:=by
  unfold Yao Uv
  rw [List.filter_map,List.length_map]
  congr 1
  apply List.filter_congr
  intro c _
  show (l.any fun i=>((Ze r)[i]?.map fun r=>decide ((c:Int)∈r.2)).getD false)=_
  have:∀ L:List Nat,(∀ i∈L,i<r.ntcs.length)→(L.any fun i=>((Ze r)[i]?.map fun r=>decide ((c:Int)∈r.2)).getD false)=(L.any fun i=>decide ((c:Int)∈Ue r i)):=by
   intro L
   induction L with
   | nil=>intro _;rfl
   | cons i L ih =>
    intro h
    rw [List.any_cons,List.any_cons,ih fun j hj=>h j (by simp [hj]),Wcl r i (h i (by simp))]
    rfl
  exact this l hl
 have h2:Zg (l.map fun i=>((Ze r)[i]?.map Prod.fst).getD 0)=l.length:=by
  rw [Zbz _ fun x hx=>?_,List.length_map]
  obtain ⟨i,hi,rfl⟩:=List.mem_map.1 hx
  rw [Wcl r i (hl i hi)]
  rfl
 unfold Ur
 dsimp only
 rw [h1,h2]
 by_cases e:(Uv r l).length=0
 ·rw [if_pos (by omega),if_pos e]
 ·rw [if_neg (by omega),if_neg e]
theorem anyM_mem {r:Rl} {l:List Nat} {c:Nat}:c∈Uv r l↔c<4∧∃ i∈l,(c:Int)∈Ue r i:=by
 unfold Uv
 rw [List.mem_filter,List.mem_range,List.any_eq_true]
 simp
theorem setB_mem {K s i:Nat}:i∈Xm K s↔i<K∧s.testBit i=true:=by
 unfold Xm
 rw [List.mem_filter,List.mem_range]
theorem need_mem {M:Nat→List Int} {K:Nat} {A:List Int} {i:Nat}:i∈Xk M K A↔i<K∧∀ x∈M i,x∈A:=by
 unfold Xk
 rw [List.mem_filter,List.mem_range]
 simp
theorem Yb0 {r:Rl} (ok:r.Ok) {i:Nat} (hi:i<r.ntcs.length):Ue r i≠[]:=by
 obtain ⟨x,hx,hxo⟩:=Zag ok hi
 rw [Zx hx]
 intro e
 have h2:=hxo.le
 have h3:=hxo.t1
 rw [e] at h2
 simp at h2
 omega
theorem Vew (cmp:List Nat→List Nat→Int) {r:Rl} (ok:r.Ok) (h4:r.men≤4) (h1:∀ x∈r.ntcs,x.times=1) {n:Nat} {s:DS} (h:LeastN r n s):(Uw cmp (Ze r)).2=n:=by
 have hm1:=ok.m1
 have hlen:(Ze r).length=r.ntcs.length:=by simp [Ze]
 obtain ⟨g1,g2,g3⟩:=Udb cmp (Ze r) (List.range (2^(Ze r).length)) ([],0)
 obtain ⟨G,hG⟩:∃ G,(Uw cmp (Ze r)).2=G:=⟨_,rfl⟩
 rw [show ((List.range (2^(Ze r).length)).foldl (Vo cmp (Ze r)) ([],0)).2=G from hG] at g1 g2 g3
 rw [hG]
 dsimp only at g1 g3
 rw [hlen] at g2 g3
 have hub:∀ s,Ur (Ze r) (Xm r.ntcs.length s)≤n:=fun s=>by
  rw [Wby r fun i hi=>(setB_mem.1 hi).1]
  split
  ·omega
  ·rename_i hne
   refine Vbu (by omega) ?_ (by omega)
   have hA:∀ x∈(Uv r (Xm r.ntcs.length s)).map (fun c:Nat=>(c:Int)),0≤x∧x<r.men:=fun x hx=>by
    obtain ⟨c,hc,rfl⟩:=List.mem_map.1 hx
    obtain ⟨_,i,hi,hci⟩:=anyM_mem.1 hc
    have:=Vr ok i (setB_mem.1 hi).1 _ hci
    omega
   have:=h.most ok h1 hA
   rw [List.length_map] at this
   refine Int.le_trans (Int.ofNat_le.2 (Ws _ _ ?_ fun i hi=>?_)) this
   ·exact List.nodup_range.filter _
   ·have hi':=(setB_mem.1 hi).1
    refine need_mem.2 ⟨hi',fun x hx=>?_⟩
    have:=Vr ok i hi' x hx
    exact List.mem_map.2 ⟨x.toNat,anyM_mem.2 ⟨by omega,i,hi,by rw [show ((x.toNat:Nat):Int)=x by omega];exact hx⟩,by omega⟩
 have hle:G≤n:=by
  rcases g3 with g3 | ⟨s,_,g3⟩
  ·omega
  ·rw [g3];exact hub s
 have hge:(n:Int)≤G:=by
  rcases Nat.eq_zero_or_pos n with e | hn
  ·omega
  obtain ⟨A,a1,a2,a3,a4⟩:=h.tight ok h1 hn
  obtain ⟨s,s1,s2⟩:=Ybu (fun i=>decide (∀ x∈Ue r i,x∈A)) r.ntcs.length
  have hset:Xm r.ntcs.length s=Xk (Ue r) r.ntcs.length A:=by
   unfold Xm Xk
   apply List.filter_congr
   intro i hi
   exact s2 i (List.mem_range.1 hi)
  refine Int.le_trans ?_ (g2 s (List.mem_range.2 s1))
  rw [Wby r fun i hi=>(setB_mem.1 hi).1,hset]
  have hpos:0<(Xk (Ue r) r.ntcs.length A).length:=by
   have:0≤((n:Int) - 1)*(A.length:Int):=Int.mul_nonneg (by omega) (by omega)
   omega
  have hany:0<(Uv r (Xk (Ue r) r.ntcs.length A)).length:=by
   obtain ⟨i,hi⟩:=List.exists_mem_of_length_pos hpos
   obtain ⟨hiK,_⟩:=need_mem.1 hi
   obtain ⟨x,hx⟩:=List.exists_mem_of_ne_nil _ (Yb0 ok hiK)
   have:=Vr ok i hiK x hx
   exact List.length_pos_of_mem (anyM_mem.2 ⟨show x.toNat<4 by omega,i,hi,by rw [show ((x.toNat:Nat):Int)=x by omega];exact hx⟩)
  rw [if_neg (by omega)]
  refine Xbv (by omega) ?_ (by omega)
  have hsub:(Uv r (Xk (Ue r) r.ntcs.length A)).length≤A.length:=by
   have:=Ws ((Uv r (Xk (Ue r) r.ntcs.length A)).map fun c:Nat=>(c:Int)) A (Zaj (List.nodup_range.filter _) fun a _ b _ e=>by omega) fun x hx=>by
    obtain ⟨c,hc,rfl⟩:=List.mem_map.1 hx
    obtain ⟨_,i,hi,hci⟩:=anyM_mem.1 hc
    exact (need_mem.1 hi).2 _ hci
   rwa [List.length_map] at this
  refine Int.lt_of_le_of_lt ?_ a4
  exact Int.mul_le_mul_of_nonneg_left (Int.ofNat_le.2 hsub) (by omega)
 omega
def Yaa (r:Rl) (A:List Int):Int:=Zg (r.ntcs.map fun x=>let o:Int:=((x.men.filter fun m=>!(A.contains m)).length:Nat);if 0<x.times - o then x.times - o else 0)
theorem Ubc {r:Rl} (ok:r.Ok) (h1:∀ x∈r.ntcs,x.times=1) (A:List Int):Yaa r A=(Xk (Ue r) r.ntcs.length A).length:=by
 have key:∀ (L:List Ntc) (k:Nat),(∀ i,i<L.length→r.ntcs[k+i]? = L[i]?)→k+L.length≤r.ntcs.length→Zg (L.map fun x=>let o:Int:=((x.men.filter fun m=>!(A.contains m)).length:Nat);if 0<x.times - o then x.times - o else 0)=(((List.range' k L.length).filter fun i=>decide (∀ x∈Ue r i,x∈A)).length:Nat):=by
  intro L
  induction L with
  | nil=>intro k _ _;rfl
  | cons x L ih =>
   intro k hk hle
   have hx:r.ntcs[k]? = some x:=by have:=hk 0 (by simp);simpa using this
   have ht:=h1 x (Qzg hx)
   rw [List.map_cons,Zaz,ih (k+1) (fun i hi=>by have:=hk (i+1) (by simp;omega);rw [show k+(i+1)=k+1+i by omega] at this;simpa using this) (by simp at hle;omega),List.length_cons,List.range'_succ,List.filter_cons,Zx hx]
   have hmem:(x.men.filter fun m=>!(A.contains m))=[]↔∀ y∈x.men,y∈A:=by
    rw [List.filter_eq_nil_iff]
    constructor
    ·intro h y hy
     have:=h y hy
     simpa using this
    ·intro h y hy
     simp [h y hy]
   dsimp only
   rw [ht]
   by_cases e:∀ y∈x.men,y∈A
   ·rw [hmem.2 e,decide_eq_true e]
    simp
    omega
   ·rw [decide_eq_false e]
    have:0<(x.men.filter fun m=>!(A.contains m)).length:=List.length_pos_iff.2 fun h=>e (hmem.1 h)
    rw [if_neg (by omega)]
    simp
 have:=key r.ntcs 0 (fun i _=>by simp) (by simp)
 unfold Yaa
 rw [this]
 unfold Xk
 rw [List.range_eq_range']
def Yv (r:Rl) (l:List Int):Int:=(Yaa r l+(l.length:Int) - 1).tdiv l.length
def Vm (r:Rl) (acc:List Int × Int) (l:List Int):List Int × Int:=if acc.2<Yv r l then (l,Yv r l) else acc
def Vaa (men:Nat):List (List Int):=(List.range men).flatMap fun k=>Wq men 0 (k+1)
def Zad (r:Rl):List Int × Int:=(Vaa r.men.toNat).foldl (Vm r) ([],-1)
theorem Zf7 (r:Rl):∀ (L:List (List Int)) (acc:List Int × Int),acc.2≤(L.foldl (Vm r) acc).2∧(∀ l∈L,Yv r l≤(L.foldl (Vm r) acc).2)∧(L.foldl (Vm r) acc=acc∨∃ l∈L,L.foldl (Vm r) acc=(l,Yv r l)):=by
 intro L
 induction L with
 | nil=>intro acc;exact ⟨Int.le_refl _,fun s h=>(by cases h),.inl rfl⟩
 | cons x L ih =>
  intro acc
  rw [List.foldl_cons]
  obtain ⟨h1,h2,h3⟩:=ih (Vm r acc x)
  have hx:acc.2≤(Vm r acc x).2∧Yv r x≤(Vm r acc x).2∧(Vm r acc x=acc∨Vm r acc x=(x,Yv r x)):=by
   unfold Vm
   split
   ·exact ⟨by dsimp only;omega,Int.le_refl _,.inr rfl⟩
   ·exact ⟨Int.le_refl _,by omega,.inl rfl⟩
  refine ⟨Int.le_trans hx.1 h1,fun s hs=>?_,?_⟩
  ·rcases List.mem_cons.1 hs with rfl | hs
   ·exact Int.le_trans hx.2.1 h1
   ·exact h2 s hs
  ·rcases h3 with h3 | ⟨s,hs,h3⟩
   ·rcases hx.2.2 with h | h
    ·exact .inl (h3.trans h)
    ·exact .inr ⟨x,by simp,h3.trans h⟩
   ·exact .inr ⟨s,by simp [hs],h3⟩
theorem mem_tiAll {men:Nat} {l:List Int}:l∈Vaa men↔l.length≠0∧l.Pairwise (·<·)∧∀ x∈l,0≤x∧x<(men:Int):=by
 unfold Vaa
 rw [List.mem_flatMap]
 constructor
 ·rintro ⟨k,hk,h⟩
  obtain ⟨q1,q2,q3⟩:=mem_combs.1 h
  exact ⟨by omega,q2,fun x hx=>by have:=q3 x hx;omega⟩
 ·rintro ⟨h1,h2,h3⟩
  have hle:l.length≤men:=by
   have:=Ws (l.map Int.toNat) (List.range men) (Zaj (h2.imp fun {a b} h e=>by omega) fun x hx y hy e=>by have:=h3 x hx;have:=h3 y hy;omega) fun y hy=>by
    obtain ⟨x,hx,rfl⟩:=List.mem_map.1 hy
    have:=h3 x hx
    exact List.mem_range.2 (by omega)
   simpa using this
  exact ⟨l.length - 1,List.mem_range.2 (by omega),mem_combs.2 ⟨by omega,h2,fun x hx=>by have:=h3 x hx;omega⟩⟩
theorem Vd1 {r:Rl} (ok:r.Ok) (h1:∀ x∈r.ntcs,x.times=1) (hK:r.ntcs≠[]) {n:Nat} {s:DS} (h:LeastN r n s):(Zad r).1∈Vaa r.men.toNat∧(Zad r).2=n∧Yv r (Zad r).1=n:=by
 have hm1:=ok.m1
 have hKp:0<r.ntcs.length:=List.length_pos_iff.2 hK
 obtain ⟨g1,g2,g3⟩:=Zf7 r (Vaa r.men.toNat) ([],-1)
 have hub:∀ l∈Vaa r.men.toNat,Yv r l≤n:=fun l hl=>by
  obtain ⟨q1,q2,q3⟩:=mem_tiAll.1 hl
  unfold Yv
  rw [Ubc ok h1]
  exact Vbu (by omega) (h.most ok h1 fun x hx=>by have:=q3 x hx;omega) (by omega)
 have hn:1≤n:=by
  refine Nat.pos_of_ne_zero fun e=>?_
  subst e
  obtain ⟨q1,q2⟩:=h.share ok h1
  have:=q1.may 0 hKp
  have hb:=Vr ok 0 hKp _ this
  have h2:=q2 _ hb.1 (by omega)
  unfold ldA at h2
  have h3:0<((List.range r.ntcs.length).filter fun i=>(s.F i).headD 0 == (s.F 0).headD 0).length:=List.length_pos_of_mem (a:=0) (by rw [List.mem_filter];exact ⟨List.mem_range.2 hKp,by simp⟩)
  exact absurd h2 (Nat.not_le.2 h3)
 obtain ⟨A,a1,a2,a3,a4⟩:=h.tight ok h1 hn
 obtain ⟨B,hB⟩:∃ B,((List.range r.men.toNat).filter fun m:Nat=>decide ((m:Int)∈A)).map (fun m:Nat=>(m:Int))=B:=⟨_,rfl⟩
 have hBmem:∀ x,x∈B↔x∈A:=fun x=>by
  rw [← hB,List.mem_map]
  constructor
  ·rintro ⟨m,hm,rfl⟩
   rw [List.mem_filter] at hm
   exact of_decide_eq_true hm.2
  ·intro hx
   have:=a3 x hx
   exact ⟨x.toNat,by rw [List.mem_filter];exact ⟨List.mem_range.2 (by omega),decide_eq_true (by rw [show ((x.toNat:Nat):Int)=x by omega];exact hx)⟩,by omega⟩
 have hBs:B.Pairwise (·<·):=by
  rw [← hB]
  refine List.Pairwise.map _ (fun a b hab=>?_) (List.pairwise_lt_range.filter _)
  omega
 have hBl:B.length=A.length:=Nat.le_antisymm (Ws _ _ (hBs.imp fun {a b} h e=>by omega) fun x hx=>(hBmem x).1 hx) (Ws _ _ a1 fun x hx=>(hBmem x).2 hx)
 have hBn:Xk (Ue r) r.ntcs.length B=Xk (Ue r) r.ntcs.length A:=by
  unfold Xk
  apply List.filter_congr
  intro i _
  exact decide_eq_decide.2 ⟨fun h x hx=>(hBmem x).1 (h x hx),fun h x hx=>(hBmem x).2 (h x hx)⟩
 have hAp:0<A.length:=List.length_pos_iff.2 a2
 have hBv:(n:Int)≤Yv r B:=by
  unfold Yv
  rw [Ubc ok h1,hBn,hBl]
  exact Xbv (by omega) a4 (by omega)
 have hBt:B∈Vaa r.men.toNat:=mem_tiAll.2 ⟨by omega,hBs,fun x hx=>a3 x ((hBmem x).1 hx)⟩
 have hge:=Int.le_trans hBv (g2 B hBt)
 obtain ⟨G,hG⟩:∃ G,Zad r=G:=⟨_,rfl⟩
 rw [show (Vaa r.men.toNat).foldl (Vm r) ([],-1)=G from hG] at g1 g2 g3 hge
 rw [hG]
 rcases g3 with g3 | ⟨l,hl,g3⟩
 ·rw [g3] at hge;dsimp only at hge;omega
 ·have:=hub l hl
  rw [g3] at hge ⊢
  dsimp only at hge ⊢
  exact ⟨hl,by omega,by omega⟩
theorem Vb4 {r:Rl}:∀ (L:List Ntc) (k:Nat) (cs:List Int),(∀ i,i<L.length→r.ntcs[k+i]? = L[i]?)→ChF (L.map fun x=>((1:Int),x.men)) cs→cs.length=L.length∧∀ i c,cs[i]? = some c→c∈Ue r (k+i):=by
 intro L
 induction L with
 | nil=>intro k cs _ h;match cs,h with | [],_=>exact ⟨rfl,fun i c hc=>by simp at hc⟩
 | cons x L ih =>
  intro k cs hk h
  match cs,h with
  | c::cs,h =>
   have hx:r.ntcs[k]? = some x:=by have:=hk 0 (by simp);simpa using this
   obtain ⟨q1,q2⟩:=ih (k+1) cs (fun i hi=>by have:=hk (i+1) (by simp;omega);rw [show k+(i+1)=k+1+i by omega] at this;simpa using this) h.2
   refine ⟨by simp [q1],fun i d hd=>?_⟩
   cases i with
   | zero=>simp at hd;subst hd;rw [Nat.add_zero,Zx hx];exact h.1
   | succ i=>rw [show k+(i+1)=k+1+i by omega];exact q2 i d (by simpa using hd)
theorem Yeh {r:Rl} {f:Nat→Int}:∀ (L:List Ntc) (k:Nat),(∀ i,i<L.length→r.ntcs[k+i]? = L[i]?)→(∀ i,i<L.length→f (k+i)∈Ue r (k+i))→ChF (L.map fun x=>((1:Int),x.men)) ((List.range' k L.length).map f):=by
 intro L
 induction L with
 | nil=>intro k _ _;exact trivial
 | cons x L ih =>
  intro k hk h
  have hx:r.ntcs[k]? = some x:=by have:=hk 0 (by simp);simpa using this
  rw [List.length_cons,List.range'_succ,List.map_cons,List.map_cons]
  refine ⟨?_,ih (k+1) (fun i hi=>by have:=hk (i+1) (by simp;omega);rw [show k+(i+1)=k+1+i by omega] at this;simpa using this) fun i hi=>by have:=h (i+1) (by simp;omega);rw [show k+(i+1)=k+1+i by omega] at this;exact this⟩
  have:=h 0 (by simp)
  rwa [Nat.add_zero,Zx hx] at this
def Wci (f:List Int):Prop:=f.length=4∧∀ x∈f,0≤x
def fee0:List Int:=[0,0,0,0]
theorem Za0:Wci fee0:=⟨rfl,fun x hx=>by simp [fee0] at hx;omega⟩
theorem Vbw {r:Rl} (ok:r.Ok):TF (Zf r.men.toNat) Wci (Ze r):=by
 have hm1:=ok.m1
 refine ⟨fun f hf=>Wbz hf.2,fun x hx c hc f hf=>⟨by rw [Uy];exact hf.1,Xb8 ?_ hf.2⟩,fun x hx=>?_⟩
 ·obtain ⟨y,_,rfl⟩:=List.mem_map.1 hx
  exact Int.le_of_lt Int.zero_lt_one
 ·obtain ⟨y,hy,rfl⟩:=List.mem_map.1 hx
  obtain ⟨i,hi⟩:=List.getElem?_of_mem hy
  have:=Yb0 ok (Qzs.1 hi).1
  rwa [Zx hi] at this
theorem Var {r:Rl} (ok:r.Ok) (h4:r.men≤4) {cs:List Int} (h:ChF (Ze r) cs):(Vi (Ze r) cs fee0).length=4∧(∀ m:Nat,m<4→(Vi (Ze r) cs fee0)[m]? = some ((cs.filter fun c=>c == (m:Int)).length:Int))∧cs.length=r.ntcs.length∧Asg (Ue r) r.ntcs.length (fun i=>cs.getD i 0):=by
 obtain ⟨q1,q2⟩:=Vb4 (r:=r) r.ntcs 0 cs (fun i _=>by simp) h
 have hl:=Yaj (Ze r) cs fee0
 have hasg:Asg (Ue r) r.ntcs.length (fun i=>cs.getD i 0):=⟨fun i hi=>by
  have hi':i<cs.length:=by omega
  have:=q2 i cs[i] (Qze hi')
  rw [Nat.zero_add] at this
  rw [List.getD_eq_getElem?_getD,Qze hi']
  exact this⟩
 refine ⟨hl,fun m hm=>?_,q1,hasg⟩
 have:=Xc4 (Ze r) cs fee0 h (fun c hc=>by
  obtain ⟨i,hi⟩:=List.getElem?_of_mem hc
  have hi':=(Qzs.1 hi).1
  have h3:=q2 i c hi
  rw [Nat.zero_add] at h3
  have:=Vr ok i (by omega) c h3
  have:=ok.m1
  show 0≤c∧c<((4:Nat):Int)
  omega) (fun x hx=>by obtain ⟨y,_,rfl⟩:=List.mem_map.1 hx;rfl) m
 have hz:fee0.getD m 0=0:=by
  match m,hm with
  | 0,_=>rfl
  | 1,_=>rfl
  | 2,_=>rfl
  | 3,_=>rfl
 rw [hz,List.getD_eq_getElem?_getD,Qze (by rw [hl];exact hm)] at this
 rw [Qze (by rw [hl];exact hm)]
 rw [Option.getD_some,Int.zero_add] at this
 rw [this]
theorem Vcc (cs:List Int) (m:Int):ldA cs.length (fun i=>cs.getD i 0) m=(cs.filter fun c=>c == m).length:=by
 unfold ldA
 have:cs=(List.range cs.length).map fun i=>cs.getD i 0:=by
  apply List.ext_getElem?
  intro i
  rw [Qzp]
  rcases Qzn i cs.length with h | h
  ·rw [List.getElem?_range h,Qze h];simp [h]
  ·rw [List.getElem?_eq_none h,List.getElem?_eq_none (by simpa using h)];rfl
 conv=>rhs;rw [this,List.filter_map,List.length_map]
 rfl
theorem Ugj {k:Nat} {f:List Int} {b:Int} (hb:0≤b) (h:∀ m x,m<k→f[m]? = some x→x≤b):Zf k f≤b:=by
 unfold Zf
 by_cases e:f.take k=[]
 ·rw [e];exact hb
 ·obtain ⟨i,hi⟩:=List.getElem?_of_mem (Ubi e)
  rw [List.getElem?_take] at hi
  split at hi
  ·rename_i h2;exact h i _ h2 hi
  ·cases hi
theorem Ucx {k:Nat} {f:List Int} {m:Nat} {x:Int} (hm:m<k) (h:f[m]? = some x):x≤Zf k f:=by
 unfold Zf
 exact Xay (Qzg (i:=m) (by rw [List.getElem?_take,if_pos hm];exact h))
theorem Vb8 {r:Rl} (ok:r.Ok) (h4:r.men≤4) (h1:∀ x∈r.ntcs,x.times=1) {n:Nat} {s:DS} (h:LeastN r n s):Uh (Zf r.men.toNat) (Ze r) fee0=n:=by
 have hm1:=ok.m1
 have ht:=Vbw ok
 obtain ⟨b,hb⟩:∃ b,Uh (Zf r.men.toNat) (Ze r) fee0=b:=⟨_,rfl⟩
 rw [hb]
 have hle:b≤n:=by
  obtain ⟨q1,q2⟩:=h.share ok h1
  have hc:ChF (Ze r) ((List.range' 0 r.ntcs.length).map fun i=>(s.F i).headD 0):=Yeh (r:=r) r.ntcs 0 (fun i _=>by simp) fun i hi=>by rw [Nat.zero_add];exact q1.may i hi
  have:=Xeg (Ze r) fee0 _ ht Za0 hc
  rw [hb] at this
  refine Int.le_trans this (Ugj (by omega) fun m x hm hx=>?_)
  obtain ⟨p1,p2,p3,p4⟩:=Var ok h4 hc
  rw [p2 m (by omega)] at hx
  obtain rfl:=Option.some.inj hx
  have h5:=q2 (m:Int) (by omega) (by omega)
  unfold ldA at h5
  rw [List.filter_map,List.length_map,← List.range_eq_range']
  exact Int.ofNat_le.2 h5
 have hge:(n:Int)≤b:=by
  obtain ⟨q1,q2⟩:=Ubz (Ze r) fee0 ht Za0 hb
  obtain ⟨p1,p2,p3,p4⟩:=Var ok h4 q1
  have hb0:0≤b:=by rw [← hb];exact Vbe (Ze r) fee0 ht Za0
  obtain ⟨b',hb'⟩:∃ b':Nat,b=b':=⟨b.toNat,by omega⟩
  have:=h.low ok h1 p4 (b:=b') fun m h0 hm=>by
   rw [← p3,Vcc]
   have h6:=p2 m.toNat (by omega)
   rw [show ((m.toNat:Nat):Int)=m by omega] at h6
   have:=Ucx (k:=r.men.toNat) (by omega) h6
   rw [q2] at this
   omega
  omega
 omega
def Wi (cs:List Int):List (List Int):=cs.map fun m=>[m]
theorem Ub9 {r:Rl} (ok:r.Ok) (h1:∀ x∈r.ntcs,x.times=1) {cs:List Int} (h:ChF (Ze r) cs):ShOk r (Wi cs):=by
 obtain ⟨q1,q2⟩:=Vb4 (r:=r) r.ntcs 0 cs (fun i _=>by simp) h
 refine ⟨by simp [Wi,q1],fun i l n hl hn=>?_⟩
 unfold Wi at hl
 rw [Qzp,Qzm] at hl
 obtain ⟨c,hc,rfl⟩:=hl
 have:=q2 i c hc
 rw [Nat.zero_add,Zx hn] at this
 refine ⟨by rw [h1 n (Qzg hn)];rfl,by simp,fun x hx=>?_⟩
 rw [List.mem_singleton.1 hx];exact this
theorem Zb0:∀ (cs:List Int) (k:Nat),((Wi cs).mapIdx fun i l=>Ui (i+k) l).flatten=(cs.mapIdx fun i c=>(c.toNat,((i+k:Nat):Int)))
 | [],_=>rfl
 | c::cs,k=>by
  have ih:=Zb0 cs (k+1)
  have e:Wi (c::cs)=[c]::Wi cs:=rfl
  rw [e,List.mapIdx_cons,List.flatten_cons,List.mapIdx_cons]
  have h4:(List.mapIdx (fun i l=>Ui (i+1+k) l) (Wi cs))=List.mapIdx (fun i l=>Ui (i+(k+1)) l) (Wi cs):=by
   apply List.mapIdx_eq_mapIdx_iff.2
   intro i hi
   rw [show i+1+k=i+(k+1) by omega]
  have h5:(List.mapIdx (fun i c=>(c.toNat,((i+1+k:Nat):Int))) cs)=List.mapIdx (fun i c=>(c.toNat,((i+(k+1):Nat):Int))) cs:=by
   apply List.mapIdx_eq_mapIdx_iff.2
   intro i hi
   rw [show i+1+k=i+(k+1) by omega]
  rw [h4,h5,ih]
  simp [Ui]
theorem Xb6 (m:Nat):∀ (cs:List Int) (k:Nat),(∀ c∈cs,0≤c)→((cs.mapIdx fun i c=>(c.toNat,((i+k:Nat):Int))).filter fun p=>p.1 == m).length=(cs.filter fun c=>c == (m:Int)).length
 | [],_,_=>rfl
 | c::cs,k,h=>by
  have ih:=Xb6 m cs (k+1) fun x hx=>h x (by simp [hx])
  have h5:(List.mapIdx (fun i c=>(c.toNat,((i+1+k:Nat):Int))) cs)=List.mapIdx (fun i c=>(c.toNat,((i+(k+1):Nat):Int))) cs:=by
   apply List.mapIdx_eq_mapIdx_iff.2
   intro i hi
   rw [show i+1+k=i+(k+1) by omega]
  have hc:=h c (by simp)
  obtain ⟨X,hX⟩:∃ X,List.mapIdx (fun i c=>(c.toNat,((i+(k+1):Nat):Int))) cs=X:=⟨_,rfl⟩
  rw [List.mapIdx_cons,h5,List.filter_cons,List.filter_cons,hX]
  rw [hX] at ih
  by_cases e:c=(m:Int)
  ·have e':c.toNat=m:=by omega
   simp [e,e',ih]
  ·have e':¬ c.toNat=m:=by omega
   simp [e,e',ih]
theorem Zbs {cs:List Int} (h:∀ c∈cs,0≤c) (m:Nat):Uah (Wi cs) m=((cs.filter fun c=>c == (m:Int)).length:Int):=by
 unfold Uah shP
 have:=Zb0 cs 0
 simp only [Nat.add_zero] at this
 rw [show (List.mapIdx Ui (Wi cs))=List.mapIdx (fun i l=>Ui i l) (Wi cs) from rfl,this]
 have:=Xb6 m cs 0 h
 simp only [Nat.add_zero] at this
 rw [this]
theorem Wb2 {r:Rl} (ok:r.Ok) (h4:r.men≤4) {cs:List Int} (h:ChF (Ze r) cs):Zs r.men.toNat (Wi cs)=(Vi (Ze r) cs fee0).take r.men.toNat:=by
 have hm1:=ok.m1
 obtain ⟨p1,p2,p3,p4⟩:=Var ok h4 h
 have hpos:∀ c∈cs,0≤c:=fun c hc=>by
  obtain ⟨i,hi⟩:=List.getElem?_of_mem hc
  have hi':=(Qzs.1 hi).1
  have:=p4.may i (by omega)
  rw [List.getD_eq_getElem?_getD,hi] at this
  exact (Vr ok i (by omega) c this).1
 apply List.ext_getElem?
 intro m
 unfold Zs
 rw [Qzp,List.getElem?_take]
 by_cases hm:m<r.men.toNat
 ·rw [if_pos hm,List.getElem?_range hm,p2 m (by omega),Option.map_some,Zbs hpos]
 ·rw [if_neg hm,List.getElem?_eq_none (by simp;omega)];rfl
theorem Vhr {r:Rl} (ok:r.Ok) (h4:r.men≤4) (h1:∀ x∈r.ntcs,x.times=1) (hK:r.ntcs≠[]) {n:Nat} {s:DS} (h:LeastN r n s) {cs:List Int} (hc:ChF (Ze r) cs) :
  slotsOf r (Wi cs)=Uz (1::Zs r.men.toNat (Wi cs))∧(n:Int)≤slotsOf r (Wi cs)∧(Zf r.men.toNat (Vi (Ze r) cs fee0)=n→slotsOf r (Wi cs)=n):=by
 have hm1:=ok.m1
 have hKp:0<r.ntcs.length:=List.length_pos_iff.2 hK
 obtain ⟨p1,p2,p3,p4⟩:=Var ok h4 hc
 have hlf:=Wb2 ok h4 hc
 have ht:grt (r.ntcs.map Ntc.times)=1:=by
  have e1:grt (r.ntcs.map Ntc.times)≤1:=Wbm (by omega) fun x hx=>by
   obtain ⟨y,hy,rfl⟩:=List.mem_map.1 hx
   rw [h1 y hy];exact Int.le_refl _
  obtain ⟨y,hy⟩:=List.exists_mem_of_ne_nil _ hK
  have e2:1≤grt (r.ntcs.map Ntc.times):=by
   have:=Ua7 (List.mem_map.2 ⟨y,hy,rfl⟩:y.times∈r.ntcs.map Ntc.times)
   rw [h1 y hy] at this
   exact this
  omega
 obtain ⟨L,hL⟩:∃ L,Zs r.men.toNat (Wi cs)=L:=⟨_,rfl⟩
 have hs:slotsOf r (Wi cs)=if grt L<1 then 1 else grt L:=by unfold slotsOf;rw [ht,hL]
 have hmx:Uz (1::L)=if grt L<1 then 1 else grt L:=by
  have a1:(1:Int)≤Uz (1::L):=Xay (by simp)
  have a2:∀ x∈L,x≤Uz (1::L):=fun x hx=>Xay (by simp [hx])
  have a3:=Ubi (l:=1::L) (by simp)
  have a4:=Wbm (l:=L) (b:=Uz (1::L)) (by omega) a2
  rcases List.mem_cons.1 a3 with e | e
  ·rw [e] at a4 ⊢;split<;>omega
  ·have:=Ua7 e;split<;>omega
 have hpos:∀ c∈cs,0≤c∧c<r.men:=fun c hc=>by
  obtain ⟨i,hi⟩:=List.getElem?_of_mem hc
  have hi':=(Qzs.1 hi).1
  have:=p4.may i (by omega)
  rw [List.getD_eq_getElem?_getD,hi] at this
  have:=Vr ok i (by omega) c this
  omega
 have hload:∀ m:Nat,m<r.men.toNat→L[m]? = some ((cs.filter fun c=>c == (m:Int)).length:Int):=fun m hm=>by
  rw [← hL]
  unfold Zs
  rw [Qzp,List.getElem?_range hm,Option.map_some,Zbs fun c hc=>(hpos c hc).1]
 have hlow:(n:Int)≤if grt L<1 then 1 else grt L:=by
  obtain ⟨b,hb⟩:∃ b:Nat,(if grt L<1 then 1 else grt L)=(b:Int):=⟨(if grt L<1 then 1 else grt L).toNat,by split<;>omega⟩
  rw [hb]
  refine Int.ofNat_le.2 (h.low ok h1 p4 fun m h0 hm=>?_)
  rw [← p3,Vcc]
  have h6:=hload m.toNat (by omega)
  rw [show ((m.toNat:Nat):Int)=m by omega] at h6
  have:=Ua7 (Qzg h6)
  split at hb<;>omega
 refine ⟨by rw [hs,hL,hmx],by rw [hs];exact hlow,fun hm=>?_⟩
 rw [hs]
 have hn1:1≤n:=by
  refine Nat.pos_of_ne_zero fun e=>?_
  subst e
  obtain ⟨q1,q2⟩:=h.share ok h1
  have:=q1.may 0 hKp
  have hb:=Vr ok 0 hKp _ this
  have h2:=q2 _ hb.1 (by omega)
  unfold ldA at h2
  have h3:0<((List.range r.ntcs.length).filter fun i=>(s.F i).headD 0 == (s.F 0).headD 0).length:=List.length_pos_of_mem (a:=0) (by rw [List.mem_filter];exact ⟨List.mem_range.2 hKp,by simp⟩)
  exact absurd h2 (Nat.not_le.2 h3)
 have hg:grt L≤n:=Wbm (by omega) fun x hx=>by
  rw [← hm]
  unfold Zf
  rw [← hlf,hL]
  exact Xay hx
 split at hlow<;>omega
def Vl (cs:List Int) (m:Int):Nat:=(cs.filter fun c=>c == m).length
theorem Uby (b m:Int):∀ (cs:List Int) (i:Nat) (a:Int),cs[i]? = some a→Vl (cs.set i b) m+(if a=m then 1 else 0)=Vl cs m+(if b=m then 1 else 0)
 | [],_,_,h=>by simp at h
 | c::cs,0,a,h=>by
  simp at h
  subst h
  unfold Vl
  rw [List.set_cons_zero,List.filter_cons,List.filter_cons]
  by_cases e:c=m<;>by_cases e2:b=m<;>simp [e,e2]
 | c::cs,i+1,a,h=>by
  have ih:=Uby b m cs i a (by simpa using h)
  unfold Vl at ih ⊢
  rw [List.set_cons_succ,List.filter_cons,List.filter_cons]
  obtain ⟨X,hX⟩:∃ X,(cs.set i b).filter (fun c=>c == m)=X:=⟨_,rfl⟩
  obtain ⟨Y,hY⟩:∃ Y,cs.filter (fun c=>c == m)=Y:=⟨_,rfl⟩
  rw [hX,hY] at ih ⊢
  by_cases e:c=m
  ·simp [e];omega
  ·simp [e];omega
theorem Uhl {a b a' b':Nat} (h:b+1<a) (ha:a'+1=a) (hb:b'=b+1):a'*a'+b'*b'<a*a+b*b:=by
 obtain ⟨k,hk⟩:∃ k,a=b+2+k:=⟨a - (b+2),by omega⟩
 obtain rfl:a'=b+1+k:=by omega
 subst hk
 subst hb
 simp only [Nat.mul_add,Nat.add_mul,Nat.mul_comm k b]
 generalize b*b=x
 generalize b*k=y
 generalize k*k=z
 omega
def sqC (cs:List Int):Nat:=Vl cs 0*Vl cs 0+Vl cs 1*Vl cs 1+Vl cs 2*Vl cs 2+Vl cs 3*Vl cs 3
theorem Yel {cs:List Int} {i:Nat} {a b:Int} (h:cs[i]? = some a) (ha:0≤a∧a<4) (hb:0≤b∧b<4) (hlt:Vl cs b+1<Vl cs a):sqC (cs.set i b)<sqC cs:=by
 have hne:a≠b:=fun e=>by subst e;omega
 have key:∀ m,Vl (cs.set i b) m+(if a=m then 1 else 0)=Vl cs m+(if b=m then 1 else 0):=fun m=>Uby b m cs i a h
 have sa:Vl (cs.set i b) a+1=Vl cs a:=by have:=key a;rwa [if_pos rfl,if_neg (fun e=>hne e.symm)] at this
 have sb:Vl (cs.set i b) b=Vl cs b+1:=by have:=key b;rwa [if_pos rfl,if_neg hne] at this
 have so:∀ m,m≠a→m≠b→Vl (cs.set i b) m=Vl cs m:=fun m h1 h2=>by have:=key m;rwa [if_neg (fun e=>h1 e.symm),if_neg (fun e=>h2 e.symm)] at this
 have hs:=Uhl hlt sa sb
 have ha':a=0∨a=1∨a=2∨a=3:=by omega
 have hb':b=0∨b=1∨b=2∨b=3:=by omega
 have o0:=so 0
 have o1:=so 1
 have o2:=so 2
 have o3:=so 3
 clear key so
 unfold sqC
 rcases ha' with rfl | rfl | rfl | rfl<;>rcases hb' with rfl | rfl | rfl | rfl<;>first | exact absurd rfl hne | skip
 all_goals
  first
   | rw [o0 (by decide) (by decide)]
   | skip
  first
   | rw [o1 (by decide) (by decide)]
   | skip
  first
   | rw [o2 (by decide) (by decide)]
   | skip
  first
   | rw [o3 (by decide) (by decide)]
   | skip
  omega
end Ab

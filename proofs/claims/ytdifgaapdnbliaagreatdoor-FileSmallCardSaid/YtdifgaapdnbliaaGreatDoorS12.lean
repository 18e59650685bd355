/-
  Texts packed for a claim.
-/
import Derived.Test.YtdifgaapdnbliaaGreatDoorS00
import Derived.Test.YtdifgaapdnbliaaGreatDoorS11
set_option linter.all false
namespace Ab
open Go Go.Proofs
attribute [local irreducible] aws awp aw1 Og Om Oc Oa Ogd Ov Ot awd Ub Zc Wc QFn Zd ACode ACalls AYield
def Yal (f:List Oyez.Rec):Prop:=∀ r∈f,Yh r.words≤2^49∧r.words.length≤2^49
def Xu (f:List Oyez.Rec) (i:Nat):Option Oyez.Place:=if i=0 then none else (f[i - 1]?).map Oyez.Rec.place
set_option maxHeartbeats 4000000 in
set_option maxRecDepth 8000 in
theorem Uap (f:List Oyez.Rec) (hf:Yal f):APure Tryz.prog 30 [Xa f] (.int .i64 (Oyez.check f)):=by
 intro σ
 refine Ua Tryz.func30 rfl (Wa Tryz.func30 (by decide) rfl) ?_
 by_cases h40:40<f.length
 ·have h40':(40:Int)<(f.length:Int):=by omega
  have hE:Oyez.check f=2:=by unfold Oyez.check;rw [if_pos h40]
  simp [Tryz.ntmps30,h40',hE]
 ·have h40':¬ (40:Int)<(f.length:Int):=by omega
  have hE:Oyez.check f=Oyez.checkFrom none f:=by unfold Oyez.check;rw [if_neg h40]
  simp [Tryz.ntmps30,h40']
  refine Yc (fun env σ'=>∃ (u:List AV) (i:Nat),env={ t:=u }∧u.length=50∧tg u 0=Xa f∧tg u 3=.int .i64 i∧σ'=σ∧i≤f.length∧Oyez.checkFrom (Xu f i) (f.drop i)=Oyez.check f)
   (fun env _=>match tg env.t 3 with | .int _ i=>f.length - i.toNat | _=>0) ⟨_,0,rfl,by simp,by simp,by simp,rfl,by omega,by simp [Xu,hE]⟩ ?_
  rintro env σ' ⟨u,i,rfl,hl,g0,g3,rfl,hi,hd⟩
  rcases Qzn i f.length with hlt | hge
  ·have hlt':(i:Int)<(f.length:Int):=by omega
   have hdr:f.drop i=f[i]::f.drop (i+1):=List.drop_eq_getElem_cons hlt
   have hs:=hf _ (List.getElem_mem hlt)
   rw [hdr,Oyez.checkFrom] at hd
   simp [hl,g0,g3,hlt',hlt]
   refine (Xbd f[i] hs.1 hs.2).use ?_
   by_cases h0:Oyez.recErr f[i]=0
   ·rw [if_neg (by simpa using h0)] at hd
    simp [hl,g0,g3,h0]
    refine Zg mixed (by kernel_rfl) ?_
    cases i with
    | zero =>
     have hx1:IntKind.i64.wrap 1=1:=w64 (by omega) (by omega)
     simp [hl,g0,g3,hx1]
     refine ⟨⟨1,rfl,hlt,?_⟩,by omega⟩
     simpa [Xu,Qze hlt] using hd
    | succ j =>
     have hz':(0:Int)<(j:Int)+1:=by omega
     have hx:=w64 (n:=(j:Int)) (by omega) (by omega)
     have hx2:=w64 (n:=(j:Int)+1+1) (by omega) (by omega)
     have hj:j<f.length:=by omega
     have hj0:(0:Int)≤(j:Int)+1:=by omega
     have hj1:(j:Int)+1<(f.length:Int):=by omega
     have hp:Xu f (j+1)=some f[j].place:=by simp [Xu,hj]
     rw [hp] at hd
     simp [hl,g0,g3,hz',hlt,hx,hj,hj0,hj1]
     refine Wq (Uai _ _ _ _) ?_
     cases hb:f[j].place.lt f[j+1].place with
     | true =>
      simp [hl,g0,g3,hx2,show ((⟨f[j].kind,f[j].number⟩:Oyez.Place).lt ⟨f[j+1].kind,f[j+1].number⟩)=true from hb]
      refine ⟨⟨j+1+1,by simp,hlt,?_⟩,by omega⟩
      have hp2:Xu f (j+1+1)=some f[j+1].place:=by simp [Xu,hlt]
      rw [hp2,← hd]
      simp [hb]
     | false =>
      simp [hl,g0,g3,show ((⟨f[j].kind,f[j].number⟩:Oyez.Place).lt ⟨f[j+1].kind,f[j+1].number⟩)=false from hb]
      simpa [hb] using hd
   ·rw [if_pos (by simpa using h0)] at hd
    simp [hl,g0,g3,h0,← hd]
  ·have hge':¬ (i:Int)<(f.length:Int):=by omega
   rw [List.drop_eq_nil_of_le hge,Oyez.checkFrom] at hd
   simp [hl,g0,g3,hge',← hd]
end Ab
namespace Ab
open Go Go.Proofs
attribute [local irreducible] aws awp aw1 Og Om Oc Oa Ogd Ov Ot awd Ub Zc Wc QFn Zd ACode ACalls AYield
def Ys (x:Except (Nat × Int) Oyez.Rec):AV:=match x with
 | .ok r=>.tup [Yd r,.int .i64 0,.int .i64 0]
 | .error (w,e)=>.tup [Yd ⟨0,0,[]⟩,.int .i64 w,.int .i64 e]
theorem Zb8 {s w:List UInt8} (h:w∈Oyez.words s):w.length≤s.length:=by
 induction s generalizing w with
 | nil=>simp [Oyez.words,Oyez.splitAt] at h;subst h;simp
 | cons b t ih =>
  by_cases hb:b=32
  ·subst hb
   rw [Xa7] at h
   rcases List.mem_cons.1 h with rfl | h
   ·simp
   ·have:=ih h;simp;omega
  ·rw [Va1 b t hb] at h
   cases hx:Oyez.words t with
   | nil=>rw [hx] at h;simp [Yu] at h;subst h;simp
   | cons x r =>
    rw [hx] at h ih
    simp only [Yu,List.mem_cons] at h
    rcases h with rfl | h
    ·have:=ih (List.mem_cons_self);simp;omega
    ·have:=ih (List.mem_cons_of_mem _ h);simp;omega
theorem Xr (n:Nat) (σ:Za) (ws:List (List UInt8)):Fz n σ (.pl 1 (List.map AV.str ws)) (.pl 1 (List.map AV.str ws))↔True:=by
 refine ⟨fun _=>trivial,fun _=>.pl 1 _ fun i x hx j y hy=>?_⟩
 rw [Qzp,Qzm] at hx
 obtain ⟨w,_,rfl⟩:=hx
 cases j with
 | zero=>simp [AV.cells] at hy;subst hy;exact .str w
 | succ j=>simp [AV.cells] at hy
attribute [simp] Xr
set_option maxHeartbeats 1000000 in
set_option maxRecDepth 8000 in
theorem Vch (own:List UInt8) (fed:Bool) (line:Nat) (ho:own.length≤2^20):APure Tryz.prog 85 [.str own,.bool fed,.int .i64 line] (Ys (Oyez.readLine own fed line)):=by
 refine APure.of fun σ=>?_
 refine Ua Tryz.func85 rfl (Wa Tryz.func85 (by decide) rfl) ?_
 generalize hX:Oyez.readLine own fed line=X
 by_cases h40:40≤line
 ·have h40':(40:Int)≤(line:Int):=by omega
  have hE:X=.error (0,2):=by rw [← hX];unfold Oyez.readLine;rw [if_pos h40]
  subst hE
  simp [Tryz.ntmps85,h40',Ys]
 have h40':¬ (40:Int)≤(line:Int):=by omega
 by_cases h64:64<own.length
 ·have h64':(64:Int)<(own.length:Int):=by omega
  have hE:X=.error (0,10):=by rw [← hX];unfold Oyez.readLine;rw [if_neg h40,if_pos h64]
  subst hE
  simp [Tryz.ntmps85,h40',h64',Ys]
 have h64':¬ (64:Int)<(own.length:Int):=by omega
 cases fed with
 | false =>
  have hE:X=.error (0,11):=by rw [← hX];unfold Oyez.readLine;rw [if_neg h40,if_neg h64];rfl
  subst hE
  simp [Tryz.ntmps85,h40',h64',Ys]
 | true =>
 simp [Tryz.ntmps85,h40',h64']
 refine (Wce own ho).use ?_
 have hne:=Zao own
 have hml:∀ w∈Oyez.words own,w.length≤own.length:=fun w hw=>Zb8 hw
 have hwl:=Wcf own
 cases hW:Oyez.words own with
 | nil=>exact absurd hW hne
 | cons k t =>
 rw [hW] at hml hwl
 simp
 refine (Udw k).use ?_
 cases hk:Oyez.kindOf k with
 | none =>
  have hki:Xh k=-1:=by simp [Xh,hk]
  have hE:X=.error (0,12):=by rw [← hX];simp [Oyez.readLine,h40,h64,hW,hk]
  subst hE
  simp [hki,Ys]
 | some kind =>
 have hki:Xh k=kind:=by simp [Xh,hk]
 have hk0:¬ kind<0:=by
  unfold Oyez.kindOf at hk
  split at hk
  ·cases hk;decide
  ·split at hk
   ·cases hk;decide
   ·split at hk
    ·cases hk;decide
    ·split at hk
     ·cases hk;decide
     ·split at hk
      ·cases hk;decide
      ·cases hk
 cases t with
 | nil =>
  have hE:X=.error (1,11):=by rw [← hX];simp [Oyez.readLine,h40,h64,hW,hk]
  subst hE
  simp [hki,hk0,Ys]
 | cons n ws =>
 have hlen2:¬ ((ws.length:Int)+1+1<2):=by omega
 have hlen1:(1:Int)<(ws.length:Int)+1+1:=by omega
 have hval:APure Tryz.prog 94 [.str n,.int .i64 999] (.int .i64 (match Oyez.value n 999 with | some n=>n | none=>-1)):=Zbp n 999
 simp [hki,hk0,hlen2,hlen1]
 refine hval.use ?_
 cases hv:Oyez.value n 999 with
 | none =>
  have hE:X=.error (1,11):=by rw [← hX];simp [Oyez.readLine,h40,h64,hW,hk,hv]
  subst hE
  simp [Ys]
 | some num =>
 rw [hv] at hval
 have hn0:¬ ((num:Int)<0):=by omega
 simp [hn0,hlen1]
 refine hval.use ?_
 by_cases h6:6<ws.length
 ·have h6':(8:Int)<(ws.length:Int)+1+1:=by omega
  have hE:X=.error (8,2):=by rw [← hX];simp [Oyez.readLine,h40,h64,hW,hk,hv,h6]
  subst hE
  simp [h6',Ys]
 have h6':¬ (8:Int)<(ws.length:Int)+1+1:=by omega
 simp [h6']
 have hE:X=match Oyez.firstBad ws 2 with | some i=>.error (i,11) | none=>.ok ⟨kind,num,ws⟩:=by
  rw [← hX];simp [Oyez.readLine,h40,h64,hW,hk,hv,h6];rfl
 refine Yc (fun env σ'=>∃ (u:List AV) (m:Nat),env={ t:=u }∧u.length=71∧tg u 6=.ptr σ.length 0∧tg u 10=.ptr (σ.length+1) 0∧tg u 9=.pl 1 (AV.str k::AV.str n::List.map AV.str ws)∧tg u 11=.int .i64 ((m:Int)+2) ∧
   σ'=σ++[.cells [.int .i64 0,.int .i64 0,.nils],.cells [.int .i64 kind,.int .i64 num,.nils]]∧m≤ws.length∧Oyez.firstBad (ws.drop m) (m+2)=Oyez.firstBad ws 2)
  (fun env _=>match tg env.t 11 with | .int _ i=>ws.length+2 - i.toNat | _=>0) ⟨_,0,rfl,by simp,by simp,by simp,by simp,by simp,rfl,by omega,rfl⟩ ?_
 rintro env σ' ⟨u,m,rfl,hl,g6,g10,g9,g11,rfl,hm,hd⟩
 rcases Qzn m ws.length with hlt | hge
 ·have hlt':(m:Int)+2<(ws.length:Int)+1+1:=by omega
  have hm0:(0:Int)≤(m:Int)+2:=by omega
  have hm2:((m:Int)+2).toNat=m+2:=by omega
  have hdr:ws.drop m=ws[m]::ws.drop (m+1):=List.drop_eq_getElem_cons hlt
  have hwl2:=hml ws[m] (by simp)
  rw [hdr,Oyez.firstBad] at hd
  simp [hl,g6,g10,g9,g11,hlt',hm0,hm2,hlt]
  refine (Ucm ws[m] (by omega)).use ?_
  cases hw:Oyez.word ws[m] with
  | true =>
   rw [hw,if_pos rfl] at hd
   have hx:=w64 (n:=(m:Int)+2+1) (by omega) (by omega)
   simp [hl,g6,g10,g9,g11,hx]
   exact ⟨⟨m+1,by omega,hlt,hd⟩,by omega⟩
  | false =>
   rw [hw,if_neg (by simp)] at hd
   rw [← hd] at hE
   subst hE
   simp [hl,g6,g10,g9,g11,Ys]
 ·have hge':¬ (m:Int)+2<(ws.length:Int)+1+1:=by omega
  rw [List.drop_eq_nil_of_le hge,Oyez.firstBad] at hd
  rw [← hd] at hE
  subst hE
  have h2:(2:Int)≤(ws.length:Int)+1+1:=by omega
  simp [hl,g6,g10,g9,g11,hge',h2,Ys]
end Ab
namespace Ab
open Go Go.Proofs
attribute [local irreducible] aws awp aw1 Og Om Oc Oa Ogd Ov Ot awd Ub Zc Wc QFn Zd ACode ACalls AYield
def Yw (p:Oyez.Parsed):AV:=.tup [Xa p.recs,.int .i64 p.line,.int .i64 p.word,.int .i64 p.err]
def Uf (r:Oyez.Rec):List AV:=[.int .i64 r.kind,.int .i64 r.number,Zb r.words]
theorem War (f:List Oyez.Rec) (i j:Nat) (h:i<f.length) (hj:j<3):((f.map Yd).flatMap AV.cells)[i*3+j]? = (Uf f[i])[j]?:=by
 have:=flat_get (f.map Yd) (k:=3) (fun x hx=>by obtain ⟨r,_,rfl⟩:=List.mem_map.1 hx;rfl) (by decide) (i*3+j)
 rw [this,show (i*3+j) / 3=i by omega,show (i*3+j) % 3=j by omega]
 simp [h,Uf,AV.cells]
theorem Ubh {own:List UInt8} {fed:Bool} {n:Nat} {r:Oyez.Rec} (h:Oyez.readLine own fed n=.ok r):n<40∧own.length≤64∧fed=true:=by
 unfold Oyez.readLine at h
 split at h
 ·cases h
 ·split at h
  ·cases h
  ·split at h
   ·cases h
   ·rename_i h1 h2 h3
    refine ⟨by omega,by omega,?_⟩
    cases fed<;>simp_all
def cutAt (s:List UInt8):List UInt8:=(Oyez.cutLine s).2.2
theorem Ves (s:List UInt8) (e:Nat) (h1:∀ i,i<e→s[i]?≠some 10) (h2:e≤s.length) (h3:e=s.length∨s[e]? = some 10) :
  (Oyez.cutLine s).1=s.take e∧(Oyez.cutLine s).2.1=decide (e<s.length)∧(Oyez.cutLine s).2.2=s.drop (e+1):=by
 induction s generalizing e with
 | nil =>
  have:e=0:=by simpa using h2
  subst this
  simp [Oyez.cutLine]
 | cons b t ih =>
  cases e with
  | zero =>
   rcases h3 with h3 | h3
   ·simp at h3
   ·simp at h3
    subst h3
    simp [Oyez.cutLine]
  | succ e =>
   have hb:b≠10:=fun x=>h1 0 (by omega) (by simp [x])
   obtain ⟨g1,g2,g3⟩:=ih e (fun i hi=>by simpa using h1 (i+1) (by omega)) (by simpa using h2) (by simpa using h3)
   unfold Oyez.cutLine
   rw [if_neg hb,g1,g2,g3]
   simp
theorem Acc.more {σ g:Za} {k:Nat} {v:AV} {l:List AV} {o:Option Nat} (h:Acc σ g k v l o) (y:Za):Acc σ (g++y) k v l o:=⟨h.len,by
 have:=h.val
 cases o with
 | none=>exact this
 | some j=>exact ⟨this.1,by rw [Qzl (Qzs.1 this.2).1];exact this.2⟩⟩
def glue (f:List Oyez.Rec) (p:Oyez.Parsed):Oyez.Parsed:=if p.err=0 then ⟨f++p.recs,0,0,0⟩ else p
theorem Yar {own:List UInt8} {fed:Bool} {n:Nat} {w:Nat} {e:Int} (h:Oyez.readLine own fed n=.error (w,e)):e≠0:=by
 unfold Oyez.readLine at h
 repeat' split at h
 all_goals first
  | (cases h;decide)
  | cases h
theorem Ydb:∀ (l:List (Oyez.S × Bool)) (p:Option Oyez.Place) (n:Nat),(Oyez.parseLines l p n).err=0→(Oyez.parseLines l p n).line=0∧(Oyez.parseLines l p n).word=0:=by
 intro l
 induction l with
 | nil=>intro p n _;exact ⟨rfl,rfl⟩
 | cons x t ih =>
  intro p n h
  obtain ⟨own,ended⟩:=x
  rw [Oyez.parseLines] at h ⊢
  split at h
  ·rename_i w e he
   exact absurd h (Yar he)
  ·rename_i r hr
   simp only at h ⊢
   split at h
   ·cases h
   ·rename_i h2
    rw [if_neg h2]
    split at h
    ·rename_i h3;rw [if_pos h3];exact ⟨rfl,rfl⟩
    ·rename_i h3;exact absurd h h3
theorem Xcd (s:List UInt8):glue [] (Oyez.parse s)=Oyez.parse s:=by
 unfold glue
 split
 ·rename_i h
  have:=Ydb _ _ _ h
  unfold Oyez.parse at h ⊢
  generalize Oyez.parseLines (Oyez.linesOf s) none 0=p at *
  obtain ⟨a,b,c,d⟩:=p
  simp_all
 ·rfl
def Xq (f:List Oyez.Rec):Option Oyez.Place:=f.getLast?.map Oyez.Rec.place
def Xaq (s:List UInt8) (at_:Nat) (f:List Oyez.Rec):Oyez.Parsed:=glue f (Oyez.parseLines (Oyez.linesOf (s.drop at_)) (Xq f) f.length)
theorem Zdd {s:List UInt8} {at_:Nat} (h:s.length≤at_) (f:List Oyez.Rec):Xaq s at_ f=⟨f,0,0,0⟩:=by
 unfold Xaq
 rw [List.drop_eq_nil_of_le h]
 simp [Oyez.linesOf,Oyez.parseLines,glue]
theorem Xcq {s:List UInt8} {at_ e:Nat} (h:at_<s.length) (f:List Oyez.Rec) (ha:at_≤e) (h1:∀ i,at_≤i→i<e→s[i]?≠some 10) (h2:e≤s.length) (h3:e=s.length∨s[e]? = some 10) :
  Xaq s at_ f=match Oyez.readLine ((s.take e).drop at_) (decide (e<s.length)) f.length with
   | .error (w,x)=>⟨[],f.length,w,x⟩
   | .ok r=>if (Xq f).all (fun q=>q.lt r.place)=false then ⟨[],f.length,1,4⟩ else Xaq s (e+1) (f++[r]):=by
 obtain ⟨g1,g2,g3⟩:=Ves (s.drop at_) (e - at_) (fun i hi=>by rw [List.getElem?_drop];exact h1 _ (by omega) (by omega)) (by rw [List.length_drop];omega)
  (by rw [List.length_drop,List.getElem?_drop,show at_+(e - at_)=e by omega];rcases h3 with h3 | h3
      · exact .inl (by omega)
      · exact .inr h3)
 have hne:s.drop at_≠[]:=fun x=>by have:=congrArg List.length x;rw [List.length_drop] at this;simp at this;omega
 obtain ⟨b,t,hbt⟩:=List.exists_cons_of_ne_nil hne
 have e1:(s.drop at_).take (e - at_)=(s.take e).drop at_:=by rw [List.drop_take]
 have e2:decide (e - at_<(s.drop at_).length)=decide (e<s.length):=by rw [List.length_drop];congr 1;rw [eq_iff_iff];omega
 have e3:(s.drop at_).drop (e - at_+1)=s.drop (e+1):=by rw [List.drop_drop];congr 1;omega
 rw [e1] at g1
 rw [e2] at g2
 rw [e3] at g3
 unfold Xaq
 rw [hbt] at g1 g2 g3 ⊢
 rw [Oyez.linesOf_cut,g1,g2,g3,Oyez.parseLines]
 cases hr:Oyez.readLine ((s.take e).drop at_) (decide (e<s.length)) f.length with
 | error x =>
  obtain ⟨w,x⟩:=x
  have:=Yar hr
  simp [glue,this]
 | ok r =>
  simp only
  cases hl:(Xq f).all (fun q=>q.lt r.place) with
  | false=>simp [glue]
  | true =>
   have hlp:Xq (f++[r])=some r.place:=by simp [Xq]
   rw [hlp,List.length_append]
   simp only [Bool.true_eq_false,if_false,List.length_cons,List.length_nil]
   unfold glue
   split
   ·simp
   ·rfl
end Ab
namespace Ab
open Go Go.Proofs
attribute [local irreducible] aws awp aw1 Og Om Oc Oa Ogd Ov Ot awd Ub Zc Wc QFn Zd ACode ACalls AYield
set_option maxHeartbeats 4000000 in
set_option maxRecDepth 8000 in
theorem Yc7 (s:List UInt8) (hs:s.length≤2^20):APure Tryz.prog 18 [.str s] (Yw (Oyez.parse s)):=by
 refine APure.of fun σ=>?_
 refine Ua Tryz.func18 rfl (Wa Tryz.func18 (by decide) rfl) ?_
 simp [Tryz.ntmps18]
 refine Yc (fun env σ'=>∃ (u:List AV) (i:Nat) (v:AV) (f:List Oyez.Rec) (g:Za) (o:Option Nat),env={ t:=u }∧u.length=84∧tg u 0=.str s∧tg u 8=.int .i64 i∧tg u 6=v∧tg u 7=.int .i64 f.length ∧
   σ'=σ++g∧Acc σ g 3 v (f.map Yd) o∧i≤s.length+1∧f.length≤40∧Xaq s i f=Oyez.parse s)
  (fun env _=>match tg env.t 8 with | .int _ i=>s.length+1 - i.toNat | _=>0) ⟨_,0,.nils,[],[],none,rfl,by simp,by simp,by simp,by simp,by simp,by simp,Acc.nil _ _ _,by omega,by simp,?_⟩ ?_
 ·rw [← Xcd];rfl
 rintro env σ' ⟨u,i,v,f,g,o,rfl,hl,g0,g8,g6,g7,rfl,hA,hi,hf40,hd⟩
 rcases Qzn i s.length with hlt | hge
 ·have hlt':(i:Int)<(s.length:Int):=by omega
  simp [hl,g0,g8,g6,g7,hlt']
  refine Yc (fun env σ'=>∃ (u:List AV) (e:Nat),env={ t:=u }∧u.length=84∧tg u 0=.str s∧tg u 8=.int .i64 i∧tg u 6=v∧tg u 7=.int .i64 f.length∧tg u 9=.int .i64 e∧σ'=σ++g∧i≤e∧e≤s.length∧∀ j,i≤j→j<e→s[j]?≠some 10)
   (fun env _=>match tg env.t 9 with | .int _ i=>s.length - i.toNat | _=>0) ⟨_,i,rfl,by simp [hl],by simp [hl,g0],by simp [hl,g8],by simp [hl,g6],by simp [hl,g7],by simp [hl],rfl,by omega,by omega,fun j h1 h2=>by omega⟩ ?_
  clear g0 g8 g6 g7 hl u
  rintro env σ' ⟨u,e,rfl,hl,g0,g8,g6,g7,g9,rfl,hie,hes,hno⟩
  by_cases hcont:e<s.length∧s[e]?≠some 10
  ·obtain ⟨hel,hne⟩:=hcont
   have hel':(e:Int)<(s.length:Int):=by omega
   have hne':¬ ((s[e].toNat:Nat):Int)=10:=by
    intro x;apply hne
    rw [Qze hel,(Wal _ 10 (by decide)).1 (show s[e].toNat=10 by omega)];rfl
   have hx:=w64 (n:=(e:Int)+1) (by omega) (by omega)
   simp [hl,g0,g8,g6,g7,g9,hel',hel,hne',hx]
   refine ⟨⟨e+1,by simp,by omega,by omega,fun j h1 h2=>?_⟩,by omega⟩
   rcases Qzn j e with h3 | h3
   ·exact hno j h1 h3
   ·obtain rfl:j=e:=by omega
    exact hne
  ·have h3:e=s.length∨s[e]? = some 10:=by
    rcases Qzn e s.length with h | h
    ·exact .inr (Classical.byContradiction fun x=>hcont ⟨h,x⟩)
    ·exact .inl (by omega)
   have hline:=Xcq hlt f hie hno hes h3
   rw [hd] at hline
   generalize hown:(s.take e).drop i=own at hline
   have hol:own.length≤2^20:=by rw [← hown,List.length_drop,List.length_take];omega
   have hsl0:(0:Int)≤(i:Int):=by omega
   have hsi:i≤e∧e≤s.length:=⟨hie,hes⟩
   rcases Qzn e s.length with hel | hel
   ·have hel':(e:Int)<(s.length:Int):=by omega
    have h10:((s[e].toNat:Nat):Int)=10:=by
     rcases h3 with h3 | h3
     ·omega
     ·rw [Qze hel] at h3;simp at h3;rw [h3];rfl
    simp [hl,g0,g8,g6,g7,g9,hel',hel,h10,hie,hes,hown]
    refine (Vch own true f.length hol).use ?_
    rw [show decide (e<s.length)=true from decide_eq_true hel] at hline
    cases hr:Oyez.readLine own true f.length with
    | error x =>
     obtain ⟨w,x⟩:=x
     have hx0:¬ x=0:=Yar hr
     rw [hr] at hline
     simp only at hline
     simp [hl,g0,g8,g6,g7,g9,Ys,hx0]
     refine Zg mixed (by kernel_rfl) ?_
     simp [hl,g0,g8,g6,g7,g9,Ys,hx0,hline,Yw]
    | ok r =>
     obtain ⟨hr1,hr2,_⟩:=Ubh hr
     rw [hr] at hline
     simp only at hline
     simp [hl,g0,g8,g6,g7,g9,Ys]
     refine Zg mixed (by kernel_rfl) ?_
     have hxl:=w64 (n:=(f.length:Int)+1) (by omega) (by omega)
     have hxe:=w64 (n:=(e:Int)+1) (by omega) (by omega)
     have hA1:=(hA.more [.cells (Uf r)]).push (P:=Tryz.prog) (t:=27) (e:=96) (ag:=true) (x:=Yd r) (by simp) (by simp) (by simp) (by omega) ⟨by simp [AV.cells],by simp [AV.cells,AV.one]⟩ (by simp;omega)
     obtain ⟨v',g',o',he,hA',_⟩:=hA1
     simp [-Ya,Uf] at he
     obtain rfl | ⟨f',q,rfl⟩:f=[]∨∃ f' q,f=f'++[q]:=by
      rcases List.eq_nil_or_concat f with h | ⟨a,b,h⟩
      ·exact .inl h
      ·exact .inr ⟨a,b,by simpa using h⟩
     ·simp [-Ya,hl,g0,g8,g6,g7,g9,he]
      rw [hxe,show IntKind.i64.wrap 1=1 from w64 (by omega) (by omega)]
      refine ⟨⟨e+1,by simp,[r],by simp,⟨o',by simpa using hA'⟩,by omega,by simp,?_⟩,by omega⟩
      rw [hline]
      simp [Xq]
     ·obtain ⟨j0,rfl⟩:∃ j,o=some j:=by
       cases o with
       | none=>have:=hA.val;simp at this
       | some j=>exact ⟨j,rfl⟩
      have hv:=hA.val
      simp only [List.length_map,List.length_append,List.length_cons,List.length_nil] at hv
      obtain ⟨rfl,hg⟩:=hv
      have hc0:=War (f'++[q]) f'.length 0 (by simp) (by decide)
      have hc1:=War (f'++[q]) f'.length 1 (by simp) (by decide)
      have hcl:=Wae ((f'++[q]).map Yd) (k:=3) (fun x hx=>by obtain ⟨r,_,rfl⟩:=List.mem_map.1 hx;rfl)
      generalize ((f'++[q]).map Yd).flatMap AV.cells=cs at hg hc0 hc1 hcl
      have hj0:=(Qzs.1 hg).1
      have happ:∀ y:Za,(g++y)[j0]? = some (.cells cs):=fun y=>by rw [Qzl hj0,hg]
      simp [Uf] at hc0 hc1 hcl
      have hm0:f'.length*3+1≤cs.length:=by omega
      have hm1:f'.length*3+1+1≤cs.length:=by omega
      have hz1:(0:Int)<(f'.length:Int)+1:=by omega
      have hw:=w64 (n:=(f'.length:Int)) (by simp at hf40;omega) (by simp at hf40;omega)
      have hlp:Xq (f'++[q])=some q.place:=by simp [Xq]
      rw [hlp] at hline
      simp only [List.length_append,List.length_cons,List.length_nil,Nat.zero_add] at he g6 g7
      simp [-Ya,hl,g0,g8,g6,g7,g9,hz1,hw,happ,hc0,hc1,hm0,hm1,he]
      refine Wq (Uai _ _ _ _) ?_
      cases hb:q.place.lt r.place with
      | true =>
       have hb':((⟨q.kind,q.number⟩:Oyez.Place).lt ⟨r.kind,r.number⟩)=true:=hb
       simp [-Ya,hl,g0,g8,g6,g7,g9,hb',happ,he]
       have hfl:f'.length<40:=by simp at hr1;omega
       rw [hxe,w64 (n:=(f'.length:Int)+1+1) (by omega) (by omega)]
       refine ⟨⟨e+1,by simp,f'++[q]++[r],by simp;omega,⟨o',by simpa using hA'⟩,by omega,by simp at hr1 ⊢;omega,?_⟩,by omega⟩
       rw [hline]
       simp [hb]
      | false =>
       have hb':((⟨q.kind,q.number⟩:Oyez.Place).lt ⟨r.kind,r.number⟩)=false:=hb
       simp [hb] at hline
       simp [-Ya,hl,g0,g8,g6,g7,g9,hb',happ,hline,Yw]
   ·obtain rfl:e=s.length:=by omega
    have hel':¬ (s.length:Int)<(s.length:Int):=by omega
    rw [List.take_length] at hown
    simp [hl,g0,g8,g6,g7,g9,hie,hown]
    refine (Vch own false f.length hol).use ?_
    rw [show decide (s.length<s.length)=false from by simp] at hline
    cases hr:Oyez.readLine own false f.length with
    | ok r=>exact absurd (Ubh hr).2.2 (by simp)
    | error x =>
     obtain ⟨w,x⟩:=x
     have hx0:¬ x=0:=Yar hr
     rw [hr] at hline
     simp only at hline
     simp [hl,g0,g8,g6,g7,g9,Ys,hx0]
     refine Zg mixed (by kernel_rfl) ?_
     simp [hl,g0,g8,g6,g7,g9,Ys,hx0,hline,Yw]
 ·have hge':¬ (i:Int)<(s.length:Int):=by omega
  rw [Zdd hge] at hd
  rw [← hd]
  have hz:=hA.fz (fun x hx y hy=>by
   obtain ⟨r,_,rfl⟩:=List.mem_map.1 hx
   simp [AV.cells] at hy
   rcases hy with rfl | rfl | rfl
   ·exact .int _ _
   ·exact .int _ _
   ·exact (Xr _ _ _).2 trivial)
  simpa [hl,g0,g8,g6,g7,hge',Yw] using hz
end Ab

/-
  Texts packed for a claim.
-/
import Derived.Test.YtcoikmapjepdjaaGreatDoorD00
import Derived.Lib.AtoiAll
import Derived.Lib.ItoaNum
import Derived.Test.YtcoikmapjepdjaaGreatDoorD09
set_option linter.all false
namespace Oyez
open Go
theorem Uao (c:UInt8):isDig c=true↔48≤c.toNat∧c.toNat≤57:=by simp [isDig,UInt8.le_iff_toNat_le]
theorem Wa1 {d:Nat} (h:d<10):(UInt8.ofNat (48+d)).toNat=48+d:=by simp;omega
theorem Xca {d:Nat} (h:d<10):isDig (UInt8.ofNat (48+d))=true:=by rw [Uao,Wa1 h];omega
theorem Zbx (a b:S) (k:Nat):Vk (a++b) k=(Vk a k).bind (Vk b):=by
 induction a generalizing k with
 | nil=>rfl
 | cons c t ih =>
  simp only [List.cons_append,Vk]
  split
  ·exact ih _
  ·rfl
theorem Ybp (n:Nat):Vk (digitsN n) 0=some n:=by
 induction n using Nat.strongRecOn with
 | _ n ih =>
  rcases Qzn n 10 with h | h
  ·rw [digitsN_lt h]
   simp only [Vk,Xca h,Wa1 h,if_true]
   congr 1
   omega
  ·rw [digitsN_ge h,Zbx,ih (n / 10) (by omega)]
   have hd:n % 10<10:=Nat.mod_lt _ (by decide)
   simp only [Option.bind_some,Vk,Xca hd,Wa1 hd,if_true]
   congr 1
   omega
theorem digits_len:∀ (k n:Nat),n<10^(k+1)→(digitsN n).length≤k+1:=by
 intro k
 induction k with
 | zero=>intro n h;rw [digitsN_lt (by simpa using h)];simp
 | succ k ih =>
  intro n h
  rcases Qzn n 10 with h1 | h1
  ·rw [digitsN_lt h1];simp
  ·rw [digitsN_ge h1,List.length_append]
   have:=ih (n / 10) (by rw [Nat.div_lt_iff_lt_mul (by decide)];rw [Nat.pow_succ] at h;exact h)
   simp;omega
theorem Xcl (n:Nat):digitsN n≠[]:=by
 rcases Qzn n 10 with h | h
 ·rw [digitsN_lt h];simp
 ·rw [digitsN_ge h];simp
theorem Vd8 {n:Nat} (h:1≤n):(digitsN n).head?≠some 48:=by
 induction n using Nat.strongRecOn with
 | _ n ih =>
  rcases Qzn n 10 with h1 | h1
  ·rw [digitsN_lt h1]
   simp only [List.head?_cons,ne_eq,Option.some.injEq]
   intro e
   have:=congrArg UInt8.toNat e
   rw [Wa1 h1] at this
   have e2:(48:UInt8).toNat=48:=rfl
   omega
  ·have e:(digitsN (n / 10)++[UInt8.ofNat (48+n % 10)]).head? = (digitsN (n / 10)).head?:=by
    cases hd:digitsN (n / 10) with
    | nil=>exact absurd hd (Xcl _)
    | cons x t=>rfl
   rw [digitsN_ge h1,e]
   exact ih (n / 10) (by omega) (by omega)
theorem value_digits {n most:Nat} (h:n≤most) (hm:most≤999999):value (digitsN n) most=some n:=by
 have hl:=digits_len 5 n (by omega)
 unfold value
 have h0:(digitsN n).isEmpty=false:=by simpa using Xcl n
 rw [h0,if_neg (by simp),if_neg (by omega),if_neg,Ybp]
 ·simp only;rw [if_neg (by omega)]
 ·rintro ⟨h1,h2⟩
  rcases Nat.eq_zero_or_pos n with hn | hn
  ·subst hn;rw [digitsN_lt (by decide)] at h2;simp at h2
  ·exact Vd8 hn h1
theorem Zbu {w:S} {k n:Nat} (h:Vk w k=some n):k≤n∧(1≤k→1≤n):=by
 induction w generalizing k with
 | nil=>simp [Vk] at h;omega
 | cons c t ih =>
  simp only [Vk] at h
  split at h
  ·have:=ih h;omega
  ·cases h
theorem Wc6:∀ (m:Nat) (w:S) (n:Nat),w.length=m→w≠[]→(1<w.length→w.head?≠some 48)→Vk w 0=some n→digitsN n=w:=by
 intro m
 induction m with
 | zero=>intro w n hl hne;exact absurd (List.eq_nil_of_length_eq_zero hl) hne
 | succ m ih =>
  intro w n hl hne hz hv
  obtain ⟨w',c,rfl⟩:∃ w' c,w=w'++[c]:=⟨w.dropLast,w.getLast hne,(List.dropLast_concat_getLast hne).symm⟩
  rw [Zbx] at hv
  cases h':Vk w' 0 with
  | none=>rw [h'] at hv;cases hv
  | some n' =>
   rw [h'] at hv
   simp only [Option.bind_some,Vk] at hv
   split at hv
   ·rename_i hd
    rw [Uao] at hd
    simp only [Option.some.injEq] at hv
    have hc:UInt8.ofNat (48+(c.toNat - 48))=c:=by rw [show 48+(c.toNat - 48)=c.toNat by omega];simp
    cases w' with
    | nil =>
     simp [Vk] at h'
     subst h'
     rw [← hv,Nat.mul_zero,Nat.zero_add,digitsN_lt (by omega),hc]
     rfl
    | cons x t =>
     have hx:x≠48:=by
      have:=hz (by simp)
      simpa using this
     have hn':1≤n':=by
      simp only [Vk] at h'
      split at h'
      ·rename_i hxd
       rw [Uao] at hxd
       refine (Zbu h').2 ?_
       have:x.toNat≠48:=fun e=>hx (by have:=congrArg UInt8.ofNat e;simpa using this)
       omega
      ·cases h'
     have:=ih (x::t) n' (by simpa using hl) (by simp) (fun _=>by simpa using hx) h'
     rw [← hv,digitsN_ge (by omega),show (10*n'+(c.toNat - 48)) / 10=n' by omega,show (10*n'+(c.toNat - 48)) % 10=c.toNat - 48 by omega,this,hc]
   ·cases hv
theorem Zdo:∀ (w:S) (k n:Nat),Vk w k=some n→n<10^18→Lib.parseUint10 k w=.ok n:=by
 intro w
 induction w with
 | nil=>intro k n h _;simp [Vk] at h;subst h;rfl
 | cons c t ih =>
  intro k n h hn
  simp only [Vk] at h
  split at h
  ·rename_i hd
   rw [Uao] at hd
   have hle:=(Zbu h).1
   unfold Lib.parseUint10
   rw [if_pos hd,if_neg (by omega),if_neg (by omega)]
   rw [show k*10+(c.toNat - 48)=10*k+(c.toNat - 48) by omega]
   exact ih _ _ h hn
  ·cases h
theorem Vdz:∀ (w:S) (k n:Nat),Vk w k=some n→n<(k+1)*10^w.length:=by
 intro w
 induction w with
 | nil=>intro k n h;simp [Vk] at h;subst h;simp
 | cons c t ih =>
  intro k n h
  simp only [Vk] at h
  split at h
  ·rename_i hd
   rw [Uao] at hd
   have h1:=ih _ _ h
   refine Nat.lt_of_lt_of_le h1 ?_
   rw [List.length_cons,Nat.pow_succ,Nat.mul_comm (10^t.length) 10,← Nat.mul_assoc]
   exact Nat.mul_le_mul_right _ (by omega)
  ·cases h
theorem Vgo {w:S} {most n:Nat} (h:value w most=some n):w≠[]∧w.length≤6∧(1<w.length→w.head?≠some 48)∧Vk w 0=some n∧n≤most:=by
 unfold value at h
 split at h
 ·cases h
 ·rename_i h1
  split at h
  ·cases h
  ·rename_i h2
   split at h
   ·cases h
   ·rename_i h3
    split at h
    ·rename_i m hm
     split at h
     ·cases h
     ·rename_i h4
      simp only [Option.some.injEq] at h
      subst h
      exact ⟨by simpa using h1,by omega,fun h5 h6=>h3 ⟨h6,h5⟩,hm,by omega⟩
    ·cases h
theorem atoi_value {w:S} {most n:Nat} (h:value w most=some n):Lib.atoiAll w=.ok n∧Lib.itoa n=digitsN n∧digitsN n=w∧n≤most:=by
 obtain ⟨h1,h2,h3,h4,h5⟩:=Vgo h
 have hdec:∀ n,Lib.decDigits n=digitsN n:=by
  intro n
  induction n using Nat.strongRecOn with
  | _ n ih =>
   rw [Lib.decDigits]
   rcases Qzn n 10 with h | h
   ·rw [dif_pos h,digitsN_lt h]
   ·rw [dif_neg (by omega),digitsN_ge h,ih (n / 10) (by omega)]
 have hb:=Vdz _ _ _ h4
 have hb2:n<10^6:=Nat.lt_of_lt_of_le hb (by rw [Nat.zero_add,Nat.one_mul];exact Nat.pow_le_pow_right (by decide) h2)
 refine ⟨?_,?_,Wc6 _ w n rfl h1 h3 h4,h5⟩
 ·cases w with
  | nil=>exact absurd rfl h1
  | cons c t =>
   have hc:isDig c=true:=by
    simp only [Vk] at h4
    split at h4
    ·rename_i h;exact h
    ·cases h4
   rw [Uao] at hc
   unfold Lib.atoiAll
   simp only
   rw [if_neg (by omega)]
   unfold Lib.parseMag
   rw [if_neg (by simp),Zdo _ _ _ h4 (by omega)]
   simp only
   rw [if_neg (by omega),if_neg (by omega),if_neg (by omega)]
 ·unfold Lib.itoa
  rw [if_neg (by omega),Int.toNat_natCast,hdec]
end Oyez
namespace Oyez
theorem Ues (p:Place):getIn [] p=none:=rfl
theorem Xaj (r:Rec) (f:List Rec) (p:Place):getIn (r::f) p=if r.place=p then some r.words else getIn f p:=by
 unfold getIn
 rw [List.find?_cons]
 by_cases h:r.place=p<;>simp [h]
theorem getIn_none {f:List Rec} {p:Place} (h:p∉f.map Rec.place):getIn f p=none:=by
 induction f with
 | nil=>rfl
 | cons r t ih =>
  simp only [List.map_cons,List.mem_cons,not_or] at h
  rw [Xaj,if_neg (Ne.symm h.1),ih h.2]
theorem Wgn (f g:List Rec) (p:Place):getIn (f++g) p=(getIn f p).or (getIn g p):=by
 induction f with
 | nil=>simp [Ues]
 | cons r t ih =>
  rw [List.cons_append,Xaj,Xaj,ih]
  split<;>simp
def RSorted (f:List Rec):Prop:=Sorted (f.map Rec.place)
def Wgw (f:List Rec):Prop:=∀ r∈f,r.place∈allPlaces
theorem Yb9 {p:Option Place} {f:List Rec} (h:checkFrom p f=0):(∀ r∈f,recErr r=0)∧RSorted f∧∀ q,p=some q→∀ r∈f,q.lt r.place=true:=by
 induction f generalizing p with
 | nil=>simp [RSorted,Sorted]
 | cons r t ih =>
  simp only [checkFrom] at h
  split at h
  ·rename_i h1;exact absurd h h1
  ·rename_i h1
   split at h
   ·cases h
   ·rename_i h2
    obtain ⟨g1,g2,g3⟩:=ih h
    have hp:∀ q,p=some q→q.lt r.place=true:=fun q hq=>by rw [hq] at h2;simpa using h2
    refine ⟨?_,?_,fun q hq x hx=>?_⟩
    ·intro x hx
     rcases List.mem_cons.1 hx with rfl | hx
     ·simpa using h1
     ·exact g1 x hx
    ·refine List.pairwise_cons.2 ⟨fun y hy=>?_,g2⟩
     obtain ⟨x,hx,rfl⟩:=List.mem_map.1 hy
     exact g3 _ rfl x hx
    ·rcases List.mem_cons.1 hx with rfl | hx
     ·exact hp q hq
     ·exact Place.lt_trans (hp q hq) (g3 _ rfl x hx)
theorem Ybr {k n:Int} (h:placeErr k n=0):(⟨k,n⟩:Place)∈allPlaces:=by
 unfold placeErr at h
 rw [Zhj]
 split at h
 ·cases h
 ·split at h
  ·cases h
  ·show (0≤k∧k<5)∧0≤n∧n<1000
   omega
theorem recErr_place {r:Rec} (h:recErr r=0):placeErr r.kind r.number=0∧wordsErr r.kind r.number r.words=0:=by
 unfold recErr oneErr at h
 split at h
 ·rename_i h1;exact absurd h h1
 ·rename_i h1;exact ⟨by simpa using h1,h⟩
structure Right (f:List Rec):Prop where
 len:f.length≤40
 recs:∀ r∈f,recErr r=0
 sorted:RSorted f
theorem Right.range {f:List Rec} (h:Right f):Wgw f:=fun r hr=>Ybr (recErr_place (h.recs r hr)).1
theorem check_zero {f:List Rec} (h:check f=0):Right f:=by
 unfold check at h
 split at h
 ·cases h
 ·obtain ⟨h1,h2,_⟩:=Yb9 h
  exact ⟨by omega,h1,h2⟩
def recAt (F:Place→St) (p:Place):Option Rec:=(F p).map fun ws=>⟨p.kind,p.number,ws⟩
theorem file_ext {f:List Rec} (hs:RSorted f) {all:List Place} (ha:Sorted all) (hsub:∀ r∈f,r.place∈all):all.filterMap (recAt (getIn f))=f:=by
 have h1:all.filterMap (recAt (getIn f))=(f.map Rec.place).filterMap (recAt (getIn f)):=by
  rw [Zfx (recAt (getIn f)) (fun p=>decide (p∈f.map Rec.place)) all (fun x _ hx=>by simp only [decide_eq_false_iff_not] at hx;simp [recAt,getIn_none hx]),
   ← Wdj hs ha (fun p hp=>by obtain ⟨r,hr,rfl⟩:=List.mem_map.1 hp;exact hsub r hr)]
 rw [h1]
 clear h1 hsub ha
 suffices h:∀ (pre f':List Rec),f=pre++f'→(f'.map Rec.place).filterMap (recAt (getIn f))=f' by exact h [] f rfl
 intro pre f'
 induction f' generalizing pre with
 | nil=>intro _;rfl
 | cons r t ih =>
  intro e
  have hr:getIn f r.place=some r.words:=by
   rw [e,Wgn,getIn_none,Xaj,if_pos rfl]
   ·rfl
   ·intro hm
    obtain ⟨x,hx,hxr⟩:=List.mem_map.1 hm
    unfold RSorted at hs
    rw [e,List.map_append,Sorted,List.pairwise_append] at hs
    have:=hs.2.2 x.place (List.mem_map_of_mem hx) r.place (by simp)
    rw [hxr,Place.lt_irrefl] at this
    cases this
  rw [List.map_cons,List.filterMap_cons]
  simp only [recAt,hr,Option.map_some]
  rw [ih (pre++[r]) (by simp [e])]
  rfl
def Wgc (r:Rec):Bool→List Rec→List Rec
 | done,[]=>if done then [] else [r]
 | done,q::t =>
  (if !done&&!q.place.lt r.place then [r] else [])++(if q.place=r.place then [] else [q])++Wgc r (done||!q.place.lt r.place) t
end Oyez
namespace Oyez
def dd (l:List Place):List Place:=l.foldl (fun a q=>if a.getLast? = some q then a else a++[q]) []
theorem Ubb (l:List Place) (q:Place):dd (l++[q])=if (dd l).getLast? = some q then dd l else dd l++[q]:=by
 unfold dd
 rw [List.foldl_append]
 rfl
theorem Yhm (l:List Place) (h:l.Pairwise fun p q=>q.lt p=false):Sorted (dd l)∧(∀ q,q∈dd l↔q∈l)∧(dd l).getLast? = l.getLast?:=by
 suffices hh:∀ m:List Place,m.reverse.Pairwise (fun p q=>q.lt p=false)→Sorted (dd m.reverse)∧(∀ q,q∈dd m.reverse↔q∈m.reverse)∧(dd m.reverse).getLast? = m.reverse.getLast? by
  have:=hh l.reverse (by simpa using h)
  simpa using this
 intro m
 induction m with
 | nil=>intro _;exact ⟨List.Pairwise.nil,fun q=>by simp [dd],rfl⟩
 | cons q t ih =>
  intro hp
  rw [List.reverse_cons] at hp ⊢
  obtain ⟨h1,_,h2⟩:=List.pairwise_append.1 hp
  obtain ⟨g1,g2,g3⟩:=ih h1
  rw [Ubb]
  split
  ·rename_i he
   refine ⟨g1,fun x=>?_,by rw [he];simp⟩
   rw [g2,List.mem_append]
   constructor
   ·exact .inl
   ·rintro (hx | hx)
    ·exact hx
    ·rw [List.mem_singleton] at hx
     subst hx
     exact (g2 x).1 (List.mem_of_getLast? he)
  ·rename_i he
   refine ⟨?_,fun x=>by rw [List.mem_append,List.mem_append,g2],by simp⟩
   refine List.pairwise_append.2 ⟨g1,List.pairwise_singleton _ _,fun x hx y hy=>?_⟩
   rw [List.mem_singleton] at hy
   subst hy
   have hx2:=h2 x ((g2 x).1 hx) y (by simp)
   cases h3:x.lt y with
   | true=>rfl
   | false =>
    exfalso
    have e:=Place.lt_tri h3 hx2
    subst e
    cases hl:(dd t.reverse).getLast? with
    | none=>rw [List.getLast?_eq_none_iff] at hl;rw [hl] at hx;simp at hx
    | some e =>
     have hne:e≠x:=fun h=>he (by rw [hl,h])
     have hem:=List.mem_of_getLast? hl
     have h4:=h2 e ((g2 e).1 hem) x (by simp)
     obtain ⟨i,hi,rfl⟩:=List.getElem_of_mem hx
     rw [List.getLast?_eq_getElem?] at hl
     have hle:=(Qzs.1 hl)
     obtain ⟨hj,rfl⟩:=hle
     have hij:i<(dd t.reverse).length - 1:=by
      rcases Qzn i ((dd t.reverse).length - 1) with h | h
      ·exact h
      ·exact absurd (by congr 1;omega) hne
     have:=List.pairwise_iff_getElem.1 g1 i _ hi hj hij
     rw [h4] at this
     cases this
theorem dd_places {l l':List Place} (hp:l'.Perm l) (h:l'.Pairwise fun p q=>q.lt p=false):dd l'=placesOf l:=by
 obtain ⟨h1,h2,_⟩:=Yhm l' h
 exact Zb9 h1 (placesOf_sorted l) fun q=>by rw [h2,Wb5];exact hp.mem_iff
theorem Zgl (base a b:List Rec) (s:List Bool) (x:Jn) (p:Place):(Zr base a b s x p).out.length≤x.out.length+1∧(Zr base a b s x p).conf.length≤x.conf.length+1:=by
 unfold Zr
 simp only
 have hput:∀ w:St,(match w with | some ws=>x.out++[(⟨p.kind,p.number,ws⟩:Rec)] | none=>x.out).length≤x.out.length+1:=by
  intro w
  cases w<;>simp
 split
 ·exact ⟨hput _,by simp⟩
 ·split
  ·exact ⟨hput _,by simp⟩
  ·exact ⟨hput _,by simp⟩
end Oyez
namespace Oyez
def Xai:List S→S
 | []=>[]
 | w::t=>w++t.flatMap (fun x=>32::x)
theorem Xfu:∀ ws:List S,ws≠[]→(∀ w∈ws,(32:UInt8)∉w)→splitAt 32 (Xai ws)=ws:=by
 intro ws
 induction ws with
 | nil=>intro h;exact absurd rfl h
 | cons w t ih =>
  intro _ h
  cases t with
  | nil =>
   have:=Wbd 32 w (h w (by simp)) [] [] [] rfl
   simpa [Xai] using this
  | cons v t =>
   have h2:=ih (by simp) fun x hx=>h x (List.mem_cons_of_mem _ hx)
   have h3:splitAt 32 (32::Xai (v::t))=[]::(v::t):=by rw [splitAt,if_pos rfl,h2]
   have h4:=Wbd 32 w (h w (by simp)) _ _ _ h3
   simpa [Xai] using h4
theorem Uek (k n:Int) (ws:List S):line k n ws=Xai (name k::digits n::ws):=by simp [line,Xai]
theorem Ybz {d:Int} (h0:0≤d) (h4:d≤4):kindOf (name d)=some d∧(32:UInt8)∉name d∧(10:UInt8)∉name d:=by
 have:d=0∨d=1∨d=2∨d=3∨d=4:=by omega
 rcases this with rfl | rfl | rfl | rfl | rfl<;>decide
theorem Udo:∀ (w:S) (k n:Nat),Vk w k=some n→∀ c∈w,isDig c=true:=by
 intro w
 induction w with
 | nil=>intro k n _ c hc;simp at hc
 | cons b t ih =>
  intro k n h c hc
  unfold Vk at h
  split at h
  ·rename_i hb
   rcases List.mem_cons.1 hc with rfl | hc
   ·exact hb
   ·exact ih _ _ h c hc
  ·cases h
theorem Wb4 {c:UInt8} (h:isDig c=true):c≠32∧c≠10:=by
 constructor<;>(rintro rfl;revert h;decide)
theorem Xb8 (n:Int):(32:UInt8)∉digits n∧(10:UInt8)∉digits n:=by
 have h:=Udo _ _ _ (Ybp n.toNat)
 exact ⟨fun hc=>(Wb4 (h _ hc)).1 rfl,fun hc=>(Wb4 (h _ hc)).2 rfl⟩
theorem Ycm {w:S} (h:word w=true):(32:UInt8)∉w∧(10:UInt8)∉w:=by
 unfold word at h
 rw [Bool.and_eq_true] at h
 have:=List.all_eq_true.1 h.1
 constructor
 ·intro hc;have:=this _ hc;revert this;decide
 ·intro hc;have:=this _ hc;revert this;decide
theorem wordsErr_zero {k n:Int} {ws:List S} (h:wordsErr k n ws=0):ws.length≤6∧ws.all word=true∧(line k n ws).length≤64:=by
 unfold wordsErr at h
 split at h
 ·cases h
 ·split at h
  ·cases h
  ·split at h
   ·cases h
   ·rename_i h1 h2 h3
    exact ⟨by omega,by simpa using h2,by omega⟩
theorem Zby {k n:Int} (h:placeErr k n=0):(0≤k∧k≤4)∧0≤n∧n≤999:=by
 unfold placeErr at h
 split at h
 ·cases h
 ·split at h
  ·cases h
  ·omega
theorem recErr_iff (r:Rec):recErr r=0↔placeErr r.kind r.number=0∧wordsErr r.kind r.number r.words=0:=by
 refine ⟨recErr_place,fun ⟨h1,h2⟩=>?_⟩
 unfold recErr oneErr
 rw [if_neg (by simpa using h1)]
 exact h2
theorem Vg9 {ws:List S}:∀ i,firstBad ws i=none↔ws.all word=true:=by
 induction ws with
 | nil=>intro i;simp [firstBad]
 | cons w t ih =>
  intro i
  rw [firstBad]
  split
  ·rename_i h;rw [ih];simp [h]
  ·rename_i h;simp [h]
theorem Wgv {r:Rec} (h:recErr r=0) {n:Nat} (hn:n<40):readLine (line r.kind r.number r.words) true n=.ok r:=by
 obtain ⟨h1,h2⟩:=(recErr_iff r).1 h
 obtain ⟨hk,hnum⟩:=Zby h1
 obtain ⟨h6,hall,h64⟩:=wordsErr_zero h2
 obtain ⟨hkn,hn32,_⟩:=Ybz hk.1 hk.2
 have hws:words (line r.kind r.number r.words)=name r.kind::digits r.number::r.words:=by
  rw [Uek]
  refine Xfu _ (by simp) fun w hw=>?_
  rcases List.mem_cons.1 hw with rfl | hw
  ·exact hn32
  ·rcases List.mem_cons.1 hw with rfl | hw
   ·exact (Xb8 _).1
   ·exact (Ycm (List.all_eq_true.1 hall w hw)).1
 have hv:value (digits r.number) 999=some r.number.toNat:=value_digits (by omega) (by omega)
 unfold readLine
 rw [if_neg (by omega),if_neg (by omega),if_neg (by simp),hws]
 simp only [hkn,hv]
 rw [if_neg (by omega),(Vg9 2).2 hall]
 have:(r.number.toNat:Int)=r.number:=by omega
 rw [this]
theorem Wet {r:Rec} (h:recErr r=0):(10:UInt8)∉line r.kind r.number r.words:=by
 obtain ⟨h1,h2⟩:=(recErr_iff r).1 h
 obtain ⟨hk,hnum⟩:=Zby h1
 obtain ⟨h6,hall,h64⟩:=wordsErr_zero h2
 intro hc
 unfold line at hc
 simp only [List.mem_append,List.mem_flatMap,List.mem_cons,List.mem_singleton,List.not_mem_nil,or_false] at hc
 rcases hc with ((hc | hc) | hc) | ⟨w,hw,hc | hc⟩
 ·exact (Ybz hk.1 hk.2).2.2 hc
 ·revert hc;decide
 ·exact (Xb8 _).2 hc
 ·revert hc;decide
 ·exact (Ycm (List.all_eq_true.1 hall w hw)).2 hc
def cat (l:List (S × Bool)):S:=l.flatMap fun x=>x.1++if x.2 then [10] else []
def okL:List (S × Bool)→Prop
 | []=>True
 | (w,e)::t=>(10:UInt8)∉w∧(e=false→w≠[]∧t=[])∧okL t
theorem Vfm:∀ (w t:S),(10:UInt8)∉w→linesOf (w++10::t)=(w,true)::linesOf t:=by
 intro w
 induction w with
 | nil=>intro t _;simp [linesOf]
 | cons b w ih =>
  intro t h
  simp only [List.mem_cons,not_or] at h
  rw [List.cons_append,linesOf,if_neg (Ne.symm h.1),ih t h.2]
theorem Yeo:∀ w:S,(10:UInt8)∉w→w≠[]→linesOf w=[(w,false)]:=by
 intro w
 induction w with
 | nil=>intro _ h;exact absurd rfl h
 | cons b w ih =>
  intro h _
  simp only [List.mem_cons,not_or] at h
  rw [linesOf,if_neg (Ne.symm h.1)]
  cases w with
  | nil=>rfl
  | cons c w=>rw [ih h.2 (by simp)]
theorem Uf9:∀ l:List (S × Bool),okL l→linesOf (cat l)=l:=by
 intro l
 induction l with
 | nil=>intro _;rfl
 | cons x t ih =>
  obtain ⟨w,e⟩:=x
  rintro ⟨h1,h2,h3⟩
  cases e with
  | true =>
   have:cat ((w,true)::t)=w++10::cat t:=by simp [cat]
   rw [this,Vfm _ _ h1,ih h3]
  | false =>
   obtain ⟨h4,rfl⟩:=h2 rfl
   have:cat [(w,false)]=w:=by simp [cat]
   rw [this,Yeo _ h1 h4]
theorem Ugv:∀ (f:List Rec) (p:Option Place) (n:Nat),checkFrom p f=0→n+f.length≤40→parseLines (f.map fun r=>(line r.kind r.number r.words,true)) p n=⟨f,0,0,0⟩:=by
 intro f
 induction f with
 | nil=>intro p n _ _;rfl
 | cons r t ih =>
  intro p n h hn
  rw [checkFrom] at h
  split at h
  ·rename_i h1;exact absurd h h1
  ·rename_i h1
   split at h
   ·cases h
   ·rename_i h2
    simp only [List.length_cons] at hn
    rw [List.map_cons,parseLines,Wgv (by simpa using h1) (by omega)]
    simp only
    rw [if_neg h2,ih _ _ h (by omega)]
    simp
theorem Vd9 {f:List Rec} (h:check f=0):f.length≤40∧checkFrom none f=0:=by
 unfold check at h
 split at h
 ·cases h
 ·exact ⟨by omega,h⟩
theorem Xf1 (f:List Rec):cat (f.map fun r=>(line r.kind r.number r.words,true))=print f:=by
 simp [cat,print,List.flatMap_map]
theorem Wgu:∀ f:List Rec,(∀ r∈f,recErr r=0)→okL (f.map fun r=>(line r.kind r.number r.words,true)):=by
 intro f
 induction f with
 | nil=>intro _;exact trivial
 | cons r t ih=>intro h;exact ⟨Wet (h r (by simp)),by simp,ih fun q hq=>h q (List.mem_cons_of_mem _ hq)⟩
theorem parse_print {f:List Rec} (h:check f=0):parse (print f)=⟨f,0,0,0⟩:=by
 obtain ⟨h1,h2⟩:=Vd9 h
 unfold parse
 rw [← Xf1,Uf9 _ (Wgu f (Yb9 h2).1)]
 exact Ugv f none 0 h2 (by omega)
end Oyez
namespace Oyez
def sp (c:UInt8) (sv:Bool):S→List S
 | []=>[[]]
 | b::t=>if b=c then (if sv then [b] else [])::sp c sv t else
  match sp c sv t with
  | []=>[[b]]
  | w::r=>(b::w)::r
def piece (x:S × Bool):S:=x.1++if x.2 then [10] else []
end Oyez
namespace Oyez
structure RightC (l:List Chg):Prop where
 len:l.length≤80
 each:∀ c∈l,Var c=0
 sorted:Sorted (l.map Chg.place)
theorem Ugn {c:Chg} (h:Var c=0):c.place∈allPlaces∧wordsErr c.kind c.number c.old=0∧wordsErr c.kind c.number c.new=0∧(c.had=false→c.old=[])∧(c.has=false→c.new=[])∧c.was≠c.now:=by
 unfold Var at h
 split at h
 ·rename_i h1;exact absurd h h1
 ·rename_i h1
  split at h
  ·rename_i h2;exact absurd h h2
  ·rename_i h2
   split at h
   ·rename_i h3;exact absurd h h3
   ·rename_i h3
    split at h
    ·cases h
    ·rename_i h4
     simp only [Bool.or_eq_true,Bool.and_eq_true,not_or,not_and,beq_iff_eq,decide_eq_true_eq,Bool.not_eq_true',List.isEmpty_iff,Bool.not_eq_true,Bool.not_eq_false'] at h4
     obtain ⟨⟨h5,h6⟩,h7⟩:=h4
     have h5':c.had=false→c.old=[]:=fun e=>by simpa using h5 e
     have h6':c.has=false→c.new=[]:=fun e=>by simpa using h6 e
     refine ⟨Ybr (by simpa using h1),by simpa using h2,by simpa using h3,h5',h6',?_⟩
     unfold Chg.was Chg.now
     cases h8:c.had<;>cases h9:c.has
     ·exact absurd (by rw [h5' h8,h6' h9]) (h7 (by rw [h8,h9]))
     ·simp
     ·simp
     ·simpa using h7 (by rw [h8,h9])
theorem RightC.range {l:List Chg} (h:RightC l):∀ c∈l,c.place∈allPlaces:=fun c hc=>(Ugn (h.each c hc)).1
def stL (l:List Chg) (p:Place) (s:St):St:=l.foldl (fun s c=>if c.place=p then c.now else s) s
end Oyez

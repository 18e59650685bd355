/-
  Texts packed for a claim.
-/
import Derived.Test.YtdifgaapdnbliaaGreatDoorS00
import Derived.Lib.AtoiAll
import Derived.Lib.ItoaNum
import Derived.Test.YtdifgaapdnbliaaGreatDoorS07
import Derived.Test.YtdifgaapdnbliaaGreatDoorS09
import Derived.Test.YtdifgaapdnbliaaGreatDoorS10
import Derived.Test.YtdifgaapdnbliaaGreatDoorS13
set_option linter.all false
namespace Oyez
open Go
theorem Zas (c:UInt8):isDig c=true↔48≤c.toNat∧c.toNat≤57:=by simp [isDig,UInt8.le_iff_toNat_le]
theorem Ya4 {d:Nat} (h:d<10):(UInt8.ofNat (48+d)).toNat=48+d:=by simp;omega
theorem Xb1 {d:Nat} (h:d<10):isDig (UInt8.ofNat (48+d))=true:=by rw [Zas,Ya4 h];omega
theorem Yck (a b:S) (k:Nat):valueN (a++b) k=(valueN a k).bind (valueN b):=by
 induction a generalizing k with
 | nil=>rfl
 | cons c t ih =>
  simp only [List.cons_append,valueN]
  split
  ·exact ih _
  ·rfl
theorem Yd1 (n:Nat):valueN (digitsN n) 0=some n:=by
 induction n using Nat.strongRecOn with
 | _ n ih =>
  rcases Qzn n 10 with h | h
  ·rw [digitsN_lt h]
   simp only [valueN,Xb1 h,Ya4 h,if_true]
   congr 1
   omega
  ·rw [digitsN_ge h,Yck,ih (n / 10) (by omega)]
   have hd:n % 10<10:=Nat.mod_lt _ (by decide)
   simp only [Option.bind_some,valueN,Xb1 hd,Ya4 hd,if_true]
   congr 1
   omega
theorem Xb4:∀ (k n:Nat),n<10^(k+1)→(digitsN n).length≤k+1:=by
 intro k
 induction k with
 | zero=>intro n h;rw [digitsN_lt (by simpa using h)];simp
 | succ k ih =>
  intro n h
  rcases Qzn n 10 with h1 | h1
  ·rw [digitsN_lt h1];simp
  ·rw [digitsN_ge h1,List.length_append]
   have:=ih (n / 10) (by rw [Nat.div_lt_iff_lt_mul (by decide)];rw [Nat.pow_succ] at h;exact h)
   simp;omega
theorem Ycj (n:Nat):digitsN n≠[]:=by
 rcases Qzn n 10 with h | h
 ·rw [digitsN_lt h];simp
 ·rw [digitsN_ge h];simp
theorem Yew {n:Nat} (h:1≤n):(digitsN n).head?≠some 48:=by
 induction n using Nat.strongRecOn with
 | _ n ih =>
  rcases Qzn n 10 with h1 | h1
  ·rw [digitsN_lt h1]
   simp only [List.head?_cons,ne_eq,Option.some.injEq]
   intro e
   have:=congrArg UInt8.toNat e
   rw [Ya4 h1] at this
   have e2:(48:UInt8).toNat=48:=rfl
   omega
  ·have e:(digitsN (n / 10)++[UInt8.ofNat (48+n % 10)]).head? = (digitsN (n / 10)).head?:=by
    cases hd:digitsN (n / 10) with
    | nil=>exact absurd hd (Ycj _)
    | cons x t=>rfl
   rw [digitsN_ge h1,e]
   exact ih (n / 10) (by omega) (by omega)
theorem value_digits {n most:Nat} (h:n≤most) (hm:most≤999999):value (digitsN n) most=some n:=by
 have hl:=Xb4 5 n (by omega)
 unfold value
 have h0:(digitsN n).isEmpty=false:=by simpa using Ycj n
 rw [h0,if_neg (by simp),if_neg (by omega),if_neg,Yd1]
 ·simp only;rw [if_neg (by omega)]
 ·rintro ⟨h1,h2⟩
  rcases Nat.eq_zero_or_pos n with hn | hn
  ·subst hn;rw [digitsN_lt (by decide)] at h2;simp at h2
  ·exact Yew hn h1
theorem Ucl {w:S} {k n:Nat} (h:valueN w k=some n):k≤n∧(1≤k→1≤n):=by
 induction w generalizing k with
 | nil=>simp [valueN] at h;omega
 | cons c t ih =>
  simp only [valueN] at h
  split at h
  ·have:=ih h;omega
  ·cases h
theorem Udc:∀ (m:Nat) (w:S) (n:Nat),w.length=m→w≠[]→(1<w.length→w.head?≠some 48)→valueN w 0=some n→digitsN n=w:=by
 intro m
 induction m with
 | zero=>intro w n hl hne;exact absurd (List.eq_nil_of_length_eq_zero hl) hne
 | succ m ih =>
  intro w n hl hne hz hv
  obtain ⟨w',c,rfl⟩:∃ w' c,w=w'++[c]:=⟨w.dropLast,w.getLast hne,(List.dropLast_concat_getLast hne).symm⟩
  rw [Yck] at hv
  cases h':valueN w' 0 with
  | none=>rw [h'] at hv;cases hv
  | some n' =>
   rw [h'] at hv
   simp only [Option.bind_some,valueN] at hv
   split at hv
   ·rename_i hd
    rw [Zas] at hd
    simp only [Option.some.injEq] at hv
    have hc:UInt8.ofNat (48+(c.toNat - 48))=c:=by rw [show 48+(c.toNat - 48)=c.toNat by omega];simp
    cases w' with
    | nil =>
     simp [valueN] at h'
     subst h'
     rw [← hv,Nat.mul_zero,Nat.zero_add,digitsN_lt (by omega),hc]
     rfl
    | cons x t =>
     have hx:x≠48:=by
      have:=hz (by simp)
      simpa using this
     have hn':1≤n':=by
      simp only [valueN] at h'
      split at h'
      ·rename_i hxd
       rw [Zas] at hxd
       refine (Ucl h').2 ?_
       have:x.toNat≠48:=fun e=>hx (by have:=congrArg UInt8.ofNat e;simpa using this)
       omega
      ·cases h'
     have:=ih (x::t) n' (by simpa using hl) (by simp) (fun _=>by simpa using hx) h'
     rw [← hv,digitsN_ge (by omega),show (10*n'+(c.toNat - 48)) / 10=n' by omega,show (10*n'+(c.toNat - 48)) % 10=c.toNat - 48 by omega,this,hc]
   ·cases hv
theorem Wdt:∀ (w:S) (k n:Nat),valueN w k=some n→n<10^18→Lib.parseUint10 k w=.ok n:=by
 intro w
 induction w with
 | nil=>intro k n h _;simp [valueN] at h;subst h;rfl
 | cons c t ih =>
  intro k n h hn
  simp only [valueN] at h
  split at h
  ·rename_i hd
   rw [Zas] at hd
   have hle:=(Ucl h).1
   unfold Lib.parseUint10
   rw [if_pos hd,if_neg (by omega),if_neg (by omega)]
   rw [show k*10+(c.toNat - 48)=10*k+(c.toNat - 48) by omega]
   exact ih _ _ h hn
  ·cases h
theorem Yeg:∀ (w:S) (k n:Nat),valueN w k=some n→n<(k+1)*10^w.length:=by
 intro w
 induction w with
 | nil=>intro k n h;simp [valueN] at h;subst h;simp
 | cons c t ih =>
  intro k n h
  simp only [valueN] at h
  split at h
  ·rename_i hd
   rw [Zas] at hd
   have h1:=ih _ _ h
   refine Nat.lt_of_lt_of_le h1 ?_
   rw [List.length_cons,Nat.pow_succ,Nat.mul_comm (10^t.length) 10,← Nat.mul_assoc]
   exact Nat.mul_le_mul_right _ (by omega)
  ·cases h
theorem Zek {w:S} {most n:Nat} (h:value w most=some n):w≠[]∧w.length≤6∧(1<w.length→w.head?≠some 48)∧valueN w 0=some n∧n≤most:=by
 unfold value at h
 split at h
 ·cases h
 ·rename_i h1
  split at h
  ·cases h
  ·rename_i h2
   split at h
   ·cases h
   ·rename_i h3
    split at h
    ·rename_i m hm
     split at h
     ·cases h
     ·rename_i h4
      simp only [Option.some.injEq] at h
      subst h
      exact ⟨by simpa using h1,by omega,fun h5 h6=>h3 ⟨h6,h5⟩,hm,by omega⟩
    ·cases h
theorem atoi_value {w:S} {most n:Nat} (h:value w most=some n):Lib.atoiAll w=.ok n∧Lib.itoa n=digitsN n∧digitsN n=w∧n≤most:=by
 obtain ⟨h1,h2,h3,h4,h5⟩:=Zek h
 have hdec:∀ n,Lib.decDigits n=digitsN n:=by
  intro n
  induction n using Nat.strongRecOn with
  | _ n ih =>
   rw [Lib.decDigits]
   rcases Qzn n 10 with h | h
   ·rw [dif_pos h,digitsN_lt h]
   ·rw [dif_neg (by omega),digitsN_ge h,ih (n / 10) (by omega)]
 have hb:=Yeg _ _ _ h4
 have hb2:n<10^6:=Nat.lt_of_lt_of_le hb (by rw [Nat.zero_add,Nat.one_mul];exact Nat.pow_le_pow_right (by decide) h2)
 refine ⟨?_,?_,Udc _ w n rfl h1 h3 h4,h5⟩
 ·cases w with
  | nil=>exact absurd rfl h1
  | cons c t =>
   have hc:isDig c=true:=by
    simp only [valueN] at h4
    split at h4
    ·rename_i h;exact h
    ·cases h4
   rw [Zas] at hc
   unfold Lib.atoiAll
   simp only
   rw [if_neg (by omega)]
   unfold Lib.parseMag
   rw [if_neg (by simp),Wdt _ _ _ h4 (by omega)]
   simp only
   rw [if_neg (by omega),if_neg (by omega),if_neg (by omega)]
 ·unfold Lib.itoa
  rw [if_neg (by omega),Int.toNat_natCast,hdec]
end Oyez
namespace Ab
open Go Go.RowKit Go.Proofs
attribute [local irreducible] aws awp aw1 Og Om Oc Oa Ogd Ov Ot awd Ub awh Xc Ogh Ohd Zc Wc QFn Zd ACode AYield
def Xbr (s:List UInt8):AV:=match Lib.atoiAll s with
 | .ok m=>.tup [.int .i64 m,.nili]
 | .range=>.tup [.int .i64 (Lib.atoiSat s),.iface 285 .any]
 | _=>.tup [.int .i64 0,.iface 285 .any]
theorem Yel (s:List UInt8) (hs:s.length≤2^40):APure Tryz.prog 188 [.str s] (Xbr s):=by
 refine APure.kit (Wa Tryz.func188 (by decide) rfl) fun C cargs σ hI hv=>?_
 obtain ⟨x,r,rfl,h2,h3⟩:=hv.inv
 obtain rfl:=h3.of_nil
 rw [h2.str_inv]
 have hsz:(ByteArray.mk ⟨s⟩).size=s.length:=rfl
 unfold Xbr
 cases h:Lib.atoiAll s with
 | ok m =>
  refine (Tryz.strconv_Atoi_ok ⟨⟨s⟩⟩ (by rw [hsz];omega) m h C.w).mono ?_
  rintro e w' ⟨rfl,hw⟩
  refine ⟨_,rfl,.tup _ [_,_] rfl (VRs.cons (.int _ _) (.cons .nili (.nil C))).at_,?_⟩
  rcases hw with rfl | ⟨t,rfl⟩
  ·exact Below.refl _ _
  ·exact Lib.bytesWorld_below _ _ _
 | range =>
  obtain ⟨tp,p,hg⟩:=(Ube hI).rng
  refine (Tryz.strconv_Atoi_range_var ⟨⟨s⟩⟩ (by rw [hsz];omega) h tp p C.w hg).mono ?_
  rintro e w' ⟨N,rfl,_,_,hb⟩
  exact ⟨_,rfl,.tup _ [_,_] rfl (VRs.cons (.int _ _) (.cons (.iface _ _ _ (.any _)) (.nil C))).at_,hb⟩
 | _ =>
  obtain ⟨tp,p,hg⟩:=(Ube hI).syn
  refine (Tryz.strconv_Atoi_bad_var ⟨⟨s⟩⟩ (by rw [hsz];omega) (h.trans rfl) tp p C.w hg).mono ?_
  rintro e w' ⟨N,rfl,_,_,hb⟩
  exact ⟨_,rfl,.tup _ [_,_] rfl (VRs.cons (.int _ _) (.cons (.iface _ _ _ (.any _)) (.nil C))).at_,hb⟩
theorem Yae (n lo hi:Int):APure Tryz.prog 96 [.int .i64 n,.int .i64 lo,.int .i64 hi] (.bool (decide (lo≤n)&&decide (n≤hi))):=by
 intro σ
 refine Ua Tryz.func96 rfl (Wa Tryz.func96 (by decide) rfl) ?_
 by_cases h:lo≤n
 ·simp [Tryz.ntmps96,h]
 ·simp [Tryz.ntmps96,h]
def Vp (w:List UInt8) (most:Int):Bool:=match Lib.atoiAll w with
 | .ok m=>decide (0≤m)&&decide (m≤most)&&decide (Lib.itoa m=w)
 | _=>false
def Wab (w:List UInt8):Int:=match Lib.atoiAll w with
 | .ok m=>m
 | .range=>Lib.atoiSat w
 | _=>0
theorem Yci (w:List UInt8) (most:Int) (hw:w.length≤2^40) (hm:most≤2^40):APure Tryz.prog 151 [.str w,.int .i64 most] (.tup [.int .i64 (Wab w),.bool (Vp w most)]):=by
 intro σ
 refine Ua Tryz.func151 rfl (Wa Tryz.func151 (by decide) rfl) ?_
 simp [Tryz.ntmps151]
 refine (Yel w hw).use ?_
 unfold Xbr Wab Vp
 cases h:Lib.atoiAll w with
 | ok m =>
  simp
  refine (Yae _ _ _).use ?_
  by_cases h0:0≤m∧m≤most
  ·have:(decide (0≤m)&&decide (m≤most))=true:=by simpa using h0
   rw [this]
   simp
   refine (Yav m (by omega) (by omega)).use ?_
   simp [h0.1,h0.2]
  ·have:(decide (0≤m)&&decide (m≤most))=false:=by rw [Bool.eq_false_iff];simpa using h0
   rw [this]
   simp
 | range=>simp
 | _=>simp
theorem Va6 (n:Int):APure Tryz.prog 190 [.int .i64 n] (.bool false)∧APure Tryz.prog 191 [.int .i64 n] (.bool false):=by
 constructor
 ·intro σ
  refine Ua Tryz.func190 rfl (Wa Tryz.func190 (by decide) rfl) ?_
  simp [Tryz.ntmps190]
 ·intro σ
  refine Ua Tryz.func191 rfl (Wa Tryz.func191 (by decide) rfl) ?_
  simp [Tryz.ntmps191]
def Wk (a b:Int):Int:=if a<b then -1 else if b<a then 1 else 0
theorem Yd3 (a b:Int):APure Tryz.prog 154 [.int .i64 a,.int .i64 b] (.int .i64 (Wk a b)):=by
 intro σ
 refine Ua Tryz.func154 rfl (Wa Tryz.func154 (by decide) rfl) ?_
 simp [Tryz.ntmps154]
 refine (Va6 _).1.use ?_
 refine (Va6 _).1.use ?_
 by_cases h:a<b
 ·simp [Wk,h]
 ·by_cases h2:b<a
  ·simp [Wk,h,h2]
  ·simp [Wk,h,h2]
theorem Ucx (a b:Int):APure Tryz.prog 155 [.int .i64 a,.int .i64 b] (.int .i64 (Wk a b)):=by
 intro σ
 refine Ua Tryz.func155 rfl (Wa Tryz.func155 (by decide) rfl) ?_
 simp [Tryz.ntmps155]
 refine (Va6 _).2.use ?_
 refine (Va6 _).2.use ?_
 by_cases h:a<b
 ·simp [Wk,h]
 ·by_cases h2:b<a
  ·simp [Wk,h,h2]
  ·simp [Wk,h,h2]
def Xd (p:Oyez.Place):AV:=.agg [.int .i64 p.kind,.int .i64 p.number]
attribute [simp] Xd
theorem Vaj (r:Oyez.Rec):APure Tryz.prog 83 [Yd r] (Xd r.place):=by
 refine APure.of fun σ=>?_
 refine Ua Tryz.func83 rfl (Wa Tryz.func83 (by decide) rfl) ?_
 simp [Tryz.ntmps83,Oyez.Rec.place]
def Vl (p q:Oyez.Place):Int:=if Wk p.kind q.kind≠0 then Wk p.kind q.kind else Wk p.number q.number
theorem Udr (a b:Int) (σ:Za) (r:Nat) (h:σ[r]? = some (.cells [.int .i64 a,.int .i64 b])):ACalls Tryz.prog 153 [.arr 1 r 0 2] σ (fun v σ'=>v=.int .i64 (if a≠0 then a else b)∧σ'=σ):=by
 refine Ua Tryz.func153 rfl (Wa Tryz.func153 (by decide) rfl) ?_
 simp [Tryz.ntmps153]
 refine Yc (fun env σ'=>∃ (u:List AV) (i:Nat),env={ t:=u }∧u.length=18∧tg u 3=.int .i64 0∧tg u 6=.arr 1 r 0 2∧tg u 7=.int .i64 2∧tg u 8=.int .i64 i∧σ'=σ∧i≤2∧(0<i→a=0)∧(1<i→b=0))
  (fun env _=>match tg env.t 8 with | .int _ i=>2 - i.toNat | _=>0) ⟨_,0,rfl,by simp,by simp,by simp,by simp,by simp,rfl,by omega,by omega,by omega⟩ ?_
 rintro env σ' ⟨u,i,rfl,hl,g3,g6,g7,g8,rfl,hi,ha,hb⟩
 match i,hi with
 | 0,_ =>
  by_cases h0:a=0
  ·have hw:=w64 (n:=(1:Int)) (by omega) (by omega)
   simp [hl,g3,g6,g7,g8,h,h0,hw]
   exact ⟨1,rfl,by omega,by omega⟩
  ·simp [hl,g3,g6,g7,g8,h,h0]
 | 1,_ =>
  have h0:=ha (by omega)
  by_cases h1:b=0
  ·have hw:=w64 (n:=(2:Int)) (by omega) (by omega)
   simp [hl,g3,g6,g7,g8,h,h0,h1,hw]
   exact ⟨2,rfl,by omega⟩
  ·simp [hl,g3,g6,g7,g8,h,h0,h1]
 | 2,_ =>
  have h0:=ha (by omega)
  have h1:=hb (by omega)
  simp [hl,g3,g6,g7,g8,h,h0,h1]
theorem Ua4 (p q:Oyez.Place):APure Tryz.prog 84 [Xd p,Xd q] (.int .i64 (Vl p q)):=by
 refine APure.of fun σ=>?_
 refine Ua Tryz.func84 rfl (Wa Tryz.func84 (by decide) rfl) ?_
 simp [Tryz.ntmps84]
 refine Xv [10] mixed (by kernel_rfl) ?_
 simp
 refine Wq (Yd3 _ _) ?_
 refine Wq (Ucx _ _) ?_
 simp
 refine Va4 (Udr (Wk p.kind q.kind) (Wk p.number q.number) _ (σ.length+2) (by simp)) ?_
 unfold Vl
 simp
theorem Uaq (p q:Oyez.Place):(Vl p q<0)↔p.lt q=true:=by
 rw [Oyez.Place.lt_iff]
 unfold Vl Wk
 repeat' split
 all_goals omega
theorem Ua0 (w:List UInt8) (most:Nat) (hm:most≤999999):Vp w most=(Oyez.value w most).isSome∧∀ n,Oyez.value w most=some n→Wab w=n:=by
 constructor
 ·cases h:Oyez.value w most with
  | some n =>
   obtain ⟨h1,h2,h3,h4⟩:=Oyez.atoi_value h
   simp [Vp,h1,h2,h3]
   omega
  | none =>
   rw [Option.isSome_none,Bool.eq_false_iff]
   intro ho
   unfold Vp at ho
   split at ho
   ·rename_i m hm1
    simp only [Bool.and_eq_true,decide_eq_true_eq] at ho
    obtain ⟨⟨h1,h2⟩,h3⟩:=ho
    obtain ⟨n,rfl⟩:∃ n:Nat,m=n:=⟨m.toNat,by omega⟩
    rw [Wa4] at h3
    have:=Oyez.value_digits (n:=n) (most:=most) (by omega) hm
    rw [h3,h] at this
    cases this
   ·cases ho
 ·intro n h
  obtain ⟨h1,_⟩:=Oyez.atoi_value h
  simp [Wab,h1]
end Ab
namespace Ab
open Go Go.RowKit Go.Proofs
attribute [local irreducible] aws awp aw1 Og Om Oc Oa Ogd Ov Ot awd Ub awh Xc Ogh Ohd awl Ogl Ohl awv Ogv Ohv Zc Wc QFn Zd QRo QBe ACode AYield
def recAt (rv:AV) (i:Int) (σ:Za):Option AV:=match rv with
 | .pl 3 l=>if 0≤i∧i.toNat<l.length then (l[i.toNat]?).bind (fun x=>if x.cells.length=3 then x.cells[2]? else none) else none
 | .arr 3 r 0 len=>if 0≤i∧i.toNat<len then (match σ[r]? with
  | some (.cells cs)=>if i.toNat*3+3≤cs.length then cs[i.toNat*3+2]? else none
  | _=>none) else none
 | _=>none
def Wad (rv:AV) (es:List (AV × AV)) (k n:Int) (σ:Za):Option (AV × Bool) :=
 match Ve [1,1] [.int .i64 k,.int .i64 n] es 0 with
 | some none=>some (.nils,false)
 | some (some (_,.int .i64 i))=>(recAt rv i σ).map (·,true)
 | _=>none
theorem Xbj (σ:Za) (d m:Nat) (rv:AV) (es:List (AV × AV)) (h1:σ[d]? = some (.cells [rv,.mp m])) (h2:σ[m]? = some (.map es)) (k n:Int) (w:AV) (is:Bool) (h:Wad rv es k n σ=some (w,is)) :
  ACalls Tryz.prog 131 [.ptr d 0,.agg [.int .i64 k,.int .i64 n]] σ (fun v σ'=>v=.tup [w,.bool is]∧∃ g,σ'=σ++g):=by
 have hd:=(Qzs.1 h1).1
 have hm:=(Qzs.1 h2).1
 have h1':∀ g:Za,(σ++g)[d]? = some (.cells [rv,.mp m]):=fun g=>by rw [Qzl hd];exact h1
 have h2':∀ g:Za,(σ++g)[m]? = some (.map es):=fun g=>by rw [Qzl hm];exact h2
 refine Ua Tryz.func131 rfl (Wa Tryz.func131 (by decide) rfl) ?_
 unfold Wad at h
 split at h
 ·rename_i hf
  simp only [Option.some.injEq,Prod.mk.injEq] at h
  obtain ⟨rfl,rfl⟩:=h
  simp [Tryz.ntmps131]
  refine Zg mixed (by kernel_rfl) ?_
  simp [h1',h2',Vac,hf]
 ·rename_i j i hf
  rw [Qzm] at h
  obtain ⟨w',hw,h⟩:=h
  simp only [Prod.mk.injEq] at h
  obtain ⟨rfl,rfl⟩:=h
  unfold recAt at hw
  split at hw
  ·rename_i l
   split at hw
   ·rename_i hi
    rw [Option.bind_eq_some_iff] at hw
    obtain ⟨x,hx,hw⟩:=hw
    split at hw
    ·rename_i hx3
     obtain ⟨l3,rfl⟩:∃ l3,x=.agg l3:=by cases x<;>simp [AV.cells] at hx3<;>exact ⟨_,rfl⟩
     simp only [AV.cells] at hx3 hw
     have hil:i<(l.length:Int):=by omega
     have hx2:∀ h:i.toNat<l.length,l[i.toNat]'h=.agg l3:=fun h=>by
      rw [Qze h] at hx
      exact Option.some.inj hx
     simp [Tryz.ntmps131]
     refine Zg mixed (by kernel_rfl) ?_
     have hw2:∀ h:2<l3.length,l3[2]'h=w':=fun h=>by
      rw [Qze h] at hw
      exact Option.some.inj hw
     simp [h1',h2',Vac,hf,hi.1,hil,hx,hx2,hx3,hw,hw2]
    ·cases hw
   ·cases hw
  ·rename_i r len
   split at hw
   ·rename_i hi
    split at hw
    ·rename_i cs hr
     split at hw
     ·rename_i hc
      have hil:i<(len:Int):=by omega
      have hr':∀ g:Za,(σ++g)[r]? = some (.cells cs):=fun g=>by rw [Qzl (Qzs.1 hr).1];exact hr
      have hc2:i.toNat*3+2+1≤cs.length:=by omega
      simp [Tryz.ntmps131]
      refine Zg mixed (by kernel_rfl) ?_
      simp [h1',h2',Vac,hf,hi.1,hil,hr',hc2,hw]
     ·cases hw
    ·cases hw
   ·cases hw
  ·cases hw
 ·cases h
theorem Xax {σ g:Za} {r:Nat} {o:AObj} (h:σ[r]? = some o):(σ++g)[r]? = some o:=by
 rw [Qzl (Qzs.1 h).1];exact h
theorem Wcw {rv:AV} {i:Int} {σ g:Za} {w:AV} (h:recAt rv i σ=some w):recAt rv i (σ++g)=some w:=by
 unfold recAt at h ⊢
 split at h
 ·exact h
 ·split at h
  ·rename_i hi
   rw [if_pos hi]
   split at h
   ·rename_i cs hr
    rw [Xax hr]
    exact h
   ·cases h
  ·cases h
 ·cases h
theorem Wb3 {rv:AV} {es:List (AV × AV)} {k n:Int} {σ g:Za} {w:AV × Bool} (h:Wad rv es k n σ=some w):Wad rv es k n (σ++g)=some w:=by
 unfold Wad at h ⊢
 split at h
 ·exact h
 ·rw [Qzm] at h
  obtain ⟨x,hx,h⟩:=h
  rw [Wcw hx,Option.map_some,h]
 ·cases h
theorem Wbe (σ:Za) (d m:Nat) (rv:AV) (es:List (AV × AV)) (h1:σ[d]? = some (.cells [rv,.mp m])) (h2:σ[m]? = some (.map es)) (k n:Int) (w:AV) (is:Bool) (h:Wad rv es k n σ=some (w,is)) (hw:w.one=true)
  (hz:∀ S:Za,Fz σ.length S w w):ACalls Tryz.prog 138 [.ptr d 0,.agg [.int .i64 k,.int .i64 n]] σ (fun v σ'=>v=.agg [.bool is,w]∧σ'=σ):=by
 have hc:w.cells=[w]:=by cases w<;>first | rfl | (simp [AV.one] at hw)
 have hr:w.known=true:=by cases w<;>first | rfl | (simp [AV.one] at hw)
 refine ACalls.forget (ACalls.mono (R:=fun v σ'=>v=.agg [.bool is,w]∧∃ g,σ'=σ++g) ?_ fun v σ'=>?_)
 ·refine Ua Tryz.func138 rfl (Wa Tryz.func138 (by decide) rfl) ?_
  simp [Tryz.ntmps138]
  refine StA.of ((Xbj (σ++[.cells [.int .i64 k,.int .i64 n],.cells [.bool false,.nils]]) d m rv es (Xax h1) (Xax h2) k n w is (Wb3 h)).mono ?_)
  rintro v σ' ⟨rfl,g,rfl⟩
  clear hz h
  cases w<;>first | (simp [AV.one] at hw;done) | simp
 ·rintro ⟨rfl,g,rfl⟩
  have hf:Fz σ.length (σ++g) (.agg [.bool is,w]) (.agg [.bool is,w]):=.agg _ _ rfl fun i x y hx hy=>by
   rw [hx] at hy
   obtain rfl:=Option.some.inj hy
   match i,hx with
   | 0,hx=>simp at hx;subst hx;exact .bool _
   | 1,hx=>simp at hx;subst hx;exact hz _
   | i+2,hx=>simp at hx
  exact ⟨g,_,rfl,hf,rfl,rfl⟩
end Ab

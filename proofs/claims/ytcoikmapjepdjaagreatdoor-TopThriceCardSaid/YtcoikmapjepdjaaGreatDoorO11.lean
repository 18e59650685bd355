/-
  Texts packed for a claim.
-/
import Derived.Test.YtcoikmapjepdjaaGreatDoorO00
import Derived.Lib.AtoiAll
import Derived.Lib.ItoaNum
import Derived.Test.YtcoikmapjepdjaaGreatDoorO07
import Derived.Test.YtcoikmapjepdjaaGreatDoorO09
import Derived.Test.YtcoikmapjepdjaaGreatDoorO10
set_option linter.all false
namespace Oyez
open Go
theorem Vaq (c:UInt8):isDig c=true↔48≤c.toNat∧c.toNat≤57:=by simp [isDig,UInt8.le_iff_toNat_le]
theorem Uba {d:Nat} (h:d<10):(UInt8.ofNat (48+d)).toNat=48+d:=by simp;omega
theorem Ycy {d:Nat} (h:d<10):isDig (UInt8.ofNat (48+d))=true:=by rw [Vaq,Uba h];omega
theorem Ucj (a b:S) (k:Nat):Vl (a++b) k=(Vl a k).bind (Vl b):=by
 induction a generalizing k with
 | nil=>rfl
 | cons c t ih =>
  simp only [List.cons_append,Vl]
  split
  ·exact ih _
  ·rfl
theorem Wb3 (n:Nat):Vl (digitsN n) 0=some n:=by
 induction n using Nat.strongRecOn with
 | _ n ih =>
  rcases Qzn n 10 with h | h
  ·rw [digitsN_lt h]
   simp only [Vl,Ycy h,Uba h,if_true]
   congr 1
   omega
  ·rw [digitsN_ge h,Ucj,ih (n / 10) (by omega)]
   have hd:n % 10<10:=Nat.mod_lt _ (by decide)
   simp only [Option.bind_some,Vl,Ycy hd,Uba hd,if_true]
   congr 1
   omega
theorem digits_len:∀ (k n:Nat),n<10^(k+1)→(digitsN n).length≤k+1:=by
 intro k
 induction k with
 | zero=>intro n h;rw [digitsN_lt (by simpa using h)];simp
 | succ k ih =>
  intro n h
  rcases Qzn n 10 with h1 | h1
  ·rw [digitsN_lt h1];simp
  ·rw [digitsN_ge h1,List.length_append]
   have:=ih (n / 10) (by rw [Nat.div_lt_iff_lt_mul (by decide)];rw [Nat.pow_succ] at h;exact h)
   simp;omega
theorem Wco (n:Nat):digitsN n≠[]:=by
 rcases Qzn n 10 with h | h
 ·rw [digitsN_lt h];simp
 ·rw [digitsN_ge h];simp
theorem Yhh {n:Nat} (h:1≤n):(digitsN n).head?≠some 48:=by
 induction n using Nat.strongRecOn with
 | _ n ih =>
  rcases Qzn n 10 with h1 | h1
  ·rw [digitsN_lt h1]
   simp only [List.head?_cons,ne_eq,Option.some.injEq]
   intro e
   have:=congrArg UInt8.toNat e
   rw [Uba h1] at this
   have e2:(48:UInt8).toNat=48:=rfl
   omega
  ·have e:(digitsN (n / 10)++[UInt8.ofNat (48+n % 10)]).head? = (digitsN (n / 10)).head?:=by
    cases hd:digitsN (n / 10) with
    | nil=>exact absurd hd (Wco _)
    | cons x t=>rfl
   rw [digitsN_ge h1,e]
   exact ih (n / 10) (by omega) (by omega)
theorem value_digits {n most:Nat} (h:n≤most) (hm:most≤999999):value (digitsN n) most=some n:=by
 have hl:=digits_len 5 n (by omega)
 unfold value
 have h0:(digitsN n).isEmpty=false:=by simpa using Wco n
 rw [h0,if_neg (by simp),if_neg (by omega),if_neg,Wb3]
 ·simp only;rw [if_neg (by omega)]
 ·rintro ⟨h1,h2⟩
  rcases Nat.eq_zero_or_pos n with hn | hn
  ·subst hn;rw [digitsN_lt (by decide)] at h2;simp at h2
  ·exact Yhh hn h1
theorem Yb6 {w:S} {k n:Nat} (h:Vl w k=some n):k≤n∧(1≤k→1≤n):=by
 induction w generalizing k with
 | nil=>simp [Vl] at h;omega
 | cons c t ih =>
  simp only [Vl] at h
  split at h
  ·have:=ih h;omega
  ·cases h
theorem Ygg:∀ (m:Nat) (w:S) (n:Nat),w.length=m→w≠[]→(1<w.length→w.head?≠some 48)→Vl w 0=some n→digitsN n=w:=by
 intro m
 induction m with
 | zero=>intro w n hl hne;exact absurd (List.eq_nil_of_length_eq_zero hl) hne
 | succ m ih =>
  intro w n hl hne hz hv
  obtain ⟨w',c,rfl⟩:∃ w' c,w=w'++[c]:=⟨w.dropLast,w.getLast hne,(List.dropLast_concat_getLast hne).symm⟩
  rw [Ucj] at hv
  cases h':Vl w' 0 with
  | none=>rw [h'] at hv;cases hv
  | some n' =>
   rw [h'] at hv
   simp only [Option.bind_some,Vl] at hv
   split at hv
   ·rename_i hd
    rw [Vaq] at hd
    simp only [Option.some.injEq] at hv
    have hc:UInt8.ofNat (48+(c.toNat - 48))=c:=by rw [show 48+(c.toNat - 48)=c.toNat by omega];simp
    cases w' with
    | nil =>
     simp [Vl] at h'
     subst h'
     rw [← hv,Nat.mul_zero,Nat.zero_add,digitsN_lt (by omega),hc]
     rfl
    | cons x t =>
     have hx:x≠48:=by
      have:=hz (by simp)
      simpa using this
     have hn':1≤n':=by
      simp only [Vl] at h'
      split at h'
      ·rename_i hxd
       rw [Vaq] at hxd
       refine (Yb6 h').2 ?_
       have:x.toNat≠48:=fun e=>hx (by have:=congrArg UInt8.ofNat e;simpa using this)
       omega
      ·cases h'
     have:=ih (x::t) n' (by simpa using hl) (by simp) (fun _=>by simpa using hx) h'
     rw [← hv,digitsN_ge (by omega),show (10*n'+(c.toNat - 48)) / 10=n' by omega,show (10*n'+(c.toNat - 48)) % 10=c.toNat - 48 by omega,this,hc]
   ·cases hv
theorem Xg9:∀ (w:S) (k n:Nat),Vl w k=some n→n<10^18→Lib.parseUint10 k w=.ok n:=by
 intro w
 induction w with
 | nil=>intro k n h _;simp [Vl] at h;subst h;rfl
 | cons c t ih =>
  intro k n h hn
  simp only [Vl] at h
  split at h
  ·rename_i hd
   rw [Vaq] at hd
   have hle:=(Yb6 h).1
   unfold Lib.parseUint10
   rw [if_pos hd,if_neg (by omega),if_neg (by omega)]
   rw [show k*10+(c.toNat - 48)=10*k+(c.toNat - 48) by omega]
   exact ih _ _ h hn
  ·cases h
theorem Yia:∀ (w:S) (k n:Nat),Vl w k=some n→n<(k+1)*10^w.length:=by
 intro w
 induction w with
 | nil=>intro k n h;simp [Vl] at h;subst h;simp
 | cons c t ih =>
  intro k n h
  simp only [Vl] at h
  split at h
  ·rename_i hd
   rw [Vaq] at hd
   have h1:=ih _ _ h
   refine Nat.lt_of_lt_of_le h1 ?_
   rw [List.length_cons,Nat.pow_succ,Nat.mul_comm (10^t.length) 10,← Nat.mul_assoc]
   exact Nat.mul_le_mul_right _ (by omega)
  ·cases h
theorem Yd9 {w:S} {most n:Nat} (h:value w most=some n):w≠[]∧w.length≤6∧(1<w.length→w.head?≠some 48)∧Vl w 0=some n∧n≤most:=by
 unfold value at h
 split at h
 ·cases h
 ·rename_i h1
  split at h
  ·cases h
  ·rename_i h2
   split at h
   ·cases h
   ·rename_i h3
    split at h
    ·rename_i m hm
     split at h
     ·cases h
     ·rename_i h4
      simp only [Option.some.injEq] at h
      subst h
      exact ⟨by simpa using h1,by omega,fun h5 h6=>h3 ⟨h6,h5⟩,hm,by omega⟩
    ·cases h
theorem atoi_value {w:S} {most n:Nat} (h:value w most=some n):Lib.atoiAll w=.ok n∧Lib.itoa n=digitsN n∧digitsN n=w∧n≤most:=by
 obtain ⟨h1,h2,h3,h4,h5⟩:=Yd9 h
 have hdec:∀ n,Lib.decDigits n=digitsN n:=by
  intro n
  induction n using Nat.strongRecOn with
  | _ n ih =>
   rw [Lib.decDigits]
   rcases Qzn n 10 with h | h
   ·rw [dif_pos h,digitsN_lt h]
   ·rw [dif_neg (by omega),digitsN_ge h,ih (n / 10) (by omega)]
 have hb:=Yia _ _ _ h4
 have hb2:n<10^6:=Nat.lt_of_lt_of_le hb (by rw [Nat.zero_add,Nat.one_mul];exact Nat.pow_le_pow_right (by decide) h2)
 refine ⟨?_,?_,Ygg _ w n rfl h1 h3 h4,h5⟩
 ·cases w with
  | nil=>exact absurd rfl h1
  | cons c t =>
   have hc:isDig c=true:=by
    simp only [Vl] at h4
    split at h4
    ·rename_i h;exact h
    ·cases h4
   rw [Vaq] at hc
   unfold Lib.atoiAll
   simp only
   rw [if_neg (by omega)]
   unfold Lib.parseMag
   rw [if_neg (by simp),Xg9 _ _ _ h4 (by omega)]
   simp only
   rw [if_neg (by omega),if_neg (by omega),if_neg (by omega)]
 ·unfold Lib.itoa
  rw [if_neg (by omega),Int.toNat_natCast,hdec]
end Oyez
namespace Ab
open Go Go.RowKit Go.Proofs
attribute [local irreducible] aws awp aw1 Og Om Oc Oa Ogd Ov Ot awd Zb awh Wb Ogh Ohd Xb Vb QFn Ub ACode AYield
def Ya1 (s:List UInt8):AV:=match Lib.atoiAll s with
 | .ok m=>.tup [.int .i64 m,.nili]
 | .range=>.tup [.int .i64 (Lib.atoiSat s),.iface 314 .any]
 | _=>.tup [.int .i64 0,.iface 314 .any]
theorem Yb5 (s:List UInt8) (hs:s.length≤2^40):APure Tryz.prog 46 [.str s] (Ya1 s):=by
 refine APure.kit (Ua Tryz.func46 (by decide) rfl) fun C cargs σ hI hv=>?_
 obtain ⟨x,r,rfl,h2,h3⟩:=hv.inv
 obtain rfl:=h3.of_nil
 rw [h2.str_inv]
 have hsz:(ByteArray.mk ⟨s⟩).size=s.length:=rfl
 unfold Ya1
 cases h:Lib.atoiAll s with
 | ok m =>
  refine (Tryz.strconv_Atoi_ok ⟨⟨s⟩⟩ (by rw [hsz];omega) m h C.w).mono ?_
  rintro e w' ⟨rfl,hw⟩
  refine ⟨_,rfl,.tup _ [_,_] rfl (VRs.cons (.int _ _) (.cons .nili (.nil C))).at_,?_⟩
  rcases hw with rfl | ⟨t,rfl⟩
  ·exact Below.refl _ _
  ·exact Lib.bytesWorld_below _ _ _
 | range =>
  obtain ⟨tp,p,hg⟩:=(Vbo hI).rng
  refine (Tryz.strconv_Atoi_range_var ⟨⟨s⟩⟩ (by rw [hsz];omega) h tp p C.w hg).mono ?_
  rintro e w' ⟨N,rfl,_,_,hb⟩
  exact ⟨_,rfl,.tup _ [_,_] rfl (VRs.cons (.int _ _) (.cons (.iface _ _ _ (.any _)) (.nil C))).at_,hb⟩
 | _ =>
  obtain ⟨tp,p,hg⟩:=(Vbo hI).syn
  refine (Tryz.strconv_Atoi_bad_var ⟨⟨s⟩⟩ (by rw [hsz];omega) (h.trans rfl) tp p C.w hg).mono ?_
  rintro e w' ⟨N,rfl,_,_,hb⟩
  exact ⟨_,rfl,.tup _ [_,_] rfl (VRs.cons (.int _ _) (.cons (.iface _ _ _ (.any _)) (.nil C))).at_,hb⟩
theorem Yah (n lo hi:Int):APure Tryz.prog 121 [.int .i64 n,.int .i64 lo,.int .i64 hi] (.bool (decide (lo≤n)&&decide (n≤hi))):=by
 intro σ
 refine Yb Tryz.func121 rfl (Ua Tryz.func121 (by decide) rfl) ?_
 by_cases h:lo≤n
 ·simp [Tryz.ntmps121,h]
 ·simp [Tryz.ntmps121,h]
def Us (w:List UInt8) (most:Int):Bool:=match Lib.atoiAll w with
 | .ok m=>decide (0≤m)&&decide (m≤most)&&decide (Lib.itoa m=w)
 | _=>false
def Yad (w:List UInt8):Int:=match Lib.atoiAll w with
 | .ok m=>m
 | .range=>Lib.atoiSat w
 | _=>0
theorem Yco (w:List UInt8) (most:Int) (hw:w.length≤2^40) (hm:most≤2^40):APure Tryz.prog 195 [.str w,.int .i64 most] (.tup [.int .i64 (Yad w),.bool (Us w most)]):=by
 intro σ
 refine Yb Tryz.func195 rfl (Ua Tryz.func195 (by decide) rfl) ?_
 simp [Tryz.ntmps195]
 refine (Yb5 w hw).use ?_
 unfold Ya1 Yad Us
 cases h:Lib.atoiAll w with
 | ok m =>
  simp
  refine (Yah _ _ _).use ?_
  by_cases h0:0≤m∧m≤most
  ·have:(decide (0≤m)&&decide (m≤most))=true:=by simpa using h0
   rw [this]
   simp
   refine (Xa1 m (by omega) (by omega)).use ?_
   simp [h0.1,h0.2]
  ·have:(decide (0≤m)&&decide (m≤most))=false:=by rw [Bool.eq_false_iff];simpa using h0
   rw [this]
   simp
 | range=>simp
 | _=>simp
theorem Va7 (n:Int):APure Tryz.prog 243 [.int .i64 n] (.bool false)∧APure Tryz.prog 229 [.int .i64 n] (.bool false):=by
 constructor
 ·intro σ
  refine Yb Tryz.func243 rfl (Ua Tryz.func243 (by decide) rfl) ?_
  simp [Tryz.ntmps243]
 ·intro σ
  refine Yb Tryz.func229 rfl (Ua Tryz.func229 (by decide) rfl) ?_
  simp [Tryz.ntmps229]
def Vt (a b:Int):Int:=if a<b then -1 else if b<a then 1 else 0
theorem Ufj (a b:Int):APure Tryz.prog 175 [.int .i64 a,.int .i64 b] (.int .i64 (Vt a b)):=by
 intro σ
 refine Yb Tryz.func175 rfl (Ua Tryz.func175 (by decide) rfl) ?_
 simp [Tryz.ntmps175]
 refine (Va7 _).1.use ?_
 refine (Va7 _).1.use ?_
 by_cases h:a<b
 ·simp [Vt,h]
 ·by_cases h2:b<a
  ·simp [Vt,h,h2]
  ·simp [Vt,h,h2]
theorem Wg3 (a b:Int):APure Tryz.prog 155 [.int .i64 a,.int .i64 b] (.int .i64 (Vt a b)):=by
 intro σ
 refine Yb Tryz.func155 rfl (Ua Tryz.func155 (by decide) rfl) ?_
 simp [Tryz.ntmps155]
 refine (Va7 _).2.use ?_
 refine (Va7 _).2.use ?_
 by_cases h:a<b
 ·simp [Vt,h]
 ·by_cases h2:b<a
  ·simp [Vt,h,h2]
  ·simp [Vt,h,h2]
def Vag (p:Oyez.Place):AV:=.agg [.int .i64 p.kind,.int .i64 p.number]
attribute [simp] Vag
theorem Xay (r:Oyez.Rec):APure Tryz.prog 124 [Yg r] (Vag r.place):=by
 refine APure.of fun σ=>?_
 refine Yb Tryz.func124 rfl (Ua Tryz.func124 (by decide) rfl) ?_
 simp [Tryz.ntmps124,Oyez.Rec.place]
def Zam (p q:Oyez.Place):Int:=if Vt p.kind q.kind≠0 then Vt p.kind q.kind else Vt p.number q.number
theorem Wd7 (a b:Int) (σ:Za) (r:Nat) (h:σ[r]? = some (.cells [.int .i64 a,.int .i64 b])):ACalls Tryz.prog 174 [.arr 1 r 0 2] σ (fun v σ'=>v=.int .i64 (if a≠0 then a else b)∧σ'=σ):=by
 refine Yb Tryz.func174 rfl (Ua Tryz.func174 (by decide) rfl) ?_
 simp [Tryz.ntmps174]
 refine Xc (fun env σ'=>∃ (u:List AV) (i:Nat),env={ t:=u }∧u.length=18∧tg u 3=.int .i64 0∧tg u 6=.arr 1 r 0 2∧tg u 7=.int .i64 2∧tg u 8=.int .i64 i∧σ'=σ∧i≤2∧(0<i→a=0)∧(1<i→b=0))
  (fun env _=>match tg env.t 8 with | .int _ i=>2 - i.toNat | _=>0) ⟨_,0,rfl,by simp,by simp,by simp,by simp,by simp,rfl,by omega,by omega,by omega⟩ ?_
 rintro env σ' ⟨u,i,rfl,hl,g3,g6,g7,g8,rfl,hi,ha,hb⟩
 match i,hi with
 | 0,_ =>
  by_cases h0:a=0
  ·have hw:=w64 (n:=(1:Int)) (by omega) (by omega)
   simp [hl,g3,g6,g7,g8,h,h0,hw]
   exact ⟨1,rfl,by omega,by omega⟩
  ·simp [hl,g3,g6,g7,g8,h,h0]
 | 1,_ =>
  have h0:=ha (by omega)
  by_cases h1:b=0
  ·have hw:=w64 (n:=(2:Int)) (by omega) (by omega)
   simp [hl,g3,g6,g7,g8,h,h0,h1,hw]
   exact ⟨2,rfl,by omega⟩
  ·simp [hl,g3,g6,g7,g8,h,h0,h1]
 | 2,_ =>
  have h0:=ha (by omega)
  have h1:=hb (by omega)
  simp [hl,g3,g6,g7,g8,h,h0,h1]
theorem Wb8 (p q:Oyez.Place):APure Tryz.prog 100 [Vag p,Vag q] (.int .i64 (Zam p q)):=by
 refine APure.of fun σ=>?_
 refine Yb Tryz.func100 rfl (Ua Tryz.func100 (by decide) rfl) ?_
 simp [Tryz.ntmps100]
 refine Wa2 [10] mixed (by kernel_rfl) ?_
 simp
 refine Zaj (Ufj _ _) ?_
 refine Zaj (Wg3 _ _) ?_
 simp
 refine Vfx (Wd7 (Vt p.kind q.kind) (Vt p.number q.number) _ (σ.length+2) (by simp)) ?_
 unfold Zam
 simp
theorem Vcd (p q:Oyez.Place):(Zam p q<0)↔p.lt q=true:=by
 rw [Oyez.Place.lt_iff]
 unfold Zam Vt
 repeat' split
 all_goals omega
theorem Xa8 (w:List UInt8) (most:Nat) (hm:most≤999999):Us w most=(Oyez.value w most).isSome∧∀ n,Oyez.value w most=some n→Yad w=n:=by
 constructor
 ·cases h:Oyez.value w most with
  | some n =>
   obtain ⟨h1,h2,h3,h4⟩:=Oyez.atoi_value h
   simp [Us,h1,h2,h3]
   omega
  | none =>
   rw [Option.isSome_none,Bool.eq_false_iff]
   intro ho
   unfold Us at ho
   split at ho
   ·rename_i m hm1
    simp only [Bool.and_eq_true,decide_eq_true_eq] at ho
    obtain ⟨⟨h1,h2⟩,h3⟩:=ho
    obtain ⟨n,rfl⟩:∃ n:Nat,m=n:=⟨m.toNat,by omega⟩
    rw [Ybd] at h3
    have:=Oyez.value_digits (n:=n) (most:=most) (by omega) hm
    rw [h3,h] at this
    cases this
   ·cases ho
 ·intro n h
  obtain ⟨h1,_⟩:=Oyez.atoi_value h
  simp [Yad,h1]
end Ab
namespace Ab
open Go Go.RowKit Go.Proofs
attribute [local irreducible] aws awp aw1 Og Om Oc Oa Ogd Ov Ot awd Zb awh Wb Ogh Ohd Xb Vb QFn Ub ACode AYield
theorem Zgh (r:Int) (h:128≤r):∃ (pre:List UInt8) (b:UInt8),(Utf8.encode r).data.toList=pre++[b]∧1≤pre.length∧pre.length≤3∧128≤b.toNat:=by
 have hv:∀ n:Nat,n<64→128≤(UInt8.ofNat (0x80+n)).toNat:=fun n hn=>by simp;omega
 have hc:0x80≤(if Utf8.valid r then r.toNat else Utf8.runeError):=by
  split
  ·omega
  ·decide
 unfold Utf8.encode
 simp only
 generalize (if Utf8.valid r then r.toNat else Utf8.runeError)=c at hc
 rw [if_neg (by omega)]
 split
 ·exact ⟨[UInt8.ofNat (0xC0+c / 64)],UInt8.ofNat (0x80+c % 64),rfl,by simp,by simp,hv _ (Nat.mod_lt _ (by decide))⟩
 ·split
  ·exact ⟨[UInt8.ofNat (0xE0+c / 4096),UInt8.ofNat (0x80+c / 64 % 64)],UInt8.ofNat (0x80+c % 64),rfl,by simp,by simp,hv _ (Nat.mod_lt _ (by decide))⟩
  ·exact ⟨[UInt8.ofNat (0xF0+c / 262144),UInt8.ofNat (0x80+c / 4096 % 64),UInt8.ofNat (0x80+c / 64 % 64)],UInt8.ofNat (0x80+c % 64),rfl,by simp,by simp,hv _ (Nat.mod_lt _ (by decide))⟩
theorem Wcp (s:List UInt8) (i:Nat) (h:i<s.length) (hb:s[i].toNat<128):Utf8.decode ⟨⟨s⟩⟩ i=(s[i].toNat,1):=by
 have hg:(ByteArray.mk ⟨s⟩).get! i=s[i]:=by
  show (Array.mk s)[i]! = _
  simp [h]
 unfold Utf8.decode
 simp only [Nat.add_zero,hg]
 rw [if_pos hb]
theorem decode_high (s:List UInt8) (i:Nat) (h:i<s.length) (hb:¬ s[i].toNat<128):128≤(Utf8.decode ⟨⟨s⟩⟩ i).1∧(Utf8.decode ⟨⟨s⟩⟩ i).1<2^21∧1≤(Utf8.decode ⟨⟨s⟩⟩ i).2:=by
 have hg:(ByteArray.mk ⟨s⟩).get! i=s[i]:=by
  show (Array.mk s)[i]! = _
  simp [h]
 have hb2:=s[i].toNat_lt
 unfold Utf8.decode
 simp only [Nat.add_zero,hg]
 rw [if_neg hb]
 have hre:Utf8.runeError=65533:=rfl
 generalize ((ByteArray.mk ⟨s⟩).get! (i+1)).toNat=a1
 generalize ((ByteArray.mk ⟨s⟩).get! (i+2)).toNat=a2
 generalize ((ByteArray.mk ⟨s⟩).get! (i+3)).toNat=a3
 generalize s[i].toNat=b0 at *
 have m1:=Nat.mod_lt a1 (show 0<64 by decide)
 have m2:=Nat.mod_lt a2 (show 0<64 by decide)
 have m3:=Nat.mod_lt a3 (show 0<64 by decide)
 repeat' split
 all_goals (try simp only [hre])
 all_goals (try simp only [Bool.and_eq_true,decide_eq_true_eq,ge_iff_le] at *)
 all_goals omega
theorem Xcl (s:List UInt8) (c:UInt8):APure Tryz.prog 354 [.str s,.int .u8 c.toNat] (.int .i64 (Lib.indexByte s c)):=by
 intro σ
 refine Yb Tryz.func354 rfl (Ua Tryz.func354 (by decide) rfl) ?_
 simp [Tryz.ntmps354]
 refine (Wb7 s c).use ?_
 simp
theorem indexByte_none {s:List UInt8} {c:UInt8} (h:c∉s):Lib.indexByte s c=-1:=by
 induction s with
 | nil=>rfl
 | cons b t ih =>
  simp only [List.mem_cons,not_or] at h
  unfold Lib.indexByte
  rw [if_neg (by simpa using Ne.symm h.1),ih h.2]
  rfl
abbrev digs:List UInt8:=[48,49,50,51,52,53,54,55,56,57]
theorem Zd0 (c:Int) (h0:0≤c):∃ b:Bool,APure Tryz.prog 355 [.int .i32 c] (.bool b):=by
 by_cases h:c<55296
 ·refine ⟨true,fun σ=>?_⟩
  refine Yb Tryz.func355 rfl (Ua Tryz.func355 (by decide) rfl) ?_
  simp [Tryz.ntmps355,h0,h]
 ·by_cases h2:57343<c
  ·by_cases h3:c≤1114111
   ·refine ⟨true,fun σ=>?_⟩
    refine Yb Tryz.func355 rfl (Ua Tryz.func355 (by decide) rfl) ?_
    simp [Tryz.ntmps355,h0,h,h2,h3]
   ·refine ⟨false,fun σ=>?_⟩
    refine Yb Tryz.func355 rfl (Ua Tryz.func355 (by decide) rfl) ?_
    simp [Tryz.ntmps355,h0,h,h2,h3]
  ·refine ⟨false,fun σ=>?_⟩
   refine Yb Tryz.func355 rfl (Ua Tryz.func355 (by decide) rfl) ?_
   simp [Tryz.ntmps355,h0,h,h2]
theorem Ua6:∀ i,(h:i<digs.length)→(digs[i]'h).toNat<128:=by decide
set_option maxRecDepth 8000 in
set_option maxHeartbeats 1000000 in
theorem Ug0 (c:Int) (h0:0≤c) (h1:c<2^21):APure Tryz.prog 344 [.str digs,.int .i32 c] (.int .i64 (if c<128 then Lib.indexByte digs (UInt8.ofNat c.toNat) else -1)):=by
 refine APure.of fun σ=>?_
 refine Yb Tryz.func344 rfl (Ua Tryz.func344 (by decide) rfl) ?_
 by_cases hc:c<128
 ·have hb:((UInt8.ofNat c.toNat).toNat:Int)=c:=by simp;omega
  have hw:=w8 h0 (by omega:c≤255)
  have hs:=Xcl digs (UInt8.ofNat c.toNat)
  rw [hb] at hs
  simp [Tryz.ntmps344,h0,hc,hw]
  refine hs.use ?_
  simp
 ·rw [if_neg hc]
  by_cases he:c=65533
  ·subst he
   simp [Tryz.ntmps344]
   refine Xc (fun env σ'=>∃ (u:List AV) (pos:Nat),env={ t:=u }∧u.length=187∧tg u 175=.ptr σ.length 0∧σ'=σ++[.iter digs pos]∧pos≤10)
    (fun _ σ'=>match σ'[σ.length]? with | some (.iter _ pos)=>10 - pos | _=>0) ⟨_,0,rfl,by simp,by simp,rfl,by omega⟩ ?_
   rintro env σ' ⟨u,pos,rfl,hl,g,rfl,hp⟩
   rcases Qzn pos 10 with hlt | hge
   ·have hd:=Wcp digs pos hlt (Ua6 pos hlt)
    have hne:¬ (((digs[pos]'hlt).toNat:Nat):Int)=65533:=by have:=Ua6 pos hlt;omega
    simp [hl,g,hlt,hd,hne]
    omega
   ·have hge':¬ pos<10:=by omega
    simp [hl,g,hge']
  ·simp [Tryz.ntmps344,h0,hc,he]
   obtain ⟨b,hb⟩:=Zd0 c h0
   refine hb.use ?_
   cases b with
   | false=>simp
   | true =>
    obtain ⟨pre,x,hx,hp1,hp2,hx2⟩:=Zgh c (by omega)
    have hwp:=w64 (n:=(pre.length:Int)) (by omega) (by omega)
    simp
    refine Zbk ?_
    simp [hx,hwp]
    refine Xc (fun env σ'=>∃ (u:List AV),env={ t:=u }∧u.length=187∧tg u 0=.str digs∧tg u 7=.str (pre++[x])∧tg u 8=.int .i64 pre.length∧tg u 9=.int .i64 pre.length∧σ'=σ)
     (fun _ _=>0) ⟨_,rfl,by simp,by simp,by simp,by simp,by simp,rfl⟩ ?_
    rintro env σ' ⟨u,rfl,hl,g0,g7,g8,g9,rfl⟩
    have hnd:∀ l:List UInt8,(∀ y∈l,y.toNat<128)→Lib.indexByte l x=-1:=fun l hl=>indexByte_none fun hm=>by have:=hl x hm;omega
    obtain ⟨y,hy,hy2,hrest⟩:∃ y,digs[pre.length]? = some y∧y.toNat<128∧Lib.indexByte (digs.drop (pre.length+1)) x=-1:=by
     have:pre.length<10:=by omega
     refine ⟨digs[pre.length]'this,Qze this,Ua6 _ this,hnd _ fun y hy=>?_⟩
     obtain ⟨i,hi,rfl⟩:=List.mem_iff_getElem.1 (List.mem_of_mem_drop hy)
     exact Ua6 i hi
    have hlt:(pre.length:Int)<10:=by omega
    have hlt2:pre.length<10:=by omega
    have hne:¬ ((y.toNat:Nat):Int)=(x.toNat:Int):=by omega
    have hw1:=w64 (n:=(pre.length:Int)+1) (by omega) (by omega)
    have h9:(0:Int)≤(pre.length:Int)+1:=by omega
    have h10:pre.length+1≤10:=by omega
    have hxa:(pre++[x])[pre.length]? = some x:=by simp
    generalize hn:pre.length=n at *
    have hcall:=Xcl (digs.drop (n+1)) x
    rw [hrest] at hcall
    generalize hdg:digs=D at *
    have hDl:D.length=10:=by rw [← hdg];rfl
    have hD10:((D.length:Nat):Int)=10:=by rw [hDl];rfl
    have htk:List.drop (n+1) (List.take D.length D)=D.drop (n+1):=by rw [List.take_length]
    have htk2:List.drop (n+1) (List.take 10 D)=D.drop (n+1):=by rw [← hDl,List.take_length]
    simp [hl,g0,g7,g8,g9,hDl,hlt]
    refine Zbk ?_
    simp
    refine Ym mixed (by kernel_rfl) ?_
    simp [hl,g0,g7,g8,g9,hDl,hlt,hy,hxa,hne]
    refine Ym mixed (by kernel_rfl) ?_
    simp [hl,g0,g7,g8,g9,hDl,hw1,h9,h10,hxa,htk,htk2]
    refine Zaj hcall ?_
    simp [hl,g0,g7,g8,g9]
def Wak (c:Int):Bool:=(decide (97≤c)&&decide (c≤122))||(decide (48≤c)&&decide (c≤57))
theorem Whb:∀ n:Nat,n<128→(decide (0≤Lib.indexByte digs (UInt8.ofNat n))=(decide (48≤n)&&decide (n≤57))):=by decide +kernel
theorem Wg9 (c:Int) (h0:0≤c) (h1:c<2^21):APure Tryz.prog 313 [.str digs,.int .i32 c] (.bool (decide (48≤c)&&decide (c≤57))):=by
 intro σ
 refine Yb Tryz.func313 rfl (Ua Tryz.func313 (by decide) rfl) ?_
 simp [Tryz.ntmps313]
 refine (Ug0 c h0 h1).use ?_
 by_cases hc:c<128
 ·obtain ⟨n,rfl⟩:∃ n:Nat,c=n:=⟨c.toNat,by omega⟩
  have h:=Whb n (by omega)
  rw [if_pos hc,Int.toNat_natCast]
  generalize Lib.indexByte digs (UInt8.ofNat n)=q at *
  have e:(decide (48≤(n:Int))&&decide ((n:Int)≤57))=decide (0≤q):=by
   rw [h,Bool.eq_iff_iff];simp;omega
  rw [e]
  simp
 ·rw [if_neg hc]
  have e:(decide (48≤c)&&decide (c≤57))=false:=by rw [Bool.eq_false_iff];simp;omega
  rw [e]
  simp
theorem Zcj (c:Int) (h0:0≤c) (h1:c<2^21):APure Tryz.prog 266 [.agg [.str digs],.int .i32 c] (.bool (Wak c)):=by
 refine APure.of fun σ=>?_
 refine Yb Tryz.func266 rfl (Ua Tryz.func266 (by decide) rfl) ?_
 have hw:=w64 (n:=c) (by omega) (by omega)
 simp [Tryz.ntmps266,hw]
 refine (Yah _ _ _).use ?_
 unfold Wak
 by_cases h:97≤c∧c≤122
 ·have e:(decide (97≤c)&&decide (c≤122))=true:=by simpa using h
  rw [e]
  simp
 ·have e:(decide (97≤c)&&decide (c≤122))=false:=by rw [Bool.eq_false_iff];simpa using h
  rw [e]
  simp
  refine (Wg9 c h0 h1).use ?_
  simp
theorem Ybn (b:UInt8):Wak (b.toNat:Int)=Oyez.isWordByte b:=by
 have hlow:Oyez.isLow b=true↔97≤b.toNat∧b.toNat≤122:=by simp [Oyez.isLow,UInt8.le_iff_toNat_le]
 have hdig:=Yfk b
 rw [Bool.eq_iff_iff]
 unfold Wak Oyez.isWordByte
 rw [Bool.or_eq_true,Bool.or_eq_true,hlow,hdig]
 simp
 omega
theorem notWord {w:List UInt8} {b:UInt8} (hm:b∈w) (h:Oyez.isWordByte b=false):Oyez.word w=false:=by
 have:w.all Oyez.isWordByte=false:=by
  rw [Bool.eq_false_iff];intro e
  rw [List.all_eq_true.1 e b hm] at h
  cases h
 simp [Oyez.word,this]
set_option maxRecDepth 4000 in
theorem Ycq (w:List UInt8) (hw:w.length<2^50):APure Tryz.prog 201 [.str w] (.bool (Oyez.word w)):=by
 refine APure.of fun σ=>?_
 refine Yb Tryz.func201 rfl (Ua Tryz.func201 (by decide) rfl) ?_
 simp [Tryz.ntmps201]
 refine Xc (fun env σ'=>∃ (u:List AV) (pos:Nat),env={ t:=u }∧u.length=20∧tg u 0=.str w∧tg u 3=.fn (.func 266) [.agg [.str digs]] []∧tg u 9=.ptr σ.length 0∧σ'=σ++[.iter w pos]∧pos≤w.length∧∀ x,x∈w.take pos→Oyez.isWordByte x=true)
  (fun _ σ'=>match σ'[σ.length]? with | some (.iter _ pos)=>w.length - pos | _=>0) ⟨_,0,rfl,by simp,by simp,by simp,by simp,rfl,by omega,fun x hx=>by simp at hx⟩ ?_
 rintro env σ' ⟨u,pos,rfl,hl,g0,g3,g9,rfl,hp,hd⟩
 rcases Qzn pos w.length with hlt | hge
 ·by_cases hb:w[pos].toNat<128
  ·have hdc:=Wcp w pos hlt hb
   simp [hl,g0,g3,g9,hlt,hdc]
   refine (Zcj _ (by omega) (by omega)).use ?_
   cases hm:Wak (w[pos].toNat:Int) with
   | true =>
    simp [hl,g0,g3,g9]
    have htake:w.take (pos+1)=w.take pos++[w[pos]]:=by rw [List.take_add_one,Qze hlt];rfl
    refine ⟨⟨hlt,fun x hx=>?_⟩,by omega⟩
    rw [htake] at hx
    rcases List.mem_append.1 hx with h | h
    ·exact hd x h
    ·simp at h;subst h;rw [← Ybn];exact hm
   | false =>
    simp [hl,g0,g3,g9]
    exact notWord (List.getElem_mem hlt) (by rw [← Ybn];exact hm)
  ·obtain ⟨d1,d2,d3⟩:=decode_high w pos hlt hb
   simp [hl,g0,g3,g9,hlt]
   refine (Zcj _ (by omega) (by omega)).use ?_
   have hm:Wak ((Utf8.decode ⟨⟨w⟩⟩ pos).1:Int)=false:=by
    unfold Wak;rw [Bool.eq_false_iff];simp;omega
   rw [hm]
   simp [hl,g0,g3,g9]
   refine notWord (List.getElem_mem hlt) ?_
   rw [← Ybn]
   unfold Wak;rw [Bool.eq_false_iff];simp;omega
 ·have hge':¬ pos<w.length:=by omega
  simp [hl,g0,g3,g9,hge']
  refine (Yah _ _ _).use ?_
  simp [hl,g0,g3,g9]
  rw [List.take_of_length_le hge] at hd
  have hall:w.all Oyez.isWordByte=true:=List.all_eq_true.2 hd
  rw [Oyez.word,hall,Bool.true_and,Bool.eq_iff_iff]
  simp
  omega
end Ab

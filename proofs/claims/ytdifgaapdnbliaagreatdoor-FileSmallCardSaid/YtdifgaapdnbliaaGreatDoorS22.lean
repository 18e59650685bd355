/-
  Texts packed for a claim.
-/
import Derived.Test.YtdifgaapdnbliaaGreatDoorS00
import Derived.Test.YtdifgaapdnbliaaGreatDoorS11
import Derived.Test.YtdifgaapdnbliaaGreatDoorS16
import Derived.Test.YtdifgaapdnbliaaGreatDoorS21
import Derived.Test.YtdifgaapdnbliaaGreatDoorS17
set_option linter.all false
namespace Ab
open Go Go.RowKit Go.Proofs
attribute [local irreducible] aws awp aw1 Og Om Oc Oa Ogd Ov Ot awd Ub awh Xc Ogh Ohd awl Ogl Ohl awv Ogv Ohv Zc Wc QFn Zd QRo QBe ACode AYield
def Zi (ws:List (List UInt8)):Bool:=ws.any (fun w=>decide (90<w.length))||decide (10<ws.length)
def Wu (f:List Oyez.Rec):Bool:=f.any (fun r=>Zi r.words)||decide (60<f.length)
theorem Wbp {α:Type} (p:α→Bool) (l:List α) {i:Nat} (h:i<l.length) (h0:(l.take i).any p=false):(l.take (i+1)).any p=p l[i]:=by
 rw [Qzt h,List.any_append,h0]
 simp
theorem Za8 {α:Type} (p:α→Bool) (l:List α) {i:Nat} (h:i<l.length) (h0:p l[i]=true):l.any p=true:=List.any_eq_true.2 ⟨_,List.getElem_mem h,h0⟩
theorem Uak {ws:List (List UInt8)} (h:Zi ws=false):ws.length≤10∧Yh ws≤2^20:=by
 unfold Zi at h
 rw [Bool.or_eq_false_iff] at h
 obtain ⟨h1,h2⟩:=h
 have h2':ws.length≤10:=by simpa using h2
 refine ⟨h2',?_⟩
 have key:∀ l:List (List UInt8),l.any (fun w=>decide (90<w.length))=false→Yh l≤91*l.length:=by
  intro l
  induction l with
  | nil=>intro _;simp [Yh]
  | cons w t ih =>
   intro h
   rw [List.any_cons,Bool.or_eq_false_iff] at h
   have:=ih h.2
   have h3:w.length≤90:=by simpa using h.1
   have e:Yh (w::t)=w.length+1+Yh t:=by simp [Yh]
   rw [e,List.length_cons]
   omega
 have:=key ws h1
 omega
set_option maxHeartbeats 1000000 in
theorem Ya2 (ws:List (List UInt8)) (hw:ws.length≤9223372036854775807):APure Tryz.prog 57 [Zb ws] (.bool (Zi ws)):=by
 intro σ
 obtain ⟨B,hB⟩:∃ B,Zi ws=B:=⟨_,rfl⟩
 rw [hB]
 refine Ua Tryz.func57 rfl (Wa Tryz.func57 (by decide) rfl) ?_
 simp [Tryz.ntmps57]
 refine Yc (fun env σ'=>∃ (u:List AV) (i:Nat),env={ t:=u }∧u.length=18∧tg u 0=Zb ws∧tg u 5=Zb ws∧tg u 6=.int .i64 ws.length∧tg u 7=.int .i64 i∧σ'=σ∧i≤ws.length∧(ws.take i).any (fun w=>decide (90<w.length))=false)
  (fun env _=>match tg env.t 7 with | .int _ i=>ws.length - i.toNat | _=>0) ⟨_,0,rfl,by simp,by simp,by simp,by simp,by simp,rfl,by omega,by simp⟩ ?_
 rintro env σ' ⟨u,i,rfl,hl,g0,g5,g6,g7,rfl,hi,hd⟩
 rcases Qzn i ws.length with hlt | hge
 ·have hlt':(i:Int)<(ws.length:Int):=by omega
  have hx:=w64 (n:=(i:Int)+1) (by omega) (by omega)
  have hn:=Wbp _ ws hlt hd
  by_cases hb:90<ws[i].length
  ·have hb':(90:Int)<(ws[i].length:Int):=by omega
   have e:B=true:=by
    rw [← hB];unfold Zi
    rw [Za8 (fun w:List UInt8=>decide (90<w.length)) ws hlt (by simpa using hb)]
    rfl
   subst e
   simp [hl,g0,g5,g6,g7,hlt',hlt,hb,hb']
  ·have hb':¬ (90:Int)<(ws[i].length:Int):=by omega
   simp [hl,g0,g5,g6,g7,hlt',hlt,hb,hb',hx]
   have hn':=hn.trans (show decide (90<ws[i].length)=false by simpa using hb)
   exact ⟨⟨i+1,by simp,by omega,by simpa using hn'⟩,by omega⟩
 ·have hge':¬ (i:Int)<(ws.length:Int):=by omega
  rw [List.take_of_length_le hge] at hd
  unfold Zi at hB
  rw [hd] at hB
  by_cases h10:10<ws.length
  ·have h10':(10:Int)<(ws.length:Int):=by omega
   have e:B=true:=by rw [← hB];simp [h10]
   subst e
   simp [hl,g0,g5,g6,g7,hge',h10,h10']
  ·have h10':¬ (10:Int)<(ws.length:Int):=by omega
   have e:B=false:=by rw [← hB];simp;omega
   subst e
   simp [hl,g0,g5,g6,g7,hge',h10,h10']
set_option maxHeartbeats 1000000 in
theorem Zan (f:List Oyez.Rec) (hf:f.length≤9223372036854775807) (hw:∀ r∈f,r.words.length≤9223372036854775807):APure Tryz.prog 27 [Xa f] (.bool (Wu f)):=by
 refine APure.of fun σ=>?_
 obtain ⟨B,hB⟩:∃ B,Wu f=B:=⟨_,rfl⟩
 rw [hB]
 refine Ua Tryz.func27 rfl (Wa Tryz.func27 (by decide) rfl) ?_
 simp [Tryz.ntmps27]
 refine Yc (fun env σ'=>∃ (u:List AV) (i:Nat) (g:Za),env={ t:=u }∧u.length=18∧tg u 0=Xa f∧tg u 5=Xa f∧tg u 6=.int .i64 f.length∧tg u 7=.int .i64 i∧σ'=σ++g∧i≤f.length∧(f.take i).any (fun r=>Zi r.words)=false)
  (fun env _=>match tg env.t 7 with | .int _ i=>f.length - i.toNat | _=>0) ⟨_,0,[],rfl,by simp,by simp,by simp,by simp,by simp,by simp,by omega,by simp⟩ ?_
 rintro env σ' ⟨u,i,g,rfl,hl,g0,g5,g6,g7,rfl,hi,hd⟩
 rcases Qzn i f.length with hlt | hge
 ·have hlt':(i:Int)<(f.length:Int):=by omega
  have hx:=w64 (n:=(i:Int)+1) (by omega) (by omega)
  have hn:=Wbp _ f hlt hd
  simp [hl,g0,g5,g6,g7,hlt',hlt]
  refine (Ya2 f[i].words (hw _ (List.getElem_mem hlt))).use ?_
  cases hb:Zi f[i].words with
  | true =>
   have e:B=true:=by
    rw [← hB];unfold Wu
    rw [Za8 (fun r:Oyez.Rec=>Zi r.words) f hlt hb]
    rfl
   subst e
   simp [hl,g0,g5,g6,g7,hlt',hlt,hb]
  | false =>
   simp [hl,g0,g5,g6,g7,hlt',hlt,hb,hx]
   have hn':=hn.trans hb
   exact ⟨⟨i+1,by simp,by omega,by simpa using hn'⟩,by omega⟩
 ·have hge':¬ (i:Int)<(f.length:Int):=by omega
  rw [List.take_of_length_le hge] at hd
  unfold Wu at hB
  rw [hd] at hB
  by_cases h10:60<f.length
  ·have h10':(60:Int)<(f.length:Int):=by omega
   have e:B=true:=by rw [← hB];simp [h10]
   subst e
   simp [hl,g0,g5,g6,g7,hge',h10,h10']
  ·have h10':¬ (60:Int)<(f.length:Int):=by omega
   have e:B=false:=by rw [← hB];simp;omega
   subst e
   simp [hl,g0,g5,g6,g7,hge',h10,h10']
set_option maxHeartbeats 2000000 in
theorem Vs (f:List Oyez.Rec) (hf:f.length≤2^40):APure Tryz.prog 31 [Xa f] (Xa f):=by
 refine APure.of fun σ=>?_
 refine Ua Tryz.func31 rfl (Wa Tryz.func31 (by decide) rfl) ?_
 simp [Tryz.ntmps31]
 refine Yc (fun env σ'=>∃ (u:List AV) (i:Nat) (v:AV) (g:Za) (o:Option Nat),env={ t:=u }∧u.length=24∧tg u 0=Xa f∧tg u 3=v∧tg u 6=Xa f∧tg u 7=.int .i64 f.length∧tg u 8=.int .i64 i∧σ'=σ++g∧i≤f.length∧Acc σ g 3 v ((f.take i).map Yd) o)
  (fun env _=>match tg env.t 8 with | .int _ i=>f.length - i.toNat | _=>0) ⟨_,0,.nils,[],none,rfl,by simp,by simp,by simp,by simp,by simp,by simp,by simp,by omega,by simpa using Acc.nil _ _ _⟩ ?_
 rintro env σ' ⟨u,i,v,g,o,rfl,hl,g0,g3,g6,g7,g8,rfl,hi,hA⟩
 rcases Qzn i f.length with hlt | hge
 ·have hlt':(i:Int)<(f.length:Int):=by omega
  have hx:=w64 (n:=(i:Int)+1) (by omega) (by omega)
  have hA1:=((hA.more [.cells (Uf f[i])]).push (P:=Tryz.prog) (t:=27) (e:=96) (ag:=true) (x:=Yd f[i]) (by simp) (by simp) (by simp) (by omega) ⟨by simp [AV.cells],by simp [AV.cells,AV.one]⟩ (by simp;omega))
  obtain ⟨v',g',o',he,hA',_⟩:=hA1
  simp [-Ya,Uf] at he
  rw [← Nat.add_assoc] at he
  simp [-Ya,hl,g0,g3,g6,g7,g8,hlt',hlt,hx,he]
  refine ⟨⟨i+1,by simp,hlt,o',?_⟩,by omega⟩
  rw [Qzt (by simpa using hlt),List.getElem_map,← List.map_take]
  exact hA'
 ·have hge':¬ (i:Int)<(f.length:Int):=by omega
  rw [List.take_of_length_le hge] at hA
  have hz:=hA.fz (fun x hx y hy=>by
   obtain ⟨r,_,rfl⟩:=List.mem_map.1 hx
   simp [AV.cells] at hy
   rcases hy with rfl | rfl | rfl
   ·exact .int _ _
   ·exact .int _ _
   ·exact (Xr _ _ _).2 trivial)
  simpa [hl,g0,g3,g6,g7,g8,hge'] using hz
def Uj (l:List Bool):AV:=.pl 1 (l.map AV.bool)
attribute [simp] Uj
set_option maxHeartbeats 1000000 in
theorem Vc1 (a b:List Bool) (ha:a.length≤2^40):APure Tryz.prog 104 [Uj a,Uj b] (.bool (decide (a=b))):=by
 intro σ
 refine Ua Tryz.func104 rfl (Wa Tryz.func104 (by decide) rfl) ?_
 by_cases hab:a.length=b.length
 ·obtain ⟨n,hn⟩:∃ n,b.length=n:=⟨_,rfl⟩
  have han:a.length=n:=hab.trans hn
  simp [Tryz.ntmps104,han,hn]
  refine Yc (fun env σ'=>∃ (u:List AV) (i:Nat),env={ t:=u }∧u.length=26∧tg u 0=Uj a∧tg u 1=Uj b∧tg u 12=.int .i64 n∧tg u 13=.int .i64 i∧σ'=σ∧i≤n∧a.take i=b.take i)
   (fun env _=>match tg env.t 13 with | .int _ i=>n - i.toNat | _=>0) ⟨_,0,rfl,by simp,by simp,by simp,by simp,by simp,rfl,by omega,by simp⟩ ?_
  rintro env σ' ⟨u,i,rfl,hl,g0,g1,g12,g13,rfl,hi,hd⟩
  rcases Qzn i n with hlt | hge
  ·have hlt':(i:Int)<(n:Int):=by omega
   have hx:=w64 (n:=(i:Int)+1) (by omega) (by omega)
   have hia:i<a.length:=by omega
   have hib:i<b.length:=by omega
   simp [hl,g0,g1,g12,g13,hlt']
   refine Zg mixed (by kernel_rfl) ?_
   by_cases he:a[i]=b[i]
   ·simp [hl,g0,g1,g12,g13,han,hn,hlt,hlt',he,hx]
    refine ⟨⟨i+1,by simp,by omega,?_⟩,by omega⟩
    rw [Qzt hia,Qzt hib,hd,he]
   ·have hne:¬ a=b:=fun h=>he (by subst h;rfl)
    have hbb:(a[i] != b[i])=true:=by simpa using he
    simp [hbb,hl,g0,g1,g12,g13,han,hn,hlt,hlt',he,hne]
  ·have hge':¬ (i:Int)<(n:Int):=by omega
   have hE:a=b:=by
    rw [List.take_of_length_le (by omega),List.take_of_length_le (by omega)] at hd
    exact hd
   simp [hl,g0,g1,g12,g13,hge',hE]
 ·have hne:¬ a=b:=fun h=>hab (by rw [h])
  have hab':¬ (a.length:Int)=(b.length:Int):=by omega
  simp [Tryz.ntmps104,hab',hne,hab]
theorem Vem (a b:List Bool) (ha:a.length≤2^40):APure Tryz.prog 35 [Uj a,Uj b] (.bool (decide (a=b))):=by
 intro σ
 refine Ua Tryz.func35 rfl (Wa Tryz.func35 (by decide) rfl) ?_
 simp [Tryz.ntmps35]
 refine (Vc1 a b ha).use ?_
 simp
theorem Wa2 {α:Type} (l:List α) (k:Nat) (f:α→Nat) (h:∀ a,f a=k):(l.map f).sum=l.length*k:=by
 induction l with
 | nil=>simp
 | cons a t ih=>rw [List.map_cons,List.sum_cons,ih,h,List.length_cons,Nat.add_mul];omega
theorem Xco {σ g:Za} {k:Nat} (xs:List AV) (h:∀ x∈xs,x.cells.length=k∧∀ y∈x.cells,y.one=true) (hf:∀ (n:Nat) (τ:Za),∀ x∈xs,∀ y∈x.cells,Fz n τ y y):Fz σ.length (σ++.cells (xs.flatMap AV.cells)::g) (.arr k σ.length 0 xs.length) (.pl k xs) :=
 Acc.fz (o:=some 0) ⟨h,rfl,rfl⟩ (hf _ _)
def Zh (f:List Oyez.Rec):List AV:=f.flatMap Uf
theorem Uax (f:List Oyez.Rec):(f.map Yd).flatMap AV.cells=Zh f:=by unfold Zh;rw [List.flatMap_map];rfl
theorem Xa1 (f:List Oyez.Rec):(Zh f).length=f.length*3:=by
 unfold Zh
 induction f with
 | nil=>rfl
 | cons p t ih=>rw [List.flatMap_cons,List.length_append,ih];simp [Uf];omega
theorem Vby (f:List Oyez.Rec) {i j:Nat} (h:i<f.length) (hj:j<3):(Zh f)[i*3+j]? = (Uf f[i])[j]?:=by rw [← Uax];exact War f i j h hj
theorem Ycw (f:List Oyez.Rec) {i:Nat} (h:i<f.length):List.take 3 (List.drop (i*3) (Zh f))=[.int .i64 f[i].kind,.int .i64 f[i].number,Zb f[i].words]:=by
 apply List.ext_getElem?
 intro j
 rcases Qzn j 3 with hj | hj
 ·rw [List.getElem?_take_of_lt hj,List.getElem?_drop,Vby f h hj]
  rfl
 ·rw [List.getElem?_eq_none (by simp;omega),List.getElem?_eq_none (by simpa using hj)]
theorem Ud2 (f:List Oyez.Rec) {i:Nat} (h:i<f.length):List.take (i*3+2) (Zh f)++Zb f[i].words::List.drop (i*3+3) (Zh f)=Zh f:=by
 have hl:=Xa1 f
 have h1:=Vby f h (show 2<3 by omega)
 have hlt:i*3+2<(Zh f).length:=by omega
 rw [Qze hlt] at h1
 have h2:(Zh f)[i*3+2]=Zb f[i].words:=by simpa [Uf] using h1
 rw [← h2,← List.drop_eq_getElem_cons hlt,List.take_append_drop]
theorem Wc1 (l:List Bool) (hl:l.length≤2^30):APure Tryz.prog 29 [Uj l] (Uj l):=by
 refine APure.of fun σ=>?_
 refine Ua Tryz.func29 rfl (Wa Tryz.func29 (by decide) rfl) ?_
 have h1:(l.length:Int)≤281474976710656:=by omega
 have h2:(l.length:Int)≤9223372036854775807:=by omega
 simp [Tryz.ntmps29,h1,h2]
 rw [Wa2 l 1]
 case h=>exact fun _=>rfl
 rw [Nat.mul_one,Nat.sub_self,List.replicate_zero,List.append_nil]
 have:=Xco (σ:=σ) (g:=[]) (k:=1) (l.map AV.bool) (fun x hx=>by obtain ⟨b,_,rfl⟩:=List.mem_map.1 hx;exact ⟨rfl,by simp [AV.cells,AV.one]⟩) (fun n τ x hx y hy=>by
  obtain ⟨b,_,rfl⟩:=List.mem_map.1 hx
  simp [AV.cells] at hy;subst hy;exact .bool _)
 rwa [List.length_map] at this
theorem Vbm (l:List (List UInt8)) (hl:l.length≤2^30):APure Tryz.prog 78 [Zb l] (Zb l):=by
 refine APure.of fun σ=>?_
 refine Ua Tryz.func78 rfl (Wa Tryz.func78 (by decide) rfl) ?_
 have h1:(l.length:Int)*16≤281474976710656:=by omega
 have h2:(l.length:Int)≤9223372036854775807:=by omega
 simp [Tryz.ntmps78,h1,h2]
 rw [Wa2 l 1]
 case h=>exact fun _=>rfl
 rw [Nat.mul_one,Nat.sub_self,List.replicate_zero,List.append_nil]
 have:=Xco (σ:=σ) (g:=[]) (k:=1) (l.map AV.str) (fun x hx=>by obtain ⟨b,_,rfl⟩:=List.mem_map.1 hx;exact ⟨rfl,by simp [AV.cells,AV.one]⟩) (fun n τ x hx y hy=>by
  obtain ⟨b,_,rfl⟩:=List.mem_map.1 hx
  simp [AV.cells] at hy;subst hy;exact .str _)
 rwa [List.length_map] at this
theorem Uda (f:List Oyez.Rec) (hl:f.length≤2^30) (σ:Za):ACalls Tryz.prog 97 [Xa f] σ fun v σ'=>v=.arr 3 σ.length 0 f.length∧σ'=σ++[.cells (Zh f)]:=by
 refine Ua Tryz.func97 rfl (Wa Tryz.func97 (by decide) rfl) ?_
 have h1:(f.length:Int)*40≤281474976710656:=by omega
 have h2:(f.length:Int)≤9223372036854775807:=by omega
 simp [Tryz.ntmps97,h1,h2]
 rw [Wa2 f 3]
 case h=>exact fun _=>rfl
 rw [List.drop_eq_nil_of_le (by simp),List.append_nil]
 exact Uax f
set_option maxHeartbeats 2000000 in
theorem Uaf (f:List Oyez.Rec) (hl:f.length≤2^30) (hw:∀ r∈f,r.words.length≤2^30):APure Tryz.prog 28 [Xa f] (Xa f):=by
 refine APure.of fun σ=>?_
 refine Ua Tryz.func28 rfl (Wa Tryz.func28 (by decide) rfl) ?_
 simp [Tryz.ntmps28]
 refine StA.of ((Uda f hl σ).mono ?_)
 rintro _ _ ⟨rfl,rfl⟩
 simp
 refine Yc (fun env σ'=>∃ (u:List AV) (i:Nat) (g:Za),env={ t:=u }∧u.length=24∧tg u 3=.arr 3 σ.length 0 f.length∧tg u 8=.arr 3 σ.length 0 f.length∧tg u 9=.int .i64 f.length∧tg u 10=.int .i64 i∧σ'=σ++.cells (Zh f)::g∧i≤f.length)
  (fun env _=>match tg env.t 10 with | .int _ i=>f.length - i.toNat | _=>0) ⟨_,0,[],rfl,by simp,by simp,by simp,by simp,by simp,by simp,by omega⟩ ?_
 rintro env σ' ⟨u,i,g,rfl,hl',g3,g8,g9,g10,rfl,hi⟩
 rcases Qzn i f.length with hlt | hge
 ·have hlt':(i:Int)<(f.length:Int):=by omega
  have hx:=w64 (n:=(i:Int)+1) (by omega) (by omega)
  have hlen:=Xa1 f
  have hs:=Ycw f hlt
  have hput:=Ud2 f hlt
  have hb:i*3+3≤f.length*3:=by omega
  simp [hl',g3,g8,g9,g10,hlt',hlt,hlen,hs,hb]
  refine (Vbm f[i].words (hw _ (List.getElem_mem hlt))).use ?_
  simp [hl',g3,g8,g9,g10,hlt',hlt,hlen,hs,hb,hx]
  exact ⟨⟨i+1,by simp,hput,by omega⟩,by omega⟩
 ·have hge':¬ (i:Int)<(f.length:Int):=by omega
  have hA:Acc σ (.cells (Zh f)::g) 3 (.arr 3 σ.length 0 f.length) (f.map Yd) (some 0):=⟨fun x hx=>by
   obtain ⟨r,_,rfl⟩:=List.mem_map.1 hx
   exact ⟨rfl,by simp [AV.cells,AV.one]⟩,by simp,by rw [Uax];rfl⟩
  have hz:=hA.fz (Ya0 _ _ _)
  simpa [hl',g3,g8,g9,g10,hge'] using hz
end Ab
namespace Ab
open Go Go.RowKit Go.Proofs
attribute [local irreducible] aws awp aw1 Og Om Oc Oa Ogd Ov Ot awd Ub awh Xc Ogh Ohd awl Ogl Ohl awv Ogv Ohv Zc Wc QFn Zd QRo QBe ACode AYield
theorem Wc0 {r off len c off2 len2 c2 m:Nat} {σ:Za} {D:List AV} (hr:σ[r]? = some (.cells D)) (hm:Nat.min len2 len=m) (h1:(off+m)*3≤D.length) (h2:(off2+m)*3≤D.length) (ho:∀ x∈sub D (off2*3) (m*3),AV.one x=true) :
  Ur Tryz.prog #[23,23] (.arc 3 r off len c) (.arc 3 r off2 len2 c2) σ=some (.int .i64 m,σ.set r (.cells (wr D (off*3) (sub D (off2*3) (m*3))))):=by
 have he:Xg Tryz.prog 23=some 59:=by simp
 have hs:tsa Tryz.prog 59=some (3,true):=by simp
 have ha:(sub D (off2*3) (m*3)).all AV.one=true:=List.all_eq_true.2 ho
 simp only [Ur,he,hs,hr,hm]
 rw [if_pos (by decide),if_pos ⟨trivial,trivial,h1,h2,ha⟩]
theorem Veo {r r2 off len c off2 len2 m:Nat} {σ:Za} {D E:List AV} (hr:σ[r]? = some (.cells D)) (hr2:σ[r2]? = some (.cells E)) (hm:Nat.min len2 len=m) (h1:(off+m)*3≤D.length) (h2:(off2+m)*3≤E.length) (ho:∀ x∈sub E (off2*3) (m*3),AV.one x=true) :
  Ur Tryz.prog #[23,23] (.arc 3 r off len c) (.arr 3 r2 off2 len2) σ=some (.int .i64 m,σ.set r (.cells (wr D (off*3) (sub E (off2*3) (m*3))))):=by
 have he:Xg Tryz.prog 23=some 59:=by simp
 have hs:tsa Tryz.prog 59=some (3,true):=by simp
 have ha:(sub E (off2*3) (m*3)).all AV.one=true:=List.all_eq_true.2 ho
 simp only [Ur,he,hs,hr,hr2,hm]
 rw [if_pos (by decide),if_pos ⟨trivial,trivial,h1,h2,ha⟩]
theorem Zcv {n i:Nat} {cs ds tl:List AV} (hc:cs.length=n*3) (hd:ds.length=3) (hi:i<n) :
  wr (wr (cs++tl) ((i+1)*3) (cs.drop (i*3))) (i*3) ds=Ww cs ds i++tl.drop 3:=by
 have e1:((cs++tl).take ((i+1)*3)).length=i*3+3:=by rw [List.length_take,List.length_append];omega
 have e2:(cs.drop (i*3)).length=(n - i)*3:=by rw [List.length_drop];omega
 have e3:(cs++tl).drop ((i+1)*3+(cs.drop (i*3)).length)=tl.drop 3:=by
  rw [e2,show (i+1)*3+(n - i)*3=cs.length+3 by omega,List.drop_append,List.drop_eq_nil_of_le (by omega)]
  simp
 unfold wr Ww
 rw [e3,hd]
 rw [List.append_assoc ((cs++tl).take ((i+1)*3)),List.take_append_of_le_length (by omega),List.take_take,Nat.min_eq_left (by omega),List.take_append_of_le_length (by omega),List.drop_left' e1]
 simp
set_option maxHeartbeats 2000000 in
set_option maxRecDepth 8000 in
theorem Xep {r r2 n i cap:Nat} {cs ds:List AV} (σ:Za) (hne:r≠r2) (hr:σ[r]? = some (.cells (cs++List.replicate ((cap - n)*3) .any))) (hr2:σ[r2]? = some (.cells ds)) (hc:cs.length=n*3) (hd:ds.length=3) (ho:∀ x∈cs,AV.one x=true) (hod:∀ x∈ds,AV.one x=true)
  (hi:i<n) (hcap:n≤cap) (hn:n≤2^20) :
  ACalls Tryz.prog 126 [.arc 3 r 0 n cap,.int .i64 i,.arr 3 r2 0 1] σ fun v σ' =>
   (v=.arr 3 σ.length 0 (n+1)∧σ'=σ++[.cells (Ww cs ds i)]) ∨
   (n+1≤cap∧v=.arc 3 r 0 (n+1) cap∧σ'=σ.set r (.cells (Ww cs ds i++List.replicate ((cap - (n+1))*3) .any))):=by
 refine Ua Tryz.func126 rfl (Wa Tryz.func126 (by decide) rfl) ?_
 have hz:¬ ((i:Int)=n):=by omega
 have h0:(i:Int)≤n:=by omega
 have h1:i≤n:=by omega
 have hci:¬ cap=i:=by omega
 have hw:IntKind.i64.wrap ((n:Int)+1)=n+1:=w64 (by omega) (by omega)
 have hw2:IntKind.i64.wrap ((n:Int)+1 - i)=n+1 - i:=w64 (by omega) (by omega)
 have hw3:IntKind.i64.wrap ((i:Int)+1)=i+1:=w64 (by omega) (by omega)
 rcases Qzn cap (n+1) with hlt | hge
 ·have hlt':(cap:Int)<n+1:=by omega
  obtain ⟨Z,hZl,hZ⟩:=Zdm hr hc hi hlt hn
  have hic:i≤cap:=by omega
  have hc0:¬ cap=0:=by omega
  have hin:i≤n+1:=by omega
  have hin':¬ i=n+1:=by omega
  have hi1:(0:Int)≤(i:Int)+1:=by omega
  have hi2:i+1≤n+1:=by omega
  have hi3:¬ i+1=n+1:=by omega
  have hin2:¬ i=n:=by omega
  have hrl:=(Qzs.1 hr).1
  have hrl2:=(Qzs.1 hr2).1
  have hA:(cs.take (i*3)++Z).length=(n+1)*3:=by rw [List.length_append,List.length_take,hZl,hc];omega
  have k1:sub ds 0 3=ds:=by unfold sub;rw [List.drop_zero,List.take_of_length_le (by omega)]
  have c1:Ul Tryz.prog #[23,23] (.arr 3 σ.length i (n+1 - i)) (.arr 3 r2 0 1) (σ++[.cells (cs.take (i*3)++Z)])=some (.int .i64 1,σ++[.cells (wr (cs.take (i*3)++Z) (i*3) ds)]):=by
   rw [Ybg (news:=ds) (m:=1) (A:=cs.take (i*3)++Z) (by simp) ?_ (by omega) (by rw [hA];omega)]
   ·simp [-Ul]
   ·rw [Xbi (cs:=ds) (by rw [Qzl hrl2];exact hr2) (by omega) (by rw [show 0*3=0 from rfl,show 1*3=3 from rfl,k1];exact hod),show 0*3=0 from rfl,show 1*3=3 from rfl,k1]
  obtain ⟨B,hB⟩:∃ B,wr (cs.take (i*3)++Z) (i*3) ds=B:=⟨_,rfl⟩
  have hBl:B.length=(n+1)*3:=by rw [← hB];unfold wr;simp [List.length_take,List.length_drop,hc,hd,hZl];omega
  have k2:sub (cs++List.replicate ((cap - n)*3) .any) (i*3) ((n - i)*3)=cs.drop (i*3):=by
   unfold sub
   rw [List.drop_append_of_le_length (by omega),List.take_append_of_le_length (by rw [List.length_drop];omega),List.take_of_length_le (by rw [List.length_drop];omega)]
  have c2:Ul Tryz.prog #[23,23] (.arr 3 σ.length (i+1) (n - i)) (.arc 3 r i (n - i) (cap - i)) (σ++[.cells B])=some (.int .i64 ((n - i:Nat):Int),σ++[.cells (wr B ((i+1)*3) (cs.drop (i*3)))]):=by
   rw [Ybg (news:=cs.drop (i*3)) (m:=n - i) (A:=B) (by simp) ?_ (by omega) (by rw [hBl];omega)]
   ·simp [-Ul]
   ·rw [Xeo (cs:=cs++List.replicate ((cap - n)*3) .any) (by rw [Qzl hrl];exact hr) (by rw [List.length_append,hc];omega) (by rw [k2];exact fun x hx=>ho x (List.mem_of_mem_drop hx)),k2]
  rw [hB] at c1
  simp [-Ya,-Wy,-Ul,-Ur,Tryz.ntmps126,hz,h0,h1,hcap,hci,hw,hw2,hw3,hlt',hr,hr2,hZ,hic,hc0,hin,hin',c1]
  refine Xv [8] mixed (by kernel_rfl) ?_
  simp [-Ya,-Wy,-Ul,-Ur,Tryz.ntmps126,h1,hcap,hci,hw3,hi1,hi2,hi3,hin2,c2,-wr]
  rw [← hB]
  exact Wdj hc hd hZl hi
 ·have hge':¬ ((cap:Int)<n+1):=by omega
  have hn1:(0:Int)≤(n:Int)+1:=by omega
  have hcp:n+1≤cap:=hge
  have hc0:¬ cap=0:=by omega
  have hi1:(0:Int)≤(i:Int)+1:=by omega
  have hi2:i+1≤n+1:=by omega
  have hi3:¬ cap=i+1:=by omega
  have hin:i≤n+1:=by omega
  simp [-Ya,-Wy,-Ul,-Ur,Tryz.ntmps126,hz,h0,h1,hcap,hci,hw,hw2,hw3,hge',hr,hr2,hn1,hcp,hc0,hi1,hi2,hi3,hin]
  refine StA.of ((Xd4 σ hne.symm hr2 hr (by omega) (by rw [List.length_append,hc];omega)).mono ?_)
  rintro _ _ ⟨rfl,rfl⟩
  simp [-Ya,-Wy,-Ul,-Ur,Tryz.ntmps126,hz,h0,h1,hcap,hci,hw,hw2,hw3,hge',hr,hr2,hn1,hcp,hc0,hi1,hi2,hi3,hin]
  refine Xv [8] mixed (by kernel_rfl) ?_
  simp [-Ya,-Wy,-Ul,-Ur,Tryz.ntmps126,hz,h0,h1,hcap,hci,hw,hw2,hw3,hge',hr,hr2,hn1,hcp,hc0,hi1,hi2,hi3,hin]
  have hol:∀ x∈cs.drop (i*3),AV.one x=true:=fun x hx=>ho x (List.mem_of_mem_drop hx)
  have k1:sub ds (0*3) (1*3)=ds:=by unfold sub;rw [Nat.zero_mul,List.drop_zero,List.take_of_length_le (by omega)]
  have k2:sub (cs++List.replicate ((cap - n)*3) .any) (i*3) ((n - i)*3)=cs.drop (i*3):=by
   unfold sub
   rw [List.drop_append_of_le_length (by omega),List.take_append_of_le_length (by rw [List.length_drop];omega),List.take_of_length_le (by rw [List.length_drop];omega)]
  have hDl:(cs++List.replicate ((cap - n)*3) AV.any).length=cap*3:=by rw [List.length_append,List.length_replicate,hc];omega
  have hrl:=(Qzs.1 hr).1
  rw [Ycb,Wc0 (m:=n - i) hr (Nat.min_eq_right (by omega)) (by rw [hDl];omega) (by rw [hDl];omega) (by rw [k2];exact hol),k2]
  simp only [Xap]
  rw [Ycb,Veo (m:=1) (D:=wr (cs++List.replicate ((cap - n)*3) .any) ((i+1)*3) (cs.drop (i*3))) (E:=ds) (by rw [List.getElem?_set_self hrl]) (by rw [List.getElem?_set_ne hne];exact hr2) (Nat.min_eq_left (by omega))
   (by unfold wr;simp only [List.length_append,List.length_take,List.length_drop,List.length_replicate];omega) (by omega) (by rw [k1];exact hod),k1]
  simp only [Xap]
  rw [List.set_set,Zcv hc hd hi,List.drop_replicate,show (cap - n)*3 - 3=(cap - (n+1))*3 by omega]
end Ab
namespace Ab
open Go Go.RowKit Go.Proofs
attribute [local irreducible] aws awp aw1 Og Om Oc Oa Ogd Ov Ot awd Ub awh Xc Ogh Ohd awl Ogl Ohl awv Ogv Ohv Zc Wc QFn Zd QRo QBe ACode AYield
def InsQ (σ:Za) (r n i:Nat) (cs ds:List AV) (v:AV) (σ':Za):Prop :=
 ∃ r',v=.arr 3 r' 0 (n+1)∧σ'[r']? = some (.cells (Ww cs ds i))∧σ.length≤σ'.length∧(r'=r∨σ.length≤r')∧∀ j,j≠r→j<σ.length→σ'[j]? = σ[j]?
set_option maxHeartbeats 2000000 in
set_option maxRecDepth 8000 in
theorem Ycq {r r2 n:Nat} {cs ds:List AV} (σ:Za) (hne:r≠r2) (hr:σ[r]? = some (.cells cs)) (hr2:σ[r2]? = some (.cells ds)) (hc:cs.length=n*3) (hd:ds.length=3) (hod:∀ x∈ds,AV.one x=true) (hn:n≤2^20) :
  ACalls Tryz.prog 126 [.arr 3 r 0 n,.int .i64 n,.arr 3 r2 0 1] σ (InsQ σ r n n cs ds):=by
 refine Ua Tryz.func126 rfl (Wa Tryz.func126 (by decide) rfl) ?_
 have he:Xg Tryz.prog 23=some 59:=by simp
 have hs:tsa Tryz.prog 59=some (3,true):=by simp
 have hz:tzk Tryz.prog 59 3=true:=by simp
 have hb:tby Tryz.prog 59=40:=by simp
 have k1:sub ds (0*3) (1*3)=ds:=by unfold sub;rw [Nat.zero_mul,List.drop_zero,List.take_of_length_le (by omega)]
 have ha:Xi 3 (.arr 3 r2 0 1) σ=some (ds,1):=by rw [Xbi hr2 (by omega) (by rw [k1];exact hod),k1]
 have hap:Ya Tryz.prog #[23,23] (.arr 3 r 0 n) (.arr 3 r2 0 1) σ=some (.arr 3 σ.length 0 (n+1),σ.set r .dead++[.cells (cs++ds)]):=by
  have hb':(n+1)*40≤140737488355328:=by omega
  simp [-Xi,Ya,he,hs,hz,hb,ha,hr,hc,hb']
 have hw:IntKind.i64.wrap ((n:Int)+1)=n+1:=w64 (by omega) (by omega)
 simp (maxSteps:=400000) [-Ya,-Wy,-Ul,-Ur,Tryz.ntmps126,hap]
 have hrl:=(Qzs.1 hr).1
 refine ⟨σ.length,rfl,?_,by simp,.inr (Nat.le_refl _),fun j hj hl=>?_⟩
 ·rw [Qzr (by simp)]
  simp [Ww,← hc]
 ·rw [Qzl (by simpa using hl),List.getElem?_set_ne (Ne.symm hj)]
theorem Zd6 {r r2 n i:Nat} {cs ds:List AV} (σ:Za) (hne:r≠r2) (hr:σ[r]? = some (.cells cs)) (hr2:σ[r2]? = some (.cells ds)) (hc:cs.length=n*3) (hd:ds.length=3) (ho:∀ x∈cs,AV.one x=true) (hod:∀ x∈ds,AV.one x=true) (hi:i≤n) (hn:n≤2^20) :
  ACalls Tryz.prog 126 [.arr 3 r 0 n,.int .i64 i,.arr 3 r2 0 1] σ (InsQ σ r n i cs ds):=by
 rcases Qzn i n with hlt | hge
 ·have hrl:=(Qzs.1 hr).1
  refine ACalls.room (Wa Tryz.func126 (by decide) rfl) hr (by rw [hc];omega) fun cap hcap=>?_
  refine (Xep (σ.set r (.cells (cs++List.replicate ((cap - n)*3) .any))) hne (by rw [List.getElem?_set_self hrl]) (by rw [List.getElem?_set_ne hne];exact hr2) hc hd ho hod hlt hcap hn).mono ?_
  rintro v σ' (⟨rfl,rfl⟩ | ⟨hcp,rfl,rfl⟩)
  ·refine ⟨_,cs,List.replicate ((cap - n)*3) .any,.inl rfl,?_,?_⟩
   ·rw [Qzl (by simpa using hrl),List.getElem?_set_self hrl]
   ·refine ⟨σ.length,by rw [List.length_set],?_,by simp,.inr (Nat.le_refl _),fun j hj hl=>?_⟩
    ·rw [List.getElem?_set_ne (by omega),Qzr (by simp)]
     simp
    ·rw [List.getElem?_set_ne (Ne.symm hj),Qzl (by simpa using hl),List.getElem?_set_ne (Ne.symm hj)]
  ·refine ⟨.arr 3 r 0 (n+1),Ww cs ds i,List.replicate ((cap - (n+1))*3) .any,.inr ⟨_,_,_,_,_,rfl,rfl⟩,?_,?_⟩
   ·rw [List.getElem?_set_self (by simpa using hrl)]
   ·refine ⟨r,rfl,?_,by simp,.inl rfl,fun j hj hl=>?_⟩
    ·rw [List.getElem?_set_self (by simpa using hrl)]
    ·rw [List.getElem?_set_ne (Ne.symm hj),List.getElem?_set_ne (Ne.symm hj),List.getElem?_set_ne (Ne.symm hj)]
 ·obtain rfl:i=n:=by omega
  exact Ycq σ hne hr hr2 hc hd hod hn
end Ab
namespace Ab
open Go Go.RowKit Go.Proofs
attribute [local irreducible] aws awp aw1 Og Om Oc Oa Ogd Ov Ot awd Ub awh Xc Ogh Ohd awl Ogl Ohl awv Ogv Ohv Zc Wc QFn Zd QRo QBe ACode AYield
def Wfm (a b:Oyez.Rec):Int:=if a.kind=b.kind then a.number - b.number else a.kind - b.kind
def We9 (a:Oyez.Rec):Prop:=-2^40≤a.kind∧a.kind≤2^40∧-2^40≤a.number∧a.number≤2^40
end Ab
namespace Ab
open Go Go.RowKit Go.Proofs
attribute [local irreducible] aws awp aw1 Og Om Oc Oa Ogd Ov Ot awd Ub awh Xc Ogh Ohd awl Ogl Ohl awv Ogv Ohv Zc Wc QFn Zd QRo QBe ACode AYield
theorem Vck (l m:List Oyez.Rec):Zh (l++m)=Zh l++Zh m:=by unfold Zh;rw [List.flatMap_append]
theorem Wdv (l:List Oyez.Rec) (i:Nat) (h:i≤l.length):(Zh l).take (i*3)=Zh (l.take i)∧(Zh l).drop (i*3)=Zh (l.drop i):=by
 have e:Zh l=Zh (l.take i)++Zh (l.drop i):=by rw [← Vck,List.take_append_drop]
 have h1:(Zh (l.take i)).length=i*3:=by rw [Xa1,List.length_take];omega
 rw [e,← h1]
 exact ⟨List.take_left,List.drop_left⟩
def Xaj (l:List Oyez.Rec) (t:Oyez.Rec) (i:Nat):List Oyez.Rec:=l.take i++t::l.drop i
theorem Wea (l:List Oyez.Rec) (t:Oyez.Rec) (i:Nat) (h:i≤l.length):Ww (Zh l) (Uf t) i=Zh (Xaj l t i):=by
 obtain ⟨h1,h2⟩:=Wdv l i h
 unfold Ww Xaj
 rw [h1,h2,Vck]
 show _=_++(Uf t++Zh (l.drop i))
 rw [List.append_assoc]
structure PlaceAt (l:List Oyez.Rec) (t:Oyez.Rec) (i:Nat):Prop where
 le:i≤l.length
 lo:∀ (m:Nat) (h:m<l.length),m<i→l[m].place.lt t.place=true
 hi:∀ (m:Nat) (h:m<l.length),i≤m→l[m].place.lt t.place=false
theorem PlaceAt.found {l:List Oyez.Rec} {t:Oyez.Rec} {i:Nat} (hs:Oyez.RSorted l) (h:PlaceAt l t i):t.place∈l.map Oyez.Rec.place↔∃ hi:i<l.length,l[i].place=t.place:=by
 constructor
 ·intro hm
  obtain ⟨x,hx,e⟩:=List.mem_map.1 hm
  obtain ⟨m,hml,rfl⟩:=List.mem_iff_getElem.1 hx
  have h1:i≤m:=by
   rcases Qzn m i with h2 | h2
   ·have:=h.lo m hml h2
    rw [e,Oyez.Place.lt_irrefl] at this
    cases this
   ·exact h2
  rcases Qzn i m with h2 | h2
  ·have h3:=h.hi i (by omega) (Nat.le_refl _)
   unfold Oyez.RSorted Oyez.Sorted at hs
   rw [List.pairwise_map] at hs
   have:=List.pairwise_iff_getElem.1 hs i m (by omega) hml h2
   rw [e,h3] at this
   cases this
  ·obtain rfl:m=i:=by omega
   exact ⟨hml,e⟩
 ·rintro ⟨hi,e⟩
  exact e▸List.mem_map_of_mem (List.getElem_mem hi)
theorem PlaceAt.sorted {l:List Oyez.Rec} {t:Oyez.Rec} {i:Nat} (hs:Oyez.RSorted l) (h:PlaceAt l t i) (hn:t.place∉l.map Oyez.Rec.place):Oyez.RSorted (Xaj l t i):=by
 unfold Oyez.RSorted Oyez.Sorted Xaj at *
 rw [List.pairwise_map] at hs ⊢
 have e:l=l.take i++l.drop i:=(List.take_append_drop i l).symm
 rw [e,List.pairwise_append] at hs
 obtain ⟨s1,s2,s3⟩:=hs
 have low:∀ x∈l.take i,x.place.lt t.place=true:=fun x hx=>by
  obtain ⟨m,hm,rfl⟩:=List.mem_iff_getElem.1 hx
  rw [List.length_take] at hm
  rw [List.getElem_take]
  exact h.lo m (by omega) (by omega)
 have high:∀ x∈l.drop i,t.place.lt x.place=true:=fun x hx=>by
  have hxl:x∈l:=List.mem_of_mem_drop hx
  obtain ⟨m,hm,rfl⟩:=List.mem_iff_getElem.1 hx
  rw [List.length_drop] at hm
  have h1:=h.hi (i+m) (by omega) (by omega)
  rw [List.getElem_drop] at hxl ⊢
  cases h2:t.place.lt l[i+m].place with
  | true=>rfl
  | false=>exact absurd (Oyez.Place.lt_tri h1 h2▸List.mem_map_of_mem hxl) hn
 refine List.pairwise_append.2 ⟨s1,List.pairwise_cons.2 ⟨high,s2⟩,fun x hx y hy=>?_⟩
 rcases List.mem_cons.1 hy with rfl | hy
 ·exact low x hx
 ·exact s3 x hx y hy
theorem InsQ.acc {τ g:Za} {l:List Oyez.Rec} {t:Oyez.Rec} {i j:Nat} {v:AV} {σ':Za} (h:InsQ (τ++g) (τ.length+j) l.length i (Zh l) (Uf t) v σ') (hi:i≤l.length) :
  ∃ g' j',σ'=τ++g'∧Acc τ g' 3 v ((Xaj l t i).map Yd) (some j'):=by
 obtain ⟨r',rfl,h1,h2,h3,h4⟩:=h
 rw [List.length_append] at h2
 have ht:σ'.take τ.length=τ:=by
  apply List.ext_getElem?
  intro k
  rcases Qzn k τ.length with hk | hk
  ·rw [List.getElem?_take_of_lt hk,h4 k (by omega) (by rw [List.length_append];omega),Qzl hk]
  ·rw [List.getElem?_eq_none (by rw [List.length_take];omega),List.getElem?_eq_none hk]
 have hr':τ.length≤r':=by
  rcases h3 with h3 | h3
  ·omega
  ·rw [List.length_append] at h3;omega
 have hl:(Xaj l t i).length=l.length+1:=by
  unfold Xaj
  rw [List.length_append,List.length_cons,List.length_take,List.length_drop]
  omega
 refine ⟨σ'.drop τ.length,r' - τ.length,?_,⟨fun x hx=>?_,?_,?_⟩⟩
 ·conv=>lhs;rw [← List.take_append_drop τ.length σ',ht]
 ·obtain ⟨r,_,rfl⟩:=List.mem_map.1 hx
  exact ⟨rfl,by simp [AV.cells,AV.one]⟩
 ·rw [List.length_map,hl,show τ.length+(r' - τ.length)=r' by omega]
 ·rw [List.getElem?_drop,show τ.length+(r' - τ.length)=r' by omega,h1,Wea l t i hi,Uax]
theorem Xdd {n:Int} (h1:0≤n) (h2:n≤9223372036854775807):IntKind.u64.wrap n=n:=by
 unfold IntKind.wrap
 have e1:(IntKind.bits .u64)=64:=rfl
 have e2:IntKind.signed .u64=false:=rfl
 simp only [e1,e2,Bool.false_and,Bool.false_eq_true,if_false]
 have e3:(2^64:Int)=18446744073709551616:=by decide
 rw [e3];omega
end Ab

/-
  Texts packed for a claim.
-/
import Derived.Test.YtcoikmapjepdjaaGreatDoorE00
import Derived.Test.YtcoikmapjepdjaaGreatDoorE08
import Derived.Test.YtcoikmapjepdjaaGreatDoorE13
import Derived.Test.YtcoikmapjepdjaaGreatDoorE12
set_option linter.all false
namespace Ab
open Go Go.RowKit Go.Proofs
attribute [local irreducible] aws awp aw1 Og Om Oc Oa Ogd Ov Ot awd Ua awh Xb Ogh Ohd Wb Vb QFn Zc ACode AYield
theorem Wg6 (r:Int) (h:128≤r):∃ (pre:List UInt8) (b:UInt8),(Utf8.encode r).data.toList=pre++[b]∧1≤pre.length∧pre.length≤3∧128≤b.toNat:=by
 have hv:∀ n:Nat,n<64→128≤(UInt8.ofNat (0x80+n)).toNat:=fun n hn=>by simp;omega
 have hc:0x80≤(if Utf8.valid r then r.toNat else Utf8.runeError):=by
  split
  ·omega
  ·decide
 unfold Utf8.encode
 simp only
 generalize (if Utf8.valid r then r.toNat else Utf8.runeError)=c at hc
 rw [if_neg (by omega)]
 split
 ·exact ⟨[UInt8.ofNat (0xC0+c / 64)],UInt8.ofNat (0x80+c % 64),rfl,by simp,by simp,hv _ (Nat.mod_lt _ (by decide))⟩
 ·split
  ·exact ⟨[UInt8.ofNat (0xE0+c / 4096),UInt8.ofNat (0x80+c / 64 % 64)],UInt8.ofNat (0x80+c % 64),rfl,by simp,by simp,hv _ (Nat.mod_lt _ (by decide))⟩
  ·exact ⟨[UInt8.ofNat (0xF0+c / 262144),UInt8.ofNat (0x80+c / 4096 % 64),UInt8.ofNat (0x80+c / 64 % 64)],UInt8.ofNat (0x80+c % 64),rfl,by simp,by simp,hv _ (Nat.mod_lt _ (by decide))⟩
theorem Zb3 (s:List UInt8) (i:Nat) (h:i<s.length) (hb:s[i].toNat<128):Utf8.decode ⟨⟨s⟩⟩ i=(s[i].toNat,1):=by
 have hg:(ByteArray.mk ⟨s⟩).get! i=s[i]:=by
  show (Array.mk s)[i]! = _
  simp [h]
 unfold Utf8.decode
 simp only [Nat.add_zero,hg]
 rw [if_pos hb]
theorem decode_high (s:List UInt8) (i:Nat) (h:i<s.length) (hb:¬ s[i].toNat<128):128≤(Utf8.decode ⟨⟨s⟩⟩ i).1∧(Utf8.decode ⟨⟨s⟩⟩ i).1<2^21∧1≤(Utf8.decode ⟨⟨s⟩⟩ i).2:=by
 have hg:(ByteArray.mk ⟨s⟩).get! i=s[i]:=by
  show (Array.mk s)[i]! = _
  simp [h]
 have hb2:=s[i].toNat_lt
 unfold Utf8.decode
 simp only [Nat.add_zero,hg]
 rw [if_neg hb]
 have hre:Utf8.runeError=65533:=rfl
 generalize ((ByteArray.mk ⟨s⟩).get! (i+1)).toNat=a1
 generalize ((ByteArray.mk ⟨s⟩).get! (i+2)).toNat=a2
 generalize ((ByteArray.mk ⟨s⟩).get! (i+3)).toNat=a3
 generalize s[i].toNat=b0 at *
 have m1:=Nat.mod_lt a1 (show 0<64 by decide)
 have m2:=Nat.mod_lt a2 (show 0<64 by decide)
 have m3:=Nat.mod_lt a3 (show 0<64 by decide)
 repeat' split
 all_goals (try simp only [hre])
 all_goals (try simp only [Bool.and_eq_true,decide_eq_true_eq,ge_iff_le] at *)
 all_goals omega
theorem Xbt (s:List UInt8) (c:UInt8):APure Tryz.prog 354 [.str s,.int .u8 c.toNat] (.int .i64 (Lib.indexByte s c)):=by
 intro σ
 refine Yb Tryz.func354 rfl (Zb Tryz.func354 (by decide) rfl) ?_
 simp [Tryz.ntmps354]
 refine (Yf4 s c).use ?_
 simp
theorem indexByte_none {s:List UInt8} {c:UInt8} (h:c∉s):Lib.indexByte s c=-1:=by
 induction s with
 | nil=>rfl
 | cons b t ih =>
  simp only [List.mem_cons,not_or] at h
  unfold Lib.indexByte
  rw [if_neg (by simpa using Ne.symm h.1),ih h.2]
  rfl
abbrev digs:List UInt8:=[48,49,50,51,52,53,54,55,56,57]
theorem Zek (c:Int) (h0:0≤c):∃ b:Bool,APure Tryz.prog 355 [.int .i32 c] (.bool b):=by
 by_cases h:c<55296
 ·refine ⟨true,fun σ=>?_⟩
  refine Yb Tryz.func355 rfl (Zb Tryz.func355 (by decide) rfl) ?_
  simp [Tryz.ntmps355,h0,h]
 ·by_cases h2:57343<c
  ·by_cases h3:c≤1114111
   ·refine ⟨true,fun σ=>?_⟩
    refine Yb Tryz.func355 rfl (Zb Tryz.func355 (by decide) rfl) ?_
    simp [Tryz.ntmps355,h0,h,h2,h3]
   ·refine ⟨false,fun σ=>?_⟩
    refine Yb Tryz.func355 rfl (Zb Tryz.func355 (by decide) rfl) ?_
    simp [Tryz.ntmps355,h0,h,h2,h3]
  ·refine ⟨false,fun σ=>?_⟩
   refine Yb Tryz.func355 rfl (Zb Tryz.func355 (by decide) rfl) ?_
   simp [Tryz.ntmps355,h0,h,h2]
theorem Za2:∀ i,(h:i<digs.length)→(digs[i]'h).toNat<128:=by decide
set_option maxRecDepth 8000 in
set_option maxHeartbeats 1000000 in
theorem Xfm (c:Int) (h0:0≤c) (h1:c<2^21):APure Tryz.prog 344 [.str digs,.int .i32 c] (.int .i64 (if c<128 then Lib.indexByte digs (UInt8.ofNat c.toNat) else -1)):=by
 refine APure.of fun σ=>?_
 refine Yb Tryz.func344 rfl (Zb Tryz.func344 (by decide) rfl) ?_
 by_cases hc:c<128
 ·have hb:((UInt8.ofNat c.toNat).toNat:Int)=c:=by simp;omega
  have hw:=w8 h0 (by omega:c≤255)
  have hs:=Xbt digs (UInt8.ofNat c.toNat)
  rw [hb] at hs
  simp [Tryz.ntmps344,h0,hc,hw]
  refine hs.use ?_
  simp
 ·rw [if_neg hc]
  by_cases he:c=65533
  ·subst he
   simp [Tryz.ntmps344]
   refine Wd (fun env σ'=>∃ (u:List AV) (pos:Nat),env={ t:=u }∧u.length=187∧tg u 175=.ptr σ.length 0∧σ'=σ++[.iter digs pos]∧pos≤10)
    (fun _ σ'=>match σ'[σ.length]? with | some (.iter _ pos)=>10 - pos | _=>0) ⟨_,0,rfl,by simp,by simp,rfl,by omega⟩ ?_
   rintro env σ' ⟨u,pos,rfl,hl,g,rfl,hp⟩
   rcases Qzn pos 10 with hlt | hge
   ·have hd:=Zb3 digs pos hlt (Za2 pos hlt)
    have hne:¬ (((digs[pos]'hlt).toNat:Nat):Int)=65533:=by have:=Za2 pos hlt;omega
    simp [hl,g,hlt,hd,hne]
    omega
   ·have hge':¬ pos<10:=by omega
    simp [hl,g,hge']
  ·simp [Tryz.ntmps344,h0,hc,he]
   obtain ⟨b,hb⟩:=Zek c h0
   refine hb.use ?_
   cases b with
   | false=>simp
   | true =>
    obtain ⟨pre,x,hx,hp1,hp2,hx2⟩:=Wg6 c (by omega)
    have hwp:=w64 (n:=(pre.length:Int)) (by omega) (by omega)
    simp
    refine Yaw ?_
    simp [hx,hwp]
    refine Wd (fun env σ'=>∃ (u:List AV),env={ t:=u }∧u.length=187∧tg u 0=.str digs∧tg u 7=.str (pre++[x])∧tg u 8=.int .i64 pre.length∧tg u 9=.int .i64 pre.length∧σ'=σ)
     (fun _ _=>0) ⟨_,rfl,by simp,by simp,by simp,by simp,by simp,rfl⟩ ?_
    rintro env σ' ⟨u,rfl,hl,g0,g7,g8,g9,rfl⟩
    have hnd:∀ l:List UInt8,(∀ y∈l,y.toNat<128)→Lib.indexByte l x=-1:=fun l hl=>indexByte_none fun hm=>by have:=hl x hm;omega
    obtain ⟨y,hy,hy2,hrest⟩:∃ y,digs[pre.length]? = some y∧y.toNat<128∧Lib.indexByte (digs.drop (pre.length+1)) x=-1:=by
     have:pre.length<10:=by omega
     refine ⟨digs[pre.length]'this,Qze this,Za2 _ this,hnd _ fun y hy=>?_⟩
     obtain ⟨i,hi,rfl⟩:=List.mem_iff_getElem.1 (List.mem_of_mem_drop hy)
     exact Za2 i hi
    have hlt:(pre.length:Int)<10:=by omega
    have hlt2:pre.length<10:=by omega
    have hne:¬ ((y.toNat:Nat):Int)=(x.toNat:Int):=by omega
    have hw1:=w64 (n:=(pre.length:Int)+1) (by omega) (by omega)
    have h9:(0:Int)≤(pre.length:Int)+1:=by omega
    have h10:pre.length+1≤10:=by omega
    have hxa:(pre++[x])[pre.length]? = some x:=by simp
    generalize hn:pre.length=n at *
    have hcall:=Xbt (digs.drop (n+1)) x
    rw [hrest] at hcall
    generalize hdg:digs=D at *
    have hDl:D.length=10:=by rw [← hdg];rfl
    have hD10:((D.length:Nat):Int)=10:=by rw [hDl];rfl
    have htk:List.drop (n+1) (List.take D.length D)=D.drop (n+1):=by rw [List.take_length]
    have htk2:List.drop (n+1) (List.take 10 D)=D.drop (n+1):=by rw [← hDl,List.take_length]
    simp [hl,g0,g7,g8,g9,hDl,hlt]
    refine Yaw ?_
    simp
    refine Yl mixed (by kernel_rfl) ?_
    simp [hl,g0,g7,g8,g9,hDl,hlt,hy,hxa,hne]
    refine Yl mixed (by kernel_rfl) ?_
    simp [hl,g0,g7,g8,g9,hDl,hw1,h9,h10,hxa,htk,htk2]
    refine Xal hcall ?_
    simp [hl,g0,g7,g8,g9]
def Xae (c:Int):Bool:=(decide (97≤c)&&decide (c≤122))||(decide (48≤c)&&decide (c≤57))
theorem Ve0:∀ n:Nat,n<128→(decide (0≤Lib.indexByte digs (UInt8.ofNat n))=(decide (48≤n)&&decide (n≤57))):=by decide +kernel
theorem Uhu (c:Int) (h0:0≤c) (h1:c<2^21):APure Tryz.prog 313 [.str digs,.int .i32 c] (.bool (decide (48≤c)&&decide (c≤57))):=by
 intro σ
 refine Yb Tryz.func313 rfl (Zb Tryz.func313 (by decide) rfl) ?_
 simp [Tryz.ntmps313]
 refine (Xfm c h0 h1).use ?_
 by_cases hc:c<128
 ·obtain ⟨n,rfl⟩:∃ n:Nat,c=n:=⟨c.toNat,by omega⟩
  have h:=Ve0 n (by omega)
  rw [if_pos hc,Int.toNat_natCast]
  generalize Lib.indexByte digs (UInt8.ofNat n)=q at *
  have e:(decide (48≤(n:Int))&&decide ((n:Int)≤57))=decide (0≤q):=by
   rw [h,Bool.eq_iff_iff];simp;omega
  rw [e]
  simp
 ·rw [if_neg hc]
  have e:(decide (48≤c)&&decide (c≤57))=false:=by rw [Bool.eq_false_iff];simp;omega
  rw [e]
  simp
theorem Wb3 (c:Int) (h0:0≤c) (h1:c<2^21):APure Tryz.prog 266 [.agg [.str digs],.int .i32 c] (.bool (Xae c)):=by
 refine APure.of fun σ=>?_
 refine Yb Tryz.func266 rfl (Zb Tryz.func266 (by decide) rfl) ?_
 have hw:=w64 (n:=c) (by omega) (by omega)
 simp [Tryz.ntmps266,hw]
 refine (Za1 _ _ _).use ?_
 unfold Xae
 by_cases h:97≤c∧c≤122
 ·have e:(decide (97≤c)&&decide (c≤122))=true:=by simpa using h
  rw [e]
  simp
 ·have e:(decide (97≤c)&&decide (c≤122))=false:=by rw [Bool.eq_false_iff];simpa using h
  rw [e]
  simp
  refine (Uhu c h0 h1).use ?_
  simp
theorem Vbn (b:UInt8):Xae (b.toNat:Int)=Oyez.isWordByte b:=by
 have hlow:Oyez.isLow b=true↔97≤b.toNat∧b.toNat≤122:=by simp [Oyez.isLow,UInt8.le_iff_toNat_le]
 have hdig:=Zf2 b
 rw [Bool.eq_iff_iff]
 unfold Xae Oyez.isWordByte
 rw [Bool.or_eq_true,Bool.or_eq_true,hlow,hdig]
 simp
 omega
theorem notWord {w:List UInt8} {b:UInt8} (hm:b∈w) (h:Oyez.isWordByte b=false):Oyez.word w=false:=by
 have:w.all Oyez.isWordByte=false:=by
  rw [Bool.eq_false_iff];intro e
  rw [List.all_eq_true.1 e b hm] at h
  cases h
 simp [Oyez.word,this]
set_option maxRecDepth 4000 in
theorem Wht (w:List UInt8) (hw:w.length<2^50):APure Tryz.prog 201 [.str w] (.bool (Oyez.word w)):=by
 refine APure.of fun σ=>?_
 refine Yb Tryz.func201 rfl (Zb Tryz.func201 (by decide) rfl) ?_
 simp [Tryz.ntmps201]
 refine Wd (fun env σ'=>∃ (u:List AV) (pos:Nat),env={ t:=u }∧u.length=20∧tg u 0=.str w∧tg u 3=.fn (.func 266) [.agg [.str digs]] []∧tg u 9=.ptr σ.length 0∧σ'=σ++[.iter w pos]∧pos≤w.length∧∀ x,x∈w.take pos→Oyez.isWordByte x=true)
  (fun _ σ'=>match σ'[σ.length]? with | some (.iter _ pos)=>w.length - pos | _=>0) ⟨_,0,rfl,by simp,by simp,by simp,by simp,rfl,by omega,fun x hx=>by simp at hx⟩ ?_
 rintro env σ' ⟨u,pos,rfl,hl,g0,g3,g9,rfl,hp,hd⟩
 rcases Qzn pos w.length with hlt | hge
 ·by_cases hb:w[pos].toNat<128
  ·have hdc:=Zb3 w pos hlt hb
   simp [hl,g0,g3,g9,hlt,hdc]
   refine (Wb3 _ (by omega) (by omega)).use ?_
   cases hm:Xae (w[pos].toNat:Int) with
   | true =>
    simp [hl,g0,g3,g9]
    have htake:w.take (pos+1)=w.take pos++[w[pos]]:=by rw [List.take_add_one,Qze hlt];rfl
    refine ⟨⟨hlt,fun x hx=>?_⟩,by omega⟩
    rw [htake] at hx
    rcases List.mem_append.1 hx with h | h
    ·exact hd x h
    ·simp at h;subst h;rw [← Vbn];exact hm
   | false =>
    simp [hl,g0,g3,g9]
    exact notWord (List.getElem_mem hlt) (by rw [← Vbn];exact hm)
  ·obtain ⟨d1,d2,d3⟩:=decode_high w pos hlt hb
   simp [hl,g0,g3,g9,hlt]
   refine (Wb3 _ (by omega) (by omega)).use ?_
   have hm:Xae ((Utf8.decode ⟨⟨w⟩⟩ pos).1:Int)=false:=by
    unfold Xae;rw [Bool.eq_false_iff];simp;omega
   rw [hm]
   simp [hl,g0,g3,g9]
   refine notWord (List.getElem_mem hlt) ?_
   rw [← Vbn]
   unfold Xae;rw [Bool.eq_false_iff];simp;omega
 ·have hge':¬ pos<w.length:=by omega
  simp [hl,g0,g3,g9,hge']
  refine (Za1 _ _ _).use ?_
  simp [hl,g0,g3,g9]
  rw [List.take_of_length_le hge] at hd
  have hall:w.all Oyez.isWordByte=true:=List.all_eq_true.2 hd
  rw [Oyez.word,hall,Bool.true_and,Bool.eq_iff_iff]
  simp
  omega
end Ab
namespace Ab
open Go Go.RowKit Go.Proofs
attribute [local irreducible] aws awp aw1 Og Om Oc Oa Ogd Ov Ot awd Ua awh Xb Ogh Ohd Wb Vb QFn Zc ACode AYield
def Vp (ws:List (List UInt8)):List UInt8:=[32].intercalate ws
theorem Zhl (σ:Za) (r:Nat) (ws:List (List UInt8)) (h:σ[r]? = some (.cells (ws.map AV.str))) (hl:ws.length≤2^40) (hj:(Vp ws).length≤2^40) :
  ACalls Tryz.prog 259 [.arr 1 r 0 ws.length,.str [32]] σ (fun v σ'=>v=.str (Vp ws)∧σ'=σ):=by
 refine .inl ⟨Zb Tryz.func259 (by decide) rfl,fun C cargs hI hv=>callsIn_wide.2 ?_⟩
 obtain ⟨x,q,rfl,h1,h2⟩:=hv.inv
 obtain ⟨y,q,rfl,h3,h4⟩:=h2.inv
 obtain rfl:=h4.of_nil
 obtain ⟨b,cap,e,n,hb,hc1,hc2,hc3,rfl⟩:=h1.arr_inv
 rw [h3.str_inv]
 have hmap:(ws.map fun w=>ByteArray.mk ⟨w⟩).map (·.data.toList)=ws:=by
  rw [List.map_map]
  exact List.map_id'' (fun w=>rfl) ws
 obtain ⟨_,c,hc,_⟩:=hI.live r b _ hb h rfl
 have hbl:b<C.w.heap.size:=(Array.getElem?_eq_some_iff.1 hc).1
 have key:=Tryz.strings_Join b (0*1) cap (ws.map fun w=>ByteArray.mk ⟨w⟩) ⟨⟨[32]⟩⟩ C.w (fun j x hx=>by
  rw [Qzp,Qzm] at hx
  obtain ⟨w,hw,rfl⟩:=hx
  obtain ⟨v,hv,hvr⟩:=hI.cell_at hb h j (.str w) (by rw [Qzp,hw];rfl)
  rw [Nat.zero_mul,Nat.zero_add,hv,hvr.str_inv]) hbl (by rw [List.length_map];omega) (by rw [List.length_map];exact hc1) (by
   rw [hmap]
   have:(Vp ws).length≤140737488355328:=by omega
   exact this)
 rw [hmap,List.length_map] at key
 refine key.mono ?_
 rintro e w' ⟨rfl,hbw⟩
 have hE:=Ext.below hI.plt hbw (fun h=>False.elim h)
 refine ⟨_,C.at_ w',.str (Vp ws),σ,rfl,rfl,hE,hI.below hbw,?_,rfl,rfl⟩
 have:VR (C.at_ w') (.str (Vp ws)) (.string ⟨⟨Vp ws⟩⟩):=.str _
 simpa [Vp,Lib.join] using this
theorem Xgc (σ:Za) (r:Nat) (ws:List (List UInt8)) (h:σ[r]? = some (.cells (ws.map AV.str))) (hl:ws.length≤2^40) (hj:(Vp ws).length≤2^40) :
  ACalls Tryz.prog 189 [.arr 1 r 0 ws.length] σ (fun v σ'=>v=.str (Vp ws)∧σ'=σ):=by
 refine Yb Tryz.func189 rfl (Zb Tryz.func189 (by decide) rfl) ?_
 simp [Tryz.ntmps189]
 refine StA.of ((Zhl σ r ws h hl hj).mono ?_)
 rintro v σ' ⟨rfl,rfl⟩
 simp
end Ab
namespace Ab
open Go Go.RowKit Go.Proofs
attribute [local irreducible] aws awp aw1 Og Om Oc Oa Ogd Ov Ot awd Ua awh Xb Ogh Ohd awl Ogl Ohl Wb Vb QFn Zc ACode AYield
abbrev nameList:List (List UInt8):=[Oyez.nameN 0,Oyez.nameN 1,Oyez.nameN 2,Oyez.nameN 3,Oyez.nameN 4]
theorem Udn:APure Tryz.prog 190 [] (Yo nameList):=by
 refine APure.of fun σ=>?_
 refine Yb Tryz.func190 rfl (Zb Tryz.func190 (by decide) rfl) ?_
 simp [Tryz.ntmps190]
 have hA:Acc σ [.cells (nameList.map AV.str)] 1 (.arr 1 (σ.length+0) 0 5) (nameList.map AV.str) (some 0):=⟨fun x hx=>by
  obtain ⟨w,_,rfl⟩:=List.mem_map.1 hx
  exact ⟨rfl,by simp [AV.cells,AV.one]⟩,rfl,rfl⟩
 exact hA.fz fun x hx y hy=>by
  obtain ⟨w,_,rfl⟩:=List.mem_map.1 hx
  simp [AV.cells] at hy
  subst hy
  exact .str w
theorem Yfb (σ:Za) (r:Nat) (x:List UInt8) (h:σ[r]? = some (.cells [.fn (.func 201) [] []])) (hx:x.length<2^50):ACalls Tryz.prog 337 [.str x,.ptr r 0] σ (fun v σ'=>v=.bool (!Oyez.word x)∧σ'=σ):=by
 refine Yb Tryz.func337 rfl (Zb Tryz.func337 (by decide) rfl) ?_
 simp [Tryz.ntmps337,h]
 refine (Wht x hx).use ?_
 simp
theorem Yf0 (σ:Za) (r:Nat) (ws:List (List UInt8)) (h:σ[r]? = some (.cells [.fn (.func 201) [] []])) (hw:Xw ws≤2^49) (hwl:ws.length≤2^49) :
  ACalls Tryz.prog 352 [Yo ws,.fn (.func 337) [] [.ptr r 0]] σ (fun v σ'=>σ'=σ∧∃ n:Int,v=.int .i64 n∧decide (0≤n)=!(ws.all Oyez.word)):=by
 refine Yb Tryz.func352 rfl (Zb Tryz.func352 (by decide) rfl) ?_
 simp [Tryz.ntmps352]
 refine Wd (fun env σ'=>∃ (u:List AV) (i:Nat),env={ t:=u }∧u.length=19∧tg u 0=Yo ws∧tg u 1=.fn (.func 337) [] [.ptr r 0]∧tg u 7=.int .i64 ws.length∧tg u 8=.int .i64 i∧σ'=σ∧i≤ws.length∧∀ x,x∈ws.take i→Oyez.word x=true)
  (fun env _=>match tg env.t 8 with | .int _ i=>ws.length - i.toNat | _=>0) ⟨_,0,rfl,by simp,by simp,by simp,by simp,by simp,rfl,by omega,fun x hx=>by simp at hx⟩ ?_
 rintro env σ' ⟨u,i,rfl,hl,g0,g1,g7,g8,rfl,hi,hd⟩
 rcases Qzn i ws.length with hlt | hge
 ·have hlt':(i:Int)<(ws.length:Int):=by omega
  have htake:ws.take (i+1)=ws.take i++[ws[i]]:=by rw [List.take_add_one,Qze hlt];rfl
  have hwi:=Yc7 (List.getElem_mem hlt)
  simp [hl,g0,g1,g7,g8,hlt',hlt]
  refine StA.of ((Yfb σ' r ws[i] h (by omega)).mono ?_)
  rintro v σ'' ⟨rfl,rfl⟩
  cases hx:Oyez.word ws[i] with
  | true =>
   have hw1:=w64 (n:=(i:Int)+1) (by omega) (by omega)
   simp [hl,g0,g1,g7,g8,hw1]
   refine ⟨⟨i+1,by simp,hlt,?_⟩,by omega⟩
   rw [htake]
   intro x hx'
   rcases List.mem_append.1 hx' with h | h
   ·exact hd x h
   ·simp at h;subst h;exact hx
  | false =>
   have hall:ws.all Oyez.word=false:=by
    rw [Bool.eq_false_iff];intro e
    rw [List.all_eq_true.1 e _ (List.getElem_mem hlt)] at hx
    cases hx
   generalize ws.all Oyez.word=q at hall
   subst hall
   simp [hl,g0,g1,g7,g8]
 ·have hge':¬ (i:Int)<(ws.length:Int):=by omega
  rw [List.take_of_length_le hge] at hd
  have hall:ws.all Oyez.word=true:=List.all_eq_true.2 hd
  generalize ws.all Oyez.word=q at hall
  subst hall
  simp [hl,g0,g1,g7,g8,hge']
theorem Ygh (ws:List (List UInt8)) (hw:Xw ws≤2^49) (hwl:ws.length≤2^49):APure Tryz.prog 296 [Yo ws,.fn (.func 201) [] []] (.bool (ws.all Oyez.word)):=by
 refine APure.of fun σ=>?_
 refine Yb Tryz.func296 rfl (Zb Tryz.func296 (by decide) rfl) ?_
 simp [Tryz.ntmps296]
 have h232:∀ (σ:Za) (r:Nat),σ[r]? = some (.cells [.fn (.func 201) [] []])→ACalls Tryz.prog 336 [Yo ws,.fn (.func 337) [] [.ptr r 0]] σ (fun v σ'=>v=.bool (!(ws.all Oyez.word))∧σ'=σ):=by
  intro σ r h
  refine Yb Tryz.func336 rfl (Zb Tryz.func336 (by decide) rfl) ?_
  simp [Tryz.ntmps336]
  refine StA.of ((Yf0 σ r ws h hw hwl).mono ?_)
  rintro v σ' ⟨rfl,n,rfl,hn⟩
  generalize ws.all Oyez.word=q at hn
  simp [hn]
 refine StA.of ((h232 _ σ.length (by simp)).mono ?_)
 rintro v σ' ⟨rfl,rfl⟩
 generalize ws.all Oyez.word=q
 simp
theorem Xgp (p:Oyez.Place):APure Tryz.prog 233 [Zap p] (.int .i64 (Oyez.placeErr p.kind p.number)):=by
 refine APure.of fun σ=>?_
 refine Yb Tryz.func233 rfl (Zb Tryz.func233 (by decide) rfl) ?_
 simp [Tryz.ntmps233]
 refine (Za1 _ _ _).use ?_
 generalize hX:Oyez.placeErr p.kind p.number=X
 unfold Oyez.placeErr at hX
 by_cases h:p.kind<0∨4<p.kind
 ·have e:(decide (0≤p.kind)&&decide (p.kind≤4))=false:=by rw [Bool.eq_false_iff];simp;omega
  rw [if_pos h] at hX
  subst hX
  rw [e]
  simp
 ·have e:(decide (0≤p.kind)&&decide (p.kind≤4))=true:=by simp;omega
  rw [if_neg h] at hX
  rw [e]
  simp
  refine (Za1 _ _ _).use ?_
  by_cases h2:p.number<0∨999<p.number
  ·have e:(decide (0≤p.number)&&decide (p.number≤999))=false:=by rw [Bool.eq_false_iff];simp;omega
   rw [if_pos h2] at hX
   subst hX
   rw [e]
   simp
  ·have e:(decide (0≤p.number)&&decide (p.number≤999))=true:=by simp;omega
   rw [if_neg h2] at hX
   subst hX
   rw [e]
   simp
theorem Uev (ws:List (List UInt8)):List.flatMap AV.cells (List.map AV.str ws)=List.map AV.str ws:=by
 induction ws with
 | nil=>rfl
 | cons w t ih =>
  rw [List.map_cons,List.flatMap_cons,ih]
  rfl
theorem Zcn (a b:List UInt8) (ws:List (List UInt8)):Vp (a::b::ws)=a++[32]++b++ws.flatMap (fun w=>32::w):=by
 have key:∀ (ws:List (List UInt8)) (b:List UInt8),Vp (b::ws)=b++ws.flatMap (fun w=>32::w):=by
  intro ws
  induction ws with
  | nil=>intro b;simp [Vp,List.intercalate]
  | cons w t ih =>
   intro b
   have:=ih w
   simp [Vp,List.intercalate] at this ⊢
   exact this
 rw [key]
 simp
set_option maxRecDepth 8000 in
set_option maxHeartbeats 1000000 in
theorem Xbr (r:Oyez.Rec) (hk:0≤r.kind) (hk2:r.kind≤4) (hn:0≤r.number) (hn2:r.number≤2^20) (hw:Xw r.words≤2^38) (hwl:r.words.length≤2^38):APure Tryz.prog 114 [Zm r] (.str (Oyez.line r.kind r.number r.words)):=by
 refine APure.of fun σ=>?_
 obtain ⟨k,n,ws⟩:=r
 obtain ⟨m,rfl⟩:∃ m:Nat,k=m:=⟨k.toNat,by simp only at hk;omega⟩
 obtain ⟨n,rfl⟩:∃ j:Nat,n=j:=⟨n.toNat,by simp only at hn;omega⟩
 simp only at hk hk2 hn hn2 hw hwl ⊢
 have hNl:(nameList.map AV.str).length=5:=rfl
 have hNm:(nameList.map AV.str)[m]? = some (.str (Oyez.nameN m)):=by
  have:m≤4:=by omega
  match m,this with
  | 0,_=>rfl
  | 1,_=>rfl
  | 2,_=>rfl
  | 3,_=>rfl
  | 4,_=>rfl
 have hN:APure Tryz.prog 190 [] (.pl 1 (nameList.map AV.str)):=Udn
 generalize nameList.map AV.str=L at hNl hNm hN
 have hnl:(Oyez.nameN m).length≤6:=by have:=Vfy (m:Int);simpa [Oyez.name] using this
 have hdl:=Uei n
 have hline:Vp (Oyez.nameN m::Oyez.digitsN n::ws)=Oyez.line m n ws:=by
  rw [Zcn];simp [Oyez.line,Oyez.name,Oyez.digits]
 have hlen:(Vp (Oyez.nameN m::Oyez.digitsN n::ws)).length≤2^40:=by
  rw [Zcn,List.length_append,Wh5]
  simp
  omega
 have hitoa:APure Tryz.prog 38 [.int .i64 n] (.str (Oyez.digitsN n)):=by rw [← Vdn];exact Ycr n (by omega) (by omega)
 refine Yb Tryz.func114 rfl (Zb Tryz.func114 (by decide) rfl) ?_
 simp [Tryz.ntmps114]
 refine Yhd [8,11] [(9,0),(10,0)] mixed (by kernel_rfl) (by kernel_rfl) ?_
 simp
 refine Xal hN ?_
 have h5:(m:Int)<5:=by omega
 have h5n:m<5:=by omega
 have hNm2:∀ (h:m<L.length),L[m]=AV.str (Oyez.nameN m):=fun h=>by rw [Qze h] at hNm;exact Option.some.inj hNm
 simp [hNl,hNm2,h5,h5n]
 refine Yaq hitoa ?_
 have hb:(2+ws.length)*16≤140737488355328:=by omega
 simp [hb]
 rw [Uev]
 have hj:=Xgc (σ++[.cells [.int .i64 m,.int .i64 n,.pl 1 (List.map AV.str ws)],.dead,.cells (.str (Oyez.nameN m)::.str (Oyez.digitsN n)::List.map AV.str ws)]) (σ.length+2) (Oyez.nameN m::Oyez.digitsN n::ws) (by simp) (by simp;omega) hlen
 rw [hline,show (Oyez.nameN m::Oyez.digitsN n::ws).length=2+ws.length by simp;omega] at hj
 refine Wa1 hj ?_
 simp
theorem Uca {k n:Int} (h:Oyez.placeErr k n=0):0≤k∧k≤4∧0≤n∧n≤999:=by
 unfold Oyez.placeErr at h
 split at h
 ·cases h
 ·split at h
  ·cases h
  ·omega
def Few (f:List Oyez.Rec):Prop:=∀ r∈f,Xw r.words≤2^38∧r.words.length≤2^38
set_option maxRecDepth 4000 in
theorem Vc8 (r:Oyez.Rec) (hp:Oyez.placeErr r.kind r.number=0) (hw:Xw r.words≤2^38) (hwl:r.words.length≤2^38):APure Tryz.prog 234 [Zm r] (.int .i64 (Oyez.wordsErr r.kind r.number r.words)):=by
 refine APure.of fun σ=>?_
 obtain ⟨p1,p2,p3,p4⟩:=Uca hp
 have hline:=Xbr r p1 p2 p3 (by omega) hw hwl
 have hev:=Ygh r.words (by omega) (by omega)
 refine Yb Tryz.func234 rfl (Zb Tryz.func234 (by decide) rfl) ?_
 generalize hX:Oyez.wordsErr r.kind r.number r.words=X
 unfold Oyez.wordsErr at hX
 by_cases h6:6<r.words.length
 ·have h6':(6:Int)<(r.words.length:Int):=by omega
  rw [if_pos h6] at hX
  subst hX
  simp [Tryz.ntmps234,h6']
 ·have h6':¬ (6:Int)<(r.words.length:Int):=by omega
  rw [if_neg h6] at hX
  simp [Tryz.ntmps234,h6']
  refine hev.use ?_
  cases hall:r.words.all Oyez.word with
  | false =>
   rw [hall,if_pos rfl] at hX
   subst hX
   simp
  | true =>
   rw [hall,if_neg (by simp)] at hX
   simp
   refine hline.use ?_
   by_cases h64:64<(Oyez.line r.kind r.number r.words).length
   ·have h64':(64:Int)<((Oyez.line r.kind r.number r.words).length:Int):=by omega
    rw [if_pos h64] at hX
    subst hX
    simp [h64']
   ·have h64':¬ (64:Int)<((Oyez.line r.kind r.number r.words).length:Int):=by omega
    rw [if_neg h64] at hX
    subst hX
    simp [h64']
theorem Xgu (r:Oyez.Rec) (hw:Xw r.words≤2^38) (hwl:r.words.length≤2^38):APure Tryz.prog 187 [Zm r] (.int .i64 (Oyez.recErr r)):=by
 refine APure.of fun σ=>?_
 refine Yb Tryz.func187 rfl (Zb Tryz.func187 (by decide) rfl) ?_
 simp [Tryz.ntmps187]
 refine (Zbl r).use ?_
 refine (Xgp r.place).use ?_
 generalize hX:Oyez.recErr r=X
 unfold Oyez.recErr Oyez.oneErr at hX
 have he:Oyez.placeErr r.place.kind r.place.number=Oyez.placeErr r.kind r.number:=rfl
 rw [he]
 by_cases h:Oyez.placeErr r.kind r.number=0
 ·rw [if_neg (by simpa using h)] at hX
  subst hX
  simp [h]
  refine (Vc8 r h hw hwl).use ?_
  simp
 ·rw [if_pos (by simpa using h)] at hX
  subst hX
  simp [h]
end Ab
namespace Ab
open Go Go.RowKit Go.Proofs
attribute [local irreducible] aws awp aw1 Og Om Oc Oa Ogd Ov Ot awd Ua awh Xb Ogh Ohd awl Ogl Ohl Wb Vb QFn Zc ACode AYield
set_option maxHeartbeats 1000000 in
set_option maxRecDepth 8000 in
theorem Ybf (f:List Oyez.Rec) (hf:Few f):APure Tryz.prog 112 [Ys f] (.int .i64 (Oyez.check f)):=by
 refine APure.of fun σ=>?_
 refine Yb Tryz.func112 rfl (Zb Tryz.func112 (by decide) rfl) ?_
 by_cases h40:40<f.length
 ·have h40':(40:Int)<(f.length:Int):=by omega
  have hE:Oyez.check f=2:=by unfold Oyez.check;rw [if_pos h40]
  simp [Tryz.ntmps112,h40',hE]
 ·have h40':¬ (40:Int)<(f.length:Int):=by omega
  have hE:Oyez.check f=Oyez.checkFrom none f:=by unfold Oyez.check;rw [if_neg h40]
  simp [Tryz.ntmps112,h40']
  refine Wd (fun env σ'=>∃ (u:List AV) (i:Nat) (g:Za),env={ t:=u }∧u.length=36∧tg u 0=Ys f∧tg u 9=Ys f∧tg u 10=.int .i64 f.length∧tg u 11=.int .i64 i∧σ'=σ++g∧i≤f.length∧Oyez.checkFrom (Yal f i) (f.drop i)=Oyez.check f)
   (fun env _=>match tg env.t 11 with | .int _ i=>f.length - i.toNat | _=>0) ⟨_,0,[],rfl,by simp,by simp,by simp,by simp,by simp,by simp,by omega,by simp [Yal,hE]⟩ ?_
  rintro env σ' ⟨u,i,g,rfl,hl,g0,g9,g10,g11,rfl,hi,hd⟩
  rcases Qzn i f.length with hlt | hge
  ·have hlt':(i:Int)<(f.length:Int):=by omega
   have hdr:f.drop i=f[i]::f.drop (i+1):=List.drop_eq_getElem_cons hlt
   have hs:=hf _ (List.getElem_mem hlt)
   rw [hdr,Oyez.checkFrom] at hd
   simp [hl,g0,g9,g10,g11,hlt',hlt]
   refine (Xgu f[i] hs.1 hs.2).use ?_
   by_cases h0:Oyez.recErr f[i]=0
   ·rw [if_neg (by simpa using h0)] at hd
    simp [hl,g0,g9,g10,g11,h0]
    refine Yl mixed (by kernel_rfl) ?_
    cases i with
    | zero =>
     have hx1:IntKind.i64.wrap 1=1:=w64 (by omega) (by omega)
     simp [hl,g0,g9,g10,g11,hx1]
     refine ⟨⟨1,rfl,hlt,?_⟩,by omega⟩
     simpa [Yal,Qze hlt] using hd
    | succ j =>
     have hz':(0:Int)<(j:Int)+1:=by omega
     have hx:=w64 (n:=(j:Int)) (by omega) (by omega)
     have hx2:=w64 (n:=(j:Int)+1+1) (by omega) (by omega)
     have hj:j<f.length:=by omega
     have hp:Yal f (j+1)=some f[j].place:=by simp [Yal,hj]
     rw [hp] at hd
     simp [hl,g0,g9,g10,g11,hz',hlt,hx,hj]
     refine Yaq (Zbl f[j]) ?_
     refine Yaq (Zbl f[j+1]) ?_
     refine Yaq (Wem f[j].place f[j+1].place) ?_
     have hneg:=Uey f[j].place f[j+1].place
     generalize Uat f[j].place f[j+1].place=q at hneg
     cases hb:f[j].place.lt f[j+1].place with
     | true =>
      have hq:¬ (0:Int)≤q:=by have:=hneg.2 hb;omega
      simp [hl,g0,g9,g10,g11,hx2,hq]
      refine ⟨⟨j+1+1,by simp,hlt,?_⟩,by omega⟩
      have hp2:Yal f (j+1+1)=some f[j+1].place:=by simp [Yal,hlt]
      rw [hp2,← hd]
      simp [hb]
     | false =>
      have hq:(0:Int)≤q:=by
       rcases Int.lt_or_le q 0 with h | h
       ·have:=hneg.1 h;rw [hb] at this;cases this
       ·exact h
      simp [hl,g0,g9,g10,g11,hq]
      simpa [hb] using hd
   ·rw [if_pos (by simpa using h0)] at hd
    simp [hl,g0,g9,g10,g11,h0,← hd]
  ·have hge':¬ (i:Int)<(f.length:Int):=by omega
   rw [List.drop_eq_nil_of_le hge,Oyez.checkFrom] at hd
   simp [hl,g0,g9,g10,g11,hge',← hd]
end Ab

/-
  Texts packed for a claim.
-/
import Derived.Test.YtcoikmapjepdjaaGreatDoorO00
import Derived.Test.YtcoikmapjepdjaaGreatDoorO07
import Derived.Test.YtcoikmapjepdjaaGreatDoorO09
import Derived.Test.YtcoikmapjepdjaaGreatDoorO10
import Derived.Test.YtcoikmapjepdjaaGreatDoorO11
set_option linter.all false
namespace Ab
open Go Go.RowKit Go.Proofs
attribute [local irreducible] aws awp aw1 Og Om Oc Oa Ogd Ov Ot awd Zb awh Wb Ogh Ohd Xb Vb QFn Ub ACode AYield
def Yo (ws:List (List UInt8)):List UInt8:=[32].intercalate ws
theorem Vg9 (σ:Za) (r:Nat) (ws:List (List UInt8)) (h:σ[r]? = some (.cells (ws.map AV.str))) (hl:ws.length≤2^40) (hj:(Yo ws).length≤2^40) :
  ACalls Tryz.prog 259 [.arr 1 r 0 ws.length,.str [32]] σ (fun v σ'=>v=.str (Yo ws)∧σ'=σ):=by
 refine .inl ⟨Ua Tryz.func259 (by decide) rfl,fun C cargs hI hv=>callsIn_wide.2 ?_⟩
 obtain ⟨x,q,rfl,h1,h2⟩:=hv.inv
 obtain ⟨y,q,rfl,h3,h4⟩:=h2.inv
 obtain rfl:=h4.of_nil
 obtain ⟨b,cap,e,n,hb,hc1,hc2,hc3,rfl⟩:=h1.arr_inv
 rw [h3.str_inv]
 have hmap:(ws.map fun w=>ByteArray.mk ⟨w⟩).map (·.data.toList)=ws:=by
  rw [List.map_map]
  exact List.map_id'' (fun w=>rfl) ws
 obtain ⟨_,c,hc,_⟩:=hI.live r b _ hb h rfl
 have hbl:b<C.w.heap.size:=(Array.getElem?_eq_some_iff.1 hc).1
 have key:=Tryz.strings_Join b (0*1) cap (ws.map fun w=>ByteArray.mk ⟨w⟩) ⟨⟨[32]⟩⟩ C.w (fun j x hx=>by
  rw [Qzp,Qzm] at hx
  obtain ⟨w,hw,rfl⟩:=hx
  obtain ⟨v,hv,hvr⟩:=hI.cell_at hb h j (.str w) (by rw [Qzp,hw];rfl)
  rw [Nat.zero_mul,Nat.zero_add,hv,hvr.str_inv]) hbl (by rw [List.length_map];omega) (by rw [List.length_map];exact hc1) (by
   rw [hmap]
   have:(Yo ws).length≤140737488355328:=by omega
   exact this)
 rw [hmap,List.length_map] at key
 refine key.mono ?_
 rintro e w' ⟨rfl,hbw⟩
 have hE:=Ext.below hI.plt hbw (fun h=>False.elim h)
 refine ⟨_,C.at_ w',.str (Yo ws),σ,rfl,rfl,hE,hI.below hbw,?_,rfl,rfl⟩
 have:VR (C.at_ w') (.str (Yo ws)) (.string ⟨⟨Yo ws⟩⟩):=.str _
 simpa [Yo,Lib.join] using this
theorem Wct (σ:Za) (r:Nat) (ws:List (List UInt8)) (h:σ[r]? = some (.cells (ws.map AV.str))) (hl:ws.length≤2^40) (hj:(Yo ws).length≤2^40) :
  ACalls Tryz.prog 189 [.arr 1 r 0 ws.length] σ (fun v σ'=>v=.str (Yo ws)∧σ'=σ):=by
 refine Yb Tryz.func189 rfl (Ua Tryz.func189 (by decide) rfl) ?_
 simp [Tryz.ntmps189]
 refine StA.of ((Vg9 σ r ws h hl hj).mono ?_)
 rintro v σ' ⟨rfl,rfl⟩
 simp
end Ab
namespace Ab
open Go Go.RowKit Go.Proofs
attribute [local irreducible] aws awp aw1 Og Om Oc Oa Ogd Ov Ot awd Zb awh Wb Ogh Ohd awl Ogl Ohl Xb Vb QFn Ub ACode AYield
abbrev nameList:List (List UInt8):=[Oyez.nameN 0,Oyez.nameN 1,Oyez.nameN 2,Oyez.nameN 3,Oyez.nameN 4]
theorem Vcr:APure Tryz.prog 190 [] (Xl nameList):=by
 refine APure.of fun σ=>?_
 refine Yb Tryz.func190 rfl (Ua Tryz.func190 (by decide) rfl) ?_
 simp [Tryz.ntmps190]
 have hA:Acc σ [.cells (nameList.map AV.str)] 1 (.arr 1 (σ.length+0) 0 5) (nameList.map AV.str) (some 0):=⟨fun x hx=>by
  obtain ⟨w,_,rfl⟩:=List.mem_map.1 hx
  exact ⟨rfl,by simp [AV.cells,AV.one]⟩,rfl,rfl⟩
 exact hA.fz fun x hx y hy=>by
  obtain ⟨w,_,rfl⟩:=List.mem_map.1 hx
  simp [AV.cells] at hy
  subst hy
  exact .str w
theorem Wef (σ:Za) (r:Nat) (x:List UInt8) (h:σ[r]? = some (.cells [.fn (.func 201) [] []])) (hx:x.length<2^50):ACalls Tryz.prog 337 [.str x,.ptr r 0] σ (fun v σ'=>v=.bool (!Oyez.word x)∧σ'=σ):=by
 refine Yb Tryz.func337 rfl (Ua Tryz.func337 (by decide) rfl) ?_
 simp [Tryz.ntmps337,h]
 refine (Ycq x hx).use ?_
 simp
theorem Yib (σ:Za) (r:Nat) (ws:List (List UInt8)) (h:σ[r]? = some (.cells [.fn (.func 201) [] []])) (hw:Xx ws≤2^49) (hwl:ws.length≤2^49) :
  ACalls Tryz.prog 352 [Xl ws,.fn (.func 337) [] [.ptr r 0]] σ (fun v σ'=>σ'=σ∧∃ n:Int,v=.int .i64 n∧decide (0≤n)=!(ws.all Oyez.word)):=by
 refine Yb Tryz.func352 rfl (Ua Tryz.func352 (by decide) rfl) ?_
 simp [Tryz.ntmps352]
 refine Xc (fun env σ'=>∃ (u:List AV) (i:Nat),env={ t:=u }∧u.length=19∧tg u 0=Xl ws∧tg u 1=.fn (.func 337) [] [.ptr r 0]∧tg u 7=.int .i64 ws.length∧tg u 8=.int .i64 i∧σ'=σ∧i≤ws.length∧∀ x,x∈ws.take i→Oyez.word x=true)
  (fun env _=>match tg env.t 8 with | .int _ i=>ws.length - i.toNat | _=>0) ⟨_,0,rfl,by simp,by simp,by simp,by simp,by simp,rfl,by omega,fun x hx=>by simp at hx⟩ ?_
 rintro env σ' ⟨u,i,rfl,hl,g0,g1,g7,g8,rfl,hi,hd⟩
 rcases Qzn i ws.length with hlt | hge
 ·have hlt':(i:Int)<(ws.length:Int):=by omega
  have htake:ws.take (i+1)=ws.take i++[ws[i]]:=by rw [List.take_add_one,Qze hlt];rfl
  have hwi:=Zg3 (List.getElem_mem hlt)
  simp [hl,g0,g1,g7,g8,hlt',hlt]
  refine StA.of ((Wef σ' r ws[i] h (by omega)).mono ?_)
  rintro v σ'' ⟨rfl,rfl⟩
  cases hx:Oyez.word ws[i] with
  | true =>
   have hw1:=w64 (n:=(i:Int)+1) (by omega) (by omega)
   simp [hl,g0,g1,g7,g8,hw1]
   refine ⟨⟨i+1,by simp,hlt,?_⟩,by omega⟩
   rw [htake]
   intro x hx'
   rcases List.mem_append.1 hx' with h | h
   ·exact hd x h
   ·simp at h;subst h;exact hx
  | false =>
   have hall:ws.all Oyez.word=false:=by
    rw [Bool.eq_false_iff];intro e
    rw [List.all_eq_true.1 e _ (List.getElem_mem hlt)] at hx
    cases hx
   generalize ws.all Oyez.word=q at hall
   subst hall
   simp [hl,g0,g1,g7,g8]
 ·have hge':¬ (i:Int)<(ws.length:Int):=by omega
  rw [List.take_of_length_le hge] at hd
  have hall:ws.all Oyez.word=true:=List.all_eq_true.2 hd
  generalize ws.all Oyez.word=q at hall
  subst hall
  simp [hl,g0,g1,g7,g8,hge']
theorem Zfd (ws:List (List UInt8)) (hw:Xx ws≤2^49) (hwl:ws.length≤2^49):APure Tryz.prog 296 [Xl ws,.fn (.func 201) [] []] (.bool (ws.all Oyez.word)):=by
 refine APure.of fun σ=>?_
 refine Yb Tryz.func296 rfl (Ua Tryz.func296 (by decide) rfl) ?_
 simp [Tryz.ntmps296]
 have h232:∀ (σ:Za) (r:Nat),σ[r]? = some (.cells [.fn (.func 201) [] []])→ACalls Tryz.prog 336 [Xl ws,.fn (.func 337) [] [.ptr r 0]] σ (fun v σ'=>v=.bool (!(ws.all Oyez.word))∧σ'=σ):=by
  intro σ r h
  refine Yb Tryz.func336 rfl (Ua Tryz.func336 (by decide) rfl) ?_
  simp [Tryz.ntmps336]
  refine StA.of ((Yib σ r ws h hw hwl).mono ?_)
  rintro v σ' ⟨rfl,n,rfl,hn⟩
  generalize ws.all Oyez.word=q at hn
  simp [hn]
 refine StA.of ((h232 _ σ.length (by simp)).mono ?_)
 rintro v σ' ⟨rfl,rfl⟩
 generalize ws.all Oyez.word=q
 simp
theorem Xgk (p:Oyez.Place):APure Tryz.prog 233 [Vag p] (.int .i64 (Oyez.placeErr p.kind p.number)):=by
 refine APure.of fun σ=>?_
 refine Yb Tryz.func233 rfl (Ua Tryz.func233 (by decide) rfl) ?_
 simp [Tryz.ntmps233]
 refine (Yah _ _ _).use ?_
 generalize hX:Oyez.placeErr p.kind p.number=X
 unfold Oyez.placeErr at hX
 by_cases h:p.kind<0∨4<p.kind
 ·have e:(decide (0≤p.kind)&&decide (p.kind≤4))=false:=by rw [Bool.eq_false_iff];simp;omega
  rw [if_pos h] at hX
  subst hX
  rw [e]
  simp
 ·have e:(decide (0≤p.kind)&&decide (p.kind≤4))=true:=by simp;omega
  rw [if_neg h] at hX
  rw [e]
  simp
  refine (Yah _ _ _).use ?_
  by_cases h2:p.number<0∨999<p.number
  ·have e:(decide (0≤p.number)&&decide (p.number≤999))=false:=by rw [Bool.eq_false_iff];simp;omega
   rw [if_pos h2] at hX
   subst hX
   rw [e]
   simp
  ·have e:(decide (0≤p.number)&&decide (p.number≤999))=true:=by simp;omega
   rw [if_neg h2] at hX
   subst hX
   rw [e]
   simp
theorem Uik (ws:List (List UInt8)):List.flatMap AV.cells (List.map AV.str ws)=List.map AV.str ws:=by
 induction ws with
 | nil=>rfl
 | cons w t ih =>
  rw [List.map_cons,List.flatMap_cons,ih]
  rfl
theorem Ucy (a b:List UInt8) (ws:List (List UInt8)):Yo (a::b::ws)=a++[32]++b++ws.flatMap (fun w=>32::w):=by
 have key:∀ (ws:List (List UInt8)) (b:List UInt8),Yo (b::ws)=b++ws.flatMap (fun w=>32::w):=by
  intro ws
  induction ws with
  | nil=>intro b;simp [Yo,List.intercalate]
  | cons w t ih =>
   intro b
   have:=ih w
   simp [Yo,List.intercalate] at this ⊢
   exact this
 rw [key]
 simp
set_option maxRecDepth 8000 in
set_option maxHeartbeats 1000000 in
theorem Yb4 (r:Oyez.Rec) (hk:0≤r.kind) (hk2:r.kind≤4) (hn:0≤r.number) (hn2:r.number≤2^20) (hw:Xx r.words≤2^38) (hwl:r.words.length≤2^38):APure Tryz.prog 114 [Yg r] (.str (Oyez.line r.kind r.number r.words)):=by
 refine APure.of fun σ=>?_
 obtain ⟨k,n,ws⟩:=r
 obtain ⟨m,rfl⟩:∃ m:Nat,k=m:=⟨k.toNat,by simp only at hk;omega⟩
 obtain ⟨n,rfl⟩:∃ j:Nat,n=j:=⟨n.toNat,by simp only at hn;omega⟩
 simp only at hk hk2 hn hn2 hw hwl ⊢
 have hNl:(nameList.map AV.str).length=5:=rfl
 have hNm:(nameList.map AV.str)[m]? = some (.str (Oyez.nameN m)):=by
  have:m≤4:=by omega
  match m,this with
  | 0,_=>rfl
  | 1,_=>rfl
  | 2,_=>rfl
  | 3,_=>rfl
  | 4,_=>rfl
 have hN:APure Tryz.prog 190 [] (.pl 1 (nameList.map AV.str)):=Vcr
 generalize nameList.map AV.str=L at hNl hNm hN
 have hnl:(Oyez.nameN m).length≤6:=by have:=Yex (m:Int);simpa [Oyez.name] using this
 have hdl:=Wbn n
 have hline:Yo (Oyez.nameN m::Oyez.digitsN n::ws)=Oyez.line m n ws:=by
  rw [Ucy];simp [Oyez.line,Oyez.name,Oyez.digits]
 have hlen:(Yo (Oyez.nameN m::Oyez.digitsN n::ws)).length≤2^40:=by
  rw [Ucy,List.length_append,Vc2]
  simp
  omega
 have hitoa:APure Tryz.prog 38 [.int .i64 n] (.str (Oyez.digitsN n)):=by rw [← Ybd];exact Xa1 n (by omega) (by omega)
 refine Yb Tryz.func114 rfl (Ua Tryz.func114 (by decide) rfl) ?_
 simp [Tryz.ntmps114]
 refine Ua9 [8,11] [(9,0),(10,0)] mixed (by kernel_rfl) (by kernel_rfl) ?_
 simp
 refine Zaj hN ?_
 have h5:(m:Int)<5:=by omega
 have h5n:m<5:=by omega
 have hNm2:∀ (h:m<L.length),L[m]=AV.str (Oyez.nameN m):=fun h=>by rw [Qze h] at hNm;exact Option.some.inj hNm
 simp [hNl,hNm2,h5,h5n]
 refine Zac hitoa ?_
 have hb:(2+ws.length)*16≤140737488355328:=by omega
 simp [hb]
 rw [Uik]
 have hj:=Wct (σ++[.cells [.int .i64 m,.int .i64 n,.pl 1 (List.map AV.str ws)],.dead,.cells (.str (Oyez.nameN m)::.str (Oyez.digitsN n)::List.map AV.str ws)]) (σ.length+2) (Oyez.nameN m::Oyez.digitsN n::ws) (by simp) (by simp;omega) hlen
 rw [hline,show (Oyez.nameN m::Oyez.digitsN n::ws).length=2+ws.length by simp;omega] at hj
 refine Wch hj ?_
 simp
theorem Zck {k n:Int} (h:Oyez.placeErr k n=0):0≤k∧k≤4∧0≤n∧n≤999:=by
 unfold Oyez.placeErr at h
 split at h
 ·cases h
 ·split at h
  ·cases h
  ·omega
def Few (f:List Oyez.Rec):Prop:=∀ r∈f,Xx r.words≤2^38∧r.words.length≤2^38
set_option maxRecDepth 4000 in
theorem Wdj (r:Oyez.Rec) (hp:Oyez.placeErr r.kind r.number=0) (hw:Xx r.words≤2^38) (hwl:r.words.length≤2^38):APure Tryz.prog 234 [Yg r] (.int .i64 (Oyez.wordsErr r.kind r.number r.words)):=by
 refine APure.of fun σ=>?_
 obtain ⟨p1,p2,p3,p4⟩:=Zck hp
 have hline:=Yb4 r p1 p2 p3 (by omega) hw hwl
 have hev:=Zfd r.words (by omega) (by omega)
 refine Yb Tryz.func234 rfl (Ua Tryz.func234 (by decide) rfl) ?_
 generalize hX:Oyez.wordsErr r.kind r.number r.words=X
 unfold Oyez.wordsErr at hX
 by_cases h6:6<r.words.length
 ·have h6':(6:Int)<(r.words.length:Int):=by omega
  rw [if_pos h6] at hX
  subst hX
  simp [Tryz.ntmps234,h6']
 ·have h6':¬ (6:Int)<(r.words.length:Int):=by omega
  rw [if_neg h6] at hX
  simp [Tryz.ntmps234,h6']
  refine hev.use ?_
  cases hall:r.words.all Oyez.word with
  | false =>
   rw [hall,if_pos rfl] at hX
   subst hX
   simp
  | true =>
   rw [hall,if_neg (by simp)] at hX
   simp
   refine hline.use ?_
   by_cases h64:64<(Oyez.line r.kind r.number r.words).length
   ·have h64':(64:Int)<((Oyez.line r.kind r.number r.words).length:Int):=by omega
    rw [if_pos h64] at hX
    subst hX
    simp [h64']
   ·have h64':¬ (64:Int)<((Oyez.line r.kind r.number r.words).length:Int):=by omega
    rw [if_neg h64] at hX
    subst hX
    simp [h64']
theorem Xg5 (r:Oyez.Rec) (hw:Xx r.words≤2^38) (hwl:r.words.length≤2^38):APure Tryz.prog 187 [Yg r] (.int .i64 (Oyez.recErr r)):=by
 refine APure.of fun σ=>?_
 refine Yb Tryz.func187 rfl (Ua Tryz.func187 (by decide) rfl) ?_
 simp [Tryz.ntmps187]
 refine (Xay r).use ?_
 refine (Xgk r.place).use ?_
 generalize hX:Oyez.recErr r=X
 unfold Oyez.recErr Oyez.oneErr at hX
 have he:Oyez.placeErr r.place.kind r.place.number=Oyez.placeErr r.kind r.number:=rfl
 rw [he]
 by_cases h:Oyez.placeErr r.kind r.number=0
 ·rw [if_neg (by simpa using h)] at hX
  subst hX
  simp [h]
  refine (Wdj r h hw hwl).use ?_
  simp
 ·rw [if_pos (by simpa using h)] at hX
  subst hX
  simp [h]
end Ab
namespace Ab
open Go Go.RowKit Go.Proofs
attribute [local irreducible] aws awp aw1 Og Om Oc Oa Ogd Ov Ot awd Zb awh Wb Ogh Ohd awl Ogl Ohl Xb Vb QFn Ub ACode AYield
set_option maxHeartbeats 1000000 in
set_option maxRecDepth 8000 in
theorem Ybw (f:List Oyez.Rec) (hf:Few f):APure Tryz.prog 112 [Yk f] (.int .i64 (Oyez.check f)):=by
 refine APure.of fun σ=>?_
 refine Yb Tryz.func112 rfl (Ua Tryz.func112 (by decide) rfl) ?_
 by_cases h40:40<f.length
 ·have h40':(40:Int)<(f.length:Int):=by omega
  have hE:Oyez.check f=2:=by unfold Oyez.check;rw [if_pos h40]
  simp [Tryz.ntmps112,h40',hE]
 ·have h40':¬ (40:Int)<(f.length:Int):=by omega
  have hE:Oyez.check f=Oyez.checkFrom none f:=by unfold Oyez.check;rw [if_neg h40]
  simp [Tryz.ntmps112,h40']
  refine Xc (fun env σ'=>∃ (u:List AV) (i:Nat) (g:Za),env={ t:=u }∧u.length=36∧tg u 0=Yk f∧tg u 9=Yk f∧tg u 10=.int .i64 f.length∧tg u 11=.int .i64 i∧σ'=σ++g∧i≤f.length∧Oyez.checkFrom (Wao f i) (f.drop i)=Oyez.check f)
   (fun env _=>match tg env.t 11 with | .int _ i=>f.length - i.toNat | _=>0) ⟨_,0,[],rfl,by simp,by simp,by simp,by simp,by simp,by simp,by omega,by simp [Wao,hE]⟩ ?_
  rintro env σ' ⟨u,i,g,rfl,hl,g0,g9,g10,g11,rfl,hi,hd⟩
  rcases Qzn i f.length with hlt | hge
  ·have hlt':(i:Int)<(f.length:Int):=by omega
   have hdr:f.drop i=f[i]::f.drop (i+1):=List.drop_eq_getElem_cons hlt
   have hs:=hf _ (List.getElem_mem hlt)
   rw [hdr,Oyez.checkFrom] at hd
   simp [hl,g0,g9,g10,g11,hlt',hlt]
   refine (Xg5 f[i] hs.1 hs.2).use ?_
   by_cases h0:Oyez.recErr f[i]=0
   ·rw [if_neg (by simpa using h0)] at hd
    simp [hl,g0,g9,g10,g11,h0]
    refine Ym mixed (by kernel_rfl) ?_
    cases i with
    | zero =>
     have hx1:IntKind.i64.wrap 1=1:=w64 (by omega) (by omega)
     simp [hl,g0,g9,g10,g11,hx1]
     refine ⟨⟨1,rfl,hlt,?_⟩,by omega⟩
     simpa [Wao,Qze hlt] using hd
    | succ j =>
     have hz':(0:Int)<(j:Int)+1:=by omega
     have hx:=w64 (n:=(j:Int)) (by omega) (by omega)
     have hx2:=w64 (n:=(j:Int)+1+1) (by omega) (by omega)
     have hj:j<f.length:=by omega
     have hp:Wao f (j+1)=some f[j].place:=by simp [Wao,hj]
     rw [hp] at hd
     simp [hl,g0,g9,g10,g11,hz',hlt,hx,hj]
     refine Zac (Xay f[j]) ?_
     refine Zac (Xay f[j+1]) ?_
     refine Zac (Wb8 f[j].place f[j+1].place) ?_
     have hneg:=Vcd f[j].place f[j+1].place
     generalize Zam f[j].place f[j+1].place=q at hneg
     cases hb:f[j].place.lt f[j+1].place with
     | true =>
      have hq:¬ (0:Int)≤q:=by have:=hneg.2 hb;omega
      simp [hl,g0,g9,g10,g11,hx2,hq]
      refine ⟨⟨j+1+1,by simp,hlt,?_⟩,by omega⟩
      have hp2:Wao f (j+1+1)=some f[j+1].place:=by simp [Wao,hlt]
      rw [hp2,← hd]
      simp [hb]
     | false =>
      have hq:(0:Int)≤q:=by
       rcases Int.lt_or_le q 0 with h | h
       ·have:=hneg.1 h;rw [hb] at this;cases this
       ·exact h
      simp [hl,g0,g9,g10,g11,hq]
      simpa [hb] using hd
   ·rw [if_pos (by simpa using h0)] at hd
    simp [hl,g0,g9,g10,g11,h0,← hd]
  ·have hge':¬ (i:Int)<(f.length:Int):=by omega
   rw [List.drop_eq_nil_of_le hge,Oyez.checkFrom] at hd
   simp [hl,g0,g9,g10,g11,hge',← hd]
end Ab
namespace Ab
open Go Go.RowKit Go.Proofs
attribute [local irreducible] aws awp aw1 Og Om Oc Oa Ogd Ov Ot awd Zb awh Wb Ogh Ohd awl Ogl Ohl Xb Vb QFn Ub ACode
theorem AYield.mono {P:Program} {r:Nat} {args:List AV} {σ:Za} {K K':AV→Za→Prop} (h:AYield P r args σ K) (hk:∀ v s,K v s→K' v s):AYield P r args σ K':=by
 have h1:∀ e env s,Ab.QRound r K e env s→Ab.QRound r K' e env s:=by
  intro e env s hq
  cases e<;>unfold Ab.QRound at hq ⊢<;>simp only at hq ⊢<;>first
   | (split at hq
      · exact hk _ _ hq
      · cases hq)
   | cases hq
 unfold AYield at h ⊢
 split at h
 ·rename_i hr
  refine ⟨h.1,h.2.mono fun e env s hq=>?_⟩
  cases e with
  | normal =>
   unfold Ab.QBegin at hq ⊢
   simp only at hq ⊢
   split at hq
   ·exact ⟨hq.1,hq.2.mono h1⟩
   ·cases hq
  | _=>cases hq
 ·cases h
theorem StY.of {P:Program} {r:Nat} {args:List AV} {σ:Za} {K R:AV→Za→Prop} (h:AYield P r args σ K) (hk:∀ v s,K v s→R v s):@StY _ P r args σ ⟨R⟩:=h.mono hk
set_option maxRecDepth 8000 in
theorem Wdn (s:List UInt8) (hs:s.length≤2^50):APure Tryz.prog 262 [.str s,.int .u8 10] (.int .i64 ((Oyez.lastLine s:Int) - 1)):=by
 intro σ
 refine Yb Tryz.func262 rfl (Ua Tryz.func262 (by decide) rfl) ?_
 obtain ⟨hl1,hl2⟩:=Oyez.lastLine_split _ s rfl
 have hll:Oyez.lastLine s≤s.length:=Nat.sub_le _ _
 generalize Oyez.lastLine s=L at hl1 hl2 hll
 have hw0:=w64 (n:=(s.length:Int) - 1) (by omega) (by omega)
 simp [Tryz.ntmps262,hw0]
 refine Xc (fun env σ'=>∃ (u:List AV) (j:Nat),env={ t:=u }∧u.length=19∧tg u 0=.str s∧tg u 1=.int .u8 10∧tg u 5=.int .i64 ((j:Int) - 1)∧σ'=σ∧L≤j∧j≤s.length)
  (fun env _=>match tg env.t 5 with | .int _ i=>(i+1).toNat | _=>0) ⟨_,s.length,rfl,by simp,by simp,by simp,by simp,rfl,hll,by omega⟩ ?_
 rintro env σ' ⟨u,j,rfl,hl,g0,g1,g5,rfl,hj,hj2⟩
 rcases Nat.eq_zero_or_pos j with hz | hz
 ·subst hz
  obtain rfl:L=0:=by omega
  simp [hl,g0,g1,g5]
 ·obtain ⟨k,rfl⟩:∃ k,j=k+1:=⟨j - 1,by omega⟩
  have hk:k<s.length:=by omega
  have hk':(k:Int)<(s.length:Int):=by omega
  have hw:=w64 (n:=(k:Int) - 1) (by omega) (by omega)
  rw [show ((k+1:Nat):Int) - 1=(k:Int) by omega] at g5
  rcases Qzn L (k+1) with hlt | hge
  ·have hne:¬ ((s[k].toNat:Nat):Int)=10:=by
    intro e
    have e1:s[k]=10:=(Wgv _ 10 (by decide)).1 (by omega)
    apply hl1
    rw [← e1]
    have:(s.drop L)[k - L]? = some s[k]:=by rw [List.getElem?_drop,show L+(k - L)=k by omega,Qze hk]
    exact Qzg this
   simp [hl,g0,g1,g5,hk,hk',hne,hw]
   exact ⟨k,rfl,by omega,by omega⟩
  ·obtain rfl:L=k+1:=by omega
   have h10:((s[k].toNat:Nat):Int)=10:=by
    rcases hl2 with e | e
    ·have e3:=congrArg List.length e
     rw [List.length_take,Nat.min_eq_left hll] at e3
     simp at e3
    ·have e2:(s.take (k+1)).getLast? = some s[k]:=by rw [List.take_add_one,Qze hk];exact List.getLast?_concat
     rw [e2] at e
     simp at e
     rw [e];rfl
   simp [hl,g0,g1,g5,hk,hk',h10]
theorem Vd4 (s:List UInt8) (hs:s.length≤2^50):APure Tryz.prog 193 [.str s,.str [10]] (.int .i64 ((Oyez.lastLine s:Int) - 1)):=by
 intro σ
 refine Yb Tryz.func193 rfl (Ua Tryz.func193 (by decide) rfl) ?_
 simp [Tryz.ntmps193]
 refine (Wdn s hs).use ?_
 simp
theorem Vb1 (s:List UInt8) (σ:Za):ACalls Tryz.prog 194 [.str s] σ (fun v σ'=>v=.fn (.func 264) [] [.ptr σ.length 0]∧σ'=σ++[.cells [.str s]]):=by
 refine Yb Tryz.func194 rfl (Ua Tryz.func194 (by decide) rfl) ?_
 simp [Tryz.ntmps194]
theorem Xb8 (s:List UInt8) (hs:s.length≤2^40) (r q:Nat) (I:List (List UInt8)→List UInt8→Za→Prop)
  (hq:∀ pre x σ,I pre x σ→σ[q]? = some (.cells [.str x]))
  (hset:∀ pre x y σ,I pre x σ→I pre y (σ.set q (.cells [.str y])))
  (hy:∀ pre x w σ,I pre x σ→pre.length≤2^41→w.length≤s.length→AYield Tryz.prog r [.int .i64 pre.length,.str w] σ (fun v σ'=>v=.bool true∧I (pre++[w]) x σ'))
  (σ:Za) (h0:I [] s σ):AEnter Tryz.prog 264 [.yld r,.ptr q 0] σ (fun _ σ'=>∃ x,I (Oyez.words s) x σ'):=by
 refine Ubi Tryz.func264 rfl (Ua Tryz.func264 (by decide) rfl) ?_
 simp [Tryz.ntmps264]
 refine Xc (fun env σ'=>∃ (u:List AV) (pre:List (List UInt8)) (x:List UInt8),env={ t:=u }∧u.length=25∧tg u 0=.yld r∧tg u 1=.ptr q 0∧tg u 3=.int .i64 pre.length∧I pre x σ'∧pre++Oyez.words x=Oyez.words s∧x.length+pre.length≤s.length)
  (fun _ σ'=>match σ'[q]? with | some (.cells [.str x])=>x.length+1 | _=>0) ⟨_,[],s,rfl,by simp,by simp,by simp,by simp,h0,rfl,by simp⟩ ?_
 rintro env σ' ⟨u,pre,x,rfl,hl,g0,g1,g3,hI,hd,hlen⟩
 have hqx:=hq _ _ _ hI
 have hxl:x.length≤s.length:=by omega
 have hc:=Ub6 32 x
 have hw:=Vdh x
 simp [hl,g0,g1,g3,hqx]
 refine (Uc0 x 32 (by omega)).use ?_
 simp [hl,g0,g1,g3]
 refine StY.of (hy pre x (We 32 x).1 σ' hI (by omega) (by omega)) ?_
 rintro v σ2 ⟨rfl,hI2⟩
 have hqx2:=hq _ _ _ hI2
 cases hf:(We 32 x).2.2 with
 | true =>
  rw [hf,if_pos rfl] at hw
  have hlt:=hc.2.2 hf
  have hw1:=w64 (n:=(pre.length:Int)+1) (by omega) (by omega)
  have hI3:=hset _ _ (We 32 x).2.1 _ hI2
  have hqx3:=hq _ _ _ hI3
  simp [hl,g0,g1,g3,hf,hqx2,hw1,hqx3]
  exact ⟨⟨pre++[(We 32 x).1],by simp,(We 32 x).2.1,hI3,by rw [← hd,hw];simp,by simp;omega⟩,hlt⟩
 | false =>
  rw [hf,if_neg (by simp)] at hw
  simp [hl,g0,g1,g3,hf]
  exact ⟨x,by rw [← hd,hw];exact hI2⟩
end Ab
namespace Ab
open Go Go.RowKit Go.Proofs
attribute [local irreducible] aws awp aw1 Og Om Oc Oa Ogd Ov Ot awd Zb awh Wb Ogh Ohd awl Ogl Ohl Xb Vb QFn Ub ACode AYield
theorem Ubm:Un Tryz.prog 211=some (2,3):=by kernel_rfl
attribute [simp] Ubm
def Yam (p:Nat × Nat):AV:=.agg [.int .i64 p.1,.int .i64 p.2]
set_option maxHeartbeats 1000000 in
set_option maxRecDepth 8000 in
theorem Xbm (s:List UInt8) (hs:s.length<2^50):APure Tryz.prog 117 [.str s] (Yam (Oyez.sums s)):=by
 refine APure.of fun σ=>?_
 refine Yb Tryz.func117 rfl (Ua Tryz.func117 (by decide) rfl) ?_
 simp [Tryz.ntmps117]
 refine Xc (fun env σ'=>∃ (u:List AV) (i a b:Nat),env={ t:=u }∧u.length=33∧tg u 0=.str s∧tg u 2=.ptr σ.length 0∧tg u 3=.ptr (σ.length+1) 0∧tg u 6=.int .i64 s.length∧tg u 7=.int .i64 i ∧
   σ'=σ++[.cells [.int .i64 0,.int .i64 0],.cells [.int .i64 a,.int .i64 b]]∧a<65537∧b<65537∧i≤s.length∧Oyez.sumsFrom (s.drop i) i a b=Oyez.sums s)
  (fun env _=>match tg env.t 7 with | .int _ i=>s.length - i.toNat | _=>0) ⟨_,0,0,0,rfl,by simp,by simp,by simp,by simp,by simp,by simp,rfl,by decide,by decide,by omega,rfl⟩ ?_
 rintro env σ' ⟨u,i,a,b,rfl,hl,g0,g2,g3,g6,g7,rfl,ha,hb,hi,hd⟩
 rcases Qzn i s.length with hlt | hge
 ·have hlt':(i:Int)<(s.length:Int):=by omega
  have hb8:=Xbo s[i]
  have hm:(i+1)*s[i].toNat≤2^50*256:=Nat.mul_le_mul (by omega) (by omega)
  have hm2:((i:Int)+1)*(s[i].toNat:Int)=(((i+1)*s[i].toNat:Nat):Int):=by simp
  have w1:=w64 (n:=(i:Int)+1) (by omega) (by omega)
  have w2:=w64 (n:=(s[i].toNat:Int)) (by omega) (by omega)
  have w3:=w64 (n:=((i:Int)+1)*(s[i].toNat:Int)) (by omega) (by omega)
  have w4:=w64 (n:=(a:Int)+(s[i].toNat:Int)) (by omega) (by omega)
  have w5:=w64 (n:=(b:Int)+((i:Int)+1)*(s[i].toNat:Int)) (by omega) (by omega)
  simp [hl,g0,g2,g3,g6,g7,hlt',hlt]
  refine Wa2 [9] mixed (by kernel_rfl) ?_
  simp [hl,g0,g2,g3,g6,g7,hlt',hlt,w1,w2,w3,w4,w5]
  refine Wa2 [12] mixed (by kernel_rfl) ?_
  simp [hl,g0,g2,g3,g6,g7,hlt',hlt,w1,w2,w3,w4,w5]
  refine ⟨⟨i+1,by simp,(a+s[i].toNat) % 65537,(b+(i+1)*s[i].toNat) % 65537,⟨?_,?_⟩,Nat.mod_lt _ (by decide),Nat.mod_lt _ (by decide),hlt,?_⟩,by omega⟩
  ·rw [← Int.natCast_add];exact (Int.ofNat_tmod _ _).symm
  ·rw [hm2,← Int.natCast_add];exact (Int.ofNat_tmod _ _).symm
  ·rw [← hd,List.drop_eq_getElem_cons hlt]
   rfl
 ·have hge':¬ (i:Int)<(s.length:Int):=by omega
  rw [List.drop_eq_nil_of_le hge] at hd
  simp [hl,g0,g2,g3,g6,g7,hge',Yam,← hd,Oyez.sumsFrom]
theorem Vcw (s:List UInt8) (hs:s.length≤2^50):APure Tryz.prog 116 [.str s] (.bool (decide (s.getLast? = some 10))):=by
 intro σ
 refine Yb Tryz.func116 rfl (Ua Tryz.func116 (by decide) rfl) ?_
 simp [Tryz.ntmps116]
 refine (Xia s 10 hs).use ?_
 simp
set_option maxHeartbeats 1000000 in
set_option maxRecDepth 8000 in
theorem Uib (s:List UInt8) (m n:Nat) (hs:s.length≤2^40) (hm:m<65537) (hn:n<65537):APure Tryz.prog 118 [Yam (m,n),.str s] (.str (s++[115,101,97,108,32]++Oyez.digitsN m++[32]++Oyez.digitsN n++[10])):=by
 refine APure.of fun σ=>?_
 have d1:=Wbn m
 have d2:=Wbn n
 have i1:APure Tryz.prog 38 [.int .i64 m] (.str (Oyez.digitsN m)):=by rw [← Ybd];exact Xa1 m (by omega) (by omega)
 have i2:APure Tryz.prog 38 [.int .i64 n] (.str (Oyez.digitsN n)):=by rw [← Ybd];exact Xa1 n (by omega) (by omega)
 refine Yb Tryz.func118 rfl (Ua Tryz.func118 (by decide) rfl) ?_
 simp [Tryz.ntmps118,Yam]
 refine Ua9 [7] [(0,1)] mixed (by kernel_rfl) (by kernel_rfl) ?_
 simp
 refine Zac i1 ?_
 refine Zac i2 ?_
 simp
 have hj:=Wct (σ++[.cells [.int .i64 m,.int .i64 n],.cells [.str [115,101,97,108],.str (Oyez.digitsN m),.str (Oyez.digitsN n)]]) (σ.length+1) [[115,101,97,108],Oyez.digitsN m,Oyez.digitsN n] (by simp) (by simp) (by simp [Yo,List.intercalate];omega)
 refine Wch hj ?_
 have hjl:Yo [[115,101,97,108],Oyez.digitsN m,Oyez.digitsN n]=[115,101,97,108,32]++Oyez.digitsN m++[32]++Oyez.digitsN n:=by simp [Yo,List.intercalate]
 rw [hjl]
 simp
 rw [if_pos (by omega)]
 simp
 rw [if_pos (by omega)]
 simp
theorem Wc9 (s:List UInt8):APure Tryz.prog 40 [.str s] (.tup [.str (Oyez.sealOf s).1,.int .i64 (Oyez.sealOf s).2]):=by
 intro σ
 refine Yb Tryz.func40 rfl (Ua Tryz.func40 (by decide) rfl) ?_
 generalize hX:Oyez.sealOf s=X
 unfold Oyez.sealOf at hX
 by_cases h1:4096<s.length
 ·have h1':(4096:Int)<(s.length:Int):=by omega
  rw [if_pos h1] at hX
  subst hX
  simp [Tryz.ntmps40,h1']
 have h1':¬ (4096:Int)<(s.length:Int):=by omega
 have hs:s.length≤2^50:=by omega
 rw [if_neg h1] at hX
 simp [Tryz.ntmps40,h1']
 refine (Vcw s hs).use ?_
 by_cases h2:s.getLast? = some 10
 ·rw [if_neg (by simpa using h2)] at hX
  subst hX
  simp [h2]
  refine (Xbm s (by omega)).use ?_
  have hs1:=Oyez.sums_eq s
  refine (Uib s (Oyez.sums s).1 (Oyez.sums s).2 (by omega) (by rw [hs1];exact Nat.mod_lt _ (by decide)) (by rw [hs1];exact Nat.mod_lt _ (by decide))).use ?_
  simp [Oyez.sealed]
 ·rw [if_pos h2] at hX
  subst hX
  simp [h2]
end Ab
namespace Ab
open Go Go.RowKit Go.Proofs
attribute [local irreducible] aws awp aw1 Og Om Oc Oa Ogd Ov Ot awd Zb awh Wb Ogh Ohd awl Ogl Ohl Xb Vb QFn Ub QRo QBe ACode AYield
theorem Xck:Ve Tryz.prog 211 []=some (.agg [.int .i64 0,.int .i64 0]):=by kernel_rfl
attribute [local simp] Ubm Xck
theorem wl0:IntKind.i64.wrap 0=0:=w64 (by decide) (by decide)
theorem wl1:IntKind.i64.wrap 1=1:=w64 (by decide) (by decide)
theorem wl2:IntKind.i64.wrap 2=2:=w64 (by decide) (by decide)
theorem wl3:IntKind.i64.wrap 3=3:=w64 (by decide) (by decide)
attribute [local simp] wl0 wl1 wl2 wl3
def Vam:List UInt8:=[115,101,97,108]
def sA (pre:List (List UInt8)):Int:=match pre with | _::w::_=>Yad w | _=>0
def sB (pre:List (List UInt8)):Int:=match pre with | _::_::w::_=>Yad w | _=>0
def sOk (b:Bool) (pre:List (List UInt8)):Bool:=match pre with
 | []=>b
 | [x]=>b&&decide (x=Vam)
 | [x,y]=>b&&decide (x=Vam)&&Us y 65536
 | x::y::z::_=>b&&decide (x=Vam)&&Us y 65536&&Us z 65536
def Xad (t:List UInt8):List UInt8 × Int × Int × Int :=
 match Oyez.openedOf t with
 | .error e=>([],0,0,e)
 | .ok (b,m,n)=>(b,m,n,0)
theorem Xge (s:List UInt8) (h1:¬ 4116<s.length) {u:List UInt8} (hu:(if s.getLast? = some 10 then s.dropLast else s)=u) {L:Nat} (hL:Oyez.lastLine u=L) {b0:Bool}
  (hb:(decide (s.getLast? = some 10)&&decide ((u.take L).getLast? = some 10)&&decide (L≤4096))=b0) :
  Xad s=if sOk b0 (Oyez.words (u.drop L))=true∧(Oyez.words (u.drop L)).length=3 then (u.take L,sA (Oyez.words (u.drop L)),sB (Oyez.words (u.drop L)),0) else ([],0,0,11):=by
 unfold Xad Oyez.openedOf
 rw [if_neg h1]
 by_cases he:s.getLast? = some 10
 ·rw [if_pos he] at hu
  subst hu
  rw [if_neg (by simpa using he),hL]
  have hLu:L≤s.dropLast.length:=by rw [← hL];exact Nat.sub_le _ _
  have htk:s.take L=s.dropLast.take L:=by
   rw [List.dropLast_eq_take,List.take_take,Nat.min_eq_left (by simpa using hLu)]
  rw [htk]
  obtain ⟨_,hl2⟩:=Oyez.lastLine_split _ s.dropLast rfl
  rw [hL] at hl2
  have hb2:b0=(decide (L≠0)&&decide (L≤4096)):=by
   rw [← hb,he]
   have:(s.dropLast.take L).getLast? = some 10↔L≠0:=by
    constructor
    ·intro h h0
     subst h0
     simp at h
    ·intro h0
     rcases hl2 with h | h
     ·have:=congrArg List.length h
      rw [List.length_take,Nat.min_eq_left hLu] at this
      exact absurd this h0
     ·exact h
   simp [this]
  clear hb
  generalize Oyez.words (s.dropLast.drop L)=ws
  generalize s.dropLast.take L=B
  have h6:=Xa8
  rcases ws with _ | ⟨k,_ | ⟨a,_ | ⟨b,_ | ⟨c,r⟩⟩⟩⟩
  ·simp
  ·simp
  ·simp
  ·obtain ⟨a1,a2⟩:=Xa8 a 65536 (by decide)
   obtain ⟨b1,b2⟩:=Xa8 b 65536 (by decide)
   have ea:Us a 65536=(Oyez.value a 65536).isSome:=a1
   have eb:Us b 65536=(Oyez.value b 65536).isSome:=b1
   simp only [sOk,ea,eb,hb2,sA,sB]
   by_cases c:L=0∨4096<L∨k≠[115,101,97,108]
   ·rw [if_pos c,if_neg]
    rintro ⟨h,_⟩
    simp only [Bool.and_eq_true,decide_eq_true_eq] at h
    obtain ⟨⟨⟨⟨c1,c2⟩,c3⟩,_⟩,_⟩:=h
    rcases c with c | c | c
    ·exact c1 c
    ·omega
    ·exact c c3
   ·rw [if_neg c]
    have c1:L≠0:=fun h=>c (.inl h)
    have c2:L≤4096:=by omega
    have c3:k=Vam:=Classical.byContradiction fun h=>c (.inr (.inr h))
    cases hva:Oyez.value a 65536 with
    | none=>simp
    | some m =>
     cases hvb:Oyez.value b 65536 with
     | none=>simp
     | some n=>simp [c1,c2,c3,a2 m hva,b2 n hvb]
  ·simp
 ·rw [if_pos (by simpa using he)]
  have:b0=false:=by rw [← hb];simp [he]
  subst this
  have hs:sOk false (Oyez.words (u.drop L))=false:=by
   generalize Oyez.words (u.drop L)=ws
   rcases ws with _ | ⟨k,_ | ⟨a,_ | ⟨b,r⟩⟩⟩<;>simp [sOk]
  rw [hs]
  simp
set_option maxHeartbeats 2000000 in
set_option maxRecDepth 8000 in
theorem Vb7 (s:List UInt8):APure Tryz.prog 119 [.str s] (.tup [.str (Xad s).1,.agg [.int .i64 (Xad s).2.1,.int .i64 (Xad s).2.2.1],.int .i64 (Xad s).2.2.2]):=by
 refine APure.of fun σ=>?_
 generalize hX:Xad s=X
 by_cases h1:4116<s.length
 ·have h1':(4116:Int)<(s.length:Int):=by omega
  have hE:X=([],0,0,10):=by rw [← hX];unfold Xad Oyez.openedOf;rw [if_pos h1]
  subst hE
  refine Ya7 Tryz.func119 rfl (Ua Tryz.func119 (by decide) rfl) ?_
  simp [Tryz.ntmps119,h1']
 have h1':¬ (4116:Int)<(s.length:Int):=by omega
 have hs:s.length≤2^40:=by omega
 generalize hu:(if s.getLast? = some 10 then s.dropLast else s)=u
 have hul:u.length≤s.length:=by rw [← hu];split<;>simp
 generalize hL:Oyez.lastLine u=L
 have hLu:L≤u.length:=by rw [← hL];exact Nat.sub_le _ _
 generalize hb:(decide (s.getLast? = some 10)&&decide ((u.take L).getLast? = some 10)&&decide (L≤4096))=b0
 refine Ycw 7 (fun env σ'=>∃ t,env={ t }∧t.length=83∧tg t 3=.ptr σ.length 0∧tg t 5=.str (u.drop L)∧tg t 8=.str (u.take L)∧tg t 9=.ptr (σ.length+1) 0∧tg t 10=.ptr (σ.length+2) 0 ∧
  σ'=σ++[.cells [.int .i64 0,.int .i64 0],.cells [.int .i64 0,.int .i64 0],.cells [.bool b0]]) Tryz.func119 rfl (Ua Tryz.func119 (by decide) rfl) ?_ ?_
 ·simp [Tryz.ntmps119,h1']
  refine (Ydy s 10 (by omega)).use ?_
  rw [hu]
  simp
  refine (Vd4 u (by omega)).use ?_
  rw [hL]
  have hLi:(L:Int)≤(u.length:Int):=by omega
  have hw:=w64 (n:=(L:Int)) (by omega) (by omega)
  simp [hw]
  refine Ym mixed (by kernel_rfl) ?_
  simp [hLi,hLu]
  by_cases he:s.getLast? = some 10
  ·simp [he]
   refine (Vcw (u.take L) (by simp;omega)).use ?_
   by_cases he2:(u.take L).getLast? = some 10
   ·simp [he2]
    simp [he,he2] at hb
    rw [Nat.min_eq_left hLu,← hb]
    simp
    omega
   ·simp [he2]
    simp [he2] at hb
    exact hb
  ·simp [he]
   simp [he] at hb
   exact hb
 ·rintro env σ' ⟨t,rfl,hl,g3,g5,g8,g9,g10,rfl⟩
  simp [hl,g3,g5,g8,g9,g10]
  refine StA.of ((Vb1 _ _).mono ?_)
  rintro v σ' ⟨rfl,rfl⟩
  simp [hl,g3,g5,g8,g9,g10]
  refine Ybz (gf:=264) (first:=[]) (caps:=[.ptr (σ.length+4) 0]) (σ.length+5) (σ.length+6) (by simp) rfl (by simp [hl]) fun fn D o σ2 ho hrd hσ2=>?_
  simp only [List.append_assoc,List.cons_append,List.nil_append] at hσ2
  subst hσ2
  refine AEnter.mono (Xb8 (u.drop L) (by simp;omega) _ _ (fun pre x σ'=>σ'=σ++[.cells [.int .i64 0,.int .i64 0],.cells [.int .i64 (sA pre),.int .i64 (sB pre)],.cells [.bool (sOk b0 pre)],.cells [.int .i64 pre.length],.cells [.str x],.deferred,o]) ?_ ?_ ?_ _ ?_) ?_
  ·rintro pre x σ' rfl
   simp
  ·rintro pre x y σ' rfl
   simp
  ·rintro pre x w σ' rfl hp hw
   refine AYield.round ho (by simp) (by simp) fun o'=>?_
   have hw1:=w64 (n:=(pre.length:Int)+1) (by omega) (by omega)
   clear ho
   have hwl:w.length≤2^40:=by simp at hw;omega
   have hnum:=Yco w 65536 hwl (by decide)
   rcases pre with _ | ⟨a1,_ | ⟨a2,_ | ⟨a3,pre⟩⟩⟩
   ·simp [hl,g9,g10,sOk,sA,sB]
    cases b0 with
    | false=>simp [hl,g9,g10]
    | true =>
     simp [hl,g9,g10,Vam]
     exact decide_eq_decide.2 Iff.rfl
   ·simp [hl,g9,g10,sOk,sA,sB]
    refine hnum.use ?_
    simp [hl,g9,g10,sOk,sA,sB]
    refine Ua9 [8,9] [(5,1),(6,1)] mixed (by kernel_rfl) (by kernel_rfl) ?_
    simp [hl,g9,g10,sOk,sA,sB]
    cases hq:(b0&&decide (a1=Vam)) with
    | false=>simp [hl,g9,g10,hq]
    | true=>simp [hl,g9,g10,hq]
   ·simp [hl,g9,g10,sOk,sA,sB]
    refine hnum.use ?_
    simp [hl,g9,g10,sOk,sA,sB]
    refine Ua9 [8,9] [(5,1),(6,1)] mixed (by kernel_rfl) (by kernel_rfl) ?_
    simp [hl,g9,g10,sOk,sA,sB]
    cases hq:(b0&&decide (a1=Vam)&&Us a2 65536) with
    | false=>simp [hl,g9,g10,hq]
    | true=>simp [hl,g9,g10,hq]
   ·have h0:¬ ((pre.length:Int)+1+1+1=0):=by omega
    have h01:¬ ((pre.length:Int)+1+1+1=1):=by omega
    have h02:¬ ((pre.length:Int)+1+1+1=2):=by omega
    simp at hw1 hp
    simp [hl,g9,g10,sOk,sA,sB,hw1,h0,h01,h02]
  ·simp [sA,sB,sOk]
  rintro v σ' ⟨x,rfl⟩
  clear ho
  have hE:=Xge s h1 hu hL hb
  rw [hX] at hE
  generalize Oyez.words (u.drop L)=ws at hE
  cases hk:sOk b0 ws with
  | false =>
   rw [if_neg (by simp [hk])] at hE
   subst hE
   simp [hl,g3,g5,g8,g9,g10,hrd,hk]
  | true =>
   by_cases h3:ws.length=3
   ·rw [if_pos ⟨hk,h3⟩] at hE
    subst hE
    have h3':(ws.length:Int)=3:=by omega
    simp [hl,g3,g5,g8,g9,g10,hrd,hk,h3']
    refine Wa2 [3] mixed (by kernel_rfl) ?_
    simp [hl,g3,g5,g8,g9,g10]
   ·rw [if_neg (fun h=>h3 h.2)] at hE
    subst hE
    have h3':¬ (ws.length:Int)=3:=by omega
    simp [hl,g3,g5,g8,g9,g10,hrd,hk,h3']
end Ab

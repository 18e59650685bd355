/-
  Texts packed for a claim.
-/
import Derived.Test.YtdifgaapdnbliaaGreatDoorS00
import Derived.Test.YtdifgaapdnbliaaGreatDoorS09
import Derived.Test.YtdifgaapdnbliaaGreatDoorS19
import Derived.Test.YtdifgaapdnbliaaGreatDoorS20
import Derived.Test.YtdifgaapdnbliaaGreatDoorS16
import Derived.Test.YtdifgaapdnbliaaGreatDoorS14
set_option linter.all false
namespace Ab
open Go Go.RowKit Go.Proofs
attribute [local irreducible] aws awp aw1 Og Om Oc Oa Ogd Ov Ot awd Ub awh Xc Ogh Ohd awl Ogl Ohl awv Ogv Ohv Zc Wc QFn Zd QRo QBe ACode AYield
abbrev Xaa:List Oyez.Rec:=[⟨1,3,[[116,105,100,101],[97,116],[115,105,120]]⟩,⟨3,12,[]⟩]
theorem two_calls:APure Tryz.prog 77 [] (Xa Xaa):=by
 refine APure.of fun σ=>?_
 refine Ua Tryz.func77 rfl (Wa Tryz.func77 (by decide) rfl) ?_
 simp [Tryz.ntmps77]
 refine .arr 3 (σ.length+1) 0 _ [Yd ⟨1,3,[[116,105,100,101],[97,116],[115,105,120]]⟩,Yd ⟨3,12,[]⟩] (fun i j=>match i,j with
  | 0,0=>.int .i64 1
  | 0,1=>.int .i64 3
  | 0,_=>.arr 1 σ.length 0 3
  | _,0=>.int .i64 3
  | _,1=>.int .i64 12
  | _,_=>.nils) (by omega) (by simp;rfl) ?_ ?_
 ·intro i x hx
  match i,hx with
  | 0,hx =>
   simp at hx
   subst hx
   refine ⟨rfl,fun j y hy=>?_⟩
   match j,hy with
   | 0,hy=>simp [AV.cells] at hy;subst hy;exact ⟨rfl,rfl⟩
   | 1,hy=>simp [AV.cells] at hy;subst hy;exact ⟨rfl,rfl⟩
   | 2,hy=>simp [AV.cells] at hy;subst hy;exact ⟨rfl,rfl⟩
   | j+3,hy=>simp [AV.cells] at hy
  | 1,hx =>
   simp at hx
   subst hx
   refine ⟨rfl,fun j y hy=>?_⟩
   match j,hy with
   | 0,hy=>simp [AV.cells] at hy;subst hy;exact ⟨rfl,rfl⟩
   | 1,hy=>simp [AV.cells] at hy;subst hy;exact ⟨rfl,rfl⟩
   | 2,hy=>simp [AV.cells] at hy;subst hy;exact ⟨rfl,rfl⟩
   | j+3,hy=>simp [AV.cells] at hy
  | i+2,hx=>simp at hx
 ·intro i x hx j y hy
  match i,hx with
  | 0,hx =>
   simp at hx
   subst hx
   match j,hy with
   | 0,hy=>simp [AV.cells] at hy;subst hy;exact .int _ _
   | 1,hy=>simp [AV.cells] at hy;subst hy;exact .int _ _
   | 2,hy=>simp [AV.cells] at hy;subst hy;exact Yb6 [[116,105,100,101],[97,116],[115,105,120]] 0 (Nat.le_refl _) (by simp)
   | j+3,hy=>simp [AV.cells] at hy
  | 1,hx =>
   simp at hx
   subst hx
   match j,hy with
   | 0,hy=>simp [AV.cells] at hy;subst hy;exact .int _ _
   | 1,hy=>simp [AV.cells] at hy;subst hy;exact .int _ _
   | 2,hy=>simp [AV.cells] at hy;subst hy;exact .nils_pl 1
   | j+3,hy=>simp [AV.cells] at hy
  | i+2,hx=>simp at hx
def Vaa (f0:FuncId) (g:List AV→Option AV):Orc:=fun f args σ=>if f=f0 then (match g args with
 | some v=>some (v,σ)
 | none=>none) else none
theorem Ua9 {f0:FuncId} {g:List AV→Option AV} (h:∀ args v,g args=some v→APure Tryz.prog f0 args v):(Vaa f0 g).Good Tryz.prog:=by
 intro f args σ v σ' hf
 unfold Vaa at hf
 split at hf
 ·rename_i he
  subst he
  split at hf
  ·rename_i w hw
   simp only [Option.some.injEq,Prod.mk.injEq] at hf
   obtain ⟨rfl,rfl⟩:=hf
   exact h args _ hw σ
  ·cases hf
 ·cases hf
def orO (a b:Orc):Orc:=fun f args σ=>match a f args σ with
 | some r=>some r
 | none=>b f args σ
theorem Xai {a b:Orc} (ha:a.Good Tryz.prog) (hb:b.Good Tryz.prog):(orO a b).Good Tryz.prog:=by
 intro f args σ v σ' hf
 unfold orO at hf
 split at hf
 ·rename_i r hr
  simp only [Option.some.injEq] at hf
  subst hf
  exact ha _ _ _ _ _ hr
 ·exact hb _ _ _ _ _ hf
def Wat (g:List UInt8→AV) (args:List AV):Option AV:=match args with
 | [.str s]=>if s.length≤1000 then some (g s) else none
 | _=>none
theorem Za7 {f0:FuncId} {g:List UInt8→AV} (h:∀ s:List UInt8,s.length≤1000→APure Tryz.prog f0 [.str s] (g s)):(Vaa f0 (Wat g)).Good Tryz.prog:=Ua9 fun args v hv=>by
 unfold Wat at hv
 split at hv
 ·split at hv
  ·rename_i s hs
   simp only [Option.some.injEq] at hv
   subst hv
   exact h s hs
  ·cases hv
 ·cases hv
def strsOf:List AV→Option (List (List UInt8))
 | []=>some []
 | .str s::l=>(strsOf l).map (s::·)
 | _=>none
theorem Zef:∀ (l:List AV) (ws:List (List UInt8)),strsOf l=some ws→l=ws.map AV.str:=by
 intro l
 induction l with
 | nil=>intro ws h;simp [strsOf] at h;subst h;rfl
 | cons x l ih =>
  intro ws h
  unfold strsOf at h
  split at h
  ·rename_i h1;cases h1
  ·rename_i s l' h1
   obtain ⟨rfl,rfl⟩:x=.str s∧l=l':=by simpa using h1
   rw [Qzm] at h
   obtain ⟨ws',hw,rfl⟩:=h
   rw [ih _ hw]
   rfl
  ·cases h
def joinO:Orc:=fun f args σ=>if f=159 then (match args with
 | [.arr k r o n]=>(match σ[r]? with
  | some (.cells cs)=>(match strsOf cs with
   | some ws=>if k=1∧o=0∧ws.length=n∧ws.length≤1000∧(Uh ws).length≤100000 then some (.str (Uh ws),σ) else none
   | none=>none)
  | _=>none)
 | _=>none) else none
theorem Xc6:joinO.Good Tryz.prog:=by
 intro f args σ v σ' hf
 unfold joinO at hf
 split at hf
 ·rename_i he
  subst he
  split at hf
  ·rename_i k r o n
   split at hf
   ·rename_i cs hr
    split at hf
    ·rename_i ws hws
     split at hf
     ·rename_i hc
      obtain ⟨rfl,rfl,rfl,h1,h2⟩:=hc
      simp only [Option.some.injEq,Prod.mk.injEq] at hf
      obtain ⟨rfl,rfl⟩:=hf
      rw [Zef _ _ hws] at hr
      exact Wbc σ r ws hr (by omega) (by omega)
     ·cases hf
    ·cases hf
   ·cases hf
  ·cases hf
 ·cases hf
def Wbx (args:List AV):Option AV:=match args with
 | [a]=>if AV.eqb 20 a (Xa Xaa) then some (.tup [.str (Yz Xaa).1,.int .i64 (Yz Xaa).2]) else none
 | _=>none
def Zcm (args:List AV):Option AV:=match args with
 | [.int .i64 n]=>if -9223372036854775808≤n∧n≤9223372036854775807 then some (.str (Lib.itoa n)) else none
 | _=>none
def awakeO:Orc:=orO (Vaa 77 fun args=>match args with | []=>some (Xa Xaa) | _=>none) <| orO (Vaa 46 Wbx) <| orO (Vaa 17 (Wat fun s=>Yw (Oyez.parse s))) <|
 orO (Vaa 21 (Wat fun s=>.tup [.str (Oyez.sealOf s).1,.int .i64 (Oyez.sealOf s).2])) <| orO (Vaa 25 (Wat fun s=>.tup [.str (Uw s).1,.int .i64 (Uw s).2.1,.int .i64 (Uw s).2.2])) <|
 orO (Vaa 152 (Wat fun s=>.bool (Oyez.word s))) <| orO (Vaa 160 Zcm) joinO
theorem Vcz:awakeO.Good Tryz.prog:=by
 refine Xai (Ua9 fun args v hv=>?_) <| Xai (Ua9 fun args v hv=>?_) <| Xai (Za7 fun s hs=>Zbv s (by omega)) <| Xai (Za7 fun s _=>Zbl s) <| Xai (Za7 fun s _=>Vbv s) <|
  Xai (Za7 fun s hs=>Ybd s (by omega)) <| Xai (Ua9 fun args v hv=>?_) Xc6
 ·split at hv
  ·simp only [Option.some.injEq] at hv
   subst hv
   exact two_calls
  ·cases hv
 ·unfold Wbx at hv
  split at hv
  ·split at hv
   ·rename_i a he
    simp only [Option.some.injEq] at hv
    subst hv
    rw [AV.eqb_eq _ _ _ he]
    exact Zcp Xaa (by intro r hr;simp at hr;rcases hr with rfl | rfl<;>decide)
   ·cases hv
  ·cases hv
 ·unfold Zcm at hv
  split at hv
  ·split at hv
   ·rename_i n hn
    simp only [Option.some.injEq] at hv
    subst hv
    exact Yav n hn.1 hn.2
   ·cases hv
  ·cases hv
end Ab
namespace Ab
open Go Go.RowKit Go.Proofs
attribute [local irreducible] aws awp aw1 Og Om Oc Oa Ogd Ov Ot awd Ub awh Xc Ogh Ohd awl Ogl Ohl awv Ogv Ohv Zc Wc QFn Zd QRo QBe ACode AYield
theorem Xdg {n m:Nat} (hnm:n≤m):∀ (k:Nat) (v:AV),fzB n k v=true→fzB m k v=true:=by
 intro k
 induction k with
 | zero=>intro v h;cases h
 | succ k ih =>
  intro v h
  cases v<;>simp only [fzB,decide_eq_true_eq,Bool.false_eq_true] at h ⊢
  case ptr=>omega
  case yld=>omega
  case arr=>omega
  case pl l=>exact List.all_eq_true.2 fun x hx=>List.all_eq_true.2 fun y hy=>ih _ (List.all_eq_true.1 (List.all_eq_true.1 h x hx) y hy)
  case agg l=>exact List.all_eq_true.2 fun x hx=>ih _ (List.all_eq_true.1 h x hx)
  case tup l=>exact List.all_eq_true.2 fun x hx=>ih _ (List.all_eq_true.1 h x hx)
def stateF:FOrc:=fun f args σ=>if f=138 then (match args with
 | [.ptr d o,.agg [.int .i64 k,.int .i64 n]]=>if o=0 then (match σ[d]? with
  | some (.cells [rv,.mp m])=>(match σ[m]? with
   | some (.map es)=>(match Wad rv es k n σ with
    | some (w,is)=>if w.one=true∧fzB σ.length 20 w=true then some (.agg [.bool is,w]) else none
    | none=>none)
   | _=>none)
  | _=>none) else none
 | _=>none) else none
theorem Wch:stateF.Good Tryz.prog:=by
 intro f args σ v hf g
 unfold stateF at hf
 split at hf
 ·rename_i he
  subst he
  split at hf
  ·rename_i d o k n
   split at hf
   ·rename_i ho
    subst ho
    split at hf
    ·rename_i rv m h1
     split at hf
     ·rename_i es h2
      split at hf
      ·rename_i w is h3
       split at hf
       ·rename_i hc
        simp only [Option.some.injEq] at hf
        subst hf
        exact Wbe (σ++g) d m rv es (Xax h1) (Xax h2) k n w is (Wb3 h3) hc.1 fun S=>Ubo 20 _ _ (Xdg (by simp) _ _ hc.2)
       ·cases hf
      ·cases hf
     ·cases hf
    ·cases hf
   ·cases hf
  ·cases hf
 ·cases hf
def ofF (F:FOrc):Orc:=fun f args σ=>(F f args σ).map (·,σ)
theorem Vdg {F:FOrc} (h:F.Good Tryz.prog):(ofF F).Good Tryz.prog:=by
 intro f args σ v σ' hf
 unfold ofF at hf
 rw [Qzm] at hf
 obtain ⟨v',h1,h2⟩:=hf
 simp only [Prod.mk.injEq] at h2
 obtain ⟨rfl,rfl⟩:=h2
 have:=h f args σ v' h1 []
 simpa using this
abbrev lawO:Orc:=orO awakeO (ofF stateF)
theorem Zd3:lawO.Good Tryz.prog:=Xai Vcz (Vdg Wch)
end Ab
namespace Ab
open Go Go.RowKit Go.Proofs
set_option maxRecDepth 100000 in
theorem awake_calls:APure Tryz.prog 16 [] (.bool true):=APure.runG (F:=stateF) (O:=lawO) 300 mixed Wch Zd3 (by kernel_rfl)
end Ab
namespace Ab
open Go Go.RowKit Go.Proofs
attribute [local irreducible] aws awp aw1 Og Om Oc Oa Ogd Ov Ot awd Ub awh Xc Ogh Ohd awl Ogl Ohl awv Ogv Ohv Zc Wc QFn Zd QRo QBe ACode AYield
set_option maxHeartbeats 1000000 in
theorem Wb5 (a b:List (List UInt8)) (ha:a.length≤2^40):APure Tryz.prog 135 [Zb a,Zb b] (.bool (decide (a=b))):=by
 intro σ
 refine Ua Tryz.func135 rfl (Wa Tryz.func135 (by decide) rfl) ?_
 by_cases hab:a.length=b.length
 ·obtain ⟨n,hn⟩:∃ n,b.length=n:=⟨_,rfl⟩
  have han:a.length=n:=hab.trans hn
  simp [Tryz.ntmps135,han,hn]
  refine Yc (fun env σ'=>∃ (u:List AV) (i:Nat),env={ t:=u }∧u.length=26∧tg u 0=Zb a∧tg u 1=Zb b∧tg u 12=.int .i64 n∧tg u 13=.int .i64 i∧σ'=σ∧i≤n∧a.take i=b.take i)
   (fun env _=>match tg env.t 13 with | .int _ i=>n - i.toNat | _=>0) ⟨_,0,rfl,by simp,by simp,by simp,by simp,by simp,rfl,by omega,by simp⟩ ?_
  rintro env σ' ⟨u,i,rfl,hl,g0,g1,g12,g13,rfl,hi,hd⟩
  rcases Qzn i n with hlt | hge
  ·have hlt':(i:Int)<(n:Int):=by omega
   have hx:=w64 (n:=(i:Int)+1) (by omega) (by omega)
   have hia:i<a.length:=by omega
   have hib:i<b.length:=by omega
   simp [hl,g0,g1,g12,g13,hlt']
   refine Zg mixed (by kernel_rfl) ?_
   by_cases he:a[i]=b[i]
   ·simp [hl,g0,g1,g12,g13,han,hn,hlt,hlt',he,hx]
    refine ⟨⟨i+1,by simp,by omega,?_⟩,by omega⟩
    rw [Qzt hia,Qzt hib,hd,he]
   ·have hne:¬ a=b:=fun h=>he (by subst h;rfl)
    simp [hl,g0,g1,g12,g13,han,hn,hlt,hlt',he,hne]
  ·have hge':¬ (i:Int)<(n:Int):=by omega
   have hE:a=b:=by
    rw [List.take_of_length_le (by omega),List.take_of_length_le (by omega)] at hd
    exact hd
   simp [hl,g0,g1,g12,g13,hge',hE]
 ·have hne:¬ a=b:=fun h=>hab (by rw [h])
  have hab':¬ (a.length:Int)=(b.length:Int):=by omega
  simp [Tryz.ntmps135,hab',hne,hab]
theorem Ua6 (a b:List (List UInt8)) (ha:a.length≤2^40):APure Tryz.prog 66 [Zb a,Zb b] (.bool (decide (a=b))):=by
 intro σ
 refine Ua Tryz.func66 rfl (Wa Tryz.func66 (by decide) rfl) ?_
 simp [Tryz.ntmps66]
 refine (Wb5 a b ha).use ?_
 simp
theorem Xek {r q:Oyez.Rec} (h1:r.kind=q.kind) (h2:r.number=q.number) (h3:r.words=q.words):r=q:=by
 cases r;cases q;simp_all
set_option maxHeartbeats 2000000 in
theorem Xac (a b:List Oyez.Rec) (ha:a.length≤2^40) (hw:∀ r∈a,r.words.length≤2^40):APure Tryz.prog 19 [Xa a,Xa b] (.bool (decide (a=b))):=by
 refine APure.of fun σ=>?_
 refine Ua Tryz.func19 rfl (Wa Tryz.func19 (by decide) rfl) ?_
 by_cases hab:a.length=b.length
 ·obtain ⟨n,hn⟩:∃ n,b.length=n:=⟨_,rfl⟩
  have han:a.length=n:=hab.trans hn
  simp [Tryz.ntmps19,han,hn]
  refine Yc (fun env σ'=>∃ (u:List AV) (i:Nat) (g:Za),env={ t:=u }∧u.length=49∧tg u 0=Xa a∧tg u 1=Xa b∧tg u 12=Xa a∧tg u 13=.int .i64 n∧tg u 14=.int .i64 i∧σ'=σ++g∧i≤n∧a.take i=b.take i)
   (fun env _=>match tg env.t 14 with | .int _ i=>n - i.toNat | _=>0) ⟨_,0,[],rfl,by simp,by simp,by simp,by simp,by simp,by simp,by simp,by omega,by simp⟩ ?_
  rintro env σ' ⟨u,i,g,rfl,hl,g0,g1,g12,g13,g14,rfl,hi,hd⟩
  rcases Qzn i n with hlt | hge
  ·have hlt':(i:Int)<(n:Int):=by omega
   have hx:=w64 (n:=(i:Int)+1) (by omega) (by omega)
   have hia:i<a.length:=by omega
   have hib:i<b.length:=by omega
   simp [hl,g0,g1,g12,g13,g14,hlt',han,hlt]
   refine Zg mixed (by kernel_rfl) ?_
   have hne:¬ a[i]=b[i]→¬ a=b:=fun he h=>he (by subst h;rfl)
   by_cases hk:a[i].kind=b[i].kind
   ·by_cases hm:a[i].number=b[i].number
    ·simp [hl,g0,g1,g12,g13,g14,hlt',han,hn,hlt,hk,hm]
     refine Wq (Ua6 _ _ (hw _ (List.getElem_mem hia))) ?_
     by_cases hws:a[i].words=b[i].words
     ·have he:=Xek hk hm hws
      simp [hl,g0,g1,g12,g13,g14,hlt',han,hn,hlt,hk,hm,hws,hx]
      refine ⟨⟨i+1,by simp,hlt,?_⟩,by omega⟩
      rw [Qzt hia,Qzt hib,hd,he]
     ·have hne':=hne fun h=>hws (by rw [h])
      simp [hl,g0,g1,g12,g13,g14,hlt',han,hn,hlt,hk,hm,hws,hx,hne']
    ·have hne':=hne fun h=>hm (by rw [h])
     simp [hl,g0,g1,g12,g13,g14,hlt',han,hn,hlt,hk,hm,hne']
   ·have hne':=hne fun h=>hk (by rw [h])
    simp [hl,g0,g1,g12,g13,g14,hlt',han,hn,hlt,hk,hne']
  ·have hge':¬ (i:Int)<(n:Int):=by omega
   have hE:a=b:=by
    rw [List.take_of_length_le (by omega),List.take_of_length_le (by omega)] at hd
    exact hd
   simp [hl,g0,g1,g12,g13,g14,hge',hE]
 ·have hne:¬ a=b:=fun h=>hab (by rw [h])
  have hab':¬ (a.length:Int)=(b.length:Int):=by omega
  simp [Tryz.ntmps19,hab',hne,hab]
set_option maxHeartbeats 2000000 in
theorem Uaz (f:List Oyez.Rec) (hf:f.length≤2^40):APure Tryz.prog 20 [Xa f] (Xa f):=by
 refine APure.of fun σ=>?_
 refine Ua Tryz.func20 rfl (Wa Tryz.func20 (by decide) rfl) ?_
 simp [Tryz.ntmps20]
 refine Yc (fun env σ'=>∃ (u:List AV) (i:Nat) (v:AV) (g:Za) (o:Option Nat),env={ t:=u }∧u.length=24∧tg u 0=Xa f∧tg u 3=v∧tg u 6=Xa f∧tg u 7=.int .i64 f.length∧tg u 8=.int .i64 i∧σ'=σ++g∧i≤f.length∧Acc σ g 3 v ((f.take i).map Yd) o)
  (fun env _=>match tg env.t 8 with | .int _ i=>f.length - i.toNat | _=>0) ⟨_,0,.nils,[],none,rfl,by simp,by simp,by simp,by simp,by simp,by simp,by simp,by omega,by simpa using Acc.nil _ _ _⟩ ?_
 rintro env σ' ⟨u,i,v,g,o,rfl,hl,g0,g3,g6,g7,g8,rfl,hi,hA⟩
 rcases Qzn i f.length with hlt | hge
 ·have hlt':(i:Int)<(f.length:Int):=by omega
  have hx:=w64 (n:=(i:Int)+1) (by omega) (by omega)
  have hA1:=((hA.more [.cells (Uf f[i])]).push (P:=Tryz.prog) (t:=23) (e:=59) (ag:=true) (x:=Yd f[i]) (by simp) (by simp) (by simp) (by omega) ⟨by simp [AV.cells],by simp [AV.cells,AV.one]⟩ (by simp;omega))
  obtain ⟨v',g',o',he,hA',_⟩:=hA1
  simp [-Ya,Uf] at he
  rw [← Nat.add_assoc] at he
  simp [-Ya,hl,g0,g3,g6,g7,g8,hlt',hlt,hx,he]
  refine ⟨⟨i+1,by simp,hlt,o',?_⟩,by omega⟩
  rw [Qzt (by simpa using hlt),List.getElem_map,← List.map_take]
  exact hA'
 ·have hge':¬ (i:Int)<(f.length:Int):=by omega
  rw [List.take_of_length_le hge] at hA
  have hz:=hA.fz (fun x hx y hy=>by
   obtain ⟨r,_,rfl⟩:=List.mem_map.1 hx
   simp [AV.cells] at hy
   rcases hy with rfl | rfl | rfl
   ·exact .int _ _
   ·exact .int _ _
   ·exact (Xr _ _ _).2 trivial)
  simpa [hl,g0,g3,g6,g7,g8,hge'] using hz
end Ab
namespace Oyez
theorem Xdo {own:S} {e:Bool} {n:Nat} {r:Rec} (h:readLine own e n=.ok r):n<40∧r.words.length≤6:=by
 unfold readLine at h
 split at h
 ·cases h
 ·split at h
  ·cases h
  ·split at h
   ·cases h
   ·split at h
    ·cases h
    ·split at h
     ·cases h
     ·split at h
      ·cases h
      ·split at h
       ·cases h
       ·split at h
        ·cases h
        ·split at h
         ·cases h
         ·simp only [Except.ok.injEq] at h
          subst h
          exact ⟨by omega,by simp only;omega⟩
theorem Xc4:∀ (l:List (S × Bool)) (p:Option Place) (n:Nat),(∀ r∈(parseLines l p n).recs,r.words.length≤6)∧((parseLines l p n).recs=[]∨(parseLines l p n).recs.length+n≤40):=by
 intro l
 induction l with
 | nil=>intro p n;exact ⟨fun r hr=>by simp [parseLines] at hr,.inl rfl⟩
 | cons x t ih =>
  intro p n
  obtain ⟨own,e⟩:=x
  rw [parseLines]
  split
  ·exact ⟨fun r hr=>by simp at hr,.inl rfl⟩
  ·rename_i r hr
   have h1:=Xdo hr
   have h2:=ih (some r.place) (n+1)
   split
   ·exact ⟨fun r hr=>by simp at hr,.inl rfl⟩
   ·simp only
    split
    ·refine ⟨fun q hq=>?_,.inr ?_⟩
     ·rcases List.mem_cons.1 hq with rfl | hq
      ·exact h1.2
      ·exact h2.1 q hq
     ·simp only [List.length_cons]
      rcases h2.2 with h3 | h3
      ·rw [h3];simp;omega
      ·omega
    ·refine ⟨h2.1,?_⟩
     rcases h2.2 with h3 | h3
     ·exact .inl h3
     ·exact .inr (by omega)
theorem parse_few (s:S):(∀ r∈(parse s).recs,r.words.length≤6)∧(parse s).recs.length≤40:=by
 have h:=Xc4 (linesOf s) none 0
 refine ⟨h.1,?_⟩
 rcases h.2 with h3 | h3
 ·unfold parse;rw [h3];simp
 ·exact h3
end Oyez
namespace Ab
open Go Go.RowKit Go.Proofs
attribute [local irreducible] aws awp aw1 Og Om Oc Oa Ogd Ov Ot awd Ub awh Xc Ogh Ohd awl Ogl Ohl awv Ogv Ohv Zc Wc QFn Zd QRo QBe ACode AYield
theorem Yb7 (s:List UInt8):APure Tryz.prog 3 [.str s] (.bool true):=by
 intro σ
 refine Ua Tryz.func3 rfl (Wa Tryz.func3 (by decide) rfl) ?_
 by_cases hl:(3000:Int)<(s.length:Int)
 ·simp [Tryz.ntmps3,hl]
  refine awake_calls.use ?_
  simp
 ·have h1:=Zbv s (by omega)
  have h2:=Yc7 s (by omega)
  have h3:=Oyez.parse_few s
  simp [Tryz.ntmps3,hl]
  refine h1.use ?_
  simp [Yw]
  refine h2.use ?_
  have h4:=Uaz (Oyez.parse s).recs (by omega)
  have h5:=Xac (Oyez.parse s).recs (Oyez.parse s).recs (by omega) fun r hr=>by have:=h3.1 r hr;omega
  generalize Oyez.parse s=X at h4 h5
  simp [Yw]
  refine h4.use ?_
  simp
  refine h5.use ?_
  simp
  refine awake_calls.use ?_
  simp
end Ab

/-
  Texts packed for a claim.
-/
import Derived.Test.YtcoikmapjepdjaaGreatDoorE00
import Derived.Test.YtcoikmapjepdjaaGreatDoorE08
import Derived.Test.YtcoikmapjepdjaaGreatDoorE09
import Derived.Test.YtcoikmapjepdjaaGreatDoorE10
import Derived.Test.YtcoikmapjepdjaaGreatDoorE14
import Derived.Test.YtcoikmapjepdjaaGreatDoorE15
import Derived.Test.YtcoikmapjepdjaaGreatDoorE11
import Derived.Test.YtcoikmapjepdjaaGreatDoorE19
import Derived.Test.YtcoikmapjepdjaaGreatDoorE13
import Derived.Test.YtcoikmapjepdjaaGreatDoorE12
set_option linter.all false
namespace Ab
open Go Go.RowKit Go.Proofs
attribute [local irreducible] aws awp aw1 Og Om Oc Oa Ogd Ov Ot awd Ua awh Xb Ogh Ohd awl Ogl Ohl Wb Vb QFn Zc ACode
theorem AYield.mono {P:Program} {r:Nat} {args:List AV} {σ:Za} {K K':AV→Za→Prop} (h:AYield P r args σ K) (hk:∀ v s,K v s→K' v s):AYield P r args σ K':=by
 have h1:∀ e env s,Ab.QRound r K e env s→Ab.QRound r K' e env s:=by
  intro e env s hq
  cases e<;>unfold Ab.QRound at hq ⊢<;>simp only at hq ⊢<;>first
   | (split at hq
      · exact hk _ _ hq
      · cases hq)
   | cases hq
 unfold AYield at h ⊢
 split at h
 ·rename_i hr
  refine ⟨h.1,h.2.mono fun e env s hq=>?_⟩
  cases e with
  | normal =>
   unfold Ab.QBegin at hq ⊢
   simp only at hq ⊢
   split at hq
   ·exact ⟨hq.1,hq.2.mono h1⟩
   ·cases hq
  | _=>cases hq
 ·cases h
theorem StY.of {P:Program} {r:Nat} {args:List AV} {σ:Za} {K R:AV→Za→Prop} (h:AYield P r args σ K) (hk:∀ v s,K v s→R v s):@StY _ P r args σ ⟨R⟩:=h.mono hk
end Ab
namespace Ab
open Go Go.RowKit Go.Proofs
attribute [local irreducible] aws awp aw1 Og Om Oc Oa Ogd Ov Ot awd Ua awh Xb Ogh Ohd awl Ogl Ohl Wb Vb QFn Zc ACode AYield
theorem Zbd:Um Tryz.prog 211=some (2,3):=by kernel_rfl
attribute [simp] Zbd
def Uin (p:Nat × Nat):AV:=.agg [.int .i64 p.1,.int .i64 p.2]
end Ab
namespace Ab
open Go Go.RowKit Go.Proofs
attribute [local irreducible] aws awp aw1 Og Om Oc Oa Ogd Ov Ot awd Ua awh Xb Ogh Ohd awl Ogl Ohl Wb Vb QFn Zc QRo QBe ACode AYield
theorem Wbv:Xe Tryz.prog 211 []=some (.agg [.int .i64 0,.int .i64 0]):=by kernel_rfl
attribute [local simp] Zbd Wbv
theorem wl0:IntKind.i64.wrap 0=0:=w64 (by decide) (by decide)
theorem wl1:IntKind.i64.wrap 1=1:=w64 (by decide) (by decide)
theorem wl2:IntKind.i64.wrap 2=2:=w64 (by decide) (by decide)
theorem wl3:IntKind.i64.wrap 3=3:=w64 (by decide) (by decide)
attribute [local simp] wl0 wl1 wl2 wl3
def Xbq:List UInt8:=[115,101,97,108]
def sA (pre:List (List UInt8)):Int:=match pre with | _::w::_=>Vbk w | _=>0
def sB (pre:List (List UInt8)):Int:=match pre with | _::_::w::_=>Vbk w | _=>0
def sOk (b:Bool) (pre:List (List UInt8)):Bool:=match pre with
 | []=>b
 | [x]=>b&&decide (x=Xbq)
 | [x,y]=>b&&decide (x=Xbq)&&Xa5 y 65536
 | x::y::z::_=>b&&decide (x=Xbq)&&Xa5 y 65536&&Xa5 z 65536
def Zix (t:List UInt8):List UInt8 × Int × Int × Int :=
 match Oyez.openedOf t with
 | .error e=>([],0,0,e)
 | .ok (b,m,n)=>(b,m,n,0)
end Ab
namespace Ab
open Go Go.Proofs
attribute [local irreducible] aws awp aw1 Og Om Oc Oa Ogd Ov Ot awd Ua Wb Vb QFn Zc ACode ACalls AYield
def Uip (x:Except Int (List UInt8 × Nat × Nat)):AV:=match x with
 | .error e=>.tup [.str [],.int .i64 e]
 | .ok (b,m,n)=>.tup [.str b,.int .i64 (if Oyez.sums b=(m,n) then 0 else 8)]
end Ab
namespace Ab
open Go Go.RowKit Go.Proofs
attribute [local irreducible] aws awp aw1 Og Om Oc Oa Ogd Ov Ot awd Ua awh Xb Ogh Ohd awl Ogl Ohl Wb Vb QFn Zc QRo QBe ACode AYield
theorem Uhx:Yk Tryz.prog 211=some [1,1]:=by kernel_rfl
attribute [local simp] Zbd Wbv Uhx Wh Zt
def Wig (t:List UInt8):List UInt8 × Int :=
 match Oyez.openedOf t with
 | .error e=>([],e)
 | .ok (b,m,n)=>if Oyez.sums b=(m,n) then (b,0) else ([],8)
def Zbi (t:List UInt8):List UInt8 × Int × Int :=
 match Oyez.openedOf t with
 | .error e=>([],0,e)
 | .ok (b,m,n)=>if Oyez.sums b=(m,n) then ([],0,5) else ((Oyez.mendC t b m n).1,(Oyez.mendC t b m n).2.1,(Oyez.mendC t b m n).2.2)
end Ab
namespace Ab
open Go Go.RowKit Go.Proofs
attribute [local irreducible] aws awp aw1 Og Om Oc Oa Ogd Ov Ot awd Ua awh Xb Ogh Ohd awl Ogl Ohl Wb Vb QFn Zc QRo QBe ACode AYield
def Xil (σ:Za) (re rw:Nat) (e:Int) (ok:Bool) (w bad:Int):Za:=if e=0∧ok=false then (σ.set rw (.cells [.int .i64 w])).set re (.cells [.int .i64 bad]) else σ
def idxOf (w:List UInt8):List (List UInt8)→Nat→Int
 | [],_=>-1
 | x::t,i=>if w=x then i else idxOf w t (i+1)
end Ab
namespace Ab
open Go Go.RowKit Go.Proofs
attribute [local irreducible] aws awp aw1 Og Om Oc Oa Ogd Ov Ot awd Ua awh Xb Ogh Ohd awl Ogl Ohl awv Ogv Ohv Wb Vb QFn Zc QRo QBe ACode AYield
def Uie (x:Except (Nat × Int) Oyez.Rec):AV:=match x with
 | .ok r=>.tup [Zm r,.int .i64 0,.int .i64 0]
 | .error (w,e)=>.tup [.agg [.int .i64 0,.int .i64 0,.nils],.int .i64 w,.int .i64 e]
theorem Wfv (n:Nat) (σ:Za):Fz n σ .nils .nils↔True:=⟨fun _=>trivial,fun _=>.nils⟩
attribute [local simp] Wfv
theorem Ydj {n r:Nat} {σ:Za} (ws:List (List UInt8)) (off:Nat) (hn:n≤r) (h:σ[r]? = some (.cells (ws.map AV.str))):Fz n σ (.arr 1 r off (ws.drop off).length) (.pl 1 ((ws.drop off).map AV.str)):=by
 have:=Fz.arr (n:=n) (σ:=σ) 1 r off (ws.map AV.str) ((ws.drop off).map AV.str) (fun i _=>(ws[off+i]?).elim .any AV.str) hn h (fun i x hx=>by
  rw [Qzp,List.getElem?_drop,Qzm] at hx
  obtain ⟨w,hw,rfl⟩:=hx
  refine ⟨rfl,fun j y hy=>?_⟩
  cases j with
  | succ j=>simp [AV.cells] at hy
  | zero =>
   simp [AV.cells] at hy
   subst hy
   refine ⟨rfl,?_⟩
   rw [Nat.mul_one,Nat.add_zero,Qzp,hw]
   rfl) (fun i x hx j y hy=>by
  rw [Qzp,List.getElem?_drop,Qzm] at hx
  obtain ⟨w,hw,rfl⟩:=hx
  cases j with
  | succ j=>simp [AV.cells] at hy
  | zero =>
   simp [AV.cells] at hy
   subst hy
   rw [hw]
   exact .str w)
 rwa [List.length_map] at this
def Ya1 (s:Int × Int) (ok:Bool) (w bad:Int):Int × Int:=if s.2=0∧ok=false then (w,bad) else s
def wst:List (List UInt8)→Nat→Int × Int→Int × Int
 | [],_,s=>s
 | w::t,i,s=>wst t (i+1) (Ya1 s (decide (i<2)||Oyez.word w) i 11)
def Yg1 (ws:List (List UInt8)):Int × Int:=Ya1 (0,0) (decide (0≤Ud2 (ws.getD 0 []))) 0 12
def Xir (ws:List (List UInt8)):Int:=if 1<ws.length then Vbk (ws.getD 1 []) else 0
def rule2 (ws:List (List UInt8)):Int × Int:=Ya1 (Yg1 ws) (decide (1<ws.length)&&Xa5 (ws.getD 1 []) 999) 1 11
def We9 (ws:List (List UInt8)):Int × Int:=Ya1 (rule2 ws) (decide (ws.length≤8)) 8 2
def Xiu (ws:List (List UInt8)):Int × Int:=wst ws 0 (We9 ws)
def rdH (σ p2:Za) (ws:List (List UInt8)) (x:List UInt8) (k n:Int) (st:Int × Int) (more:Za):Za :=
 σ++(.cells [.int .i64 0,.int .i64 0,.nils]::.cells [.int .i64 k,.int .i64 n,.nils]::.cells [.int .i64 st.1]::.cells [.int .i64 st.2]::.cells [.arr 1 (σ.length+(p2.length+8)) 0 ws.length]::.cells [.str x]::.deferred::.dead ::
  (p2++(.cells (ws.map AV.str)::.cells [.fn (.func 198) [] [.ptr (σ.length+1) 0],.int .i64 12,.fn (.func 200) [] [.ptr (σ.length+1) 0],.int .i64 11]::more)))
end Ab
namespace Ab
open Go Go.RowKit Go.Proofs
attribute [local irreducible] aws awp aw1 Og Om Oc Oa Ogd Ov Ot awd Ua awh Xb Ogh Ohd awl Ogl Ohl awv Ogv Ohv Wb Vb QFn Zc QRo QBe ACode AYield
def Yiw (x:List UInt8) (f:List Oyez.Rec):Oyez.Parsed:=glue f (Oyez.parseLines (Oyez.linesOf x) (Vcb f) f.length)
end Ab
namespace Ab
open Go Go.RowKit Go.Proofs
attribute [local irreducible] aws awp aw1 Og Om Oc Oa Ogd Ov Ot awd Ua awh Xb Ogh Ohd awl Ogl Ohl awv Ogv Ohv Wb Vb QFn Zc QRo QBe ACode AYield
abbrev Zaa:List Oyez.Rec:=[⟨1,3,[[116,105,100,101],[97,116],[115,105,120]]⟩,⟨3,12,[]⟩]
theorem Vea:APure Tryz.prog 75 [] (Ys Zaa):=by
 refine APure.of fun σ=>?_
 refine Yb Tryz.func75 rfl (Zb Tryz.func75 (by decide) rfl) ?_
 simp [Tryz.ntmps75]
 refine .arr 3 (σ.length+1) 0 _ [Zm ⟨1,3,[[116,105,100,101],[97,116],[115,105,120]]⟩,Zm ⟨3,12,[]⟩] (fun i j=>match i,j with
  | 0,0=>.int .i64 1
  | 0,1=>.int .i64 3
  | 0,_=>.arr 1 σ.length 0 3
  | _,0=>.int .i64 3
  | _,1=>.int .i64 12
  | _,_=>.nils) (by omega) (by simp;rfl) ?_ ?_
 ·intro i x hx
  match i,hx with
  | 0,hx =>
   simp at hx
   subst hx
   refine ⟨rfl,fun j y hy=>?_⟩
   match j,hy with
   | 0,hy=>simp [AV.cells] at hy;subst hy;exact ⟨rfl,rfl⟩
   | 1,hy=>simp [AV.cells] at hy;subst hy;exact ⟨rfl,rfl⟩
   | 2,hy=>simp [AV.cells] at hy;subst hy;exact ⟨rfl,rfl⟩
   | j+3,hy=>simp [AV.cells] at hy
  | 1,hx =>
   simp at hx
   subst hx
   refine ⟨rfl,fun j y hy=>?_⟩
   match j,hy with
   | 0,hy=>simp [AV.cells] at hy;subst hy;exact ⟨rfl,rfl⟩
   | 1,hy=>simp [AV.cells] at hy;subst hy;exact ⟨rfl,rfl⟩
   | 2,hy=>simp [AV.cells] at hy;subst hy;exact ⟨rfl,rfl⟩
   | j+3,hy=>simp [AV.cells] at hy
  | i+2,hx=>simp at hx
 ·intro i x hx j y hy
  match i,hx with
  | 0,hx =>
   simp at hx
   subst hx
   match j,hy with
   | 0,hy=>simp [AV.cells] at hy;subst hy;exact .int _ _
   | 1,hy=>simp [AV.cells] at hy;subst hy;exact .int _ _
   | 2,hy=>simp [AV.cells] at hy;subst hy;exact Ydj [[116,105,100,101],[97,116],[115,105,120]] 0 (Nat.le_refl _) (by simp)
   | j+3,hy=>simp [AV.cells] at hy
  | 1,hx =>
   simp at hx
   subst hx
   match j,hy with
   | 0,hy=>simp [AV.cells] at hy;subst hy;exact .int _ _
   | 1,hy=>simp [AV.cells] at hy;subst hy;exact .int _ _
   | 2,hy=>simp [AV.cells] at hy;subst hy;exact .nils_pl 1
   | j+3,hy=>simp [AV.cells] at hy
  | i+2,hx=>simp at hx
def Xx (f0:FuncId) (g:List AV→Option AV):Orc:=fun f args σ=>if f=f0 then (match g args with
 | some v=>some (v,σ)
 | none=>none) else none
theorem Yb1 {f0:FuncId} {g:List AV→Option AV} (h:∀ args v,g args=some v→APure Tryz.prog f0 args v):(Xx f0 g).Good Tryz.prog:=by
 intro f args σ v σ' hf
 unfold Xx at hf
 split at hf
 ·rename_i he
  subst he
  split at hf
  ·rename_i w hw
   simp only [Option.some.injEq,Prod.mk.injEq] at hf
   obtain ⟨rfl,rfl⟩:=hf
   exact h args _ hw σ
  ·cases hf
 ·cases hf
def orO (a b:Orc):Orc:=fun f args σ=>match a f args σ with
 | some r=>some r
 | none=>b f args σ
theorem Xca {a b:Orc} (ha:a.Good Tryz.prog) (hb:b.Good Tryz.prog):(orO a b).Good Tryz.prog:=by
 intro f args σ v σ' hf
 unfold orO at hf
 split at hf
 ·rename_i r hr
  simp only [Option.some.injEq] at hf
  subst hf
  exact ha _ _ _ _ _ hr
 ·exact hb _ _ _ _ _ hf
def Ya6 (g:List UInt8→AV) (args:List AV):Option AV:=match args with
 | [.str s]=>if s.length≤1000 then some (g s) else none
 | _=>none
def strsOf:List AV→Option (List (List UInt8))
 | []=>some []
 | .str s::l=>(strsOf l).map (s::·)
 | _=>none
def Vhx:Orc:=fun f args σ=>if f=189 then (match args with
 | [.arr k r o n]=>(match σ[r]? with
  | some (.cells cs)=>(match strsOf cs with
   | some ws=>if k=1∧o=0∧ws.length=n∧ws.length≤1000∧(Vp ws).length≤100000 then some (.str (Vp ws),σ) else none
   | none=>none)
  | _=>none)
 | _=>none) else none
def Wbl (args:List AV):Option AV:=match args with
 | [a]=>if AV.eqb 20 a (Ys Zaa) then some (.tup [.str (Wad Zaa).1,.int .i64 (Wad Zaa).2]) else none
 | _=>none
def Yht (args:List AV):Option AV:=match args with
 | [.int .i64 n]=>if -9223372036854775808≤n∧n≤9223372036854775807 then some (.str (Lib.itoa n)) else none
 | _=>none
def Vhg:Orc:=orO (Xx 75 fun args=>match args with | []=>some (Ys Zaa) | _=>none) <| orO (Xx 39 Wbl) <| orO (Xx 43 (Ya6 fun s=>Uhn (Oyez.parse s))) <|
 orO (Xx 40 (Ya6 fun s=>.tup [.str (Oyez.sealOf s).1,.int .i64 (Oyez.sealOf s).2])) <| orO (Xx 41 (Ya6 fun s=>.tup [.str (Zbi s).1,.int .i64 (Zbi s).2.1,.int .i64 (Zbi s).2.2])) <|
 orO (Xx 201 (Ya6 fun s=>.bool (Oyez.word s))) <| orO (Xx 38 Yht) Vhx
end Ab
namespace Ab
open Go Go.RowKit Go.Proofs
attribute [local irreducible] aws awp aw1 Og Om Oc Oa Ogd Ov Ot awd Ua awh Xb Ogh Ohd awl Ogl Ohl awv Ogv Ohv Wb Vb QFn Zc QRo QBe ACode AYield
def Uhw:FOrc:=fun f args σ=>if f=91 then (match args with
 | [.ptr d o,.agg [.int .i64 k,.int .i64 n]]=>if o=0 then (match σ[d]? with
  | some (.cells [rv,.mp m])=>(match σ[m]? with
   | some (.map es)=>(match Vex rv es k n σ with
    | some (w,is)=>if w.one=true∧fzB σ.length 20 w=true then some (.agg [.bool is,w]) else none
    | none=>none)
   | _=>none)
  | _=>none) else none
 | _=>none) else none
def ofF (F:FOrc):Orc:=fun f args σ=>(F f args σ).map (·,σ)
abbrev Vim:Orc:=orO Vhg (ofF Uhw)
end Ab
namespace Ab
open Go Go.RowKit Go.Proofs
end Ab
namespace Ab
open Go Go.RowKit Go.Proofs
attribute [local irreducible] aws awp aw1 Og Om Oc Oa Ogd Ov Ot awd Ua awh Xb Ogh Ohd awl Ogl Ohl awv Ogv Ohv Wb Vb QFn Zc QRo QBe ACode AYield
end Ab
namespace Oyez
end Oyez
namespace Ab
open Go Go.RowKit Go.Proofs
attribute [local irreducible] aws awp aw1 Og Om Oc Oa Ogd Ov Ot awd Ua awh Xb Ogh Ohd awl Ogl Ohl awv Ogv Ohv Wb Vb QFn Zc QRo QBe ACode AYield
end Ab
namespace Ab
open Go Go.RowKit Go.Proofs
def Wn:AV:=.agg [.int .i64 3,.pl 2 [.agg [.int .i64 3,.pl 1 [.int .i64 0,.int .i64 1,.int .i64 2]],.agg [.int .i64 1,.pl 1 [.int .i64 0,.int .i64 1]],.agg [.int .i64 1,.pl 1 [.int .i64 0]],.agg [.int .i64 2,.pl 1 [.int .i64 0,.int .i64 1,.int .i64 2]]]]
def noF:FOrc:=fun _ _ _=>none
theorem Vax:noF.Good Tryz.prog:=fun _ _ _ _ h=>by cases h
def noO:Orc:=fun _ _ _=>none
theorem Zaw:noO.Good Tryz.prog:=fun _ _ _ _ _ h=>by cases h
set_option maxRecDepth 100000 in
theorem Zge:Xq Tryz.prog noF noO 300 Tryz.f148 [Wn,.int .i64 0] (.tup [.any,.bool false]) 0=true:=by kernel_rfl
set_option maxRecDepth 100000 in
theorem Xhq:Xq Tryz.prog noF noO 300 Tryz.f148 [Wn,.int .i64 0] (.tup [.any,.bool false]) 1=true:=by kernel_rfl
set_option maxRecDepth 100000 in
theorem Yge:Xq Tryz.prog noF noO 300 Tryz.f148 [Wn,.int .i64 0] (.tup [.any,.bool false]) 2=true:=by kernel_rfl
set_option maxRecDepth 100000 in
theorem Uf0:APure Tryz.prog 148 [Wn,.int .i64 0] (.tup [.any,.bool false]):=APure.runP 300 mixed Vax Zaw Tryz.func148 (by kernel_rfl) Zge Xhq Yge
set_option maxRecDepth 100000 in
theorem Udu:Xq Tryz.prog noF noO 300 Tryz.f148 [Wn,.int .i64 1] (.tup [.any,.bool false]) 0=true:=by kernel_rfl
set_option maxRecDepth 100000 in
theorem Xcy:Xq Tryz.prog noF noO 300 Tryz.f148 [Wn,.int .i64 1] (.tup [.any,.bool false]) 1=true:=by kernel_rfl
set_option maxRecDepth 100000 in
theorem Ue4:Xq Tryz.prog noF noO 300 Tryz.f148 [Wn,.int .i64 1] (.tup [.any,.bool false]) 2=true:=by kernel_rfl
set_option maxRecDepth 100000 in
theorem Ye2:APure Tryz.prog 148 [Wn,.int .i64 1] (.tup [.any,.bool false]):=APure.runP 300 mixed Vax Zaw Tryz.func148 (by kernel_rfl) Udu Xcy Ue4
set_option maxRecDepth 100000 in
theorem Vf1:Xq Tryz.prog noF noO 300 Tryz.f148 [Wn,.int .i64 2] (.tup [.any,.bool false]) 0=true:=by kernel_rfl
set_option maxRecDepth 100000 in
theorem Zc1:Xq Tryz.prog noF noO 300 Tryz.f148 [Wn,.int .i64 2] (.tup [.any,.bool false]) 1=true:=by kernel_rfl
set_option maxRecDepth 100000 in
theorem Zhz:Xq Tryz.prog noF noO 300 Tryz.f148 [Wn,.int .i64 2] (.tup [.any,.bool false]) 2=true:=by kernel_rfl
set_option maxRecDepth 100000 in
theorem Ve7:APure Tryz.prog 148 [Wn,.int .i64 2] (.tup [.any,.bool false]):=APure.runP 300 mixed Vax Zaw Tryz.func148 (by kernel_rfl) Vf1 Zc1 Zhz
set_option maxRecDepth 100000 in
theorem Vde:Xq Tryz.prog noF noO 300 Tryz.f148 [Wn,.int .i64 3] (.tup [.any,.bool true]) 0=true:=by kernel_rfl
set_option maxRecDepth 100000 in
theorem Udq:Xq Tryz.prog noF noO 300 Tryz.f148 [Wn,.int .i64 3] (.tup [.any,.bool true]) 1=true:=by kernel_rfl
set_option maxRecDepth 100000 in
theorem Zh6:Xq Tryz.prog noF noO 300 Tryz.f148 [Wn,.int .i64 3] (.tup [.any,.bool true]) 2=true:=by kernel_rfl
set_option maxRecDepth 100000 in
theorem shared3:APure Tryz.prog 148 [Wn,.int .i64 3] (.tup [.any,.bool true]):=APure.runP 300 mixed Vax Zaw Tryz.func148 (by kernel_rfl) Vde Udq Zh6
def courtF:FOrc:=orF (Vam 148 [Wn,.int .i64 0] (.tup [.any,.bool false])) (orF (Vam 148 [Wn,.int .i64 1] (.tup [.any,.bool false])) (orF (Vam 148 [Wn,.int .i64 2] (.tup [.any,.bool false])) (Vam 148 [Wn,.int .i64 3] (.tup [.any,.bool true]))))
theorem Ucm:courtF.Good Tryz.prog:=Ubo (Uav Uf0 rfl) (Ubo (Uav Ye2 rfl) (Ubo (Uav Ve7 rfl) (Uav shared3 rfl)))
theorem Vhj:APure Tryz.prog 39 [Ys Zaa] (.tup [.str (Wad Zaa).1,.int .i64 (Wad Zaa).2]):=Vg5 Zaa (by intro r hr;simp at hr;rcases hr with rfl | rfl<;>decide)
def twoO:Orc:=orO (Xx 75 fun args=>match args with | []=>some (Ys Zaa) | _=>none) <| orO (Xx 39 Wbl) (asO courtF)
theorem Ucq:twoO.Good Tryz.prog:=by
 refine Xca (Yb1 fun args v hv=>?_) <| Xca (Yb1 fun args v hv=>?_) (Wf5 Ucm)
 ·split at hv
  ·simp only [Option.some.injEq] at hv
   subst hv
   exact Vea
  ·cases hv
 ·unfold Wbl at hv
  split at hv
  ·split at hv
   ·rename_i a he
    simp only [Option.some.injEq] at hv
    subst hv
    rw [AV.eqb_eq _ _ _ he]
    exact Vhj
   ·cases hv
  ·cases hv
set_option maxRecDepth 100000 in
theorem awake11_calls:APure Tryz.prog 15 [] (.bool true):=APure.runG (F:=courtF) (O:=twoO) 300 mixed Ucm Ucq (by kernel_rfl)
end Ab
namespace Ab
open Go Go.RowKit
variable [Mode]
variable {P:Program}
inductive Rn (n:Nat) (m:List Nat):AV→AV→Prop
 | any (v:AV):Rn n m v .any
 | bool (b:Bool):Rn n m (.bool b) (.bool b)
 | int (k:IntKind) (i:Int):Rn n m (.int k i) (.int k i)
 | str (s:List UInt8):Rn n m (.str s) (.str s)
 | nilp:Rn n m .nilp .nilp
 | gl (g:Nat):Rn n m (.gl g) (.gl g)
 | nils:Rn n m .nils .nils
 | nils_pl (k:Nat):Rn n m .nils (.pl k [])
 | emp:Rn n m .emp .emp
 | emp_pl (k:Nat):Rn n m .emp (.pl k [])
 | nn:Rn n m .nn .nn
 | nn_pl (k:Nat):Rn n m .nn (.pl k [])
 | nilm:Rn n m .nilm .nilm
 | nilf:Rn n m .nilf .nilf
 | nili:Rn n m .nili .nili
 | pl0 (k k':Nat):Rn n m (.pl k []) (.pl k' [])
 | pl (k:Nat) (l:List AV):(∀ (i:Nat) (x:AV),l[i]? = some x→∀ (j:Nat) (y:AV),x.cells[j]? = some y→Rn n m y y)→Rn n m (.pl k l) (.pl k l)
 | arr (k i j off len:Nat):m[i]? = some j→Rn n m (.arr k (n+j) off len) (.arr k (n+i) off len)
 | arr0 (k k' r off:Nat):Rn n m (.arr k r off 0) (.pl k' [])
 | keep (k r off len:Nat):r<n→Rn n m (.arr k r off len) (.arr k r off len)
 | ptr (i j off:Nat):m[i]? = some j→Rn n m (.ptr (n+j) off) (.ptr (n+i) off)
 | mp (i j:Nat):m[i]? = some j→Rn n m (.mp (n+j)) (.mp (n+i))
 | agg (l l':List AV) (hl:l.length=l'.length):(∀ (i:Nat) (x y:AV),l[i]? = some x→l'[i]? = some y→Rn n m x y)→Rn n m (.agg l) (.agg l')
 | tup (l l':List AV) (hl:l.length=l'.length):(∀ (i:Nat) (x y:AV),l[i]? = some x→l'[i]? = some y→Rn n m x y)→Rn n m (.tup l) (.tup l')
inductive ORn (n:Nat) (m:List Nat):AObj→AObj→Prop
 | cells (cs cs':List AV):cs'.length≤cs.length→(∀ (i:Nat) (x x':AV),cs[i]? = some x→cs'[i]? = some x'→Rn n m x x')→ORn n m (.cells cs) (.cells cs')
 | map (es es':List (AV × AV)):es.length=es'.length→(∀ (i:Nat) (e e':AV × AV),es[i]? = some e→es'[i]? = some e'→Rn n m e.1 e'.1∧Rn n m e.2 e'.2)→ORn n m (.map es) (.map es')
theorem VR.rn {C C':Ctx} {n:Nat} {m bs:List Nat} (hn:C.blk.length=n) (hE:Ext C C') (hbs:∀ (i j b:Nat),m[i]? = some j→C'.blk[n+j]? = some b→bs[i]? = some b) {v v':AV} {c:Value} (hr:Rn n m v v') (h:VR C' v c):VR (C'.re C bs) v' c:=by
 have hat:∀ (i j b:Nat),m[i]? = some j→C'.blk[n+j]? = some b→(C'.re C bs).blk[n+i]? = some b:=by
  intro i j b h1 h2
  simp only [Ctx.re]
  rw [Qzr (by omega),hn,Nat.add_sub_cancel_left]
  exact hbs i j b h1 h2
 have hold:∀ (r b:Nat),r<n→C'.blk[r]? = some b→(C'.re C bs).blk[r]? = some b:=by
  intro r b h1 h2
  obtain ⟨e,he⟩:=hE.blk
  rw [he,Qzl (by omega)] at h2
  simp only [Ctx.re]
  rw [Qzl (by omega)]
  exact h2
 induction hr generalizing c with
 | any v=>exact .any c
 | bool b=>cases h;exact .bool b
 | int k i=>cases h;exact .int k i
 | str s=>cases h;exact .str s
 | nilp=>cases h;exact .nilp
 | gl g=>cases h;exact .gl g
 | nils=>cases h;exact .nils
 | nils_pl k=>cases h;exact .pl0 k none 0 fun _=>rfl
 | emp=>cases h;exact .emp _
 | emp_pl k=>cases h;exact .pl0 k _ 0 fun _=>rfl
 | nn=>cases h;exact .nn _ _
 | nn_pl k=>cases h;exact .pl0 k _ _ fun h=>by cases h
 | nilm=>cases h;exact .nilm
 | nilf=>cases h;exact .nilf
 | nili=>cases h;exact .nili
 | pl0 k k' =>
  obtain ⟨A,cap,rfl,h1,h2⟩:=h.pl_inv
  exact .pl0 k' A cap h.pl_cap
 | pl k l _ ih =>
  obtain ⟨A,cap,rfl,h1,h2⟩:=h.pl_inv
  rcases h2 with rfl | ⟨b,o,rfl,hrow⟩
  ·exact .pl0 k A cap h.pl_cap
  ·exact .pl k l b o l.length cap hrow.f hrow.1 rfl h1 (fun i x hx=>⟨(hrow.2 i x hx).1,fun j y hy=>⟨((hrow.2 i x hx).2 j y hy).1,(hrow.f_eq hx hy).1⟩⟩)
    (fun i x hx j y hy=>ih i x hx j y hy (hrow.f_eq hx hy).2)
 | arr k i j off len hm=>obtain ⟨b,cap,e,q,hb,h1,h2,h3,rfl⟩:=h.arr_inv;exact .arr k _ off len b cap e q (hat i j b hm hb) h1 h2 h3
 | arr0 k k' r off=>obtain ⟨b,cap,e,q,hb,h1,h2,h3,rfl⟩:=h.arr_inv;exact .pl0 k' _ cap fun h=>by cases h
 | keep k r off len hr=>obtain ⟨b,cap,e,q,hb,h1,h2,h3,rfl⟩:=h.arr_inv;exact .arr k r off len b cap e q (hold r b hr hb) h1 h2 h3
 | ptr i j off hm=>obtain ⟨b,hb,rfl⟩:=h.ptr_inv;exact .ptr _ off b (hat i j b hm hb)
 | mp i j hm=>obtain ⟨b,hb,rfl⟩:=h.mp_inv;exact .mp _ b (hat i j b hm hb)
 | agg l l' hl _ ih =>
  obtain ⟨cs,rfl,hcs⟩:=h.agg_inv
  exact .agg l' cs (by rw [← hl];exact hcs.len) fun i y c hy hc=>by
   have hi:=(Qzs.1 hy).1
   have hx:l[i]? = some (l[i]'(by omega)):=Qze (by omega)
   exact ih i _ y hx hy (hcs.at_ i _ c hx hc)
 | tup l l' hl _ ih =>
  obtain ⟨cs,rfl,hcs⟩:=h.tup_inv
  exact .tup l' cs (by rw [← hl];exact hcs.len) fun i y c hy hc=>by
   have hi:=(Qzs.1 hy).1
   have hx:l[i]? = some (l[i]'(by omega)):=Qze (by omega)
   exact ih i _ y hx hy (hcs.at_ i _ c hx hc)
theorem Zfp {C C':Ctx} {σ:Za} (hI:Inv C σ) (hE:Ext C C') {objs objs':List AObj} (hI':Inv C' (σ++objs)) {m bs:List Nat} (hlen:bs.length=objs'.length) (hml:m.length=objs'.length) (hnd:m.Nodup)
  (hbs:∀ (i j b:Nat),m[i]? = some j→C'.blk[σ.length+j]? = some b→bs[i]? = some b)
  (hobj:∀ (i:Nat) (o':AObj),objs'[i]? = some o'→∃ (j:Nat) (o:AObj),m[i]? = some j∧objs[j]? = some o∧ORn σ.length m o o'):Ext C (C'.re C bs)∧Inv (C'.re C bs) (σ++objs'):=by
 have hn:=hI.len
 have hn':=hI'.len
 rw [List.length_append] at hn'
 have hup:=Vaz hn hE bs
 obtain ⟨e,he⟩:=hE.blk
 have at1:∀ r b,r<σ.length→(C'.re C bs).blk[r]? = some b→C.blk[r]? = some b∧C'.blk[r]? = some b:=by
  intro r b hr h
  simp only [Ctx.re] at h
  rw [Qzl (by omega)] at h
  exact ⟨h,hE.blk_at h⟩
 have at2:∀ r b,σ.length≤r→(C'.re C bs).blk[r]? = some b→bs[r - σ.length]? = some b:=by
  intro r b hr h
  simp only [Ctx.re] at h
  rw [Qzr (by omega),hn] at h
  exact h
 have live':∀ (i b:Nat) (o':AObj),bs[i]? = some b→objs'[i]? = some o'→∃ (j:Nat) (o:AObj),m[i]? = some j∧C'.blk[σ.length+j]? = some b∧(σ++objs)[σ.length+j]? = some o∧o.live=true∧ORn σ.length m o o':=by
  intro i b o' h1 h2
  obtain ⟨j,o,h3,h4,h5⟩:=hobj i o' h2
  have hj:=(Qzs.1 h4).1
  have h6:C'.blk[σ.length+j]? = some (C'.blk[σ.length+j]'(by omega)):=Qze (by omega)
  have h7:=hbs i j _ h3 h6
  rw [h1] at h7
  refine ⟨j,o,h3,by rw [h6,← h7],by rw [Qzr (by omega),Nat.add_sub_cancel_left];exact h4,?_,h5⟩
  cases h5<;>rfl
 refine ⟨⟨hE.w0,⟨bs,rfl⟩,hE.pers,hE.keep,hE.shape,hE.size,hE.drawn⟩,by simp [Ctx.re,hn,hlen],hI'.glob,hI'.base,hI'.basep,hI'.plt,fun r b o hr ho hl=>?_,fun r r' b o o' hr hr' ho ho' hl hl'=>?_⟩
 ·rcases Qzn r σ.length with h | h
  ·obtain ⟨h1,h2⟩:=at1 r b h hr
   rw [Qzl h] at ho
   obtain ⟨hnp,c,hc,hR⟩:=hI'.live r b o h2 (by rw [Qzl h];exact ho) hl
   obtain ⟨_,c₀,_,hR₀⟩:=hI.live r b o h1 ho hl
   have:=ORel.frz_old (σ:=[]) (Nat.le_of_eq hn) hR₀ hR
   rw [Vbq] at this
   exact ⟨hnp,c,hc,this.ext hup⟩
  ·have h2:=at2 r b h hr
   rw [Qzr h] at ho
   obtain ⟨j,o0,hj,hjb,hoj,hlo,hrel⟩:=live' _ b o h2 ho
   obtain ⟨hnp,c,hc,hR⟩:=hI'.live (σ.length+j) b o0 hjb hoj hlo
   refine ⟨hnp,c,hc,?_⟩
   cases hrel with
   | cells cs cs' hcl hcr =>
    obtain ⟨carr,e,lo,hi,rfl,h3,h4,h5⟩:=hR.cells_inv
    refine .cells cs' carr e lo hi (Nat.le_trans hcl h3) h4 fun i x c hx hc=>?_
    have hi:=(Qzs.1 hx).1
    have hci:cs[i]? = some (cs[i]'(by omega)):=Qze (by omega)
    exact (h5 i _ c hci hc).rn hn hE hbs (hcr i _ x hci hx)
   | map es es' hel her =>
    cases hR with
    | map _ ces clock g1 g2 =>
     refine .map es' ces clock (by omega) fun i x e hx he=>?_
     have hi:=(Qzs.1 hx).1
     have hei:es[i]? = some (es[i]'(by omega)):=Qze (by omega)
     have g:=g2 i _ e hei he
     have q:=her i _ x hei hx
     exact ⟨g.1.rn hn hE hbs q.1,g.2.rn hn hE hbs q.2⟩
 ·rcases Qzn r σ.length with h | h<;>rcases Qzn r' σ.length with h' | h'
  ·rw [Qzl h] at ho
   rw [Qzl h'] at ho'
   exact hI.inj r r' b o o' (at1 r b h hr).1 (at1 r' b h' hr').1 ho ho' hl hl'
  ·rw [Qzl h] at ho
   rw [Qzr h'] at ho'
   obtain ⟨j,o0,hj,hjb,hoj,hlo,hrel⟩:=live' _ b o' (at2 r' b h' hr') ho'
   have:=hI'.inj r (σ.length+j) b o o0 (at1 r b h hr).2 hjb (by rw [Qzl h];exact ho) hoj hl hlo
   omega
  ·rw [Qzr h] at ho
   rw [Qzl h'] at ho'
   obtain ⟨j,o0,hj,hjb,hoj,hlo,hrel⟩:=live' _ b o (at2 r b h hr) ho
   have:=hI'.inj (σ.length+j) r' b o0 o' hjb (at1 r' b h' hr').2 hoj (by rw [Qzl h'];exact ho') hlo hl'
   omega
  ·rw [Qzr h] at ho
   rw [Qzr h'] at ho'
   obtain ⟨j,o0,hj,hjb,hoj,hlo,_⟩:=live' _ b o (at2 r b h hr) ho
   obtain ⟨j',o0',hj',hjb',hoj',hlo',_⟩:=live' _ b o' (at2 r' b h' hr') ho'
   have e1:=hI'.inj (σ.length+j) (σ.length+j') b o0 o0' hjb hjb' hoj hoj' hlo hlo'
   have e2:j=j':=by omega
   subst e2
   obtain ⟨hi1,hv1⟩:=Qzs.1 hj
   obtain ⟨hi2,hv2⟩:=Qzs.1 hj'
   have:=(List.getElem_inj hnd).1 (hv1.trans hv2.symm)
   omega
theorem ACalls.canon {f:FuncId} {args:List AV} {σ:Za} {R:AV→Za→Prop} (h:ACalls P f args σ fun v σ'=>∃ (objs objs':List AObj) (m:List Nat) (v':AV),σ'=σ++objs∧m.length=objs'.length∧m.Nodup ∧
  (∀ (i:Nat) (o':AObj),objs'[i]? = some o'→∃ (j:Nat) (o:AObj),m[i]? = some j∧objs[j]? = some o∧ORn σ.length m o o')∧Rn σ.length m v v'∧R v' (σ++objs')):ACalls P f args σ R:=by
 have key:∀ {C C':Ctx} {objs objs':List AObj} {m:List Nat} {v v':AV} {c:Value},Inv C σ→Ext C C'→Inv C' (σ++objs)→m.length=objs'.length→m.Nodup →
   (∀ (i:Nat) (o':AObj),objs'[i]? = some o'→∃ (j:Nat) (o:AObj),m[i]? = some j∧objs[j]? = some o∧ORn σ.length m o o')→Rn σ.length m v v'→VR C' v c →
   ∃ C2:Ctx,C2.w=C'.w∧Ext C C2∧Inv C2 (σ++objs')∧VR C2 v' c:=by
  intro C C' objs objs' m v v' c hI hE hI' hml hnd hobj hr hv
  have hbs:∀ (i j b:Nat),m[i]? = some j→C'.blk[σ.length+j]? = some b→(m.map fun j=>(C'.blk[σ.length+j]?).getD 0)[i]? = some b:=by
   intro i j b h1 h2
   rw [Qzp,h1,Option.map_some,h2]
   rfl
  obtain ⟨h1,h2⟩:=Zfp hI hE hI' (bs:=m.map fun j=>(C'.blk[σ.length+j]?).getD 0) (by rw [List.length_map];exact hml) hml hnd hbs hobj
  exact ⟨C'.re C (m.map fun j=>(C'.blk[σ.length+j]?).getD 0),rfl,h1,h2,hv.rn hI.len hE hbs hr⟩
 rcases h with h | h
 ·refine .inl ⟨h.1,fun C cargs hI hv=>(h.2 C cargs hI hv).mono ?_⟩
  rintro e w' ⟨v,C',av,σ',rfl,rfl,hE,hI',hv',objs,objs',m,v',rfl,hml,hnd,hobj,hr,hR⟩
  obtain ⟨C2,h1,h2,h3,h4⟩:=key hI hE hI' hml hnd hobj hr hv'
  exact ⟨v,C2,v',_,rfl,h1,h2,h3,h4,hR⟩
 ·refine .inr fun C cargs hI hv=>?_
  obtain ⟨v,C',av,σ',hr0,hE,hI',hv',objs,objs',m,v',rfl,hml,hnd,hobj,hr,hR⟩:=h C cargs hI hv
  obtain ⟨C2,h1,h2,h3,h4⟩:=key hI hE hI' hml hnd hobj hr hv'
  exact ⟨v,C2,v',_,by rw [h1];exact hr0,h2,h3,h4,hR⟩
end Ab
namespace Oyez
def idxOf (f:List Rec) (p:Place):Option Nat:=f.findIdx? fun r=>decide (r.place=p)
end Oyez
namespace Ab
open Go Go.RowKit Go.Proofs
attribute [local irreducible] aws awp aw1 Og Om Oc Oa Ogd Ov Ot awd Ua awh Xb Ogh Ohd awl Ogl Ohl awv Ogv Ohv Wb Vb QFn Zc QRo QBe ACode AYield
theorem Vdt {P:Program} {dst:Option Tmp} {ty:TypeId} {pos:String} {after:Array Edge} {g:Option (Nat × Bool)} {e:TypeId} {m x y:Operand} {Kh:AV→Za→Prop} {env:Env} {σ:Za}:Xb P ⟨dst,.mapUpdate e m x y,ty,pos,after,g⟩ Kh env σ=Om ((Xam P e (Wa env.t m) (Wa env.t x) (Wa env.t y) σ).map (AV.any,·)) Kh:=by rw [Yai rfl,Ych]
attribute [simp] Vdt
def Yhv (f:List Oyez.Rec) (e:Nat):List (AV × AV):=(f.zipIdx e).map fun x=>(Zap x.1.place,AV.int .i64 x.2)
def Ub5 (f:List Oyez.Rec):List (AV × AV):=Yhv f 0
end Ab
namespace Ab
open Go Go.RowKit Go.Proofs
attribute [local irreducible] aws awp aw1 Og Om Oc Oa Ogd Ov Ot awd Ua awh Xb Ogh Ohd awl Ogl Ohl awv Ogv Ohv Wb Vb QFn Zc QRo QBe ACode AYield
def Yio (q:Nat) (f:List Oyez.Rec):Za:=[.cells [Ys f,.mp (q+1)],.map (Ub5 f)]
structure DeskAt (σ:Za) (v:AV) (f:List Oyez.Rec):Prop where
 ex:∃ r m,v=.ptr r 0∧σ[r]? = some (.cells [Ys f,.mp m])∧σ[m]? = some (.map (Ub5 f))
theorem DeskAt.more {σ:Za} {v:AV} {f:List Oyez.Rec} (h:DeskAt σ v f) (g:Za):DeskAt (σ++g) v f:=by
 obtain ⟨r,m,h1,h2,h3⟩:=h.ex
 exact ⟨r,m,h1,Wae h2,Wae h3⟩
def Vik (x:Oyez.St):AV:=.agg [.bool x.isSome,Yo (Yhx x)]
def Xij (n:Nat) (ws:List (List UInt8)):AV:=if ws=[] then .pl 1 [] else .arr 1 n 0 ws.length
def Xiy (ws:List (List UInt8)):Za:=if ws=[] then [] else [.cells (strs ws)]
end Ab

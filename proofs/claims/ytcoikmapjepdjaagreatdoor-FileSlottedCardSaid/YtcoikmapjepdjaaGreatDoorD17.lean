/-
  Texts packed for a claim.
-/
import Derived.Test.YtcoikmapjepdjaaGreatDoorD00
import Derived.WalkKit
import Derived.BigCall
import Derived.BigGuard
import Derived.Test.YtcoikmapjepdjaaGreatDoorCards
import Derived.Test.YtcoikmapjepdjaaGreatDoorTie
import Derived.ProofKit
import Derived.OpenShut
import Derived.Lay
import Derived.LaidLaws
import Derived.SevenTiedAt
import Derived.Stop.Joined
import Derived.Deep.DeepHandedRow
import Derived.Lib.LaidTab
import Derived.ChangeSlices
import Derived.Carry
import Derived.Test.YtcoikmapjepdjaaGreatDoorD08
import Derived.Test.YtcoikmapjepdjaaGreatDoorD11
import Derived.Test.YtcoikmapjepdjaaGreatDoorD16
import Derived.Test.YtcoikmapjepdjaaGreatDoorD15
import Derived.Test.YtcoikmapjepdjaaGreatDoorD14
import Derived.Test.YtcoikmapjepdjaaGreatDoorD10
set_option linter.all false
namespace Ab
open Go Go.RowKit Go.Proofs
variable {P:Program}
structure All (C:Ctx):Prop where
 inv:Inv C []
 blk:C.blk=[]
 pers:∀ b,b<C.w.heap.size→C.pers b
theorem APure.callsC {f:FuncId} {args:List AV} {v:AV} (hen:Enters P f) (h:APure P f args v) {C:Ctx} (hC:All C) {cargs:List Value} (hv:VRs C args cargs) :
  Calls P f cargs.toArray C.w fun e w'=>(∃ c C',e=.returned c∧VR C' v c)∧Below C.w.heap.size C.w w':=by
 rcases h [] with h | h
 ·refine (callsIn_wide.1 (h.2 C cargs hC.inv hv)).mono ?_
  rintro e w' ⟨c,C',av,σ',rfl,rfl,hE,hI',hv',rfl,rfl⟩
  refine ⟨⟨c,C',rfl,hv'⟩,?_⟩
  have hb:=hC.inv.base
  have hb':=hI'.base
  rw [hE.w0] at hb'
  exact ⟨hb'.os.trans hb.os.symm,hb'.tape.trans hb.tape.symm,hb'.output.trans hb.output.symm,hE.size,fun k hk=>hE.keep k (hC.pers k hk)⟩
 ·obtain ⟨c,C',av,σ',hr,_⟩:=h C cargs hC.inv hv
  rw [hen] at hr
  cases hr
def Ctx.to (C:Ctx) (w:World):Ctx:={ C with pers:=fun b=>b<w.heap.size,w }
theorem All.to {C:Ctx} (hC:All C) {w:World} (hb:Below C.w.heap.size C.w w):All (C.to w)∧Ext C (C.to w):=by
 have hE:=Ext.below hC.inv.plt hb (fun h=>False.elim h)
 have hE2:Ext (C.at_ w) (C.to w):=⟨rfl,⟨[],by simp [Ctx.at_,Ctx.to]⟩,fun b h=>Nat.lt_of_lt_of_le (hC.inv.plt b h) hb.size,fun _ _=>rfl,fun _ _ h=>h,Nat.le_refl _,fun _=>Nat.le_refl _⟩
 refine ⟨⟨⟨by simpa [Ctx.to] using hC.inv.len,hC.inv.glob,hC.inv.base.trans (hb.mono hC.inv.base.size),fun b h=>Nat.lt_of_lt_of_le (hC.inv.plt b (hC.inv.basep b h)) hb.size,fun b h=>h,fun r b o _ h=>by simp at h,fun r r' b o o' _ _ h=>by simp at h⟩,hC.blk,fun b h=>h⟩,hE.trans hE2⟩
theorem APure.kitA {f:FuncId} {args:List AV} {v:AV} (hen:Enters P f) (hfz:∀ (σ:Za) (x:AV),x∈args→Fz 0 σ x x)
  (h:∀ (C:Ctx),All C→∀ (cargs:List Value),VRs C args cargs→Calls P f cargs.toArray C.w fun e w'=>(∃ c,e=.returned c∧∀ C',VR C' v c)∧Below C.w.heap.size C.w w'):APure P f args v:=by
 intro σ
 refine .inl ⟨hen,fun C cargs hI hv=>callsIn_wide.2 ?_⟩
 have hI0:=hI.base0
 have hA:All ⟨C.w0,[],fun b=>b<C.w.heap.size,C.w⟩:=⟨⟨rfl,hI.glob,hI.base,fun b hb=>Nat.lt_of_lt_of_le hb hI.base.size,fun b hb=>hb,fun r b o h=>by simp at h,fun r r' b o o' h=>by simp at h⟩,rfl,fun b hb=>hb⟩
 have hE:Ext (C.frz 0 σ) ⟨C.w0,[],fun b=>b<C.w.heap.size,C.w⟩:=⟨rfl,⟨[],by simp [Ctx.frz]⟩,fun b hb=>hI0.plt b hb,fun _ _=>rfl,fun _ _ h=>h,Nat.le_refl _,fun _=>Nat.le_refl _⟩
 have hv1:VRs ⟨C.w0,[],fun b=>b<C.w.heap.size,C.w⟩ args cargs:=⟨hv.len,fun i x c hx hc=>((hv.at_ i x c hx hc).frz hI (hfz σ x (Qzg hx))).ext hE⟩
 refine (h _ hA cargs hv1).mono ?_
 rintro e w' ⟨⟨c,rfl,hc⟩,hb⟩
 have hE2:=Ext.below hI.plt hb (fun h=>False.elim h)
 exact ⟨c,C.at_ w',v,σ,rfl,rfl,hE2,hI.below hb,hc _,rfl,rfl⟩
end Ab
namespace Ab
open Go Go.RowKit Go.Proofs
theorem Vo {p:Prop} (h:p):Hid p:=h
theorem Wbp:Enters Tryz.prog 112:=Va Tryz.func112 (by decide) rfl
theorem Xef:Enters Tryz.prog 114:=Va Tryz.func114 (by decide) rfl
theorem Zbc:Enters Tryz.prog 39:=Va Tryz.func39 (by decide) rfl
theorem Xbs {T e:TypeId} {B b:Nat} {p:Value} {bs:List Value} {w w':World} (h:Lib.BuilderAt T e B b p bs w) (hb:Below w.heap.size w w'):Lib.BuilderAt T e B b p bs w':=by
 obtain ⟨h1,v,h2,h3,h4⟩:=h
 have keep:∀ (g:Nat) (x:Obj),w.heap[g]? = some x→w'.heap[g]? = some x:=fun g x hg=>(hb.block g (Array.getElem?_eq_some_iff.1 hg).1).trans hg
 refine ⟨h1,v,keep _ _ h2,⟨h3.1,?_⟩,h4⟩
 rcases h3.2 with h | ⟨g,cap,cur,hv,hB,hg,r⟩
 ·exact .inl h
 ·exact .inr ⟨g,cap,cur,hv,hB,keep _ _ hg,r⟩
theorem Vew {T e:TypeId} {B b:Nat} {bs:List Value} {w w':World} (h:Lib.IsBuilder T e B b bs w) (hb:Below w.heap.size w w'):Lib.IsBuilder T e B b bs w':=h.imp (Xbs · hb) (Xbs · hb)
theorem Zdk (f:List Oyez.Rec) (k:Nat) (h:k<f.length):Oyez.print (f.take (k+1))=Oyez.print (f.take k)++(Oyez.line f[k].kind f[k].number f[k].words++[10]):=by
 have e:f.take (k+1)=f.take k++[f[k]]:=by rw [List.take_add_one,Qze h];rfl
 rw [e]
 simp only [Oyez.print,List.flatMap_append,List.flatMap_cons,List.flatMap_nil,List.append_nil]
theorem We1 (f:List Oyez.Rec) (k:Nat):(Oyez.print (f.take k)).length≤(Oyez.print f).length:=by
 conv=>rhs;rw [← List.take_append_drop k f]
 simp only [Oyez.print,List.flatMap_append,List.length_append]
 omega
set_option maxHeartbeats 4000000 in
set_option maxRecDepth 100000 in
theorem Ydb (f:List Oyez.Rec) (hf:Few f) (h0:Oyez.check f=0) (C:Ctx) (hC:All C) (cap b o:Nat) (hrow:Row C 3 b o (f.map Yg)) (hcap:f.length≤cap) (hlen:(Oyez.print f).length≤2^40)
  (hck:Calls Tryz.prog 112 #[.slice (some ⟨b,o,none⟩) f.length cap] C.w fun e w'=>e=.returned (.int .i64 0)∧Below C.w.heap.size C.w w') :
  Calls Tryz.prog 39 #[.slice (some ⟨b,o,none⟩) f.length cap] C.w fun e w'=>e=.returned (.tuple #[.string ⟨(Oyez.print f).toArray⟩,.int .i64 0])∧Below C.w.heap.size C.w w':=by
 have hright:=Oyez.check_zero h0
 have h40:f.length≤40:=hright.len
 have Hline:Hid (∀ (r:Oyez.Rec) (v:Value) (W:World),r∈f→Below C.w.heap.size C.w W→VR C (Uc r.words) v→Calls Tryz.prog 114 #[.agg #[.int .i64 r.kind,.int .i64 r.number,v]] W fun e w'=>e=.returned (.string ⟨⟨Oyez.line r.kind r.number r.words⟩⟩)∧Below W.heap.size W w'):=by
  intro r v W hr hW hv
  obtain ⟨hA,hE⟩:=hC.to hW
  obtain ⟨p1,p2,p3,p4⟩:=Yci (Oyez.recErr_place (hright.recs r hr)).1
  obtain ⟨q1,q2⟩:=hf r hr
  have hvr:VRs (C.to W) [Yg r] [.agg #[.int .i64 r.kind,.int .i64 r.number,v]]:=.cons (.agg _ [.int .i64 r.kind,.int .i64 r.number,v] rfl (VRs.cons (.int _ _) (.cons (.int _ _) (.cons (hv.ext hE) (.nil _)))).at_) (.nil _)
  refine ((Vbz r p1 p2 p3 (by omega) q1 q2).callsC Xef hA hvr).mono ?_
  rintro e w' ⟨⟨c,C',rfl,hc⟩,hb⟩
  rw [hc.str_inv]
  exact ⟨rfl,hb⟩
 clear hright
 go_enter Tryz.func39,Tryz.ntmps39
 go_wp2_with fail
 refine hck.mono ?_
 rintro e w1 ⟨rfl,hb1⟩
 have Hb1:=Vo hb1
 clear hb1 hck
 go_wp2
 go_loopw [15] (fun i wr=>∃ k:Nat,k≤f.length∧i=.int .i64 k∧Hid (Lib.IsBuilder 207 5 w1.heap.size w1.heap.size (Lib.byteCells (Oyez.print (f.take k))) wr)∧Hid (Below C.w.heap.size C.w wr)∧Hid (w1.heap.size≤wr.heap.size)) (fun i _=>f.length - (intOf i).toNat)
 case atStart =>
  refine ⟨0,Nat.zero_le _,rfl,Vo (Lib.fresh_isBuilder 207 5 w1),Vo (Hb1.out.trans (((Below.refl _ _).alloc (Nat.le_refl _) _).mono Hb1.out.size)),Vo (by simp)⟩
 case round =>
  obtain ⟨k,hk,rfl,HB,HW,HS⟩:=hrel
  by_cases hlt:k<f.length
  ·obtain ⟨hl3,hcells⟩:=hrow.2 k (Yg f[k]) (by simp [hlt])
   obtain ⟨_,v0,hc0,hv0⟩:=hcells 0 (.int .i64 f[k].kind) rfl
   obtain ⟨_,v1,hc1,hv1⟩:=hcells 1 (.int .i64 f[k].number) rfl
   obtain ⟨_,v2,hc2,hv2⟩:=hcells 2 (Uc f[k].words) rfl
   have hbk:b<C.w.heap.size:=hC.inv.plt b hrow.1
   obtain rfl:=hv0.int_inv
   obtain rfl:=hv1.int_inv
   have c0:wr.cell? ⟨b,o+k*3,none⟩=some (.int .i64 f[k].kind):=by rw [HW.out.cell (p:=⟨b,o+k*3,none⟩) hbk];exact hc0
   have c1:wr.cell? ⟨b,o+k*3+1,none⟩=some (.int .i64 f[k].number):=by rw [HW.out.cell (p:=⟨b,o+k*3+1,none⟩) hbk];exact hc1
   have c2:wr.cell? ⟨b,o+k*3+2,none⟩=some v2:=by rw [HW.out.cell (p:=⟨b,o+k*3+2,none⟩) hbk];exact hc2
   clear hc0 hc1 hc2 hcells
   obtain ⟨A2,cap2,e2,_,_⟩:=hv2.pl_inv
   have Hv2:=Vo (e2▸hv2:VR C (Uc f[k].words) (.slice A2 (strs f[k].words).length cap2))
   subst e2
   clear hv2
   go_wp2_with fail
   have hwa:Below wr.heap.size wr (wr.alloc (.cells #[.int .i64 f[k].kind,.int .i64 f[k].number,.slice A2 f[k].words.length cap2] 88)):=(Below.refl _ _).alloc (Nat.le_refl _) _
   have hcw:C.w.heap.size≤wr.heap.size:=HW.out.size
   have Hv3:VR C (Uc f[k].words) (.slice A2 f[k].words.length cap2):=by have:=Hv2.out;rwa [Ydf] at this
   refine (Hline.out f[k] _ _ (List.getElem_mem hlt) (HW.out.trans (hwa.mono hcw)) Hv3).mono ?_
   rintro e w3 ⟨rfl,hb3⟩
   have hBw:Below wr.heap.size wr w3:=hwa.trans (hb3.mono hwa.size)
   have HB3:=Vo (Vew HB.out hBw)
   have HW3:=Vo (HW.out.trans (hBw.mono hcw))
   have HS3:=Vo (Nat.le_trans HS.out hBw.size)
   have hpl:=Zdk f k hlt
   have hple:=We1 f (k+1)
   rw [hpl] at hple
   simp only [List.length_append,List.length_cons,List.length_nil] at hple
   have Hpl:=Vo hpl
   have Hlen:=Vo (Nat.le_trans hple hlen)
   have hadd:¬ 9223372036854775807<(Oyez.line f[k].kind f[k].number f[k].words).length+1:=by omega
   clear hwa hcw Hv3 Hv2 hb3 hBw hpl hple HB HW HS c0 c1 c2
   go_wp2_with fail
   refine (Any.Builder_WriteString { Tryz.lays156 with } Tryz.Builder_Extra_156 w1.heap.size w1.heap.size _ _ w3 HB3.out ?_ HS3.out).mono ?_
   ·have:=Hlen.out
    rw [Lib.byteCells_length]
    show _+(Oyez.line f[k].kind f[k].number f[k].words++[10]).length≤_
    rw [List.length_append,List.length_singleton]
    omega
   rintro e w4 ⟨rfl,h4,hb4⟩
   have hcat:Lib.byteCells (Oyez.print (f.take k))++Lib.strCells ((⟨⟨Oyez.line f[k].kind f[k].number f[k].words⟩⟩:ByteArray)++⟨#[10]⟩)=Lib.byteCells (Oyez.print (f.take (k+1))):=by
    rw [Hpl.out,Lib.byteCells_append,Lib.strCells_eq]
    rfl
   rw [hcat] at h4
   have H4:=Vo (Or.inr h4:Lib.IsBuilder 207 5 w1.heap.size w1.heap.size (Lib.byteCells (Oyez.print (f.take (k+1)))) w4)
   have Hw4:=Vo (HW3.out.trans (hb4.mono Hb1.out.size))
   have Hs4:=Vo (Nat.le_trans HS3.out hb4.size)
   clear h4 hb4 hcat HB3 HW3 HS3
   go_wp2
   exact ⟨⟨k+1,by omega,by go_num,H4,Hw4,Hs4⟩,by simp [intOf];omega⟩
  ·have hke:k=f.length:=by omega
   subst hke
   have hB:=HB.out
   rw [List.take_length] at hB
   go_wp2_with fail
   refine (Any.Builder_String_any Tryz.lays169 Tryz.Builder_Extra_169 w1.heap.size w1.heap.size _ wr hB HS.out).mono ?_
   rintro e w5 ⟨rfl,hb5⟩
   have Hb5:=Vo (HW.out.trans (hb5.mono Hb1.out.size))
   clear hb5 hB
   go_wp2
   go_ret2
   exact ⟨rfl,Hb5.out⟩
set_option maxHeartbeats 4000000 in
set_option maxRecDepth 100000 in
theorem Ze2 (W:World) (A:Option Addr) (cap:Nat)
  (hck:Calls Tryz.prog 112 #[.slice A 0 cap] W fun e w'=>e=.returned (.int .i64 0)∧Below W.heap.size W w') :
  Calls Tryz.prog 39 #[.slice A 0 cap] W fun e w'=>e=.returned (.tuple #[.string ⟨#[]⟩,.int .i64 0])∧Below W.heap.size W w':=by
 go_enter Tryz.func39,Tryz.ntmps39
 go_wp2_with fail
 refine hck.mono ?_
 rintro e w1 ⟨rfl,hb1⟩
 have Hb1:=Vo hb1
 clear hb1 hck
 go_wp2
 go_loopw [15] (fun i wr=>i=.int .i64 0∧Hid (Lib.IsBuilder 207 5 w1.heap.size w1.heap.size (Lib.byteCells []) wr)∧Hid (Below W.heap.size W wr)∧Hid (w1.heap.size≤wr.heap.size)) (fun i _=>0)
 case atStart =>
  refine ⟨rfl,Vo (Lib.fresh_isBuilder 207 5 w1),Vo (Hb1.out.trans (((Below.refl _ _).alloc (Nat.le_refl _) _).mono Hb1.out.size)),Vo (by simp)⟩
 case round =>
  obtain ⟨rfl,HB,HW,HS⟩:=hrel
  have hB:=HB.out
  go_wp2_with fail
  refine (Any.Builder_String_any Tryz.lays169 Tryz.Builder_Extra_169 w1.heap.size w1.heap.size _ wr hB HS.out).mono ?_
  rintro e w5 ⟨rfl,hb5⟩
  have Hb5:=Vo (HW.out.trans (hb5.mono Hb1.out.size))
  clear hb5 hB
  go_wp2
  go_ret2
  exact ⟨rfl,Hb5.out⟩
end Ab
namespace Ab
open Go Go.RowKit Go.Proofs
attribute [local irreducible] aws awp aw1 Og Om Oc Oa Ogd Ov Ot awd Zb awh Xb Ogh Ohd awl Ogl Ohl Wb Vb QFn Ub QRo QBe ACode AYield
theorem Zb6 {f:List Oyez.Rec} (h:∀ r∈f,Oyez.recErr r=0):(Oyez.print f).length≤65*f.length:=by
 induction f with
 | nil=>simp [Oyez.print]
 | cons r f ih =>
  have h1:=(Oyez.recErr_place (h r (by simp))).2
  have h2:=ih fun x hx=>h x (by simp [hx])
  have h3:(Oyez.line r.kind r.number r.words).length≤64:=by
   unfold Oyez.wordsErr at h1
   split at h1
   ·cases h1
   ·split at h1
    ·cases h1
    ·split at h1
     ·cases h1
     ·omega
  simp only [Oyez.print,List.flatMap_cons,List.length_append,List.length_cons,List.length_nil] at h2 ⊢
  omega
theorem Wem (n:Nat) (σ:Za) (ws:List (List UInt8)):Fz n σ (Uc ws) (Uc ws):=.pl 1 _ fun i x hx j y hy=>by
 obtain ⟨w,_,rfl⟩:∃ w,w∈ws∧AV.str w=x:=by simpa [strs] using Qzg hx
 cases j with
 | zero=>simp [AV.cells] at hy;subst hy;exact .str w
 | succ j=>simp [AV.cells] at hy
theorem Zbs (n:Nat) (σ:Za) (f:List Oyez.Rec):Fz n σ (We f) (We f):=.pl 3 _ fun i x hx j y hy=>by
 obtain ⟨r,_,rfl⟩:∃ r,r∈f∧Yg r=x:=by simpa using Qzg hx
 match j,hy with
 | 0,hy=>simp [AV.cells,Yg] at hy;subst hy;exact .int _ _
 | 1,hy=>simp [AV.cells,Yg] at hy;subst hy;exact .int _ _
 | 2,hy=>simp [AV.cells,Yg] at hy;subst hy;exact Wem n σ r.words
 | j+3,hy=>simp [AV.cells,Yg] at hy
def Yag (f:List Oyez.Rec):List UInt8 × Int:=if Oyez.check f=0 then (Oyez.print f,0) else ([],Oyez.check f)
theorem Zb8 (f:List Oyez.Rec) (hf:Few f):APure Tryz.prog 39 [We f] (.tup [.str (Yag f).1,.int .i64 (Yag f).2]):=by
 by_cases h0:Oyez.check f=0
 ·have hright:=Oyez.check_zero h0
  have hlen:(Oyez.print f).length≤2^40:=by
   have:=Zb6 hright.recs
   have:=hright.len
   omega
  unfold Yag
  rw [if_pos h0]
  by_cases hn:f=[]
  ·subst hn
   refine APure.kitA Zbc (fun σ x hx=>?_) fun C hC cargs hv=>?_
   ·simp only [List.mem_singleton] at hx
    subst hx
    exact Zbs 0 σ []
   ·obtain ⟨c,cs,rfl,h1,h2⟩:=hv.inv
    obtain rfl:=h2.of_nil
    have hck:=(Vam [] hf).callsC Wbp hC hv
    obtain ⟨A,cap,rfl,hcap,hrow⟩:=h1.pl_inv
    refine (Ze2 C.w A cap (hck.mono ?_)).mono ?_
    ·rintro e w' ⟨⟨c,C',rfl,hc⟩,hb⟩
     rw [hc.int_inv,h0]
     exact ⟨rfl,hb⟩
    ·rintro e w' ⟨rfl,hb⟩
     exact ⟨⟨_,rfl,fun C'=>.tup _ [.string ⟨⟨[]⟩⟩,.int .i64 0] rfl (VRs.cons (.str _) (.cons (.int _ _) (.nil _))).at_⟩,hb⟩
  ·refine APure.kitA Zbc (fun σ x hx=>?_) fun C hC cargs hv=>?_
   ·simp only [List.mem_singleton] at hx
    subst hx
    exact Zbs 0 σ f
   ·obtain ⟨c,cs,rfl,h1,h2⟩:=hv.inv
    obtain rfl:=h2.of_nil
    have hck:=(Vam f hf).callsC Wbp hC hv
    obtain ⟨A,cap,rfl,hcap,hrow⟩:=h1.pl_inv
    rw [List.length_map] at hcap hck
    rcases hrow with hrow | ⟨b,o,rfl,hrow⟩
    ·simp at hrow;exact absurd hrow hn
    ·have hck2:Calls Tryz.prog 112 #[.slice (some ⟨b,o,none⟩) f.length cap] C.w fun e w'=>e=.returned (.int .i64 0)∧Below C.w.heap.size C.w w':=by
      refine hck.mono ?_
      rintro e w' ⟨⟨c,C',rfl,hc⟩,hb⟩
      rw [hc.int_inv,h0]
      exact ⟨rfl,hb⟩
     have:=Ydb f hf h0 C hC cap b o hrow hcap hlen hck2
     rw [List.length_map]
     refine this.mono ?_
     rintro e w' ⟨rfl,hb⟩
     exact ⟨⟨_,rfl,fun C'=>.tup _ [.string ⟨⟨Oyez.print f⟩⟩,.int .i64 0] rfl (VRs.cons (.str _) (.cons (.int _ _) (.nil _))).at_⟩,hb⟩
 ·unfold Yag
  rw [if_neg h0]
  intro σ
  refine Yb Tryz.func39 rfl Zbc ?_
  simp [Tryz.ntmps39]
  refine (Vam f hf).use ?_
  simp [h0]
end Ab
namespace Ab
open Go Go.RowKit Go.Proofs Go.ChangeShapes Go.WideShapes Go.ChangeAt
theorem Wba {P:Program} {W:World} {ps:List MemPlace} {x:String × DataW Unit} {rest:List (String × DataW Unit)} (h:DataW.LaidVars P W (x::rest) ps) {g:Nat} {t:TypeId} (hg:P.globalNamed x.1=some g) (ht:(P.globals[g]?).map (·.type)=some t) :
  (∃ cs fuel p,W.var? P x.1=some cs∧DataW.trod (fun _=>()) P W 0 (fun _=>true) false fuel t cs.toList=some (x.2,p))∧∃ q,DataW.LaidVars P W rest q:=by
 obtain ⟨g',t',cs,fuel,p,q,hg',ht',hvar,hd,h2,_⟩:=h
 obtain rfl:=Option.some.inj (hg.symm.trans hg')
 obtain rfl:=Option.some.inj (ht.symm.trans ht')
 exact ⟨⟨cs,fuel,p,hvar,hd⟩,q,h2⟩
theorem Xb9 {P:Program} {W:World} {ps:List MemPlace} {x:String × DataW Unit} {rest:List (String × DataW Unit)} (h:DataW.LaidVars P W (x::rest) ps):∃ q,DataW.LaidVars P W rest q:=by
 obtain ⟨g',t',cs,fuel,p,q,hg',ht',hvar,hd,h2,_⟩:=h
 exact ⟨q,h2⟩
theorem Ubq {P:Program} {W:World} {t:TypeId} {ms:Array (String × TypeId)} {s nm:String} {d:DataW Unit} {fuel:Nat} {p:List MemPlace} {cs:Array Value} (hi:P.underlying t=some (.interface ms)) (hv:W.var? P s=some cs)
  (hd:DataW.trod (fun _=>()) P W 0 (fun _=>true) false fuel t cs.toList=some (.iface nm d,p)):∃ (tp:TypeId) (q:Value),W.var? P s=some #[.iface tp q]:=by
 obtain ⟨_,u,v,he,_⟩:=iface_of_trod hi hd
 refine ⟨u,v,?_⟩
 rw [hv,← Array.toList_inj.1 (show cs.toList=#[Value.iface u v].toList from he)]
theorem Xda {W:World} {ps:List MemPlace} {x y:String × DataW Unit} {n1 n2:String} {d1 d2:DataW Unit} {rest:List (String × DataW Unit)}
  (h:DataW.LaidVars Tryz.prog W (x::y::("internal/strconv.uint64pow10",Lib.tabData .u64 Lib.pow10Tab)::("strconv.ErrRange",.iface n1 d1)::("strconv.ErrSyntax",.iface n2 d2)::rest) ps):GoodW W:=by
 obtain ⟨_,h⟩:=Xb9 h
 obtain ⟨_,h⟩:=Xb9 h
 obtain ⟨⟨cs,f,p,hv,hd⟩,_,h⟩:=Wba (g:=2) (t:=403) h (by kernel_rfl) (by kernel_rfl)
 obtain ⟨⟨cs2,f2,p2,hv2,hd2⟩,_,h⟩:=Wba (g:=1) (t:=104) h (by kernel_rfl) (by kernel_rfl)
 obtain ⟨⟨cs3,f3,p3,hv3,hd3⟩,_,h⟩:=Wba (g:=0) (t:=104) h (by kernel_rfl) (by kernel_rfl)
 refine ⟨?_,Ubq (ms:=_) Tryz.underlying104 hv3 hd3,Ubq (ms:=_) Tryz.underlying104 hv2 hd2⟩
 unfold Lib.TabIs
 rw [hv,← Lib.cells_of_tab Tryz.underlying403 Tryz.underlying308 (by kernel_rfl) (by kernel_rfl) hd]
theorem APure.law {f:FuncId} {args:List AV} {b:Bool} (hen:Enters Tryz.prog f) (h:APure Tryz.prog f args (.bool b)) {W:World} (hW:GoodW W) {cargs:List Value} (hv:∀ C:Ctx,C.w=W→(∀ b,b<W.heap.size→C.pers b)→VRs C args cargs) :
  Calls Tryz.prog f cargs.toArray W fun e w'=>e=.returned (.bool b)∧Below W.heap.size W w':=by
 have hC:All ⟨W,[],fun b=>b<W.heap.size,W⟩:=⟨⟨rfl,hW,Below.refl _ _,fun b hb=>hb,fun b hb=>hb,fun r b o h=>by simp at h,fun r r' b o o' h=>by simp at h⟩,rfl,fun b hb=>hb⟩
 refine (h.callsC hen hC (hv _ rfl fun _ h=>h)).mono ?_
 rintro e w' ⟨⟨c,C',rfl,hc⟩,hb⟩
 rw [hc.bool_inv]
 exact ⟨rfl,hb⟩
end Ab
namespace Ab
open Go Go.RowKit Go.Proofs
attribute [local irreducible] aws awp aw1 Og Om Oc Oa Ogd Ov Ot awd Zb awh Xb Ogh Ohd awl Ogl Ohl awv Ogv Ohv Wb Vb QFn Ub QRo QBe ACode AYield
def Wn (l:List UInt8):List AV:=l.map fun b=>AV.int .u8 b.toNat
def Xd (l:List UInt8) (a:Nat) (c:Int):AObj:=.cells [.pl 1 (Wn l),.int .i64 a,.int .u32 c]
theorem Xd7 (x:Int):0≤IntKind.u32.wrap x∧IntKind.u32.wrap x<2^32:=by
 have:IntKind.u32.wrap x=x % 4294967296:=by
  simp [IntKind.wrap,IntKind.bits,IntKind.signed]
 rw [this]
 omega
theorem Xw (x:Int):0≤IntKind.i64.wrap (IntKind.u32.wrap x)∧IntKind.i64.wrap (IntKind.u32.wrap x)<4294967296:=by
 have:=Xd7 x
 rw [w64 (by omega) (by omega)]
 omega
set_option maxHeartbeats 2000000 in
theorem Ufp (σ:Za) (d:Nat) (l:List UInt8) (a:Nat) (c:Int) (h:σ[d]? = some (Xd l a c)) (ha:a≤l.length) (hl:l.length≤9223372036854775807) :
  ACalls Tryz.prog 131 [.ptr d 0] σ (fun v σ'=>∃ (n:Int) (a':Nat) (c':Int),v=.int .i64 n∧0≤n∧n<2^32∧a'≤l.length∧σ'=σ.set d (Xd l a' c')):=by
 have hd:=(Qzs.1 h).1
 have hs:∀ X:AObj,(σ.set d X)[d]? = some X:=fun X=>by simp [hd]
 unfold Xd at h
 refine Yb Tryz.func131 rfl (Va Tryz.func131 (by decide) rfl) ?_
 simp [Tryz.ntmps131]
 refine Zj mixed (by kernel_rfl) ?_
 by_cases he:a=l.length
 ·subst he
  by_cases h0:l.length=0
  ·have h0':(l.length:Int)=0:=by omega
   obtain rfl:=List.eq_nil_of_length_eq_zero h0
   simp [h,hs,Wn]
   exact ⟨(Xw _).1,(Xw _).2,_,rfl⟩
  ·have h0':(0:Int)<(l.length:Int):=by omega
   have h0'':0<l.length:=by omega
   simp [h,hs,Wn,h0',h0'']
   refine Zj mixed (by kernel_rfl) ?_
   simp [h,hs,Wn,h0',h0'']
   exact ⟨(Xw _).1,(Xw _).2,1,by omega,_,by rw [w64 (by omega) (by omega)];rfl⟩
 ·have he':¬ (a:Int)=(l.length:Int):=by omega
  have h0':(0:Int)<(l.length:Int):=by omega
  have hlt:a<l.length:=by omega
  have hlt':(a:Int)<(l.length:Int):=by omega
  have hx:=w64 (n:=(a:Int)+1) (by omega) (by omega)
  have h0n:0<l.length:=by omega
  simp [h,hs,Wn,he,he',h0',h0n,hlt]
  refine Zj mixed (by kernel_rfl) ?_
  simp [h,hs,Wn,he,he',h0',h0n,hlt,hlt',hx]
  exact ⟨(Xw _).1,(Xw _).2,a+1,by omega,_,rfl⟩
end Ab
namespace Ab
open Go Go.RowKit Go.Proofs Go.ChangeShapes Go.WideShapes Go.ChangeAt
theorem laidOut:laidOutB Tryz.prog=true:=by kernel_rfl
set_option maxRecDepth 100000 in
theorem open_bytes {H:Type} {enc:TypeId × Value→H} {W:World} {base:Nat} {sp:Nat→Bool} {held:Bool} {v:Value} {d:DataW H} {p:List MemPlace} (hval:Value.okWide Tryz.prog W .any base 22 v)
  (hd:DataW.Trod enc Tryz.prog W 0 sp held 22 v d p):∃ l:List UInt8,l.length≤9223372036854775807∧∀ C:Ctx,C.w=W→(∀ b,b<W.heap.size→C.pers b)→VR C (.pl 1 (Wn l)) v:=by
 obtain ⟨a0,len0,cap0,rfl⟩:=okWide_slice Tryz.underlying22 hval
 obtain ⟨fuel,hf⟩:=hd
 rcases open_ints Tryz.underlying22 Tryz.underlying5 (by kernel_rfl) hf with ⟨h1,_⟩ | ⟨a,len,cap,zs,h1,hb,hl,hm,hz,_,hcell,hwf⟩
 ·simp [Value.cells] at h1
  obtain ⟨rfl,rfl,rfl⟩:=h1
  exact ⟨[],by simp,fun C _ _=>.pl0 1 none 0 fun _=>rfl⟩
 ·simp [Value.cells] at h1
  obtain ⟨rfl,rfl,rfl⟩:=h1
  have hzl:len0≤zs.length:=by rw [hz];split<;>omega
  have hml:len0≤9223372036854775807:=by unfold maxLen at hm;omega
  have hby:∀ n∈zs,0≤n∧n≤255:=fun n hn=>by
   have:=hwf n hn
   simp [Lit.wf,IntKind.min,IntKind.max,IntKind.bits,IntKind.signed] at this
   omega
  have hget:∀ (i:Nat) (x:AV),(Wn ((zs.take len0).map fun n=>UInt8.ofNat n.toNat))[i]? = some x→x=.int .u8 (zs.getD i 0)∧i<len0:=by
   intro i x hx
   unfold Wn at hx
   rw [Qzp,Qzp] at hx
   rcases Qzn i len0 with hi | hi
   ·rw [List.getElem?_take_of_lt hi,Qze (by omega)] at hx
    simp at hx
    have hmem:=hby _ (List.getElem_mem (show i<zs.length by omega))
    refine ⟨?_,hi⟩
    rw [← hx,List.getD_eq_getElem?_getD,Qze (by omega)]
    simp
    omega
   ·rw [List.getElem?_eq_none (by simp;omega)] at hx
    simp at hx
  refine ⟨(zs.take len0).map fun n=>UInt8.ofNat n.toNat,by simp;omega,fun C hC hp=>?_⟩
  have hlen:(Wn ((zs.take len0).map fun n=>UInt8.ofNat n.toNat)).length=len0:=by unfold Wn;simp;omega
  rcases Nat.eq_zero_or_pos len0 with h0 | h0
  ·have e:Wn ((zs.take len0).map fun n=>UInt8.ofNat n.toNat)=[]:=List.eq_nil_of_length_eq_zero (by omega)
   rw [e]
   subst h0
   exact .pl0 1 (some a) cap0 fun h=>by cases h
  ·obtain ⟨b,o,spot⟩:=a
   have h2:=hcell 0 (by omega)
   have hsp:spot=none:=by
    cases spot with
    | none=>rfl
    | some s=>simp [World.cell?,Addr.add] at h2;split at h2<;>simp at h2
   subst hsp
   have hbl:b<W.heap.size:=by
    rcases Qzn b W.heap.size with h | h
    ·exact h
    ·simp [World.cell?,Addr.add,Array.getElem?_eq_none h] at h2
   subst hC
   refine .pl 1 _ b o len0 cap0 (fun i j=>.int .u8 (zs.getD i 0)) (hp b hbl) hlen.symm hl (fun i x hx=>?_) (fun i x hx j y hy=>?_)
   ·obtain ⟨rfl,hi⟩:=hget i x hx
    refine ⟨rfl,fun j y hy=>?_⟩
    match j,hy with
    | 0,hy =>
     simp [AV.cells] at hy;subst hy
     refine ⟨rfl,?_⟩
     have h3:=hcell i (by omega)
     rw [Xp] at h3
     simpa using h3
    | j+1,hy=>simp [AV.cells] at hy
   ·obtain ⟨rfl,hi⟩:=hget i x hx
    match j,hy with
    | 0,hy=>simp [AV.cells] at hy;subst hy;exact .int _ _
    | j+1,hy=>simp [AV.cells] at hy
theorem Wbr {C:Ctx} {x:AV} {c:Value} {xs:List AV} {cs:List Value} (h:VR C x c) (hs:VRs C xs cs):VRs C (x::xs) (c::cs):=.cons h hs
end Ab
namespace Ab
open Go Go.RowKit Go.Proofs
attribute [local irreducible] aws awp aw1 Og Om Oc Oa Ogd Ov Ot awd Zb awh Xb Ogh Ohd awl Ogl Ohl awv Ogv Ohv Wb Vb QFn Ub QRo QBe ACode AYield
def Vf7 (l:List UInt8) (d:Nat) (σ:Za) (m:Int) (v:AV) (σ':Za):Prop:=∃ (n:Int) (a':Nat) (c':Int),v=.int .i64 n∧0≤n∧n≤m∧a'≤l.length∧σ'=σ.set d (Xd l a' c')
theorem Wcd (σ:Za) (d:Nat) (l:List UInt8) (a:Nat) (c m:Int) (h:σ[d]? = some (Xd l a c)) (ha:a≤l.length) (hl:l.length≤9223372036854775807) (hm:0≤m) (hm2:m≤2^40) :
  ACalls Tryz.prog 50 [.ptr d 0,.int .i64 m] σ (Vf7 l d σ m):=by
 refine Yb Tryz.func50 rfl (Va Tryz.func50 (by decide) rfl) ?_
 simp [Tryz.ntmps50]
 refine StA.of ((Ufp σ d l a c h ha hl).mono ?_)
 rintro v σ' ⟨n,a',c',rfl,h0,h1,ha',rfl⟩
 have hx:=w64 (n:=m+1) (by omega) (by omega)
 have hne:¬ m+1=0:=by omega
 have hif:(if 1<m+1 then m+1 else 1)=m+1:=by split<;>omega
 simp [hx,hne]
 rw [hif,if_neg hne]
 simp only [Option.map_some,Zn]
 have h3:=Int.tmod_lt_of_pos n (show 0<m+1 by omega)
 exact ⟨_,a',c',rfl,Int.tmod_nonneg _ h0,by omega,ha',rfl⟩
def Ycv:List (List UInt8):=[[116,105,100,101],[115,116,111,114,109],[113,117,97,121],[112,117,114,115,101,55],[98,101,108,108],[97],[48],[108,111,97,102,52]]
theorem Yb1 {σ:Za} {d:Nat} {l:List UInt8} {a:Nat} {c:Int} {n:Nat} {S:Za} (hd:d<σ.length):∀ (r:Nat) (o:AObj),(σ.set d (Xd l a c))[r]? = some o→σ[r]? = some o∨∃ cs,o=.cells cs∧∀ y∈cs,Fz n S y y:=by
 intro r o h
 rw [List.getElem?_set] at h
 split at h
 ·obtain rfl:=Option.some.inj h
  refine .inr ⟨_,rfl,fun y hy=>?_⟩
  simp at hy
  rcases hy with rfl | rfl | rfl
  ·refine .pl 1 _ fun i x hx j y hy=>?_
   unfold Wn at hx
   rw [Qzp,Qzm] at hx
   obtain ⟨b,_,rfl⟩:=hx
   match j,hy with
   | 0,hy=>simp [AV.cells] at hy;subst hy;exact .int _ _
   | j+1,hy=>simp [AV.cells] at hy
  ·exact .int _ _
  ·exact .int _ _
 ·exact .inl h
theorem Acc.set {σ g:Za} {k:Nat} {v:AV} {l:List AV} {o:Option Nat} (h:Acc σ g k v l o) (d:Nat) (X:AObj):Acc (σ.set d X) g k v l o:=⟨h.len,by
 have:=h.val
 cases o with
 | none=>exact this
 | some j=>rw [List.length_set];exact this⟩
theorem set_set {σ g:Za} {d:Nat} (hd:d<σ.length) (X Y:AObj):(σ.set d X++g).set d Y=σ.set d Y++g:=by
 rw [List.set_append_left _ _ (by simpa using hd),List.set_set]
theorem Zbd {σ g:Za} {d:Nat} (hd:d<σ.length) (X:AObj):(σ.set d X++g)[d]? = some X:=by
 rw [Qzl (by simpa using hd)];simp [hd]
end Ab

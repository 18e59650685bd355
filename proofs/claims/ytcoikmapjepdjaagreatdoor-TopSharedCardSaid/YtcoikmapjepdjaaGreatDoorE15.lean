/-
  Texts packed for a claim.
-/
import Derived.Test.YtcoikmapjepdjaaGreatDoorE00
import Derived.WalkKit
import Derived.BigCall
import Derived.BigGuard
import Derived.Test.YtcoikmapjepdjaaGreatDoorCards
import Derived.Test.YtcoikmapjepdjaaGreatDoorTie
import Derived.ProofKit
import Derived.OpenShut
import Derived.Lay
import Derived.LaidLaws
import Derived.SevenTiedAt
import Derived.Stop.Joined
import Derived.Deep.DeepHandedRow
import Derived.Lib.LaidTab
import Derived.ChangeSlices
import Derived.Carry
import Derived.Test.YtcoikmapjepdjaaGreatDoorE09
import Derived.Test.YtcoikmapjepdjaaGreatDoorE14
import Derived.Test.YtcoikmapjepdjaaGreatDoorE13
import Derived.Test.YtcoikmapjepdjaaGreatDoorE12
set_option linter.all false
namespace Ab
open Go Go.RowKit Go.Proofs
variable {P:Program}
structure All (C:Ctx):Prop where
 inv:Inv C []
 blk:C.blk=[]
 pers:∀ b,b<C.w.heap.size→C.pers b
theorem APure.callsC {f:FuncId} {args:List AV} {v:AV} (hen:Enters P f) (h:APure P f args v) {C:Ctx} (hC:All C) {cargs:List Value} (hv:VRs C args cargs) :
  Calls P f cargs.toArray C.w fun e w'=>(∃ c C',e=.returned c∧VR C' v c)∧Below C.w.heap.size C.w w':=by
 rcases h [] with h | h
 ·refine (callsIn_wide.1 (h.2 C cargs hC.inv hv)).mono ?_
  rintro e w' ⟨c,C',av,σ',rfl,rfl,hE,hI',hv',rfl,rfl⟩
  refine ⟨⟨c,C',rfl,hv'⟩,?_⟩
  have hb:=hC.inv.base
  have hb':=hI'.base
  rw [hE.w0] at hb'
  exact ⟨hb'.os.trans hb.os.symm,hb'.tape.trans hb.tape.symm,hb'.output.trans hb.output.symm,hE.size,fun k hk=>hE.keep k (hC.pers k hk)⟩
 ·obtain ⟨c,C',av,σ',hr,_⟩:=h C cargs hC.inv hv
  rw [hen] at hr
  cases hr
def Ctx.to (C:Ctx) (w:World):Ctx:={ C with pers:=fun b=>b<w.heap.size,w }
theorem All.to {C:Ctx} (hC:All C) {w:World} (hb:Below C.w.heap.size C.w w):All (C.to w)∧Ext C (C.to w):=by
 have hE:=Ext.below hC.inv.plt hb (fun h=>False.elim h)
 have hE2:Ext (C.at_ w) (C.to w):=⟨rfl,⟨[],by simp [Ctx.at_,Ctx.to]⟩,fun b h=>Nat.lt_of_lt_of_le (hC.inv.plt b h) hb.size,fun _ _=>rfl,fun _ _ h=>h,Nat.le_refl _,fun _=>Nat.le_refl _⟩
 refine ⟨⟨⟨by simpa [Ctx.to] using hC.inv.len,hC.inv.glob,hC.inv.base.trans (hb.mono hC.inv.base.size),fun b h=>Nat.lt_of_lt_of_le (hC.inv.plt b (hC.inv.basep b h)) hb.size,fun b h=>h,fun r b o _ h=>by simp at h,fun r r' b o o' _ _ h=>by simp at h⟩,hC.blk,fun b h=>h⟩,hE.trans hE2⟩
theorem APure.kitA {f:FuncId} {args:List AV} {v:AV} (hen:Enters P f) (hfz:∀ (σ:Za) (x:AV),x∈args→Fz 0 σ x x)
  (h:∀ (C:Ctx),All C→∀ (cargs:List Value),VRs C args cargs→Calls P f cargs.toArray C.w fun e w'=>(∃ c,e=.returned c∧∀ C',VR C' v c)∧Below C.w.heap.size C.w w'):APure P f args v:=by
 intro σ
 refine .inl ⟨hen,fun C cargs hI hv=>callsIn_wide.2 ?_⟩
 have hI0:=hI.base0
 have hA:All ⟨C.w0,[],fun b=>b<C.w.heap.size,C.w⟩:=⟨⟨rfl,hI.glob,hI.base,fun b hb=>Nat.lt_of_lt_of_le hb hI.base.size,fun b hb=>hb,fun r b o h=>by simp at h,fun r r' b o o' h=>by simp at h⟩,rfl,fun b hb=>hb⟩
 have hE:Ext (C.frz 0 σ) ⟨C.w0,[],fun b=>b<C.w.heap.size,C.w⟩:=⟨rfl,⟨[],by simp [Ctx.frz]⟩,fun b hb=>hI0.plt b hb,fun _ _=>rfl,fun _ _ h=>h,Nat.le_refl _,fun _=>Nat.le_refl _⟩
 have hv1:VRs ⟨C.w0,[],fun b=>b<C.w.heap.size,C.w⟩ args cargs:=⟨hv.len,fun i x c hx hc=>((hv.at_ i x c hx hc).frz hI (hfz σ x (Qzg hx))).ext hE⟩
 refine (h _ hA cargs hv1).mono ?_
 rintro e w' ⟨⟨c,rfl,hc⟩,hb⟩
 have hE2:=Ext.below hI.plt hb (fun h=>False.elim h)
 exact ⟨c,C.at_ w',v,σ,rfl,rfl,hE2,hI.below hb,hc _,rfl,rfl⟩
end Ab
namespace Ab
open Go Go.RowKit Go.Proofs
theorem Uo {p:Prop} (h:p):Hid p:=h
theorem Yca:Enters Tryz.prog 112:=Zb Tryz.func112 (by decide) rfl
theorem Vg4:Enters Tryz.prog 114:=Zb Tryz.func114 (by decide) rfl
theorem Ybo:Enters Tryz.prog 39:=Zb Tryz.func39 (by decide) rfl
theorem Xby {T e:TypeId} {B b:Nat} {p:Value} {bs:List Value} {w w':World} (h:Lib.BuilderAt T e B b p bs w) (hb:Below w.heap.size w w'):Lib.BuilderAt T e B b p bs w':=by
 obtain ⟨h1,v,h2,h3,h4⟩:=h
 have keep:∀ (g:Nat) (x:Obj),w.heap[g]? = some x→w'.heap[g]? = some x:=fun g x hg=>(hb.block g (Array.getElem?_eq_some_iff.1 hg).1).trans hg
 refine ⟨h1,v,keep _ _ h2,⟨h3.1,?_⟩,h4⟩
 rcases h3.2 with h | ⟨g,cap,cur,hv,hB,hg,r⟩
 ·exact .inl h
 ·exact .inr ⟨g,cap,cur,hv,hB,keep _ _ hg,r⟩
theorem Ycv {T e:TypeId} {B b:Nat} {bs:List Value} {w w':World} (h:Lib.IsBuilder T e B b bs w) (hb:Below w.heap.size w w'):Lib.IsBuilder T e B b bs w':=h.imp (Xby · hb) (Xby · hb)
theorem Yg5 (f:List Oyez.Rec) (k:Nat) (h:k<f.length):Oyez.print (f.take (k+1))=Oyez.print (f.take k)++(Oyez.line f[k].kind f[k].number f[k].words++[10]):=by
 have e:f.take (k+1)=f.take k++[f[k]]:=by rw [List.take_add_one,Qze h];rfl
 rw [e]
 simp only [Oyez.print,List.flatMap_append,List.flatMap_cons,List.flatMap_nil,List.append_nil]
theorem Xe3 (f:List Oyez.Rec) (k:Nat):(Oyez.print (f.take k)).length≤(Oyez.print f).length:=by
 conv=>rhs;rw [← List.take_append_drop k f]
 simp only [Oyez.print,List.flatMap_append,List.length_append]
 omega
set_option maxHeartbeats 4000000 in
set_option maxRecDepth 100000 in
theorem Vfv (f:List Oyez.Rec) (hf:Few f) (h0:Oyez.check f=0) (C:Ctx) (hC:All C) (cap b o:Nat) (hrow:Row C 3 b o (f.map Zm)) (hcap:f.length≤cap) (hlen:(Oyez.print f).length≤2^40)
  (hck:Calls Tryz.prog 112 #[.slice (some ⟨b,o,none⟩) f.length cap] C.w fun e w'=>e=.returned (.int .i64 0)∧Below C.w.heap.size C.w w') :
  Calls Tryz.prog 39 #[.slice (some ⟨b,o,none⟩) f.length cap] C.w fun e w'=>e=.returned (.tuple #[.string ⟨(Oyez.print f).toArray⟩,.int .i64 0])∧Below C.w.heap.size C.w w':=by
 have hright:=Oyez.check_zero h0
 have h40:f.length≤40:=hright.len
 have Hline:Hid (∀ (r:Oyez.Rec) (v:Value) (W:World),r∈f→Below C.w.heap.size C.w W→VR C (Yo r.words) v→Calls Tryz.prog 114 #[.agg #[.int .i64 r.kind,.int .i64 r.number,v]] W fun e w'=>e=.returned (.string ⟨⟨Oyez.line r.kind r.number r.words⟩⟩)∧Below W.heap.size W w'):=by
  intro r v W hr hW hv
  obtain ⟨hA,hE⟩:=hC.to hW
  obtain ⟨p1,p2,p3,p4⟩:=Uca (Oyez.recErr_place (hright.recs r hr)).1
  obtain ⟨q1,q2⟩:=hf r hr
  have hvr:VRs (C.to W) [Zm r] [.agg #[.int .i64 r.kind,.int .i64 r.number,v]]:=.cons (.agg _ [.int .i64 r.kind,.int .i64 r.number,v] rfl (VRs.cons (.int _ _) (.cons (.int _ _) (.cons (hv.ext hE) (.nil _)))).at_) (.nil _)
  refine ((Xbr r p1 p2 p3 (by omega) q1 q2).callsC Vg4 hA hvr).mono ?_
  rintro e w' ⟨⟨c,C',rfl,hc⟩,hb⟩
  rw [hc.str_inv]
  exact ⟨rfl,hb⟩
 clear hright
 go_enter Tryz.func39,Tryz.ntmps39
 go_wp2_with fail
 refine hck.mono ?_
 rintro e w1 ⟨rfl,hb1⟩
 have Hb1:=Uo hb1
 clear hb1 hck
 go_wp2
 go_loopw [15] (fun i wr=>∃ k:Nat,k≤f.length∧i=.int .i64 k∧Hid (Lib.IsBuilder 207 5 w1.heap.size w1.heap.size (Lib.byteCells (Oyez.print (f.take k))) wr)∧Hid (Below C.w.heap.size C.w wr)∧Hid (w1.heap.size≤wr.heap.size)) (fun i _=>f.length - (intOf i).toNat)
 case atStart =>
  refine ⟨0,Nat.zero_le _,rfl,Uo (Lib.fresh_isBuilder 207 5 w1),Uo (Hb1.out.trans (((Below.refl _ _).alloc (Nat.le_refl _) _).mono Hb1.out.size)),Uo (by simp)⟩
 case round =>
  obtain ⟨k,hk,rfl,HB,HW,HS⟩:=hrel
  by_cases hlt:k<f.length
  ·obtain ⟨hl3,hcells⟩:=hrow.2 k (Zm f[k]) (by simp [hlt])
   obtain ⟨_,v0,hc0,hv0⟩:=hcells 0 (.int .i64 f[k].kind) rfl
   obtain ⟨_,v1,hc1,hv1⟩:=hcells 1 (.int .i64 f[k].number) rfl
   obtain ⟨_,v2,hc2,hv2⟩:=hcells 2 (Yo f[k].words) rfl
   have hbk:b<C.w.heap.size:=hC.inv.plt b hrow.1
   obtain rfl:=hv0.int_inv
   obtain rfl:=hv1.int_inv
   have c0:wr.cell? ⟨b,o+k*3,none⟩=some (.int .i64 f[k].kind):=by rw [HW.out.cell (p:=⟨b,o+k*3,none⟩) hbk];exact hc0
   have c1:wr.cell? ⟨b,o+k*3+1,none⟩=some (.int .i64 f[k].number):=by rw [HW.out.cell (p:=⟨b,o+k*3+1,none⟩) hbk];exact hc1
   have c2:wr.cell? ⟨b,o+k*3+2,none⟩=some v2:=by rw [HW.out.cell (p:=⟨b,o+k*3+2,none⟩) hbk];exact hc2
   clear hc0 hc1 hc2 hcells
   obtain ⟨A2,cap2,e2,_,_⟩:=hv2.pl_inv
   have Hv2:=Uo (e2▸hv2:VR C (Yo f[k].words) (.slice A2 (strs f[k].words).length cap2))
   subst e2
   clear hv2
   go_wp2_with fail
   have hwa:Below wr.heap.size wr (wr.alloc (.cells #[.int .i64 f[k].kind,.int .i64 f[k].number,.slice A2 f[k].words.length cap2] 88)):=(Below.refl _ _).alloc (Nat.le_refl _) _
   have hcw:C.w.heap.size≤wr.heap.size:=HW.out.size
   have Hv3:VR C (Yo f[k].words) (.slice A2 f[k].words.length cap2):=by have:=Hv2.out;rwa [Xe9] at this
   refine (Hline.out f[k] _ _ (List.getElem_mem hlt) (HW.out.trans (hwa.mono hcw)) Hv3).mono ?_
   rintro e w3 ⟨rfl,hb3⟩
   have hBw:Below wr.heap.size wr w3:=hwa.trans (hb3.mono hwa.size)
   have HB3:=Uo (Ycv HB.out hBw)
   have HW3:=Uo (HW.out.trans (hBw.mono hcw))
   have HS3:=Uo (Nat.le_trans HS.out hBw.size)
   have hpl:=Yg5 f k hlt
   have hple:=Xe3 f (k+1)
   rw [hpl] at hple
   simp only [List.length_append,List.length_cons,List.length_nil] at hple
   have Hpl:=Uo hpl
   have Hlen:=Uo (Nat.le_trans hple hlen)
   have hadd:¬ 9223372036854775807<(Oyez.line f[k].kind f[k].number f[k].words).length+1:=by omega
   clear hwa hcw Hv3 Hv2 hb3 hBw hpl hple HB HW HS c0 c1 c2
   go_wp2_with fail
   refine (Any.Builder_WriteString { Tryz.lays156 with } Tryz.Builder_Extra_156 w1.heap.size w1.heap.size _ _ w3 HB3.out ?_ HS3.out).mono ?_
   ·have:=Hlen.out
    rw [Lib.byteCells_length]
    show _+(Oyez.line f[k].kind f[k].number f[k].words++[10]).length≤_
    rw [List.length_append,List.length_singleton]
    omega
   rintro e w4 ⟨rfl,h4,hb4⟩
   have hcat:Lib.byteCells (Oyez.print (f.take k))++Lib.strCells ((⟨⟨Oyez.line f[k].kind f[k].number f[k].words⟩⟩:ByteArray)++⟨#[10]⟩)=Lib.byteCells (Oyez.print (f.take (k+1))):=by
    rw [Hpl.out,Lib.byteCells_append,Lib.strCells_eq]
    rfl
   rw [hcat] at h4
   have H4:=Uo (Or.inr h4:Lib.IsBuilder 207 5 w1.heap.size w1.heap.size (Lib.byteCells (Oyez.print (f.take (k+1)))) w4)
   have Hw4:=Uo (HW3.out.trans (hb4.mono Hb1.out.size))
   have Hs4:=Uo (Nat.le_trans HS3.out hb4.size)
   clear h4 hb4 hcat HB3 HW3 HS3
   go_wp2
   exact ⟨⟨k+1,by omega,by go_num,H4,Hw4,Hs4⟩,by simp [intOf];omega⟩
  ·have hke:k=f.length:=by omega
   subst hke
   have hB:=HB.out
   rw [List.take_length] at hB
   go_wp2_with fail
   refine (Any.Builder_String_any Tryz.lays169 Tryz.Builder_Extra_169 w1.heap.size w1.heap.size _ wr hB HS.out).mono ?_
   rintro e w5 ⟨rfl,hb5⟩
   have Hb5:=Uo (HW.out.trans (hb5.mono Hb1.out.size))
   clear hb5 hB
   go_wp2
   go_ret2
   exact ⟨rfl,Hb5.out⟩
set_option maxHeartbeats 4000000 in
set_option maxRecDepth 100000 in
theorem Web (W:World) (A:Option Addr) (cap:Nat)
  (hck:Calls Tryz.prog 112 #[.slice A 0 cap] W fun e w'=>e=.returned (.int .i64 0)∧Below W.heap.size W w') :
  Calls Tryz.prog 39 #[.slice A 0 cap] W fun e w'=>e=.returned (.tuple #[.string ⟨#[]⟩,.int .i64 0])∧Below W.heap.size W w':=by
 go_enter Tryz.func39,Tryz.ntmps39
 go_wp2_with fail
 refine hck.mono ?_
 rintro e w1 ⟨rfl,hb1⟩
 have Hb1:=Uo hb1
 clear hb1 hck
 go_wp2
 go_loopw [15] (fun i wr=>i=.int .i64 0∧Hid (Lib.IsBuilder 207 5 w1.heap.size w1.heap.size (Lib.byteCells []) wr)∧Hid (Below W.heap.size W wr)∧Hid (w1.heap.size≤wr.heap.size)) (fun i _=>0)
 case atStart =>
  refine ⟨rfl,Uo (Lib.fresh_isBuilder 207 5 w1),Uo (Hb1.out.trans (((Below.refl _ _).alloc (Nat.le_refl _) _).mono Hb1.out.size)),Uo (by simp)⟩
 case round =>
  obtain ⟨rfl,HB,HW,HS⟩:=hrel
  have hB:=HB.out
  go_wp2_with fail
  refine (Any.Builder_String_any Tryz.lays169 Tryz.Builder_Extra_169 w1.heap.size w1.heap.size _ wr hB HS.out).mono ?_
  rintro e w5 ⟨rfl,hb5⟩
  have Hb5:=Uo (HW.out.trans (hb5.mono Hb1.out.size))
  clear hb5 hB
  go_wp2
  go_ret2
  exact ⟨rfl,Hb5.out⟩
end Ab
namespace Ab
open Go Go.RowKit Go.Proofs
attribute [local irreducible] aws awp aw1 Og Om Oc Oa Ogd Ov Ot awd Ua awh Xb Ogh Ohd awl Ogl Ohl Wb Vb QFn Zc QRo QBe ACode AYield
theorem Yc1 {f:List Oyez.Rec} (h:∀ r∈f,Oyez.recErr r=0):(Oyez.print f).length≤65*f.length:=by
 induction f with
 | nil=>simp [Oyez.print]
 | cons r f ih =>
  have h1:=(Oyez.recErr_place (h r (by simp))).2
  have h2:=ih fun x hx=>h x (by simp [hx])
  have h3:(Oyez.line r.kind r.number r.words).length≤64:=by
   unfold Oyez.wordsErr at h1
   split at h1
   ·cases h1
   ·split at h1
    ·cases h1
    ·split at h1
     ·cases h1
     ·omega
  simp only [Oyez.print,List.flatMap_cons,List.length_append,List.length_cons,List.length_nil] at h2 ⊢
  omega
theorem Ug4 (n:Nat) (σ:Za) (ws:List (List UInt8)):Fz n σ (Yo ws) (Yo ws):=.pl 1 _ fun i x hx j y hy=>by
 obtain ⟨w,_,rfl⟩:∃ w,w∈ws∧AV.str w=x:=by simpa [strs] using Qzg hx
 cases j with
 | zero=>simp [AV.cells] at hy;subst hy;exact .str w
 | succ j=>simp [AV.cells] at hy
theorem Ucj (n:Nat) (σ:Za) (f:List Oyez.Rec):Fz n σ (Ys f) (Ys f):=.pl 3 _ fun i x hx j y hy=>by
 obtain ⟨r,_,rfl⟩:∃ r,r∈f∧Zm r=x:=by simpa using Qzg hx
 match j,hy with
 | 0,hy=>simp [AV.cells,Zm] at hy;subst hy;exact .int _ _
 | 1,hy=>simp [AV.cells,Zm] at hy;subst hy;exact .int _ _
 | 2,hy=>simp [AV.cells,Zm] at hy;subst hy;exact Ug4 n σ r.words
 | j+3,hy=>simp [AV.cells,Zm] at hy
def Wad (f:List Oyez.Rec):List UInt8 × Int:=if Oyez.check f=0 then (Oyez.print f,0) else ([],Oyez.check f)
theorem Vg5 (f:List Oyez.Rec) (hf:Few f):APure Tryz.prog 39 [Ys f] (.tup [.str (Wad f).1,.int .i64 (Wad f).2]):=by
 by_cases h0:Oyez.check f=0
 ·have hright:=Oyez.check_zero h0
  have hlen:(Oyez.print f).length≤2^40:=by
   have:=Yc1 hright.recs
   have:=hright.len
   omega
  unfold Wad
  rw [if_pos h0]
  by_cases hn:f=[]
  ·subst hn
   refine APure.kitA Ybo (fun σ x hx=>?_) fun C hC cargs hv=>?_
   ·simp only [List.mem_singleton] at hx
    subst hx
    exact Ucj 0 σ []
   ·obtain ⟨c,cs,rfl,h1,h2⟩:=hv.inv
    obtain rfl:=h2.of_nil
    have hck:=(Ybf [] hf).callsC Yca hC hv
    obtain ⟨A,cap,rfl,hcap,hrow⟩:=h1.pl_inv
    refine (Web C.w A cap (hck.mono ?_)).mono ?_
    ·rintro e w' ⟨⟨c,C',rfl,hc⟩,hb⟩
     rw [hc.int_inv,h0]
     exact ⟨rfl,hb⟩
    ·rintro e w' ⟨rfl,hb⟩
     exact ⟨⟨_,rfl,fun C'=>.tup _ [.string ⟨⟨[]⟩⟩,.int .i64 0] rfl (VRs.cons (.str _) (.cons (.int _ _) (.nil _))).at_⟩,hb⟩
  ·refine APure.kitA Ybo (fun σ x hx=>?_) fun C hC cargs hv=>?_
   ·simp only [List.mem_singleton] at hx
    subst hx
    exact Ucj 0 σ f
   ·obtain ⟨c,cs,rfl,h1,h2⟩:=hv.inv
    obtain rfl:=h2.of_nil
    have hck:=(Ybf f hf).callsC Yca hC hv
    obtain ⟨A,cap,rfl,hcap,hrow⟩:=h1.pl_inv
    rw [List.length_map] at hcap hck
    rcases hrow with hrow | ⟨b,o,rfl,hrow⟩
    ·simp at hrow;exact absurd hrow hn
    ·have hck2:Calls Tryz.prog 112 #[.slice (some ⟨b,o,none⟩) f.length cap] C.w fun e w'=>e=.returned (.int .i64 0)∧Below C.w.heap.size C.w w':=by
      refine hck.mono ?_
      rintro e w' ⟨⟨c,C',rfl,hc⟩,hb⟩
      rw [hc.int_inv,h0]
      exact ⟨rfl,hb⟩
     have:=Vfv f hf h0 C hC cap b o hrow hcap hlen hck2
     rw [List.length_map]
     refine this.mono ?_
     rintro e w' ⟨rfl,hb⟩
     exact ⟨⟨_,rfl,fun C'=>.tup _ [.string ⟨⟨Oyez.print f⟩⟩,.int .i64 0] rfl (VRs.cons (.str _) (.cons (.int _ _) (.nil _))).at_⟩,hb⟩
 ·unfold Wad
  rw [if_neg h0]
  intro σ
  refine Yb Tryz.func39 rfl Ybo ?_
  simp [Tryz.ntmps39]
  refine (Ybf f hf).use ?_
  simp [h0]
end Ab
namespace Ab
open Go Go.RowKit Go.Proofs Go.ChangeShapes Go.WideShapes Go.ChangeAt
theorem Wgw {P:Program} {W:World} {ps:List MemPlace} {x:String × DataW Unit} {rest:List (String × DataW Unit)} (h:DataW.LaidVars P W (x::rest) ps) {g:Nat} {t:TypeId} (hg:P.globalNamed x.1=some g) (ht:(P.globals[g]?).map (·.type)=some t) :
  (∃ cs fuel p,W.var? P x.1=some cs∧DataW.trod (fun _=>()) P W 0 (fun _=>true) false fuel t cs.toList=some (x.2,p))∧∃ q,DataW.LaidVars P W rest q:=by
 obtain ⟨g',t',cs,fuel,p,q,hg',ht',hvar,hd,h2,_⟩:=h
 obtain rfl:=Option.some.inj (hg.symm.trans hg')
 obtain rfl:=Option.some.inj (ht.symm.trans ht')
 exact ⟨⟨cs,fuel,p,hvar,hd⟩,q,h2⟩
theorem Ucg {P:Program} {W:World} {ps:List MemPlace} {x:String × DataW Unit} {rest:List (String × DataW Unit)} (h:DataW.LaidVars P W (x::rest) ps):∃ q,DataW.LaidVars P W rest q:=by
 obtain ⟨g',t',cs,fuel,p,q,hg',ht',hvar,hd,h2,_⟩:=h
 exact ⟨q,h2⟩
theorem Uh5 {W:World} {ps:List MemPlace} {x y:String × DataW Unit} {rest:List (String × DataW Unit)}
  (h:DataW.LaidVars Tryz.prog W (x::y::("internal/strconv.uint64pow10",Lib.tabData .u64 Lib.pow10Tab)::rest) ps):GoodW W:=by
 obtain ⟨_,h⟩:=Ucg h
 obtain ⟨_,h⟩:=Ucg h
 obtain ⟨⟨cs,f,p,hv,hd⟩,_,h⟩:=Wgw (g:=2) (t:=403) h (by kernel_rfl) (by kernel_rfl)
 refine ⟨?_⟩
 unfold Lib.TabIs
 rw [hv,← Lib.cells_of_tab Tryz.underlying403 Tryz.underlying308 (by kernel_rfl) (by kernel_rfl) hd]
theorem APure.law {f:FuncId} {args:List AV} {b:Bool} (hen:Enters Tryz.prog f) (h:APure Tryz.prog f args (.bool b)) {W:World} (hW:GoodW W) {cargs:List Value} (hv:∀ C:Ctx,C.w=W→(∀ b,b<W.heap.size→C.pers b)→VRs C args cargs) :
  Calls Tryz.prog f cargs.toArray W fun e w'=>e=.returned (.bool b)∧Below W.heap.size W w':=by
 have hC:All ⟨W,[],fun b=>b<W.heap.size,W⟩:=⟨⟨rfl,hW,Below.refl _ _,fun b hb=>hb,fun b hb=>hb,fun r b o h=>by simp at h,fun r r' b o o' h=>by simp at h⟩,rfl,fun b hb=>hb⟩
 refine (h.callsC hen hC (hv _ rfl fun _ h=>h)).mono ?_
 rintro e w' ⟨⟨c,C',rfl,hc⟩,hb⟩
 rw [hc.bool_inv]
 exact ⟨rfl,hb⟩
end Ab
namespace Ab
open Go Go.RowKit Go.Proofs Go.ChangeShapes Go.WideShapes Go.ChangeAt
theorem laidOut:laidOutB Tryz.prog=true:=by kernel_rfl
set_option maxRecDepth 100000 in
theorem open_bytes {H:Type} {enc:TypeId × Value→H} {W:World} {base:Nat} {sp:Nat→Bool} {held:Bool} {v:Value} {d:DataW H} {p:List MemPlace} (hval:Value.okWide Tryz.prog W .any base 22 v)
  (hd:DataW.Trod enc Tryz.prog W 0 sp held 22 v d p):∃ l:List UInt8,l.length≤9223372036854775807∧∀ C:Ctx,C.w=W→(∀ b,b<W.heap.size→C.pers b)→VR C (.pl 1 (Zn l)) v:=by
 obtain ⟨a0,len0,cap0,rfl⟩:=okWide_slice Tryz.underlying22 hval
 obtain ⟨fuel,hf⟩:=hd
 rcases open_ints Tryz.underlying22 Tryz.underlying5 (by kernel_rfl) hf with ⟨h1,_⟩ | ⟨a,len,cap,zs,h1,hb,hl,hm,hz,_,hcell,hwf⟩
 ·simp [Value.cells] at h1
  obtain ⟨rfl,rfl,rfl⟩:=h1
  exact ⟨[],by simp,fun C _ _=>.pl0 1 none 0 fun _=>rfl⟩
 ·simp [Value.cells] at h1
  obtain ⟨rfl,rfl,rfl⟩:=h1
  have hzl:len0≤zs.length:=by rw [hz];split<;>omega
  have hml:len0≤9223372036854775807:=by unfold maxLen at hm;omega
  have hby:∀ n∈zs,0≤n∧n≤255:=fun n hn=>by
   have:=hwf n hn
   simp [Lit.wf,IntKind.min,IntKind.max,IntKind.bits,IntKind.signed] at this
   omega
  have hget:∀ (i:Nat) (x:AV),(Zn ((zs.take len0).map fun n=>UInt8.ofNat n.toNat))[i]? = some x→x=.int .u8 (zs.getD i 0)∧i<len0:=by
   intro i x hx
   unfold Zn at hx
   rw [Qzp,Qzp] at hx
   rcases Qzn i len0 with hi | hi
   ·rw [List.getElem?_take_of_lt hi,Qze (by omega)] at hx
    simp at hx
    have hmem:=hby _ (List.getElem_mem (show i<zs.length by omega))
    refine ⟨?_,hi⟩
    rw [← hx,List.getD_eq_getElem?_getD,Qze (by omega)]
    simp
    omega
   ·rw [List.getElem?_eq_none (by simp;omega)] at hx
    simp at hx
  refine ⟨(zs.take len0).map fun n=>UInt8.ofNat n.toNat,by simp;omega,fun C hC hp=>?_⟩
  have hlen:(Zn ((zs.take len0).map fun n=>UInt8.ofNat n.toNat)).length=len0:=by unfold Zn;simp;omega
  rcases Nat.eq_zero_or_pos len0 with h0 | h0
  ·have e:Zn ((zs.take len0).map fun n=>UInt8.ofNat n.toNat)=[]:=List.eq_nil_of_length_eq_zero (by omega)
   rw [e]
   subst h0
   exact .pl0 1 (some a) cap0 fun h=>by cases h
  ·obtain ⟨b,o,spot⟩:=a
   have h2:=hcell 0 (by omega)
   have hsp:spot=none:=by
    cases spot with
    | none=>rfl
    | some s=>simp [World.cell?,Addr.add] at h2;split at h2<;>simp at h2
   subst hsp
   have hbl:b<W.heap.size:=by
    rcases Qzn b W.heap.size with h | h
    ·exact h
    ·simp [World.cell?,Addr.add,Array.getElem?_eq_none h] at h2
   subst hC
   refine .pl 1 _ b o len0 cap0 (fun i j=>.int .u8 (zs.getD i 0)) (hp b hbl) hlen.symm hl (fun i x hx=>?_) (fun i x hx j y hy=>?_)
   ·obtain ⟨rfl,hi⟩:=hget i x hx
    refine ⟨rfl,fun j y hy=>?_⟩
    match j,hy with
    | 0,hy =>
     simp [AV.cells] at hy;subst hy
     refine ⟨rfl,?_⟩
     have h3:=hcell i (by omega)
     rw [Zp] at h3
     simpa using h3
    | j+1,hy=>simp [AV.cells] at hy
   ·obtain ⟨rfl,hi⟩:=hget i x hx
    match j,hy with
    | 0,hy=>simp [AV.cells] at hy;subst hy;exact .int _ _
    | j+1,hy=>simp [AV.cells] at hy
theorem Yd9 {C:Ctx} {x:AV} {c:Value} {xs:List AV} {cs:List Value} (h:VR C x c) (hs:VRs C xs cs):VRs C (x::xs) (c::cs):=.cons h hs
end Ab

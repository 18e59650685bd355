/-
  Texts packed for a claim.
-/
import Derived.Test.YtcoikmapjepdjaaGreatDoorO00
import Derived.WalkKit
import Derived.BigCall
import Derived.BigGuard
import Derived.Test.YtcoikmapjepdjaaGreatDoorO08
import Derived.Test.YtcoikmapjepdjaaGreatDoorO09
import Derived.Test.YtcoikmapjepdjaaGreatDoorO10
import Derived.Test.YtcoikmapjepdjaaGreatDoorO11
import Derived.Test.YtcoikmapjepdjaaGreatDoorO12
set_option linter.all false
namespace Oyez
def RSorted (f:List Rec):Prop:=Sorted (f.map Rec.place)
def Uhk (f:List Rec):Prop:=∀ r∈f,r.place∈allPlaces
theorem Zc0 {p:Option Place} {f:List Rec} (h:checkFrom p f=0):(∀ r∈f,recErr r=0)∧RSorted f∧∀ q,p=some q→∀ r∈f,q.lt r.place=true:=by
 induction f generalizing p with
 | nil=>simp [RSorted,Sorted]
 | cons r t ih =>
  simp only [checkFrom] at h
  split at h
  ·rename_i h1;exact absurd h h1
  ·rename_i h1
   split at h
   ·cases h
   ·rename_i h2
    obtain ⟨g1,g2,g3⟩:=ih h
    have hp:∀ q,p=some q→q.lt r.place=true:=fun q hq=>by rw [hq] at h2;simpa using h2
    refine ⟨?_,?_,fun q hq x hx=>?_⟩
    ·intro x hx
     rcases List.mem_cons.1 hx with rfl | hx
     ·simpa using h1
     ·exact g1 x hx
    ·refine List.pairwise_cons.2 ⟨fun y hy=>?_,g2⟩
     obtain ⟨x,hx,rfl⟩:=List.mem_map.1 hy
     exact g3 _ rfl x hx
    ·rcases List.mem_cons.1 hx with rfl | hx
     ·exact hp q hq
     ·exact Place.lt_trans (hp q hq) (g3 _ rfl x hx)
theorem Yce {k n:Int} (h:placeErr k n=0):(⟨k,n⟩:Place)∈allPlaces:=by
 unfold placeErr at h
 rw [Yid]
 split at h
 ·cases h
 ·split at h
  ·cases h
  ·show (0≤k∧k<5)∧0≤n∧n<1000
   omega
theorem recErr_place {r:Rec} (h:recErr r=0):placeErr r.kind r.number=0∧wordsErr r.kind r.number r.words=0:=by
 unfold recErr oneErr at h
 split at h
 ·rename_i h1;exact absurd h h1
 ·rename_i h1;exact ⟨by simpa using h1,h⟩
structure Right (f:List Rec):Prop where
 len:f.length≤40
 recs:∀ r∈f,recErr r=0
 sorted:RSorted f
theorem Right.range {f:List Rec} (h:Right f):Uhk f:=fun r hr=>Yce (recErr_place (h.recs r hr)).1
theorem check_zero {f:List Rec} (h:check f=0):Right f:=by
 unfold check at h
 split at h
 ·cases h
 ·obtain ⟨h1,h2,_⟩:=Zc0 h
  exact ⟨by omega,h1,h2⟩
def recAt (F:Place→St) (p:Place):Option Rec:=(F p).map fun ws=>⟨p.kind,p.number,ws⟩
def Ydl (r:Rec):Bool→List Rec→List Rec
 | done,[]=>if done then [] else [r]
 | done,q::t =>
  (if !done&&!q.place.lt r.place then [r] else [])++(if q.place=r.place then [] else [q])++Ydl r (done||!q.place.lt r.place) t
end Oyez
namespace Oyez
def dd (l:List Place):List Place:=l.foldl (fun a q=>if a.getLast? = some q then a else a++[q]) []
end Oyez
namespace Ab
open Go Go.RowKit Go.Proofs
variable {P:Program}
structure All (C:Ctx):Prop where
 inv:Inv C []
 blk:C.blk=[]
 pers:∀ b,b<C.w.heap.size→C.pers b
theorem APure.callsC {f:FuncId} {args:List AV} {v:AV} (hen:Enters P f) (h:APure P f args v) {C:Ctx} (hC:All C) {cargs:List Value} (hv:VRs C args cargs) :
  Calls P f cargs.toArray C.w fun e w'=>(∃ c C',e=.returned c∧VR C' v c)∧Below C.w.heap.size C.w w':=by
 rcases h [] with h | h
 ·refine (callsIn_wide.1 (h.2 C cargs hC.inv hv)).mono ?_
  rintro e w' ⟨c,C',av,σ',rfl,rfl,hE,hI',hv',rfl,rfl⟩
  refine ⟨⟨c,C',rfl,hv'⟩,?_⟩
  have hb:=hC.inv.base
  have hb':=hI'.base
  rw [hE.w0] at hb'
  exact ⟨hb'.os.trans hb.os.symm,hb'.tape.trans hb.tape.symm,hb'.output.trans hb.output.symm,hE.size,fun k hk=>hE.keep k (hC.pers k hk)⟩
 ·obtain ⟨c,C',av,σ',hr,_⟩:=h C cargs hC.inv hv
  rw [hen] at hr
  cases hr
def Ctx.to (C:Ctx) (w:World):Ctx:={ C with pers:=fun b=>b<w.heap.size,w }
theorem All.to {C:Ctx} (hC:All C) {w:World} (hb:Below C.w.heap.size C.w w):All (C.to w)∧Ext C (C.to w):=by
 have hE:=Ext.below hC.inv.plt hb (fun h=>False.elim h)
 have hE2:Ext (C.at_ w) (C.to w):=⟨rfl,⟨[],by simp [Ctx.at_,Ctx.to]⟩,fun b h=>Nat.lt_of_lt_of_le (hC.inv.plt b h) hb.size,fun _ _=>rfl,fun _ _ h=>h,Nat.le_refl _,fun _=>Nat.le_refl _⟩
 refine ⟨⟨⟨by simpa [Ctx.to] using hC.inv.len,hC.inv.glob,hC.inv.base.trans (hb.mono hC.inv.base.size),fun b h=>Nat.lt_of_lt_of_le (hC.inv.plt b (hC.inv.basep b h)) hb.size,fun b h=>h,fun r b o _ h=>by simp at h,fun r r' b o o' _ _ h=>by simp at h⟩,hC.blk,fun b h=>h⟩,hE.trans hE2⟩
theorem APure.kitA {f:FuncId} {args:List AV} {v:AV} (hen:Enters P f) (hfz:∀ (σ:Za) (x:AV),x∈args→Fz 0 σ x x)
  (h:∀ (C:Ctx),All C→∀ (cargs:List Value),VRs C args cargs→Calls P f cargs.toArray C.w fun e w'=>(∃ c,e=.returned c∧∀ C',VR C' v c)∧Below C.w.heap.size C.w w'):APure P f args v:=by
 intro σ
 refine .inl ⟨hen,fun C cargs hI hv=>callsIn_wide.2 ?_⟩
 have hI0:=hI.base0
 have hA:All ⟨C.w0,[],fun b=>b<C.w.heap.size,C.w⟩:=⟨⟨rfl,hI.glob,hI.base,fun b hb=>Nat.lt_of_lt_of_le hb hI.base.size,fun b hb=>hb,fun r b o h=>by simp at h,fun r r' b o o' h=>by simp at h⟩,rfl,fun b hb=>hb⟩
 have hE:Ext (C.frz 0 σ) ⟨C.w0,[],fun b=>b<C.w.heap.size,C.w⟩:=⟨rfl,⟨[],by simp [Ctx.frz]⟩,fun b hb=>hI0.plt b hb,fun _ _=>rfl,fun _ _ h=>h,Nat.le_refl _,fun _=>Nat.le_refl _⟩
 have hv1:VRs ⟨C.w0,[],fun b=>b<C.w.heap.size,C.w⟩ args cargs:=⟨hv.len,fun i x c hx hc=>((hv.at_ i x c hx hc).frz hI (hfz σ x (Qzg hx))).ext hE⟩
 refine (h _ hA cargs hv1).mono ?_
 rintro e w' ⟨⟨c,rfl,hc⟩,hb⟩
 have hE2:=Ext.below hI.plt hb (fun h=>False.elim h)
 exact ⟨c,C.at_ w',v,σ,rfl,rfl,hE2,hI.below hb,hc _,rfl,rfl⟩
end Ab
namespace Ab
open Go Go.RowKit Go.Proofs
theorem Wp {p:Prop} (h:p):Hid p:=h
theorem Xcv:Enters Tryz.prog 112:=Ua Tryz.func112 (by decide) rfl
theorem Ug5:Enters Tryz.prog 114:=Ua Tryz.func114 (by decide) rfl
theorem Xbj:Enters Tryz.prog 39:=Ua Tryz.func39 (by decide) rfl
theorem Vb2 {T e:TypeId} {B b:Nat} {p:Value} {bs:List Value} {w w':World} (h:Lib.BuilderAt T e B b p bs w) (hb:Below w.heap.size w w'):Lib.BuilderAt T e B b p bs w':=by
 obtain ⟨h1,v,h2,h3,h4⟩:=h
 have keep:∀ (g:Nat) (x:Obj),w.heap[g]? = some x→w'.heap[g]? = some x:=fun g x hg=>(hb.block g (Array.getElem?_eq_some_iff.1 hg).1).trans hg
 refine ⟨h1,v,keep _ _ h2,⟨h3.1,?_⟩,h4⟩
 rcases h3.2 with h | ⟨g,cap,cur,hv,hB,hg,r⟩
 ·exact .inl h
 ·exact .inr ⟨g,cap,cur,hv,hB,keep _ _ hg,r⟩
theorem Ufy {T e:TypeId} {B b:Nat} {bs:List Value} {w w':World} (h:Lib.IsBuilder T e B b bs w) (hb:Below w.heap.size w w'):Lib.IsBuilder T e B b bs w':=h.imp (Vb2 · hb) (Vb2 · hb)
theorem Zhh (f:List Oyez.Rec) (k:Nat) (h:k<f.length):Oyez.print (f.take (k+1))=Oyez.print (f.take k)++(Oyez.line f[k].kind f[k].number f[k].words++[10]):=by
 have e:f.take (k+1)=f.take k++[f[k]]:=by rw [List.take_add_one,Qze h];rfl
 rw [e]
 simp only [Oyez.print,List.flatMap_append,List.flatMap_cons,List.flatMap_nil,List.append_nil]
theorem Xdb (f:List Oyez.Rec) (k:Nat):(Oyez.print (f.take k)).length≤(Oyez.print f).length:=by
 conv=>rhs;rw [← List.take_append_drop k f]
 simp only [Oyez.print,List.flatMap_append,List.length_append]
 omega
set_option maxHeartbeats 4000000 in
set_option maxRecDepth 100000 in
theorem Zf2 (f:List Oyez.Rec) (hf:Few f) (h0:Oyez.check f=0) (C:Ctx) (hC:All C) (cap b o:Nat) (hrow:Row C 3 b o (f.map Yg)) (hcap:f.length≤cap) (hlen:(Oyez.print f).length≤2^40)
  (hck:Calls Tryz.prog 112 #[.slice (some ⟨b,o,none⟩) f.length cap] C.w fun e w'=>e=.returned (.int .i64 0)∧Below C.w.heap.size C.w w') :
  Calls Tryz.prog 39 #[.slice (some ⟨b,o,none⟩) f.length cap] C.w fun e w'=>e=.returned (.tuple #[.string ⟨(Oyez.print f).toArray⟩,.int .i64 0])∧Below C.w.heap.size C.w w':=by
 have hright:=Oyez.check_zero h0
 have h40:f.length≤40:=hright.len
 have Hline:Hid (∀ (r:Oyez.Rec) (v:Value) (W:World),r∈f→Below C.w.heap.size C.w W→VR C (Xl r.words) v→Calls Tryz.prog 114 #[.agg #[.int .i64 r.kind,.int .i64 r.number,v]] W fun e w'=>e=.returned (.string ⟨⟨Oyez.line r.kind r.number r.words⟩⟩)∧Below W.heap.size W w'):=by
  intro r v W hr hW hv
  obtain ⟨hA,hE⟩:=hC.to hW
  obtain ⟨p1,p2,p3,p4⟩:=Zck (Oyez.recErr_place (hright.recs r hr)).1
  obtain ⟨q1,q2⟩:=hf r hr
  have hvr:VRs (C.to W) [Yg r] [.agg #[.int .i64 r.kind,.int .i64 r.number,v]]:=.cons (.agg _ [.int .i64 r.kind,.int .i64 r.number,v] rfl (VRs.cons (.int _ _) (.cons (.int _ _) (.cons (hv.ext hE) (.nil _)))).at_) (.nil _)
  refine ((Yb4 r p1 p2 p3 (by omega) q1 q2).callsC Ug5 hA hvr).mono ?_
  rintro e w' ⟨⟨c,C',rfl,hc⟩,hb⟩
  rw [hc.str_inv]
  exact ⟨rfl,hb⟩
 clear hright
 go_enter Tryz.func39,Tryz.ntmps39
 go_wp2_with fail
 refine hck.mono ?_
 rintro e w1 ⟨rfl,hb1⟩
 have Hb1:=Wp hb1
 clear hb1 hck
 go_wp2
 go_loopw [15] (fun i wr=>∃ k:Nat,k≤f.length∧i=.int .i64 k∧Hid (Lib.IsBuilder 207 5 w1.heap.size w1.heap.size (Lib.byteCells (Oyez.print (f.take k))) wr)∧Hid (Below C.w.heap.size C.w wr)∧Hid (w1.heap.size≤wr.heap.size)) (fun i _=>f.length - (intOf i).toNat)
 case atStart =>
  refine ⟨0,Nat.zero_le _,rfl,Wp (Lib.fresh_isBuilder 207 5 w1),Wp (Hb1.out.trans (((Below.refl _ _).alloc (Nat.le_refl _) _).mono Hb1.out.size)),Wp (by simp)⟩
 case round =>
  obtain ⟨k,hk,rfl,HB,HW,HS⟩:=hrel
  by_cases hlt:k<f.length
  ·obtain ⟨hl3,hcells⟩:=hrow.2 k (Yg f[k]) (by simp [hlt])
   obtain ⟨_,v0,hc0,hv0⟩:=hcells 0 (.int .i64 f[k].kind) rfl
   obtain ⟨_,v1,hc1,hv1⟩:=hcells 1 (.int .i64 f[k].number) rfl
   obtain ⟨_,v2,hc2,hv2⟩:=hcells 2 (Xl f[k].words) rfl
   have hbk:b<C.w.heap.size:=hC.inv.plt b hrow.1
   obtain rfl:=hv0.int_inv
   obtain rfl:=hv1.int_inv
   have c0:wr.cell? ⟨b,o+k*3,none⟩=some (.int .i64 f[k].kind):=by rw [HW.out.cell (p:=⟨b,o+k*3,none⟩) hbk];exact hc0
   have c1:wr.cell? ⟨b,o+k*3+1,none⟩=some (.int .i64 f[k].number):=by rw [HW.out.cell (p:=⟨b,o+k*3+1,none⟩) hbk];exact hc1
   have c2:wr.cell? ⟨b,o+k*3+2,none⟩=some v2:=by rw [HW.out.cell (p:=⟨b,o+k*3+2,none⟩) hbk];exact hc2
   clear hc0 hc1 hc2 hcells
   obtain ⟨A2,cap2,e2,_,_⟩:=hv2.pl_inv
   have Hv2:=Wp (e2▸hv2:VR C (Xl f[k].words) (.slice A2 (strs f[k].words).length cap2))
   subst e2
   clear hv2
   go_wp2_with fail
   have hwa:Below wr.heap.size wr (wr.alloc (.cells #[.int .i64 f[k].kind,.int .i64 f[k].number,.slice A2 f[k].words.length cap2] 88)):=(Below.refl _ _).alloc (Nat.le_refl _) _
   have hcw:C.w.heap.size≤wr.heap.size:=HW.out.size
   have Hv3:VR C (Xl f[k].words) (.slice A2 f[k].words.length cap2):=by have:=Hv2.out;rwa [Zdy] at this
   refine (Hline.out f[k] _ _ (List.getElem_mem hlt) (HW.out.trans (hwa.mono hcw)) Hv3).mono ?_
   rintro e w3 ⟨rfl,hb3⟩
   have hBw:Below wr.heap.size wr w3:=hwa.trans (hb3.mono hwa.size)
   have HB3:=Wp (Ufy HB.out hBw)
   have HW3:=Wp (HW.out.trans (hBw.mono hcw))
   have HS3:=Wp (Nat.le_trans HS.out hBw.size)
   have hpl:=Zhh f k hlt
   have hple:=Xdb f (k+1)
   rw [hpl] at hple
   simp only [List.length_append,List.length_cons,List.length_nil] at hple
   have Hpl:=Wp hpl
   have Hlen:=Wp (Nat.le_trans hple hlen)
   have hadd:¬ 9223372036854775807<(Oyez.line f[k].kind f[k].number f[k].words).length+1:=by omega
   clear hwa hcw Hv3 Hv2 hb3 hBw hpl hple HB HW HS c0 c1 c2
   go_wp2_with fail
   refine (Any.Builder_WriteString { Tryz.lays156 with } Tryz.Builder_Extra_156 w1.heap.size w1.heap.size _ _ w3 HB3.out ?_ HS3.out).mono ?_
   ·have:=Hlen.out
    rw [Lib.byteCells_length]
    show _+(Oyez.line f[k].kind f[k].number f[k].words++[10]).length≤_
    rw [List.length_append,List.length_singleton]
    omega
   rintro e w4 ⟨rfl,h4,hb4⟩
   have hcat:Lib.byteCells (Oyez.print (f.take k))++Lib.strCells ((⟨⟨Oyez.line f[k].kind f[k].number f[k].words⟩⟩:ByteArray)++⟨#[10]⟩)=Lib.byteCells (Oyez.print (f.take (k+1))):=by
    rw [Hpl.out,Lib.byteCells_append,Lib.strCells_eq]
    rfl
   rw [hcat] at h4
   have H4:=Wp (Or.inr h4:Lib.IsBuilder 207 5 w1.heap.size w1.heap.size (Lib.byteCells (Oyez.print (f.take (k+1)))) w4)
   have Hw4:=Wp (HW3.out.trans (hb4.mono Hb1.out.size))
   have Hs4:=Wp (Nat.le_trans HS3.out hb4.size)
   clear h4 hb4 hcat HB3 HW3 HS3
   go_wp2
   exact ⟨⟨k+1,by omega,by go_num,H4,Hw4,Hs4⟩,by simp [intOf];omega⟩
  ·have hke:k=f.length:=by omega
   subst hke
   have hB:=HB.out
   rw [List.take_length] at hB
   go_wp2_with fail
   refine (Any.Builder_String_any Tryz.lays169 Tryz.Builder_Extra_169 w1.heap.size w1.heap.size _ wr hB HS.out).mono ?_
   rintro e w5 ⟨rfl,hb5⟩
   have Hb5:=Wp (HW.out.trans (hb5.mono Hb1.out.size))
   clear hb5 hB
   go_wp2
   go_ret2
   exact ⟨rfl,Hb5.out⟩
set_option maxHeartbeats 4000000 in
set_option maxRecDepth 100000 in
theorem Ufn (W:World) (A:Option Addr) (cap:Nat)
  (hck:Calls Tryz.prog 112 #[.slice A 0 cap] W fun e w'=>e=.returned (.int .i64 0)∧Below W.heap.size W w') :
  Calls Tryz.prog 39 #[.slice A 0 cap] W fun e w'=>e=.returned (.tuple #[.string ⟨#[]⟩,.int .i64 0])∧Below W.heap.size W w':=by
 go_enter Tryz.func39,Tryz.ntmps39
 go_wp2_with fail
 refine hck.mono ?_
 rintro e w1 ⟨rfl,hb1⟩
 have Hb1:=Wp hb1
 clear hb1 hck
 go_wp2
 go_loopw [15] (fun i wr=>i=.int .i64 0∧Hid (Lib.IsBuilder 207 5 w1.heap.size w1.heap.size (Lib.byteCells []) wr)∧Hid (Below W.heap.size W wr)∧Hid (w1.heap.size≤wr.heap.size)) (fun i _=>0)
 case atStart =>
  refine ⟨rfl,Wp (Lib.fresh_isBuilder 207 5 w1),Wp (Hb1.out.trans (((Below.refl _ _).alloc (Nat.le_refl _) _).mono Hb1.out.size)),Wp (by simp)⟩
 case round =>
  obtain ⟨rfl,HB,HW,HS⟩:=hrel
  have hB:=HB.out
  go_wp2_with fail
  refine (Any.Builder_String_any Tryz.lays169 Tryz.Builder_Extra_169 w1.heap.size w1.heap.size _ wr hB HS.out).mono ?_
  rintro e w5 ⟨rfl,hb5⟩
  have Hb5:=Wp (HW.out.trans (hb5.mono Hb1.out.size))
  clear hb5 hB
  go_wp2
  go_ret2
  exact ⟨rfl,Hb5.out⟩
end Ab
namespace Ab
open Go Go.RowKit Go.Proofs
attribute [local irreducible] aws awp aw1 Og Om Oc Oa Ogd Ov Ot awd Zb awh Wb Ogh Ohd awl Ogl Ohl Xb Vb QFn Ub QRo QBe ACode AYield
theorem Vc1 {f:List Oyez.Rec} (h:∀ r∈f,Oyez.recErr r=0):(Oyez.print f).length≤65*f.length:=by
 induction f with
 | nil=>simp [Oyez.print]
 | cons r f ih =>
  have h1:=(Oyez.recErr_place (h r (by simp))).2
  have h2:=ih fun x hx=>h x (by simp [hx])
  have h3:(Oyez.line r.kind r.number r.words).length≤64:=by
   unfold Oyez.wordsErr at h1
   split at h1
   ·cases h1
   ·split at h1
    ·cases h1
    ·split at h1
     ·cases h1
     ·omega
  simp only [Oyez.print,List.flatMap_cons,List.length_append,List.length_cons,List.length_nil] at h2 ⊢
  omega
theorem Wex (n:Nat) (σ:Za) (ws:List (List UInt8)):Fz n σ (Xl ws) (Xl ws):=.pl 1 _ fun i x hx j y hy=>by
 obtain ⟨w,_,rfl⟩:∃ w,w∈ws∧AV.str w=x:=by simpa [strs] using Qzg hx
 cases j with
 | zero=>simp [AV.cells] at hy;subst hy;exact .str w
 | succ j=>simp [AV.cells] at hy
theorem Zcu (n:Nat) (σ:Za) (f:List Oyez.Rec):Fz n σ (Yk f) (Yk f):=.pl 3 _ fun i x hx j y hy=>by
 obtain ⟨r,_,rfl⟩:∃ r,r∈f∧Yg r=x:=by simpa using Qzg hx
 match j,hy with
 | 0,hy=>simp [AV.cells,Yg] at hy;subst hy;exact .int _ _
 | 1,hy=>simp [AV.cells,Yg] at hy;subst hy;exact .int _ _
 | 2,hy=>simp [AV.cells,Yg] at hy;subst hy;exact Wex n σ r.words
 | j+3,hy=>simp [AV.cells,Yg] at hy
def Wae (f:List Oyez.Rec):List UInt8 × Int:=if Oyez.check f=0 then (Oyez.print f,0) else ([],Oyez.check f)
theorem Yci (f:List Oyez.Rec) (hf:Few f):APure Tryz.prog 39 [Yk f] (.tup [.str (Wae f).1,.int .i64 (Wae f).2]):=by
 by_cases h0:Oyez.check f=0
 ·have hright:=Oyez.check_zero h0
  have hlen:(Oyez.print f).length≤2^40:=by
   have:=Vc1 hright.recs
   have:=hright.len
   omega
  unfold Wae
  rw [if_pos h0]
  by_cases hn:f=[]
  ·subst hn
   refine APure.kitA Xbj (fun σ x hx=>?_) fun C hC cargs hv=>?_
   ·simp only [List.mem_singleton] at hx
    subst hx
    exact Zcu 0 σ []
   ·obtain ⟨c,cs,rfl,h1,h2⟩:=hv.inv
    obtain rfl:=h2.of_nil
    have hck:=(Ybw [] hf).callsC Xcv hC hv
    obtain ⟨A,cap,rfl,hcap,hrow⟩:=h1.pl_inv
    refine (Ufn C.w A cap (hck.mono ?_)).mono ?_
    ·rintro e w' ⟨⟨c,C',rfl,hc⟩,hb⟩
     rw [hc.int_inv,h0]
     exact ⟨rfl,hb⟩
    ·rintro e w' ⟨rfl,hb⟩
     exact ⟨⟨_,rfl,fun C'=>.tup _ [.string ⟨⟨[]⟩⟩,.int .i64 0] rfl (VRs.cons (.str _) (.cons (.int _ _) (.nil _))).at_⟩,hb⟩
  ·refine APure.kitA Xbj (fun σ x hx=>?_) fun C hC cargs hv=>?_
   ·simp only [List.mem_singleton] at hx
    subst hx
    exact Zcu 0 σ f
   ·obtain ⟨c,cs,rfl,h1,h2⟩:=hv.inv
    obtain rfl:=h2.of_nil
    have hck:=(Ybw f hf).callsC Xcv hC hv
    obtain ⟨A,cap,rfl,hcap,hrow⟩:=h1.pl_inv
    rw [List.length_map] at hcap hck
    rcases hrow with hrow | ⟨b,o,rfl,hrow⟩
    ·simp at hrow;exact absurd hrow hn
    ·have hck2:Calls Tryz.prog 112 #[.slice (some ⟨b,o,none⟩) f.length cap] C.w fun e w'=>e=.returned (.int .i64 0)∧Below C.w.heap.size C.w w':=by
      refine hck.mono ?_
      rintro e w' ⟨⟨c,C',rfl,hc⟩,hb⟩
      rw [hc.int_inv,h0]
      exact ⟨rfl,hb⟩
     have:=Zf2 f hf h0 C hC cap b o hrow hcap hlen hck2
     rw [List.length_map]
     refine this.mono ?_
     rintro e w' ⟨rfl,hb⟩
     exact ⟨⟨_,rfl,fun C'=>.tup _ [.string ⟨⟨Oyez.print f⟩⟩,.int .i64 0] rfl (VRs.cons (.str _) (.cons (.int _ _) (.nil _))).at_⟩,hb⟩
 ·unfold Wae
  rw [if_neg h0]
  intro σ
  refine Yb Tryz.func39 rfl Xbj ?_
  simp [Tryz.ntmps39]
  refine (Ybw f hf).use ?_
  simp [h0]
end Ab
namespace Oyez
def Uab:List S→S
 | []=>[]
 | w::t=>w++t.flatMap (fun x=>32::x)
theorem Ucz:∀ ws:List S,ws≠[]→(∀ w∈ws,(32:UInt8)∉w)→splitAt 32 (Uab ws)=ws:=by
 intro ws
 induction ws with
 | nil=>intro h;exact absurd rfl h
 | cons w t ih =>
  intro _ h
  cases t with
  | nil =>
   have:=Ubw 32 w (h w (by simp)) [] [] [] rfl
   simpa [Uab] using this
  | cons v t =>
   have h2:=ih (by simp) fun x hx=>h x (List.mem_cons_of_mem _ hx)
   have h3:splitAt 32 (32::Uab (v::t))=[]::(v::t):=by rw [splitAt,if_pos rfl,h2]
   have h4:=Ubw 32 w (h w (by simp)) _ _ _ h3
   simpa [Uab] using h4
theorem Ufd (k n:Int) (ws:List S):line k n ws=Uab (name k::digits n::ws):=by simp [line,Uab]
theorem Ycs {d:Int} (h0:0≤d) (h4:d≤4):kindOf (name d)=some d∧(32:UInt8)∉name d∧(10:UInt8)∉name d:=by
 have:d=0∨d=1∨d=2∨d=3∨d=4:=by omega
 rcases this with rfl | rfl | rfl | rfl | rfl<;>decide
theorem Ugt:∀ (w:S) (k n:Nat),Vl w k=some n→∀ c∈w,isDig c=true:=by
 intro w
 induction w with
 | nil=>intro k n _ c hc;simp at hc
 | cons b t ih =>
  intro k n h c hc
  unfold Vl at h
  split at h
  ·rename_i hb
   rcases List.mem_cons.1 hc with rfl | hc
   ·exact hb
   ·exact ih _ _ h c hc
  ·cases h
theorem Zb7 {c:UInt8} (h:isDig c=true):c≠32∧c≠10:=by
 constructor<;>(rintro rfl;revert h;decide)
theorem Xbz (n:Int):(32:UInt8)∉digits n∧(10:UInt8)∉digits n:=by
 have h:=Ugt _ _ _ (Wb3 n.toNat)
 exact ⟨fun hc=>(Zb7 (h _ hc)).1 rfl,fun hc=>(Zb7 (h _ hc)).2 rfl⟩
theorem Wcm {w:S} (h:word w=true):(32:UInt8)∉w∧(10:UInt8)∉w:=by
 unfold word at h
 rw [Bool.and_eq_true] at h
 have:=List.all_eq_true.1 h.1
 constructor
 ·intro hc;have:=this _ hc;revert this;decide
 ·intro hc;have:=this _ hc;revert this;decide
theorem wordsErr_zero {k n:Int} {ws:List S} (h:wordsErr k n ws=0):ws.length≤6∧ws.all word=true∧(line k n ws).length≤64:=by
 unfold wordsErr at h
 split at h
 ·cases h
 ·split at h
  ·cases h
  ·split at h
   ·cases h
   ·rename_i h1 h2 h3
    exact ⟨by omega,by simpa using h2,by omega⟩
theorem Ycm {k n:Int} (h:placeErr k n=0):(0≤k∧k≤4)∧0≤n∧n≤999:=by
 unfold placeErr at h
 split at h
 ·cases h
 ·split at h
  ·cases h
  ·omega
theorem recErr_iff (r:Rec):recErr r=0↔placeErr r.kind r.number=0∧wordsErr r.kind r.number r.words=0:=by
 refine ⟨recErr_place,fun ⟨h1,h2⟩=>?_⟩
 unfold recErr oneErr
 rw [if_neg (by simpa using h1)]
 exact h2
theorem Xfw {ws:List S}:∀ i,firstBad ws i=none↔ws.all word=true:=by
 induction ws with
 | nil=>intro i;simp [firstBad]
 | cons w t ih =>
  intro i
  rw [firstBad]
  split
  ·rename_i h;rw [ih];simp [h]
  ·rename_i h;simp [h]
theorem Udj {r:Rec} (h:recErr r=0) {n:Nat} (hn:n<40):readLine (line r.kind r.number r.words) true n=.ok r:=by
 obtain ⟨h1,h2⟩:=(recErr_iff r).1 h
 obtain ⟨hk,hnum⟩:=Ycm h1
 obtain ⟨h6,hall,h64⟩:=wordsErr_zero h2
 obtain ⟨hkn,hn32,_⟩:=Ycs hk.1 hk.2
 have hws:words (line r.kind r.number r.words)=name r.kind::digits r.number::r.words:=by
  rw [Ufd]
  refine Ucz _ (by simp) fun w hw=>?_
  rcases List.mem_cons.1 hw with rfl | hw
  ·exact hn32
  ·rcases List.mem_cons.1 hw with rfl | hw
   ·exact (Xbz _).1
   ·exact (Wcm (List.all_eq_true.1 hall w hw)).1
 have hv:value (digits r.number) 999=some r.number.toNat:=value_digits (by omega) (by omega)
 unfold readLine
 rw [if_neg (by omega),if_neg (by omega),if_neg (by simp),hws]
 simp only [hkn,hv]
 rw [if_neg (by omega),(Xfw 2).2 hall]
 have:(r.number.toNat:Int)=r.number:=by omega
 rw [this]
theorem Vev {r:Rec} (h:recErr r=0):(10:UInt8)∉line r.kind r.number r.words:=by
 obtain ⟨h1,h2⟩:=(recErr_iff r).1 h
 obtain ⟨hk,hnum⟩:=Ycm h1
 obtain ⟨h6,hall,h64⟩:=wordsErr_zero h2
 intro hc
 unfold line at hc
 simp only [List.mem_append,List.mem_flatMap,List.mem_cons,List.mem_singleton,List.not_mem_nil,or_false] at hc
 rcases hc with ((hc | hc) | hc) | ⟨w,hw,hc | hc⟩
 ·exact (Ycs hk.1 hk.2).2.2 hc
 ·revert hc;decide
 ·exact (Xbz _).2 hc
 ·revert hc;decide
 ·exact (Wcm (List.all_eq_true.1 hall w hw)).2 hc
def cat (l:List (S × Bool)):S:=l.flatMap fun x=>x.1++if x.2 then [10] else []
def okL:List (S × Bool)→Prop
 | []=>True
 | (w,e)::t=>(10:UInt8)∉w∧(e=false→w≠[]∧t=[])∧okL t
theorem Xhf:∀ (w t:S),(10:UInt8)∉w→linesOf (w++10::t)=(w,true)::linesOf t:=by
 intro w
 induction w with
 | nil=>intro t _;simp [linesOf]
 | cons b w ih =>
  intro t h
  simp only [List.mem_cons,not_or] at h
  rw [List.cons_append,linesOf,if_neg (Ne.symm h.1),ih t h.2]
theorem Zgl:∀ w:S,(10:UInt8)∉w→w≠[]→linesOf w=[(w,false)]:=by
 intro w
 induction w with
 | nil=>intro _ h;exact absurd rfl h
 | cons b w ih =>
  intro h _
  simp only [List.mem_cons,not_or] at h
  rw [linesOf,if_neg (Ne.symm h.1)]
  cases w with
  | nil=>rfl
  | cons c w=>rw [ih h.2 (by simp)]
theorem Wd5:∀ l:List (S × Bool),okL l→linesOf (cat l)=l:=by
 intro l
 induction l with
 | nil=>intro _;rfl
 | cons x t ih =>
  obtain ⟨w,e⟩:=x
  rintro ⟨h1,h2,h3⟩
  cases e with
  | true =>
   have:cat ((w,true)::t)=w++10::cat t:=by simp [cat]
   rw [this,Xhf _ _ h1,ih h3]
  | false =>
   obtain ⟨h4,rfl⟩:=h2 rfl
   have:cat [(w,false)]=w:=by simp [cat]
   rw [this,Zgl _ h1 h4]
theorem Vh0:∀ (f:List Rec) (p:Option Place) (n:Nat),checkFrom p f=0→n+f.length≤40→parseLines (f.map fun r=>(line r.kind r.number r.words,true)) p n=⟨f,0,0,0⟩:=by
 intro f
 induction f with
 | nil=>intro p n _ _;rfl
 | cons r t ih =>
  intro p n h hn
  rw [checkFrom] at h
  split at h
  ·rename_i h1;exact absurd h h1
  ·rename_i h1
   split at h
   ·cases h
   ·rename_i h2
    simp only [List.length_cons] at hn
    rw [List.map_cons,parseLines,Udj (by simpa using h1) (by omega)]
    simp only
    rw [if_neg h2,ih _ _ h (by omega)]
    simp
theorem Vg2 {f:List Rec} (h:check f=0):f.length≤40∧checkFrom none f=0:=by
 unfold check at h
 split at h
 ·cases h
 ·exact ⟨by omega,h⟩
theorem Weh (f:List Rec):cat (f.map fun r=>(line r.kind r.number r.words,true))=print f:=by
 simp [cat,print,List.flatMap_map]
theorem Xgo:∀ f:List Rec,(∀ r∈f,recErr r=0)→okL (f.map fun r=>(line r.kind r.number r.words,true)):=by
 intro f
 induction f with
 | nil=>intro _;exact trivial
 | cons r t ih=>intro h;exact ⟨Vev (h r (by simp)),by simp,ih fun q hq=>h q (List.mem_cons_of_mem _ hq)⟩
theorem parse_print {f:List Rec} (h:check f=0):parse (print f)=⟨f,0,0,0⟩:=by
 obtain ⟨h1,h2⟩:=Vg2 h
 unfold parse
 rw [← Weh,Wd5 _ (Xgo f (Zc0 h2).1)]
 exact Vh0 f none 0 h2 (by omega)
end Oyez
namespace Oyez
def sp (c:UInt8) (sv:Bool):S→List S
 | []=>[[]]
 | b::t=>if b=c then (if sv then [b] else [])::sp c sv t else
  match sp c sv t with
  | []=>[[b]]
  | w::r=>(b::w)::r
def piece (x:S × Bool):S:=x.1++if x.2 then [10] else []
end Oyez
namespace Oyez
def sealLine (m n:Nat):S:=Uab [Wbx,digitsN m,digitsN n]
theorem sealed_def (t:S):sealed t=t++sealLine (sums t).1 (sums t).2++[10]:=by
 unfold sealed sealLine Uab
 simp
theorem Vbu (t:S):(sums t).1<65537∧(sums t).2<65537:=by
 rw [sums_eq]
 exact ⟨Nat.mod_lt _ (by decide),Nat.mod_lt _ (by decide)⟩
theorem Ybc (n:Nat):(32:UInt8)∉digitsN n∧(10:UInt8)∉digitsN n:=by
 have:=Xbz (n:Int)
 unfold digits at this
 rwa [Int.toNat_natCast] at this
theorem Vf0 {m n:Nat} (hm:m<65537) (hn:n<65537):(10:UInt8)∉sealLine m n∧words (sealLine m n)=[Wbx,digitsN m,digitsN n]∧(sealLine m n).length≤16:=by
 have h1:=digits_len 4 m (by omega)
 have h2:=digits_len 4 n (by omega)
 refine ⟨?_,?_,?_⟩
 ·unfold sealLine Uab
  intro hc
  simp only [List.mem_append,List.flatMap_cons,List.flatMap_nil,List.append_nil,List.mem_cons] at hc
  rcases hc with hc | (hc | hc) | (hc | hc)
  ·revert hc;decide
  ·revert hc;decide
  ·exact (Ybc m).2 hc
  ·revert hc;decide
  ·exact (Ybc n).2 hc
 ·refine Ucz _ (by simp) fun w hw=>?_
  simp only [List.mem_cons,List.not_mem_nil,or_false] at hw
  rcases hw with rfl | rfl | rfl
  ·decide
  ·exact (Ybc m).1
  ·exact (Ybc n).1
 ·unfold sealLine Uab
  simp
  omega
theorem sealed_ok {t:S} (h:t.getLast? = some 10) (hl:t.length≤4096):Sealed (sealed t) t (sealLine (sums t).1 (sums t).2) (digitsN (sums t).1) (digitsN (sums t).2) (sums t).1 (sums t).2:=by
 obtain ⟨h1,h2⟩:=Vbu t
 obtain ⟨k1,k2,k3⟩:=Vf0 h1 h2
 exact ⟨sealed_def t,k1,h,hl,k2,value_digits (by omega) (by omega),value_digits (by omega) (by omega),by rw [sealed_def];simp;omega⟩
theorem Zfs {t:S} (h:t.getLast? = some 10) (hl:t.length≤4096):openOf (sealed t)=(t,0):=by
 unfold openOf
 rw [(sealed_ok h hl).opened]
 simp
theorem seal_of {t:S} (h:t.getLast? = some 10) (hl:t.length≤4096):sealOf t=(sealed t,0):=by
 unfold sealOf
 rw [if_neg (by omega),if_neg (by simp [h])]
theorem Vfb {t:S} {i:Nat} (hi:i<t.length) (c:UInt8):(sealed t).set i c=t.set i c++sealLine (sums t).1 (sums t).2++[10]:=by
 rw [sealed_def,List.set_append_left _ _ (by simp;omega),List.set_append_left _ _ hi]
theorem mend_sealed {t:S} (h:t.getLast? = some 10) (hl:t.length≤4096) {i:Nat} (hi:i+1<t.length) {c:UInt8} (hc:c≠t[i]):mendOf ((sealed t).set i c)=(sealed t,i,0):=by
 have hS:=sealed_ok h hl
 have hit:i<t.length:=by omega
 have hset:=Vfb hit c
 have hS':Sealed ((sealed t).set i c) (t.set i c) (sealLine (sums t).1 (sums t).2) (digitsN (sums t).1) (digitsN (sums t).2) (sums t).1 (sums t).2:=by
  refine ⟨hset,hS.noLf,?_,by simpa using hl,hS.ws,hS.one,hS.two,by simpa using hS.len⟩
  rw [List.getLast?_eq_getElem?,List.length_set,List.getElem?_set_ne (by omega),← List.getLast?_eq_getElem?,h]
 have hne:sums (t.set i c)≠((sums t).1,(sums t).2):=by
  intro e
  have t1:=Ucm t i hit c
  have e1:=congrArg Prod.fst e
  rw [sums_eq,sums_eq] at e1
  simp only at e1
  have c1:=c.toNat_lt
  have c2:=t[i].toNat_lt
  apply hc
  apply UInt8.toNat.inj
  omega
 rw [mendOf_eq hS'.opened hne]
 have hb:(UInt8.ofNat t[i].toNat)=t[i]:=by simp
 have hlen:i<((sealed t).set i c).length:=by rw [hset];simp;omega
 have hst:i<(sealed t).length:=by rw [List.length_set] at hlen;exact hlen
 have hti:(sealed t)[i]'hst=t[i]:=by
  have:(sealed t)[i]? = t[i]?:=by rw [sealed_def,List.append_assoc,Qzl hit]
  rw [Qze hst,Qze hit] at this
  exact Option.some.inj this
 have hback:(sealed t).set i t[i]=sealed t:=by rw [← hti,List.set_getElem_self]
 have hm:mendAt ((sealed t).set i c) i t[i].toNat=some (sealed t,i):=by
  unfold mendAt
  rw [Vbh hlen,hb,List.set_set,hback,if_neg,if_pos (by rw [Zfs h hl])]
  intro e
  have:=congrArg (fun l=>l[i]?) e
  simp only [List.getElem?_set_self hst,Qze hst,hti] at this
  exact hc (Option.some.inj this).symm
 exact Ycl hS' (by simpa using hit) t[i].toNat_lt hm
theorem print_last {f:List Rec} (h:f≠[]):(print f).getLast? = some 10:=by
 obtain ⟨g,r,rfl⟩:∃ g r,f=g++[r]:=⟨f.dropLast,f.getLast h,(List.dropLast_concat_getLast h).symm⟩
 unfold print
 rw [List.flatMap_append,List.flatMap_cons,List.flatMap_nil,List.append_nil,← List.append_assoc,List.getLast?_append]
 simp
end Oyez

/-
  Texts packed for a claim.
-/
import Derived.Test.YtcoikmapjepdjaaGreatDoorD00
import Derived.Shelf.SlSortCmp.WholeK
import Derived.Shelf.SlGeneric
import Derived.Ground.SlsfProg
import Derived.Test.YtcoikmapjepdjaaGreatDoorProg
import Derived.Shelf.SlSortCmp.NoneTotal
import Derived.Test.YtcoikmapjepdjaaGreatDoorD02
import Derived.Test.YtcoikmapjepdjaaGreatDoorD15
set_option linter.all false
namespace Go.Proofs
open Go.Shelf
def Tryz.sortPl_ren:Go.Shelf.Ren:=⟨fun | 6=>168 | 15=>145 | 14=>232 | 28=>222 | 29=>223 | 20=>288 | 21=>289 | 22=>290 | 23=>291 | 24=>292 | 25=>293 | 26=>294 | 27=>295 | 46=>333 | 47=>279 | 48=>280 | 49=>334 | 50=>335 | 57=>351 | n=>n,fun | 22=>129 | 24=>177 | 25=>272 | 3=>3 | 39=>92 | 0=>0 | 53=>135 | 55=>308 | 4=>4 | 46=>323 | 45=>322 | 50=>67 | 5=>5 | 9=>9 | 66=>383 | 70=>387 | 76=>416 | 77=>417 | n=>n,fun | n=>n⟩
theorem Tryz.sortPl:Go.Proofs.SlLaysF0.n6 Tryz.prog Tryz.sortPl_ren:={
 mixed:=by kernel_rfl
 f6:=⟨Tryz.f168.name,by decide,Tryz.func168.trans (congrArg some (by kernel_rfl))⟩
 f14:=⟨Tryz.f232.name,by decide,Tryz.func232.trans (congrArg some (by kernel_rfl))⟩
 f15:=Tryz.func145.trans (congrArg some (by kernel_rfl))
 f20:=⟨Tryz.f288.name,by decide,Tryz.func288.trans (congrArg some (by kernel_rfl))⟩
 f21:=⟨Tryz.f289.name,by decide,Tryz.func289.trans (congrArg some (by kernel_rfl))⟩
 f22:=⟨Tryz.f290.name,by decide,Tryz.func290.trans (congrArg some (by kernel_rfl))⟩
 f23:=⟨Tryz.f291.name,by decide,Tryz.func291.trans (congrArg some (by kernel_rfl))⟩
 f24:=⟨Tryz.f292.name,by decide,Tryz.func292.trans (congrArg some (by kernel_rfl))⟩
 f25:=⟨Tryz.f293.name,by decide,Tryz.func293.trans (congrArg some (by kernel_rfl))⟩
 f26:=⟨Tryz.f294.name,by decide,Tryz.func294.trans (congrArg some (by kernel_rfl))⟩
 f27:=⟨Tryz.f295.name,by decide,Tryz.func295.trans (congrArg some (by kernel_rfl))⟩
 f28:=Tryz.func222.trans (congrArg some (by kernel_rfl))
 f29:=Tryz.func223.trans (congrArg some (by kernel_rfl))
 f46:=⟨Tryz.f333.name,by decide,Tryz.func333.trans (congrArg some (by kernel_rfl))⟩
 f47:=Tryz.func279.trans (congrArg some (by kernel_rfl))
 f48:=Tryz.func280.trans (congrArg some (by kernel_rfl))
 f49:=⟨Tryz.f334.name,by decide,Tryz.func334.trans (congrArg some (by kernel_rfl))⟩
 f50:=⟨Tryz.f335.name,by decide,Tryz.func335.trans (congrArg some (by kernel_rfl))⟩
 f57:=⟨Tryz.f351.name,by decide,Tryz.func351.trans (congrArg some (by kernel_rfl))⟩
 t0:=Tryz.underlying0
 a0:=Tryz.isAgg0
 z0:=Tryz.sizeOf0
 v0:=Tryz.zeroValue0
 t3:=Tryz.underlying3
 a3:=Tryz.isAgg3
 z3:=Tryz.sizeOf3
 v3:=Tryz.zeroValue3
 t4:=Tryz.underlying4
 a4:=Tryz.isAgg4
 z4:=Tryz.sizeOf4
 v4:=Tryz.zeroValue4
 t5:=Tryz.underlying5
 a5:=Tryz.isAgg5
 z5:=Tryz.sizeOf5
 v5:=Tryz.zeroValue5
 t9:=Tryz.underlying9
 a9:=Tryz.isAgg9
 z9:=Tryz.sizeOf9
 v9:=Tryz.zeroValue9
 t22:=Tryz.underlying129
 a22:=Tryz.isAgg129
 z22:=Tryz.sizeOf129
 v22:=Tryz.zeroValue129
 t25:=Tryz.underlying272
 a25:=Tryz.isAgg272
 z25:=Tryz.sizeOf272
 v25:=Tryz.zeroValue272
 t39:=Tryz.underlying92
 a39:=Tryz.isAgg92
 z39:=Tryz.sizeOf92
 v39:=Tryz.zeroValue92
 t45:=Tryz.underlying322
 a45:=Tryz.isAgg322
 z45:=Tryz.sizeOf322
 v45:=Tryz.zeroValue322
 t46:=Tryz.underlying323
 a46:=Tryz.isAgg323
 z46:=Tryz.sizeOf323
 v46:=Tryz.zeroValue323
 t50:=Tryz.underlying67
 a50:=Tryz.isAgg67
 z50:=Tryz.sizeOf67
 v50:=Tryz.zeroValue67
 t53:=Tryz.underlying135
 a53:=Tryz.isAgg135
 z53:=Tryz.sizeOf135
 v53:=Tryz.zeroValue135
 t55:=Tryz.underlying308
 a55:=Tryz.isAgg308
 z55:=Tryz.sizeOf308
 v55:=Tryz.zeroValue308
 t66:=Tryz.underlying383
 a66:=Tryz.isAgg383
 z66:=Tryz.sizeOf383
 v66:=Tryz.zeroValue383
 t70:=Tryz.underlying387
 a70:=Tryz.isAgg387
 z70:=Tryz.sizeOf387
 v70:=Tryz.zeroValue387
 t76:=Tryz.underlying416
 a76:=Tryz.isAgg416
 z76:=Tryz.sizeOf416
 v76:=Tryz.zeroValue416
 t77:=Tryz.underlying417
 a77:=Tryz.isAgg417
 z77:=Tryz.sizeOf417
 v77:=Tryz.zeroValue417 }
def Tryz.sortCh_ren:Go.Shelf.Ren:=⟨fun | 6=>98 | 15=>145 | 14=>173 | 28=>222 | 29=>223 | 20=>235 | 21=>236 | 22=>237 | 23=>238 | 24=>239 | 25=>240 | 26=>241 | 27=>242 | 46=>297 | 47=>279 | 48=>280 | 49=>298 | 50=>299 | 57=>338 | n=>n,fun | 22=>60 | 24=>75 | 25=>191 | 3=>3 | 39=>92 | 0=>0 | 53=>135 | 55=>308 | 4=>4 | 46=>323 | 45=>322 | 50=>67 | 5=>5 | 9=>9 | 66=>383 | 70=>387 | 76=>416 | 77=>417 | n=>n,fun | n=>n⟩
end Go.Proofs
namespace Ab
open Go Go.RowKit Go.Proofs
variable [Mode]
theorem Ufj {α β:Type} {k:Nat} (f:α→List β) (hk:0<k):∀ (z:List α),(∀ x∈z,(f x).length=k)→∀ i,(z.flatMap f)[i]? = (z[i / k]?).bind fun x=>(f x)[i % k]?:=by
 intro z
 induction z with
 | nil=>intro _ i;simp
 | cons x t ih =>
  intro h i
  have hx:=h x (by simp)
  rw [List.flatMap_cons]
  rcases Qzn i k with h1 | h1
  ·rw [Qzl (by omega),Nat.div_eq_of_lt h1,Nat.mod_eq_of_lt h1]
   rfl
  ·obtain ⟨j,rfl⟩:∃ j,i=j+k:=⟨i - k,by omega⟩
   rw [Qzr (by omega),hx,Nat.add_sub_cancel,ih (fun y hy=>h y (by simp [hy])),Nat.add_div_right _ hk,Nat.add_mod_right]
   rfl
theorem Ucb {α β:Type} (f:α→β):∀ {l m:List β},l.Perm m→∀ {z:List α},m=z.map f→∃ z':List α,z'.Perm z∧z'.map f=l:=by
 intro l m h
 induction h with
 | nil =>
  intro z hz
  obtain rfl:z=[]:=by simpa using hz.symm
  exact ⟨[],.nil,rfl⟩
 | cons x h ih =>
  intro z hz
  cases z with
  | nil=>simp at hz
  | cons a z =>
   simp at hz
   obtain ⟨z',h1,h2⟩:=ih hz.2
   exact ⟨a::z',h1.cons a,by simp [h2,hz.1]⟩
 | swap x y l =>
  intro z hz
  match z with
  | []=>simp at hz
  | [a]=>simp at hz
  | a::b::z =>
   simp at hz
   exact ⟨b::a::z,.swap a b z,by simp [hz.1,hz.2.1,hz.2.2]⟩
 | trans _ _ ih1 ih2 =>
  intro z hz
  obtain ⟨z2,h1,h2⟩:=ih2 hz
  obtain ⟨z1,h3,h4⟩:=ih1 h2.symm
  exact ⟨z1,h3.trans h1,h4⟩
theorem Wgr (b:Nat) (w:World) (c:Array Value) (e:TypeId) (fr:Nat × Nat) (f:Array Value→Array Value) (h:w.heap[b]? = some (.cells c e fr)):Go.Sort.mapBlock w b f=Xf w b (.cells (f c) e fr):=by
 unfold Go.Sort.mapBlock Xf
 congr 1
 apply Array.ext_getElem?
 intro k
 simp only [Array.getElem?_modify,Array.getElem?_setIfInBounds]
 obtain ⟨hlt,h2⟩:=Array.getElem?_eq_some_iff.1 h
 by_cases e1:b=k
 ·subst e1
  simp [hlt,h2,Go.Sort.onCells]
 ·simp [e1]
theorem Inv.sorted {α:Type} [Inhabited α] {C:Ctx} {σ:Za} (hI:Inv C σ) {r b k:Nat} {cs:List AV} (hk0:0<k) (hb:C.blk[r]? = some b) (hr:σ[r]? = some (.cells cs))
  (enc:α→List Value) (hk:∀ x,(enc x).length=k) (z:List (α × AV)) (d:Array α) (hd:d.toList=z.map Prod.fst) (hcs:z.length*k=cs.length)
  (hz:∀ x∈z,x.2.cells.length=k∧∀ (j:Nat) (y:AV) (v:Value),x.2.cells[j]? = some y→(enc x.1)[j]? = some v→VR C y v) (m:Nat) (os:Array Obj) :
  Ext C (C.at_ (sortWorldK enc k C.w b 0 m d os))∧Inv (C.at_ (sortWorldK enc k C.w b 0 m d os)) (σ.set r (.cells ((z.map Prod.snd).flatMap AV.cells))):=by
 have B1:Below C.w.heap.size C.w (Go.Sort.ahead C.w m):=⟨rfl,rfl,rfl,Nat.le_refl _,fun _ _=>rfl⟩
 have E1:=Ext.below hI.plt B1 (fun _=>Nat.le_add_right _ _)
 have I1:=hI.below B1
 obtain ⟨hnp,carr,e,lo,hi,hc,hsz,hfr,hrel⟩:=hI.cells hb hr
 have hc1:(Go.Sort.ahead C.w m).heap[b]? = some (.cells carr e (lo,hi)):=hc
 have hput:Go.Sort.putRowK enc k (Go.Sort.ahead C.w m) b 0 d=Xf (Go.Sort.ahead C.w m) b (.cells (Go.Sort.putCells id 0 (Go.Sort.flatK enc k d) carr) e (lo,hi)):=by
  unfold Go.Sort.putRowK Go.Sort.putRow
  exact Wgr _ _ _ _ _ _ hc1
 have hsize:(Go.Sort.putCells id 0 (Go.Sort.flatK enc k d) carr).size=carr.size:=by simp [Go.Sort.putCells]
 have hdl:d.size=z.length:=by rw [← Array.length_toList,hd,List.length_map]
 have hlen:((z.map Prod.snd).flatMap AV.cells).length=z.length*k:=by
  rw [Vao (k:=k) _ (fun x hx=>by
   obtain ⟨y,hy,rfl⟩:=List.mem_map.1 hx
   exact (hz y hy).1),List.length_map]
 have hshp:shp (.cells (Go.Sort.putCells id 0 (Go.Sort.flatK enc k d) carr) e (lo,hi))=shp (.cells carr e (lo,hi)):=by simp [shp,hsize]
 have E2:=Ext.set (C:=C.at_ (Go.Sort.ahead C.w m)) (o:=.cells (Go.Sort.putCells id 0 (Go.Sort.flatK enc k d) carr) e (lo,hi)) hc1 hnp hshp
 have I2:Inv ((C.at_ (Go.Sort.ahead C.w m)).at_ (Xf (C.at_ (Go.Sort.ahead C.w m)).w b (.cells (Go.Sort.putCells id 0 (Go.Sort.flatK enc k d) carr) e (lo,hi)))) (σ.set r (.cells ((z.map Prod.snd).flatMap AV.cells))):=by
  refine Inv.set I1 hb hr rfl hc1 hshp (.cells _ _ e lo hi (by rw [hlen,hsize,hcs];exact hsz) (by rw [hsize];exact hfr) fun i x c hx hc'=>?_)
  refine VR.ext (E1.trans E2) ?_
  have hi':=(Qzs.1 hx).1
  rw [hlen] at hi'
  rw [flat_get (k:=k) _ (fun x hx=>by
   obtain ⟨y,hy,rfl⟩:=List.mem_map.1 hx
   exact (hz y hy).1) hk0] at hx
  have hq:i / k<z.length:=(Nat.div_lt_iff_lt_mul hk0).2 hi'
  have hzi:z[i / k]? = some z[i / k]:=Qze hq
  rw [Qzp,hzi] at hx
  simp only [Option.map_some,Option.bind_some] at hx
  have hic:i<carr.size:=by omega
  have hd':d[i / k]! = z[i / k].1:=by
   have h1:d[i / k]? = some z[i / k].1:=by
    rw [← Array.getElem?_toList,hd,Qzp,hzi];rfl
   rw [getElem!_def,h1]
  have hval:c=(enc z[i / k].1)[i % k]'(by rw [hk];exact Nat.mod_lt _ hk0):=by
   have h2:(Go.Sort.putCells id 0 (Go.Sort.flatK enc k d) carr)[i]? = some ((enc z[i / k].1)[i % k]'(by rw [hk];exact Nat.mod_lt _ hk0)):=by
    unfold Go.Sort.putCells
    rw [Array.getElem?_mapIdx,Array.getElem?_eq_getElem hic]
    simp only [Option.map_some,Option.some.injEq]
    rw [if_pos (by rw [Go.Sort.size_flatK,hdl];omega)]
    show (Go.Sort.flatK enc k d)[i - 0]! = _
    rw [Nat.sub_zero,Go.Sort.get_flatK _ _ _ _ (by rw [hdl];exact hi'),hd',getElem!_pos]
   rw [h2] at hc'
   exact (Option.some.inj hc').symm
  refine (hz z[i / k] (List.getElem_mem hq)).2 (i % k) x c hx ?_
  rw [hval,Qze]
 have B3:Below (Xf (Go.Sort.ahead C.w m) b (.cells (Go.Sort.putCells id 0 (Go.Sort.flatK enc k d) carr) e (lo,hi))).heap.size (Xf (Go.Sort.ahead C.w m) b (.cells (Go.Sort.putCells id 0 (Go.Sort.flatK enc k d) carr) e (lo,hi)))
   (Go.Sort.grow (Xf (Go.Sort.ahead C.w m) b (.cells (Go.Sort.putCells id 0 (Go.Sort.flatK enc k d) carr) e (lo,hi))) os) :=
  ⟨rfl,rfl,rfl,by rw [Go.Sort.size_grow];omega,fun j hj=>Array.getElem?_append_left hj⟩
 have hW:sortWorldK enc k C.w b 0 m d os=Go.Sort.grow (Xf (Go.Sort.ahead C.w m) b (.cells (Go.Sort.putCells id 0 (Go.Sort.flatK enc k d) carr) e (lo,hi))) os:=by
  unfold sortWorldK
  rw [hput]
 have E3:=Ext.below I2.plt B3 (fun _=>Nat.le_refl _)
 have I3:=I2.below B3
 rw [hW]
 exact ⟨(E1.trans E2).trans E3,I3⟩
theorem Inv.holdsK {α:Type} [Inhabited α] {C:Ctx} {σ:Za} (hI:Inv C σ) {r b k:Nat} {cs:List AV} (hk0:0<k) (hb:C.blk[r]? = some b) (hr:σ[r]? = some (.cells cs))
  {carr:Array Value} {e:TypeId} {lo hi:Nat} (hc:C.w.heap[b]? = some (.cells carr e (lo,hi))) (hfr:Fr carr.size e lo hi)
  (enc:α→List Value) (hk:∀ x,(enc x).length=k) (d:Array α) (hd:∀ i,i<d.size*k→carr[i]? = (d.toList.flatMap enc)[i]?):Go.Sort.HoldsK enc k C.w b 0 d:=by
 intro j hj
 rw [Go.Sort.size_flatK] at hj
 have hq:j / k<d.size:=(Nat.div_lt_iff_lt_mul hk0).2 hj
 have h1:=hd j hj
 rw [Ufj enc hk0 _ (fun x _=>hk x),Array.getElem?_toList,Array.getElem?_eq_getElem hq] at h1
 simp only [Option.bind_some] at h1
 have hm:j % k<(enc d[j / k]).length:=by rw [hk];exact Nat.mod_lt _ hk0
 rw [Qze hm] at h1
 have hjc:=(Array.getElem?_eq_some_iff.1 h1).1
 refine ⟨?_,?_⟩
 ·rw [Nat.zero_add,Ya2 hc,h1,Go.Sort.get_flatK _ _ _ _ hj,getElem!_pos d (j / k) hq]
  show _=some ((enc d[j / k])[j % k]!)
  rw [getElem!_pos (enc d[j / k]) (j % k) hm]
 ·rw [Nat.zero_add]
  have:=hfr.1 j hjc
  simp only [World.frozen?,hc]
  simpa using this
theorem Yc1 {α:Type} [Inhabited α] {enc:α→List Value} {k B b m off:Nat} {w:World} (hB:B≤b) (hs:B≤w.heap.size) (dk:Array α) (os:Array Obj):Below B w (sortWorldK enc k w b off m dk os):=by
 refine ⟨rfl,rfl,rfl,?_,fun j hj=>?_⟩
 ·unfold sortWorldK
  rw [Go.Sort.size_grow,Go.Sort.size_putRowK]
  exact Nat.le_add_right _ _
 ·have h1:(sortWorldK enc k w b off m dk os).heap=(w.heap.modify b (Go.Sort.onCells (Go.Sort.putCells id off (Go.Sort.flatK enc k dk))))++os:=rfl
  rw [h1,Array.getElem?_append_left (by simp;omega),Array.getElem?_modify,if_neg (by omega)]
theorem Xdp {W w':World} (hb:Below W.heap.size W w') (hd:W.drawn≤w'.drawn):∃ q os',w'=Go.Sort.grow (W.drewN q) os':=by
 refine ⟨w'.drawn - W.drawn,w'.heap.extract W.heap.size w'.heap.size,?_⟩
 have hh:w'.heap=W.heap++w'.heap.extract W.heap.size w'.heap.size:=by
  apply Array.ext_getElem?
  intro i
  rcases Qzn i W.heap.size with h | h
  ·rw [Array.getElem?_append_left h,hb.block i h]
  ·rw [Array.getElem?_append_right h,Array.getElem?_extract]
   split
   ·rw [show W.heap.size+(i - W.heap.size)=i by omega]
   ·rename_i h2
    have hs:=hb.size
    rw [Array.getElem?_eq_none (by omega)]
 have h1:=hb.os
 have h2:=hb.tape
 have h3:=hb.output
 have h4:W.drawn+(w'.drawn - W.drawn)=w'.drawn:=by omega
 obtain ⟨heap,tape,drawn,os,output⟩:=w'
 unfold Go.Sort.grow World.drewN
 simp only at *
 rw [← hh,h4,h1,h2,h3]
end Ab
namespace Ab
open Go Go.RowKit Go.Proofs
structure El (m:Nat) where
 l:List Value
 len:l.length=m+2
 one:∀ v∈l,v.oneCell'=true
 a:Int
 b:Int
 key:∃ t,l=.int .i64 a::.int .i64 b::t
instance {m:Nat}:Inhabited (El m):=⟨⟨.int .i64 0::.int .i64 0::List.replicate m (.int .i64 0),by simp,fun v hv=>by
 simp at hv
 rcases hv with rfl | ⟨_,rfl⟩<;>rfl,0,0,⟨_,rfl⟩⟩⟩
def El.place {m:Nat} (x:El m):Oyez.Place:=⟨x.a,x.b⟩
def keyOf (x:AV):Oyez.Place:=match x.cells with
 | .int _ a::.int _ b::_=>⟨a,b⟩
 | _=>⟨0,0⟩
theorem Xa6 {m:Nat} (x y:El m):ltOf (fun x y:El m=>Ws x.place y.place) x y=x.place.lt y.place:=by
 unfold ltOf
 rw [Bool.eq_iff_iff,decide_eq_true_eq]
 exact Va8 _ _
theorem Wec {m:Nat}:Go.Sort.SWO (ltOf (fun x y:El m=>Ws x.place y.place)) where
 irrefl x:=by rw [Xa6];exact Oyez.Place.lt_irrefl _
 trans x y z h1 h2:=by rw [Xa6] at *;exact Oyez.Place.lt_trans h1 h2
 ntrans x y z h1 h2:=by
  rw [Xa6] at *
  rw [Bool.eq_false_iff] at *
  intro h
  rw [ne_eq,Oyez.Place.lt_iff] at h1 h2
  rw [Oyez.Place.lt_iff] at h
  omega
structure ElRow (m:Nat) (x:AV):Prop where
 ex:∃ a b t,x.cells=.int .i64 a::.int .i64 b::t∧t.length=m∧t.all AV.one=true
theorem ElRow.len {m:Nat} {x:AV} (h:ElRow m x):x.cells.length=m+2:=by
 obtain ⟨a,b,t,h1,h2,_⟩:=h.ex
 rw [h1];simp [h2]
theorem pick {C:Ctx} {m:Nat}:∀ (rows:List AV) (vs:List Value),(∀ x∈rows,ElRow m x)→vs.length=rows.length*(m+2) →
  (∀ (i:Nat) (x:AV) (v:Value),(rows.flatMap AV.cells)[i]? = some x→vs[i]? = some v→VR C x v) →
  ∃ z:List (El m × AV),z.map Prod.snd=rows∧(z.flatMap fun x=>x.1.l)=vs∧∀ x∈z,x.2.cells.length=m+2∧keyOf x.2=x.1.place∧∀ (j:Nat) (y:AV) (v:Value),x.2.cells[j]? = some y→x.1.l[j]? = some v→VR C y v:=by
 intro rows
 induction rows with
 | nil =>
  intro vs _ hl _
  obtain rfl:vs=[]:=List.eq_nil_of_length_eq_zero (by simpa using hl)
  exact ⟨[],rfl,rfl,by simp⟩
 | cons x t ih =>
  intro vs hrow hl hv
  have hx:=hrow x (by simp)
  have hxl:=hx.len
  obtain ⟨a,b,u,hc,hu,hone⟩:=hx.ex
  rw [List.length_cons,Nat.add_mul,Nat.one_mul] at hl
  obtain ⟨z,h1,h2,h3⟩:=ih (vs.drop (m+2)) (fun y hy=>hrow y (by simp [hy])) (by rw [List.length_drop];omega) (fun i y v hy hv'=>by
   rw [List.getElem?_drop] at hv'
   refine hv (m+2+i) y v ?_ hv'
   rw [List.flatMap_cons,Qzr (by omega),hxl,Nat.add_sub_cancel_left]
   exact hy)
  have hrel:∀ (j:Nat) (y:AV) (v:Value),x.cells[j]? = some y→(vs.take (m+2))[j]? = some v→VR C y v:=by
   intro j y v hy hv'
   have hj:=(Qzs.1 hy).1
   rw [List.getElem?_take_of_lt (by omega)] at hv'
   refine hv j y v ?_ hv'
   rw [List.flatMap_cons,Qzl hj]
   exact hy
  have htl:(vs.take (m+2)).length=m+2:=by rw [List.length_take];omega
  have h0:=hrel 0 (.int .i64 a) ((vs.take (m+2))[0]'(by omega)) (by rw [hc];rfl) (Qze _)
  have h0':=hrel 1 (.int .i64 b) ((vs.take (m+2))[1]'(by omega)) (by rw [hc];rfl) (Qze _)
  have hkey:∃ t,vs.take (m+2)=.int .i64 a::.int .i64 b::t:=by
   have e0:=h0.int_inv
   have e1:=h0'.int_inv
   match hw:vs.take (m+2),htl with
   | [],h=>simp at h
   | [q],h=>simp at h
   | p::q::t,_ =>
    simp only [hw,List.getElem_cons_zero] at e0
    simp only [hw,List.getElem_cons_succ,List.getElem_cons_zero] at e1
    exact ⟨t,by rw [e0,e1]⟩
  have hones:∀ v∈vs.take (m+2),v.oneCell'=true:=by
   intro v hv'
   obtain ⟨j,hj,rfl⟩:=List.getElem_of_mem hv'
   have hjx:j<x.cells.length:=by omega
   refine (hrel j _ _ (Qze hjx) (Qze hj)).oneCell ?_
   have hmem:=List.getElem_mem hjx
   have hall:∀ y∈x.cells,y.one=true:=by
    rw [hc]
    intro y hy
    simp only [List.mem_cons] at hy
    rcases hy with rfl | rfl | hy
    ·rfl
    ·rfl
    ·exact List.all_eq_true.1 hone y hy
   exact hall _ hmem
  refine ⟨(⟨vs.take (m+2),htl,hones,a,b,hkey⟩,x)::z,by simp [h1],?_,?_⟩
  ·rw [List.flatMap_cons,h2]
   exact List.take_append_drop _ _
  ·intro w hw
   rcases List.mem_cons.1 hw with rfl | hw
   ·refine ⟨hxl,?_,hrel⟩
    show keyOf x=_
    unfold keyOf
    rw [hc]
    rfl
   ·exact h3 w hw
theorem Vdk {m:Nat} {ρ:Go.Shelf.Ren} (L:SlLaysF0.n6 Tryz.prog ρ) {g fid:FuncId} (hf:ρ.f 6=fid) (hen:Enters Tryz.prog fid) (aE:∀ w,(isAgg (ρ.t 24)).run Tryz.prog w=.ok true w) (zE:∀ w,(Go.sizeOf (ρ.t 24)).run Tryz.prog w=.ok (m+2) w)
  (eg:Enters Tryz.prog g) (hcmp:∀ (x y:El m) (W:World),GoodW W→Calls Tryz.prog g #[.agg x.l.toArray,.agg y.l.toArray] W fun e w'=>e=.returned (.int .i64 (Ws x.place y.place))∧∃ q os',w'=Go.Sort.grow (W.drewN q) os')
  {σ:Za} {r:Nat} (rows:List AV) (hrow:∀ x∈rows,ElRow m x) (hr:σ[r]? = some (.cells (rows.flatMap AV.cells))) (hn:rows.length<4611686018427387904) :
  ACalls Tryz.prog fid [.arr (m+2) r 0 rows.length,.fn (.func g) [] []] σ fun v σ'=>v=.tup []∧∃ rows':List AV,rows'.Perm rows∧rows'.Pairwise (fun x y=>(keyOf y).lt (keyOf x)=false)∧σ'=σ.set r (.cells (rows'.flatMap AV.cells)):=by
 refine .inl ⟨hen,fun C cargs hI hv=>callsIn_wide.2 ?_⟩
 obtain ⟨x,q,rfl,hx,hq⟩:=hv.inv
 obtain ⟨y,q,rfl,hy,hq⟩:=hq.inv
 obtain rfl:=hq.of_nil
 obtain ⟨b,cap,e0,n0,hb,_,_,_,rfl⟩:=hx.arr_inv
 obtain ⟨cs,ds,rfl,hcs,hds⟩:=hy.fn_inv
 obtain rfl:=hcs.of_nil
 obtain rfl:=hds.of_nil
 obtain ⟨hnp,carr,e,lo,hi,hc,hsz,hfr,hrel⟩:=hI.cells hb hr
 have hflen:(rows.flatMap AV.cells).length=rows.length*(m+2):=Vao _ fun x hx=>(hrow x hx).len
 have hcl:carr.toList.length=carr.size:=by simp
 obtain ⟨z,hz1,hz2,hz3⟩:=pick (C:=C) rows (carr.toList.take (rows.length*(m+2))) hrow (by rw [List.length_take,hcl];omega) (fun i x v hx hv=>by
  have hi:=(Qzs.1 hx).1
  rw [List.getElem?_take_of_lt (by omega),Array.getElem?_toList] at hv
  exact hrel i x v hx hv)
 have hzl:z.length=rows.length:=by rw [← hz1,List.length_map]
 have hk0:0<m+2:=by omega
 have hH:Go.Sort.HoldsK (fun x:El m=>x.l) (m+2) C.w b 0 (z.map Prod.fst).toArray:=by
  refine hI.holdsK hk0 hb hr hc hfr _ (fun x=>x.len) _ fun i hi=>?_
  have hi2:i<rows.length*(m+2):=by simpa [hzl] using hi
  have:((z.map Prod.fst).toArray.toList.flatMap fun x:El m=>x.l)=carr.toList.take (rows.length*(m+2)):=by
   rw [← hz2]
   simp [List.flatMap_map]
  rw [this,List.getElem?_take_of_lt hi2,Array.getElem?_toList]
 have hblk:b<C.w.heap.size:=(Array.getElem?_eq_some_iff.1 hc).1
 have key:=AnyQ.slices_SortFunc (α:=El m) L (m+2) aE zE (fun x=>x.l) (fun x=>x.len) (fun x=>x.one) (fun x y=>Ws x.place y.place) Wec g #[] b 0 cap (z.map Prod.fst).toArray C.w eg
  (fun m' os dk hdk x y=>by simpa using hcmp x y _ (hI.glob.below (hI.base.trans (Yc1 (Nat.le_of_not_lt fun h=>hnp (hI.basep b h)) hI.base.size dk os)))) hH hblk (by simpa [hzl] using hn)
 rw [hf] at key
 have hsize:(z.map Prod.fst).toArray.size=rows.length:=by simp [hzl]
 rw [hsize] at key
 have hargs:(#[.slice (some ⟨b,0,none⟩) rows.length cap,.func (.func g) #[] #[]]:Array Value)=[.slice (some ⟨b,0*(m+2),none⟩) rows.length cap,.func (.func g) ([]:List Value).toArray ([]:List Value).toArray].toArray:=by
  rw [Nat.zero_mul]
 rw [hargs] at key
 refine key.mono ?_
 rintro e w' ⟨rfl,d',n,os,hperm,hsort,rfl⟩
 obtain ⟨hps,_,hpp⟩:=hperm
 have hperm':d'.toList.Perm (z.map Prod.fst):=by
  have h1:(d'.extract 0 rows.length)=d':=by rw [← hsize,← hps];exact Array.extract_size
  have h2:((z.map Prod.fst).toArray.extract 0 rows.length)=(z.map Prod.fst).toArray:=by rw [← hsize];exact Array.extract_size
  rw [h1,h2] at hpp
  simpa using hpp
 obtain ⟨z',hz'p,hz'm⟩:=Ucb Prod.fst hperm' rfl
 have hz'l:z'.length=rows.length:=by rw [hz'p.length_eq,hzl]
 have hz3':∀ x∈z',x.2.cells.length=m+2∧keyOf x.2=x.1.place∧∀ (j:Nat) (y:AV) (v:Value),x.2.cells[j]? = some y→x.1.l[j]? = some v→VR C y v:=fun x hx=>hz3 x (hz'p.mem_iff.1 hx)
 obtain ⟨hE,hI'⟩:=hI.sorted hk0 hb hr (fun x:El m=>x.l) (fun x=>x.len) z' d' hz'm.symm (by rw [hz'l,hflen]) (fun x hx=>⟨(hz3' x hx).1,(hz3' x hx).2.2⟩) n os
 refine ⟨_,C.at_ _,.tup [],_,rfl,rfl,hE,hI',.tup [] [] rfl (by simp),rfl,z'.map Prod.snd,?_,?_,rfl⟩
 ·rw [← hz1]
  exact hz'p.map _
 ·rw [List.pairwise_map,List.pairwise_iff_getElem]
  intro i j hi hj hij
  have hd:∀ (i:Nat) (hi:i<z'.length),d'[i]! = z'[i].1:=by
   intro i hi
   have h1:d'[i]? = some z'[i].1:=by
    rw [← Array.getElem?_toList,← hz'm,Qzp,Qze hi];rfl
   rw [getElem!_def,h1]
  have h:=hsort i j (Nat.zero_le _) hij (by omega)
  rw [hd i hi,hd j hj,Xa6] at h
  rw [(hz3' _ (List.getElem_mem hi)).2.1,(hz3' _ (List.getElem_mem hj)).2.1]
  exact h
end Ab
namespace Ab
open Go Go.RowKit Go.Proofs
attribute [local irreducible] aws awp aw1 Og Om Oc Oa Ogd Ov Ot awd Zb awh Xb Ogh Ohd awl Ogl Ohl Wb Vb QFn Ub QRo QBe ACode AYield
section
variable [Mode]
theorem Ya5 (n:Int):APure Tryz.prog 243 [.int .i64 n] (.bool false)∧APure Tryz.prog 229 [.int .i64 n] (.bool false):=by
 constructor
 ·intro σ
  refine Yb Tryz.func243 rfl (Va Tryz.func243 (by decide) rfl) ?_
  simp [Tryz.ntmps243]
 ·intro σ
  refine Yb Tryz.func229 rfl (Va Tryz.func229 (by decide) rfl) ?_
  simp [Tryz.ntmps229]
theorem Xe0 (a b:Int):APure Tryz.prog 175 [.int .i64 a,.int .i64 b] (.int .i64 (Uk a b)):=by
 intro σ
 refine Yb Tryz.func175 rfl (Va Tryz.func175 (by decide) rfl) ?_
 simp [Tryz.ntmps175]
 refine (Ya5 _).1.use ?_
 refine (Ya5 _).1.use ?_
 by_cases h:a<b
 ·simp [Uk,h]
 ·by_cases h2:b<a
  ·simp [Uk,h,h2]
  ·simp [Uk,h,h2]
theorem Ue7 (a b:Int):APure Tryz.prog 155 [.int .i64 a,.int .i64 b] (.int .i64 (Uk a b)):=by
 intro σ
 refine Yb Tryz.func155 rfl (Va Tryz.func155 (by decide) rfl) ?_
 simp [Tryz.ntmps155]
 refine (Ya5 _).2.use ?_
 refine (Ya5 _).2.use ?_
 by_cases h:a<b
 ·simp [Uk,h]
 ·by_cases h2:b<a
  ·simp [Uk,h,h2]
  ·simp [Uk,h,h2]
theorem Zgz (a b:Int) (σ:Za) (r:Nat) (h:σ[r]? = some (.cells [.int .i64 a,.int .i64 b])):ACalls Tryz.prog 174 [.arr 1 r 0 2] σ (fun v σ'=>v=.int .i64 (if a≠0 then a else b)∧σ'=σ):=by
 refine Yb Tryz.func174 rfl (Va Tryz.func174 (by decide) rfl) ?_
 simp [Tryz.ntmps174]
 refine Vd (fun env σ'=>∃ (u:List AV) (i:Nat),env={ t:=u }∧u.length=18∧tg u 3=.int .i64 0∧tg u 6=.arr 1 r 0 2∧tg u 7=.int .i64 2∧tg u 8=.int .i64 i∧σ'=σ∧i≤2∧(0<i→a=0)∧(1<i→b=0))
  (fun env _=>match tg env.t 8 with | .int _ i=>2 - i.toNat | _=>0) ⟨_,0,rfl,by simp,by simp,by simp,by simp,by simp,rfl,by omega,by omega,by omega⟩ ?_
 rintro env σ' ⟨u,i,rfl,hl,g3,g6,g7,g8,rfl,hi,ha,hb⟩
 match i,hi with
 | 0,_ =>
  by_cases h0:a=0
  ·have hw:=w64 (n:=(1:Int)) (by omega) (by omega)
   simp [hl,g3,g6,g7,g8,h,h0,hw]
   exact ⟨1,rfl,by omega,by omega⟩
  ·simp [hl,g3,g6,g7,g8,h,h0]
 | 1,_ =>
  have h0:=ha (by omega)
  by_cases h1:b=0
  ·have hw:=w64 (n:=(2:Int)) (by omega) (by omega)
   simp [hl,g3,g6,g7,g8,h,h0,h1,hw]
   exact ⟨2,rfl,by omega⟩
  ·simp [hl,g3,g6,g7,g8,h,h0,h1]
 | 2,_ =>
  have h0:=ha (by omega)
  have h1:=hb (by omega)
  simp [hl,g3,g6,g7,g8,h,h0,h1]
theorem Xf0 (p q:Oyez.Place):APure Tryz.prog 100 [Ve p,Ve q] (.int .i64 (Ws p q)):=by
 refine APure.of fun σ=>?_
 refine Yb Tryz.func100 rfl (Va Tryz.func100 (by decide) rfl) ?_
 simp [Tryz.ntmps100]
 refine Vag [10] mixed (by kernel_rfl) ?_
 simp
 refine Wy (Xe0 _ _) ?_
 refine Wy (Ue7 _ _) ?_
 simp
 refine Ya4 (Zgz (Uk p.kind q.kind) (Uk p.number q.number) _ (σ.length+2) (by simp)) ?_
 unfold Ws
 simp
end
abbrev Xan:Mode:=⟨True⟩
theorem Wd8 {f:FuncId} {args:List AV} {n:Int} (hen:Enters Tryz.prog f) (h:@APure Xan Tryz.prog f args (.int .i64 n)) {W:World} (hW:GoodW W) {cargs:List Value} (hv:∀ C:Ctx,C.w=W→C.blk=[]→VRs C args cargs) :
  Calls Tryz.prog f cargs.toArray W fun e w'=>e=.returned (.int .i64 n)∧∃ q os',w'=Go.Sort.grow (W.drewN q) os':=by
 have hI:Inv ⟨W,[],fun b=>b<W.heap.size,W⟩ []:=⟨rfl,hW,Below.refl _ _,fun b hb=>hb,fun b hb=>hb,fun r b o h=>by simp at h,fun r r' b o o' h=>by simp at h⟩
 rcases h [] with h | h
 ·refine (callsIn_wide.1 (h.2 _ cargs hI (hv _ rfl rfl))).mono ?_
  rintro e w' ⟨v,C',av,σ',rfl,rfl,hE,hI',hv',rfl,rfl⟩
  refine ⟨by rw [hv'.int_inv],?_⟩
  have hb':=hI'.base
  rw [@Ext.w0 Xan _ _ hE] at hb'
  exact Xdp ⟨hb'.os,hb'.tape,hb'.output,@Ext.size Xan _ _ hE,fun k hk=>@Ext.keep Xan _ _ hE k hk⟩ (@Ext.drawn Xan _ _ hE trivial)
 ·obtain ⟨c,C',av,σ',hr,_⟩:=h _ cargs hI (hv _ rfl rfl)
  rw [hen] at hr
  cases hr
theorem Yd7 (x y:El 0) (W:World) (hW:GoodW W):Calls Tryz.prog 100 #[.agg x.l.toArray,.agg y.l.toArray] W fun e w'=>e=.returned (.int .i64 (Ws x.place y.place))∧∃ q os',w'=Go.Sort.grow (W.drewN q) os':=by
 have hx:∀ x:El 0,x.l=[.int .i64 x.a,.int .i64 x.b]:=by
  intro x
  obtain ⟨t,ht⟩:=x.key
  have:=x.len
  rw [ht] at this
  obtain rfl:t=[]:=List.eq_nil_of_length_eq_zero (by simpa using this)
  exact ht
 have key:=Wd8 (Va Tryz.func100 (by decide) rfl) (@Xf0 Xan x.place y.place) hW (cargs:=[.agg x.l.toArray,.agg y.l.toArray]) (fun C _ _=>by
  have one:∀ x:El 0,VR C (Ve x.place) (.agg x.l.toArray):=fun x=>by
   rw [hx x]
   exact .agg _ _ rfl fun i a c ha hc=>by
    match i,ha,hc with
    | 0,ha,hc=>simp at ha hc;subst ha;subst hc;exact .int _ _
    | 1,ha,hc=>simp at ha hc;subst ha;subst hc;exact .int _ _
    | i+2,ha,_=>simp at ha
  exact .cons (one x) (.cons (one y) (.nil C)))
 exact key
theorem Weg {σ:Za} {r:Nat} (l:List Oyez.Place) (hr:σ[r]? = some (.cells ((l.map Ve).flatMap AV.cells))) (hn:l.length≤2^40) :
  ACalls Tryz.prog 168 [.arr 2 r 0 l.length,.fn (.func 100) [] []] σ fun v σ'=>v=.tup []∧∃ l':List Oyez.Place,l'.Perm l∧l'.Pairwise (fun p q=>q.lt p=false)∧σ'=σ.set r (.cells ((l'.map Ve).flatMap AV.cells)):=by
 have h:=Vdk (m:=0) Tryz.sortPl (g:=100) (fid:=168) rfl (Va Tryz.func168 (by decide) rfl) Tryz.isAgg177 Tryz.sizeOf177 (Va Tryz.func100 (by decide) rfl) Yd7 (l.map Ve) (fun x hx=>by
  obtain ⟨p,_,rfl⟩:=List.mem_map.1 hx
  exact ⟨p.kind,p.number,[],rfl,rfl,rfl⟩) hr (by rw [List.length_map];omega)
 rw [List.length_map] at h
 refine h.mono ?_
 rintro v σ' ⟨hv,rows',hp,hs,rfl⟩
 obtain ⟨l',hl',rfl⟩:=Ucb Ve hp rfl
 refine ⟨hv,l',hl',?_,rfl⟩
 rw [List.pairwise_map] at hs
 exact hs
end Ab

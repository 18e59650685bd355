/-
  Texts packed for a claim.
-/
import Derived.Test.YtcoikmapjepdjaaGreatDoorE00
import Derived.RangeFuncIn
import Derived.Below
import Derived.Test.YtcoikmapjepdjaaGreatDoorProg
import Derived.Lib.LaidTab
import Derived.Lib.ItoaNum
import Derived.WalkKit
import Derived.ChangeKeysEq
import Derived.Laws.StructEq
set_option linter.all false
namespace Ab
open Go Go.RowKit
class Mode where
 strict:Prop
variable [Mode]
def Kt (k:Nat) (e:TypeId):Prop:=k=1∨e≠5
inductive AV where
 | any
 | bool (b:Bool)
 | int (k:IntKind) (n:Int)
 | str (s:List UInt8)
 | nilp
 | ptr (r off:Nat)
 | pp (k:Nat) (l:List AV) (i j:Nat)
 | gl (g:Nat)
 | nils
 | emp
 | nn
 | pl (k:Nat) (l:List AV)
 | arr (k r off len:Nat)
 | arc (k r off len cap:Nat)
 | nilm
 | mp (r:Nat)
 | nilf
 | fn (f:Fn) (first caps:List AV)
 | yld (r:Nat)
 | nili
 | un
 | iface (t:TypeId) (v:AV)
 | agg (l:List AV)
 | tup (l:List AV)
 deriving Inhabited
def AV.cells:AV→List AV
 | .agg l=>l
 | v=>[v]
def AV.one:AV→Bool
 | .any | .agg _ | .tup _=>false
 | _=>true
def AV.known:AV→Bool
 | .any | .tup _=>false
 | .agg l=>l.all AV.one
 | _=>true
structure Ctx where
 w0:World
 blk:List Nat
 pers:Nat→Prop
 w:World
inductive VR (C:Ctx):AV→Value→Prop
 | any (c:Value):VR C .any c
 | bool (b:Bool):VR C (.bool b) (.bool b)
 | int (k:IntKind) (n:Int):VR C (.int k n) (.int k n)
 | str (s:List UInt8):VR C (.str s) (.string ⟨⟨s⟩⟩)
 | nilp:VR C .nilp (.pointer none)
 | ptr (r off b:Nat):C.blk[r]? = some b→VR C (.ptr r off) (.pointer (some ⟨b,off,none⟩))
 | pp (k:Nat) (l:List AV) (i j b o:Nat) (f:Nat→Nat→Value):C.pers b→i<l.length →
   (∀ (i:Nat) (x:AV),l[i]? = some x→x.cells.length=k∧∀ (j:Nat) (y:AV),x.cells[j]? = some y→y.one=true∧C.w.cell? ⟨b,o+i*k+j,none⟩=some (f i j)) →
   (∀ (i:Nat) (x:AV),l[i]? = some x→∀ (j:Nat) (y:AV),x.cells[j]? = some y→VR C y (f i j)) →
   VR C (.pp k l i j) (.pointer (some ⟨b,o+i*k+j,none⟩))
 | gl (g:Nat):VR C (.gl g) (.pointer (some ⟨g,0,none⟩))
 | nils:VR C .nils (.slice none 0 0)
 | emp (A:Option Addr):VR C .emp (.slice A 0 0)
 | nn (a:Addr) (cap:Nat):VR C .nn (.slice (some a) 0 cap)
 | pl0 (k:Nat) (A:Option Addr) (cap:Nat):(A=none→cap=0)→VR C (.pl k []) (.slice A 0 cap)
 | pl (k:Nat) (l:List AV) (b o n cap:Nat) (f:Nat→Nat→Value):C.pers b→n=l.length→n≤cap →
   (∀ (i:Nat) (x:AV),l[i]? = some x→x.cells.length=k∧∀ (j:Nat) (y:AV),x.cells[j]? = some y→y.one=true∧C.w.cell? ⟨b,o+i*k+j,none⟩=some (f i j)) →
   (∀ (i:Nat) (x:AV),l[i]? = some x→∀ (j:Nat) (y:AV),x.cells[j]? = some y→VR C y (f i j)) →
   VR C (.pl k l) (.slice (some ⟨b,o,none⟩) n cap)
 | arr (k r off len b cap e n:Nat):C.blk[r]? = some b→len≤cap→C.w.shape? b=some (e,n)→(off+cap)*k≤n∧Kt k e→VR C (.arr k r off len) (.slice (some ⟨b,off*k,none⟩) len cap)
 | arc (k r off len b cap e n:Nat):C.blk[r]? = some b→len≤cap→C.w.shape? b=some (e,n)→(off+cap)*k≤n∧Kt k e→VR C (.arc k r off len cap) (.slice (some ⟨b,off*k,none⟩) len cap)
 | nilm:VR C .nilm (.map none)
 | mp (r b:Nat):C.blk[r]? = some b→VR C (.mp r) (.map (some b))
 | nilf:VR C .nilf .nilFunc
 | fn (f:Fn) (xs ys:List AV) (cs ds:List Value) (hx:xs.length=cs.length) (hy:ys.length=ds.length) :
   (∀ (i:Nat) (x:AV) (c:Value),xs[i]? = some x→cs[i]? = some c→VR C x c)→(∀ (i:Nat) (x:AV) (c:Value),ys[i]? = some x→ds[i]? = some c→VR C x c) →
   VR C (.fn f xs ys) (.func f cs.toArray ds.toArray)
 | yld (r b:Nat):C.blk[r]? = some b→VR C (.yld r) (.func (.yield b) #[] #[])
 | nili:VR C .nili .nilIface
 | un (c:Value):c.oneCell'=true→VR C .un c
 | iface (t:TypeId) (v:AV) (c:Value):VR C v c→VR C (.iface t v) (.iface t c)
 | agg (l:List AV) (cs:List Value) (hl:l.length=cs.length):(∀ (i:Nat) (x:AV) (c:Value),l[i]? = some x→cs[i]? = some c→VR C x c)→VR C (.agg l) (.agg cs.toArray)
 | tup (l:List AV) (cs:List Value) (hl:l.length=cs.length):(∀ (i:Nat) (x:AV) (c:Value),l[i]? = some x→cs[i]? = some c→VR C x c)→VR C (.tup l) (.tuple cs.toArray)
structure VRs (C:Ctx) (xs:List AV) (cs:List Value):Prop where
 len:xs.length=cs.length
 at_:∀ (i:Nat) (x:AV) (c:Value),xs[i]? = some x→cs[i]? = some c→VR C x c
theorem VRs.nil (C:Ctx):VRs C [] []:=⟨rfl,fun i x c h=>by simp at h⟩
theorem VRs.cons {C:Ctx} {x:AV} {c:Value} {xs:List AV} {cs:List Value} (h:VR C x c) (hs:VRs C xs cs):VRs C (x::xs) (c::cs) :=
 ⟨by simp [hs.len],fun i y d hy hd=>by
  cases i with
  | zero=>simp at hy hd;subst hy;subst hd;exact h
  | succ i=>simp at hy hd;exact hs.at_ i y d hy hd⟩
theorem VRs.inv {C:Ctx} {x:AV} {xs:List AV} {cs:List Value} (h:VRs C (x::xs) cs):∃ c cs',cs=c::cs'∧VR C x c∧VRs C xs cs':=by
 obtain ⟨hl,ha⟩:=h
 cases cs with
 | nil=>simp at hl
 | cons c cs=>exact ⟨c,cs,rfl,ha 0 x c rfl rfl,⟨by simpa using hl,fun i y d hy hd=>ha (i+1) y d (by simpa using hy) (by simpa using hd)⟩⟩
theorem VRs.append {C:Ctx} {xs ys:List AV} {cs ds:List Value} (h:VRs C xs cs) (h':VRs C ys ds):VRs C (xs++ys) (cs++ds):=by
 induction xs generalizing cs with
 | nil=>obtain ⟨hl,_⟩:=h;cases cs with
  | nil=>exact h'
  | cons c cs=>simp at hl
 | cons x xs ih=>obtain ⟨c,cs',rfl,hx,hs⟩:=h.inv;exact .cons hx (ih hs)
theorem VRs.of_nil {C:Ctx} {cs:List Value} (h:VRs C [] cs):cs=[]:=by have:=h.len;cases cs<;>simp_all
structure Ext (C C':Ctx):Prop where
 w0:C'.w0=C.w0
 blk:∃ e,C'.blk=C.blk++e
 pers:∀ b,C.pers b→C'.pers b
 keep:∀ b,C.pers b→C'.w.heap[b]? = C.w.heap[b]?
 shape:∀ b s,C.w.shape? b=some s→C'.w.shape? b=some s
 size:C.w.heap.size≤C'.w.heap.size
 drawn:Mode.strict→C.w.drawn≤C'.w.drawn
theorem Ext.refl (C:Ctx):Ext C C:=⟨rfl,⟨[],by simp⟩,fun _ h=>h,fun _ _=>rfl,fun _ _ h=>h,Nat.le_refl _,fun _=>Nat.le_refl _⟩
theorem Ext.trans {A B C:Ctx} (h:Ext A B) (h':Ext B C):Ext A C:=by
 obtain ⟨e,he⟩:=h.blk
 obtain ⟨e',he'⟩:=h'.blk
 exact ⟨h'.w0.trans h.w0,⟨e++e',by rw [he',he,List.append_assoc]⟩,fun b hb=>h'.pers b (h.pers b hb),
  fun b hb=>(h'.keep b (h.pers b hb)).trans (h.keep b hb),fun b s hs=>h'.shape b s (h.shape b s hs),Nat.le_trans h.size h'.size,fun m=>Nat.le_trans (h.drawn m) (h'.drawn m)⟩
theorem Ext.blk_at {C C':Ctx} (h:Ext C C') {r b:Nat} (hr:C.blk[r]? = some b):C'.blk[r]? = some b:=by
 obtain ⟨e,he⟩:=h.blk
 rw [he,Qzl (Qzs.1 hr).1];exact hr
theorem Ext.cell {C C':Ctx} (h:Ext C C') {b o:Nat} (hb:C.pers b):C'.w.cell? ⟨b,o,none⟩=C.w.cell? ⟨b,o,none⟩ :=
 World.cell?_of_block (w:=C.w) (h.keep b hb)
theorem VR.ext {C C':Ctx} (h:Ext C C') {x:AV} {c:Value} (hv:VR C x c):VR C' x c:=by
 induction hv with
 | any c=>exact .any c
 | bool b=>exact .bool b
 | int k n=>exact .int k n
 | str s=>exact .str s
 | nilp=>exact .nilp
 | ptr r off b hr=>exact .ptr r off b (h.blk_at hr)
 | pp k l i j b o f hp hi hc _ ih=>exact .pp k l i j b o f (h.pers b hp) hi (fun i x hx=>⟨(hc i x hx).1,fun j y hy=>⟨((hc i x hx).2 j y hy).1,(h.cell hp).trans ((hc i x hx).2 j y hy).2⟩⟩) ih
 | gl g=>exact .gl g
 | nils=>exact .nils
 | emp A=>exact .emp A
 | nn a cap=>exact .nn a cap
 | pl0 k A cap h=>exact .pl0 k A cap h
 | pl k l b o n cap f hp hn hcap hc _ ih=>exact .pl k l b o n cap f (h.pers b hp) hn hcap (fun i x hx=>⟨(hc i x hx).1,fun j y hy=>⟨((hc i x hx).2 j y hy).1,(h.cell hp).trans ((hc i x hx).2 j y hy).2⟩⟩) ih
 | arr k r off len b cap e n hr hl hs hb=>exact .arr k r off len b cap e n (h.blk_at hr) hl (h.shape b _ hs) hb
 | arc k r off len b cap e n hr hl hs hb=>exact .arc k r off len b cap e n (h.blk_at hr) hl (h.shape b _ hs) hb
 | nilm=>exact .nilm
 | mp r b hr=>exact .mp r b (h.blk_at hr)
 | nilf=>exact .nilf
 | fn f xs ys cs ds hx hy _ _ ih1 ih2=>exact .fn f xs ys cs ds hx hy ih1 ih2
 | yld r b hr=>exact .yld r b (h.blk_at hr)
 | nili=>exact .nili
 | un c hc=>exact .un c hc
 | iface t v c _ ih=>exact .iface t v c ih
 | agg l cs hl _ ih=>exact .agg l cs hl ih
 | tup l cs hl _ ih=>exact .tup l cs hl ih
theorem VRs.ext {C C':Ctx} (h:Ext C C') {xs:List AV} {cs:List Value} (hv:VRs C xs cs):VRs C' xs cs :=
 ⟨hv.len,fun i x c hx hc=>(hv.at_ i x c hx hc).ext h⟩
theorem VR.cells {C:Ctx} {x:AV} {c:Value} (h:VR C x c) (hx:x.known=true):VRs C x.cells c.cells.toList:=by
 cases h with
 | any c=>simp [AV.known] at hx
 | agg l cs hl ha=>exact ⟨by simpa [AV.cells,Value.cells] using hl,by simpa [AV.cells,Value.cells] using ha⟩
 | tup l cs hl ha=>simp [AV.known] at hx
 | un c hc =>
  have e:c.cells.toList=[c]:=by cases c<;>first | rfl | (simp [Value.oneCell'] at hc)
  rw [e]
  exact .cons (.un c hc) (.nil C)
 | _=>(first | exact .cons (by constructor<;>assumption) (.nil C) | exact .cons (by assumption) (.nil C) | skip)
end Ab
namespace Ab
open Go Go.RowKit Go.Proofs
variable [Mode]
structure GoodW (w:World):Prop where
 pow:Lib.TabIs Tryz.prog w "internal/strconv.uint64pow10" .u64 Lib.pow10Tab
theorem GoodW.below {w w':World} (h:GoodW w) (hb:Below w.heap.size w w'):GoodW w':=by
 have key:∀ (s:String) (cs:Array Value),w.var? Tryz.prog s=some cs→w'.var? Tryz.prog s=some cs:=by
  intro s cs hs
  unfold World.var? at hs ⊢
  cases hg:Tryz.prog.globalNamed s with
  | none=>rw [hg] at hs;cases hs
  | some g =>
   rw [hg] at hs
   simp only [Option.bind_some] at hs ⊢
   have hlt:g<w.heap.size:=by
    rcases Qzn g w.heap.size with h | h
    ·exact h
    ·rw [Array.getElem?_eq_none h] at hs;cases hs
   rw [hb.block g hlt]
   exact hs
 exact ⟨key _ _ h.pow⟩
end Ab
namespace Ab
open Go Go.RowKit
variable [Mode]
inductive AObj where
 | cells (cs:List AV)
 | map (es:List (AV × AV))
 | iter (s:List UInt8) (pos:Nat)
 | loop (fn:FuncId) (env:List AV) (params:Array Tmp) (assign body:Code) (state:LoopState) (pending:Option Code) (defers:Nat)
 | deferred
 | dead
 deriving Inhabited
abbrev Za:=List AObj
def AObj.live:AObj→Bool
 | .dead=>false
 | _=>true
def Wdj (e:TypeId):Prop:=e=5
def Fr (n:Nat) (e:TypeId) (lo hi:Nat):Prop:=(∀ i,i<n→¬ (lo≤i∧i<hi))∧(Wdj e∨¬ (lo≤n∧n<hi))
theorem Fr.zero (n:Nat) (e:TypeId):Fr n e 0 0:=⟨fun i _ h=>by omega,.inr fun h=>by omega⟩
inductive ORel (C:Ctx):AObj→Obj→Prop
 | cells (cs:List AV) (carr:Array Value) (e:TypeId) (lo hi:Nat):cs.length≤carr.size→(Fr carr.size e lo hi) →
   (∀ (i:Nat) (x:AV) (c:Value),cs[i]? = some x→carr[i]? = some c→VR C x c)→ORel C (.cells cs) (.cells carr e (lo,hi))
 | map (es:List (AV × AV)) (ces:Array MapEntry) (clock:Nat):es.length=ces.size →
   (∀ (i:Nat) (x:AV × AV) (e:MapEntry),es[i]? = some x→ces[i]? = some e→VR C x.1 e.key∧VR C x.2 e.val)→ORel C (.map es) (.map ces clock)
 | iter (s:List UInt8) (pos:Nat):ORel C (.iter s pos) (.stringIter ⟨⟨s⟩⟩ pos)
 | loop (fn:FuncId) (env:List AV) (tmps:Array Value) (params:Array Tmp) (assign body:Code) (state:LoopState) (pending:Option Code) (defers:Nat) :
   VRs C env tmps.toList→ORel C (.loop fn env params assign body state pending defers) (.loop { state,pending,fn,tmps,params,assign,body,defers })
 | deferred:ORel C .deferred (.deferred (some []))
 | gone (c:Obj):ORel C .dead c
theorem ORel.ext {C C':Ctx} (h:Ext C C') {o:AObj} {c:Obj} (ho:ORel C o c):ORel C' o c:=by
 cases ho with
 | cells cs carr e lo hi h1 h2 h3=>exact .cells cs carr e lo hi h1 h2 fun i x c hx hc=>(h3 i x c hx hc).ext h
 | map es ces clock h1 h2=>exact .map es ces clock h1 fun i x e hx he=>⟨(h2 i x e hx he).1.ext h,(h2 i x e hx he).2.ext h⟩
 | iter s pos=>exact .iter s pos
 | loop fn env tmps ps sa bd st pd df h1=>exact .loop fn env tmps ps sa bd st pd df (h1.ext h)
 | deferred=>exact .deferred
 | gone c=>exact .gone c
structure Inv (C:Ctx) (σ:Za):Prop where
 len:C.blk.length=σ.length
 glob:GoodW C.w0
 base:Below C.w0.heap.size C.w0 C.w
 basep:∀ b,b<C.w0.heap.size→C.pers b
 plt:∀ b,C.pers b→b<C.w.heap.size
 live:∀ (r b:Nat) (o:AObj),C.blk[r]? = some b→σ[r]? = some o→o.live=true→¬ C.pers b∧∃ c,C.w.heap[b]? = some c∧ORel C o c
 inj:∀ (r r' b:Nat) (o o':AObj),C.blk[r]? = some b→C.blk[r']? = some b→σ[r]? = some o→σ[r']? = some o'→o.live=true→o'.live=true→r=r'
def Ctx.at_ (C:Ctx) (w:World):Ctx:={ C with w }
theorem Ext.below {C:Ctx} {w':World} (hp:∀ b,C.pers b→b<C.w.heap.size) (h:Below C.w.heap.size C.w w') (hd:Mode.strict→C.w.drawn≤w'.drawn):Ext C (C.at_ w') :=
 ⟨rfl,⟨[],by simp [Ctx.at_]⟩,fun _ hb=>hb,fun b hb=>h.block b (hp b hb),fun b s hs=>by
  have hlt:b<C.w.heap.size:=by
   rcases Qzn b C.w.heap.size with h1 | h1
   ·exact h1
   ·unfold World.shape? at hs;rw [Array.getElem?_eq_none h1] at hs;cases hs
  unfold World.shape? at hs ⊢
  show (match w'.heap[b]? with | some (.cells c elem _)=>some (elem,c.size) | _=>none)=some s
  rw [h.block b hlt];exact hs,h.size,hd⟩
theorem Inv.below {C:Ctx} {σ:Za} {w':World} (hI:Inv C σ) (h:Below C.w.heap.size C.w w'):Inv (C.at_ w') σ:=by
 have hE:=@Ext.below ⟨False⟩ _ _ hI.plt h (fun h=>False.elim h)
 refine ⟨hI.len,hI.glob,hI.base.trans (h.mono hI.base.size),hI.basep,fun b hb=>Nat.lt_of_lt_of_le (hI.plt b hb) h.size,fun r b o hr ho hl=>?_,hI.inj⟩
 obtain ⟨hnp,c,hc,hR⟩:=hI.live r b o hr ho hl
 exact ⟨hnp,c,(h.block b (Array.getElem?_eq_some_iff.1 hc).1).trans hc,@ORel.ext ⟨False⟩ _ _ hE _ _ hR⟩
def Ctx.push (C:Ctx) (o:Obj):Ctx:={ C with w:=C.w.alloc o,blk:=C.blk++[C.w.heap.size] }
theorem Ext.push {C:Ctx} (hp:∀ b,C.pers b→b<C.w.heap.size) (o:Obj):Ext C (C.push o):=by
 have h:=Ext.below (C:=C) (w':=C.w.alloc o) hp ((Below.refl _ _).alloc (Nat.le_refl _) o) (fun _=>Nat.le_refl _)
 exact ⟨rfl,⟨_,rfl⟩,fun _ hb=>hb,h.keep,h.shape,h.size,fun _=>Nat.le_refl _⟩
theorem Inv.push {C:Ctx} {σ:Za} (hI:Inv C σ) {o:AObj} {c:Obj} (hR:ORel (C.push c) o c):Inv (C.push c) (σ++[o]):=by
 have hE:=Ext.push hI.plt c
 have hB:Below C.w.heap.size C.w (C.w.alloc c):=(Below.refl _ _).alloc (Nat.le_refl _) c
 have hlast:∀ r b,(C.push c).blk[r]? = some b→(C.blk[r]? = some b∧r<σ.length)∨(r=σ.length∧b=C.w.heap.size):=by
  intro r b hr
  show _∨_
  simp only [Ctx.push] at hr
  rcases Qzn r C.blk.length with h | h
  ·rw [Qzl h] at hr;exact .inl ⟨hr,hI.len▸h⟩
  ·rw [Qzr h] at hr
   have:r - C.blk.length=0:=by
    rcases Nat.eq_zero_or_pos (r - C.blk.length) with h0 | h0
    ·exact h0
    ·rw [List.getElem?_eq_none (by simp;omega)] at hr;cases hr
   rw [this] at hr
   simp at hr
   exact .inr ⟨by have:=hI.len;omega,hr.symm⟩
 have hold:∀ (r b:Nat) (o':AObj),C.blk[r]? = some b→σ[r]? = some o'→o'.live=true→b<C.w.heap.size:=fun r b o' h1 h2 h3=>by
  obtain ⟨_,c',hc',_⟩:=hI.live r b o' h1 h2 h3
  exact (Array.getElem?_eq_some_iff.1 hc').1
 refine ⟨by simp [Ctx.push,hI.len],hI.glob,hI.base.trans (hB.mono hI.base.size),hI.basep,fun b hb=>Nat.lt_of_lt_of_le (hI.plt b hb) hB.size,fun r b o' hr ho hl=>?_,fun r r' b o1 o2 hr hr' ho ho' hl hl'=>?_⟩
 ·rcases hlast r b hr with ⟨h1,h2⟩ | ⟨rfl,rfl⟩
  ·rw [Qzl h2] at ho
   obtain ⟨hnp,c',hc',hR'⟩:=hI.live r b o' h1 ho hl
   exact ⟨hnp,c',(hB.block b (Array.getElem?_eq_some_iff.1 hc').1).trans hc',hR'.ext hE⟩
  ·simp at ho
   subst ho
   exact ⟨fun hb=>Nat.lt_irrefl _ (hI.plt _ hb),c,heap_alloc_new C.w c,hR⟩
 ·rcases hlast r b hr with ⟨h1,h2⟩ | ⟨rfl,rfl⟩
  ·rcases hlast r' b hr' with ⟨h1',h2'⟩ | ⟨rfl,rfl⟩
   ·rw [Qzl h2] at ho
    rw [Qzl h2'] at ho'
    exact hI.inj r r' b o1 o2 h1 h1' ho ho' hl hl'
   ·rw [Qzl h2] at ho
    exact absurd (hold _ _ _ h1 ho hl) (Nat.lt_irrefl _)
  ·rcases hlast r' _ hr' with ⟨h1',h2'⟩ | ⟨rfl,_⟩
   ·rw [Qzl h2'] at ho'
    exact absurd (hold _ _ _ h1' ho' hl') (Nat.lt_irrefl _)
   ·rfl
def Xh (w:World) (b:Nat) (o:Obj):World:={ w with heap:=w.heap.setIfInBounds b o }
theorem Xbi {w:World} {b:Nat} {o c:Obj} (h:w.heap[b]? = some c):(Xh w b o).heap[b]? = some o:=by
 have:=(Array.getElem?_eq_some_iff.1 h).1
 simp [Xh,this]
theorem Va2 {w:World} {b b':Nat} (o:Obj) (h:b'≠b):(Xh w b o).heap[b']? = w.heap[b']?:=by
 simp only [Xh,Array.getElem?_setIfInBounds]
 rw [if_neg (by omega)]
theorem Ybm (w:World) (b:Nat) (o:Obj):(Xh w b o).heap.size=w.heap.size:=by simp [Xh]
def shp:Obj→Option (TypeId × Nat)
 | .cells c e _=>some (e,c.size)
 | _=>none
theorem Va0 (w:World) (b:Nat):w.shape? b=(w.heap[b]?).bind shp:=by
 unfold World.shape?
 cases w.heap[b]? with
 | none=>rfl
 | some o=>cases o<;>rfl
theorem Ext.set {C:Ctx} {b:Nat} {o c:Obj} (hc:C.w.heap[b]? = some c) (hnp:¬ C.pers b) (hs:shp o=shp c):Ext C (C.at_ (Xh C.w b o)):=by
 refine ⟨rfl,⟨[],by simp [Ctx.at_]⟩,fun _ hb=>hb,fun b' hb'=>Va2 o (fun e=>hnp (e▸hb')),fun b' s hs'=>?_,Nat.le_of_eq (Ybm _ _ _).symm,fun _=>Nat.le_refl _⟩
 show (Xh C.w b o).shape? b'=some s
 rw [Va0] at hs' ⊢
 by_cases e:b'=b
 ·subst e
  rw [Xbi hc];rw [hc] at hs'
  simpa [hs] using hs'
 ·rw [Va2 o e];exact hs'
theorem Inv.set {C:Ctx} {σ:Za} (hI:Inv C σ) {r b:Nat} {o o':AObj} {c c':Obj} (hr:C.blk[r]? = some b) (ho:σ[r]? = some o) (hl:o.live=true) (hc:C.w.heap[b]? = some c) (hs:shp c'=shp c)
  (hR:ORel (C.at_ (Xh C.w b c')) o' c'):Inv (C.at_ (Xh C.w b c')) (σ.set r o'):=by
 obtain ⟨hnp,_,_,_⟩:=hI.live r b o hr ho hl
 have hE:=Ext.set (o:=c') hc hnp hs
 have hlt:C.w0.heap.size≤b:=by
  rcases Qzn b C.w0.heap.size with h | h
  ·exact absurd (hI.basep b h) hnp
  ·exact h
 have hrl:r<σ.length:=(Qzs.1 ho).1
 refine ⟨by simpa [Ctx.at_] using hI.len,hI.glob,?_,hI.basep,fun b' hb'=>by show b'<(Xh C.w b c').heap.size;rw [Ybm];exact hI.plt b' hb',fun r' b' o1 hr' ho1 hl1=>?_,fun r1 r2 b' o1 o2 h1 h2 ho1 ho2 hl1 hl2=>?_⟩
 ·have hb:=hI.base
  exact ⟨hb.os,hb.tape,hb.output,by show _≤(Xh C.w b c').heap.size;rw [Ybm];exact hb.size,fun k hk=>(Va2 c' (by have:k<C.w0.heap.size:=hk;omega)).trans (hb.block k hk)⟩
 ·by_cases e:r'=r
  ·subst e
   rw [List.getElem?_set_self hrl] at ho1
   obtain rfl:o'=o1:=by simpa using ho1
   obtain rfl:b=b':=by simpa [Ctx.at_,hr] using hr'
   exact ⟨hnp,c',Xbi hc,hR⟩
  ·rw [List.getElem?_set_ne (fun x=>e x.symm)] at ho1
   obtain ⟨hnp',c1,hc1,hR1⟩:=hI.live r' b' o1 hr' ho1 hl1
   have hb':b'≠b:=fun x=>e (hI.inj r' r b o1 o (x▸hr') hr ho1 ho hl1 hl)
   exact ⟨hnp',c1,(Va2 c' hb').trans hc1,hR1.ext hE⟩
 ·have key:∀ (r':Nat) (o1:AObj),(σ.set r o')[r']? = some o1→o1.live=true→∃ o2,σ[r']? = some o2∧o2.live=true:=by
   intro r' o1 h hl'
   by_cases e:r'=r
   ·subst e;exact ⟨o,ho,hl⟩
   ·rw [List.getElem?_set_ne (fun x=>e x.symm)] at h;exact ⟨o1,h,hl'⟩
  obtain ⟨o1',h1',hl1'⟩:=key r1 o1 ho1 hl1
  obtain ⟨o2',h2',hl2'⟩:=key r2 o2 ho2 hl2
  exact hI.inj r1 r2 b' o1' o2' h1 h2 h1' h2' hl1' hl2'
theorem Inv.kill {C:Ctx} {σ:Za} (hI:Inv C σ) (r:Nat):Inv C (σ.set r .dead):=by
 have key:∀ (r':Nat) (o1:AObj),(σ.set r AObj.dead)[r']? = some o1→o1.live=true→σ[r']? = some o1:=by
  intro r' o1 h hl'
  by_cases e:r'=r
  ·subst e
   rcases Qzn r' σ.length with h1 | h1
   ·rw [List.getElem?_set_self h1] at h
    obtain rfl:AObj.dead=o1:=by simpa using h
    cases hl'
   ·rw [List.getElem?_eq_none (by simpa using h1)] at h;cases h
  ·rw [List.getElem?_set_ne (fun x=>e x.symm)] at h;exact h
 exact ⟨by simpa using hI.len,hI.glob,hI.base,hI.basep,hI.plt,fun r' b o hr ho hl=>hI.live r' b o hr (key _ _ ho hl) hl,
  fun r1 r2 b o1 o2 h1 h2 ho1 ho2 hl1 hl2=>hI.inj r1 r2 b o1 o2 h1 h2 (key _ _ ho1 hl1) (key _ _ ho2 hl2) hl1 hl2⟩
def Ctx.cut (C:Ctx) (n:Nat):Ctx:={ C with blk:=C.blk.take n }
theorem Inv.cut {C:Ctx} {σ g:Za} (hI:Inv C (σ++g)) (hσ:∀ (r b:Nat) (o:AObj) (c:Obj),C.blk[r]? = some b→σ[r]? = some o→o.live=true→C.w.heap[b]? = some c→ORel (C.cut σ.length) o c):Inv (C.cut σ.length) σ:=by
 have hlen:=hI.len
 simp at hlen
 have hb:∀ r b,(C.cut σ.length).blk[r]? = some b→C.blk[r]? = some b∧r<σ.length:=by
  intro r b hr
  simp only [Ctx.cut] at hr
  rcases Qzn r σ.length with h | h
  ·rw [List.getElem?_take_of_lt h] at hr;exact ⟨hr,h⟩
  ·rw [List.getElem?_eq_none (by simp;omega)] at hr;cases hr
 have up:∀ (r:Nat) (o:AObj),r<σ.length→σ[r]? = some o→(σ++g)[r]? = some o:=fun r o h1 h2=>by rw [Qzl h1];exact h2
 refine ⟨by simp [Ctx.cut,hlen],hI.glob,hI.base,hI.basep,hI.plt,fun r b o hr ho hl=>?_,fun r1 r2 b o1 o2 h1 h2 ho1 ho2 hl1 hl2=>?_⟩
 ·obtain ⟨h1,h2⟩:=hb r b hr
  obtain ⟨hnp,c,hc,_⟩:=hI.live r b o h1 (up r o h2 ho) hl
  exact ⟨hnp,c,hc,hσ r b o c h1 ho hl hc⟩
 ·obtain ⟨h1,h1'⟩:=hb r1 b h1
  obtain ⟨h2,h2'⟩:=hb r2 b h2
  exact hI.inj r1 r2 b o1 o2 h1 h2 (up _ _ h1' ho1) (up _ _ h2' ho2) hl1 hl2
end Ab
namespace Ab
open Go Go.RowKit
variable [Mode]
def Vz:TypeDesc→Bool
 | .struct _ | .array _ _=>true
 | _=>false
def tsa (P:Program) (t:TypeId):Option (Nat × Bool) :=
 match P.info? t,P.underlying t with
 | some i,some d=>if t=5∧i.size≠1 then none else some (i.size,Vz d)
 | _,_=>none
def Uim (P:Program) (t:TypeId):Option TypeDesc:=P.underlying t
def Vj (P:Program) (t:TypeId) (i:Nat):Option (Nat × TypeId) :=
 match P.underlying t with
 | some (.struct fs)=>(fs[i]?).map fun f=>(f.offset,f.type)
 | _=>none
def Uc (P:Program) (t:TypeId):Option TypeId :=
 match P.underlying t with
 | some (.slice e)=>some e
 | _=>none
theorem Xac {P:Program} {t:TypeId} {n:Nat} {b:Bool} (h:tsa P t=some (n,b)):∃ i d,P.info? t=some i∧P.underlying t=some d∧i.size=n∧Vz d=b:=by
 unfold tsa at h
 split at h
 ·rename_i i d h1 h2
  split at h
  ·cases h
  ·simp at h
   exact ⟨i,d,h1,h2,h.1,h.2⟩
 ·cases h
theorem Wa4 {P:Program} {t:TypeId} {n:Nat} {b:Bool} (h:tsa P t=some (n,b)):Kt n t:=by
 unfold tsa at h
 split at h
 ·rename_i i d h1 h2
  split at h
  ·cases h
  ·rename_i h3
   simp at h
   rw [h.1] at h3
   by_cases h4:n=1
   ·exact .inl h4
   ·exact .inr fun h5=>h3 ⟨h5,h4⟩
 ·cases h
section runs
variable {P:Program} (w:World)
theorem Yq {t:TypeId} {n:Nat} {b:Bool} (h:tsa P t=some (n,b)):(Go.sizeOf t).run P w=.ok n w:=by
 obtain ⟨i,d,hi,_,hn,_⟩:=Xac h
 simp [Go.sizeOf,typeInfo,hi,hn]
theorem Xa1 {t:TypeId} {n:Nat} {b:Bool} (h:tsa P t=some (n,b)):(isAgg t).run P w=.ok b w:=by
 obtain ⟨i,d,_,hd,_,hb⟩:=Xac h
 subst hb
 simp only [isAgg,Sem.run_bind,run_underlying hd,Result.andThen_ok]
 cases d<;>rfl
theorem Uk {t e:TypeId} (h:Uc P t=some e):P.underlying t=some (.slice e):=by
 unfold Uc at h;split at h
 ·rename_i e' h1;simp at h;subst h;exact h1
 ·cases h
theorem Wck {t:TypeId} {i off:Nat} {ft:TypeId} (h:Vj P t i=some (off,ft)):∃ fs f,P.underlying t=some (.struct fs)∧fs[i]? = some f∧f.offset=off∧f.type=ft:=by
 unfold Vj at h;split at h
 ·rename_i fs h1
  cases hf:fs[i]? with
  | none=>rw [hf] at h;cases h
  | some f=>rw [hf] at h;simp at h;exact ⟨fs,f,h1,hf,h.1,h.2⟩
 ·cases h
end runs
def ofCell:Value→AV
 | .bool b=>.bool b
 | .int k n=>.int k n
 | .string s=>.str s.data.toList
 | .pointer none=>.nilp
 | .slice none 0 0=>.nils
 | .map none=>.nilm
 | .nilFunc=>.nilf
 | .nilIface=>.nili
 | _=>.any
def ofValue:Value→AV
 | .agg cs=>.agg (cs.toList.map ofCell)
 | v=>ofCell v
theorem VR.ofCell (C:Ctx) (v:Value):VR C (ofCell v) v:=by
 unfold Ab.ofCell
 split<;>first
  | exact .str _
  | (constructor;done)
  | exact .any _
theorem VR.ofValue (C:Ctx) (v:Value):VR C (ofValue v) v:=by
 unfold Ab.ofValue
 split
 ·rename_i cs
  have h:=VR.agg (C:=C) (cs.toList.map Ab.ofCell) cs.toList (by simp) (fun i x c hx hc=>by
   simp [Qzp] at hx
   obtain ⟨c',hc',rfl⟩:=hx
   have:cs.toList[i]? = some c':=by simpa using hc'
   rw [this] at hc
   obtain rfl:c'=c:=by simpa using hc
   exact VR.ofCell C c')
  simpa using h
 ·exact VR.ofCell C v
structure Env where
 t:List AV
 m:List Nat:=[]
def Wa (t:List AV):Operand→AV
 | .tmp i=>t.getD i .any
 | .const v=>ofValue v
 | .global g=>.gl g
 | .func f=>.fn (.func f) [] []
structure ER (C:Ctx) (env:Env) (a:Act):Prop where
 t:VRs C env.t a.tmps.toList
 m:a.defers.length=env.m.length
 mark:∀ (i r:Nat) (d:Deferred),env.m[i]? = some r→a.defers[i]? = some d→∃ b,C.blk[r]? = some b∧d={ target:=.collected b,args:=#[] }
theorem ER.ext {C C':Ctx} (h:Ext C C') {env:Env} {a:Act} (he:ER C env a):ER C' env a :=
 ⟨he.t.ext h,he.m,fun i r d h1 h2=>let ⟨b,hb,hd⟩:=he.mark i r d h1 h2;⟨b,h.blk_at hb,hd⟩⟩
theorem ER.eval {C:Ctx} {env:Env} {a:Act} (he:ER C env a) (x:Operand):VR C (Wa env.t x) (a.eval x):=by
 cases x with
 | tmp i =>
  simp only [Wa,Act.eval,List.getD_eq_getElem?_getD]
  have hl:=he.t.len
  cases hx:env.t[i]? with
  | none=>exact .any _
  | some y =>
   have hi:=(Qzs.1 hx).1
   have hc:a.tmps.toList[i]? = some (a.tmps.toList[i]'(by omega)):=Qze (by omega)
   have:=he.t.at_ i y _ hx hc
   have hl':env.t.length=a.tmps.size:=by simpa using hl
   have hi2:i<a.tmps.size:=by rw [← hl'];exact hi
   rw [Array.getD_eq_getD_getElem?,Array.getElem?_eq_getElem hi2]
   simpa using this
 | const v=>exact VR.ofValue C v
 | global g=>exact .gl g
 | func f=>exact .fn (.func f) [] [] [] [] rfl rfl (fun i x c h=>by simp at h) (fun i x c h=>by simp at h)
theorem VRs.set {C:Ctx} {xs:List AV} {cs:List Value} (h:VRs C xs cs) {x:AV} {c:Value} (hx:VR C x c) (i:Nat):VRs C (xs.set i x) (cs.set i c):=by
 refine ⟨by simp [h.len],fun j y d hy hd=>?_⟩
 rw [List.getElem?_set] at hy hd
 have hl:=h.len
 by_cases e:i=j
 ·subst e
  by_cases hi:i<xs.length
  ·simp [hi] at hy;simp [show i<cs.length by omega] at hd;subst hy;subst hd;exact hx
  ·simp [hi] at hy
 ·simp [e] at hy hd;exact h.at_ j y d hy hd
def Env.put (e:Env) (d:Option Tmp) (v:AV):Env :=
 match d with
 | some d=>{ e with t:=e.t.set d v }
 | none=>e
theorem ER.put {C:Ctx} {env:Env} {a:Act} (he:ER C env a) {v:AV} {c:Value} (hv:VR C v c) (d:Option Tmp):ER C (env.put d v) (a.put d c):=by
 cases d with
 | none=>exact he
 | some d=>exact ⟨by simpa [Env.put,Act.put] using he.t.set hv d,he.m,he.mark⟩
def Gives (P:Program) (C:Ctx) (r:Result Next) (v:AV) (σ':Za):Prop :=
 ∃ C':Ctx,Ext C C'∧Inv C' σ'∧((∃ c,r=.ok (.value c) C'.w∧VR C' v c)∨(r=.ok .skip C'.w∧v=.any))
theorem Gives.same {P:Program} {C:Ctx} {σ:Za} (hI:Inv C σ) {c:Value} {v:AV} (hv:VR C v c) {r:Result Next} (hr:r=.ok (.value c) C.w):Gives P C r v σ :=
 ⟨C,Ext.refl C,hI,.inl ⟨c,hr,hv⟩⟩
section inv
variable {C:Ctx} {c:Value}
theorem VR.bool_inv {b:Bool} (h:VR C (.bool b) c):c=.bool b:=by cases h;rfl
theorem VR.int_inv {k:IntKind} {n:Int} (h:VR C (.int k n) c):c=.int k n:=by cases h;rfl
theorem VR.str_inv {s:List UInt8} (h:VR C (.str s) c):c=.string ⟨⟨s⟩⟩:=by cases h;rfl
theorem VR.ptr_inv {r off:Nat} (h:VR C (.ptr r off) c):∃ b,C.blk[r]? = some b∧c=.pointer (some ⟨b,off,none⟩):=by cases h with | ptr _ _ b h=>exact ⟨b,h,rfl⟩
theorem VR.agg_inv {l:List AV} (h:VR C (.agg l) c):∃ cs:List Value,c=.agg cs.toArray∧VRs C l cs:=by cases h with | agg _ cs hl h=>exact ⟨cs,rfl,hl,h⟩
theorem VR.tup_inv {l:List AV} (h:VR C (.tup l) c):∃ cs:List Value,c=.tuple cs.toArray∧VRs C l cs:=by cases h with | tup _ cs hl h=>exact ⟨cs,rfl,hl,h⟩
theorem VR.fn_inv {f:Fn} {xs ys:List AV} (h:VR C (.fn f xs ys) c):∃ cs ds:List Value,c=.func f cs.toArray ds.toArray∧VRs C xs cs∧VRs C ys ds:=by
 cases h with | fn _ _ _ cs ds hx hy h1 h2=>exact ⟨cs,ds,rfl,⟨hx,h1⟩,hy,h2⟩
theorem VR.yld_inv {r:Nat} (h:VR C (.yld r) c):∃ b,C.blk[r]? = some b∧c=.func (.yield b) #[] #[]:=by cases h with | yld _ b h=>exact ⟨b,h,rfl⟩
theorem VR.mp_inv {r:Nat} (h:VR C (.mp r) c):∃ b,C.blk[r]? = some b∧c=.map (some b):=by cases h with | mp _ b h=>exact ⟨b,h,rfl⟩
theorem VR.arr_inv {k r off len:Nat} (h:VR C (.arr k r off len) c):∃ b cap e n,C.blk[r]? = some b∧len≤cap∧C.w.shape? b=some (e,n)∧((off+cap)*k≤n∧Kt k e)∧c=.slice (some ⟨b,off*k,none⟩) len cap:=by
 cases h with | arr _ _ _ _ b cap e n h1 h2 h3 h4=>exact ⟨b,cap,e,n,h1,h2,h3,h4,rfl⟩
theorem VR.arc_inv {k r off len cap:Nat} (h:VR C (.arc k r off len cap) c):∃ b e n,C.blk[r]? = some b∧len≤cap∧C.w.shape? b=some (e,n)∧((off+cap)*k≤n∧Kt k e)∧c=.slice (some ⟨b,off*k,none⟩) len cap:=by
 cases h with | arc _ _ _ _ b _ e n h1 h2 h3 h4=>exact ⟨b,e,n,h1,h2,h3,h4,rfl⟩
def Row (C:Ctx) (k b o:Nat) (l:List AV):Prop :=
 C.pers b∧∀ (i:Nat) (x:AV),l[i]? = some x→x.cells.length=k∧∀ (j:Nat) (y:AV),x.cells[j]? = some y→y.one=true∧∃ v,C.w.cell? ⟨b,o+i*k+j,none⟩=some v∧VR C y v
theorem VR.pl_inv {k:Nat} {l:List AV} (h:VR C (.pl k l) c):∃ A cap,c=.slice A l.length cap∧l.length≤cap∧(l=[]∨∃ b o,A=some ⟨b,o,none⟩∧Row C k b o l):=by
 cases h with
 | pl0 _ A cap _=>exact ⟨A,cap,rfl,Nat.zero_le _,.inl rfl⟩
 | pl _ _ b o n cap f hp hn hcap h1 h2 =>
  subst hn
  exact ⟨_,cap,rfl,hcap,.inr ⟨b,o,rfl,hp,fun i x hx=>⟨(h1 i x hx).1,fun j y hy=>⟨((h1 i x hx).2 j y hy).1,f i j,((h1 i x hx).2 j y hy).2,h2 i x hx j y hy⟩⟩⟩⟩
theorem VR.pl_cap {k n cap:Nat} {l:List AV} {A:Option Addr} (h:VR C (.pl k l) (.slice A n cap)):A=none→cap=0:=by
 cases h with
 | pl0 _ _ _ h=>exact h
 | pl _ _ b o n cap f hp hn hcap h1 h2=>intro h;cases h
theorem VR.pp_inv {k:Nat} {l:List AV} {i j:Nat} (h:VR C (.pp k l i j) c):∃ b o,c=.pointer (some ⟨b,o+i*k+j,none⟩)∧i<l.length∧Row C k b o l:=by
 cases h with
 | pp _ _ _ _ b o f hp hi h1 h2 =>
  exact ⟨b,o,rfl,hi,hp,fun i x hx=>⟨(h1 i x hx).1,fun j y hy=>⟨((h1 i x hx).2 j y hy).1,f i j,((h1 i x hx).2 j y hy).2,h2 i x hx j y hy⟩⟩⟩
noncomputable def Row.f {C:Ctx} {k b o:Nat} {l:List AV} (_:Row C k b o l) (i j:Nat):Value:=(C.w.cell? ⟨b,o+i*k+j,none⟩).getD undef
theorem Row.f_eq {k b o:Nat} {l:List AV} (h:Row C k b o l) {i:Nat} {x:AV} (hx:l[i]? = some x) {j:Nat} {y:AV} (hy:x.cells[j]? = some y) :
  C.w.cell? ⟨b,o+i*k+j,none⟩=some (h.f i j)∧VR C y (h.f i j):=by
 obtain ⟨_,v,hv,hvr⟩:=(h.2 i x hx).2 j y hy
 have:h.f i j=v:=by simp [Row.f,hv]
 rw [this];exact ⟨hv,hvr⟩
theorem Row.pl {k b o cap:Nat} {l:List AV} (h:Row C k b o l) (hc:l.length≤cap):VR C (.pl k l) (.slice (some ⟨b,o,none⟩) l.length cap) :=
 .pl k l b o _ cap h.f h.1 rfl hc (fun i x hx=>⟨(h.2 i x hx).1,fun j y hy=>⟨((h.2 i x hx).2 j y hy).1,(h.f_eq hx hy).1⟩⟩) (fun i x hx j y hy=>(h.f_eq hx hy).2)
theorem Row.pp {k b o i j:Nat} {l:List AV} (h:Row C k b o l) (hi:i<l.length):VR C (.pp k l i j) (.pointer (some ⟨b,o+i*k+j,none⟩)) :=
 .pp k l i j b o h.f h.1 hi (fun i x hx=>⟨(h.2 i x hx).1,fun j y hy=>⟨((h.2 i x hx).2 j y hy).1,(h.f_eq hx hy).1⟩⟩) (fun i x hx j y hy=>(h.f_eq hx hy).2)
end inv
def sub (cs:List AV) (o n:Nat):List AV:=(cs.drop o).take n
def wr (cs:List AV) (o:Nat) (vs:List AV):List AV:=cs.take o++vs++cs.drop (o+vs.length)
def rd (ag:Bool) (n:Nat) (cs:List AV) (o:Nat):Option AV :=
 if o+n≤cs.length then (if ag then some (.agg (sub cs o n)) else if n=1 then cs[o]? else none) else none
theorem Ybg {w:World} {b:Nat} {carr:Array Value} {e:TypeId} {fr:Nat × Nat} (h:w.heap[b]? = some (.cells carr e fr)) (o:Nat):w.cell? ⟨b,o,none⟩=carr[o]?:=by
 simp [World.cell?,h]
theorem Zp (b o n:Nat):(Addr.add ⟨b,o,none⟩ n)=⟨b,o+n,none⟩:=by
 unfold Addr.add;split
 ·rename_i h;simp [h]
 ·rfl
theorem Zg0 {P:Program} {C:Ctx} {t:TypeId} {n:Nat} {ag:Bool} (hs:tsa P t=some (n,ag)) {b o:Nat} {xs:List AV} (hn:xs.length=n)
  (h:∀ (j:Nat) (y:AV),xs[j]? = some y→∃ v,C.w.cell? ⟨b,o+j,none⟩=some v∧VR C y v) {v:AV} (hv:(if ag then some (AV.agg xs) else if n=1 then xs[0]? else none)=some v) :
  ∃ c,(loadVar t ⟨b,o,none⟩).run P C.w=.ok c C.w∧VR C v c:=by
 have hex:∃ cs:List Value,cs.length=n∧∀ (j:Nat) (c:Value),cs[j]? = some c→C.w.cell? ⟨b,o+j,none⟩=some c:=by
  refine ⟨(List.range n).map (fun j=>(C.w.cell? ⟨b,o+j,none⟩).getD undef),by simp,fun j c hc=>?_⟩
  simp [Qzp] at hc
  obtain ⟨i,hi,rfl⟩:=hc
  obtain ⟨hj,hi⟩:=Qzs.1 hi
  simp at hj hi
  subst hi
  obtain ⟨v',hv',_⟩:=h j _ (Qze (by omega))
  rw [hv'];rfl
 obtain ⟨cs,hcl,hc⟩:=hex
 have hrel:VRs C xs cs:=⟨by omega,fun j y c hy hc'=>by
  obtain ⟨v',hv',hr⟩:=h j y hy
  rw [hc j c hc'] at hv'
  obtain rfl:c=v':=by simpa using hv'
  exact hr⟩
 cases ag with
 | true =>
  simp at hv
  subst hv
  have hl:=run_loadCells_list (P:=P) C.w ⟨b,o,none⟩ cs (fun j c hj=>by rw [Zp];exact hc j c hj)
  refine ⟨.agg cs.toArray,?_,.agg xs cs hrel.len hrel.at_⟩
  simp only [loadVar,Sem.run_bind,Xa1 C.w hs,Result.andThen_ok,if_true,Yq C.w hs]
  rw [show n=cs.length from hcl.symm,hl]
  rfl
 | false =>
  simp at hv
  obtain ⟨hn1,hv⟩:=hv
  subst hn1
  obtain ⟨v',hv',hr⟩:=h 0 v hv
  refine ⟨v',?_,hr⟩
  simp only [loadVar,Sem.run_bind,Xa1 C.w hs,Result.andThen_ok,run_load]
  simp only [Nat.add_zero] at hv'
  simp [hv']
end Ab
namespace Ab
open Go Go.RowKit
variable [Mode]
variable {P:Program}
theorem Vb0 {w:World} {b:Nat} {c:Obj} (h:w.heap[b]? = some c):Xh w b c=w:=by
 have:w.heap.setIfInBounds b c=w.heap:=by
  apply Array.ext_getElem?
  intro i
  rw [Array.getElem?_setIfInBounds]
  split
  ·rename_i e;subst e
   have:=(Array.getElem?_eq_some_iff.1 h).1
   rw [if_pos this,h]
  ·rfl
 cases w
 simp [Xh] at this ⊢
 exact this
theorem Wej (w:World) (b:Nat) (x y:Obj):Xh (Xh w b x) b y=Xh w b y:=by
 simp [Xh]
theorem Uhm {w:World} {b:Nat} {carr:Array Value} {e:TypeId} {fr:Nat × Nat} (h:w.heap[b]? = some (.cells carr e fr)) (o:Nat) (v:Value) :
  w.setCell ⟨b,o,none⟩ v=Xh w b (.cells (carr.setIfInBounds o v) e fr):=by
 have hb:=(Array.getElem?_eq_some_iff.1 h)
 obtain ⟨hlt,hv⟩:=hb
 unfold World.setCell Xh
 congr 1
 apply Array.ext_getElem?
 intro i
 rw [Array.getElem?_modify,Array.getElem?_setIfInBounds]
 by_cases e:b=i
 ·subst e;simp [hlt,hv]
 ·simp [e]
def wrA (carr:Array Value) (o:Nat):List Value→Array Value
 | []=>carr
 | v::vs=>wrA (carr.setIfInBounds o v) (o+1) vs
theorem Xab (vs:List Value):∀ (carr:Array Value) (o:Nat),(wrA carr o vs).size=carr.size:=by
 induction vs with
 | nil=>intro carr o;rfl
 | cons v vs ih=>intro carr o;rw [wrA,ih];simp
theorem Wa9 (vs:List Value):∀ (carr:Array Value) (o i:Nat),o+vs.length≤carr.size→(wrA carr o vs)[i]? = if o≤i∧i<o+vs.length then vs[i - o]? else carr[i]?:=by
 induction vs with
 | nil=>intro carr o i _;rw [wrA,if_neg (by simp only [List.length_nil];omega)]
 | cons v vs ih =>
  intro carr o i h
  simp at h
  rw [wrA,ih _ _ _ (by simp;omega),Array.getElem?_setIfInBounds]
  by_cases e:o=i
  ·subst e
   rw [if_neg (by omega),if_pos rfl,if_pos (by omega),if_pos (by simp)]
   simp
  ·rw [if_neg e]
   by_cases h1:o+1≤i∧i<o+1+vs.length
   ·rw [if_pos h1,if_pos (by simp;omega)]
    obtain ⟨d,rfl⟩:∃ d,i=o+1+d:=⟨i - (o+1),by omega⟩
    rw [show o+1+d - (o+1)=d from by omega,show o+1+d - o=d+1 from by omega]
    simp
   ·rw [if_neg h1,if_neg (by simp only [List.length_cons];omega)]
theorem Ubw (b:Nat) (e:TypeId) (lo hi:Nat):∀ (vs:List Value) (carr:Array Value) (w:World) (o i:Nat),w.heap[b]? = some (.cells carr e (lo,hi)) →
  (Fr carr.size e lo hi)→(∀ v∈vs,v.oneCell'=true)→o+i+vs.length≤carr.size →
  (storeCells ⟨b,o,none⟩ vs i).run P w=.ok () (Xh w b (.cells (wrA carr (o+i) vs) e (lo,hi))):=by
 intro vs
 induction vs with
 | nil=>intro carr w o i h _ _ _;simp only [storeCells,wrA,Sem.run_pure];rw [Vb0 h]
 | cons v vs ih =>
  intro carr w o i h hf h1 hs
  simp at hs
  have hc:w.cell? ⟨b,o+i,none⟩=some (carr[o+i]'(by omega)):=by rw [Ybg h,Array.getElem?_eq_getElem (by omega)]
  have hfr:w.frozen? ⟨b,o+i,none⟩=false:=by
   have:=hf.1 (o+i) (by omega)
   simp only [World.frozen?,h]
   simpa using this
  simp only [storeCells,Sem.run_bind,Zp]
  rw [run_store _ _ _ _ _ (h1 v (by simp)),hc]
  simp only [hfr,Bool.false_eq_true,if_false,Result.andThen_ok]
  rw [Uhm h]
  rw [ih (carr.setIfInBounds (o+i) v) _ o (i+1) (Xbi h) (by simpa using hf) (fun v hv=>h1 v (by simp [hv])) (by simp;omega)]
  rw [Wej]
  rfl
theorem Zbw (cs vs:List AV) (o i:Nat) (h:o+vs.length≤cs.length):(wr cs o vs)[i]? = if o≤i∧i<o+vs.length then vs[i - o]? else cs[i]?:=by
 unfold wr
 by_cases h1:i<o
 ·rw [if_neg (by omega),List.append_assoc,Qzl (by simp;omega),List.getElem?_take_of_lt h1]
 ·by_cases h2:i<o+vs.length
  ·rw [if_pos ⟨by omega,h2⟩,Qzl (by simp;omega),Qzr (by simp;omega)]
   simp [show min o cs.length=o by omega]
  ·rw [if_neg (by omega),Qzr (by simp;omega),List.getElem?_drop]
   congr 1
   simp
   omega
theorem Ua8 (cs vs:List AV) (o:Nat) (h:o+vs.length≤cs.length):(wr cs o vs).length=cs.length:=by simp [wr];omega
theorem VR.oneCell {C:Ctx} {x:AV} {c:Value} (h:VR C x c) (hx:x.one=true):c.oneCell'=true:=by
 cases h<;>first | rfl | assumption | simp [AV.one] at hx
def Vx (P:Program) (t:TypeId) (p:AV) (σ:Za):Option AV :=
 match tsa P t with
 | some (n,ag) =>
  match p with
  | .ptr r off=>match σ[r]? with
   | some (.cells cs)=>rd ag n cs off
   | _=>none
  | .pp _ l i j=>match l[i]? with
   | some x=>rd ag n x.cells j
   | none=>none
  | _=>none
 | none=>none
theorem Xbw {C:Ctx} {t:TypeId} {n:Nat} {ag:Bool} (hs:tsa P t=some (n,ag)) {b o off:Nat} {cs:List AV}
  (h:∀ (j:Nat) (y:AV),cs[j]? = some y→∃ v,C.w.cell? ⟨b,o+j,none⟩=some v∧VR C y v) {v:AV} (hv:rd ag n cs off=some v) :
  ∃ c,(loadVar t ⟨b,o+off,none⟩).run P C.w=.ok c C.w∧VR C v c:=by
 unfold rd at hv
 split at hv
 ·rename_i hle
  refine Zg0 hs (xs:=sub cs off n) (by simp [sub];omega) (fun j y hy=>?_) ?_
  ·have hj:(sub cs off n)[j]? = cs[off+j]?∧j<n:=by
    have hjl:=(Qzs.1 hy).1
    simp [sub] at hjl
    constructor
    ·unfold sub;rw [List.getElem?_take_of_lt (by omega),List.getElem?_drop]
    ·omega
   rw [hj.1] at hy
   have:=h (off+j) y hy
   rwa [← Nat.add_assoc] at this
  ·cases ag with
   | true=>simpa using hv
   | false =>
    simp at hv ⊢
    refine ⟨hv.1,?_⟩
    obtain ⟨rfl,hv⟩:=hv
    unfold sub
    rw [List.getElem?_take_of_lt (by omega),List.getElem?_drop]
    exact hv
 ·cases hv
theorem ORel.cells_inv {C:Ctx} {cs:List AV} {c:Obj} (h:ORel C (.cells cs) c):∃ carr e lo hi,c=.cells carr e (lo,hi)∧cs.length≤carr.size∧(Fr carr.size e lo hi) ∧
  (∀ (i:Nat) (x:AV) (c:Value),cs[i]? = some x→carr[i]? = some c→VR C x c):=by
 cases h with | cells _ carr e lo hi h1 h2 h3=>exact ⟨carr,e,lo,hi,rfl,h1,h2,h3⟩
theorem Inv.cells {C:Ctx} {σ:Za} (hI:Inv C σ) {r b:Nat} {cs:List AV} (hb:C.blk[r]? = some b) (hr:σ[r]? = some (.cells cs)) :
  ¬ C.pers b∧∃ carr e lo hi,C.w.heap[b]? = some (.cells carr e (lo,hi))∧cs.length≤carr.size∧(Fr carr.size e lo hi) ∧
   (∀ (i:Nat) (x:AV) (c:Value),cs[i]? = some x→carr[i]? = some c→VR C x c):=by
 obtain ⟨hnp,c,hc,hR⟩:=hI.live r b _ hb hr rfl
 obtain ⟨carr,e,lo,hi,rfl,h1,h2,h3⟩:=hR.cells_inv
 exact ⟨hnp,carr,e,lo,hi,hc,h1,h2,h3⟩
theorem Inv.cell_at {C:Ctx} {σ:Za} (hI:Inv C σ) {r b:Nat} {cs:List AV} (hb:C.blk[r]? = some b) (hr:σ[r]? = some (.cells cs)) (j:Nat) (y:AV) (hy:cs[j]? = some y) :
  ∃ v,C.w.cell? ⟨b,j,none⟩=some v∧VR C y v:=by
 obtain ⟨_,carr,e,lo,hi,hc,h1,_,h3⟩:=hI.cells hb hr
 have hj:=(Qzs.1 hy).1
 exact ⟨carr[j]'(by omega),by rw [Ybg hc,Array.getElem?_eq_getElem (by omega)],h3 j y _ hy (Array.getElem?_eq_getElem (by omega))⟩
theorem Ybx {C:Ctx} {σ:Za} (hI:Inv C σ) {t:TypeId} {p v:AV} {c:Value} (hp:VR C p c) (h:Vx P t p σ=some v) :
  ∃ cv,(Instr.loadAt t c).run P C.w=.ok cv C.w∧VR C v cv:=by
 unfold Vx at h
 split at h
 ·rename_i n ag hs
  split at h
  ·rename_i r off
   split at h
   ·rename_i cs hr
    obtain ⟨b,hb,rfl⟩:=hp.ptr_inv
    obtain ⟨cv,hcv,hv⟩:=Xbw (P:=P) (C:=C) (b:=b) (o:=0) (off:=off) hs (fun j y hy=>by simpa using hI.cell_at hb hr j y hy) h
    refine ⟨cv,?_,hv⟩
    simpa [Instr.loadAt,Instr.sureAddr] using hcv
   ·cases h
  ·rename_i k l i j
   split at h
   ·rename_i x hx
    obtain ⟨b,o,rfl,hi,hrow⟩:=hp.pp_inv
    obtain ⟨cv,hcv,hv⟩:=Xbw (P:=P) (C:=C) (b:=b) (o:=o+i*k) (off:=j) hs (fun j y hy=>((hrow.2 i x hx).2 j y hy).2) h
    refine ⟨cv,?_,hv⟩
    simpa [Instr.loadAt,Instr.sureAddr] using hcv
   ·cases h
  ·cases h
 ·cases h
def Xad (P:Program) (t:TypeId) (p v:AV) (σ:Za):Option Za :=
 match tsa P t with
 | some (n,_) =>
  match p with
  | .ptr r off=>match σ[r]? with
   | some (.cells cs)=>if v.cells.length=n∧v.cells.all AV.one=true∧off+n≤cs.length then some (σ.set r (.cells (wr cs off v.cells))) else none
   | _=>none
  | _=>none
 | none=>none
theorem Ugu {v:AV} (h:v.cells.all AV.one=true):v.known=true:=by
 cases v<;>simp_all [AV.cells,AV.known,AV.one]
theorem VRs.oneCells {C:Ctx} {xs:List AV} {cs:List Value} (h:VRs C xs cs) (h1:xs.all AV.one=true):∀ c∈cs,c.oneCell'=true:=by
 intro c hc
 obtain ⟨i,hi,rfl⟩:=List.getElem_of_mem hc
 have hl:=h.len
 have hx:xs[i]? = some (xs[i]'(by omega)):=Qze (by omega)
 exact (h.at_ i _ _ hx (Qze hi)).oneCell (by simpa using (List.all_eq_true.1 h1) _ (List.getElem_mem (by omega)))
theorem Inv.write {C:Ctx} {σ:Za} (hI:Inv C σ) {r b off:Nat} {cs xs:List AV} {vs:List Value} (hb:C.blk[r]? = some b) (hr:σ[r]? = some (.cells cs)) (hv:VRs C xs vs) (h1:xs.all AV.one=true)
  (hle:off+xs.length≤cs.length):∃ C',(storeCells ⟨b,off,none⟩ vs).run P C.w=.ok () C'.w∧Ext C C'∧C'.blk=C.blk∧Inv C' (σ.set r (.cells (wr cs off xs))):=by
 obtain ⟨hnp,carr,e,lo,hi,hc,hsz,hfr,hrel⟩:=hI.cells hb hr
 have hvl:=hv.len
 have hrun:=Ubw (P:=P) b e lo hi vs carr C.w off 0 hc hfr (hv.oneCells h1) (by omega)
 have hE:=Ext.set (C:=C) (b:=b) (o:=.cells (wrA carr off vs) e (lo,hi)) hc hnp (by simp [shp,Xab])
 refine ⟨C.at_ (Xh C.w b (.cells (wrA carr off vs) e (lo,hi))),hrun,hE,rfl,?_⟩
 refine hI.set hb hr rfl hc (by simp [shp,Xab]) (.cells _ _ e lo hi (by rw [Ua8 _ _ _ hle,Xab];exact hsz) (by rw [Xab];exact hfr) fun i x c hx hc'=>?_)
 rw [Zbw _ _ _ _ hle] at hx
 rw [Wa9 _ _ _ _ (by omega)] at hc'
 rw [← hvl] at hc'
 refine VR.ext hE ?_
 split at hx
 ·rename_i hin
  rw [if_pos hin] at hc'
  exact hv.at_ _ x c hx hc'
 ·rename_i hin
  rw [if_neg hin] at hc'
  exact hrel i x c hx hc'
theorem Xeo {C:Ctx} {σ σ':Za} (hI:Inv C σ) {t:TypeId} {p v:AV} {c d:Value} (hp:VR C p c) (hv:VR C v d) (h:Xad P t p v σ=some σ') :
  ∃ C',(Instr.storeAt t c d).run P C.w=.ok () C'.w∧Ext C C'∧C'.blk=C.blk∧Inv C' σ':=by
 unfold Xad at h
 split at h
 ·rename_i n ag hs
  split at h
  ·rename_i r off
   split at h
   ·rename_i cs hr
    split at h
    ·rename_i hg
     obtain ⟨hn,h1,hle⟩:=hg
     obtain rfl:σ.set r (.cells (wr cs off v.cells))=σ':=by simpa using h
     obtain ⟨b,hb,rfl⟩:=hp.ptr_inv
     have hcs:=hv.cells (Ugu h1)
     obtain ⟨C',hrun,hE,hbl,hI'⟩:=hI.write (P:=P) (off:=off) hb hr hcs h1 (by omega)
     refine ⟨C',?_,hE,hbl,hI'⟩
     have hsz:d.cells.size=n:=by have:=hcs.len;simp at this;omega
     simp only [Instr.storeAt,Instr.sureAddr,Sem.run_bind,Sem.run_pure,Result.andThen_ok,storeVar,Yq C.w hs,hsz,ne_eq,not_true_eq_false,if_false,hrun]
    ·cases h
   ·cases h
  ·cases h
 ·cases h
theorem Inv.new {C:Ctx} {σ:Za} (hI:Inv C σ) {xs:List AV} {vs:List Value} (hv:VRs C xs vs) (e:TypeId) :
  Ext C (C.push (.cells vs.toArray e))∧Inv (C.push (.cells vs.toArray e)) (σ++[.cells xs])∧(C.push (.cells vs.toArray e)).blk[σ.length]? = some C.w.heap.size:=by
 have hE:=Ext.push hI.plt (.cells vs.toArray e)
 refine ⟨hE,hI.push (.cells xs vs.toArray e 0 0 (by simp [hv.len]) (.zero _ _) fun i x c hx hc=>?_),?_⟩
 ·exact (hv.at_ i x c hx (by simpa using hc)).ext hE
 ·simp [Ctx.push,hI.len]
def tz (P:Program) (t:TypeId):Option AV:=(P.info? t).bind fun i=>i.zero.map ofValue
theorem Xat {t:TypeId} {z:AV} (h:tz P t=some z):∃ v,(∀ w,(zeroValue t).run P w=.ok v w)∧∀ C,VR C z v:=by
 unfold tz at h
 cases hi:P.info? t with
 | none=>rw [hi] at h;cases h
 | some i =>
  rw [hi] at h
  cases hz:i.zero with
  | none=>simp [hz] at h
  | some v =>
   simp [hz] at h
   subst h
   exact ⟨v,fun w=>by simp [zeroValue,typeInfo,hi,hz],fun C=>VR.ofValue C v⟩
theorem Zel (w:World) (t:TypeId) (v:Value):(newVar t v).run P w=.ok ⟨w.heap.size,0,none⟩ (w.alloc (.cells v.cells t)):=by
 simp only [newVar,newRow,Sem.run_bind,run_newObj,Result.andThen_ok,Sem.run_pure];rfl
def Wx (v:AV) (σ:Za):Option (AV × Za):=if v.known then some (.ptr σ.length 0,σ++[.cells v.cells]) else none
theorem Xcf {C:Ctx} {σ σ':Za} (hI:Inv C σ) {v p:AV} {c:Value} (hv:VR C v c) (h:Wx v σ=some (p,σ')) (t:TypeId) :
  ∃ (C':Ctx) (cp:Value),((newVar t c).run P C.w=.ok ⟨C.w.heap.size,0,none⟩ C'.w∧cp=.pointer (some ⟨C.w.heap.size,0,none⟩))∧Ext C C'∧Inv C' σ'∧VR C' p cp:=by
 unfold Wx at h
 split at h
 ·rename_i hk
  simp at h
  obtain ⟨rfl,rfl⟩:=h
  obtain ⟨hE,hI',hb⟩:=hI.new (hv.cells hk) t
  refine ⟨_,_,⟨?_,rfl⟩,hE,hI',.ptr _ _ _ hb⟩
  rw [Zel]
  simp [Ctx.push]
 ·cases h
end Ab
namespace Ab
open Go Go.RowKit
variable [Mode]
variable {P:Program}
def Xa3 (op:BinOp) (k:IntKind) (a b:Int):Option AV :=
 match op with
 | .add=>some (.int k (k.wrap (a+b)))
 | .sub=>some (.int k (k.wrap (a - b)))
 | .mul=>some (.int k (k.wrap (a*b)))
 | .quo=>if b=0 then none else some (.int k (k.wrap (a.tdiv b)))
 | .rem=>if b=0 then none else some (.int k (a.tmod b))
 | .and=>some (.int k (k.wrap (BitVec.ofInt k.bits a &&& BitVec.ofInt k.bits b).toNat))
 | .or=>some (.int k (k.wrap (BitVec.ofInt k.bits a ||| BitVec.ofInt k.bits b).toNat))
 | .xor=>some (.int k (k.wrap (BitVec.ofInt k.bits a ^^^ BitVec.ofInt k.bits b).toNat))
 | .eql=>some (.bool (a == b))
 | .neq=>some (.bool (a != b))
 | .lss=>some (.bool (decide (a<b)))
 | .leq=>some (.bool (decide (a≤b)))
 | .gtr=>some (.bool (decide (b<a)))
 | .geq=>some (.bool (decide (b≤a)))
 | _=>none
def Ya5 (op:BinOp) (a b:List UInt8):Option AV :=
 match op with
 | .add=>if a.length+b.length≤9223372036854775807 then some (.str (a++b)) else none
 | .eql=>some (.bool (a == b))
 | .neq=>some (.bool (a != b))
 | _=>none
def Vd (P:Program) (t:TypeId):Nat:=match P.underlying t with | some (.int _)=>1 | some .bool=>2 | some .string=>3 | _=>0
def Zt (k:Nat) (x y:AV):Option Bool :=
 match x,y with
 | .int k1 a,.int k2 b=>if k=1∧k1=k2 then some (a == b) else none
 | .bool a,.bool b=>if k=2 then some (a == b) else none
 | .str a,.str b=>if k=3 then some (a == b) else none
 | _,_=>none
def Wh:List Nat→List AV→List AV→Option Bool
 | [],[],[]=>some true
 | k::ks,x::xs,y::ys =>
  match Zt k x y,Wh ks xs ys with
  | some r,some s=>some (r&&s)
  | _,_=>none
 | _,_,_=>none
def Wai (P:Program) (rec:TypeId→Option (List Nat)):List Field→Nat→Option (List Nat)
 | [],_=>some []
 | f::fs,n=>if f.name != "_"&&f.offset == n then (match rec f.type,tsa P f.type with
  | some ks,some (m,_)=>if 0<m∧m=ks.length then (Wai P rec fs (n+m)).map (ks++·) else none
  | _,_=>none) else none
def Wy (P:Program):Nat→TypeId→Option (List Nat)
 | 0,_=>none
 | d+1,t=>match P.underlying t with
  | some (.int _)=>some [1]
  | some .bool=>some [2]
  | some .string=>some [3]
  | some (.struct fs)=>if P.stoodInHeld t then none else Wai P (Wy P d) fs.toList 0
  | some (.array m e)=>(match Wy P d e,tsa P e with
   | some ks,some (n,_)=>if 0<n∧n=ks.length then some ((List.replicate m ks).flatten) else none
   | _,_=>none)
  | _=>none
def Yk (P:Program) (t:TypeId):Option (List Nat) :=
 match tsa P t with
 | some (_,true)=>if P.eqGuardType P.depth t then none else Wy P 40 t
 | _=>none
def Xg (P:Program) (t:TypeId):Bool:=match P.underlying t with | some .bool=>true | _=>false
def Ye (P:Program) (t:TypeId):Nat:=match P.underlying t with | some (.pointer _)=>1 | some (.slice _)=>2 | some (.map _ _)=>3 | some (.func _ _ _)=>4 | some (.interface _)=>5 | _=>0
def Yas (P:Program) (t:TypeId) (x y:AV):Option Bool :=
 match x,y with
 | .nilp,.nilp=>if Ye P t=1 then some true else none
 | .ptr _ _,.nilp=>if Ye P t=1 then some false else none
 | .pp _ _ _ _,.nilp=>if Ye P t=1 then some false else none
 | .nils,.nils=>if Ye P t=2 then some true else none
 | .arr _ _ _ _,.nils=>if Ye P t=2 then some false else none
 | .nn,.nils=>if Ye P t=2 then some false else none
 | .pl _ (_::_),.nils=>if Ye P t=2 then some false else none
 | .iface _ _,.nili=>if Ye P t=5 then some false else none
 | .fn _ _ _,.nilf=>if Ye P t=4 then some false else none
 | .nilf,.nilf=>if Ye P t=4 then some true else none
 | _,_=>none
def Yau (P:Program) (op:BinOp) (t:TypeId) (x y:AV):Option AV :=
 match x,y with
 | .int k a,.int k' b =>
  match op with
  | .shl=>if b<0 then none else some (.int k (k.wrap (a*2^min b.toNat k.bits)))
  | .shr=>if b<0 then none else some (.int k (a.fdiv (2^min b.toNat k.bits)))
  | _=>if k=k' then Xa3 op k a b else none
 | .str a,.str b=>Ya5 op a b
 | .bool a,.bool b=>if Xg P t then (match op with | .eql=>some (.bool (a == b)) | .neq=>some (.bool (a != b)) | _=>none) else none
 | .agg xs,.agg ys=>match Yk P t with
  | some ks=>(match op with | .eql=>(Wh ks xs ys).map AV.bool | .neq=>(Wh ks xs ys).map (fun b=>AV.bool !b) | _=>none)
  | none=>none
 | x,y=>match op with
  | .eql=>(Yas P t x y).map AV.bool
  | .neq=>(Yas P t x y).map (fun b=>AV.bool !b)
  | _=>none
theorem Ug8 {op:BinOp} {k:IntKind} {a b:Int} {v:AV} (h:Xa3 op k a b=some v) (hs:op≠.shl∧op≠.shr) (t:TypeId) (C:Ctx) (w:World) :
  ∃ c,(binOp op t (.int k a) (.int k b)).run P w=.ok c w∧VR C v c:=by
 unfold Xa3 at h
 cases op<;>simp only [Option.some.injEq,reduceCtorEq] at h<;>first
  | (subst h;exact ⟨_,by simp [binOp,Op.intArith,Op.intDiv,Op.intBits,Op.intCmp];rfl,by constructor⟩)
  | (split at h
     · cases h
     · rename_i hb;simp only [Option.some.injEq] at h;subst h;exact ⟨_,by simp [binOp,Op.intDiv,hb];rfl,by constructor⟩)
  | (simp at hs)
  | contradiction
theorem Za3 (a b:List UInt8):((⟨⟨a⟩⟩:ByteArray).toList == (⟨⟨b⟩⟩:ByteArray).toList)=(a == b):=by simp [ByteArray.toList_eq]
theorem Zfr (t:TypeId) (a b:List UInt8) (h:a.length+b.length≤9223372036854775807) (w:World):(binOp .add t (.string ⟨⟨a⟩⟩) (.string ⟨⟨b⟩⟩)).run P w=.ok (.string ⟨⟨a++b⟩⟩) w:=by
 have h1:¬ (((⟨⟨a⟩⟩:ByteArray).size+(⟨⟨b⟩⟩:ByteArray).size:Nat):Int) > IntKind.i64.max:=by
  have:IntKind.i64.max=9223372036854775807:=by decide
  rw [this]
  have e1:(⟨⟨a⟩⟩:ByteArray).size=a.length:=rfl
  have e2:(⟨⟨b⟩⟩:ByteArray).size=b.length:=rfl
  rw [e1,e2]
  omega
 simp only [binOp,Op.stringOp,if_neg h1,Sem.run_pure]
 rfl
theorem Ze1 {op:BinOp} {a b:List UInt8} {v:AV} (h:Ya5 op a b=some v) (t:TypeId) (C:Ctx) (w:World) :
  ∃ c,(binOp op t (.string ⟨⟨a⟩⟩) (.string ⟨⟨b⟩⟩)).run P w=.ok c w∧VR C v c:=by
 unfold Ya5 at h
 split at h
 ·split at h
  ·rename_i hle
   simp only [Option.some.injEq] at h
   subst h
   exact ⟨_,Zfr t a b hle w,.str _⟩
  ·cases h
 ·simp only [Option.some.injEq] at h
  subst h
  exact ⟨_,by simp only [binOp,Op.stringOp,Za3,Sem.run_pure],.bool _⟩
 ·simp only [Option.some.injEq] at h
  subst h
  exact ⟨_,by simp only [binOp,Op.stringOp,Za3,Sem.run_pure];rfl,.bool _⟩
 ·cases h
theorem Zhx {t:TypeId} (h:Xg P t=true):P.underlying t=some .bool:=by
 unfold Xg at h;split at h<;>first | assumption | cases h
theorem Zcm {t:TypeId}:(Ye P t=1→∃ e,P.underlying t=some (.pointer e))∧(Ye P t=2→∃ e,P.underlying t=some (.slice e))∧(Ye P t=3→∃ k e,P.underlying t=some (.map k e)) ∧
  (Ye P t=4→∃ a b c,P.underlying t=some (.func a b c))∧(Ye P t=5→∃ m,P.underlying t=some (.interface m)):=by
 unfold Ye
 split<;>simp_all
theorem run_equal_bool (t:TypeId) (a b:Bool) (h:P.underlying t=some .bool) (w:World):(Op.equal t (.bool a) (.bool b)).run P w=.ok (a == b) w:=by
 show (Op.equalIn (9999+1) t _ _).run P w=_
 rw [Op.equalIn]
 simp only [Sem.run_bind,run_underlying h,Result.andThen_ok,Sem.run_pure]
theorem Ybq (t e:TypeId) (a:Option Addr) (h:P.underlying t=some (.pointer e)) (w:World):(Op.equal t (.pointer a) (.pointer none)).run P w=.ok a.isNone w:=by
 show (Op.equalIn (9999+1) t _ _).run P w=_
 rw [Op.equalIn]
 cases a<;>simp only [Sem.run_bind,run_underlying h,Result.andThen_ok,Sem.run_pure]<;>rfl
theorem Xax (t e:TypeId) (a:Option Addr) (n c n' c':Nat) (h:P.underlying t=some (.slice e)) (w:World):(Op.equal t (.slice a n c) (.slice none n' c')).run P w=.ok a.isNone w:=by
 show (Op.equalIn (9999+1) t _ _).run P w=_
 rw [Op.equalIn]
 cases a<;>simp only [Sem.run_bind,run_underlying h,Result.andThen_ok,Sem.run_pure]<;>rfl
theorem Ze8 (t:TypeId) (u:TypeId) (v:Value) (m:Array (String × TypeId)) (h:P.underlying t=some (.interface m)) (w:World):(Op.equal t (.iface u v) .nilIface).run P w=.ok false w:=by
 show (Op.equalIn (9999+1) t _ _).run P w=_
 rw [Op.equalIn]
 simp only [Sem.run_bind,run_underlying h,Result.andThen_ok,Sem.run_pure]
theorem Vel (t:TypeId) (f:Fn) (x y:Array Value) (a b:Array TypeId) (c:Bool) (h:P.underlying t=some (.func a b c)) (w:World):(Op.equal t (.func f x y) .nilFunc).run P w=.ok false w:=by
 show (Op.equalIn (9999+1) t _ _).run P w=_
 rw [Op.equalIn]
 simp only [Sem.run_bind,run_underlying h,Result.andThen_ok,Sem.run_pure]
theorem Ug9 (t:TypeId) (a b:Array TypeId) (c:Bool) (h:P.underlying t=some (.func a b c)) (w:World):(Op.equal t .nilFunc .nilFunc).run P w=.ok true w:=by
 show (Op.equalIn (9999+1) t _ _).run P w=_
 rw [Op.equalIn]
 simp only [Sem.run_bind,run_underlying h,Result.andThen_ok,Sem.run_pure]
def Uae:Value→Bool
 | .pointer _ | .slice _ _ _ | .iface _ _ | .nilIface | .func _ _ _ | .nilFunc | .bool _ | .agg _ | .map _=>true
 | _=>false
theorem Vci {t:TypeId} {c d:Value} (h:Uae c=true) (h':Uae d=true) :
  binOp .eql t c d=(do pure (.bool (← Op.equal t c d)))∧binOp .neq t c d=(do pure (.bool (!(← Op.equal t c d)))):=by
 cases c<;>simp [Uae] at h<;>cases d<;>simp [Uae] at h'<;>constructor<;>rfl
theorem Xb4 {C:Ctx} {t:TypeId} {x y:AV} {c d:Value} {r:Bool} (hx:VR C x c) (hy:VR C y d) (h:Yas P t x y=some r) (w:World) :
  (Op.equal t c d).run P w=.ok r w∧Uae c=true∧Uae d=true∧(∀ X Y,Go.eqGuard .eql t X Y c d=pure ()∧Go.eqGuard .neq t X Y c d=pure ()):=by
 obtain ⟨k1,k2,_,k4,k5⟩:=Zcm (P:=P) (t:=t)
 cases x<;>cases y<;>simp only [Yas,reduceCtorEq] at h
 case nilp.nilp =>
  split at h<;>simp only [reduceCtorEq,Option.some.injEq] at h
  rename_i hk;obtain ⟨e,he⟩:=k1 hk;subst h;cases hx;cases hy
  exact ⟨Ybq t e _ he w,rfl,rfl,fun _ _=>⟨rfl,rfl⟩⟩
 case ptr.nilp =>
  split at h<;>simp only [reduceCtorEq,Option.some.injEq] at h
  rename_i hk;obtain ⟨e,he⟩:=k1 hk;subst h;cases hx;cases hy
  exact ⟨Ybq t e _ he w,rfl,rfl,fun _ _=>⟨rfl,rfl⟩⟩
 case pp.nilp =>
  split at h<;>simp only [reduceCtorEq,Option.some.injEq] at h
  rename_i hk;obtain ⟨e,he⟩:=k1 hk;subst h;cases hx;cases hy
  exact ⟨Ybq t e _ he w,rfl,rfl,fun _ _=>⟨rfl,rfl⟩⟩
 case nils.nils =>
  split at h<;>simp only [reduceCtorEq,Option.some.injEq] at h
  rename_i hk;obtain ⟨e,he⟩:=k2 hk;subst h;cases hx;cases hy
  exact ⟨Xax t e _ _ _ _ _ he w,rfl,rfl,fun _ _=>⟨rfl,rfl⟩⟩
 case arr.nils =>
  split at h<;>simp only [reduceCtorEq,Option.some.injEq] at h
  rename_i hk;obtain ⟨e,he⟩:=k2 hk;subst h;cases hx;cases hy
  exact ⟨Xax t e _ _ _ _ _ he w,rfl,rfl,fun _ _=>⟨rfl,rfl⟩⟩
 case nn.nils =>
  split at h<;>simp only [reduceCtorEq,Option.some.injEq] at h
  rename_i hk;obtain ⟨e,he⟩:=k2 hk;subst h;cases hx;cases hy
  exact ⟨Xax t e _ _ _ _ _ he w,rfl,rfl,fun _ _=>⟨rfl,rfl⟩⟩
 case pl.nils k l =>
  cases l with
  | nil=>simp at h
  | cons y l =>
   simp only at h
   split at h<;>simp only [reduceCtorEq,Option.some.injEq] at h
   rename_i hk;obtain ⟨e,he⟩:=k2 hk;subst h;cases hy
   obtain ⟨A,cap,rfl,_,hA⟩:=hx.pl_inv
   rcases hA with hA | ⟨b,o,rfl,_⟩
   ·cases hA
   ·exact ⟨Xax t e _ _ _ _ _ he w,rfl,rfl,fun _ _=>⟨rfl,rfl⟩⟩
 case iface.nili =>
  split at h<;>simp only [reduceCtorEq,Option.some.injEq] at h
  rename_i hk;obtain ⟨e,he⟩:=k5 hk;subst h;cases hx;cases hy
  exact ⟨Ze8 t _ _ e he w,rfl,rfl,fun _ _=>⟨rfl,rfl⟩⟩
 case fn.nilf =>
  split at h<;>simp only [reduceCtorEq,Option.some.injEq] at h
  rename_i hk;obtain ⟨a,b,e,he⟩:=k4 hk;subst h;cases hx;cases hy
  exact ⟨Vel t _ _ _ a b e he w,rfl,rfl,fun _ _=>⟨rfl,rfl⟩⟩
 case nilf.nilf =>
  split at h<;>simp only [reduceCtorEq,Option.some.injEq] at h
  rename_i hk;obtain ⟨a,b,e,he⟩:=k4 hk;subst h;cases hx;cases hy
  exact ⟨Ug9 t a b e he w,rfl,rfl,fun _ _=>⟨rfl,rfl⟩⟩
theorem Ydf {C:Ctx} {k:Nat} {x y:AV} {a b:Value} {r:Bool} {t:TypeId} (hx:VR C x a) (hy:VR C y b) (ht:Vd P t=k) (h:Zt k x y=some r) (d:Nat) (w:World):(Op.equalIn (d+1) t a b).run P w=.ok r w:=by
 have hk:(k=1→∃ q,P.underlying t=some (.int q))∧(k=2→P.underlying t=some .bool)∧(k=3→P.underlying t=some .string):=by
  subst ht
  unfold Vd
  split<;>simp_all
 cases x<;>cases y<;>simp only [Zt,reduceCtorEq] at h
 case int.int k1 n k2 m =>
  split at h<;>simp only [reduceCtorEq,Option.some.injEq] at h
  rename_i hh;obtain ⟨h1,rfl⟩:=hh;subst h
  obtain ⟨q,hq⟩:=hk.1 h1
  cases hx;cases hy
  exact run_equalIn_int w d t _ q _ _ hq
 case bool.bool =>
  split at h<;>simp only [reduceCtorEq,Option.some.injEq] at h
  rename_i hh;subst h;cases hx;cases hy
  exact run_equalIn_bool w d t _ _ (hk.2.1 hh)
 case str.str =>
  split at h<;>simp only [reduceCtorEq,Option.some.injEq] at h
  rename_i hh;subst h;cases hx;cases hy
  rw [run_equalIn_string w d t _ _ (hk.2.2 hh),Za3]
theorem Vaw:∀ {ks:List Nat} {xs ys:List AV} {r:Bool},Wh ks xs ys=some r→xs.length=ks.length∧ys.length=ks.length:=by
 intro ks
 induction ks with
 | nil=>intro xs ys r h;cases xs<;>cases ys<;>simp [Wh] at h ⊢
 | cons k ks ih =>
  intro xs ys r h
  cases xs with
  | nil=>simp [Wh] at h
  | cons x xs=>cases ys with
   | nil=>simp [Wh] at h
   | cons y ys =>
    simp only [Wh] at h
    split at h
    ·rename_i r1 r2 h1 h2
     have:=ih h2
     simp only [List.length_cons];omega
    ·cases h
theorem Vby:∀ {ks ls:List Nat} {xs ys:List AV} {r:Bool},Wh (ks++ls) xs ys=some r →
  ∃ r1 r2,Wh ks (xs.take ks.length) (ys.take ks.length)=some r1∧Wh ls (xs.drop ks.length) (ys.drop ks.length)=some r2∧r=(r1&&r2):=by
 intro ks
 induction ks with
 | nil=>intro ls xs ys r h;exact ⟨true,r,rfl,by simpa using h,rfl⟩
 | cons k ks ih =>
  intro ls xs ys r h
  cases xs with
  | nil=>simp [Wh] at h
  | cons x xs=>cases ys with
   | nil=>simp [Wh] at h
   | cons y ys =>
    simp only [List.cons_append,Wh] at h
    split at h
    ·rename_i r1 r2 h1 h2
     simp only [Option.some.injEq] at h
     obtain ⟨q1,q2,e1,e2,e3⟩:=ih h2
     refine ⟨r1&&q1,q2,?_,by simpa using e2,by rw [← h,e3,Bool.and_assoc]⟩
     simp only [List.length_cons,List.take_succ_cons,Wh,h1,e1]
    ·cases h
def Uq (ag:Bool) (a:Value) (cs:List Value):Prop:=if ag then a=.agg cs.toArray else cs=[a]
theorem Zao {cs:List Value} {i n:Nat} {ag:Bool} {t:TypeId} (ht:tsa P t=some (n,ag)) (hn:i+n≤cs.length) (h1:ag=false→n=1) (w:World):∃ a,(part t cs.toArray i).run P w=.ok a w∧Uq ag a ((cs.drop i).take n):=by
 simp only [part,Sem.run_bind,Xa1 w ht,Result.andThen_ok]
 cases ag with
 | true =>
  refine ⟨.agg ((cs.drop i).take n).toArray,?_,by simp [Uq]⟩
  simp only [if_true,Sem.run_bind,Yq w ht,Result.andThen_ok,Sem.run_pure]
  congr 2
  apply Array.ext'
  simp [List.extract_eq_take_drop]
 | false =>
  obtain rfl:=h1 rfl
  have hi:i<cs.length:=by omega
  refine ⟨cs[i],by simp [hi],?_⟩
  simp only [Uq,Bool.false_eq_true,if_false]
  rw [List.drop_eq_getElem_cons hi]
  rfl
theorem VRs.take {C:Ctx} {xs:List AV} {cs:List Value} (h:VRs C xs cs) (n:Nat):VRs C (xs.take n) (cs.take n) :=
 ⟨by simp [h.len],fun i x c hx hc=>by
  rw [List.getElem?_take] at hx hc
  split at hx
  ·rename_i hi;rw [if_pos hi] at hc;exact h.at_ i x c hx hc
  ·cases hx⟩
theorem VRs.drop {C:Ctx} {xs:List AV} {cs:List Value} (h:VRs C xs cs) (n:Nat):VRs C (xs.drop n) (cs.drop n) :=
 ⟨by simp [h.len],fun i x c hx hc=>by rw [List.getElem?_drop] at hx hc;exact h.at_ _ x c hx hc⟩
def Waz (P:Program) (d:Nat) (t:TypeId) (ks:List Nat):Prop :=
 ∀ (C:Ctx) (n:Nat) (ag:Bool) (a b:Value) (cs ds:List Value) (xs ys:List AV) (r:Bool) (w:World) (D:Nat),d≤D→tsa P t=some (n,ag)→Uq ag a cs→Uq ag b ds→VRs C xs cs→VRs C ys ds→Wh ks xs ys=some r→(Op.equalIn D t a b).run P w=.ok r w
theorem Vbl {t:TypeId} {k:Nat} (h:(k=1∧∃ q,P.underlying t=some (.int q))∨(k=2∧P.underlying t=some .bool)∨(k=3∧P.underlying t=some .string)):Vd P t=k:=by
 unfold Vd
 rcases h with ⟨rfl,q,h⟩ | ⟨rfl,h⟩ | ⟨rfl,h⟩<;>rw [h]
theorem one_cell {t:TypeId} {k n:Nat} {ag:Bool} (hk:k=1∨k=2∨k=3) (ht:Vd P t=k) (hs:tsa P t=some (n,ag)):ag=false:=by
 obtain ⟨i,d,_,hu,_,hd⟩:=Xac hs
 unfold Vd at ht
 rw [hu] at ht
 cases d<;>simp at ht<;>first | (rw [← hd];rfl) | omega
theorem Zbg {t:TypeId} {k d:Nat} (hk:k=1∨k=2∨k=3) (ht:Vd P t=k):Waz P (d+1) t [k]:=by
 intro C n ag a b cs ds xs ys r w D hD hs ha hb hx hy h
 obtain rfl:=one_cell hk ht hs
 simp only [Uq,Bool.false_eq_true,if_false] at ha hb
 subst ha hb
 obtain ⟨D,rfl⟩:∃ e,D=e+1:=⟨D - 1,by omega⟩
 cases xs with
 | nil=>have:=hx.len;simp at this
 | cons x xs =>
  cases ys with
  | nil=>have:=hy.len;simp at this
  | cons y ys =>
   obtain ⟨_,_,e1,h1,h1'⟩:=hx.inv
   obtain ⟨_,_,e2,h2,h2'⟩:=hy.inv
   simp only [List.cons.injEq] at e1 e2
   obtain ⟨rfl,rfl⟩:=e1
   obtain ⟨rfl,rfl⟩:=e2
   simp only [Wh] at h
   split at h
   ·rename_i r1 r2 g1 g2
    have hl:=(Vaw g2).1
    cases xs with
    | cons _ _=>simp at hl
    | nil =>
     cases ys with
     | cons _ _=>have:=(Vaw g2).2;simp at this
     | nil =>
      simp only [Wh,Option.some.injEq] at g2 h
      subst g2
      subst h
      rw [Bool.and_true]
      exact Ydf h1 h2 ht g1 D w
   ·cases h
theorem Yfi {d:Nat} {rec:TypeId→Option (List Nat)} (ih:∀ t ks,rec t=some ks→Waz P d t ks∧∀ n,tsa P t=some (n,false)→n=ks.length→n=1) (C:Ctx) (w:World) (D:Nat) (hD:d≤D) (cs ds:List Value):∀ (fs:List Field) (n:Nat) (ks:List Nat) (xs ys:List AV) (r:Bool),
  Wai P rec fs n=some ks→VRs C xs (cs.drop n)→VRs C ys (ds.drop n)→Wh ks xs ys=some r→(Op.eqFields D cs.toArray ds.toArray fs).run P w=.ok r w:=by
 intro fs
 induction fs with
 | nil =>
  intro n ks xs ys r h _ _ he
  simp only [Wai,Option.some.injEq] at h
  subst h
  cases xs<;>cases ys<;>simp [Wh] at he
  subst he
  simp [Op.eqFields]
 | cons f fs ih' =>
  intro n ks xs ys r h hx hy he
  simp only [Wai] at h
  split at h
  case isFalse=>cases h
  rename_i hc
  simp only [Bool.and_eq_true,bne_iff_ne,ne_eq,beq_iff_eq] at hc
  obtain ⟨hn,ho⟩:=hc
  split at h
  case h_2=>cases h
  rename_i k1 m ag hr hs
  split at h
  case isFalse=>cases h
  rename_i hm
  obtain ⟨hm0,hm⟩:=hm
  rw [Qzm] at h
  obtain ⟨k2,h2,rfl⟩:=h
  obtain ⟨r1,r2,e1,e2,rfl⟩:=Vby he
  obtain ⟨i1,i2⟩:=ih _ _ hr
  have hl:=Vaw he
  have l1:=hx.len
  have l2:=hy.len
  rw [List.length_drop] at l1 l2
  rw [List.length_append] at hl
  by_cases hz:n+m≤cs.length∧n+m≤ds.length
  case neg=>omega
  obtain ⟨a,p1,c1⟩:=Zao (cs:=cs) (i:=n) hs hz.1 (fun hh=>by subst hh;exact i2 _ hs hm) w
  obtain ⟨b,p2,c2⟩:=Zao (cs:=ds) (i:=n) hs hz.2 (fun hh=>by subst hh;exact i2 _ hs hm) w
  have q1:=hx.take m
  have q2:=hy.take m
  have q3:=hx.drop m
  have q4:=hy.drop m
  rw [List.drop_drop] at q3 q4
  rw [← hm] at e1 e2
  have g1:=i1 C m ag a b _ _ _ _ r1 w D hD hs c1 c2 q1 q2 e1
  have g2:=ih' (n+m) k2 _ _ r2 h2 q3 q4 e2
  simp only [Op.eqFields,if_pos hn,Sem.run_bind,ho,p1,p2,Result.andThen_ok,g1]
  cases r1
  ·simp
  ·simp only [Bool.not_true,Bool.false_eq_true,if_false,g2,Bool.true_and]
theorem Yfd {d:Nat} {e:TypeId} {ks:List Nat} {m:Nat} {ag:Bool} (ih:Waz P d e ks) (hs:tsa P e=some (m,ag)) (hm0:0<m) (hm:m=ks.length) (h1:ag=false→m=1) (C:Ctx) (w:World) (D:Nat) (hD:d≤D) (cs ds:List Value):∀ (q n:Nat) (xs ys:List AV) (r:Bool),
  VRs C xs (cs.drop (n*m))→VRs C ys (ds.drop (n*m))→Wh (List.replicate q ks).flatten xs ys=some r→(Op.eqItems D e m cs.toArray ds.toArray (List.range' n q)).run P w=.ok r w:=by
 intro q
 induction q with
 | zero =>
  intro n xs ys r _ _ he
  cases xs<;>cases ys<;>simp [Wh] at he
  subst he
  simp [Op.eqItems]
 | succ q ih' =>
  intro n xs ys r hx hy he
  rw [List.replicate_succ,List.flatten_cons] at he
  obtain ⟨r1,r2,e1,e2,rfl⟩:=Vby he
  have hl:=Vaw he
  have l1:=hx.len
  have l2:=hy.len
  rw [List.length_drop] at l1 l2
  rw [List.length_append] at hl
  by_cases hz:n*m+m≤cs.length∧n*m+m≤ds.length
  case neg=>omega
  obtain ⟨a,p1,c1⟩:=Zao (cs:=cs) (i:=n*m) hs hz.1 h1 w
  obtain ⟨b,p2,c2⟩:=Zao (cs:=ds) (i:=n*m) hs hz.2 h1 w
  have q1:=hx.take m
  have q2:=hy.take m
  have q3:=hx.drop m
  have q4:=hy.drop m
  rw [List.drop_drop] at q3 q4
  rw [← hm] at e1 e2
  have g1:=ih C m ag a b _ _ _ _ r1 w D hD hs c1 c2 q1 q2 e1
  have g2:=ih' (n+1) _ _ r2 (by rw [Nat.succ_mul];exact q3) (by rw [Nat.succ_mul];exact q4) e2
  rw [List.range'_succ]
  simp only [Op.eqItems,Sem.run_bind,p1,p2,Result.andThen_ok,g1]
  cases r1
  ·simp
  ·simp only [Bool.not_true,Bool.false_eq_true,if_false,g2,Bool.true_and]
theorem Yam {t:TypeId} {n:Nat} {D:TypeDesc} (hs:tsa P t=some (n,false)) (hu:P.underlying t=some D):Vz D=false:=by
 obtain ⟨i,d,_,h,_,hd⟩:=Xac hs
 rw [hu] at h
 cases h
 exact hd
theorem Zax:∀ (d:Nat) (t:TypeId) (ks:List Nat),Wy P d t=some ks→Waz P d t ks∧∀ n,tsa P t=some (n,false)→n=ks.length→n=1:=by
 intro d
 induction d with
 | zero=>intro t ks h;simp [Wy] at h
 | succ d ih =>
  intro t ks h
  unfold Wy at h
  split at h
  ·rename_i q hu
   cases h
   exact ⟨Zbg (.inl rfl) (Vbl (.inl ⟨rfl,q,hu⟩)),fun n _ hl=>hl⟩
  ·rename_i hu
   cases h
   exact ⟨Zbg (.inr (.inl rfl)) (Vbl (.inr (.inl ⟨rfl,hu⟩))),fun n _ hl=>hl⟩
  ·rename_i hu
   cases h
   exact ⟨Zbg (.inr (.inr rfl)) (Vbl (.inr (.inr ⟨rfl,hu⟩))),fun n _ hl=>hl⟩
  ·rename_i fs hu
   split at h
   ·cases h
   rename_i hst
   refine ⟨?_,fun n hs _=>by have:=Yam hs hu;simp [Vz] at this⟩
   intro C n ag a b cs ds xs ys r w D hD hs ha hb hx hy he
   have hag:ag=true:=by
    cases ag with
    | true=>rfl
    | false=>have:=Yam hs hu;simp [Vz] at this
   subst hag
   simp only [Uq,if_true] at ha hb
   subst ha hb
   obtain ⟨D,rfl⟩:∃ e,D=e+1:=⟨D - 1,by omega⟩
   have hfo:P.fieldsOf t=fs:=by simp [Program.fieldsOf,hu]
   rw [run_equalIn_agg w D t _ _ (by rw [hfo];exact hu) (by simpa using hst),hfo]
   exact Yfi ih C w D (by omega) cs ds fs.toList 0 ks xs ys r h (by simpa using hx) (by simpa using hy) he
  ·rename_i m e hu
   split at h
   case h_2=>cases h
   rename_i k1 n ag hr hs1
   split at h
   case isFalse=>cases h
   rename_i hn
   obtain ⟨hn0,hn⟩:=hn
   cases h
   refine ⟨?_,fun n hs _=>by have:=Yam hs hu;simp [Vz] at this⟩
   intro C n' ag' a b cs ds xs ys r w D hD hs ha hb hx hy he
   have hag:ag'=true:=by
    cases ag' with
    | true=>rfl
    | false=>have:=Yam hs hu;simp [Vz] at this
   subst hag
   simp only [Uq,if_true] at ha hb
   subst ha hb
   obtain ⟨D,rfl⟩:∃ e,D=e+1:=⟨D - 1,by omega⟩
   obtain ⟨i,dd,hi,_,hsz,_⟩:=Xac hs1
   rw [run_equalIn_array w D _ _ hu hi]
   have hco:P.cellsOf e=n:=by simp [Program.cellsOf,hi,hsz]
   rw [hco,List.range_eq_range']
   exact Yfd (ih _ _ hr).1 hs1 hn0 hn (fun hh=>by subst hh;exact (ih _ _ hr).2 _ hs1 hn) C w D (by omega) cs ds m 0 xs ys r (by simpa using hx) (by simpa using hy) he
  ·cases h
theorem Vgr {C:Ctx} {t:TypeId} {ks:List Nat} {xs ys:List AV} {cs ds:List Value} {r:Bool} (ht:Yk P t=some ks) (hx:VRs C xs cs) (hy:VRs C ys ds) (h:Wh ks xs ys=some r) (w:World) :
  (Op.equal t (.agg cs.toArray) (.agg ds.toArray)).run P w=.ok r w∧P.eqGuardType P.depth t=false:=by
 unfold Yk at ht
 split at ht
 case h_2=>cases ht
 rename_i n hs
 split at ht
 ·cases ht
 rename_i hg
 exact ⟨(Zax 40 t ks ht).1 C n true _ _ cs ds xs ys r w 10000 (by decide) hs (by simp [Uq]) (by simp [Uq]) hx hy h,by simpa using hg⟩
theorem Wb1 {C:Ctx} {op:BinOp} {t:TypeId} {x y v:AV} {c d:Value} (hx:VR C x c) (hy:VR C y d) (h:Yau P op t x y=some v) (X Y:Operand) (w:World) :
  ∃ r,(do Go.eqGuard op t X Y c d;binOp op t c d:Sem Value).run P w=.ok r w∧VR C v r:=by
 have plain:(∀ (n:Int) k,c≠.int k n∨True):=fun _ _=>.inr trivial
 have viaEq:∀ r,(Op.equal t c d).run P w=.ok r w→Uae c=true→Uae d=true→(∀ op',(op'=.eql∨op'=.neq)→(Go.eqGuard op' t X Y c d).run P w=.ok () w) →
   ((op=.eql∧v=.bool r)∨(op=.neq∧v=.bool (!r)))→∃ q,(do Go.eqGuard op t X Y c d;binOp op t c d:Sem Value).run P w=.ok q w∧VR C v q:=by
  intro r hr hc hd hg ho
  obtain ⟨b1,b2⟩:=Vci (t:=t) hc hd
  rcases ho with ⟨rfl,rfl⟩ | ⟨rfl,rfl⟩
  ·exact ⟨_,by simp only [Sem.run_bind,hg _ (.inl rfl),b1,hr,Result.andThen_ok,Sem.run_pure],.bool _⟩
  ·exact ⟨_,by simp only [Sem.run_bind,hg _ (.inr rfl),b2,hr,Result.andThen_ok,Sem.run_pure],.bool _⟩
 unfold Yau at h
 split at h
 ·rename_i k a k' b
  cases hx;cases hy
  have hg:∀ op,(Go.eqGuard op t X Y (.int k a) (.int k' b)).run P w=.ok () w:=by intro op;cases op<;>rfl
  split at h
  ·split at h<;>simp only [reduceCtorEq,Option.some.injEq] at h
   rename_i hb;subst h
   exact ⟨_,by simp only [Sem.run_bind,hg,Result.andThen_ok,binOp,Op.shift,if_neg hb,Sem.run_pure],.int _ _⟩
  ·split at h<;>simp only [reduceCtorEq,Option.some.injEq] at h
   rename_i hb;subst h
   exact ⟨_,by simp only [Sem.run_bind,hg,Result.andThen_ok,binOp,Op.shift,if_neg hb,Sem.run_pure],.int _ _⟩
  ·rename_i hns hnr
   split at h
   ·rename_i hk;subst hk
    obtain ⟨r,hr,hv⟩:=Ug8 (P:=P) h ⟨hns,hnr⟩ t C w
    exact ⟨r,by simp only [Sem.run_bind,hg,Result.andThen_ok];exact hr,hv⟩
   ·cases h
 ·cases hx;cases hy
  obtain ⟨r,hr,hv⟩:=Ze1 (P:=P) h t C w
  refine ⟨r,?_,hv⟩
  rename_i a b
  have hg:(Go.eqGuard op t X Y (.string ⟨⟨a⟩⟩) (.string ⟨⟨b⟩⟩)).run P w=.ok () w:=by cases op<;>rfl
  simp only [Sem.run_bind,hg,Result.andThen_ok];exact hr
 ·rename_i a b
  cases hx;cases hy
  by_cases ht:Xg P t=true
  case neg=>rw [if_neg ht] at h;cases h
  rw [if_pos ht] at h
  refine viaEq (a == b) (run_equal_bool t a b (Zhx ht) w) rfl rfl (fun op' h'=>by rcases h' with rfl | rfl<;>rfl) ?_
  split at h<;>simp only [reduceCtorEq,Option.some.injEq] at h
  ·exact .inl ⟨rfl,h.symm⟩
  ·exact .inr ⟨rfl,by rw [← h];rfl⟩
 ·rename_i xs ys
  obtain ⟨cs,rfl,hcs⟩:=hx.agg_inv
  obtain ⟨ds,rfl,hds⟩:=hy.agg_inv
  cases ht:Yk P t with
  | none=>rw [ht] at h;cases h
  | some ks =>
  rw [ht] at h
  simp only at h
  have key:∀ r,Wh ks xs ys=some r→((op=.eql∧v=.bool r)∨(op=.neq∧v=.bool (!r)))→∃ q,(do Go.eqGuard op t X Y (.agg cs.toArray) (.agg ds.toArray);binOp op t (.agg cs.toArray) (.agg ds.toArray):Sem Value).run P w=.ok q w∧VR C v q:=by
   intro r hr ho
   obtain ⟨e1,e2⟩:=Vgr (P:=P) ht hcs hds hr w
   exact viaEq r e1 rfl rfl (fun op' _=>run_eqGuard_agg w op' t X Y _ _ e2) ho
  split at h
  ·rw [Qzm] at h
   obtain ⟨r,hr,rfl⟩:=h
   exact key r hr (.inl ⟨rfl,rfl⟩)
  ·rw [Qzm] at h
   obtain ⟨r,hr,rfl⟩:=h
   exact key r hr (.inr ⟨rfl,rfl⟩)
  ·cases h
 ·split at h
  ·rw [Qzm] at h
   obtain ⟨r,hr,rfl⟩:=h
   obtain ⟨e1,e2,e3,e4⟩:=Xb4 (P:=P) hx hy hr w
   exact viaEq r e1 e2 e3 (fun op' h'=>by rcases h' with rfl | rfl;exact congrArg (·.run P w) (e4 X Y).1;exact congrArg (·.run P w) (e4 X Y).2) (.inl ⟨rfl,rfl⟩)
  ·rw [Qzm] at h
   obtain ⟨r,hr,rfl⟩:=h
   obtain ⟨e1,e2,e3,e4⟩:=Xb4 (P:=P) hx hy hr w
   exact viaEq r e1 e2 e3 (fun op' h'=>by rcases h' with rfl | rfl;exact congrArg (·.run P w) (e4 X Y).1;exact congrArg (·.run P w) (e4 X Y).2) (.inr ⟨rfl,rfl⟩)
  ·cases h
def Uar:Operand→Bool
 | .const .nilIface=>true
 | _=>false
def Yan (P:Program) (op:BinOp) (t:TypeId) (y:Operand) (a b:AV):Option AV :=
 if Uar y then (match a with
  | .nili=>if Ye P t=5 then (match op with | .eql=>some (.bool true) | .neq=>some (.bool false) | _=>none) else none
  | a=>Yau P op t a b)
 else Yau P op t a b
theorem Zgn (t:TypeId) (m:Array (String × TypeId)) (h:P.underlying t=some (.interface m)) (w:World):(Op.equal t .nilIface .nilIface).run P w=.ok true w:=by
 show (Op.equalIn (9999+1) t _ _).run P w=_
 rw [Op.equalIn]
 simp only [Sem.run_bind,run_underlying h,Result.andThen_ok,Sem.run_pure]
theorem Vc1 {C:Ctx} {op:BinOp} {t:TypeId} {x y v:AV} {c d:Value} (X Y:Operand) (hx:VR C x c) (hy:VR C y d) (hd:Uar Y=true→d=.nilIface) (h:Yan P op t Y x y=some v) (w:World) :
  ∃ r,(do Go.eqGuard op t X Y c d;binOp op t c d:Sem Value).run P w=.ok r w∧VR C v r:=by
 unfold Yan at h
 split at h
 ·rename_i hn
  split at h
  ·split at h
   ·rename_i hk
    obtain ⟨_,_,_,_,k5⟩:=Zcm (P:=P) (t:=t)
    obtain ⟨m,hm⟩:=k5 hk
    cases hx
    obtain rfl:=hd hn
    have hY:∃ z,Y=.const z:=by
     unfold Uar at hn
     split at hn
     ·exact ⟨_,rfl⟩
     ·cases hn
    obtain ⟨z,rfl⟩:=hY
    obtain ⟨b1,b2⟩:=Vci (t:=t) (c:=.nilIface) (d:=.nilIface) rfl rfl
    have he:=Zgn t m hm w
    split at h
    ·simp only [Option.some.injEq] at h
     subst h
     exact ⟨_,by simp only [Sem.run_bind,show Go.eqGuard .eql t X (.const z) .nilIface .nilIface=pure () by simp [Go.eqGuard],b1,he,Result.andThen_ok,Sem.run_pure],.bool _⟩
    ·simp only [Option.some.injEq] at h
     subst h
     exact ⟨_,by simp only [Sem.run_bind,show Go.eqGuard .neq t X (.const z) .nilIface .nilIface=pure () by simp [Go.eqGuard],b2,he,Result.andThen_ok,Sem.run_pure];rfl,.bool _⟩
    ·cases h
   ·cases h
  ·exact Wb1 hx hy h X Y w
 ·exact Wb1 hx hy h X Y w
end Ab
namespace Ab
open Go Go.RowKit
variable [Mode]
variable {P:Program}
def aun (op:UnOp) (x:AV):Option AV :=
 match op,x with
 | .neg,.int k n=>some (.int k (k.wrap (0 - n)))
 | .not,.bool b=>some (.bool (!b))
 | _,_=>none
theorem Zcy {C:Ctx} {op:UnOp} {x v:AV} {c:Value} (hx:VR C x c) (h:aun op x=some v) (w:World):∃ r,(Op.unary op c).run P w=.ok r w∧VR C v r:=by
 unfold aun at h
 split at h<;>simp only [reduceCtorEq,Option.some.injEq] at h
 ·subst h;cases hx;exact ⟨_,rfl,.int _ _⟩
 ·subst h;cases hx;exact ⟨_,rfl,.bool _⟩
theorem Ycn {C:Ctx} {t:TypeId} {n off:Nat} {ag:Bool} (hs:tsa P t=some (n,ag)) {xs:List AV} {cs:List Value} (h:VRs C xs cs) {v:AV} (hv:rd ag n xs off=some v) (w:World) :
  ∃ r,(part t cs.toArray off).run P w=.ok r w∧VR C v r:=by
 unfold rd at hv
 have hl:=h.len
 by_cases hle:off+n≤xs.length
 case neg=>rw [if_neg hle] at hv;cases hv
 rw [if_pos hle] at hv
 simp only [part,Sem.run_bind,Xa1 w hs,Result.andThen_ok]
 cases ag with
 | true =>
  simp only [if_true,Option.some.injEq] at hv
  subst hv
  refine ⟨.agg (((cs.drop off).take n).toArray),?_,.agg (sub xs off n) ((cs.drop off).take n) (by simp [sub];omega) fun i x c hx hc=>?_⟩
  ·simp only [if_true,Sem.run_bind,Yq w hs,Result.andThen_ok,Sem.run_pure]
   congr 2
   apply Array.ext'
   simp [List.drop_take]
  ·have hi:i<n:=by
    have:=(Qzs.1 hc).1
    simp at this;omega
   unfold sub at hx
   rw [List.getElem?_take_of_lt hi,List.getElem?_drop] at hx hc
   exact h.at_ _ x c hx hc
 | false =>
  simp only [Bool.false_eq_true,if_false] at hv ⊢
  by_cases hn:n=1
  case neg=>rw [if_neg hn] at hv;cases hv
  rw [if_pos hn] at hv
  have hc:cs[off]? = some (cs[off]'(by omega)):=Qze (by omega)
  refine ⟨_,?_,h.at_ off v _ hv hc⟩
  simp [hc]
def Vap (P:Program) (t:TypeId) (x:AV) (i:Nat):Option AV :=
 match Vj P t i,x with
 | some (off,ft),.agg xs=>(tsa P ft).bind fun s=>rd s.2 s.1 xs off
 | _,_=>none
theorem Whr {C:Ctx} {t:TypeId} {x v:AV} {i:Nat} {c:Value} (hx:VR C x c) (h:Vap P t x i=some v) (w:World):∃ r,(Instr.field t c i).run P w=.ok r w∧VR C v r:=by
 unfold Vap at h
 split at h
 case h_2=>cases h
 rename_i off ft xs hf
 rw [Option.bind_eq_some_iff] at h
 obtain ⟨⟨n,ag⟩,hs,hv⟩:=h
 obtain ⟨fs,f,hu,hi,rfl,rfl⟩:=Wck hf
 obtain ⟨cs,rfl,hcs⟩:=hx.agg_inv
 obtain ⟨r,hr,hvr⟩:=Ycn hs hcs hv w
 exact ⟨r,by simp only [Instr.field,Sem.run_bind,run_underlying hu,Result.andThen_ok,hi,asAgg,Sem.run_pure];exact hr,hvr⟩
def Uap (P:Program) (t:TypeId) (x:AV) (i:Nat):Option AV :=
 match Vj P t i with
 | some (off,ft) =>
  match tsa P ft with
  | some (n,_)=>if n=0 then none else (match x with
   | .ptr r o=>some (.ptr r (o+off))
   | .pp k l i j=>some (.pp k l i (j+off))
   | _=>none)
  | none=>none
 | none=>none
theorem Xd0 {C:Ctx} {t:TypeId} {x v:AV} {i:Nat} {c:Value} (hx:VR C x c) (h:Uap P t x i=some v) (w:World):∃ r,(Instr.fieldAt t c i).run P w=.ok r w∧VR C v r:=by
 unfold Uap at h
 split at h
 ·rename_i off ft hf
  split at h
  ·rename_i n ag hs
   obtain ⟨fs,f,hu,hi,rfl,rfl⟩:=Wck hf
   by_cases hn:n=0
   case pos=>rw [if_pos hn] at h;cases h
   rw [if_neg hn] at h
   have hrun:∀ a:Addr,(Instr.fieldAt t (.pointer (some a)) i).run P w=.ok (.pointer (some (a.add f.offset))) w:=fun a=>by
    simp only [Instr.fieldAt,Sem.run_bind,run_underlying hu,Result.andThen_ok,hi,Instr.sureAddr,Sem.run_pure,fieldPlace,Yq w hs,if_neg hn]
   split at h<;>simp only [reduceCtorEq,Option.some.injEq] at h
   ·rename_i r o
    subst h
    obtain ⟨b,hb,rfl⟩:=hx.ptr_inv
    exact ⟨_,hrun _,by rw [Zp];exact .ptr r _ b hb⟩
   ·rename_i k l i' j
    subst h
    obtain ⟨b,o,rfl,hi',hrow⟩:=hx.pp_inv
    refine ⟨_,hrun _,?_⟩
    rw [Zp,Nat.add_assoc (o+i'*k)]
    exact hrow.pp hi'
  ·cases h
 ·cases h
def Um (P:Program) (t:TypeId):Option (Nat × TypeId):=match P.underlying t with | some (.array n e)=>some (n,e) | _=>none
theorem Yba {t:TypeId} {n:Nat} {e:TypeId} (h:Um P t=some (n,e)):P.underlying t=some (.array n e):=by
 unfold Um at h;split at h
 ·rename_i h1;simp at h;obtain ⟨rfl,rfl⟩:=h;exact h1
 ·cases h
def Wap (P:Program) (t:TypeId) (x i:AV):Option AV :=
 match i with
 | .int _ i =>
  match Uc P t with
  | some e=>match tsa P e with
   | some (n,_)=>(match x with
    | .pl k l=>if k=n∧0≤i∧i<(l.length:Int) then some (.pp k l i.toNat 0) else none
    | .arr k r off len=>if k=n∧0≤i∧i<(len:Int) then some (.ptr r ((off+i.toNat)*k)) else none
    | _=>none)
   | none=>none
  | none=>match Um P t with
   | some (m,e)=>match tsa P e with
    | some (n,_)=>(match x with
     | .ptr r o=>if 0≤i∧i<(m:Int) then some (.ptr r (o+i.toNat*n)) else none
     | .pp k l q j=>if 0≤i∧i<(m:Int) then some (.pp k l q (j+i.toNat*n)) else none
     | _=>none)
    | none=>none
   | none=>none
 | _=>none
theorem Vfb {C:Ctx} {t:TypeId} {x i v:AV} {c d:Value} (hx:VR C x c) (hi:VR C i d) (h:Wap P t x i=some v) (w:World):∃ r,(Instr.indexAt t c d).run P w=.ok r w∧VR C v r:=by
 unfold Wap at h
 split at h
 case h_2=>cases h
 rename_i q i
 cases hi
 split at h
 ·rename_i e he
  have hu:=Uk he
  split at h
  case h_2=>cases h
  rename_i n ag hs
  have hrun:∀ (a:Addr) (len cap:Nat),0≤i∧i<(len:Int)→(Instr.indexAt t (.slice (some a) len cap) (.int q i)).run P w=.ok (.pointer (some (a.add (i.toNat*n)))) w:=fun a len cap hh=>by
   simp only [Instr.indexAt,asIntOf,Sem.run_bind,Sem.run_pure,Result.andThen_ok,run_underlying hu,if_pos hh,Yq w hs]
  split at h
  ·rename_i k l
   by_cases hh:k=n∧0≤i∧i<(l.length:Int)
   case neg=>rw [if_neg hh] at h;cases h
   rw [if_pos hh] at h
   simp only [Option.some.injEq] at h
   subst h
   obtain ⟨rfl,h0,h1⟩:=hh
   obtain ⟨A,cap,rfl,hcap,hA⟩:=hx.pl_inv
   rcases hA with rfl | ⟨b,o,rfl,hrow⟩
   ·simp at h1;omega
   ·refine ⟨_,hrun _ _ _ ⟨h0,h1⟩,?_⟩
    rw [Zp]
    exact hrow.pp (j:=0) (by omega)
  ·rename_i k r off len
   by_cases hh:k=n∧0≤i∧i<(len:Int)
   case neg=>rw [if_neg hh] at h;cases h
   rw [if_pos hh] at h
   simp only [Option.some.injEq] at h
   subst h
   obtain ⟨rfl,h0,h1⟩:=hh
   obtain ⟨b,cap,e',n',hb,_,_,_,rfl⟩:=hx.arr_inv
   refine ⟨_,hrun _ _ _ ⟨h0,h1⟩,?_⟩
   rw [Zp,← Nat.add_mul]
   exact .ptr _ _ b hb
  ·cases h
 ·split at h
  case h_2=>cases h
  rename_i m e ha
  have hu:=Yba ha
  split at h
  case h_2=>cases h
  rename_i n ag hs
  have hrun:∀ (a:Addr),0≤i∧i<(m:Int)→(Instr.indexAt t (.pointer (some a)) (.int q i)).run P w=.ok (.pointer (some (a.add (i.toNat*n)))) w:=fun a hh=>by
   simp only [Instr.indexAt,asIntOf,Instr.sureAddr,Sem.run_bind,Sem.run_pure,Result.andThen_ok,run_underlying hu,if_pos hh,Yq w hs]
  split at h
  ·rename_i r o
   by_cases hh:0≤i∧i<(m:Int)
   case neg=>rw [if_neg hh] at h;cases h
   rw [if_pos hh] at h
   simp only [Option.some.injEq] at h
   subst h
   obtain ⟨b,hb,rfl⟩:=hx.ptr_inv
   exact ⟨_,hrun _ hh,by rw [Zp];exact .ptr _ _ b hb⟩
  ·rename_i k l qq j
   by_cases hh:0≤i∧i<(m:Int)
   case neg=>rw [if_neg hh] at h;cases h
   rw [if_pos hh] at h
   simp only [Option.some.injEq] at h
   subst h
   obtain ⟨b,o,rfl,hi',hrow⟩:=hx.pp_inv
   exact ⟨_,hrun _ hh,by rw [Zp,Nat.add_assoc (o+qq*k)];exact hrow.pp hi'⟩
  ·cases h
def Yd (P:Program) (t:TypeId):Bool:=match P.underlying t with | some .string=>true | _=>false
theorem Ux {t:TypeId} (h:Yd P t=true):P.underlying t=some .string:=by unfold Yd at h;split at h<;>first | assumption | cases h
def Xap (P:Program) (t:TypeId) (x i:AV):Option AV :=
 match x,i with
 | .str s,.int _ i=>if Yd P t∧0≤i then (s[i.toNat]?).map fun b=>AV.int .u8 b.toNat else none
 | .agg xs,.int _ i=>(Um P t).bind fun a=>(tsa P a.2).bind fun s=>if 0≤i∧i<(a.1:Int) then rd s.2 s.1 xs (i.toNat*s.1) else none
 | _,_=>none
theorem Yc5 {C:Ctx} {t:TypeId} {x i v:AV} {c d:Value} (hx:VR C x c) (hi:VR C i d) (h:Xap P t x i=some v) (w:World):∃ r,(Instr.index t c d).run P w=.ok r w∧VR C v r:=by
 unfold Xap at h
 split at h
 ·rename_i s q i
  cases hx;cases hi
  by_cases hh:Yd P t∧0≤i
  case neg=>rw [if_neg hh] at h;cases h
  rw [if_pos hh,Qzm] at h
  obtain ⟨b,hb,rfl⟩:=h
  have hlt:=(Qzs.1 hb).1
  refine ⟨_,?_,.int _ _⟩
  rw [run_index_string w t _ _ _ (Ux hh.1),dif_pos ⟨hh.2,by show i<(s.length:Int);omega⟩]
  congr 3
  obtain ⟨_,hb'⟩:=Qzs.1 hb
  rw [← hb']
  rfl
 ·rename_i xs q i
  cases hi
  rw [Option.bind_eq_some_iff] at h
  obtain ⟨⟨m,e⟩,ha,h⟩:=h
  rw [Option.bind_eq_some_iff] at h
  obtain ⟨⟨n,ag⟩,hs,h⟩:=h
  simp only at h hs
  by_cases hh:0≤i∧i<(m:Int)
  case neg=>rw [if_neg hh] at h;cases h
  rw [if_pos hh] at h
  obtain ⟨cs,rfl,hcs⟩:=hx.agg_inv
  obtain ⟨r,hr,hv⟩:=Ycn hs hcs h w
  exact ⟨r,by simp only [Instr.index,asIntOf,Sem.run_bind,Sem.run_pure,Result.andThen_ok,run_underlying (Yba ha),if_pos hh,Yq w hs];exact hr,hv⟩
 ·cases h
def Zaq (x:AV) (i:Nat):Option AV :=
 match x with
 | .tup l=>l[i]?
 | _=>none
theorem Wdf {C:Ctx} {x v:AV} {i:Nat} {c:Value} (hx:VR C x c) (h:Zaq x i=some v) (w:World):∃ r,(Instr.extract c i).run P w=.ok r w∧VR C v r:=by
 unfold Zaq at h
 split at h
 ·obtain ⟨cs,rfl,hcs⟩:=hx.tup_inv
  have hl:=hcs.len
  have hi:=(Qzs.1 h).1
  have hc:cs[i]? = some (cs[i]'(by omega)):=Qze (by omega)
  exact ⟨_,by simp [Instr.extract,hc],hcs.at_ i v _ h hc⟩
 ·cases h
def abd (x:Option AV) (d:Nat):Option Nat :=
 match x with
 | none=>some d
 | some (.int _ i)=>if 0≤i then some i.toNat else none
 | _=>none
theorem Vbm {C:Ctx} {x:Option AV} {c:Option Value} {d n y:Nat} (hx:∀ v,x=some v→∃ cv,c=some cv∧VR C v cv) (hn:x=none→c=none) (h:abd x d=some n) (hy:n≤y) (code:BoundsCode) (w:World) :
  (c=none∧n=d)∨∃ cv,c=some cv∧(Instr.sliceBound cv y code).run P w=.ok n w:=by
 unfold abd at h
 split at h
 ·simp at h;exact .inl ⟨hn rfl,h.symm⟩
 ·rename_i q i
  by_cases h0:0≤i
  case neg=>rw [if_neg h0] at h;cases h
  rw [if_pos h0] at h
  simp at h
  obtain ⟨cv,rfl,hv⟩:=hx _ rfl
  cases hv
  refine .inr ⟨_,rfl,?_⟩
  simp only [Instr.sliceBound,asIntOf,Sem.run_bind,Sem.run_pure,Result.andThen_ok]
  rw [if_pos ⟨h0,by omega⟩,← h]
  rfl
 ·cases h
structure VO (C:Ctx) (x:Option AV) (c:Option Value):Prop where
 some_:∀ v,x=some v→∃ cv,c=some cv∧VR C v cv
 none_:x=none→c=none
theorem Ubm {C:Ctx} {lo hi mx:Option AV} {clo chi cmx:Option Value} (hlo:VO C lo clo) (hhi:VO C hi chi) (hmx:VO C mx cmx) {l h m len cap:Nat} (isS:Bool)
  (el:abd lo 0=some l) (eh:abd hi len=some h) (em:abd mx cap=some m) (h1:l≤h) (h2:h≤m) (h3:m≤cap) (hm:mx.isSome=true→hi.isSome=true) (hn:hi=none→h=len) (w:World) :
  (Instr.sliceBounds isS len cap clo chi cmx).run P w=.ok (l,h,m) w:=by
 have r1:=fun code=>Vbm (P:=P) hmx.some_ hmx.none_ em h3 code w
 have r2:=fun code=>Vbm (P:=P) hhi.some_ hhi.none_ eh h2 code w
 have r3:=fun code=>Vbm (P:=P) hlo.some_ hlo.none_ el h1 code w
 unfold Instr.sliceBounds
 cases mx with
 | none =>
  obtain rfl:=hmx.none_ rfl
  have em':cap=m:=by simpa [abd] using em
  subst em'
  cases hi with
  | none =>
   obtain rfl:=hhi.none_ rfl
   have eh':len=h:=by simpa [abd] using eh
   subst eh'
   cases lo with
   | none=>obtain rfl:=hlo.none_ rfl;have el':0=l:=by simpa [abd] using el
           subst el';simp
   | some lo =>
    obtain ⟨cv,rfl,_⟩:=hlo.some_ _ rfl
    rcases r3 .sliceB with ⟨h0,_⟩ | ⟨cv',h0,hr⟩
    ·cases h0
    ·cases h0;simp [hr]
  | some hi =>
   obtain ⟨ch,rfl,_⟩:=hhi.some_ _ rfl
   have r2':=r2 (if isS then .sliceAcap else .sliceAlen)
   rcases r2' with ⟨h0,_⟩ | ⟨cv',h0,hr⟩
   ·cases h0
   ·cases h0
    cases lo with
    | none=>obtain rfl:=hlo.none_ rfl;have el':0=l:=by simpa [abd] using el
            subst el';simp [hr]
    | some lo =>
     obtain ⟨cv,rfl,_⟩:=hlo.some_ _ rfl
     rcases r3 .sliceB with ⟨h0,_⟩ | ⟨cv',h0,hr'⟩
     ·cases h0
     ·cases h0;simp [hr,hr']
 | some mx =>
  obtain ⟨cm,rfl,_⟩:=hmx.some_ _ rfl
  cases hi with
  | none=>simp at hm
  | some hi =>
   obtain ⟨ch,rfl,_⟩:=hhi.some_ _ rfl
   have r1':=r1 (if isS then .slice3Acap else .slice3Alen)
   rcases r1' with ⟨h0,_⟩ | ⟨cv',h0,hr1⟩
   ·cases h0
   ·cases h0
    rcases r2 .slice3B with ⟨h0,_⟩ | ⟨cv',h0,hr⟩
    ·cases h0
    ·cases h0
     cases lo with
     | none=>obtain rfl:=hlo.none_ rfl;have el':0=l:=by simpa [abd] using el
             subst el';simp [hr1,hr]
     | some lo =>
      obtain ⟨cv,rfl,_⟩:=hlo.some_ _ rfl
      rcases r3 .slice3C with ⟨h0,_⟩ | ⟨cv',h0,hr'⟩
      ·cases h0
      ·cases h0;simp [hr1,hr,hr']
end Ab

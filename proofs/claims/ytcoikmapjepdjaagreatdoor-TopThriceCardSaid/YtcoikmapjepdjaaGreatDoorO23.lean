/-
  Texts packed for a claim.
-/
import Derived.Test.YtcoikmapjepdjaaGreatDoorO00
import Derived.Shelf.SlSortCmp.WholeK
import Derived.Shelf.SlGeneric
import Derived.Ground.SlsfProg
import Derived.Test.YtcoikmapjepdjaaGreatDoorProg
import Derived.Shelf.SlSortCmp.NoneTotal
import Derived.Test.YtcoikmapjepdjaaGreatDoorO02
import Derived.Test.YtcoikmapjepdjaaGreatDoorO11
import Derived.Test.YtcoikmapjepdjaaGreatDoorO13
import Derived.Test.YtcoikmapjepdjaaGreatDoorO14
import Derived.Test.YtcoikmapjepdjaaGreatDoorO21
import Derived.Test.YtcoikmapjepdjaaGreatDoorO22
set_option linter.all false
namespace Ab
open Go Go.RowKit
variable [Mode]
variable {P:Program}
inductive Rn (n:Nat) (m:List Nat):AV→AV→Prop
 | any (v:AV):Rn n m v .any
 | bool (b:Bool):Rn n m (.bool b) (.bool b)
 | int (k:IntKind) (i:Int):Rn n m (.int k i) (.int k i)
 | str (s:List UInt8):Rn n m (.str s) (.str s)
 | nilp:Rn n m .nilp .nilp
 | gl (g:Nat):Rn n m (.gl g) (.gl g)
 | nils:Rn n m .nils .nils
 | nils_pl (k:Nat):Rn n m .nils (.pl k [])
 | emp:Rn n m .emp .emp
 | emp_pl (k:Nat):Rn n m .emp (.pl k [])
 | nn:Rn n m .nn .nn
 | nn_pl (k:Nat):Rn n m .nn (.pl k [])
 | nilm:Rn n m .nilm .nilm
 | nilf:Rn n m .nilf .nilf
 | nili:Rn n m .nili .nili
 | pl0 (k k':Nat):Rn n m (.pl k []) (.pl k' [])
 | pl (k:Nat) (l:List AV):(∀ (i:Nat) (x:AV),l[i]? = some x→∀ (j:Nat) (y:AV),x.cells[j]? = some y→Rn n m y y)→Rn n m (.pl k l) (.pl k l)
 | arr (k i j off len:Nat):m[i]? = some j→Rn n m (.arr k (n+j) off len) (.arr k (n+i) off len)
 | arr0 (k k' r off:Nat):Rn n m (.arr k r off 0) (.pl k' [])
 | keep (k r off len:Nat):r<n→Rn n m (.arr k r off len) (.arr k r off len)
 | ptr (i j off:Nat):m[i]? = some j→Rn n m (.ptr (n+j) off) (.ptr (n+i) off)
 | mp (i j:Nat):m[i]? = some j→Rn n m (.mp (n+j)) (.mp (n+i))
 | agg (l l':List AV) (hl:l.length=l'.length):(∀ (i:Nat) (x y:AV),l[i]? = some x→l'[i]? = some y→Rn n m x y)→Rn n m (.agg l) (.agg l')
 | tup (l l':List AV) (hl:l.length=l'.length):(∀ (i:Nat) (x y:AV),l[i]? = some x→l'[i]? = some y→Rn n m x y)→Rn n m (.tup l) (.tup l')
inductive ORn (n:Nat) (m:List Nat):AObj→AObj→Prop
 | cells (cs cs':List AV):cs'.length≤cs.length→(∀ (i:Nat) (x x':AV),cs[i]? = some x→cs'[i]? = some x'→Rn n m x x')→ORn n m (.cells cs) (.cells cs')
 | map (es es':List (AV × AV)):es.length=es'.length→(∀ (i:Nat) (e e':AV × AV),es[i]? = some e→es'[i]? = some e'→Rn n m e.1 e'.1∧Rn n m e.2 e'.2)→ORn n m (.map es) (.map es')
theorem VR.rn {C C':Ctx} {n:Nat} {m bs:List Nat} (hn:C.blk.length=n) (hE:Ext C C') (hbs:∀ (i j b:Nat),m[i]? = some j→C'.blk[n+j]? = some b→bs[i]? = some b) {v v':AV} {c:Value} (hr:Rn n m v v') (h:VR C' v c):VR (C'.re C bs) v' c:=by
 have hat:∀ (i j b:Nat),m[i]? = some j→C'.blk[n+j]? = some b→(C'.re C bs).blk[n+i]? = some b:=by
  intro i j b h1 h2
  simp only [Ctx.re]
  rw [Qzr (by omega),hn,Nat.add_sub_cancel_left]
  exact hbs i j b h1 h2
 have hold:∀ (r b:Nat),r<n→C'.blk[r]? = some b→(C'.re C bs).blk[r]? = some b:=by
  intro r b h1 h2
  obtain ⟨e,he⟩:=hE.blk
  rw [he,Qzl (by omega)] at h2
  simp only [Ctx.re]
  rw [Qzl (by omega)]
  exact h2
 induction hr generalizing c with
 | any v=>exact .any c
 | bool b=>cases h;exact .bool b
 | int k i=>cases h;exact .int k i
 | str s=>cases h;exact .str s
 | nilp=>cases h;exact .nilp
 | gl g=>cases h;exact .gl g
 | nils=>cases h;exact .nils
 | nils_pl k=>cases h;exact .pl0 k none 0 fun _=>rfl
 | emp=>cases h;exact .emp _
 | emp_pl k=>cases h;exact .pl0 k _ 0 fun _=>rfl
 | nn=>cases h;exact .nn _ _
 | nn_pl k=>cases h;exact .pl0 k _ _ fun h=>by cases h
 | nilm=>cases h;exact .nilm
 | nilf=>cases h;exact .nilf
 | nili=>cases h;exact .nili
 | pl0 k k' =>
  obtain ⟨A,cap,rfl,h1,h2⟩:=h.pl_inv
  exact .pl0 k' A cap h.pl_cap
 | pl k l _ ih =>
  obtain ⟨A,cap,rfl,h1,h2⟩:=h.pl_inv
  rcases h2 with rfl | ⟨b,o,rfl,hrow⟩
  ·exact .pl0 k A cap h.pl_cap
  ·exact .pl k l b o l.length cap hrow.f hrow.1 rfl h1 (fun i x hx=>⟨(hrow.2 i x hx).1,fun j y hy=>⟨((hrow.2 i x hx).2 j y hy).1,(hrow.f_eq hx hy).1⟩⟩)
    (fun i x hx j y hy=>ih i x hx j y hy (hrow.f_eq hx hy).2)
 | arr k i j off len hm=>obtain ⟨b,cap,e,q,hb,h1,h2,h3,rfl⟩:=h.arr_inv;exact .arr k _ off len b cap e q (hat i j b hm hb) h1 h2 h3
 | arr0 k k' r off=>obtain ⟨b,cap,e,q,hb,h1,h2,h3,rfl⟩:=h.arr_inv;exact .pl0 k' _ cap fun h=>by cases h
 | keep k r off len hr=>obtain ⟨b,cap,e,q,hb,h1,h2,h3,rfl⟩:=h.arr_inv;exact .arr k r off len b cap e q (hold r b hr hb) h1 h2 h3
 | ptr i j off hm=>obtain ⟨b,hb,rfl⟩:=h.ptr_inv;exact .ptr _ off b (hat i j b hm hb)
 | mp i j hm=>obtain ⟨b,hb,rfl⟩:=h.mp_inv;exact .mp _ b (hat i j b hm hb)
 | agg l l' hl _ ih =>
  obtain ⟨cs,rfl,hcs⟩:=h.agg_inv
  exact .agg l' cs (by rw [← hl];exact hcs.len) fun i y c hy hc=>by
   have hi:=(Qzs.1 hy).1
   have hx:l[i]? = some (l[i]'(by omega)):=Qze (by omega)
   exact ih i _ y hx hy (hcs.at_ i _ c hx hc)
 | tup l l' hl _ ih =>
  obtain ⟨cs,rfl,hcs⟩:=h.tup_inv
  exact .tup l' cs (by rw [← hl];exact hcs.len) fun i y c hy hc=>by
   have hi:=(Qzs.1 hy).1
   have hx:l[i]? = some (l[i]'(by omega)):=Qze (by omega)
   exact ih i _ y hx hy (hcs.at_ i _ c hx hc)
theorem Zf0 {C C':Ctx} {σ:Za} (hI:Inv C σ) (hE:Ext C C') {objs objs':List AObj} (hI':Inv C' (σ++objs)) {m bs:List Nat} (hlen:bs.length=objs'.length) (hml:m.length=objs'.length) (hnd:m.Nodup)
  (hbs:∀ (i j b:Nat),m[i]? = some j→C'.blk[σ.length+j]? = some b→bs[i]? = some b)
  (hobj:∀ (i:Nat) (o':AObj),objs'[i]? = some o'→∃ (j:Nat) (o:AObj),m[i]? = some j∧objs[j]? = some o∧ORn σ.length m o o'):Ext C (C'.re C bs)∧Inv (C'.re C bs) (σ++objs'):=by
 have hn:=hI.len
 have hn':=hI'.len
 rw [List.length_append] at hn'
 have hup:=Xbf hn hE bs
 obtain ⟨e,he⟩:=hE.blk
 have at1:∀ r b,r<σ.length→(C'.re C bs).blk[r]? = some b→C.blk[r]? = some b∧C'.blk[r]? = some b:=by
  intro r b hr h
  simp only [Ctx.re] at h
  rw [Qzl (by omega)] at h
  exact ⟨h,hE.blk_at h⟩
 have at2:∀ r b,σ.length≤r→(C'.re C bs).blk[r]? = some b→bs[r - σ.length]? = some b:=by
  intro r b hr h
  simp only [Ctx.re] at h
  rw [Qzr (by omega),hn] at h
  exact h
 have live':∀ (i b:Nat) (o':AObj),bs[i]? = some b→objs'[i]? = some o'→∃ (j:Nat) (o:AObj),m[i]? = some j∧C'.blk[σ.length+j]? = some b∧(σ++objs)[σ.length+j]? = some o∧o.live=true∧ORn σ.length m o o':=by
  intro i b o' h1 h2
  obtain ⟨j,o,h3,h4,h5⟩:=hobj i o' h2
  have hj:=(Qzs.1 h4).1
  have h6:C'.blk[σ.length+j]? = some (C'.blk[σ.length+j]'(by omega)):=Qze (by omega)
  have h7:=hbs i j _ h3 h6
  rw [h1] at h7
  refine ⟨j,o,h3,by rw [h6,← h7],by rw [Qzr (by omega),Nat.add_sub_cancel_left];exact h4,?_,h5⟩
  cases h5<;>rfl
 refine ⟨⟨hE.w0,⟨bs,rfl⟩,hE.pers,hE.keep,hE.shape,hE.size,hE.drawn⟩,by simp [Ctx.re,hn,hlen],hI'.glob,hI'.base,hI'.basep,hI'.plt,fun r b o hr ho hl=>?_,fun r r' b o o' hr hr' ho ho' hl hl'=>?_⟩
 ·rcases Qzn r σ.length with h | h
  ·obtain ⟨h1,h2⟩:=at1 r b h hr
   rw [Qzl h] at ho
   obtain ⟨hnp,c,hc,hR⟩:=hI'.live r b o h2 (by rw [Qzl h];exact ho) hl
   obtain ⟨_,c₀,_,hR₀⟩:=hI.live r b o h1 ho hl
   have:=ORel.frz_old (σ:=[]) (Nat.le_of_eq hn) hR₀ hR
   rw [Vbp] at this
   exact ⟨hnp,c,hc,this.ext hup⟩
  ·have h2:=at2 r b h hr
   rw [Qzr h] at ho
   obtain ⟨j,o0,hj,hjb,hoj,hlo,hrel⟩:=live' _ b o h2 ho
   obtain ⟨hnp,c,hc,hR⟩:=hI'.live (σ.length+j) b o0 hjb hoj hlo
   refine ⟨hnp,c,hc,?_⟩
   cases hrel with
   | cells cs cs' hcl hcr =>
    obtain ⟨carr,e,lo,hi,rfl,h3,h4,h5⟩:=hR.cells_inv
    refine .cells cs' carr e lo hi (Nat.le_trans hcl h3) h4 fun i x c hx hc=>?_
    have hi:=(Qzs.1 hx).1
    have hci:cs[i]? = some (cs[i]'(by omega)):=Qze (by omega)
    exact (h5 i _ c hci hc).rn hn hE hbs (hcr i _ x hci hx)
   | map es es' hel her =>
    cases hR with
    | map _ ces clock g1 g2 =>
     refine .map es' ces clock (by omega) fun i x e hx he=>?_
     have hi:=(Qzs.1 hx).1
     have hei:es[i]? = some (es[i]'(by omega)):=Qze (by omega)
     have g:=g2 i _ e hei he
     have q:=her i _ x hei hx
     exact ⟨g.1.rn hn hE hbs q.1,g.2.rn hn hE hbs q.2⟩
 ·rcases Qzn r σ.length with h | h<;>rcases Qzn r' σ.length with h' | h'
  ·rw [Qzl h] at ho
   rw [Qzl h'] at ho'
   exact hI.inj r r' b o o' (at1 r b h hr).1 (at1 r' b h' hr').1 ho ho' hl hl'
  ·rw [Qzl h] at ho
   rw [Qzr h'] at ho'
   obtain ⟨j,o0,hj,hjb,hoj,hlo,hrel⟩:=live' _ b o' (at2 r' b h' hr') ho'
   have:=hI'.inj r (σ.length+j) b o o0 (at1 r b h hr).2 hjb (by rw [Qzl h];exact ho) hoj hl hlo
   omega
  ·rw [Qzr h] at ho
   rw [Qzl h'] at ho'
   obtain ⟨j,o0,hj,hjb,hoj,hlo,hrel⟩:=live' _ b o (at2 r b h hr) ho
   have:=hI'.inj (σ.length+j) r' b o0 o' hjb (at1 r' b h' hr').2 hoj (by rw [Qzl h'];exact ho') hlo hl'
   omega
  ·rw [Qzr h] at ho
   rw [Qzr h'] at ho'
   obtain ⟨j,o0,hj,hjb,hoj,hlo,_⟩:=live' _ b o (at2 r b h hr) ho
   obtain ⟨j',o0',hj',hjb',hoj',hlo',_⟩:=live' _ b o' (at2 r' b h' hr') ho'
   have e1:=hI'.inj (σ.length+j) (σ.length+j') b o0 o0' hjb hjb' hoj hoj' hlo hlo'
   have e2:j=j':=by omega
   subst e2
   obtain ⟨hi1,hv1⟩:=Qzs.1 hj
   obtain ⟨hi2,hv2⟩:=Qzs.1 hj'
   have:=(List.getElem_inj hnd).1 (hv1.trans hv2.symm)
   omega
theorem ACalls.canon {f:FuncId} {args:List AV} {σ:Za} {R:AV→Za→Prop} (h:ACalls P f args σ fun v σ'=>∃ (objs objs':List AObj) (m:List Nat) (v':AV),σ'=σ++objs∧m.length=objs'.length∧m.Nodup ∧
  (∀ (i:Nat) (o':AObj),objs'[i]? = some o'→∃ (j:Nat) (o:AObj),m[i]? = some j∧objs[j]? = some o∧ORn σ.length m o o')∧Rn σ.length m v v'∧R v' (σ++objs')):ACalls P f args σ R:=by
 have key:∀ {C C':Ctx} {objs objs':List AObj} {m:List Nat} {v v':AV} {c:Value},Inv C σ→Ext C C'→Inv C' (σ++objs)→m.length=objs'.length→m.Nodup →
   (∀ (i:Nat) (o':AObj),objs'[i]? = some o'→∃ (j:Nat) (o:AObj),m[i]? = some j∧objs[j]? = some o∧ORn σ.length m o o')→Rn σ.length m v v'→VR C' v c →
   ∃ C2:Ctx,C2.w=C'.w∧Ext C C2∧Inv C2 (σ++objs')∧VR C2 v' c:=by
  intro C C' objs objs' m v v' c hI hE hI' hml hnd hobj hr hv
  have hbs:∀ (i j b:Nat),m[i]? = some j→C'.blk[σ.length+j]? = some b→(m.map fun j=>(C'.blk[σ.length+j]?).getD 0)[i]? = some b:=by
   intro i j b h1 h2
   rw [Qzp,h1,Option.map_some,h2]
   rfl
  obtain ⟨h1,h2⟩:=Zf0 hI hE hI' (bs:=m.map fun j=>(C'.blk[σ.length+j]?).getD 0) (by rw [List.length_map];exact hml) hml hnd hbs hobj
  exact ⟨C'.re C (m.map fun j=>(C'.blk[σ.length+j]?).getD 0),rfl,h1,h2,hv.rn hI.len hE hbs hr⟩
 rcases h with h | h
 ·refine .inl ⟨h.1,fun C cargs hI hv=>(h.2 C cargs hI hv).mono ?_⟩
  rintro e w' ⟨v,C',av,σ',rfl,rfl,hE,hI',hv',objs,objs',m,v',rfl,hml,hnd,hobj,hr,hR⟩
  obtain ⟨C2,h1,h2,h3,h4⟩:=key hI hE hI' hml hnd hobj hr hv'
  exact ⟨v,C2,v',_,rfl,h1,h2,h3,h4,hR⟩
 ·refine .inr fun C cargs hI hv=>?_
  obtain ⟨v,C',av,σ',hr0,hE,hI',hv',objs,objs',m,v',rfl,hml,hnd,hobj,hr,hR⟩:=h C cargs hI hv
  obtain ⟨C2,h1,h2,h3,h4⟩:=key hI hE hI' hml hnd hobj hr hv'
  exact ⟨v,C2,v',_,by rw [h1];exact hr0,h2,h3,h4,hR⟩
end Ab
namespace Oyez
def idxOf (f:List Rec) (p:Place):Option Nat:=f.findIdx? fun r=>decide (r.place=p)
end Oyez
namespace Ab
open Go Go.RowKit Go.Proofs
attribute [local irreducible] aws awp aw1 Og Om Oc Oa Ogd Ov Ot awd Zb awh Wb Ogh Ohd awl Ogl Ohl awv Ogv Ohv Xb Vb QFn Ub QRo QBe ACode AYield
theorem Vgm {P:Program} {dst:Option Tmp} {ty:TypeId} {pos:String} {after:Array Edge} {g:Option (Nat × Bool)} {e:TypeId} {m x y:Operand} {Kh:AV→Za→Prop} {env:Env} {σ:Za}:Wb P ⟨dst,.mapUpdate e m x y,ty,pos,after,g⟩ Kh env σ=Om ((Yat P e (Wa env.t m) (Wa env.t x) (Wa env.t y) σ).map (AV.any,·)) Kh:=by rw [Zan rfl,Wcc]
attribute [simp] Vgm
def Yf5 (f:List Oyez.Rec) (e:Nat):List (AV × AV):=(f.zipIdx e).map fun x=>(Vag x.1.place,AV.int .i64 x.2)
def ents (f:List Oyez.Rec):List (AV × AV):=Yf5 f 0
end Ab
namespace Ab
open Go Go.RowKit Go.Proofs
attribute [local irreducible] aws awp aw1 Og Om Oc Oa Ogd Ov Ot awd Zb awh Wb Ogh Ohd awl Ogl Ohl awv Ogv Ohv Xb Vb QFn Ub QRo QBe ACode AYield
def Xau (q:Nat) (f:List Oyez.Rec):Za:=[.cells [Yk f,.mp (q+1)],.map (ents f)]
structure DeskAt (σ:Za) (v:AV) (f:List Oyez.Rec):Prop where
 ex:∃ r m,v=.ptr r 0∧σ[r]? = some (.cells [Yk f,.mp m])∧σ[m]? = some (.map (ents f))
theorem DeskAt.more {σ:Za} {v:AV} {f:List Oyez.Rec} (h:DeskAt σ v f) (g:Za):DeskAt (σ++g) v f:=by
 obtain ⟨r,m,h1,h2,h3⟩:=h.ex
 exact ⟨r,m,h1,Zab h2,Zab h3⟩
def Yim (x:Oyez.St):AV:=.agg [.bool x.isSome,Xl (Xf6 x)]
def Za2 (n:Nat) (ws:List (List UInt8)):AV:=if ws=[] then .pl 1 [] else .arr 1 n 0 ws.length
def Wam (ws:List (List UInt8)):Za:=if ws=[] then [] else [.cells (strs ws)]
end Ab
namespace Go.Proofs
open Go.Shelf
def Tryz.sortPl_ren:Go.Shelf.Ren:=⟨fun | 6=>168 | 15=>145 | 14=>232 | 28=>222 | 29=>223 | 20=>288 | 21=>289 | 22=>290 | 23=>291 | 24=>292 | 25=>293 | 26=>294 | 27=>295 | 46=>333 | 47=>279 | 48=>280 | 49=>334 | 50=>335 | 57=>351 | n=>n,fun | 22=>129 | 24=>177 | 25=>272 | 3=>3 | 39=>92 | 0=>0 | 53=>135 | 55=>308 | 4=>4 | 46=>323 | 45=>322 | 50=>67 | 5=>5 | 9=>9 | 66=>383 | 70=>387 | 76=>416 | 77=>417 | n=>n,fun | n=>n⟩
def Tryz.sortCh_ren:Go.Shelf.Ren:=⟨fun | 6=>98 | 15=>145 | 14=>173 | 28=>222 | 29=>223 | 20=>235 | 21=>236 | 22=>237 | 23=>238 | 24=>239 | 25=>240 | 26=>241 | 27=>242 | 46=>297 | 47=>279 | 48=>280 | 49=>298 | 50=>299 | 57=>338 | n=>n,fun | 22=>60 | 24=>75 | 25=>191 | 3=>3 | 39=>92 | 0=>0 | 53=>135 | 55=>308 | 4=>4 | 46=>323 | 45=>322 | 50=>67 | 5=>5 | 9=>9 | 66=>383 | 70=>387 | 76=>416 | 77=>417 | n=>n,fun | n=>n⟩
end Go.Proofs
namespace Ab
open Go Go.RowKit Go.Proofs
variable [Mode]
theorem Zfe (b:Nat) (w:World) (c:Array Value) (e:TypeId) (fr:Nat × Nat) (f:Array Value→Array Value) (h:w.heap[b]? = some (.cells c e fr)):Go.Sort.mapBlock w b f=Xf w b (.cells (f c) e fr):=by
 unfold Go.Sort.mapBlock Xf
 congr 1
 apply Array.ext_getElem?
 intro k
 simp only [Array.getElem?_modify,Array.getElem?_setIfInBounds]
 obtain ⟨hlt,h2⟩:=Array.getElem?_eq_some_iff.1 h
 by_cases e1:b=k
 ·subst e1
  simp [hlt,h2,Go.Sort.onCells]
 ·simp [e1]
theorem Inv.sorted {α:Type} [Inhabited α] {C:Ctx} {σ:Za} (hI:Inv C σ) {r b k:Nat} {cs:List AV} (hk0:0<k) (hb:C.blk[r]? = some b) (hr:σ[r]? = some (.cells cs))
  (enc:α→List Value) (hk:∀ x,(enc x).length=k) (z:List (α × AV)) (d:Array α) (hd:d.toList=z.map Prod.fst) (hcs:z.length*k=cs.length)
  (hz:∀ x∈z,x.2.cells.length=k∧∀ (j:Nat) (y:AV) (v:Value),x.2.cells[j]? = some y→(enc x.1)[j]? = some v→VR C y v) (m:Nat) (os:Array Obj) :
  Ext C (C.at_ (sortWorldK enc k C.w b 0 m d os))∧Inv (C.at_ (sortWorldK enc k C.w b 0 m d os)) (σ.set r (.cells ((z.map Prod.snd).flatMap AV.cells))):=by
 have B1:Below C.w.heap.size C.w (Go.Sort.ahead C.w m):=⟨rfl,rfl,rfl,Nat.le_refl _,fun _ _=>rfl⟩
 have E1:=Ext.below hI.plt B1 (fun _=>Nat.le_add_right _ _)
 have I1:=hI.below B1
 obtain ⟨hnp,carr,e,lo,hi,hc,hsz,hfr,hrel⟩:=hI.cells hb hr
 have hc1:(Go.Sort.ahead C.w m).heap[b]? = some (.cells carr e (lo,hi)):=hc
 have hput:Go.Sort.putRowK enc k (Go.Sort.ahead C.w m) b 0 d=Xf (Go.Sort.ahead C.w m) b (.cells (Go.Sort.putCells id 0 (Go.Sort.flatK enc k d) carr) e (lo,hi)):=by
  unfold Go.Sort.putRowK Go.Sort.putRow
  exact Zfe _ _ _ _ _ _ hc1
 have hsize:(Go.Sort.putCells id 0 (Go.Sort.flatK enc k d) carr).size=carr.size:=by simp [Go.Sort.putCells]
 have hdl:d.size=z.length:=by rw [← Array.length_toList,hd,List.length_map]
 have hlen:((z.map Prod.snd).flatMap AV.cells).length=z.length*k:=by
  rw [Xa0 (k:=k) _ (fun x hx=>by
   obtain ⟨y,hy,rfl⟩:=List.mem_map.1 hx
   exact (hz y hy).1),List.length_map]
 have hshp:shp (.cells (Go.Sort.putCells id 0 (Go.Sort.flatK enc k d) carr) e (lo,hi))=shp (.cells carr e (lo,hi)):=by simp [shp,hsize]
 have E2:=Ext.set (C:=C.at_ (Go.Sort.ahead C.w m)) (o:=.cells (Go.Sort.putCells id 0 (Go.Sort.flatK enc k d) carr) e (lo,hi)) hc1 hnp hshp
 have I2:Inv ((C.at_ (Go.Sort.ahead C.w m)).at_ (Xf (C.at_ (Go.Sort.ahead C.w m)).w b (.cells (Go.Sort.putCells id 0 (Go.Sort.flatK enc k d) carr) e (lo,hi)))) (σ.set r (.cells ((z.map Prod.snd).flatMap AV.cells))):=by
  refine Inv.set I1 hb hr rfl hc1 hshp (.cells _ _ e lo hi (by rw [hlen,hsize,hcs];exact hsz) (by rw [hsize];exact hfr) fun i x c hx hc'=>?_)
  refine VR.ext (E1.trans E2) ?_
  have hi':=(Qzs.1 hx).1
  rw [hlen] at hi'
  rw [flat_get (k:=k) _ (fun x hx=>by
   obtain ⟨y,hy,rfl⟩:=List.mem_map.1 hx
   exact (hz y hy).1) hk0] at hx
  have hq:i / k<z.length:=(Nat.div_lt_iff_lt_mul hk0).2 hi'
  have hzi:z[i / k]? = some z[i / k]:=Qze hq
  rw [Qzp,hzi] at hx
  simp only [Option.map_some,Option.bind_some] at hx
  have hic:i<carr.size:=by omega
  have hd':d[i / k]! = z[i / k].1:=by
   have h1:d[i / k]? = some z[i / k].1:=by
    rw [← Array.getElem?_toList,hd,Qzp,hzi];rfl
   rw [getElem!_def,h1]
  have hval:c=(enc z[i / k].1)[i % k]'(by rw [hk];exact Nat.mod_lt _ hk0):=by
   have h2:(Go.Sort.putCells id 0 (Go.Sort.flatK enc k d) carr)[i]? = some ((enc z[i / k].1)[i % k]'(by rw [hk];exact Nat.mod_lt _ hk0)):=by
    unfold Go.Sort.putCells
    rw [Array.getElem?_mapIdx,Array.getElem?_eq_getElem hic]
    simp only [Option.map_some,Option.some.injEq]
    rw [if_pos (by rw [Go.Sort.size_flatK,hdl];omega)]
    show (Go.Sort.flatK enc k d)[i - 0]! = _
    rw [Nat.sub_zero,Go.Sort.get_flatK _ _ _ _ (by rw [hdl];exact hi'),hd',getElem!_pos]
   rw [h2] at hc'
   exact (Option.some.inj hc').symm
  refine (hz z[i / k] (List.getElem_mem hq)).2 (i % k) x c hx ?_
  rw [hval,Qze]
 have B3:Below (Xf (Go.Sort.ahead C.w m) b (.cells (Go.Sort.putCells id 0 (Go.Sort.flatK enc k d) carr) e (lo,hi))).heap.size (Xf (Go.Sort.ahead C.w m) b (.cells (Go.Sort.putCells id 0 (Go.Sort.flatK enc k d) carr) e (lo,hi)))
   (Go.Sort.grow (Xf (Go.Sort.ahead C.w m) b (.cells (Go.Sort.putCells id 0 (Go.Sort.flatK enc k d) carr) e (lo,hi))) os) :=
  ⟨rfl,rfl,rfl,by rw [Go.Sort.size_grow];omega,fun j hj=>Array.getElem?_append_left hj⟩
 have hW:sortWorldK enc k C.w b 0 m d os=Go.Sort.grow (Xf (Go.Sort.ahead C.w m) b (.cells (Go.Sort.putCells id 0 (Go.Sort.flatK enc k d) carr) e (lo,hi))) os:=by
  unfold sortWorldK
  rw [hput]
 have E3:=Ext.below I2.plt B3 (fun _=>Nat.le_refl _)
 have I3:=I2.below B3
 rw [hW]
 exact ⟨(E1.trans E2).trans E3,I3⟩
end Ab
namespace Ab
open Go Go.RowKit Go.Proofs
structure El (m:Nat) where
 l:List Value
 len:l.length=m+2
 one:∀ v∈l,v.oneCell'=true
 a:Int
 b:Int
 key:∃ t,l=.int .i64 a::.int .i64 b::t
instance {m:Nat}:Inhabited (El m):=⟨⟨.int .i64 0::.int .i64 0::List.replicate m (.int .i64 0),by simp,fun v hv=>by
 simp at hv
 rcases hv with rfl | ⟨_,rfl⟩<;>rfl,0,0,⟨_,rfl⟩⟩⟩
def El.place {m:Nat} (x:El m):Oyez.Place:=⟨x.a,x.b⟩
def keyOf (x:AV):Oyez.Place:=match x.cells with
 | .int _ a::.int _ b::_=>⟨a,b⟩
 | _=>⟨0,0⟩
structure ElRow (m:Nat) (x:AV):Prop where
 ex:∃ a b t,x.cells=.int .i64 a::.int .i64 b::t∧t.length=m∧t.all AV.one=true
theorem ElRow.len {m:Nat} {x:AV} (h:ElRow m x):x.cells.length=m+2:=by
 obtain ⟨a,b,t,h1,h2,_⟩:=h.ex
 rw [h1];simp [h2]
theorem pick {C:Ctx} {m:Nat}:∀ (rows:List AV) (vs:List Value),(∀ x∈rows,ElRow m x)→vs.length=rows.length*(m+2) →
  (∀ (i:Nat) (x:AV) (v:Value),(rows.flatMap AV.cells)[i]? = some x→vs[i]? = some v→VR C x v) →
  ∃ z:List (El m × AV),z.map Prod.snd=rows∧(z.flatMap fun x=>x.1.l)=vs∧∀ x∈z,x.2.cells.length=m+2∧keyOf x.2=x.1.place∧∀ (j:Nat) (y:AV) (v:Value),x.2.cells[j]? = some y→x.1.l[j]? = some v→VR C y v:=by
 intro rows
 induction rows with
 | nil =>
  intro vs _ hl _
  obtain rfl:vs=[]:=List.eq_nil_of_length_eq_zero (by simpa using hl)
  exact ⟨[],rfl,rfl,by simp⟩
 | cons x t ih =>
  intro vs hrow hl hv
  have hx:=hrow x (by simp)
  have hxl:=hx.len
  obtain ⟨a,b,u,hc,hu,hone⟩:=hx.ex
  rw [List.length_cons,Nat.add_mul,Nat.one_mul] at hl
  obtain ⟨z,h1,h2,h3⟩:=ih (vs.drop (m+2)) (fun y hy=>hrow y (by simp [hy])) (by rw [List.length_drop];omega) (fun i y v hy hv'=>by
   rw [List.getElem?_drop] at hv'
   refine hv (m+2+i) y v ?_ hv'
   rw [List.flatMap_cons,Qzr (by omega),hxl,Nat.add_sub_cancel_left]
   exact hy)
  have hrel:∀ (j:Nat) (y:AV) (v:Value),x.cells[j]? = some y→(vs.take (m+2))[j]? = some v→VR C y v:=by
   intro j y v hy hv'
   have hj:=(Qzs.1 hy).1
   rw [List.getElem?_take_of_lt (by omega)] at hv'
   refine hv j y v ?_ hv'
   rw [List.flatMap_cons,Qzl hj]
   exact hy
  have htl:(vs.take (m+2)).length=m+2:=by rw [List.length_take];omega
  have h0:=hrel 0 (.int .i64 a) ((vs.take (m+2))[0]'(by omega)) (by rw [hc];rfl) (Qze _)
  have h0':=hrel 1 (.int .i64 b) ((vs.take (m+2))[1]'(by omega)) (by rw [hc];rfl) (Qze _)
  have hkey:∃ t,vs.take (m+2)=.int .i64 a::.int .i64 b::t:=by
   have e0:=h0.int_inv
   have e1:=h0'.int_inv
   match hw:vs.take (m+2),htl with
   | [],h=>simp at h
   | [q],h=>simp at h
   | p::q::t,_ =>
    simp only [hw,List.getElem_cons_zero] at e0
    simp only [hw,List.getElem_cons_succ,List.getElem_cons_zero] at e1
    exact ⟨t,by rw [e0,e1]⟩
  have hones:∀ v∈vs.take (m+2),v.oneCell'=true:=by
   intro v hv'
   obtain ⟨j,hj,rfl⟩:=List.getElem_of_mem hv'
   have hjx:j<x.cells.length:=by omega
   refine (hrel j _ _ (Qze hjx) (Qze hj)).oneCell ?_
   have hmem:=List.getElem_mem hjx
   have hall:∀ y∈x.cells,y.one=true:=by
    rw [hc]
    intro y hy
    simp only [List.mem_cons] at hy
    rcases hy with rfl | rfl | hy
    ·rfl
    ·rfl
    ·exact List.all_eq_true.1 hone y hy
   exact hall _ hmem
  refine ⟨(⟨vs.take (m+2),htl,hones,a,b,hkey⟩,x)::z,by simp [h1],?_,?_⟩
  ·rw [List.flatMap_cons,h2]
   exact List.take_append_drop _ _
  ·intro w hw
   rcases List.mem_cons.1 hw with rfl | hw
   ·refine ⟨hxl,?_,hrel⟩
    show keyOf x=_
    unfold keyOf
    rw [hc]
    rfl
   ·exact h3 w hw
end Ab
namespace Ab
open Go Go.RowKit Go.Proofs
attribute [local irreducible] aws awp aw1 Og Om Oc Oa Ogd Ov Ot awd Zb awh Wb Ogh Ohd awl Ogl Ohl Xb Vb QFn Ub QRo QBe ACode AYield
section
variable [Mode]
end
abbrev Viu:Mode:=⟨True⟩
end Ab
namespace Oyez
end Oyez
namespace Ab
open Go Go.RowKit Go.Proofs
attribute [local irreducible] aws awp aw1 Og Om Oc Oa Ogd Ov Ot awd Zb awh Wb Ogh Ohd awl Ogl Ohl Xb Vb QFn Ub QRo QBe ACode AYield
def Zaq (l:List Oyez.Place):List AV:=l.flatMap fun p=>[.int .i64 p.kind,.int .i64 p.number]
theorem Vgy (l:List Oyez.Place):(l.map Vag).flatMap AV.cells=Zaq l:=by unfold Zaq;rw [List.flatMap_map];rfl
end Ab
namespace Ab
open Go Go.RowKit Go.Proofs
attribute [local irreducible] aws awp aw1 Og Om Oc Oa Ogd Ov Ot awd Zb awh Wb Ogh Ohd awl Ogl Ohl awv Ogv Ohv Xb Vb QFn Ub QRo QBe ACode AYield
structure DesksAt (σ:Za) (v:AV) (fs:List (List Oyez.Rec)):Prop where
 ex:∃ q ds,v=.arr 1 q 0 fs.length∧σ[q]? = some (.cells ds)∧ds.length=fs.length∧∀ (i:Nat) (f:List Oyez.Rec) (d:AV),fs[i]? = some f→ds[i]? = some d→DeskAt σ d f
def Xiq (fs:List (List Oyez.Rec)) (i j:Nat):List Oyez.Place:=((fs.take i).flatten++(fs.getD i []).take j).map Oyez.Rec.place
end Ab

/-
  Texts packed for a claim.
-/
import Derived.Test.YtcoikmapjepdjaaGreatDoorD00
import Derived.Test.YtcoikmapjepdjaaGreatDoorD13
import Derived.Test.YtcoikmapjepdjaaGreatDoorD15
import Derived.Test.YtcoikmapjepdjaaGreatDoorD20
import Derived.Test.YtcoikmapjepdjaaGreatDoorD21
set_option linter.all false
namespace Ab
open Go Go.RowKit
variable [Mode]
variable {P:Program}
inductive Rn (n:Nat) (m:List Nat):AV→AV→Prop
 | any (v:AV):Rn n m v .any
 | bool (b:Bool):Rn n m (.bool b) (.bool b)
 | int (k:IntKind) (i:Int):Rn n m (.int k i) (.int k i)
 | str (s:List UInt8):Rn n m (.str s) (.str s)
 | nilp:Rn n m .nilp .nilp
 | gl (g:Nat):Rn n m (.gl g) (.gl g)
 | nils:Rn n m .nils .nils
 | nils_pl (k:Nat):Rn n m .nils (.pl k [])
 | emp:Rn n m .emp .emp
 | emp_pl (k:Nat):Rn n m .emp (.pl k [])
 | nn:Rn n m .nn .nn
 | nn_pl (k:Nat):Rn n m .nn (.pl k [])
 | nilm:Rn n m .nilm .nilm
 | nilf:Rn n m .nilf .nilf
 | nili:Rn n m .nili .nili
 | pl0 (k k':Nat):Rn n m (.pl k []) (.pl k' [])
 | pl (k:Nat) (l:List AV):(∀ (i:Nat) (x:AV),l[i]? = some x→∀ (j:Nat) (y:AV),x.cells[j]? = some y→Rn n m y y)→Rn n m (.pl k l) (.pl k l)
 | arr (k i j off len:Nat):m[i]? = some j→Rn n m (.arr k (n+j) off len) (.arr k (n+i) off len)
 | arr0 (k k' r off:Nat):Rn n m (.arr k r off 0) (.pl k' [])
 | keep (k r off len:Nat):r<n→Rn n m (.arr k r off len) (.arr k r off len)
 | ptr (i j off:Nat):m[i]? = some j→Rn n m (.ptr (n+j) off) (.ptr (n+i) off)
 | mp (i j:Nat):m[i]? = some j→Rn n m (.mp (n+j)) (.mp (n+i))
 | agg (l l':List AV) (hl:l.length=l'.length):(∀ (i:Nat) (x y:AV),l[i]? = some x→l'[i]? = some y→Rn n m x y)→Rn n m (.agg l) (.agg l')
 | tup (l l':List AV) (hl:l.length=l'.length):(∀ (i:Nat) (x y:AV),l[i]? = some x→l'[i]? = some y→Rn n m x y)→Rn n m (.tup l) (.tup l')
inductive ORn (n:Nat) (m:List Nat):AObj→AObj→Prop
 | cells (cs cs':List AV):cs'.length≤cs.length→(∀ (i:Nat) (x x':AV),cs[i]? = some x→cs'[i]? = some x'→Rn n m x x')→ORn n m (.cells cs) (.cells cs')
 | map (es es':List (AV × AV)):es.length=es'.length→(∀ (i:Nat) (e e':AV × AV),es[i]? = some e→es'[i]? = some e'→Rn n m e.1 e'.1∧Rn n m e.2 e'.2)→ORn n m (.map es) (.map es')
theorem VR.rn {C C':Ctx} {n:Nat} {m bs:List Nat} (hn:C.blk.length=n) (hE:Ext C C') (hbs:∀ (i j b:Nat),m[i]? = some j→C'.blk[n+j]? = some b→bs[i]? = some b) {v v':AV} {c:Value} (hr:Rn n m v v') (h:VR C' v c):VR (C'.re C bs) v' c:=by
 have hat:∀ (i j b:Nat),m[i]? = some j→C'.blk[n+j]? = some b→(C'.re C bs).blk[n+i]? = some b:=by
  intro i j b h1 h2
  simp only [Ctx.re]
  rw [Qzr (by omega),hn,Nat.add_sub_cancel_left]
  exact hbs i j b h1 h2
 have hold:∀ (r b:Nat),r<n→C'.blk[r]? = some b→(C'.re C bs).blk[r]? = some b:=by
  intro r b h1 h2
  obtain ⟨e,he⟩:=hE.blk
  rw [he,Qzl (by omega)] at h2
  simp only [Ctx.re]
  rw [Qzl (by omega)]
  exact h2
 induction hr generalizing c with
 | any v=>exact .any c
 | bool b=>cases h;exact .bool b
 | int k i=>cases h;exact .int k i
 | str s=>cases h;exact .str s
 | nilp=>cases h;exact .nilp
 | gl g=>cases h;exact .gl g
 | nils=>cases h;exact .nils
 | nils_pl k=>cases h;exact .pl0 k none 0 fun _=>rfl
 | emp=>cases h;exact .emp _
 | emp_pl k=>cases h;exact .pl0 k _ 0 fun _=>rfl
 | nn=>cases h;exact .nn _ _
 | nn_pl k=>cases h;exact .pl0 k _ _ fun h=>by cases h
 | nilm=>cases h;exact .nilm
 | nilf=>cases h;exact .nilf
 | nili=>cases h;exact .nili
 | pl0 k k' =>
  obtain ⟨A,cap,rfl,h1,h2⟩:=h.pl_inv
  exact .pl0 k' A cap h.pl_cap
 | pl k l _ ih =>
  obtain ⟨A,cap,rfl,h1,h2⟩:=h.pl_inv
  rcases h2 with rfl | ⟨b,o,rfl,hrow⟩
  ·exact .pl0 k A cap h.pl_cap
  ·exact .pl k l b o l.length cap hrow.f hrow.1 rfl h1 (fun i x hx=>⟨(hrow.2 i x hx).1,fun j y hy=>⟨((hrow.2 i x hx).2 j y hy).1,(hrow.f_eq hx hy).1⟩⟩)
    (fun i x hx j y hy=>ih i x hx j y hy (hrow.f_eq hx hy).2)
 | arr k i j off len hm=>obtain ⟨b,cap,e,q,hb,h1,h2,h3,rfl⟩:=h.arr_inv;exact .arr k _ off len b cap e q (hat i j b hm hb) h1 h2 h3
 | arr0 k k' r off=>obtain ⟨b,cap,e,q,hb,h1,h2,h3,rfl⟩:=h.arr_inv;exact .pl0 k' _ cap fun h=>by cases h
 | keep k r off len hr=>obtain ⟨b,cap,e,q,hb,h1,h2,h3,rfl⟩:=h.arr_inv;exact .arr k r off len b cap e q (hold r b hr hb) h1 h2 h3
 | ptr i j off hm=>obtain ⟨b,hb,rfl⟩:=h.ptr_inv;exact .ptr _ off b (hat i j b hm hb)
 | mp i j hm=>obtain ⟨b,hb,rfl⟩:=h.mp_inv;exact .mp _ b (hat i j b hm hb)
 | agg l l' hl _ ih =>
  obtain ⟨cs,rfl,hcs⟩:=h.agg_inv
  exact .agg l' cs (by rw [← hl];exact hcs.len) fun i y c hy hc=>by
   have hi:=(Qzs.1 hy).1
   have hx:l[i]? = some (l[i]'(by omega)):=Qze (by omega)
   exact ih i _ y hx hy (hcs.at_ i _ c hx hc)
 | tup l l' hl _ ih =>
  obtain ⟨cs,rfl,hcs⟩:=h.tup_inv
  exact .tup l' cs (by rw [← hl];exact hcs.len) fun i y c hy hc=>by
   have hi:=(Qzs.1 hy).1
   have hx:l[i]? = some (l[i]'(by omega)):=Qze (by omega)
   exact ih i _ y hx hy (hcs.at_ i _ c hx hc)
theorem Yev {C C':Ctx} {σ:Za} (hI:Inv C σ) (hE:Ext C C') {objs objs':List AObj} (hI':Inv C' (σ++objs)) {m bs:List Nat} (hlen:bs.length=objs'.length) (hml:m.length=objs'.length) (hnd:m.Nodup)
  (hbs:∀ (i j b:Nat),m[i]? = some j→C'.blk[σ.length+j]? = some b→bs[i]? = some b)
  (hobj:∀ (i:Nat) (o':AObj),objs'[i]? = some o'→∃ (j:Nat) (o:AObj),m[i]? = some j∧objs[j]? = some o∧ORn σ.length m o o'):Ext C (C'.re C bs)∧Inv (C'.re C bs) (σ++objs'):=by
 have hn:=hI.len
 have hn':=hI'.len
 rw [List.length_append] at hn'
 have hup:=Za6 hn hE bs
 obtain ⟨e,he⟩:=hE.blk
 have at1:∀ r b,r<σ.length→(C'.re C bs).blk[r]? = some b→C.blk[r]? = some b∧C'.blk[r]? = some b:=by
  intro r b hr h
  simp only [Ctx.re] at h
  rw [Qzl (by omega)] at h
  exact ⟨h,hE.blk_at h⟩
 have at2:∀ r b,σ.length≤r→(C'.re C bs).blk[r]? = some b→bs[r - σ.length]? = some b:=by
  intro r b hr h
  simp only [Ctx.re] at h
  rw [Qzr (by omega),hn] at h
  exact h
 have live':∀ (i b:Nat) (o':AObj),bs[i]? = some b→objs'[i]? = some o'→∃ (j:Nat) (o:AObj),m[i]? = some j∧C'.blk[σ.length+j]? = some b∧(σ++objs)[σ.length+j]? = some o∧o.live=true∧ORn σ.length m o o':=by
  intro i b o' h1 h2
  obtain ⟨j,o,h3,h4,h5⟩:=hobj i o' h2
  have hj:=(Qzs.1 h4).1
  have h6:C'.blk[σ.length+j]? = some (C'.blk[σ.length+j]'(by omega)):=Qze (by omega)
  have h7:=hbs i j _ h3 h6
  rw [h1] at h7
  refine ⟨j,o,h3,by rw [h6,← h7],by rw [Qzr (by omega),Nat.add_sub_cancel_left];exact h4,?_,h5⟩
  cases h5<;>rfl
 refine ⟨⟨hE.w0,⟨bs,rfl⟩,hE.pers,hE.keep,hE.shape,hE.size,hE.drawn⟩,by simp [Ctx.re,hn,hlen],hI'.glob,hI'.base,hI'.basep,hI'.plt,fun r b o hr ho hl=>?_,fun r r' b o o' hr hr' ho ho' hl hl'=>?_⟩
 ·rcases Qzn r σ.length with h | h
  ·obtain ⟨h1,h2⟩:=at1 r b h hr
   rw [Qzl h] at ho
   obtain ⟨hnp,c,hc,hR⟩:=hI'.live r b o h2 (by rw [Qzl h];exact ho) hl
   obtain ⟨_,c₀,_,hR₀⟩:=hI.live r b o h1 ho hl
   have:=ORel.frz_old (σ:=[]) (Nat.le_of_eq hn) hR₀ hR
   rw [Zbg] at this
   exact ⟨hnp,c,hc,this.ext hup⟩
  ·have h2:=at2 r b h hr
   rw [Qzr h] at ho
   obtain ⟨j,o0,hj,hjb,hoj,hlo,hrel⟩:=live' _ b o h2 ho
   obtain ⟨hnp,c,hc,hR⟩:=hI'.live (σ.length+j) b o0 hjb hoj hlo
   refine ⟨hnp,c,hc,?_⟩
   cases hrel with
   | cells cs cs' hcl hcr =>
    obtain ⟨carr,e,lo,hi,rfl,h3,h4,h5⟩:=hR.cells_inv
    refine .cells cs' carr e lo hi (Nat.le_trans hcl h3) h4 fun i x c hx hc=>?_
    have hi:=(Qzs.1 hx).1
    have hci:cs[i]? = some (cs[i]'(by omega)):=Qze (by omega)
    exact (h5 i _ c hci hc).rn hn hE hbs (hcr i _ x hci hx)
   | map es es' hel her =>
    cases hR with
    | map _ ces clock g1 g2 =>
     refine .map es' ces clock (by omega) fun i x e hx he=>?_
     have hi:=(Qzs.1 hx).1
     have hei:es[i]? = some (es[i]'(by omega)):=Qze (by omega)
     have g:=g2 i _ e hei he
     have q:=her i _ x hei hx
     exact ⟨g.1.rn hn hE hbs q.1,g.2.rn hn hE hbs q.2⟩
 ·rcases Qzn r σ.length with h | h<;>rcases Qzn r' σ.length with h' | h'
  ·rw [Qzl h] at ho
   rw [Qzl h'] at ho'
   exact hI.inj r r' b o o' (at1 r b h hr).1 (at1 r' b h' hr').1 ho ho' hl hl'
  ·rw [Qzl h] at ho
   rw [Qzr h'] at ho'
   obtain ⟨j,o0,hj,hjb,hoj,hlo,hrel⟩:=live' _ b o' (at2 r' b h' hr') ho'
   have:=hI'.inj r (σ.length+j) b o o0 (at1 r b h hr).2 hjb (by rw [Qzl h];exact ho) hoj hl hlo
   omega
  ·rw [Qzr h] at ho
   rw [Qzl h'] at ho'
   obtain ⟨j,o0,hj,hjb,hoj,hlo,hrel⟩:=live' _ b o (at2 r b h hr) ho
   have:=hI'.inj (σ.length+j) r' b o0 o' hjb (at1 r' b h' hr').2 hoj (by rw [Qzl h'];exact ho') hlo hl'
   omega
  ·rw [Qzr h] at ho
   rw [Qzr h'] at ho'
   obtain ⟨j,o0,hj,hjb,hoj,hlo,_⟩:=live' _ b o (at2 r b h hr) ho
   obtain ⟨j',o0',hj',hjb',hoj',hlo',_⟩:=live' _ b o' (at2 r' b h' hr') ho'
   have e1:=hI'.inj (σ.length+j) (σ.length+j') b o0 o0' hjb hjb' hoj hoj' hlo hlo'
   have e2:j=j':=by omega
   subst e2
   obtain ⟨hi1,hv1⟩:=Qzs.1 hj
   obtain ⟨hi2,hv2⟩:=Qzs.1 hj'
   have:=(List.getElem_inj hnd).1 (hv1.trans hv2.symm)
   omega
theorem ACalls.canon {f:FuncId} {args:List AV} {σ:Za} {R:AV→Za→Prop} (h:ACalls P f args σ fun v σ'=>∃ (objs objs':List AObj) (m:List Nat) (v':AV),σ'=σ++objs∧m.length=objs'.length∧m.Nodup ∧
  (∀ (i:Nat) (o':AObj),objs'[i]? = some o'→∃ (j:Nat) (o:AObj),m[i]? = some j∧objs[j]? = some o∧ORn σ.length m o o')∧Rn σ.length m v v'∧R v' (σ++objs')):ACalls P f args σ R:=by
 have key:∀ {C C':Ctx} {objs objs':List AObj} {m:List Nat} {v v':AV} {c:Value},Inv C σ→Ext C C'→Inv C' (σ++objs)→m.length=objs'.length→m.Nodup →
   (∀ (i:Nat) (o':AObj),objs'[i]? = some o'→∃ (j:Nat) (o:AObj),m[i]? = some j∧objs[j]? = some o∧ORn σ.length m o o')→Rn σ.length m v v'→VR C' v c →
   ∃ C2:Ctx,C2.w=C'.w∧Ext C C2∧Inv C2 (σ++objs')∧VR C2 v' c:=by
  intro C C' objs objs' m v v' c hI hE hI' hml hnd hobj hr hv
  have hbs:∀ (i j b:Nat),m[i]? = some j→C'.blk[σ.length+j]? = some b→(m.map fun j=>(C'.blk[σ.length+j]?).getD 0)[i]? = some b:=by
   intro i j b h1 h2
   rw [Qzp,h1,Option.map_some,h2]
   rfl
  obtain ⟨h1,h2⟩:=Yev hI hE hI' (bs:=m.map fun j=>(C'.blk[σ.length+j]?).getD 0) (by rw [List.length_map];exact hml) hml hnd hbs hobj
  exact ⟨C'.re C (m.map fun j=>(C'.blk[σ.length+j]?).getD 0),rfl,h1,h2,hv.rn hI.len hE hbs hr⟩
 rcases h with h | h
 ·refine .inl ⟨h.1,fun C cargs hI hv=>(h.2 C cargs hI hv).mono ?_⟩
  rintro e w' ⟨v,C',av,σ',rfl,rfl,hE,hI',hv',objs,objs',m,v',rfl,hml,hnd,hobj,hr,hR⟩
  obtain ⟨C2,h1,h2,h3,h4⟩:=key hI hE hI' hml hnd hobj hr hv'
  exact ⟨v,C2,v',_,rfl,h1,h2,h3,h4,hR⟩
 ·refine .inr fun C cargs hI hv=>?_
  obtain ⟨v,C',av,σ',hr0,hE,hI',hv',objs,objs',m,v',rfl,hml,hnd,hobj,hr,hR⟩:=h C cargs hI hv
  obtain ⟨C2,h1,h2,h3,h4⟩:=key hI hE hI' hml hnd hobj hr hv'
  exact ⟨v,C2,v',_,by rw [h1];exact hr0,h2,h3,h4,hR⟩
end Ab
namespace Oyez
def idxOf (f:List Rec) (p:Place):Option Nat:=f.findIdx? fun r=>decide (r.place=p)
theorem idxOf_cons (r:Rec) (t:List Rec) (p:Place):idxOf (r::t) p=if r.place=p then some 0 else (idxOf t p).map (·+1):=by
 unfold idxOf
 rw [List.findIdx?_cons]
 by_cases h:r.place=p<;>simp [h]
theorem idxOf_none {f:List Rec} {p:Place}:idxOf f p=none↔getIn f p=none:=by
 induction f with
 | nil=>simp [idxOf,getIn]
 | cons r t ih =>
  rw [idxOf_cons,Xaj]
  by_cases h:r.place=p
  ·simp [h]
  ·simp [h,ih]
theorem idxOf_some {f:List Rec} {p:Place}:∀ {j:Nat},idxOf f p=some j→∃ h:j<f.length,getIn f p=some f[j].words:=by
 induction f with
 | nil=>intro j h;simp [idxOf] at h
 | cons r t ih =>
  intro j h
  rw [idxOf_cons] at h
  rw [Xaj]
  by_cases hp:r.place=p
  ·simp [hp] at h
   subst h
   exact ⟨by simp,by simp [hp]⟩
  ·simp [hp] at h
   obtain ⟨k,hk,rfl⟩:=h
   obtain ⟨h1,h2⟩:=ih hk
   exact ⟨by simp;omega,by simp [hp,h2]⟩
theorem take_fresh {f:List Rec} (hs:RSorted f) {i:Nat} (hi:i<f.length):idxOf (f.take i) f[i].place=none:=by
 rw [idxOf_none]
 refine getIn_none fun hm=>?_
 obtain ⟨r,hr,he⟩:=List.mem_map.1 hm
 obtain ⟨j,hj,rfl⟩:=List.getElem_of_mem hr
 rw [List.length_take] at hj
 rw [List.getElem_take] at he
 have:=List.pairwise_iff_getElem.1 hs j i (by simp;omega) (by simpa using hi) (by omega)
 simp only [List.getElem_map] at this
 rw [he,Place.lt_irrefl] at this
 cases this
end Oyez
namespace Ab
open Go Go.RowKit Go.Proofs
attribute [local irreducible] aws awp aw1 Og Om Oc Oa Ogd Ov Ot awd Zb awh Xb Ogh Ohd awl Ogl Ohl awv Ogv Ohv Wb Vb QFn Ub QRo QBe ACode AYield
theorem Yfs {P:Program} {dst:Option Tmp} {ty:TypeId} {pos:String} {after:Array Edge} {g:Option (Nat × Bool)} {e:TypeId} {m x y:Operand} {Kh:AV→Za→Prop} {env:Env} {σ:Za}:Xb P ⟨dst,.mapUpdate e m x y,ty,pos,after,g⟩ Kh env σ=Om ((Yan P e (Wa env.t m) (Wa env.t x) (Wa env.t y) σ).map (AV.any,·)) Kh:=by rw [Yak rfl,Ycf]
attribute [simp] Yfs
def Yz (f:List Oyez.Rec) (e:Nat):List (AV × AV):=(f.zipIdx e).map fun x=>(Ve x.1.place,AV.int .i64 x.2)
def ents (f:List Oyez.Rec):List (AV × AV):=Yz f 0
theorem Xcc (p:Oyez.Place):∀ (f:List Oyez.Rec) (e i:Nat),Xt [1,1] [.int .i64 p.kind,.int .i64 p.number] (Yz f e) i=some ((Oyez.idxOf f p).map fun j=>(i+j,AV.int .i64 ((e+j:Nat):Int))):=by
 intro f
 induction f with
 | nil=>intro e i;simp [Yz,Oyez.idxOf]
 | cons r t ih =>
  intro e i
  have hc:Yz (r::t) e=(Ve r.place,AV.int .i64 e)::Yz t (e+1):=by simp [Yz]
  rw [hc,Oyez.idxOf_cons]
  by_cases h:r.place=p
  ·subst h
   simp
  ·have hne:¬ (p.kind=r.place.kind∧p.number=r.place.number):=fun ⟨h1,h2⟩=>h (Oyez.Place.ext' h1.symm h2.symm)
   have hd:(decide (p.kind=r.place.kind)&&decide (p.number=r.place.number))=false:=by
    rw [Bool.eq_false_iff]
    simpa using hne
   have ha:Uf [1,1] [.int .i64 p.kind,.int .i64 p.number] [.int .i64 r.place.kind,.int .i64 r.place.number]=some false:=by
    simp only [Uf,Wu]
    simp
    exact fun h1 h2=>hne ⟨h1,h2⟩
   simp only [Ve,Xt,ha]
   rw [ih]
   simp only [if_neg h,Option.map_map]
   congr 1
   cases Oyez.idxOf t p with
   | none=>rfl
   | some j =>
    simp only [Option.map_some,Function.comp]
    congr 2
    ·omega
    ·congr 1;omega
theorem Yc9 (f:List Oyez.Rec) (i:Nat) (h:i<f.length):ents (f.take (i+1))=ents (f.take i)++[(Ve f[i].place,AV.int .i64 i)]:=by
 unfold ents Yz
 rw [Qzt h,List.zipIdx_append,List.map_append]
 simp
 omega
end Ab
namespace Ab
open Go Go.RowKit Go.Proofs
attribute [local irreducible] aws awp aw1 Og Om Oc Oa Ogd Ov Ot awd Zb awh Xb Ogh Ohd awl Ogl Ohl awv Ogv Ohv Wb Vb QFn Ub QRo QBe ACode AYield
def Yp (q:Nat) (f:List Oyez.Rec):Za:=[.cells [We f,.mp (q+1)],.map (ents f)]
theorem Vcw (n:Nat) (m:List Nat) (ws:List (List UInt8)):Rn n m (Uc ws) (Uc ws):=.pl 1 _ fun i x hx j y hy=>by
 simp at hx
 obtain ⟨w,hw,rfl⟩:=hx
 match j,hy with
 | 0,hy=>simp [AV.cells] at hy;subst hy;exact .str _
 | j+1,hy=>simp [AV.cells] at hy
theorem Zgt (n:Nat) (m:List Nat) (f:List Oyez.Rec):∀ (i:Nat) (x:AV),(f.map Yg)[i]? = some x→∀ (j:Nat) (y:AV),x.cells[j]? = some y→Rn n m y y:=by
 intro i x hx j y hy
 obtain ⟨r,_,rfl⟩:=List.mem_map.1 (Qzg hx)
 have:=Qzg hy
 simp [AV.cells] at this
 rcases this with rfl | rfl | rfl
 ·exact .int _ _
 ·exact .int _ _
 ·exact Vcw n m _
theorem Wea (n:Nat) (m:List Nat) (p:Oyez.Place):Rn n m (Ve p) (Ve p):=.agg _ _ rfl fun i x y hx hy=>by
 obtain rfl:=Option.some.inj (hx.symm.trans hy)
 have:=Qzg hx
 simp at this
 rcases this with rfl | rfl
 ·exact .int _ _
 ·exact .int _ _
theorem Ye3 (n:Nat) (m:List Nat) (f:List Oyez.Rec) (e:Nat):∀ x∈Yz f e,Rn n m x.1 x.1∧Rn n m x.2 x.2:=by
 intro x hx
 unfold Yz at hx
 obtain ⟨y,_,rfl⟩:=List.mem_map.1 hx
 exact ⟨Wea n m _,.int _ _⟩
set_option maxHeartbeats 2000000 in
theorem Ybl (f:List Oyez.Rec) (hs:Oyez.RSorted f) (hf:f.length≤2^40) (σ:Za):ACalls Tryz.prog 167 [We f] σ (fun v σ'=>v=.ptr σ.length 0∧σ'=σ++Yp σ.length f):=by
 refine ACalls.canon ?_
 refine Yb Tryz.func167 rfl (Va Tryz.func167 (by decide) rfl) ?_
 simp [Tryz.ntmps167]
 refine Vd (fun env σ'=>∃ (u:List AV) (i:Nat) (g:Za),env={ t:=u }∧u.length=27∧tg u 0=We f∧tg u 3=.ptr (σ.length+1) 0∧tg u 11=We f∧tg u 12=.int .i64 f.length∧tg u 13=.int .i64 i∧σ'=σ++(.map (ents (f.take i))::.cells [We f,.mp σ.length]::g)∧i≤f.length)
  (fun env _=>match tg env.t 13 with | .int _ i=>f.length - i.toNat | _=>0) ⟨_,0,[],rfl,by simp,by simp,by simp,by simp,by simp,by simp,by simp [ents,Yz],by omega⟩ ?_
 rintro env σ' ⟨u,i,g,rfl,hl,g0,g3,g11,g12,g13,rfl,hi⟩
 rcases Qzn i f.length with hlt | hge
 ·have hlt':(i:Int)<(f.length:Int):=by omega
  have hx:=w64 (n:=(i:Int)+1) (by omega) (by omega)
  have hfind:=Xcc f[i].place (f.take i) 0 0
  rw [Oyez.take_fresh hs hlt] at hfind
  have hfind':Xt [1,1] [.int .i64 f[i].place.kind,.int .i64 f[i].place.number] (ents (f.take i)) 0=some none:=hfind
  have hsn:=Yc9 f i hlt
  simp [hl,g0,g3,g11,g12,g13,hlt',hlt]
  refine Vag [7] mixed (by kernel_rfl) ?_
  simp [hl,g0,g3,g11,g12,g13,hlt',hlt]
  refine Wy (Yai f[i]) ?_
  simp [hl,g0,g3,g11,g12,g13,hlt',hlt,hfind',hx]
  refine ⟨⟨i+1,by simp,?_,by omega⟩,by omega⟩
  rw [hsn]
  rfl
 ·have hge':¬ (i:Int)<(f.length:Int):=by omega
  simp [hl,g0,g3,g11,g12,g13,hge']
  rw [List.take_of_length_le hge]
  refine ⟨Yp σ.length f,[1,0],rfl,by decide,fun a o' ho=>?_,_,.ptr 0 1 0 rfl,rfl,rfl⟩
  match a,ho with
  | 0,ho =>
   simp [Yp] at ho
   subst ho
   refine ⟨1,rfl,_,rfl,.cells _ _ (Nat.le_refl _) fun i x x' hx hx'=>?_⟩
   match i,hx,hx' with
   | 0,hx,hx' =>
    simp at hx hx'
    subst hx;subst hx'
    exact .pl 3 _ (Zgt _ _ f)
   | 1,hx,hx' =>
    simp at hx hx'
    subst hx;subst hx'
    exact .mp 1 0 rfl
   | i+2,hx,_=>simp at hx
  | 1,ho =>
   simp [Yp] at ho
   subst ho
   refine ⟨0,rfl,_,rfl,.map _ _ rfl fun i e e' he he'=>?_⟩
   obtain rfl:=Option.some.inj (he.symm.trans he')
   exact Ye3 _ _ f 0 e (Qzg he)
  | a+2,ho=>simp [Yp] at ho
structure DeskAt (σ:Za) (v:AV) (f:List Oyez.Rec):Prop where
 ex:∃ r m,v=.ptr r 0∧σ[r]? = some (.cells [We f,.mp m])∧σ[m]? = some (.map (ents f))
theorem DeskAt.more {σ:Za} {v:AV} {f:List Oyez.Rec} (h:DeskAt σ v f) (g:Za):DeskAt (σ++g) v f:=by
 obtain ⟨r,m,h1,h2,h3⟩:=h.ex
 exact ⟨r,m,h1,Vr h2,Vr h3⟩
theorem Vby (f:List Oyez.Rec) (p:Oyez.Place) (σ:Za):Wab (We f) (ents f) p.kind p.number σ=some (match Oyez.getIn f p with | some ws=>(Uc ws,true) | none=>(.nils,false)):=by
 have hfind:Xt [1,1] [.int .i64 p.kind,.int .i64 p.number] (ents f) 0=_:=Xcc p f 0 0
 unfold Wab
 rw [hfind]
 cases hi:Oyez.idxOf f p with
 | none =>
  rw [Oyez.idxOf_none.1 hi]
  rfl
 | some j =>
  obtain ⟨hj,hg⟩:=Oyez.idxOf_some hi
  rw [hg]
  simp [recAt,hj,AV.cells]
def Yj (x:Oyez.St):AV:=.agg [.bool x.isSome,Uc (Yc x)]
theorem Ua0 {σ:Za} {d:AV} {f:List Oyez.Rec} (hd:DeskAt σ d f) (p:Oyez.Place):ACalls Tryz.prog 91 [d,Ve p] σ (fun v σ'=>v=Yj (Oyez.getIn f p)∧σ'=σ):=by
 obtain ⟨r,m,rfl,h1,h2⟩:=hd.ex
 cases hg:Oyez.getIn f p with
 | none =>
  refine ACalls.forget ((Xbm σ r m (We f) (ents f) h1 h2 p.kind p.number .nils false (by rw [Vby,hg]) rfl (fun S=>.nils)).mono ?_)
  rintro v σ' ⟨rfl,rfl⟩
  exact ⟨[],_,by simp,Fz.agg2 (.bool _) (.nils_pl 1),rfl,rfl⟩
 | some ws =>
  refine (Xbm σ r m (We f) (ents f) h1 h2 p.kind p.number (Uc ws) true (by rw [Vby,hg]) rfl (fun S=>(Yau _ _ _).2 trivial)).mono ?_
  rintro v σ' ⟨rfl,rfl⟩
  exact ⟨rfl,rfl⟩
theorem Xa0 (x y:Oyez.St) (hx:(Yc x).length≤2^40):APure Tryz.prog 92 [Yj x,Yj y] (.bool (decide (x=y))):=by
 refine APure.of fun σ=>?_
 refine Yb Tryz.func92 rfl (Va Tryz.func92 (by decide) rfl) ?_
 by_cases h:x.isSome=y.isSome
 ·have e:decide (x=y)=decide (Yc x=Yc y):=by
   rw [decide_eq_decide,Oyez.st_eq]
   simp [h,Yc]
  simp [Tryz.ntmps92,h,Yj]
  refine (Ydj _ _ hx).use ?_
  simp [e]
 ·have hb:(x.isSome == y.isSome)=false:=by simpa using h
  have e:¬ x=y:=fun e=>h (by rw [e])
  simp [Tryz.ntmps92,hb,e,Yj]
def Vl (n:Nat) (ws:List (List UInt8)):AV:=if ws=[] then .pl 1 [] else .arr 1 n 0 ws.length
def Vi (ws:List (List UInt8)):Za:=if ws=[] then [] else [.cells (strs ws)]
theorem Vb3 (t:List (List UInt8)):(t.map AV.str).flatMap AV.cells=t.map AV.str:=by
 induction t with
 | nil=>rfl
 | cons w t ih=>rw [List.map_cons,List.flatMap_cons,ih];rfl
theorem Zae (ws:List (List UInt8)) (hw:ws.length≤2^40) (σ:Za):ACalls Tryz.prog 171 [Uc ws] σ (fun v σ'=>v=Vl σ.length ws∧σ'=σ++Vi ws):=by
 by_cases h:ws=[]
 ·subst h
  refine ACalls.pl0 (Va Tryz.func171 (by decide) rfl) ?_ ?_
  ·refine ACalls.canon ?_
   refine Yb Tryz.func171 rfl (Va Tryz.func171 (by decide) rfl) ?_
   simp [Tryz.ntmps171]
   exact ⟨[],[],rfl,List.nodup_nil,fun i o' h=>by simp at h,_,.nils_pl 1,by simp [Vl],by simp [Vi]⟩
  ·refine ACalls.canon ?_
   refine Yb Tryz.func171 rfl (Va Tryz.func171 (by decide) rfl) ?_
   simp [Tryz.ntmps171]
   exact ⟨[],[],rfl,List.nodup_nil,fun i o' h=>by simp at h,_,.emp_pl 1,by simp [Vl],by simp [Vi]⟩
 ·refine ACalls.canon ?_
  refine Yb Tryz.func171 rfl (Va Tryz.func171 (by decide) rfl) ?_
  have hb:ws.length*16≤140737488355328:=by omega
  obtain ⟨w,t,rfl⟩:∃ w t,ws=w::t:=by
   cases ws with
   | nil=>exact absurd rfl h
   | cons w t=>exact ⟨w,t,rfl⟩
  rw [List.length_cons] at hb
  simp [Tryz.ntmps171,hb]
  refine ⟨Vi (w::t),[1],by simp [Vi],by decide,fun i o' ho=>?_,_,.arr 1 0 1 0 _ rfl,by simp [Vl],rfl⟩
  match i,ho with
  | 0,ho =>
   simp [Vi] at ho
   subst ho
   refine ⟨1,rfl,_,rfl,.cells _ _ (by rw [Vb3];exact Nat.le_refl _) fun i x x' hx hx'=>?_⟩
   rw [Vb3] at hx
   obtain rfl:=Option.some.inj (hx.symm.trans hx')
   have hm:=Qzg hx
   simp at hm
   rcases hm with rfl | ⟨y,_,rfl⟩
   ·exact .str _
   ·exact .str _
  | i+1,ho=>simp [Vi] at ho
end Ab

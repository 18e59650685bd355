/-
  Texts packed for a claim.
-/
import Derived.Test.YtcoikmapjepdjaaGreatDoorE00
import Derived.RangeFuncLeaves
import Derived.Test.YtcoikmapjepdjaaGreatDoorE06
set_option linter.all false
namespace Ab
open Go Go.RowKit
variable [Mode]
variable {P:Program}
inductive Fz (n:Nat) (σ:Za):AV→AV→Prop
 | any (v:AV):Fz n σ v .any
 | bool (b:Bool):Fz n σ (.bool b) (.bool b)
 | int (k:IntKind) (i:Int):Fz n σ (.int k i) (.int k i)
 | str (s:List UInt8):Fz n σ (.str s) (.str s)
 | nilp:Fz n σ .nilp .nilp
 | gl (g:Nat):Fz n σ (.gl g) (.gl g)
 | nils:Fz n σ .nils .nils
 | nils_pl (k:Nat):Fz n σ .nils (.pl k [])
 | emp:Fz n σ .emp .emp
 | emp_pl (k:Nat):Fz n σ .emp (.pl k [])
 | nn:Fz n σ .nn .nn
 | nn_pl (k:Nat):Fz n σ .nn (.pl k [])
 | nilm:Fz n σ .nilm .nilm
 | nilf:Fz n σ .nilf .nilf
 | nili:Fz n σ .nili .nili
 | ptr (r off:Nat):r<n→Fz n σ (.ptr r off) (.ptr r off)
 | yld (r:Nat):r<n→Fz n σ (.yld r) (.yld r)
 | keep (k r off len:Nat):r<n→Fz n σ (.arr k r off len) (.arr k r off len)
 | pp (k:Nat) (l:List AV) (a b:Nat):(∀ (i:Nat) (x:AV),l[i]? = some x→∀ (j:Nat) (y:AV),x.cells[j]? = some y→Fz n σ y y)→Fz n σ (.pp k l a b) (.pp k l a b)
 | pl0 (k k':Nat):Fz n σ (.pl k []) (.pl k' [])
 | pl (k:Nat) (l:List AV):(∀ (i:Nat) (x:AV),l[i]? = some x→∀ (j:Nat) (y:AV),x.cells[j]? = some y→Fz n σ y y)→Fz n σ (.pl k l) (.pl k l)
 | arr (k r off:Nat) (cs l:List AV) (f:Nat→Nat→AV):n≤r→σ[r]? = some (.cells cs) →
   (∀ (i:Nat) (x:AV),l[i]? = some x→x.cells.length=k∧∀ (j:Nat) (y:AV),x.cells[j]? = some y→y.one=true∧cs[(off+i)*k+j]? = some (f i j)) →
   (∀ (i:Nat) (x:AV),l[i]? = some x→∀ (j:Nat) (y:AV),x.cells[j]? = some y→Fz n σ (f i j) y)→Fz n σ (.arr k r off l.length) (.pl k l)
 | agg (l l':List AV) (hl:l.length=l'.length):(∀ (i:Nat) (x y:AV),l[i]? = some x→l'[i]? = some y→Fz n σ x y)→Fz n σ (.agg l) (.agg l')
 | tup (l l':List AV) (hl:l.length=l'.length):(∀ (i:Nat) (x y:AV),l[i]? = some x→l'[i]? = some y→Fz n σ x y)→Fz n σ (.tup l) (.tup l')
def Ctx.frz (C:Ctx) (n:Nat) (σ:Za):Ctx :=
 { C with blk:=C.blk.take n,pers:=fun b=>C.pers b∨∃ (r:Nat) (o:AObj),n≤r∧C.blk[r]? = some b∧σ[r]? = some o∧o.live=true }
theorem Zaf {C:Ctx} {n:Nat} {σ:Za} {r b:Nat} (h:C.blk[r]? = some b) (hr:r<n):(C.frz n σ).blk[r]? = some b:=by
 simp only [Ctx.frz]
 rw [List.getElem?_take_of_lt hr];exact h
theorem VR.frz {C:Ctx} {n:Nat} {σ:Za} (hI:Inv C σ) {v v':AV} {c:Value} (hf:Fz n σ v v') (h:VR C v c):VR (C.frz n σ) v' c:=by
 induction hf generalizing c with
 | any v=>exact .any c
 | bool b=>cases h;exact .bool b
 | int k i=>cases h;exact .int k i
 | str s=>cases h;exact .str s
 | nilp=>cases h;exact .nilp
 | gl g=>cases h;exact .gl g
 | nils=>cases h;exact .nils
 | nils_pl k=>cases h;exact .pl0 k none 0 fun _=>rfl
 | emp=>cases h;exact .emp _
 | emp_pl k=>cases h;exact .pl0 k _ 0 fun _=>rfl
 | nn=>cases h;exact .nn _ _
 | nn_pl k=>cases h;exact .pl0 k _ _ fun h=>by cases h
 | nilm=>cases h;exact .nilm
 | nilf=>cases h;exact .nilf
 | nili=>cases h;exact .nili
 | ptr r off hr=>obtain ⟨b,hb,rfl⟩:=h.ptr_inv;exact .ptr r off b (Zaf hb hr)
 | yld r hr=>obtain ⟨b,hb,rfl⟩:=h.yld_inv;exact .yld r b (Zaf hb hr)
 | keep k r off len hr=>obtain ⟨b,cap,e,m,hb,h1,h2,h3,rfl⟩:=h.arr_inv;exact .arr k r off len b cap e m (Zaf hb hr) h1 h2 h3
 | pp k l a b' _ ih =>
  obtain ⟨b,o,rfl,hi,hrow⟩:=h.pp_inv
  exact .pp k l a b' b o hrow.f (.inl hrow.1) hi (fun i x hx=>⟨(hrow.2 i x hx).1,fun j y hy=>⟨((hrow.2 i x hx).2 j y hy).1,(hrow.f_eq hx hy).1⟩⟩) (fun i x hx j y hy=>ih i x hx j y hy (hrow.f_eq hx hy).2)
 | pl0 k k' =>
  obtain ⟨A,cap,rfl,h1,h2⟩:=h.pl_inv
  exact .pl0 k' A cap h.pl_cap
 | pl k l _ ih =>
  obtain ⟨A,cap,rfl,h1,h2⟩:=h.pl_inv
  rcases h2 with rfl | ⟨b,o,rfl,hrow⟩
  ·exact .pl0 k A cap h.pl_cap
  ·exact .pl k l b o l.length cap hrow.f (.inl hrow.1) rfl h1 (fun i x hx=>⟨(hrow.2 i x hx).1,fun j y hy=>⟨((hrow.2 i x hx).2 j y hy).1,(hrow.f_eq hx hy).1⟩⟩)
    (fun i x hx j y hy=>ih i x hx j y hy (hrow.f_eq hx hy).2)
 | arr k r off cs l f hn hr h1 _ ih =>
  obtain ⟨b,cap,e,m,hb,hc1,hc2,hc3,rfl⟩:=h.arr_inv
  have hcell:=fun (j:Nat) (z:AV) (hz:cs[j]? = some z)=>hI.cell_at hb hr j z hz
  have e1:∀ i j,off*k+i*k+j=(off+i)*k+j:=fun i j=>by rw [Nat.add_mul]
  refine .pl k l b (off*k) l.length cap (fun i j=>(C.w.cell? ⟨b,off*k+i*k+j,none⟩).getD undef) (.inr ⟨r,_,hn,hb,hr,rfl⟩) rfl hc1 (fun i x hx=>⟨(h1 i x hx).1,fun j y hy=>?_⟩) (fun i x hx j y hy=>?_)
  ·obtain ⟨hy1,hz⟩:=(h1 i x hx).2 j y hy
   obtain ⟨v,hv,_⟩:=hcell _ _ hz
   refine ⟨hy1,?_⟩
   show C.w.cell? _=some ((C.w.cell? _).getD undef)
   rw [e1,hv]
   rfl
  ·obtain ⟨hy1,hz⟩:=(h1 i x hx).2 j y hy
   obtain ⟨v,hv,hvr⟩:=hcell _ _ hz
   show VR _ y ((C.w.cell? _).getD undef)
   rw [e1,hv]
   exact ih i x hx j y hy hvr
 | agg l l' hl _ ih =>
  obtain ⟨cs,rfl,hcs⟩:=h.agg_inv
  exact .agg l' cs (by rw [← hl];exact hcs.len) fun i y c hy hc=>by
   have hi:=(Qzs.1 hy).1
   have hx:l[i]? = some (l[i]'(by omega)):=Qze (by omega)
   exact ih i _ y hx hy (hcs.at_ i _ c hx hc)
 | tup l l' hl _ ih =>
  obtain ⟨cs,rfl,hcs⟩:=h.tup_inv
  exact .tup l' cs (by rw [← hl];exact hcs.len) fun i y c hy hc=>by
   have hi:=(Qzs.1 hy).1
   have hx:l[i]? = some (l[i]'(by omega)):=Qze (by omega)
   exact ih i _ y hx hy (hcs.at_ i _ c hx hc)
theorem VR.frz_old {C₀ C:Ctx} {n:Nat} {σ:Za} (hn:C₀.blk.length≤n) {v:AV} {c₀ c:Value} (h₀:VR C₀ v c₀) (h:VR C v c):VR (C.frz n σ) v c:=by
 have hlt:∀ {r b:Nat},C₀.blk[r]? = some b→r<n:=fun hb=>Nat.lt_of_lt_of_le (Qzs.1 hb).1 hn
 induction h₀ generalizing c with
 | any _=>exact .any c
 | bool b=>cases h;exact .bool b
 | int k i=>cases h;exact .int k i
 | str s=>cases h;exact .str s
 | nilp=>cases h;exact .nilp
 | ptr r off b hb=>obtain ⟨b',hb',rfl⟩:=h.ptr_inv;exact .ptr r off b' (Zaf hb' (hlt hb))
 | pp k l i j b o f hp hi hc _ ih =>
  obtain ⟨b',o',rfl,hi',hrow⟩:=h.pp_inv
  exact .pp k l i j b' o' hrow.f (.inl hrow.1) hi' (fun i x hx=>⟨(hrow.2 i x hx).1,fun j y hy=>⟨((hrow.2 i x hx).2 j y hy).1,(hrow.f_eq hx hy).1⟩⟩) (fun i x hx j y hy=>ih i x hx j y hy (hrow.f_eq hx hy).2)
 | gl g=>cases h;exact .gl g
 | nils=>cases h;exact .nils
 | emp A=>cases h;exact .emp _
 | nn a cap=>cases h;exact .nn _ _
 | pl0 k A cap _=>obtain ⟨A',cap',rfl,_,_⟩:=h.pl_inv;exact .pl0 k A' cap' h.pl_cap
 | pl k l b o m cap f hp hm hcap hc _ ih =>
  obtain ⟨A',cap',rfl,h1,h2⟩:=h.pl_inv
  rcases h2 with rfl | ⟨b',o',rfl,hrow⟩
  ·exact .pl0 k A' cap' h.pl_cap
  ·exact .pl k l b' o' l.length cap' hrow.f (.inl hrow.1) rfl h1 (fun i x hx=>⟨(hrow.2 i x hx).1,fun j y hy=>⟨((hrow.2 i x hx).2 j y hy).1,(hrow.f_eq hx hy).1⟩⟩) (fun i x hx j y hy=>ih i x hx j y hy (hrow.f_eq hx hy).2)
 | arr k r off len b cap e m hb _ _ _=>obtain ⟨b',cap',e',m',hb',h1,h2,h3,rfl⟩:=h.arr_inv;exact .arr k r off len b' cap' e' m' (Zaf hb' (hlt hb)) h1 h2 h3
 | arc k r off len b cap e m hb _ _ _=>obtain ⟨b',e',m',hb',h1,h2,h3,rfl⟩:=h.arc_inv;exact .arc k r off len b' cap e' m' (Zaf hb' (hlt hb)) h1 h2 h3
 | nilm=>cases h;exact .nilm
 | mp r b hb=>obtain ⟨b',hb',rfl⟩:=h.mp_inv;exact .mp r b' (Zaf hb' (hlt hb))
 | nilf=>cases h;exact .nilf
 | fn f xs ys cs ds hx hy h1 h2 ih1 ih2 =>
  obtain ⟨cs',ds',rfl,hcs,hds⟩:=h.fn_inv
  refine .fn f xs ys cs' ds' hcs.len hds.len (fun i x c hx' hc=>?_) (fun i x c hx' hc=>?_)
  ·have hi:=(Qzs.1 hx').1
   exact ih1 i x (cs[i]'(by omega)) hx' (Qze (by omega)) (hcs.at_ i x c hx' hc)
  ·have hi:=(Qzs.1 hx').1
   exact ih2 i x (ds[i]'(by omega)) hx' (Qze (by omega)) (hds.at_ i x c hx' hc)
 | yld r b hb=>obtain ⟨b',hb',rfl⟩:=h.yld_inv;exact .yld r b' (Zaf hb' (hlt hb))
 | nili=>cases h;exact .nili
 | un c hc=>cases h with | un _ hc'=>exact .un _ hc'
 | iface t v c' _ ih=>cases h with | iface _ _ c'' hv=>exact .iface t v c'' (ih hv)
 | agg l cs hl _ ih =>
  obtain ⟨cs',rfl,hcs⟩:=h.agg_inv
  exact .agg l cs' hcs.len fun i x c hx hc=>by
   have hi:=(Qzs.1 hx).1
   exact ih i x (cs[i]'(by omega)) hx (Qze (by omega)) (hcs.at_ i x c hx hc)
 | tup l cs hl _ ih =>
  obtain ⟨cs',rfl,hcs⟩:=h.tup_inv
  exact .tup l cs' hcs.len fun i x c hx hc=>by
   have hi:=(Qzs.1 hx).1
   exact ih i x (cs[i]'(by omega)) hx (Qze (by omega)) (hcs.at_ i x c hx hc)
theorem VRs.frz_old {C₀ C:Ctx} {n:Nat} {σ:Za} (hn:C₀.blk.length≤n) {xs:List AV} {cs₀ cs:List Value} (h₀:VRs C₀ xs cs₀) (h:VRs C xs cs):VRs (C.frz n σ) xs cs :=
 ⟨h.len,fun i x c hx hc=>by
  have hi:=(Qzs.1 hx).1
  have hl:=h₀.len
  exact (h₀.at_ i x (cs₀[i]'(by omega)) hx (Qze (by omega))).frz_old hn (h.at_ i x c hx hc)⟩
theorem ORel.frz_old {C₀ C:Ctx} {n:Nat} {σ:Za} (hn:C₀.blk.length≤n) {o:AObj} {c₀ c:Obj} (h₀:ORel C₀ o c₀) (h:ORel C o c):ORel (C.frz n σ) o c:=by
 cases h with
 | cells cs carr e lo hi h1 h2 h3 =>
  obtain ⟨carr₀,e₀,lo₀,hi₀,rfl,g1,g2,g3⟩:=h₀.cells_inv
  refine .cells cs carr e lo hi h1 h2 fun i x c hx hc=>?_
  have hi':=(Qzs.1 hx).1
  exact (g3 i x (carr₀[i]'(by omega)) hx (Array.getElem?_eq_getElem (by omega))).frz_old hn (h3 i x c hx hc)
 | map es ces clock h1 h2 =>
  cases h₀ with
  | map _ ces₀ clock₀ g1 g2 =>
   refine .map es ces clock h1 fun i x e hx he=>?_
   have hi':=(Qzs.1 hx).1
   have g:=g2 i x (ces₀[i]'(by omega)) hx (Array.getElem?_eq_getElem (by omega))
   have h':=h2 i x e hx he
   exact ⟨g.1.frz_old hn h'.1,g.2.frz_old hn h'.2⟩
 | iter s pos=>exact .iter s pos
 | loop fn env tmps ps sa bd st pd df h1 =>
  cases h₀ with
  | loop _ _ tmps₀ _ _ _ _ _ _ g1=>exact .loop fn env tmps ps sa bd st pd df (g1.frz_old hn h1)
 | deferred=>exact .deferred
 | gone c=>exact .gone c
theorem Ext.frz {C₀ C:Ctx} {σ g:Za} (hI₀:Inv C₀ σ) (hE:Ext C₀ C):Ext C₀ (C.frz σ.length (σ++g)):=by
 obtain ⟨e,he⟩:=hE.blk
 have hl:=hI₀.len
 exact ⟨hE.w0,⟨[],by simp only [Ctx.frz];rw [he,List.append_nil,← hl,List.take_left]⟩,fun b hb=>.inl (hE.pers b hb),hE.keep,hE.shape,hE.size,hE.drawn⟩
theorem Inv.frz {C₀ C:Ctx} {σ g:Za} (hI₀:Inv C₀ σ) (hE:Ext C₀ C) (hI:Inv C (σ++g)):Inv (C.frz σ.length (σ++g)) σ:=by
 have hlen:=hI.len
 have hlen₀:=hI₀.len
 simp at hlen
 have hb:∀ r b,(C.frz σ.length (σ++g)).blk[r]? = some b→C.blk[r]? = some b∧r<σ.length:=by
  intro r b hr
  simp only [Ctx.frz] at hr
  rcases Qzn r σ.length with h | h
  ·rw [List.getElem?_take_of_lt h] at hr;exact ⟨hr,h⟩
  ·rw [List.getElem?_eq_none (by simp;omega)] at hr;cases hr
 have up:∀ (r:Nat) (o:AObj),r<σ.length→σ[r]? = some o→(σ++g)[r]? = some o:=fun r o h1 h2=>by rw [Qzl h1];exact h2
 refine ⟨by simp [Ctx.frz,hlen],hI.glob,hI.base,fun b hb=>.inl (hI.basep b hb),fun b hb=>?_,fun r b o hr ho hl=>?_,fun r1 r2 b o1 o2 h1 h2 ho1 ho2 hl1 hl2=>?_⟩
 ·rcases hb with hb | ⟨r,o,_,h1,h2,h3⟩
  ·exact hI.plt b hb
  ·obtain ⟨_,c,hc,_⟩:=hI.live r b o h1 h2 h3
   exact (Array.getElem?_eq_some_iff.1 hc).1
 ·obtain ⟨h1,h2⟩:=hb r b hr
  obtain ⟨hnp,c,hc,hR⟩:=hI.live r b o h1 (up r o h2 ho) hl
  refine ⟨?_,c,hc,?_⟩
  ·rintro (hp | ⟨r',o',g1,g2,g3,g4⟩)
   ·exact hnp hp
   ·have:=hI.inj r r' b o o' h1 g2 (up r o h2 ho) g3 hl g4
    omega
  ·have h0:C₀.blk[r]? = some (C₀.blk[r]'(by omega)):=Qze (by omega)
   obtain ⟨_,c₀,_,hR₀⟩:=hI₀.live r _ o h0 ho hl
   exact hR₀.frz_old (by omega) hR
 ·obtain ⟨h1,h1'⟩:=hb r1 b h1
  obtain ⟨h2,h2'⟩:=hb r2 b h2
  exact hI.inj r1 r2 b o1 o2 h1 h2 (up _ _ h1' ho1) (up _ _ h2' ho2) hl1 hl2
theorem ACalls.forget {f:FuncId} {args:List AV} {σ:Za} {R:AV→Za→Prop} (h:ACalls P f args σ fun v σ'=>∃ g v',σ'=σ++g∧Fz σ.length σ' v v'∧R v' σ):ACalls P f args σ R:=by
 rcases h with h | h
 ·refine .inl ⟨h.1,fun C cargs hI hv=>(h.2 C cargs hI hv).mono ?_⟩
  rintro e w' ⟨v,C',av,σ',rfl,rfl,hE,hI',hv',g,v',rfl,hf,hR⟩
  exact ⟨v,C'.frz σ.length (σ++g),v',σ,rfl,rfl,Ext.frz hI hE,hI.frz hE hI',hv'.frz hI' hf,hR⟩
 ·refine .inr fun C cargs hI hv=>?_
  obtain ⟨v,C',av,σ',hr,hE,hI',hv',g,v',rfl,hf,hR⟩:=h C cargs hI hv
  exact ⟨v,C'.frz σ.length (σ++g),v',σ,hr,Ext.frz hI hE,hI.frz hE hI',hv'.frz hI' hf,hR⟩
def APure (P:Program) (f:FuncId) (args:List AV) (v:AV):Prop:=∀ σ,ACalls P f args σ fun v' σ'=>v'=v∧σ'=σ
theorem APure.use {f:FuncId} {args:List AV} {v:AV} (h:APure P f args v) {σ:Za} {R:AV→Za→Prop} (hR:R v σ):@StA _ P f args σ ⟨R⟩ :=
 (h σ).mono fun _ _ ⟨h1,h2⟩=>by rw [h1,h2];exact hR
theorem APure.of {f:FuncId} {args:List AV} {v:AV} (h:∀ σ,ACalls P f args σ fun v' σ'=>∃ g,σ'=σ++g∧Fz σ.length σ' v' v):APure P f args v :=
 fun σ=>ACalls.forget ((h σ).mono fun v' σ' ⟨g,h1,h2⟩=>⟨g,v,h1,h2,rfl,rfl⟩)
def FzL (n:Nat) (σ:Za) (xs ys:List AV):Prop:=xs.length=ys.length∧∀ (i:Nat) (x y:AV),xs[i]? = some x→ys[i]? = some y→Fz n σ x y
theorem FzL.nil_iff {n:Nat} {σ:Za}:FzL n σ [] []↔True:=⟨fun _=>trivial,fun _=>⟨rfl,fun i x y h=>by simp at h⟩⟩
theorem FzL.cons_iff {n:Nat} {σ:Za} {x y:AV} {xs ys:List AV}:FzL n σ (x::xs) (y::ys)↔Fz n σ x y∧FzL n σ xs ys:=by
 constructor
 ·rintro ⟨hl,h⟩
  exact ⟨h 0 x y rfl rfl,by simpa using hl,fun i a b ha hb=>h (i+1) a b (by simpa using ha) (by simpa using hb)⟩
 ·rintro ⟨h0,hl,h⟩
  refine ⟨by simp [hl],fun i a b ha hb=>?_⟩
  cases i with
  | zero=>simp at ha hb;subst ha;subst hb;exact h0
  | succ i=>exact h i a b (by simpa using ha) (by simpa using hb)
theorem Fz.tup_iff {n:Nat} {σ:Za} {xs ys:List AV}:Fz n σ (.tup xs) (.tup ys)↔FzL n σ xs ys:=⟨fun h=>by cases h with | tup _ _ hl h=>exact ⟨hl,h⟩,fun h=>.tup _ _ h.1 h.2⟩
theorem Fz.agg_iff {n:Nat} {σ:Za} {xs ys:List AV}:Fz n σ (.agg xs) (.agg ys)↔FzL n σ xs ys:=⟨fun h=>by cases h with | agg _ _ hl h=>exact ⟨hl,h⟩,fun h=>.agg _ _ h.1 h.2⟩
theorem Fz.str_iff {n:Nat} {σ:Za} {a b:List UInt8}:Fz n σ (.str a) (.str b)↔a=b:=⟨fun h=>by cases h;rfl,fun h=>by rw [h];exact .str _⟩
theorem Fz.bool_iff {n:Nat} {σ:Za} {a b:Bool}:Fz n σ (.bool a) (.bool b)↔a=b:=⟨fun h=>by cases h;rfl,fun h=>by rw [h];exact .bool _⟩
theorem Fz.int_iff {n:Nat} {σ:Za} {k k':IntKind} {a b:Int}:Fz n σ (.int k a) (.int k' b)↔k=k'∧a=b:=⟨fun h=>by cases h;exact ⟨rfl,rfl⟩,fun h=>by rw [h.1,h.2];exact .int _ _⟩
theorem Fz.nils_iff {n k:Nat} {σ:Za} {l:List AV}:Fz n σ .nils (.pl k l)↔l=[]:=⟨fun h=>by cases h;rfl,fun h=>by rw [h];exact .nils_pl k⟩
attribute [simp] FzL.nil_iff FzL.cons_iff Fz.tup_iff Fz.agg_iff Fz.str_iff Fz.bool_iff Fz.int_iff Fz.nils_iff
end Ab
namespace Ab
open Go Go.RowKit
variable [Mode]
variable {P:Program}
structure Acc (σ g:Za) (k:Nat) (v:AV) (l:List AV) (o:Option Nat):Prop where
 len:∀ x∈l,x.cells.length=k∧∀ y∈x.cells,y.one=true
 val:match o with
  | none=>v=.nils∧l=[]
  | some j=>v=.arr k (σ.length+j) 0 l.length∧g[j]? = some (.cells (l.flatMap AV.cells))
theorem Acc.nil (σ g:Za) (k:Nat):Acc σ g k .nils [] none:=⟨by simp,rfl,rfl⟩
theorem Uc8 {k:Nat} (l:List AV) (h:∀ x∈l,x.cells.length=k):(l.flatMap AV.cells).length=l.length*k:=Zb6 l h
theorem Acc.app {σ g:Za} {k:Nat} {v:AV} {l ys:List AV} {o:Option Nat} (h:Acc σ g k v l o) {t e:TypeId} {ag:Bool} {y:AV} (he:Uc P t=some e) (hs:tsa P e=some (k,ag)) (hz:tzk P e k=true) (hk:0<k)
  (hys:∀ x∈ys,x.cells.length=k∧∀ y∈x.cells,y.one=true) (hy:Wr k y (σ++g)=some (ys.flatMap AV.cells,ys.length)) (hb:(l.length+ys.length)*tby P e≤140737488355328) :
  ∃ v' g' o',Xa P #[t,t] v y (σ++g)=some (v',σ++g')∧Acc σ g' k v' (l++ys) o'∧g.length≤g'.length∧(∀ j,some j≠o→j<g.length→g'[j]? = g[j]?)∧(o'=o∨o'=some g.length):=by
 have hlen:∀ x∈l++ys,x.cells.length=k∧∀ y∈x.cells,y.one=true:=by
  intro x hx
  rcases List.mem_append.1 hx with h1 | h1
  ·exact h.len x h1
  ·exact hys x h1
 have hv:=h.val
 cases o with
 | none =>
  obtain ⟨rfl,rfl⟩:=hv
  by_cases h0:ys.length=0
  ·obtain rfl:=List.eq_nil_of_length_eq_zero h0
   refine ⟨.nils,g,none,?_,⟨hlen,rfl,rfl⟩,Nat.le_refl _,fun _ _ _=>rfl,.inl rfl⟩
   simp [-Wr,-AV.one,-AV.cells,Xa,he,hs,hz,hy,hk]
  ·refine ⟨.arr k (σ.length+g.length) 0 ys.length,g++[.cells (ys.flatMap AV.cells)],some g.length,?_,⟨hlen,by simp,by simp⟩,by simp,fun j _ hj=>by rw [Qzl hj],.inr rfl⟩
   have hb':ys.length*tby P e≤140737488355328:=by simpa using hb
   simp [-Wr,-AV.one,-AV.cells,Xa,he,hs,hz,hy,hk,h0,hb']
 | some j =>
  obtain ⟨rfl,hg⟩:=hv
  refine ⟨.arr k (σ.length+g.length) 0 (l.length+ys.length),g.set j .dead++[.cells ((l++ys).flatMap AV.cells)],some g.length,?_,⟨hlen,by simp,by simp⟩,by simp,fun j' hne hj=>?_,.inr rfl⟩
  ·have h1:=Uc8 l (fun x hx=>(h.len x hx).1)
   have h2:(List.map (List.length ∘ AV.cells) l).sum=l.length*k:=by rw [← h1,List.length_flatMap];rfl
   simp [-Wr,-AV.one,-AV.cells,Xa,he,hs,hz,hy,hk,hg,hb,h1,List.flatMap_append]
  ·rw [Qzl (by simpa using hj),List.getElem?_set_ne (fun e=>hne (by rw [e]))]
theorem Acc.push {σ g:Za} {k:Nat} {v:AV} {l:List AV} {o:Option Nat} (h:Acc σ g k v l o) {t e:TypeId} {ag:Bool} {x:AV} (he:Uc P t=some e) (hs:tsa P e=some (k,ag)) (hz:tzk P e k=true) (hk:0<k)
  (hx:x.cells.length=k∧∀ y∈x.cells,y.one=true) (hb:(l.length+1)*tby P e≤140737488355328) :
  ∃ v' g' o',Xa P #[t,t] v (.arr k (σ.length+g.length) 0 1) (σ++(g++[.cells x.cells]))=some (v',σ++g')∧Acc σ g' k v' (l++[x]) o'∧g.length≤g'.length∧(∀ j,some j≠o→j<g.length→g'[j]? = g[j]?)∧(o'=o∨∃ m,g.length≤m∧o'=some m):=by
 have h2:Acc σ (g++[.cells x.cells]) k v l o:=⟨h.len,by
  have:=h.val
  cases o with
  | none=>exact this
  | some j=>exact ⟨this.1,by rw [Qzl (Qzs.1 this.2).1];exact this.2⟩⟩
 obtain ⟨v',g',o',h3,h4,h5,h6,h7⟩:=h2.app (P:=P) (ys:=[x]) (y:=.arr k (σ.length+g.length) 0 1) he hs hz hk (by simpa using hx) (by
  have hl:x.cells.length=k:=hx.1
  have ha:x.cells.all AV.one=true:=by simpa using hx.2
  have ht:x.cells.take k=x.cells:=by rw [← hl];exact List.take_length
  simp only [Wr,Yat]
  simp [-AV.one,-AV.cells,sub,hl,ht]
  exact hx.2) (by simpa using hb)
 refine ⟨v',g',o',h3,h4,by simp at h5;omega,fun j hj hlt=>?_,?_⟩
 ·rw [h6 j hj (by simp;omega),Qzl hlt]
 ·rcases h7 with h7 | h7
  ·exact .inl h7
  ·exact .inr ⟨_,by simp,h7⟩
theorem Acc.fz {σ g:Za} {k:Nat} {v:AV} {l:List AV} {o:Option Nat} (h:Acc σ g k v l o) (hf:∀ x∈l,∀ y∈x.cells,Fz σ.length (σ++g) y y):Fz σ.length (σ++g) v (.pl k l):=by
 have hv:=h.val
 cases o with
 | none=>obtain ⟨rfl,rfl⟩:=hv;exact .nils_pl k
 | some j =>
  obtain ⟨rfl,hg⟩:=hv
  rcases Nat.eq_zero_or_pos k with h0 | h0
  ·refine .arr k _ 0 _ l (fun i j=>.any) (by omega) (by rw [Yat];exact hg) (fun i x hx=>⟨(h.len x (Qzg hx)).1,fun j y hy=>?_⟩) (fun i x hx j y hy=>?_)
   ·have hc:=(h.len x (Qzg hx)).1
    have:=(Qzs.1 hy).1
    omega
   ·have hc:=(h.len x (Qzg hx)).1
    have:=(Qzs.1 hy).1
    omega
  ·have hget:=flat_get l (fun x hx=>(h.len x hx).1) h0
   refine .arr k _ 0 _ l (fun i j=>((l[i]?).bind fun x=>x.cells[j]?).getD .any) (by omega) (by rw [Yat];exact hg) (fun i x hx=>⟨(h.len x (Qzg hx)).1,fun j y hy=>⟨(h.len x (Qzg hx)).2 y (Qzg hy),?_⟩⟩) (fun i x hx j y hy=>?_)
   ·have hc:=(h.len x (Qzg hx)).1
    have hj:=(Qzs.1 hy).1
    rw [hget,Nat.zero_add]
    have e1:(i*k+j) / k=i:=by rw [Nat.mul_comm,Nat.mul_add_div h0,Nat.div_eq_of_lt (by omega)];omega
    have e2:(i*k+j) % k=j:=by rw [Nat.mul_comm,Nat.mul_add_mod,Nat.mod_eq_of_lt (by omega)]
    rw [e1,e2,hx]
    simp [-AV.cells,hy]
   ·rw [hx]
    simp only [Option.bind_some,hy,Option.getD_some]
    exact hf x (Qzg hx) y (Qzg hy)
end Ab
namespace Ab
open Go Go.RowKit
variable [Mode]
variable {P:Program}
def Yah:Option AObj→Prop
 | some (.loop _ _ _ _ _ .ready none _)=>True
 | _=>False
theorem Ud5 (fn:FuncId) (t:List AV) (ps:Array Tmp) (a b:Code) (D:Nat):Yah (some (.loop fn t ps a b .ready none D))=True:=(rfl)
def Zc (P:Program) (fn:Func) (R:AV→Za→Prop):Exit→Env→Za→Prop
 | .normal,env,σ | .ret,env,σ=>match env.m with
  | []=>(match Up P fn.results.toList env.t σ with
   | some v=>R v σ
   | none=>False)
  | [r]=>σ[r]? = some .deferred∧(match Up P fn.results.toList env.t (σ.set r .dead) with
   | some v=>R v (σ.set r .dead)
   | none=>False)
  | _=>False
 | _,_,_=>False
end Ab
namespace Ab
open Go Go.RowKit
variable [Mode]
variable {P:Program}
def Uao (P:Program) (t:TypeId) (len:Nat) (parts:List (Nat × AV)):Option AV :=
 match Uc P t with
 | some e=>match tsa P e,Xs P e len with
  | some (k,_),some zs=>if k=1∧len≤16777216∧0<len then (match Ud (fun i=>some (i*k,k)) zs parts with | some cs=>if cs.all AV.one=true then some (.pl 1 cs) else none | none=>none)
   else if 1<k∧k≤16777216∧len=1 then (match Ud (fun i=>some (i*k,k)) zs parts with | some cs=>if cs.all AV.one=true then some (.pl k [.agg cs]) else none | none=>none) else none
  | _,_=>none
 | none=>none
theorem Ver {C:Ctx} {s:Za} {t:TypeId} {len:Nat} {parts:List (Nat × AV)} {cparts:List (Nat × Value)} {v:AV} (hp:VP C parts cparts) (h:Uao P t len parts=some v) :
  ∃ (k:Nat) (cs:List AV) (ds:List Value),(k=1∧v=.pl 1 cs∨1<k∧len=1∧v=.pl k [.agg cs])∧Vab P t len parts s=some (.arr k s.length 0 len,s++[.cells cs])∧cs.all AV.one=true∧cs.length=len*k∧VRs C cs ds:=by
 unfold Uao at h
 unfold Vab
 split at h
 case h_2=>cases h
 rename_i e he
 rw [he]
 split at h
 case h_2=>cases h
 rename_i k ag zs hs hzs
 simp only [hs,hzs]
 obtain ⟨k',ag',zv,hs',h0,hzr,hzl,hzv⟩:=Ua4 (C:=C) hzs
 rw [hs] at hs'
 obtain ⟨rfl,rfl⟩:k=k'∧ag=ag':=by simpa using hs'
 split at h
 ·rename_i hk
  obtain ⟨rfl,hl,hpos⟩:=hk
  split at h
  case h_2=>cases h
  rename_i cs hf
  split at h
  case isFalse=>cases h
  rename_i hone
  obtain rfl:=(Option.some.inj h).symm
  obtain ⟨ds,hd,hr⟩:=Zay parts cparts zs _ cs hzv hp.len hp.at_ hf
  have h2:=Zbe _ _ _ hf
  have h3:=hzv.len
  simp at h3
  refine ⟨1,cs,ds.toList,.inl ⟨rfl,rfl⟩,?_,hone,by omega,hr⟩
  rw [if_neg (by omega),if_pos (by omega),hf]
  rfl
 ·split at h
  case isFalse=>cases h
  rename_i hk
  obtain ⟨hk1,hk2,rfl⟩:=hk
  split at h
  case h_2=>cases h
  rename_i cs hf
  split at h
  case isFalse=>cases h
  rename_i hone
  obtain rfl:=(Option.some.inj h).symm
  obtain ⟨ds,hd,hr⟩:=Zay parts cparts zs _ cs hzv hp.len hp.at_ hf
  have h2:=Zbe _ _ _ hf
  have h3:=hzv.len
  simp at h3
  refine ⟨k,cs,ds.toList,.inr ⟨hk1,rfl,rfl⟩,?_,hone,by omega,hr⟩
  rw [if_neg (by omega),if_pos (by omega),hf]
  rfl
theorem Yg2 {o:Oper} {t:List AV} {s s':Za} {v:AV} (hl:isLit o=true) (h:aop P t s o=some (v,s')):s'≠s:=by
 obtain ⟨dst,op,ty,pos,after,g⟩:=o
 unfold isLit at hl
 split at hl
 case h_2=>cases hl
 rename_i e n ps hop
 simp only at hop
 subst hop
 simp only [aop] at h
 unfold Vab at h
 intro e1
 have key:∀ o:AObj,s'≠s++[o]:=fun o e2=>by
  rw [e1] at e2
  have:=congrArg List.length e2
  simp at this
 split at h
 case h_2=>cases h
 split at h
 case h_2=>cases h
 split at h
 ·split at h
  ·simp only [Option.some.injEq,Prod.mk.injEq] at h;exact key _ h.2.symm
  ·cases h
 ·split at h
  ·rw [Qzm] at h
   obtain ⟨cs,_,h⟩:=h
   simp only [Prod.mk.injEq] at h;exact key _ h.2.symm
  ·cases h
theorem Lit.of {env:Env} {e:TypeId} {n:Nat} {ps:Array (Nat × Operand)} {v:AV} {dst:Option Tmp} {ty:TypeId} {pos:String} {after:Array Edge} {g:Option (Nat × Bool)}
  (h:Uao P e n (ps.toList.map fun p=>(p.1,Wa env.t p.2))=some v):Lit P ⟨dst,.buildSlice e n ps,ty,pos,after,g⟩ v env:=by
 intro s env' C a hav hI he ro next Q hn
 have e1:(ps.toList.map fun p=>(p.1,Wa env.t p.2))=(ps.toList.map fun p=>(p.1,Wa env'.t p.2)):=Ya9 ps (fun y hy=>hav y (by simpa [Op.operands] using hy))
 rw [e1] at h
 obtain ⟨k,cs,ds,hv0,hab,hone,hlen,hcs⟩:=Ver (s:=s) (VP.map he ps) h
 refine Yab hI he (K:=fun v' σ'=>v'=.arr k s.length 0 n∧σ'=s++[.cells cs]) ?_ ro next Q fun C1 c v1 σ1 hE1 hI1 hv1 ⟨e1,e2⟩=>?_
 ·unfold aw1
  simp only [aop]
  rw [hab]
  exact ⟨rfl,rfl⟩
 ·subst e1;subst e2
  refine hn (C1.frz s.length (s++[.cells cs])) c (Ext.frz hI hE1) (hI.frz hE1 hI1) ?_
  obtain ⟨b,cap,e',m,hb,hc1,hc2,hc3,rfl⟩:=hv1.arr_inv
  have hr:(s++[AObj.cells cs])[s.length]? = some (.cells cs):=by simp
  have hone':∀ (i:Nat) (x:AV),cs[i]? = some x→x.one=true∧x.cells=[x]:=fun i x hx=>by
   have h1:=List.all_eq_true.1 hone x (Qzg hx)
   exact ⟨h1,by cases x<;>first | rfl | (simp [AV.one] at h1)⟩
  have hp:=hcs.len
  have hcell:∀ (i:Nat) (x:AV),cs[i]? = some x→∃ w,C1.w.cell? ⟨b,i,none⟩=some w∧VR (C1.frz s.length (s++[.cells cs])) x w:=fun i x hx=>by
   obtain ⟨w,hw,hvr⟩:=hI1.cell_at hb hr i x hx
   have hi:=(Qzs.1 hx).1
   exact ⟨w,hw,(hcs.at_ i x (ds[i]'(by omega)) hx (Qze (by omega))).frz_old (by rw [hI.len];exact Nat.le_refl _) hvr⟩
  rcases hv0 with ⟨rfl,rfl⟩ | ⟨hk1,rfl,rfl⟩
  ·rw [Nat.mul_one] at hlen
   subst hlen
   rw [show 0*1=0 from rfl]
   refine .pl 1 cs b 0 cs.length cap (fun i j=>(C1.w.cell? ⟨b,0+i*1+j,none⟩).getD undef) (.inr ⟨s.length,_,Nat.le_refl _,hb,hr,rfl⟩) rfl hc1 (fun i x hx=>?_) (fun i x hx j y hy=>?_)
   ·obtain ⟨h1,h2⟩:=hone' i x hx
    obtain ⟨v,hv,_⟩:=hcell i x hx
    rw [h2]
    refine ⟨rfl,fun j y hy=>?_⟩
    match j,hy with
    | 0,hy =>
     simp at hy;subst hy
     refine ⟨h1,?_⟩
     show C1.w.cell? _=some ((C1.w.cell? _).getD undef)
     rw [show 0+i*1+0=i by omega,hv]
     rfl
    | j+1,hy=>simp at hy
   ·obtain ⟨h1,h2⟩:=hone' i x hx
    obtain ⟨v,hv,hvr⟩:=hcell i x hx
    rw [h2] at hy
    match j,hy with
    | 0,hy =>
     simp at hy;subst hy
     show VR _ x ((C1.w.cell? _).getD undef)
     rw [show 0+i*1+0=i by omega,hv]
     exact hvr
    | j+1,hy=>simp at hy
  ·rw [Nat.zero_mul]
   refine .pl k [.agg cs] b 0 1 cap (fun i j=>(C1.w.cell? ⟨b,0+i*k+j,none⟩).getD undef) (.inr ⟨s.length,_,Nat.le_refl _,hb,hr,rfl⟩) rfl hc1 (fun i x hx=>?_) (fun i x hx j y hy=>?_)
   ·match i,hx with
    | 0,hx =>
     simp at hx;subst hx
     refine ⟨by show cs.length=k;omega,fun j y hy=>?_⟩
     have hy:cs[j]? = some y:=hy
     obtain ⟨v,hv,_⟩:=hcell j y hy
     refine ⟨(hone' j y hy).1,?_⟩
     show C1.w.cell? _=some ((C1.w.cell? _).getD undef)
     rw [show 0+0*k+j=j by omega,hv]
     rfl
    | i+1,hx=>simp at hx
   ·match i,hx with
    | 0,hx =>
     simp at hx;subst hx
     have hy:cs[j]? = some y:=hy
     obtain ⟨v,hv,hvr⟩:=hcell j y hy
     show VR _ y ((C1.w.cell? _).getD undef)
     rw [show 0+0*k+j=j by omega,hv]
     exact hvr
    | i+1,hx=>simp at hx
def Ubn (P:Program) (o:Oper) (env:Env):Option AV:=match o.op with
 | .buildSlice e n ps=>Uao P e n (ps.toList.map fun p=>(p.1,Wa env.t p.2))
 | _=>none
theorem Lit.ofV {o:Oper} {env:Env} {v:AV} (h:Ubn P o env=some v):Lit P o v env:=by
 obtain ⟨dst,op,ty,pos,after,g⟩:=o
 unfold Ubn at h
 split at h
 ·rename_i e n ps hop
  simp only at hop
  subst hop
  exact Lit.of h
 ·cases h
def Ov (r:Option AV) (K:AV→Prop):Prop:=match r with
 | some v=>K v
 | none=>False
theorem Va1 {r:Option AV} {K:AV→Prop} (h:Ov r K):∃ v,r=some v∧K v:=by
 cases r with
 | none=>exact h.elim
 | some v=>exact ⟨v,rfl,h⟩
def Ua (P:Program) (o:Oper) (K:AV→Prop) (env:Env) (σ:Za):Prop :=
 if isLit o then Ov (Ubn P o env) K else if Zj o then ∃ v,Yi P o v σ env σ∧K v else aw1 P o (fun v s=>s=σ∧K v) env σ
def awd (P:Program) (ops:List Oper):List Oper→(Env→Za→Prop)→Env→Za→Prop
 | [],K,env,σ=>K env σ
 | o::rest,K,env,σ =>
  match Wm ops env.t o.guard with
  | some none=>Ua P o (fun v=>awd P ops rest K (env.put o.dst v) σ) env σ
  | some (some (_,b,want))=>Cs (b == want) (Ua P o (fun v=>awd P ops rest K (env.put o.dst v) σ) env σ) (awd P ops rest K (env.put o.dst (.tup [])) σ)
  | none=>False
theorem Uen {ops:List Oper} {K:Env→Za→Prop}:∀ (l:List Oper) (i:Nat) (env:Env) (s:Za) (rs:List AV) (es:List Env) (ss:List Za),awd P ops l K env s→adr P ops [] [] K l i env s rs es ss:=by
 intro l
 induction l with
 | nil=>intro i env s rs es ss h;exact ⟨fun x hx=>by simp at hx,h⟩
 | cons o l ih =>
  intro i env s rs es ss h
  have go:Ua P o (fun v=>awd P ops l K (env.put o.dst v) s) env s →
    ((∃ v,(isLit o&&!([]:List Nat).contains i)=true∧Lit P o v env∧adr P ops [] [] K l (i+1) (env.put o.dst v) s (rs++[v]) (es++[env]) ss) ∨
    if Zj o then
    (if ([]:List Nat).contains i then ∃ v s',Yi P o v s' env s∧adr P ops [] [] K l (i+1) (env.put o.dst v) s' (rs++[v]) (es++[env]) (ss++[s'])
     else ∃ v,Yi P o v s env s∧adr P ops [] [] K l (i+1) (env.put o.dst v) s (rs++[v]) (es++[env]) ss)
   else
    (match aop P env.t s o with
     | some (v,s')=>if ([]:List Nat).contains i then adr P ops [] [] K l (i+1) (env.put o.dst v) s' (rs++[v]) (es++[env]) (ss++[s'])
        else s'=s∧adr P ops [] [] K l (i+1) (env.put o.dst v) s (rs++[v]) (es++[env]) ss
     | none=>False)):=by
   intro h1
   unfold Ua at h1
   cases hlit:isLit o with
   | true =>
    rw [hlit] at h1
    simp only [if_true] at h1
    obtain ⟨v,h2,h3⟩:=Va1 h1
    exact .inl ⟨v,by simp,.ofV h2,ih _ _ _ _ _ _ h3⟩
   | false =>
   rw [hlit] at h1
   simp only [Bool.false_eq_true,if_false] at h1
   refine .inr ?_
   cases hc:Zj o with
   | true =>
    rw [hc] at h1
    simp only [if_true] at h1
    obtain ⟨v,h2,h3⟩:=h1
    simp only [if_true,List.contains_nil,Bool.false_eq_true,if_false]
    exact ⟨v,h2,ih _ _ _ _ _ _ h3⟩
   | false =>
    rw [hc] at h1
    simp only [Bool.false_eq_true,if_false,List.contains_nil] at h1 ⊢
    unfold aw1 at h1
    split at h1
    ·rename_i f args ts hop
     unfold Zj at hc
     rw [hop] at hc
     cases hc
    ·split at h1
     ·rename_i v s' hop
      rw [hop]
      obtain ⟨rfl,h3⟩:=h1
      exact ⟨rfl,ih _ _ _ _ _ _ h3⟩
     ·cases h1
  unfold awd at h
  unfold adr We
  split at h
  ·rename_i hg
   rw [hg]
   exact go h
  ·rename_i d b want hg
   rw [hg]
   simp only
   cases hb:(b == want) with
   | true=>exact go (h.1 hb)
   | false =>
    simp only [List.contains_nil,Bool.false_eq_true,if_false]
    exact ih _ _ _ _ _ _ (h.2 hb)
  ·cases h
theorem Yl {rd:Option Nat} {id:Nat} {opsA:Array Oper} {Q:Exit→Env→Za→Prop} {env:Env} {σ:Za} (hm:P.follows .mixedOrders=true) (hok:(Xo opsA.toList []&&Uab opsA.toList [] [])=true)
  (h:awd P opsA.toList opsA.toList (Q .normal) env σ):@StC _ P rd ⟨.region id opsA true⟩ ⟨Q⟩ env σ :=
 Wal [] [] hm hok (Uen _ _ _ _ _ _ _ h)
def Ou (P:Program) (f:AV) (args:List AV) (σ:Za) [K:Hd (AV→Prop)]:Prop:=∃ v,Oa P f args σ (fun v' s=>v'=v∧s=σ)∧K.v v
section
variable {ops l:List Oper} {o:Oper} {K K':Env→Za→Prop} {Kv:AV→Prop} {env env':Env} {σ σ':Za}
@[congr] theorem Yh7 (h:env=env') (h':σ=σ'):awd P ops l K env σ=awd P ops l K env' σ':=by rw [h,h']
@[congr] theorem Xh7 (h:env=env') (h':σ=σ'):Ua P o Kv env σ=Ua P o Kv env' σ':=by rw [h,h']
theorem Xal {g:FuncId} {args xs ys:List AV} {v:AV} (h:APure P g (xs++args++ys) v) (hk:Kv v):@Ou _ P (.fn (.func g) xs ys) args σ ⟨Kv⟩:=⟨v,h σ,hk⟩
theorem Zgx:awd P ops [] K env σ=K env σ:=(rfl)
def Ogd (P:Program) (ops:List Oper) (o:Oper) (rest:List Oper) (K:Env→Za→Prop) (env:Env) (σ:Za) (g:Option (Option (Option Tmp × Bool × Bool))):Prop:=match g with
 | some none=>Ua P o (fun v=>awd P ops rest K (env.put o.dst v) σ) env σ
 | some (some (_,b,want))=>Cs (b == want) (Ua P o (fun v=>awd P ops rest K (env.put o.dst v) σ) env σ) (awd P ops rest K (env.put o.dst (.tup [])) σ)
 | none=>False
@[congr] theorem Yii {g g':Option (Option (Option Tmp × Bool × Bool))} (h:g=g'):Ogd P ops o l K env σ g=Ogd P ops o l K env σ g':=by rw [h]
theorem Yhk {d:Option Tmp} {b want:Bool}:Ogd P ops o l K env σ (some (some (d,b,want)))=@CsT (b == want) ⟨Ua P o (fun v=>awd P ops l K (env.put o.dst v) σ) env σ⟩ ⟨awd P ops l K (env.put o.dst (.tup [])) σ⟩:=(rfl)
variable {dst:Option Tmp} {ty:TypeId} {pos:String} {after:Array Edge} {op:Op} {g:Option (Nat × Bool)}
theorem Yf2:awd P ops (⟨dst,op,ty,pos,after,none⟩::l) K env σ=Ua P ⟨dst,op,ty,pos,after,none⟩ (fun v=>awd P ops l K (env.put dst v) σ) env σ:=(rfl)
theorem Ygr {j:Nat} {w:Bool}:awd P ops (⟨dst,op,ty,pos,after,some (j,w)⟩::l) K env σ=Ogd P ops ⟨dst,op,ty,pos,after,some (j,w)⟩ l K env σ (Wm ops env.t (some (j,w))):=(rfl)
def A1 (P:Program) (o:Oper) (Kv:AV→Prop) (env:Env) (σ:Za):Prop:=aw1 P o (fun v s=>s=σ∧Kv v) env σ
def Ot (r:Option (AV × Za)) (σ:Za) (K:AV→Prop):Prop:=match r with
 | some (v,s)=>s=σ∧K v
 | none=>False
@[congr] theorem Xio {r r':Option (AV × Za)} {σ:Za} {K:AV→Prop} (h:r=r'):Ot r σ K=Ot r' σ K:=by rw [h]
theorem Zf9 (v:AV) (σ:Za) (K:AV→Prop):Ot (some (v,σ)) σ K=K v:=propext ⟨fun h=>h.2,fun h=>⟨rfl,h⟩⟩
@[congr] theorem Wiu {r r':Option AV} {K:AV→Prop} (h:r=r'):Ov r K=Ov r' K:=by rw [h]
theorem Ub7 (v:AV) (K:AV→Prop):Ov (some v) K=K v:=(rfl)
theorem Yfv (K:AV→Prop):Ov none K=False:=(rfl)
theorem Xr (r:Option AV) (K:AV→Prop):Om (r.map (·,σ)) (fun v s=>s=σ∧K v)=Ov r K:=by
 cases r with
 | none=>rfl
 | some v=>exact propext ⟨fun h=>h.2,fun h=>⟨rfl,h⟩⟩
theorem Yp (h:Zj o=false) (h':isLit o=false:=by rfl):Ua P o Kv env σ=aw1 P o (fun v s=>s=σ∧Kv v) env σ:=by unfold Ua;rw [h,h'];simp
theorem Wcy {x:Operand}:Ua P ⟨dst,.move x,ty,pos,after,g⟩ Kv env σ=Kv (Wa env.t x):=by
 rw [Yp rfl,Zck];exact propext ⟨fun h=>h.2,fun h=>⟨rfl,h⟩⟩
theorem Uf6 {x:Operand}:Ua P ⟨dst,.assign x,ty,pos,after,g⟩ Kv env σ=Kv (Wa env.t x):=by
 rw [Yp rfl,Vb3];exact propext ⟨fun h=>h.2,fun h=>⟨rfl,h⟩⟩
theorem Vdx {c x y:Operand}:Ua P ⟨dst,.pick c x y,ty,pos,after,g⟩ Kv env σ=Ov (Pk (Wa env.t c) (Wa env.t x) (Wa env.t y)) Kv:=by
 rw [Yp rfl,Xbu];exact Xr _ _
theorem Wgz {e:TypeId} {ps:Array (Nat × Operand)}:Ua P ⟨dst,.build e ps,ty,pos,after,g⟩ Kv env σ=Ov (Xe P e (ps.toList.map fun p=>(p.1,Wa env.t p.2))) Kv:=by
 rw [Yp rfl,Ybt];exact Xr _ _
theorem Vhi {e:TypeId} {x:Operand}:Ua P ⟨dst,.load e x,ty,pos,after,g⟩ Kv env σ=Ov (Vx P e (Wa env.t x) σ) Kv:=by
 rw [Yp rfl,Yce];exact Xr _ _
theorem Zhe {x:Operand}:Ua P ⟨dst,.nilCheck x,ty,pos,after,g⟩ Kv env σ=Ov (Zae (Wa env.t x)) Kv:=by
 rw [Yp rfl,Wcm];exact Xr _ _
theorem Whd {b:BinOp} {xt yt:TypeId} {x y:Operand}:Ua P ⟨dst,.binOp b xt x y yt,ty,pos,after,g⟩ Kv env σ=Ov (Yan P b xt y (Wa env.t x) (Wa env.t y)) Kv:=by
 rw [Yp rfl,Ybv];exact Xr _ _
theorem Vf6 {b:UnOp} {xt:TypeId} {x:Operand}:Ua P ⟨dst,.unOp b xt x,ty,pos,after,g⟩ Kv env σ=Ov (aun b (Wa env.t x)) Kv:=by
 rw [Yp rfl,Zcg];exact Xr _ _
def Cv (P:Program) (s d:TypeId) (x:AV) (σ:Za):Option AV:=match x with
 | .pl k l=>abstr P s d (.pl k l) σ
 | .arr k r off n=>abstr P s d (.arr k r off n) σ
 | .str b=>if Van P s d then none else Uad P s d (.str b)
 | y=>Uad P s d y
theorem Wgx {s d:TypeId} {x:Operand}:Ua P ⟨dst,.convert s d x,ty,pos,after,g⟩ Kv env σ=Ov (Cv P s d (Wa env.t x) σ) Kv:=by
 rw [Yp rfl,Xb0]
 generalize Wa env.t x=ax
 cases ax
 case str b =>
  simp only [Zai,Cv]
  split
  ·simp [Om,Ov]
  ·exact Xr _ _
 all_goals (simp only [Zai,Cv];exact Xr _ _)
theorem Yew {e:TypeId} {x y:Operand} {ok:Bool}:Ua P ⟨dst,.lookup e x y ok,ty,pos,after,g⟩ Kv env σ=Ov (Yag P e (Wa env.t x) (Wa env.t y) ok σ) Kv:=by
 rw [Yp rfl,Wbr];exact Xr _ _
theorem Ycx {e:TypeId} {x:Operand} {lo hi mx:Option Operand}:Ua P ⟨dst,.slice e x lo hi mx,ty,pos,after,g⟩ Kv env σ=Ov (Xv P e (Wa env.t x) (lo.map (Wa env.t)) (hi.map (Wa env.t)) (mx.map (Wa env.t)) σ) Kv:=by
 rw [Yp rfl,Xcn];exact Xr _ _
theorem Wga {e:TypeId} {x:Operand} {i:Nat}:Ua P ⟨dst,.fieldAddr e x i,ty,pos,after,g⟩ Kv env σ=Ov (Uap P e (Wa env.t x) i) Kv:=by
 rw [Yp rfl,Vbz];exact Xr _ _
theorem Wgd {e:TypeId} {x:Operand} {i:Nat}:Ua P ⟨dst,.field e x i,ty,pos,after,g⟩ Kv env σ=Ov (Vap P e (Wa env.t x) i) Kv:=by
 rw [Yp rfl,Wcd];exact Xr _ _
theorem Xdp {e:TypeId} {x i:Operand}:Ua P ⟨dst,.indexAddr e x i,ty,pos,after,g⟩ Kv env σ=Ov (Wap P e (Wa env.t x) (Wa env.t i)) Kv:=by
 rw [Yp rfl,Ubx];exact Xr _ _
theorem Yh5 {e:TypeId} {x i:Operand}:Ua P ⟨dst,.index e x i,ty,pos,after,g⟩ Kv env σ=Ov (Xap P e (Wa env.t x) (Wa env.t i)) Kv:=by
 rw [Yp rfl,Zbt];exact Xr _ _
theorem Vgz {x:Operand} {i:Nat}:Ua P ⟨dst,.extract x i,ty,pos,after,g⟩ Kv env σ=Ov (Zaq (Wa env.t x) i) Kv:=by
 rw [Yp rfl,Yb3];exact Xr _ _
theorem Zh0 {b:Builtin} {args:Array Operand} {ts:Array TypeId}:Ua P ⟨dst,.call { callee:=.builtin b,args:=args,argTypes:=ts },ty,pos,after,g⟩ Kv env σ=Ot (Wak P b ts (args.toList.map (Wa env.t)) σ) σ Kv:=by
 rw [Yp rfl,Wbf];rfl
theorem Xhi {f:Operand} {args:Array Operand} {ts:Array TypeId}:Ua P ⟨dst,.call { callee:=.value f,args:=args,argTypes:=ts },ty,pos,after,g⟩ Kv env σ=@Ou _ P (Wa env.t f) (args.toList.map (Wa env.t)) σ ⟨Kv⟩:=by
 unfold Ua
 rw [show isLit ⟨dst,.call { callee:=.value f,args:=args,argTypes:=ts },ty,pos,after,g⟩=false from rfl,show Zj ⟨dst,.call { callee:=.value f,args:=args,argTypes:=ts },ty,pos,after,g⟩=true from rfl]
 simp only [Bool.false_eq_true,if_false,if_true,Yi,Xbp]
 rfl
theorem Vcv {e:TypeId} {n:Nat} {ps:Array (Nat × Operand)}:Ua P ⟨dst,.buildSlice e n ps,ty,pos,after,g⟩ Kv env σ=Ov (Uao P e n (ps.toList.map fun p=>(p.1,Wa env.t p.2))) Kv:=by
 unfold Ua
 rw [show isLit ⟨dst,.buildSlice e n ps,ty,pos,after,g⟩=true from rfl]
 simp only [if_true]
 rfl
end
attribute [simp] Zgx Yf2 Ygr Yhk Zf9 Ub7 Yfv Wcy Uf6 Vdx Wgz Vhi Zhe Whd Vf6 Cv Wgx Yew Ycx Wga Wgd Xdp Yh5 Vgz Zh0 Xhi Vcv Uao
end Ab

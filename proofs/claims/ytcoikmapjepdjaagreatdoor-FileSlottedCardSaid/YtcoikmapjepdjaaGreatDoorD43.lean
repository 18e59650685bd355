/-
  Texts packed for a claim.
-/
import Derived.Test.YtcoikmapjepdjaaGreatDoorD00
import Derived.Test.YtcoikmapjepdjaaGreatDoorD19
import Derived.Test.YtcoikmapjepdjaaGreatDoorD20
import Derived.Test.YtcoikmapjepdjaaGreatDoorD27
import Derived.Test.YtcoikmapjepdjaaGreatDoorD32
import Derived.Test.YtcoikmapjepdjaaGreatDoorD42
set_option linter.all false
namespace Ab
open Go Go.RowKit Go.Proofs
theorem Xdb {E:List Ent} (h:EntsOk E) (q:Ent→Bool) :
  Xo [] (Zc Wc (E.filter fun e=>!q e)) (Zc Wc (E.filter q))=(Zc Wc E,[],0):=by
 have hA:=h.filter fun e=>!q e
 have hB:=h.filter q
 have rF:=Uab h (Xag h)
 have rA:=Uab hA (Xag hA)
 have rB:=Uab hB (Xag hB)
 have hn:∀ p,Oyez.getIn [] p=none:=fun _=>rfl
 have hv:∀ p i,Oyez.joinV [] (Zc Wc (E.filter fun e=>!q e)) (Zc Wc (E.filter q)) [] i p=Oyez.getIn (Zc Wc E) p∧Oyez.confAt [] (Zc Wc (E.filter fun e=>!q e)) (Zc Wc (E.filter q)) p=false:=by
  intro p i
  by_cases hp:p.kind=1∧∃ e∈E,Wh e=p.number
  ·obtain ⟨hk,e,he,hnum⟩:=hp
   have hpe:p=⟨1,Wh e⟩:=by rw [hnum,← hk]
   have gF:Oyez.getIn (Zc Wc E) p=some [Wc e]:=by rw [hpe];exact Zaw rF.sorted he
   cases hq:q e
   ·have gA:Oyez.getIn (Zc Wc (E.filter fun e=>!q e)) p=some [Wc e]:=by rw [hpe];exact Zaw rA.sorted (List.mem_filter.2 ⟨he,by simp [hq]⟩)
    have gB:Oyez.getIn (Zc Wc (E.filter q)) p=none:=Oyez.getIn_none fun hm=>by
     obtain ⟨_,e',he',hn'⟩:=recsW_place.1 hm
     have:=h.inj (List.mem_filter.1 he').1 he (by rw [hn',hnum])
     rw [this] at he'
     have:=(List.mem_filter.1 he').2
     rw [hq] at this;cases this
    unfold Oyez.joinV Oyez.confAt Oyez.clashAt
    rw [gA,gB,gF,hn]
    simp
   ·have gB:Oyez.getIn (Zc Wc (E.filter q)) p=some [Wc e]:=by rw [hpe];exact Zaw rB.sorted (List.mem_filter.2 ⟨he,hq⟩)
    have gA:Oyez.getIn (Zc Wc (E.filter fun e=>!q e)) p=none:=Oyez.getIn_none fun hm=>by
     obtain ⟨_,e',he',hn'⟩:=recsW_place.1 hm
     have:=h.inj (List.mem_filter.1 he').1 he (by rw [hn',hnum])
     rw [this] at he'
     have:=(List.mem_filter.1 he').2
     simp [hq] at this
    unfold Oyez.joinV Oyez.confAt Oyez.clashAt
    rw [gA,gB,gF,hn]
    simp
  ·have gF:Oyez.getIn (Zc Wc E) p=none:=Oyez.getIn_none fun hm=>hp (recsW_place.1 hm)
   have gA:Oyez.getIn (Zc Wc (E.filter fun e=>!q e)) p=none:=Oyez.getIn_none fun hm=>by
    obtain ⟨h1,e',he',hn'⟩:=recsW_place.1 hm
    exact hp ⟨h1,e',(List.mem_filter.1 he').1,hn'⟩
   have gB:Oyez.getIn (Zc Wc (E.filter q)) p=none:=Oyez.getIn_none fun hm=>by
    obtain ⟨h1,e',he',hn'⟩:=recsW_place.1 hm
    exact hp ⟨h1,e',(List.mem_filter.1 he').1,hn'⟩
   unfold Oyez.joinV Oyez.confAt Oyez.clashAt
   rw [gA,gB,gF,hn]
   simp
 have ho:(Oyez.join [] (Zc Wc (E.filter fun e=>!q e)) (Zc Wc (E.filter q)) []).out=Zc Wc E:=by
  rw [(Oyez.join_pl _ _ _ []).1]
  have:(fun p=>Oyez.joinV [] (Zc Wc (E.filter fun e=>!q e)) (Zc Wc (E.filter q)) [] ((Oyez.confsOf [] (Zc Wc (E.filter fun e=>!q e)) (Zc Wc (E.filter q))).idxOf p) p)=Oyez.getIn (Zc Wc E):=by funext p;exact (hv p _).1
  rw [this]
  refine Oyez.file_ext rF.sorted (Oyez.placesOf_sorted _) fun r hr=>Oyez.mem_joinPl.2 (.inr ?_)
  obtain ⟨e,he,rfl⟩:=List.mem_map.1 hr
  cases hq:q e
  ·exact .inl (recsW_place.2 ⟨rfl,e,List.mem_filter.2 ⟨he,by simp [hq]⟩,rfl⟩)
  ·exact .inr (recsW_place.2 ⟨rfl,e,List.mem_filter.2 ⟨he,hq⟩,rfl⟩)
 have hc:(Oyez.join [] (Zc Wc (E.filter fun e=>!q e)) (Zc Wc (E.filter q)) []).conf.map Oyez.Chg.place=[]:=by
  rw [(Oyez.join_pl _ _ _ []).2]
  unfold Oyez.confsOf
  rw [List.filter_eq_nil_iff]
  intro p _
  rw [(hv p 0).2]
  simp
 unfold Xo Up
 rw [Oyez.right_check rA,Oyez.right_check rB,ho,hc,show Oyez.check []=0 from rfl]
 have:=rF.len
 rw [if_neg (by simp),if_neg (by omega)]
theorem Yd9 {E:List Ent} (h:EntsOk E):∃ l,Xo [] (Zc Wc E) (Zc Wk E)=([],l,0)∧l.length=E.length:=by
 have rF:=Uab h (Xag h)
 have rW:=Uab h (Zca E)
 have hn:∀ p,Oyez.getIn [] p=none:=fun _=>rfl
 have hv:∀ p i,Oyez.joinV [] (Zc Wc E) (Zc Wk E) [] i p=none∧(Oyez.confAt [] (Zc Wc E) (Zc Wk E) p=true↔p∈(Zc Wc E).map Oyez.Rec.place):=by
  intro p i
  by_cases hp:p.kind=1∧∃ e∈E,Wh e=p.number
  ·obtain ⟨hk,e,he,hnum⟩:=hp
   have hpe:p=⟨1,Wh e⟩:=by rw [hnum,← hk]
   have gF:Oyez.getIn (Zc Wc E) p=some [Wc e]:=by rw [hpe];exact Zaw rF.sorted he
   have gW:Oyez.getIn (Zc Wk E) p=some [Wk e]:=by rw [hpe];exact Zaw rW.sorted he
   have hne:=Zd1 h e he
   have hm:p∈(Zc Wc E).map Oyez.Rec.place:=recsW_place.2 ⟨hk,e,he,hnum⟩
   unfold Oyez.joinV Oyez.confAt Oyez.clashAt
   rw [gF,gW,hn]
   simp [hne,hm,Oyez.pickJ]
  ·have gF:Oyez.getIn (Zc Wc E) p=none:=Oyez.getIn_none fun hm=>hp (recsW_place.1 hm)
   have gW:Oyez.getIn (Zc Wk E) p=none:=Oyez.getIn_none fun hm=>hp (recsW_place.1 hm)
   have hm:p∉(Zc Wc E).map Oyez.Rec.place:=fun hm=>hp (recsW_place.1 hm)
   unfold Oyez.joinV Oyez.confAt Oyez.clashAt
   rw [gF,gW,hn]
   simp [hm]
 have ho:(Oyez.join [] (Zc Wc E) (Zc Wk E) []).out=[]:=by
  rw [(Oyez.join_pl _ _ _ []).1]
  have:(fun p=>Oyez.joinV [] (Zc Wc E) (Zc Wk E) [] ((Oyez.confsOf [] (Zc Wc E) (Zc Wk E)).idxOf p) p)=fun _=>none:=by funext p;exact (hv p _).1
  rw [this]
  unfold Oyez.recAt
  simp
 have hc:(Oyez.join [] (Zc Wc E) (Zc Wk E) []).conf.map Oyez.Chg.place=Oyez.confsOf [] (Zc Wc E) (Zc Wk E):=(Oyez.join_pl _ _ _ []).2
 have hl:(Oyez.confsOf [] (Zc Wc E) (Zc Wk E)).length=E.length:=by
  have h1:=Oyez.nodup_sub_len (l:=Oyez.confsOf [] (Zc Wc E) (Zc Wk E)) (m:=(Zc Wc E).map Oyez.Rec.place) (Oyez.sorted_nodup (List.Pairwise.filter _ (Oyez.placesOf_sorted _))) fun p hp=>(hv p 0).2.1 (Oyez.mem_confs.1 hp)
  have h2:=Oyez.nodup_sub_len (l:=(Zc Wc E).map Oyez.Rec.place) (m:=Oyez.confsOf [] (Zc Wc E) (Zc Wk E)) (Oyez.sorted_nodup rF.sorted) fun p hp=>Oyez.mem_confs.2 ((hv p 0).2.2 hp)
  have h3:((Zc Wc E).map Oyez.Rec.place).length=E.length:=by simp [Zc]
  omega
 refine ⟨_,?_,hl⟩
 unfold Xo Up
 rw [Oyez.right_check rF,Oyez.right_check rW,ho,hc,show Oyez.check []=0 from rfl]
 rw [if_neg (by simp),if_neg (by simp)]
end Ab
namespace Ab
open Go Go.RowKit Go.Proofs
theorem SlF.ents {r:Rl} {S:List (List Int)} {t:Tab} {men slots:Nat} (h:SlF r S t men slots):EntsOk (Wg t men slots):=by
 have hs:=h.s6
 have hm:=h.m4
 refine ⟨(Wb6 (by omega)).1,fun e he=>?_,fun e he=>?_,?_⟩
 ·have:=entE_mem.1 he;omega
 ·obtain ⟨q1,q2,q3,q4⟩:=entE_mem.1 he
  have:=h.sh.pairs h.ok (h.inv.mem _ _ q4)
  have:=h.ok.few
  rw [q3]
  omega
 ·have q1:=Ya1 t men slots
  have q2:slots*men≤6*4:=Nat.mul_le_mul hs hm
  omega
theorem Acc.fzG {S g T:Za} {k n:Nat} {v:AV} {L L':List AV} {o:Option Nat} (h:Acc S g k v L o) (hk:0<k) (hn:n≤S.length) (hT:∀ j x,o=some j→g[j]? = some (.cells x)→T[S.length+j]? = some (.cells x)) (hl:L'.length=L.length)
  (h1:∀ (i:Nat) (x y:AV),L[i]? = some x→L'[i]? = some y→y.cells.length=k∧(∀ z∈y.cells,z.one=true)∧∀ (j:Nat) (a b:AV),x.cells[j]? = some a→y.cells[j]? = some b→Fz n T a b):Fz n T v (.pl k L'):=by
 have hv:=h.val
 cases o with
 | none =>
  obtain ⟨rfl,e⟩:=hv
  rw [e] at hl
  rw [List.eq_nil_of_length_eq_zero hl]
  exact .nils_pl k
 | some jo =>
  obtain ⟨rfl,hjo⟩:=hv
  rw [← hl]
  refine .arr k _ 0 (L.flatMap AV.cells) L' (fun i j=>((L[i]?).bind fun x=>x.cells[j]?).getD .any) (by omega) (hT jo _ rfl hjo) (fun i y hy=>?_) fun i y hy j b hb=>?_
  ·have hi:=(Qzs.1 hy).1
   have hx:L[i]? = some (L[i]'(by omega)):=Qze (by omega)
   obtain ⟨q1,q2,_⟩:=h1 i _ y hx hy
   refine ⟨q1,fun j b hb=>⟨q2 b (Qzg hb),?_⟩⟩
   have hj:=(Qzs.1 hb).1
   rw [q1] at hj
   have hc:=(h.len _ (Qzg hx)).1
   rw [flat_get L (fun x hx=>(h.len x hx).1) hk,show (0+i)*k+j=j+k*i by rw [Nat.zero_add,Nat.mul_comm,Nat.add_comm],Nat.add_mul_div_left _ _ hk,Nat.div_eq_of_lt hj,Nat.zero_add,Nat.add_mul_mod_self_left,Nat.mod_eq_of_lt hj,hx]
   simp only [Option.bind_some]
   rw [Qze (by omega)]
   rfl
  ·have hi:=(Qzs.1 hy).1
   have hx:L[i]? = some (L[i]'(by omega)):=Qze (by omega)
   obtain ⟨q1,q2,q3⟩:=h1 i _ y hx hy
   have hj:=(Qzs.1 hb).1
   have hc:=(h.len _ (Qzg hx)).1
   have ha:(L[i]'(by omega)).cells[j]? = some ((L[i]'(by omega)).cells[j]'(by omega)):=Qze (by omega)
   rw [hx]
   simp only [Option.bind_some,ha,Option.getD_some]
   exact q3 j _ b ha hb
theorem RcAcc.vw {b g T:Za} {vs:Nat→AV} {F:Nat→List (Ent × AV)} {os:Nat→Option Nat} (h:RcAcc b g vs F os) (hT:∀ (j:Nat) x,g[j]? = some (.cells x)→T[b.length+j]? = some (.cells x)) {n:Nat} (hn:n<3):Fz 0 T (vs n) (We (Zc (if n=2 then Wk else Wc) ((F n).map Prod.fst))):=by
 refine (h.acc n hn).fzG (by omega) (Nat.zero_le _) (fun j x _ e=>hT j x e) (by simp [Zc]) fun i x y hx hy=>?_
 rw [Qzp,Qzm] at hx
 obtain ⟨p,hp,rfl⟩:=hx
 have hy':y=Yg ⟨1,Wh p.1,[(if n=2 then Wk else Wc) p.1]⟩:=by
  unfold Zc at hy
  rw [Qzp,Qzp,Qzp,hp] at hy
  exact (Option.some.inj hy).symm
 subst hy'
 have hpm:=Qzg hp
 refine ⟨rfl,fun z hz=>?_,fun j a b ha hb=>?_⟩
 ·simp [Yg,AV.cells,Uc] at hz
  rcases hz with rfl | rfl | rfl<;>rfl
 ·match j,ha,hb with
  | 0,ha,hb=>simp [Wo,Yg,AV.cells] at ha hb;subst ha;subst hb;exact .int _ _
  | 1,ha,hb=>simp [Wo,Yg,AV.cells] at ha hb;subst ha;subst hb;exact .int _ _
  | 2,ha,hb =>
   simp [Wo,Yg,AV.cells] at ha hb
   subst ha;subst hb
   have hst:∀ w:List UInt8,Fz 0 T (.pl 1 [.str w]) (.pl 1 [.str w]):=fun w=>by
    refine .pl 1 _ fun i x hx j y hy=>?_
    have:=Qzg hx
    simp at this
    subst this
    have:=Qzg hy
    simp [AV.cells] at this
    subst this
    exact .str _
   by_cases h2:n=2
   ·subst h2
    obtain ⟨q,e1,_,e3⟩:=h.words p hpm
    rw [e1,if_pos rfl]
    exact Zdt (n:=0) (cs:=[.str Xy]) (Nat.zero_le _) (hT q _ e3) fun y hy=>by rw [List.mem_singleton.1 hy];exact ⟨rfl,rfl,.str _⟩
   ·rw [if_neg h2,h.lit n (by omega) p hpm]
    exact hst _
  | j+3,ha,hb=>simp [Wo,AV.cells] at ha
theorem Xgu (σ:Za):View (fun _=>false) σ σ:=⟨rfl,fun r o h hl=>⟨rfl,o,h,hl,.inl rfl⟩⟩
theorem Ubo (a b:List Oyez.Rec) (ha:Oyez.Right a) (hb:Oyez.Right b) (σ:Za):ACalls Tryz.prog 59 [.nils,We a,We b] σ fun v s=>v=.tup [We (Xo [] a b).1,Yae (Xo [] a b).2.1,.int .i64 (Xo [] a b).2.2]∧s=σ:=by
 have fa:=Zbf (Oyez.right_check ha)
 have fb:=Zbf (Oyez.right_check hb)
 have:=Vdp [] a b (fun r hr=>by simp at hr) fa.1 fb.1 ⟨by simp,by have:=fa.2.1;omega,by have:=fb.2.1;omega⟩ σ
 refine ACalls.view _ (Xgu σ) this rfl fun i x y hx hy=>?_
 match i,hx,hy with
 | 0,hx,hy=>simp at hx hy;subst hx;subst hy;exact .inr (.nils_pl 3)
 | 1,hx,hy=>simp at hx hy;subst hx;subst hy;exact .inl rfl
 | 2,hx,hy=>simp at hx hy;subst hx;subst hy;exact .inl rfl
 | i+3,hx,hy=>simp at hx
end Ab

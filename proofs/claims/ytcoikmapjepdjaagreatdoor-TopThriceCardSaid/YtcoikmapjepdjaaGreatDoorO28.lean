/-
  Texts packed for a claim.
-/
import Derived.Test.YtcoikmapjepdjaaGreatDoorO00
import Derived.Test.YtcoikmapjepdjaaGreatDoorO11
import Derived.Test.YtcoikmapjepdjaaGreatDoorO24
import Derived.Test.YtcoikmapjepdjaaGreatDoorO21
import Derived.Test.YtcoikmapjepdjaaGreatDoorO25
import Derived.Test.YtcoikmapjepdjaaGreatDoorO27
set_option linter.all false
namespace Ab
open Go Go.RowKit Go.Proofs
abbrev Ends:=List (List Bool × List Int)
def Uu (l:Ends) (k:Nat):Nat:=(l.filter fun e=>e.1[k]?.getD false).length
theorem Zf1 (l:Ends) (e:List Bool × List Int) (k:Nat):Uu (l++[e]) k=Uu l k+if e.1[k]?.getD false then 1 else 0:=by
 unfold Uu
 rw [List.filter_append]
 by_cases h:e.1[k]?.getD false=true<;>simp [h]
theorem Zfv (l:Ends) (k:Nat):Uu l k≤l.length:=List.length_filter_le _ _
def Xq (l:Ends) (h n:Nat):Int:=if Uu l (h*4+n)=l.length then 1 else if Uu l (h*4+n)=0 then 2 else 0
def Yav (l:Ends) (hs ns:Nat):List (List Int):=(List.range hs).map fun h=>(List.range ns).map fun n=>Xq l h n
def cmpL:List Int→List Int→Int
 | [],[]=>0
 | [],_::_=>-1
 | _::_,[]=>1
 | x::a,y::b=>if Vt x y=0 then cmpL a b else Vt x y
def Vgj (own best:List Int):Bool:=decide (own.length<best.length)||decide (own.length=best.length)&&decide (cmpL own best<0)
def Yef (cs:List Cm) (l:Ends) (best:List Int):List Int:=l.foldl (fun best x=>if Vgj (Zby cs x.1 cs.length) best then Zby cs x.1 cs.length else best) best
def Yiv (cs:List Cm):Ends→List Int
 | []=>[]
 | e::l=>Yef cs l (Zby cs e.1 cs.length)
theorem Ucg:∀ (w:Nat),w<8→∀ (d:Int),(d=-1∨d=0∨d=1)→Uq ((w+d) % 8) w=true∧Uq w ((w+d) % 8)=true:=by
 intro w hw d hd
 have:w=0∨w=1∨w=2∨w=3∨w=4∨w=5∨w=6∨w=7:=by omega
 rcases this with rfl | rfl | rfl | rfl | rfl | rfl | rfl | rfl<;>rcases hd with rfl | rfl | rfl<;>decide
theorem Xgp (l:List At) (x:At):Yp (l++[x])=if (Yp l).any fun e=>e.1 == x.got then Yp l else Yp l++[(x.got,x.course)]:=by
 unfold Yp
 rw [List.foldl_append]
 rfl
theorem Xbq {l:List At}:∀ e∈Yp l,∃ x∈l,e=(x.got,x.course):=by
 have key:∀ (l:List At) (out:List (List Bool × List Int)),∀ e∈l.foldl (fun out x=>if out.any fun e=>e.1 == x.got then out else out++[(x.got,x.course)]) out,e∈out∨∃ x∈l,e=(x.got,x.course):=by
  intro l
  induction l with
  | nil=>intro out e he;exact .inl he
  | cons x l ih =>
   intro out e he
   rcases ih _ e he with h | ⟨y,hy,rfl⟩
   ·dsimp only at h
    split at h
    ·exact .inl h
    ·rcases List.mem_append.1 h with h | h
     ·exact .inl h
     ·exact .inr ⟨x,by simp,List.mem_singleton.1 h⟩
   ·exact .inr ⟨y,by simp [hy],rfl⟩
 intro e he
 rcases key l [] e he with h | h
 ·simp at h
 ·exact h
theorem Wca (l:List At):(Yp l).length≤l.length:=by
 have key:∀ (l:List At) (out:List (List Bool × List Int)),(l.foldl (fun out x=>if out.any fun e=>e.1 == x.got then out else out++[(x.got,x.course)]) out).length≤out.length+l.length:=by
  intro l
  induction l with
  | nil=>intro out;simp
  | cons x l ih =>
   intro out
   have h1:=ih (if out.any fun e=>e.1 == x.got then out else out++[(x.got,x.course)])
   have h2:(if out.any fun e=>e.1 == x.got then out else out++[(x.got,x.course)]).length≤out.length+1:=by split<;>simp
   simp only [List.foldl_cons,List.length_cons]
   omega
 have:=key l []
 unfold Yp
 simpa using this
end Ab
namespace Ab
open Go Go.RowKit Go.Proofs
theorem AccN.loose {n:Nat} {v:AV} {next:List At} {g:Za} {L:List AV} {o:Option Nat} (h:AccN n v next g L o) {j:Nat} (X:AObj) {y:AObj} (hy:g[j]? = some y) (hj:∀ cs,y≠.cells cs):AccN n v next (g.set j X) L o :=
 ⟨fun σ hs=>by
  have ha:=h.acc σ hs
  refine ⟨ha.len,?_⟩
  have hv:=ha.val
  cases o with
  | none=>exact hv
  | some jo =>
   obtain ⟨h1,h2⟩:=hv
   refine ⟨h1,?_⟩
   have hne:j≠jo:=fun e=>by subst e;exact hj _ (Option.some.inj (hy.symm.trans h2))
   rw [List.getElem?_set_ne hne]
   exact h2,h.len,fun i a ha=>by
  obtain ⟨h1,k,h2,h3,h4⟩:=h.el i a ha
  refine ⟨h1,k,h2,h3,?_⟩
  have hne:j≠k:=fun e=>by subst e;exact hj _ (Option.some.inj (hy.symm.trans h4))
  rw [List.getElem?_set_ne hne]
  exact h4⟩
theorem Keeps.turn {g:Za} {o:Option Nat} {K:List (Nat × AObj)} {j:Nat} {y:AObj} (h:Keeps g o ((j,y)::K)) (X:AObj) (hK:∀ p∈K,p.1≠j):Keeps (g.set j X) o ((j,X)::K):=fun p hp=>by
 rcases List.mem_cons.1 hp with rfl | hp
 ·obtain ⟨h1,h2⟩:=h _ (List.mem_cons_self ..)
  have hl:=(Qzs.1 h2).1
  exact ⟨h1,by simp at hl;simp [hl]⟩
 ·obtain ⟨h1,h2⟩:=h p (List.mem_cons_of_mem _ hp)
  exact ⟨h1,by rw [List.getElem?_set_ne (fun e=>hK p hp e.symm)];exact h2⟩
theorem Keeps.sub {g:Za} {o:Option Nat} {K K':List (Nat × AObj)} (h:Keeps g o K) (hs:∀ p∈K',p∈K):Keeps g o K':=fun p hp=>h p (hs p hp)
theorem Zal (W:Za) (b:Bk) (n q h:Nat) (v:AV) (next:List At) (g:Za) (j:Nat):(W++(Zf b n q h v next++g))[W.length+(6+j)]? = g[j]?:=by
 rw [Qzr (by omega),Qzr (by simp [Zf])]
 congr 1
 simp [Zf]
theorem Zbx (W:Za) (b:Bk) (n q h:Nat) (v:AV) (next:List At) (g:Za) (j:Nat) (X:AObj):(W++(Zf b n q h v next++g)).set (W.length+(6+j)) X=W++(Zf b n q h v next++g.set j X):=by
 rw [List.set_append_right _ _ (by omega),List.set_append_right _ _ (by simp [Zf])]
 congr 3
 simp [Zf]
theorem AccN.o_lt {n:Nat} {v:AV} {next:List At} {g:Za} {L:List AV} {o:Option Nat} (h:AccN n v next g L o):∀ j,g.length≤j→some j≠o:=fun j hj e=>by
 have ha:=(h.acc (List.replicate n .dead) (by simp)).val
 subst e
 have:=(Qzs.1 ha.2).1
 omega
theorem Keeps.new {g:Za} {o:Option Nat} {K:List (Nat × AObj)} (h:Keeps g o K) (ho:∀ j,g.length≤j→some j≠o) (y:Za) (K':List (Nat × AObj)) (hK:∀ p∈K',∃ i,p.1=g.length+i∧y[i]? = some p.2):Keeps (g++y) o (K'++K):=fun p hp=>by
 rcases List.mem_append.1 hp with hp | hp
 ·obtain ⟨i,h1,h2⟩:=hK p hp
  exact ⟨ho _ (by omega),by rw [h1,Qzr (by omega),Nat.add_sub_cancel_left];exact h2⟩
 ·exact h.more y p hp
def Wj (x:At):AV:=.agg (.int .i64 x.wind::x.got.map AV.bool++[.pl 1 (Zh x.course)])
def Yq (w k:Nat):List Nat:=(List.range k).filter fun v=>Uq v w
theorem Ucd (w k:Nat):Yq w (k+1)=if Uq k w then Yq w k++[k] else Yq w k:=by
 unfold Yq
 rw [List.range_succ,List.filter_append]
 by_cases h:Uq (k:Int) (w:Int)=true<;>simp [h]
theorem Wck (x:At):(Wj x).cells=.int .i64 x.wind::x.got.map AV.bool++[.pl 1 (Zh x.course)]:=rfl
theorem AccN.vw {W:Za} {b:Bk} {q h:Nat} {v:AV} {next:List At} {g:Za} {L:List AV} {o:Option Nat} (hA:AccN (W.length+6) v next g L o) (hg:∀ a∈next,a.got.length=24) {n:Nat} (hn:n≤W.length) :
  Vw (Ux n (W++(Zf b W.length q h v next++g))) (W++(Zf b W.length q h v next++g)) v (.pl 26 (next.map Wj)):=by
 have ha:=hA.acc (List.replicate (W.length+6) .dead) (by simp)
 have hv:=ha.val
 have hlen:=hA.len
 have at_:=Zal W b W.length q h v next g
 cases o with
 | none =>
  obtain ⟨rfl,rfl⟩:=hv
  obtain rfl:next=[]:=List.eq_nil_of_length_eq_zero (by simpa using hlen.symm)
  exact .inr (.nils_pl 26)
 | some jo =>
  obtain ⟨e,hjo⟩:=hv
  have e2:v=.arr 26 (W.length+(6+jo)) 0 (next.map Wj).length:=by rw [e];simp [hlen];omega
  generalize hT:W++(Zf b W.length q h v next++g)=T at at_ ⊢
  rw [e2]
  have hjoT:T[W.length+(6+jo)]? = some (.cells (L.flatMap AV.cells)):=by rw [at_ jo];exact hjo
  refine .inr (.arr 26 _ 0 (L.flatMap AV.cells) (next.map Wj) (fun i j=>((L[i]?.getD .any).cells[j]?).getD .any) (Nat.zero_le _) (Ub8 hjoT (by omega)) (fun i x hx=>?_) fun i x hx j y hy=>?_)
  ·rw [Qzp,Qzm] at hx
   obtain ⟨a,ha',rfl⟩:=hx
   have hal:=hg a (Qzg ha')
   obtain ⟨hc,k,hk,hLi,hgk⟩:=hA.el i a ha'
   rw [Wck]
   refine ⟨by simp [hal],fun j y hy=>⟨?_,?_⟩⟩
   ·have hm:=Qzg hy
    rcases List.mem_append.1 hm with hm | hm
    ·rcases List.mem_cons.1 hm with rfl | hm
     ·rfl
     ·obtain ⟨z,_,rfl⟩:=List.mem_map.1 hm;rfl
    ·rw [List.mem_singleton.1 hm];rfl
   ·have hjl:=(Qzs.1 hy).1
    have hj:j<26:=by simp [hal] at hjl;omega
    rw [flat_get L (fun x hx=>(ha.len x hx).1) (by omega),show (0+i)*26+j=26*i+j by omega,show (26*i+j) / 26=i by omega,show (26*i+j) % 26=j by omega,hLi]
    simp only [Option.bind_some,Option.getD_some]
    have hl2:(AV.agg (.int .i64 a.wind::a.got.map AV.bool++[.arr 1 (W.length+6+k) 0 a.course.length])).cells.length=26:=by simp [AV.cells,hal]
    rw [Qze (by omega)]
    rfl
  ·rw [Qzp,Qzm] at hx
   obtain ⟨a,ha',rfl⟩:=hx
   have hal:=hg a (Qzg ha')
   obtain ⟨hc,k,hk,hLi,hgk⟩:=hA.el i a ha'
   rw [Wck] at hy
   have hjl:=(Qzs.1 hy).1
   have hj:j<26:=by simp [hal] at hjl;omega
   simp only [hLi,Option.getD_some]
   have ec:(AV.agg (.int .i64 a.wind::a.got.map AV.bool++[.arr 1 (W.length+6+k) 0 a.course.length])).cells=(.int .i64 a.wind::a.got.map AV.bool)++[.arr 1 (W.length+6+k) 0 a.course.length]:=rfl
   rw [ec]
   have hl3:(AV.int .i64 a.wind::a.got.map AV.bool).length=25:=by simp [hal]
   rcases Qzn j 25 with hj2 | hj2
   ·rw [Qzl (by omega)] at hy ⊢
    rw [hy]
    simp only [Option.getD_some]
    rcases List.mem_cons.1 (Qzg hy) with rfl | hm
    ·exact .int _ _
    ·obtain ⟨z,_,rfl⟩:=List.mem_map.1 hm;exact .bool _
   ·rw [Qzr (by omega),hl3,show j - 25=0 by omega] at hy ⊢
    simp at hy
    subst hy
    simp only [List.getElem?_cons_zero,Option.getD_some]
    have hgT:T[W.length+(6+k)]? = some (.cells (Zh a.course)):=by rw [at_ k];exact hgk
    rw [show W.length+6+k=W.length+(6+k) by omega,show a.course.length=(Zh a.course).length by simp [Zh]]
    refine .arr 1 _ 0 (Zh a.course) (Zh a.course) (fun i j=>((Zh a.course)[i]?).getD .any) (Nat.zero_le _) (Ub8 hgT (by omega)) (fun i x hx=>?_) fun i x hx j y hy=>?_
    ·have hm:=Qzg hx
     obtain ⟨z,_,rfl⟩:=List.mem_map.1 hm
     refine ⟨rfl,fun j y hy=>?_⟩
     cases j with
     | zero =>
      simp [AV.cells] at hy
      subst hy
      exact ⟨rfl,by rw [show (0+i)*1+0=i by omega,hx];rfl⟩
     | succ j=>simp [AV.cells] at hy
    ·have hm:=Qzg hx
     obtain ⟨z,_,rfl⟩:=List.mem_map.1 hm
     cases j with
     | zero =>
      simp [AV.cells] at hy
      subst hy
      rw [hx]
      exact .int _ _
     | succ j=>simp [AV.cells] at hy
end Ab
namespace Ab
open Go Go.RowKit Go.Proofs
def Wh (e:List Bool × List Int):AV:=.agg (e.1.map AV.bool++[.pl 1 (Zh e.2)])
attribute [local irreducible] aws awp aw1 Og Om Oc Oa Ogd Ov Ot awd Zb awh Wb Ogh Ohd awl Ogl Ohl awv Ogv Ohv Xb Vb QFn Ub QRo QBe ACode AYield
theorem Udy (e:List Bool × List Int) (he:e.1.length=24) (x:At) (hx:x.got.length=24) (c:Nat) (σ:Za) (hc:σ[c]? = some (.cells (Wj x).cells)) :
  ACalls Tryz.prog 276 [Wh e,.ptr c 0] σ fun v s=>v=.bool (e.1 == x.got)∧s=σ:=by
 refine ACalls.forget ?_
 refine Yb Tryz.func276 rfl (Ua Tryz.func276 (by decide) rfl) ?_
 have hcl:c<σ.length:=(Qzs.1 hc).1
 have hc':∀ g:Za,(σ++g)[c]? = some (.cells (.int .i64 x.wind::(x.got.map AV.bool++[.pl 1 (Zh x.course)]))):=fun g=>by rw [Qzl hcl];exact hc
 have ht:List.take 24 (e.1.map AV.bool++[.pl 1 (Zh e.2)])=e.1.map AV.bool:=by rw [List.take_append_of_le_length (by simp;omega),List.take_of_length_le (by simp;omega)]
 have htx:List.take 24 (x.got.map AV.bool++[.pl 1 (Zh x.course)])=x.got.map AV.bool:=by rw [List.take_append_of_le_length (by simp;omega),List.take_of_length_le (by simp;omega)]
 have hq:=Ycp e.1 x.got (by omega)
 rw [he] at hq
 simp [Tryz.ntmps276,Wh,he,hx,hc',ht,htx]
 rw [show [2,2,2,2,2,2,2,2,2,2,2,2,2,2,2,2,2,2,2,2,2,2,2,2]=List.replicate 24 2 from rfl,hq]
 simp
theorem Ya2 {e:List Bool × List Int} (he:e.1.length=24):(Wh e).cells.length=25:=by simp [Wh,AV.cells,he]
theorem Xbx (e:List Bool × List Int):∀ y∈(Wh e).cells,y.one=true:=by
 intro y hy
 rcases List.mem_append.1 hy with hy | hy
 ·obtain ⟨z,_,rfl⟩:=List.mem_map.1 hy;rfl
 ·rw [List.mem_singleton.1 hy];rfl
theorem Wg8 {out:Ends} (ho:∀ e∈out,e.1.length=24) {i:Nat} (hi:i<out.length):List.take 25 (List.drop (i*25) ((out.map Wh).flatMap AV.cells))=(Wh out[i]).cells:=by
 have hl:∀ x∈out.map Wh,x.cells.length=25:=fun x hx=>by obtain ⟨e,he,rfl⟩:=List.mem_map.1 hx;exact Ya2 (ho e he)
 apply List.ext_getElem?
 intro j
 rcases Qzn j 25 with hj | hj
 ·rw [List.getElem?_take_of_lt hj,List.getElem?_drop,flat_get _ hl (by omega),show (i*25+j) / 25=i by omega,show (i*25+j) % 25=j by omega]
  simp [hi]
 ·rw [List.getElem?_eq_none (by simp;omega),List.getElem?_eq_none (by rw [Ya2 (ho _ (List.getElem_mem hi))];exact hj)]
set_option maxHeartbeats 1000000 in
theorem Wg7 (out:Ends) (ho:∀ e∈out,e.1.length=24) (hol:out.length≤2^30) (x:At) (hx:x.got.length=24) (c r:Nat) (σ:Za) (hc:σ[c]? = some (.cells (Wj x).cells)) (hr:σ[r]? = some (.cells ((out.map Wh).flatMap AV.cells))) :
  ACalls Tryz.prog 327 [.arr 25 r 0 out.length,.fn (.func 276) [] [.ptr c 0]] σ fun v s=>v=.int .i64 (Vv out fun e=>e.1 == x.got)∧s=σ:=by
 refine Yb Tryz.func327 rfl (Ua Tryz.func327 (by decide) rfl) ?_
 simp [Tryz.ntmps327]
 refine Xc (fun env σ'=>∃ (u:List AV) (i:Nat),env={ t:=u }∧u.length=19∧tg u 0=.arr 25 r 0 out.length∧tg u 1=.fn (.func 276) [] [.ptr c 0]∧tg u 7=.int .i64 out.length∧tg u 8=.int .i64 i∧σ'=σ∧i≤out.length∧∀ x'∈out.take i,(x'.1 == x.got)=false)
  (fun env _=>match tg env.t 8 with | .int _ i=>out.length - i.toNat | _=>0) ⟨_,0,rfl,by simp,by simp,by simp,by simp,by simp,rfl,by omega,fun x hx=>by simp at hx⟩ ?_
 rintro env σ' ⟨u,i,rfl,hl0,g0,g1,g7,g8,rfl,hi,hd⟩
 rcases Qzn i out.length with hlt | hge
 ·have hlt':(i:Int)<(out.length:Int):=by omega
  have hw1:=w64 (n:=(i:Int)+1) (by omega) (by omega)
  have hat:=Wg8 ho hlt
  have hlen:=Ya2 (ho _ (List.getElem_mem hlt))
  have hone:=Xbx out[i]
  have hfl:((out.map Wh).flatMap AV.cells).length=out.length*25:=(Xa0 (k:=25) (out.map Wh) fun x hx=>by obtain ⟨e,he,rfl⟩:=List.mem_map.1 hx;exact Ya2 (ho e he)).trans (by simp)
  obtain ⟨Z,hZ⟩:∃ Z,(out.map Wh).flatMap AV.cells=Z:=⟨_,rfl⟩
  rw [hZ] at hat hr hfl
  have hle:i*25+25≤Z.length:=by omega
  simp [hl0,g0,g1,g7,g8,hlt',hlt,hr,hat,hle]
  refine StA.of ((Udy out[i] (ho _ (List.getElem_mem hlt)) x hx c σ' hc).mono ?_)
  rintro v σ'' ⟨rfl,rfl⟩
  cases hxe:out[i].1 == x.got with
  | false =>
   simp [hl0,g0,g1,g7,g8,hw1]
   exact ⟨⟨i+1,by simp,hlt,fun a b' hm=>by simpa using Xaz (p:=fun e:List Bool × List Int=>e.1 == x.got) hlt hd hxe (a,b') hm⟩,by omega⟩
  | true =>
   simp [hl0,g0,g1,g7,g8,War (p:=fun e:List Bool × List Int=>e.1 == x.got) hlt hd hxe]
 ·have hge':¬ (i:Int)<(out.length:Int):=by omega
  rw [List.take_of_length_le hge] at hd
  simp [hl0,g0,g1,g7,g8,hge',Uav hd]
theorem Xhr (out:Ends) (ho:∀ e∈out,e.1.length=24) (hol:out.length≤2^30) (x:At) (hx:x.got.length=24) (c:Nat) (v:AV) (σ:Za) (hc:σ[c]? = some (.cells (Wj x).cells)) (hv:(v=.nils∧out=[])∨∃ r,v=.arr 25 r 0 out.length∧σ[r]? = some (.cells ((out.map Wh).flatMap AV.cells))) :
  ACalls Tryz.prog 275 [v,.fn (.func 276) [] [.ptr c 0]] σ fun v s=>v=.bool (out.any fun e=>e.1 == x.got)∧s=σ:=by
 rcases hv with ⟨rfl,rfl⟩ | ⟨r,rfl,hr⟩
 ·refine Yb Tryz.func275 rfl (Ua Tryz.func275 (by decide) rfl) ?_
  simp [Tryz.ntmps275]
  have hn:ACalls Tryz.prog 327 [.nils,.fn (.func 276) [] [.ptr c 0]] σ fun v s=>v=.int .i64 (-1)∧s=σ:=by
   refine Yb Tryz.func327 rfl (Ua Tryz.func327 (by decide) rfl) ?_
   simp [Tryz.ntmps327]
   refine Xc (fun env σ'=>∃ (u:List AV),env={ t:=u }∧u.length=19∧tg u 7=.int .i64 0∧tg u 8=.int .i64 0∧σ'=σ) (fun _ _=>0) ⟨_,rfl,by simp,by simp,by simp,rfl⟩ ?_
   rintro env σ' ⟨u,rfl,hl0,g7,g8,rfl⟩
   simp [hl0,g7,g8]
  refine StA.of (hn.mono ?_)
  rintro v s ⟨rfl,rfl⟩
  simp
 ·refine Yb Tryz.func275 rfl (Ua Tryz.func275 (by decide) rfl) ?_
  simp [Tryz.ntmps275]
  refine StA.of ((Wg7 out ho hol x hx c r σ hc hr).mono ?_)
  rintro v s ⟨rfl,rfl⟩
  simp [Zav]
end Ab
namespace Ab
open Go Go.RowKit Go.Proofs
def MdP (n:Nat) (o:Option Nat) (r:Nat):Bool:=decide (n≤r)&&decide (o≠some (r - n))
theorem Xae {L:List AV} (h:∀ y∈L,y.cells=[y]):L.flatMap AV.cells=L:=by
 induction L with
 | nil=>rfl
 | cons x L ih=>rw [List.flatMap_cons,ih fun y hy=>h y (by simp [hy]),h x (by simp)];rfl
theorem View.acc {S g:Za} {v:AV} {L L':List AV} {o:Option Nat} (hA:Acc S g 1 v L o) (hl:L'.length=L.length) (h0:∀ y∈L,y.cells=[y]) (h1:∀ y∈L',y.one=true∧y.cells=[y])
  (hz:∀ (i:Nat) (x y:AV),L[i]? = some x→L'[i]? = some y→Vw (MdP S.length o) (S++g) x y):∃ g',g'.length=g.length∧View (MdP S.length o) (S++g) (S++g')∧Acc S g' 1 v L' o:=by
 refine ⟨g.mapIdx fun j _=>if o=some j then .cells L' else .dead,by simp,⟨by simp,fun r o' ho hlv=>?_⟩,⟨fun x hx=>⟨by rw [(h1 x hx).2];rfl,fun y hy=>by rw [(h1 x hx).2,List.mem_singleton] at hy;rw [hy];exact (h1 x hx).1⟩,?_⟩⟩
 ·rcases Qzn r S.length with h | h
  ·rw [Qzl h] at ho
   exact ⟨by unfold MdP;simp;omega,o',by rw [Qzl h];exact ho,hlv,.inl rfl⟩
  ·rw [Qzr h,List.getElem?_mapIdx,Qzm] at ho
   obtain ⟨x,hx,rfl⟩:=ho
   split at hlv
   ·rename_i e
    subst e
    have hv:=hA.val
    rw [Xae h0] at hv
    refine ⟨by unfold MdP;simp,.cells L,by rw [Qzr h];exact hv.2,rfl,.inr ⟨L,L',rfl,by rw [if_pos rfl],hl,hz⟩⟩
   ·cases hlv
 ·have hv:=hA.val
  cases o with
  | none=>exact ⟨hv.1,List.eq_nil_of_length_eq_zero (by rw [hl,hv.2];rfl)⟩
  | some j =>
   refine ⟨by rw [hv.1,hl],?_⟩
   have hj:=(Qzs.1 hv.2).1
   rw [List.getElem?_mapIdx,Qze hj,Xae fun y hy=>(h1 y hy).2]
   simp
def zBk:AObj:=.cells [.int .i64 0,.int .i64 0,.nils,.nils,.nils]
def Xcb (hs:Nat) (w:List Int):Prop:=w.Nodup∧(∀ y∈w,0≤y∧y<(hs:Int))∧w.length≤hs
def Md1 (l:List UInt8) (d:Nat) (σ:Za) (hs ns n:Nat) (env:Env) (σ':Za):Prop:=∃ (u:List AV) (i:Nat) (v:AV) (L:List AV) (H:List (List (List Int))) (g:Za) (o:Option Nat) (a:Nat) (c:Int),env={ t:=u }∧u.length=112∧tg u 0=.ptr d 0∧tg u 4=.int .i64 5∧tg u 10=.ptr σ.length 0∧tg u 12=.ptr (σ.length+1) 0∧tg u 27=.int .i64 n∧tg u 28=.int .i64 i∧i≤n ∧
 σ'=(σ.set d (Yd l a c)++[zBk])++(.cells [.int .i64 hs,.int .i64 ns,v,.nils,.nils]::g)∧a≤l.length∧Acc (σ++[zBk,zBk]) g 1 v L o∧H.length=i∧L.length=i∧(∀ y∈L,y.cells=[y])∧(∀ x∈H,x.length=8∧∀ w∈x,Xcb hs w) ∧
 ∀ (j:Nat) (x y:AV),L[j]? = some x→(H.map Wcq)[j]? = some y→Vw (MdP (σ.length+2) o) σ' x y
def Md2 (l:List UInt8) (d:Nat) (σ:Za) (hs ns n i:Nat) (v:AV) (gH:Za) (env:Env) (σ':Za):Prop:=∃ (u:List AV) (k:Nat) (w:AV) (W:List (List Int)) (g:Za) (o:Option Nat) (a:Nat) (c:Int),env={ t:=u }∧u.length=112∧tg u 0=.ptr d 0∧tg u 4=.int .i64 5∧tg u 10=.ptr σ.length 0∧tg u 12=.ptr (σ.length+1) 0∧tg u 27=.int .i64 n∧tg u 28=.int .i64 i∧tg u 13=w∧tg u 30=.int .i64 k∧k≤8 ∧
 σ'=(σ.set d (Yd l a c)++[zBk])++(.cells [.int .i64 hs,.int .i64 ns,v,.nils,.nils]::(gH++g))∧a≤l.length∧Acc (σ++[zBk,zBk]++gH) g 1 w (W.map Wce) o∧W.length=k∧∀ w∈W,Xcb hs w
structure Rd (reals:List Nat) (reads:List Int) (w:Int):Prop where
 len:reals.length=reads.length
 lt:∀ (h x:Nat),reals[h]? = some x→x<8∧∃ y,reads[h]? = some y∧(y=-1∨(0≤y∧y≤7)∧Uq x y=true)
 near:∀ (h x y:Nat),reals[h]? = some x→reals[h+1]? = some y→Uq y x=true
 last:∀ x:Nat,reals.getLast? = some x→(x:Int)=w
 w:0≤w∧w≤7
theorem Rd.nil {w:Int} (hw:0≤w∧w≤7):Rd [] [] w:=⟨rfl,fun h x e=>by simp at e,fun h x y e=>by simp at e,fun x e=>by simp at e,hw⟩
theorem Rd.snoc {reals:List Nat} {reads:List Int} {w:Int} (h:Rd reals reads w) {d:Int} (hd:d=-1∨d=0∨d=1) {e:Int} (he:e=-1∨e=0∨e=1) (b:Bool) :
  Rd (reals++[((w+d) % 8).toNat]) (reads++[if b then -1 else ((w+d) % 8+e) % 8]) ((w+d) % 8):=by
 have hm:0≤(w+d) % 8∧(w+d) % 8≤7:=by omega
 have hn:((((w+d) % 8).toNat:Nat):Int)=(w+d) % 8:=by omega
 obtain ⟨W,hW⟩:∃ W:Nat,w=W:=⟨w.toNat,by have:=h.w;omega⟩
 have hw8:W<8:=by have:=h.w;omega
 refine ⟨by simp [h.len],fun i x hx=>?_,fun i x y hx hy=>?_,fun x hx=>?_,hm⟩
 ·rcases Qzn i reals.length with h1 | h1
  ·rw [Qzl h1] at hx
   rw [Qzl (by rw [← h.len];exact h1)]
   exact h.lt i x hx
  ·have h2:=(Qzs.1 hx).1
   simp at h2
   obtain rfl:i=reals.length:=by omega
   rw [Qzr (Nat.le_refl _)] at hx
   simp at hx
   rw [Qzr (by rw [h.len];exact Nat.le_refl _),h.len]
   refine ⟨by omega,_,by simp;rfl,?_⟩
   cases b with
   | true=>exact .inl rfl
   | false =>
    have:=(Ucg x (by omega) e he).2
    rw [← hx,hn] at this
    rw [← hx,hn]
    exact .inr ⟨by simp;omega,by simpa using this⟩
 ·rcases Qzn (i+1) reals.length with h1 | h1
  ·rw [Qzl (by omega)] at hx
   rw [Qzl h1] at hy
   exact h.near i x y hx hy
  ·have h2:=(Qzs.1 hy).1
   simp at h2
   have e2:reals.length=i+1:=by omega
   rw [Qzr h1] at hy
   simp [e2] at hy
   rw [Qzl (by omega)] at hx
   have hl:=h.last x (by rw [List.getLast?_eq_getElem?,e2];exact hx)
   have:=(Ucg W hw8 d hd).1
   rw [← hy,hn,hl,hW]
   exact this
 ·simp at hx
  rw [← hx];exact hn
def Md3 (l:List UInt8) (d:Nat) (σ:Za) (hs ns n:Nat) (HE:AV) (env:Env) (σ':Za):Prop:=∃ (u:List AV) (i:Nat) (w:Int) (v1 v2:AV) (reals:List Nat) (reads:List Int) (g:Za) (o1 o2:Option Nat) (a:Nat) (c:Int),env={ t:=u }∧u.length=112∧tg u 0=.ptr d 0∧tg u 10=.ptr σ.length 0∧tg u 12=.ptr (σ.length+1) 0∧tg u 15=.int .i64 w∧tg u 16=v1∧tg u 57=.int .i64 n∧tg u 58=.int .i64 i∧i≤n ∧
 σ'=(σ.set d (Yd l a c)++[zBk])++(.cells [.int .i64 hs,.int .i64 ns,HE,v2,.nils]::g)∧a≤l.length∧Acc (σ++[zBk,zBk]) g 1 v1 (Ya (reals.map fun (x:Nat)=>(x:Int))) o1∧Acc (σ++[zBk,zBk]) g 1 v2 (Ya reads) o2∧(∀ j,o1=some j→o2≠some j)∧reals.length=i∧Rd reals reads w
def Uee (hs ns nh st:Nat) (c:Cr):Prop:=(0≤c.hour∧c.hour<(nh:Int))∧(0≤c.stand∧c.stand<(st:Int))∧0≤c.notice∧c.notice<(ns:Int)
def Md5 (l:List UInt8) (d:Nat) (σ:Za) (hs ns:Nat) (H:List (List (List Int))) (reals:List Nat) (reads:List Int) (n:Nat) (env:Env) (σ':Za):Prop:=∃ (u:List AV) (i:Nat) (v:AV) (cs:List Cr) (g:Za) (o:Option Nat) (a:Nat) (c:Int),env={ t:=u }∧u.length=112∧tg u 0=.ptr d 0∧tg u 10=.ptr σ.length 0∧tg u 12=.ptr (σ.length+1) 0∧tg u 16=.pl 1 (Ya (reals.map fun (x:Nat)=>(x:Int)))∧tg u 84=.int .i64 n∧tg u 85=.int .i64 i∧i≤n ∧
 σ'=(σ.set d (Yd l a c)++[zBk])++(.cells [.int .i64 hs,.int .i64 ns,.pl 1 (H.map Wcq),.pl 1 (Ya reads),v]::g)∧a≤l.length∧Acc (σ++[zBk,zBk]) g 3 v (cs.map Zdj) o∧cs.length=i∧∀ x∈cs,Uee hs ns reads.length H.length x
theorem Ze5 {n:Nat} {a b:Code}:(Vd (n+1) (.seq a b)).2=(Vd n b).2:=rfl
theorem Xfl {c:Code}:(Vd 0 c).2=c:=by cases c<;>rfl
section
variable {P:Program}
theorem Wc0 {f:FuncId} {fn:Func} {c:Code} {args:List AV} {σ:Za} {R:AV→Za→Prop} (n:Nat) (I:Env→Za→Prop) (hf:P.funcs[f]? = some fn) (hb:fn.body=some c) (hen:Enters P f)
  (h1:awp P none (Vd n c).1 (Xb I (QFn P fn R)) { t:=te args fn.ntmps } σ) (h2:∀ (env:Env) (σ:Za),I env σ→ACode P none (Vd n c).2 (QFn P fn R) env σ):ACalls P f args σ R :=
 Yau hf hb hen (Was I h2 h1)
end
theorem Acc.kept {S g g':Za} {k:Nat} {v:AV} {L:List AV} {o o2:Option Nat} (h:Acc S g k v L o2) (hk:∀ j,some j≠o→j<g.length→g'[j]? = g[j]?) (ho:∀ j,o=some j→o2≠some j):Acc S g' k v L o2:=⟨h.len,by
 have hv:=h.val
 cases o2 with
 | none=>exact hv
 | some j =>
  refine ⟨hv.1,?_⟩
  have h2:=hv.2
  rw [hk j (fun e=>ho j e.symm rfl) (Qzs.1 h2).1]
  exact h2⟩
theorem Vfa {S g:Za} {v:AV} {L:List Int} {o:Option Nat} (hA:Acc S g 1 v (Ya L) o) (x:Int) (hl:L.length≤2^30) :
  ∃ v' g' jo,Xa Tryz.prog #[32,32] v (.pl 1 [.int .i64 x]) (S++g)=some (v',S++g')∧Acc S g' 1 v' (Ya (L++[x])) (some jo)∧v'=.arr 1 (S.length+jo) 0 (L.length+1)∧(∀ j,some j≠o→j<g.length→g'[j]? = g[j]?)∧(some jo=o∨jo=g.length):=by
 obtain ⟨v',g',o',he,hA',hlen,hkeep,ho⟩:=hA.app (P:=Tryz.prog) (t:=32) (e:=3) (ag:=false) (ys:=[.int .i64 x]) (y:=.pl 1 [.int .i64 x]) (by simp) (by simp) (by simp) (by omega) (fun y hy=>by
  rw [List.mem_singleton.1 hy]
  exact ⟨rfl,by simp [AV.cells,AV.one]⟩) (by simp [AV.cells]) (by simp [Ya];omega)
 have e:Ya L++[.int .i64 x]=Ya (L++[x]):=by simp [Ya]
 rw [e] at hA'
 obtain ⟨jo,rfl⟩:∃ jo,o'=some jo:=by
  cases o' with
  | none=>exact absurd hA'.val.2 (by simp [Ya])
  | some jo=>exact ⟨jo,rfl⟩
 refine ⟨v',g',jo,he,hA',by rw [hA'.val.1];simp [Ya],hkeep,?_⟩
 rcases ho with h | h
 ·exact .inl h
 ·exact .inr (by simpa using h)
theorem Rd.fits {hs ns:Int} {H:List (List (List Int))} {reals:List Nat} {reads:List Int} {w:Int} {cs:List Cr} (h:Rd reals reads w):Fits ⟨hs,ns,H,reads,cs⟩ reals:=by
 refine ⟨h.len,fun i x hx=>?_,h.near⟩
 obtain ⟨h1,y,h2,h3⟩:=h.lt i x hx
 refine ⟨h1,?_⟩
 unfold Yab
 simp only [h2]
 rcases h3 with rfl | ⟨_,h3⟩
 ·simp
 ·simp [h3]
attribute [local irreducible] aws awp aw1 Og Om Oc Oa Ogd Ov Ot awd Zb awh Wb Ogh Ohd awl Ogl Ohl awv Ogv Ohv Xb Vb QFn Ub QRo QBe ACode AYield
end Ab
namespace Ab
open Go Go.RowKit Go.Proofs
attribute [local irreducible] aws awp aw1 Og Om Oc Oa Ogd Ov Ot awd Zb awh Wb Ogh Ohd awl Ogl Ohl awv Ogv Ohv Xb Vb QFn Ub QRo QBe ACode AYield
theorem Acc.vwk {σ g:Za} {k:Nat} {v:AV} {l:List AV} {o:Option Nat} (h:Acc σ g k v l o) {p:Nat→Bool} (hp:∀ r,σ.length≤r→p r=true) (hk:0<k) (hf:∀ x∈l,∀ y∈x.cells,∀ S,Fz 0 S y y):Vw p (σ++g) v (.pl k l):=by
 have hv:=h.val
 cases o with
 | none =>
  obtain ⟨rfl,e⟩:=hv
  rw [e]
  exact .inr (.nils_pl k)
 | some jo =>
  obtain ⟨rfl,hjo⟩:=hv
  have hT:(σ++g)[σ.length+jo]? = some (.cells (l.flatMap AV.cells)):=by rw [Qzr (by omega),Nat.add_sub_cancel_left];exact hjo
  refine .inr (.arr k _ 0 _ l (fun i j=>(((l[i]?).getD .any).cells[j]?).getD .any) (Nat.zero_le _) (Van hT (hp _ (by omega))) (fun i x hx=>?_) fun i x hx j y hy=>?_)
  ·have hm:=Qzg hx
   refine ⟨(h.len x hm).1,fun j y hy=>⟨(h.len x hm).2 y (Qzg hy),?_⟩⟩
   have hjl:=(Qzs.1 hy).1
   rw [(h.len x hm).1] at hjl
   rw [flat_get l (fun x hx=>(h.len x hx).1) hk,show (0+i)*k+j=j+k*i by rw [Nat.zero_add,Nat.mul_comm,Nat.add_comm],Nat.add_mul_div_left _ _ hk,Nat.div_eq_of_lt hjl,Nat.zero_add,Nat.add_mul_mod_self_left,Nat.mod_eq_of_lt hjl,hx]
   show x.cells[j]? = some ((x.cells[j]?).getD .any)
   rw [hy]
   rfl
  ·rw [hx]
   simp only [Option.getD_some,hy]
   exact hf x (Qzg hx) y (Qzg hy) _
end Ab

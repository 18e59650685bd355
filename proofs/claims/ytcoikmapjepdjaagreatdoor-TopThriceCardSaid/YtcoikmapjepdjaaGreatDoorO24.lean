/-
  Texts packed for a claim.
-/
import Derived.Test.YtcoikmapjepdjaaGreatDoorO00
import Derived.Test.YtcoikmapjepdjaaGreatDoorO10
import Derived.Test.YtcoikmapjepdjaaGreatDoorO11
import Derived.Test.YtcoikmapjepdjaaGreatDoorO12
import Derived.Test.YtcoikmapjepdjaaGreatDoorO15
import Derived.Test.YtcoikmapjepdjaaGreatDoorO21
import Derived.Test.YtcoikmapjepdjaaGreatDoorO22
import Derived.Test.YtcoikmapjepdjaaGreatDoorO23
set_option linter.all false
namespace Ab
open Go Go.RowKit Go.Proofs
def Vay (n:Nat) (l:List Int):AV:=if l=[] then .pl 1 [] else .arr 1 n 0 l.length
def Uaj (l:List Int):Za:=if l=[] then [] else [.cells (l.map fun x=>AV.int .i64 x)]
theorem Vbd (t:List Int):(t.map fun x=>AV.int .i64 x).flatMap AV.cells=t.map fun x=>AV.int .i64 x:=by
 induction t with
 | nil=>rfl
 | cons w t ih=>rw [List.map_cons,List.flatMap_cons,ih];rfl
attribute [local irreducible] aws awp aw1 Og Om Oc Oa Ogd Ov Ot awd Zb awh Wb Ogh Ohd awl Ogl Ohl awv Ogv Ohv Xb Vb QFn Ub QRo QBe ACode AYield
theorem Zdk (ws:List Int) (hw:ws.length≤2^40) (σ:Za):ACalls Tryz.prog 73 [.pl 1 (ws.map fun x=>AV.int .i64 x)] σ (fun v σ'=>v=Vay σ.length ws∧σ'=σ++Uaj ws):=by
 by_cases h:ws=[]
 ·subst h
  refine ACalls.pl0 (Ua Tryz.func73 (by decide) rfl) ?_ ?_
  ·refine ACalls.canon ?_
   refine Yb Tryz.func73 rfl (Ua Tryz.func73 (by decide) rfl) ?_
   simp [Tryz.ntmps73]
   exact ⟨[],[],rfl,List.nodup_nil,fun i o' h=>by simp at h,_,.nils_pl 1,by simp [Vay],by simp [Uaj]⟩
  ·refine ACalls.canon ?_
   refine Yb Tryz.func73 rfl (Ua Tryz.func73 (by decide) rfl) ?_
   simp [Tryz.ntmps73]
   exact ⟨[],[],rfl,List.nodup_nil,fun i o' h=>by simp at h,_,.emp_pl 1,by simp [Vay],by simp [Uaj]⟩
 ·refine ACalls.canon ?_
  refine Yb Tryz.func73 rfl (Ua Tryz.func73 (by decide) rfl) ?_
  have hb:ws.length*8≤140737488355328:=by omega
  obtain ⟨w,t,rfl⟩:∃ w t,ws=w::t:=by
   cases ws with
   | nil=>exact absurd rfl h
   | cons w t=>exact ⟨w,t,rfl⟩
  rw [List.length_cons] at hb
  simp [Tryz.ntmps73,hb]
  refine ⟨Uaj (w::t),[1],by simp [Uaj],by decide,fun i o' ho=>?_,_,.arr 1 0 1 0 _ rfl,by simp [Vay],rfl⟩
  match i,ho with
  | 0,ho =>
   simp [Uaj] at ho
   subst ho
   refine ⟨1,rfl,_,rfl,.cells _ _ (by rw [Vbd];exact Nat.le_refl _) fun i x x' hx hx'=>?_⟩
   rw [Vbd] at hx
   obtain rfl:=Option.some.inj (hx.symm.trans hx')
   have hm:=Qzg hx
   simp at hm
   rcases hm with rfl | ⟨y,_,rfl⟩
   ·exact .int _ _
   ·exact .int _ _
  | i+1,ho=>simp [Uaj] at ho
end Ab
namespace Ab
open Go Go.RowKit Go.Proofs
structure Cm where
 house:Int
 notice:Int
 heard:Bool
def Yiy (c:Cm):AV:=.agg [.int .i64 c.house,.int .i64 c.notice,.bool c.heard]
def Cm.Ok (b:Bk) (c:Cm):Prop:=(0≤c.house∧c.house≤b.houses - 1)∧0≤c.notice∧c.notice≤b.notices - 1
def Ugw (c:Cm) (g:List Bool):Bool:=g[(c.house*4+c.notice).toNat]?.getD false == c.heard
def Zby (l:List Cm) (g:List Bool) (i:Nat):List Int:=((List.range i).filter fun j=>match l[j]? with | some c=>!Ugw c g | none=>false).map fun (j:Nat)=>(j:Int)
attribute [local irreducible] aws awp aw1 Og Om Oc Oa Ogd Ov Ot awd Zb awh Wb Ogh Ohd awl Ogl Ohl awv Ogv Ohv Xb Vb QFn Ub QRo QBe ACode AYield
end Ab
namespace Ab
open Go Go.RowKit Go.Proofs
structure At where
 wind:Nat
 got:List Bool
 course:List Int
def Xg (b:Bk) (h:Nat) (x:At) (next:List At) (w:Nat):List At :=
 if Yab b h w then (if next.any fun a=>decide (a.wind=w)&&a.got == Uy b h w x.got then next else next++[⟨w,Uy b h w x.got,x.course++[(w:Int)]⟩]) else next
def zeroAt:At:=⟨0,List.replicate 24 false,[]⟩
def Yu (w:Nat):List Nat:=(List.range 8).filter fun v=>Uq v w
def Yl (b:Bk) (h:Nat):List At:=if h=0 then (List.range 8).foldl (Xg b h zeroAt) [] else []
def Xd6 (b:Bk) (h:Nat) (now:List At):List At:=now.foldl (fun next x=>(Yu x.wind).foldl (Xg b h x) next) (Yl b h)
def Zj (b:Bk):Nat→List At
 | 0=>[]
 | h+1=>Xd6 b h (Zj b h)
def Yp (l:List At):List (List Bool × List Int):=l.foldl (fun out x=>if out.any fun e=>e.1 == x.got then out else out++[(x.got,x.course)]) []
def Xd (b:Bk):List (List Bool × List Int):=Yp (Zj b b.reads.length)
structure At.Ok (h:Nat) (x:At):Prop where
 wind:x.wind<8
 got:x.got.length=24
 course:x.course.length≤h
 ne:x.course≠[]
theorem Xc7 {b:Bk} {h:Nat} {x:At} {next:List At} {w:Nat} (hx:x.got.length=24∧x.course.length≤h) (hw:w<8) (hn:∀ a∈next,a.Ok (h+1)):∀ a∈Xg b h x next w,a.Ok (h+1):=by
 intro a ha
 unfold Xg at ha
 split at ha
 ·split at ha
  ·exact hn a ha
  ·rcases List.mem_append.1 ha with ha | ha
   ·exact hn a ha
   ·rw [List.mem_singleton.1 ha]
    exact ⟨hw,by simp [Wbs,hx.1],by simp;omega,by simp⟩
 ·exact hn a ha
theorem Vek (b:Bk) (h:Nat) (x:At) (next:List At) (w:Nat):(Xg b h x next w).length≤next.length+1:=by
 unfold Xg
 split
 ·split<;>simp
 ·omega
theorem Ufm {b:Bk} {h:Nat} {x a:At} {next:List At} {w:Nat} (ha:a∈next):a∈Xg b h x next w:=by
 unfold Xg
 split
 ·split
  ·exact ha
  ·exact List.mem_append_left _ ha
 ·exact ha
theorem Ydx {b:Bk} {h:Nat} {x:At} {next:List At} {w:Nat} (hc:Yab b h w=true):∃ a∈Xg b h x next w,a.wind=w:=by
 unfold Xg
 rw [if_pos hc]
 split
 ·rename_i hany
  rw [List.any_eq_true] at hany
  obtain ⟨a,ha,he⟩:=hany
  simp at he
  exact ⟨a,ha,he.1⟩
 ·exact ⟨_,List.mem_append_right _ (List.mem_singleton.2 rfl),rfl⟩
theorem Ubb {b:Bk} {h:Nat} {x:At} (hx:x.got.length=24∧x.course.length≤h):∀ (ws:List Nat) (next:List At),(∀ w∈ws,w<8)→(∀ a∈next,a.Ok (h+1))→∀ a∈ws.foldl (Xg b h x) next,a.Ok (h+1):=by
 intro ws
 induction ws with
 | nil=>intro next _ hn;exact hn
 | cons w ws ih=>intro next hw hn;exact ih _ (fun v hv=>hw v (by simp [hv])) (Xc7 hx (hw w (by simp)) hn)
theorem Za7 (b:Bk) (h:Nat) (x:At):∀ (ws:List Nat) (next:List At),(ws.foldl (Xg b h x) next).length≤next.length+ws.length:=by
 intro ws
 induction ws with
 | nil=>intro next;simp
 | cons w ws ih =>
  intro next
  have h1:=ih (Xg b h x next w)
  have h2:=Vek b h x next w
  simp only [List.foldl_cons,List.length_cons]
  omega
theorem Uch {b:Bk} {h:Nat} {x a:At}:∀ (ws:List Nat) (next:List At),a∈next→a∈ws.foldl (Xg b h x) next:=by
 intro ws
 induction ws with
 | nil=>intro next ha;exact ha
 | cons w ws ih=>intro next ha;exact ih _ (Ufm ha)
theorem Wcg {b:Bk} {h:Nat} {x:At} {w:Nat} (hc:Yab b h w=true):∀ (ws:List Nat) (next:List At),w∈ws→∃ a∈ws.foldl (Xg b h x) next,a.wind=w:=by
 intro ws
 induction ws with
 | nil=>intro next hw;simp at hw
 | cons v ws ih =>
  intro next hw
  rcases List.mem_cons.1 hw with rfl | hw
  ·obtain ⟨a,ha,he⟩:=Ydx (x:=x) (next:=next) hc
   exact ⟨a,Uch ws _ ha,he⟩
  ·exact ih _ hw
theorem Ycn {w v:Nat} (h:v∈Yu w):v<8:=by unfold Yu at h;simp at h;exact h.1
theorem Xfm (w:Nat):(Yu w).length≤8:=by
 unfold Yu
 have:=List.length_filter_le (fun v:Nat=>Uq v w) (List.range 8)
 simpa using this
theorem Vby (b:Bk) (h:Nat):∀ a∈Yl b h,a.Ok (h+1):=by
 unfold Yl
 split
 ·exact Ubb ⟨by simp [zeroAt],by simp [zeroAt]⟩ _ _ (fun w hw=>by simpa using hw) (by simp)
 ·simp
theorem Zgj (b:Bk) (h:Nat):(Yl b h).length≤8:=by
 unfold Yl
 split
 ·simpa using Za7 b h zeroAt (List.range 8) []
 ·simp
theorem Xgh (b:Bk) (h:Nat):(Yl b (h+1)).length=0:=rfl
def Wm (b:Bk) (h:Nat) (l next:List At):List At:=l.foldl (fun next x=>(Yu x.wind).foldl (Xg b h x) next) next
theorem Yb1 {b:Bk} {h:Nat}:∀ (l next:List At),(∀ x∈l,x.Ok h)→(∀ a∈next,a.Ok (h+1))→∀ a∈Wm b h l next,a.Ok (h+1):=by
 intro l
 induction l with
 | nil=>intro next _ hn;exact hn
 | cons x l ih=>intro next hx hn;exact ih _ (fun y hy=>hx y (by simp [hy])) (Ubb ⟨(hx x (by simp)).got,(hx x (by simp)).course⟩ _ _ (fun w hw=>Ycn hw) hn)
theorem Ucp (b:Bk) (h:Nat):∀ (l next:List At),(Wm b h l next).length≤next.length+8*l.length:=by
 intro l
 induction l with
 | nil=>intro next;simp [Wm]
 | cons x l ih =>
  intro next
  have h1:=ih ((Yu x.wind).foldl (Xg b h x) next)
  have h2:=Za7 b h x (Yu x.wind) next
  have h3:=Xfm x.wind
  have e:Wm b h (x::l) next=Wm b h l ((Yu x.wind).foldl (Xg b h x) next):=rfl
  rw [e]
  simp only [List.length_cons]
  omega
theorem Ucf {b:Bk} {h:Nat} {a:At}:∀ (l next:List At),a∈next→a∈Wm b h l next:=by
 intro l
 induction l with
 | nil=>intro next ha;exact ha
 | cons x l ih=>intro next ha;exact ih _ (Uch _ _ ha)
theorem Vhu {b:Bk} {h w:Nat} {x:At} (hc:Yab b h w=true) (hn:w∈Yu x.wind):∀ (l next:List At),x∈l→∃ a∈Wm b h l next,a.wind=w:=by
 intro l
 induction l with
 | nil=>intro next hx;simp at hx
 | cons y l ih =>
  intro next hx
  rcases List.mem_cons.1 hx with rfl | hx
  ·obtain ⟨a,ha,he⟩:=Wcg (x:=x) hc (Yu x.wind) next hn
   exact ⟨a,Ucf l _ ha,he⟩
  ·exact ih _ hx
theorem Ubj (b:Bk):∀ h,∀ x∈Zj b h,x.Ok h:=by
 intro h
 induction h with
 | zero=>simp [Zj]
 | succ h ih=>exact Yb1 _ _ ih (Vby b h)
theorem Yb0 (b:Bk):∀ h,(Zj b h).length≤8^h:=by
 intro h
 induction h with
 | zero=>simp [Zj]
 | succ h ih =>
  have h1:=Ucp b h (Zj b h) (Yl b h)
  have e:Zj b (h+1)=Wm b h (Zj b h) (Yl b h):=rfl
  rw [e,Nat.pow_succ]
  cases h with
  | zero =>
   have h2:=Zgj b 0
   have h3:(Zj b 0).length=0:=rfl
   omega
  | succ h =>
   have h2:=Xgh b h
   omega
structure Fits (b:Bk) (real:List Nat):Prop where
 len:real.length=b.reads.length
 lt:∀ (h:Nat) (w:Nat),real[h]? = some w→w<8∧Yab b h w=true
 near:∀ (h:Nat) (v w:Nat),real[h]? = some v→real[h+1]? = some w→Uq w v=true
theorem Vc7 {b:Bk} {real:List Nat} (hf:Fits b real):∀ h w,real[h]? = some w→∃ x∈Zj b (h+1),x.wind=w:=by
 intro h
 induction h with
 | zero =>
  intro w hw
  obtain ⟨h1,h2⟩:=hf.lt 0 w hw
  obtain ⟨a,ha,he⟩:=Wcg (x:=zeroAt) h2 (List.range 8) [] (by simpa using h1)
  exact ⟨a,Ucf _ _ ha,he⟩
 | succ h ih =>
  intro w hw
  have hlt:=(Qzs.1 hw).1
  obtain ⟨x,hx,he⟩:=ih real[h] (Qze (by omega))
  obtain ⟨h1,h2⟩:=hf.lt (h+1) w hw
  have hn:=hf.near h real[h] w (Qze (by omega)) hw
  exact Vhu h2 (by unfold Yu;rw [he];simp [h1,hn]) _ _ hx
theorem Yfa {l:List At} (h:l≠[]):Yp l≠[]:=by
 have key:∀ (l:List At) (out:List (List Bool × List Int)),out≠[]→l.foldl (fun out x=>if out.any fun e=>e.1 == x.got then out else out++[(x.got,x.course)]) out≠[]:=by
  intro l
  induction l with
  | nil=>intro out ho;exact ho
  | cons x l ih =>
   intro out ho
   refine ih _ ?_
   dsimp only
   split
   ·exact ho
   ·simp
 cases l with
 | nil=>exact absurd rfl h
 | cons x l=>exact key l _ (by simp)
theorem Xee {b:Bk} (ok:b.Ok) {real:List Nat} (hf:Fits b real):Xd b≠[]:=by
 refine Yfa fun h=>?_
 have hr:=ok.reads
 have hl:=hf.len
 obtain ⟨x,hx,_⟩:=Vc7 hf (b.reads.length - 1) real[b.reads.length - 1] (Qze (by omega))
 rw [Nat.sub_add_cancel hr.1,h] at hx
 simp at hx
end Ab
namespace Ab
open Go Go.RowKit Go.Proofs
def Uaz (w:Nat) (g:List Bool):AV:=.agg (.int .i64 w::g.map AV.bool)
def Xaf (l:List At):List (AV × AV):=l.map fun a=>(Uaz a.wind a.got,.bool true)
theorem Ycp:∀ (g g':List Bool),g.length=g'.length→Wg (List.replicate g.length 2) (g.map AV.bool) (g'.map AV.bool)=some (g == g'):=by
 intro g
 induction g with
 | nil =>
  intro g' h
  obtain rfl:=List.eq_nil_of_length_eq_zero h.symm
  rfl
 | cons x g ih =>
  intro g' h
  cases g' with
  | nil=>simp at h
  | cons y g' =>
   have:=ih g' (by simpa using h)
   simp [List.replicate_succ,Wg,Xt,this]
theorem Yft (w w':Nat) (g g':List Bool) (h:g.length=24) (h':g'.length=24):Wg [1,2,2,2,2,2,2,2,2,2,2,2,2,2,2,2,2,2,2,2,2,2,2,2,2] (.int .i64 w::g.map AV.bool) (.int .i64 w'::g'.map AV.bool)=some (decide (w=w')&&g == g'):=by
 have h1:=Ycp g g' (by omega)
 rw [h] at h1
 have e:[1,2,2,2,2,2,2,2,2,2,2,2,2,2,2,2,2,2,2,2,2,2,2,2,2]=1::List.replicate 24 2:=rfl
 have e2:((w:Int) == (w':Int))=decide (w=w'):=by
  rw [Bool.eq_iff_iff];simp;omega
 rw [e,Wg,h1]
 simp [Xt,e2]
theorem Zdr (w:Nat) (g:List Bool) (hg:g.length=24):∀ (l:List At) (i:Nat),(∀ a∈l,a.got.length=24) →
  if l.any (fun a=>decide (a.wind=w)&&a.got == g) then ∃ j,Yv [1,2,2,2,2,2,2,2,2,2,2,2,2,2,2,2,2,2,2,2,2,2,2,2,2] (.int .i64 w::g.map AV.bool) (Xaf l) i=some (some (j,.bool true))
  else Yv [1,2,2,2,2,2,2,2,2,2,2,2,2,2,2,2,2,2,2,2,2,2,2,2,2] (.int .i64 w::g.map AV.bool) (Xaf l) i=some none:=by
 intro l
 induction l with
 | nil=>intro i _;rfl
 | cons a l ih =>
  intro i hl
  have h1:=ih (i+1) fun x hx=>hl x (by simp [hx])
  have h2:=Yft w a.wind g a.got hg (hl a (by simp))
  have e:Xaf (a::l)=(Uaz a.wind a.got,.bool true)::Xaf l:=rfl
  have sym:(decide (a.wind=w)&&a.got == g)=(decide (w=a.wind)&&g == a.got):=by
   rw [Bool.eq_iff_iff];simp;constructor<;>(rintro ⟨h1,h2⟩;exact ⟨h1.symm,h2.symm⟩)
  rw [e,List.any_cons,sym]
  unfold Uaz Yv
  rw [h2]
  cases (decide (w=a.wind)&&g == a.got) with
  | true=>simp
  | false=>simpa using h1
theorem Vfe (l:List At) (w:Nat) (g:List Bool) (c:List Int):Xaf l++[(Uaz w g,.bool true)]=Xaf (l++[⟨w,g,c⟩]):=by simp [Xaf]
end Ab
namespace Ab
open Go Go.RowKit Go.Proofs
def Zh (l:List Int):List AV:=l.map fun x=>AV.int .i64 x
def Zf (b:Bk) (n q h:Nat) (v:AV) (next:List At):Za:=[.cells [.int .i64 h],.map (Xaf next),.cells [.mp (n+1)],.cells [v],.cells [.fn (.func 271) [Zd b] []],
 .cells [.fn (.func 272) [] [.ptr (n+4) 0,.ptr n 0,.ptr q 0,.ptr (n+2) 0,.ptr (n+3) 0]]]
structure AccN (n:Nat) (v:AV) (next:List At) (g:Za) (L:List AV) (o:Option Nat):Prop where
 acc:∀ σ:Za,σ.length=n→Acc σ g 26 v L o
 len:L.length=next.length
 el:∀ (i:Nat) (a:At),next[i]? = some a→a.course≠[]∧∃ j,some j≠o∧L[i]? = some (.agg (.int .i64 a.wind::a.got.map AV.bool++[.arr 1 (n+j) 0 a.course.length]))∧g[j]? = some (.cells (Zh a.course))
theorem AccN.nil (n:Nat) (g:Za):AccN n .nils [] g [] none:=⟨fun σ _=>.nil _ _ _,rfl,fun i a h=>by simp at h⟩
theorem AccN.more {n:Nat} {v:AV} {next:List At} {g:Za} {L:List AV} {o:Option Nat} (h:AccN n v next g L o) (y:Za):AccN n v next (g++y) L o :=
 ⟨fun σ hs=>(h.acc σ hs).more y,h.len,fun i a ha=>by
  obtain ⟨h1,j,h2,h3,h4⟩:=h.el i a ha
  exact ⟨h1,j,h2,h3,by rw [Qzl (Qzs.1 h4).1];exact h4⟩⟩
theorem AccN.snoc {n:Nat} {v v':AV} {next:List At} {g g':Za} {L:List AV} {o:Option Nat} (h:AccN n v next g L o) (Z:Za) (jc jo:Nat) (a:At) (hc:a.course≠[])
  (hz:Z[jc]? = some (.cells (Zh a.course))) (hA:∀ σ:Za,σ.length=n→Acc σ g' 26 v' (L++[.agg (.int .i64 a.wind::a.got.map AV.bool++[.arr 1 (n+(g.length+jc)) 0 a.course.length])]) (some jo))
  (hk:∀ j,some j≠o→j<(g++Z).length→g'[j]? = (g++Z)[j]?) (ho:some jo=o∨some jo=some (g++Z).length) :
  AccN n v' (next++[a]) g' (L++[.agg (.int .i64 a.wind::a.got.map AV.bool++[.arr 1 (n+(g.length+jc)) 0 a.course.length])]) (some jo):=by
 have hjc:=(Qzs.1 hz).1
 have hol:∀ j,o=some j→j<g.length:=fun j e=>by
  have:=h.acc (List.replicate n .dead) (by simp)
  rw [e] at this
  exact this.lt
 refine ⟨hA,by simp [h.len],fun i b hb=>?_⟩
 rcases Qzn i next.length with hi | hi
 ·rw [Qzl hi] at hb
  obtain ⟨h1,j,h2,h3,h4⟩:=h.el i b hb
  have hj:=(Qzs.1 h4).1
  refine ⟨h1,j,?_,?_,?_⟩
  ·rcases ho with ho | ho
   ·rw [ho];exact h2
   ·rw [ho];intro e;simp at e;omega
  ·rw [Qzl (by rw [h.len];exact hi)];exact h3
  ·rw [hk j h2 (by simp;omega),Qzl hj];exact h4
 ·rw [Qzr hi] at hb
  have hi0:i - next.length=0:=by
   have:=(Qzs.1 hb).1
   simp at this
   omega
  rw [hi0] at hb
  simp at hb
  subst hb
  refine ⟨hc,g.length+jc,?_,?_,?_⟩
  ·rcases ho with ho | ho
   ·rw [ho]
    intro e
    have:=hol _ e.symm
    omega
   ·rw [ho];intro e;simp at e;omega
  ·rw [Qzr (by rw [h.len];exact hi),h.len,hi0];rfl
  ·rw [hk (g.length+jc) (fun e=>by have:=hol _ e.symm;omega) (by simp;omega),Qzr (by omega),Nat.add_sub_cancel_left];exact hz
def Keeps (g:Za) (o:Option Nat) (K:List (Nat × AObj)):Prop:=∀ p∈K,some p.1≠o∧g[p.1]? = some p.2
theorem Keeps.more {g:Za} {o:Option Nat} {K:List (Nat × AObj)} (h:Keeps g o K) (y:Za):Keeps (g++y) o K:=fun p hp=>⟨(h p hp).1,by
 have:=(h p hp).2
 rw [Qzl (Qzs.1 this).1];exact this⟩
theorem Keeps.snoc {g g':Za} {o:Option Nat} {K:List (Nat × AObj)} {jo:Nat} (h:Keeps g o K) (Z:Za) (hk:∀ j,some j≠o→j<(g++Z).length→g'[j]? = (g++Z)[j]?) (ho:some jo=o∨some jo=some (g++Z).length):Keeps g' (some jo) K:=fun p hp=>by
 obtain ⟨h1,h2⟩:=h p hp
 have hl:=(Qzs.1 h2).1
 refine ⟨?_,?_⟩
 ·rcases ho with ho | ho
  ·rw [ho];exact h1
  ·rw [ho];intro e;simp at e;omega
 ·rw [hk _ h1 (by simp;omega),Qzl hl];exact h2
attribute [local irreducible] aws awp aw1 Og Om Oc Oa Ogd Ov Ot awd Zb awh Wb Ogh Ohd awl Ogl Ohl awv Ogv Ohv Xb Vb QFn Ub QRo QBe ACode AYield
theorem Weu (σ:Za):ACalls Tryz.prog 73 [.nils] σ fun v s=>v=.nils∧s=σ:=by
 refine Yb Tryz.func73 rfl (Ua Tryz.func73 (by decide) rfl) ?_
 simp [Tryz.ntmps73]
theorem Uew (S:Za) (w:Nat):Xa Tryz.prog #[32,32] .nils (.pl 1 [.int .i64 w]) S=some (.arr 1 S.length 0 1,S++[.cells [.int .i64 w]]):=by simp
theorem Xed (S:Za) (r:Nat) (l:List Int) (w:Nat) (hl:l.length≤8) (hr:S[r]? = some (.cells (Zh l))) :
  Xa Tryz.prog #[32,32] (.arr 1 r 0 l.length) (.pl 1 [.int .i64 w]) S=some (.arr 1 S.length 0 (l.length+1),S.set r .dead++[.cells (Zh l++[.int .i64 w])]):=by
 have h1:(l.length+1)*8≤140737488355328:=by omega
 simp [hr,Zh,h1]
theorem Vca (b:Bk) (ok:b.Ok) (h:Nat) (hh:h<b.reads.length) (x:At) (hx:x.got.length=24) (cv:AV) (hcv:cv=.nils∧x.course=[]∨cv=.pl 1 (Zh x.course)∧x.course≠[]) (hcl:x.course.length≤8)
  (w:Nat) (hw:w<8) (P:Za) (q d:Nat) (hq:P[q]? = some (.cells [.ptr d 0])) (hd:P[d]? = some (.cells (Zd b).cells)) (next:List At) (hn:∀ a∈next,a.got.length=24) (hnl:next.length≤2^30)
  (v:AV) (g:Za) (L:List AV) (o:Option Nat) (hA:AccN (P.length+6) v next g L o) (K:List (Nat × AObj)) (hK:Keeps g o K) :
  ACalls Tryz.prog 272 [.agg (.int .i64 x.wind::x.got.map AV.bool++[cv]),.int .i64 w,.ptr (P.length+4) 0,.ptr P.length 0,.ptr q 0,.ptr (P.length+2) 0,.ptr (P.length+3) 0] (P++(Zf b P.length q h v next++g))
   fun _ s=>∃ v' g' L' o',AccN (P.length+6) v' (Xg b h x next w) g' L' o'∧Keeps g' o' K∧s=P++(Zf b P.length q h v' (Xg b h x next w)++g'):=by
 refine Yb Tryz.func272 rfl (Ua Tryz.func272 (by decide) rfl) ?_
 have hql:q<P.length:=(Qzs.1 hq).1
 have hdl:d<P.length:=(Qzs.1 hd).1
 have hq':∀ g:Za,(P++g)[q]? = some (.cells [.ptr d 0]):=fun g=>by rw [Qzl hql];exact hq
 have hd':∀ g:Za,(P++g)[d]? = some (.cells (Zd b).cells):=fun g=>by rw [Qzl hdl];exact hd
 have hxl:(x.got.map AV.bool).length=24:=by simp [hx]
 generalize hN:Xg b h x next w=N
 simp [-Xa,Tryz.ntmps272,Zf,hxl,hx]
 rw [if_pos (by rcases hcv with ⟨rfl,_⟩ | ⟨rfl,_⟩<;>rfl)]
 simp [-Xa]
 refine (Yeo b h w hh (by omega) (ok.read _ (List.getElem_mem hh))).use ?_
 cases hc:Yab b h w with
 | false =>
  have hN':N=next:=by rw [← hN];unfold Xg;rw [hc];rfl
  subst hN'
  simp [-Xa]
  exact ⟨_,_,_,_,hA.more _,hK.more _,rfl,rfl⟩
 | true =>
  have hx23:23≤x.got.length:=by omega
  have htk:List.take 24 (x.got.map AV.bool++[cv])=x.got.map AV.bool:=by rw [List.take_append_of_le_length (by omega),List.take_of_length_le (by omega)]
  simp [-Xa,hq',hx23,htk]
  refine StA.of ((Vh6 b ok h w x.got hx hw d _ (hd' _)).mono ?_)
  rintro v1 s ⟨rfl,rfl⟩
  have hG:(Uy b h w x.got).length=24:=by rw [Wbs,hx]
  generalize hGG:Uy b h w x.got=G at *
  have hGl:(G.map AV.bool).length=24:=by simp [hG]
  have hf:=Zdr w G hG next 0 hn
  simp [-Xa,Xa6,hG]
  have htg:List.take 24 (G.map AV.bool)=G.map AV.bool:=List.take_of_length_le (by omega)
  rw [if_pos ⟨by omega,fun y hy=>by
   rcases List.mem_cons.1 hy with rfl | hy
   ·rfl
   ·obtain ⟨z,_,rfl⟩:=List.mem_map.1 hy;rfl⟩]
  by_cases hany:(next.any fun a=>decide (a.wind=w)&&a.got == G)=true
  ·rw [if_pos hany] at hf
   obtain ⟨j,hj⟩:=hf
   have hN':N=next:=by rw [← hN];unfold Xg;rw [if_pos hc,hGG,if_pos hany]
   subst hN'
   simp [-Xa,hG,htg,hj]
   exact ⟨_,_,_,_,hA.more _,hK.more _,rfl,rfl⟩
  ·rw [if_neg hany] at hf
   have hN':N=next++[⟨w,G,x.course++[(w:Int)]⟩]:=by rw [← hN];unfold Xg;rw [if_pos hc,hGG,if_neg hany]
   simp [-Xa,hG,htg,hf]
   rw [if_pos ⟨by omega,fun y hy=>by
    rcases List.mem_cons.1 hy with rfl | hy
    ·rfl
    ·obtain ⟨z,_,rfl⟩:=List.mem_map.1 hy;rfl⟩,Xk]
   rw [show (AV.agg (AV.int IntKind.i64 ↑w::List.map AV.bool G))=Uaz w G from rfl,Vfe next w G (x.course++[(w:Int)]),← hN']
   refine Ut [4,7,10,11] [(0,1),(0,2),(1,1),(1,2),(5,0)] mixed (by kernel_rfl) (by kernel_rfl) ?_
   have hdrop:(x.got.map AV.bool++[cv])[24]? = some cv:=by rw [Qzr (by omega),hxl];rfl
   simp [-Xa,hG,htg,hx,hdrop]
   rcases hcv with ⟨rfl,hcn⟩ | ⟨rfl,hcn⟩
   ·refine Uaa (Weu _) ?_
    simp [-Xa,hG,htg,hx,hdrop]
    rw [Uew,Xk]
    have hdr:List.drop 25 (List.map AV.bool G++[AV.nils])=[]:=List.drop_eq_nil_of_le (by simp [hG])
    have hone:∀ (r m:Nat) (y:AV),y∈AV.int .i64 w::(G.map AV.bool++[.arr 1 r 0 m])→y.one=true:=by
     intro r m y hy
     rcases List.mem_cons.1 hy with rfl | hy
     ·rfl
     ·rcases List.mem_append.1 hy with hy | hy
      ·obtain ⟨z,_,rfl⟩:=List.mem_map.1 hy;rfl
      ·rw [List.mem_singleton.1 hy];rfl
    simp [-Xa,hG,htg,hx,hdrop,hdr]
    rw [if_pos (by exact fun y hy=>hone _ _ y hy)]
    simp only [Ybx]
    obtain ⟨v',g',o',he,hA',hlen,hkeep,ho⟩:=(((hA.acc (P++Zf b P.length q h v N) (by simp [Zf])).more [AObj.cells (AV.int IntKind.i64 ↑x.wind::(List.map AV.bool x.got++[AV.nils])),AObj.cells (AV.int IntKind.i64 ↑w::List.map AV.bool G),AObj.cells [AV.int IntKind.i64 ↑w]]).app (P:=Tryz.prog) (t:=372) (e:=377) (ag:=true)
     (ys:=[.agg (.int .i64 w::(G.map AV.bool++[.arr 1 (P.length+(g.length+2+1+1+1+1+1+1)) 0 1]))]) (y:=.pl 26 [.agg (.int .i64 w::(G.map AV.bool++[.arr 1 (P.length+(g.length+2+1+1+1+1+1+1)) 0 1]))]) (by simp) (by simp) (by simp) (by omega) (fun y hy=>by
      rw [List.mem_singleton.1 hy]
      exact ⟨by simp [AV.cells,hG],fun z hz=>hone _ _ z hz⟩) (by
      simp [hG]) (by simp [hA.len];omega))
    simp [-Xa,Nat.add_assoc,Zf] at he
    simp [-Xa,Nat.add_assoc]
    rw [he,Xk]
    obtain ⟨jo,rfl⟩:∃ jo,o'=some jo:=by
     cases o' with
     | none=>exact absurd hA'.val.2 (by simp)
     | some jo=>exact ⟨jo,rfl⟩
    obtain ⟨rfl,hjo⟩:=hA'.val
    simp [-Xa]
    have hcw:([]:List Int)++[(w:Int)]=x.course++[(w:Int)]:=by rw [hcn]
    have:=hA.snoc (v':=.arr 26 (List.length P+List.length (Zf b (List.length P) q h v N)+jo) 0 (L.length+1)) [AObj.cells (AV.int IntKind.i64 ↑x.wind::(List.map AV.bool x.got++[AV.nils])),AObj.cells (AV.int IntKind.i64 ↑w::List.map AV.bool G),AObj.cells [AV.int IntKind.i64 ↑w]] 2 jo ⟨w,G,x.course++[(w:Int)]⟩ (by simp) (by simp [hcn,Zh])
     (fun σ hs=>by
      have h1:=hA'.base (σ':=σ) (by simp [Zf,hs])
      simpa [hcn,Nat.add_assoc,Nat.add_comm,Nat.add_left_comm] using h1) hkeep ho
    rw [← hN'] at this
    exact ⟨_,_,_,_,this,hK.snoc _ hkeep ho,rfl,rfl⟩
   ·refine Uaa (Zdk x.course (by omega) _) ?_
    simp [-Xa,hG,htg,hx,hdrop,Vay,Uaj,hcn]
    rw [Xed _ _ _ _ hcl (by simp [Zh,Qzr,Nat.add_assoc]),Xk]
    simp [-Xa,hG,htg,hx,hdrop,List.set_append_right,Nat.add_assoc]
    have hdr:List.drop 25 (List.map AV.bool G++[AV.nils])=[]:=List.drop_eq_nil_of_le (by simp [hG])
    have hone:∀ (r m:Nat) (y:AV),y∈AV.int .i64 w::(G.map AV.bool++[.arr 1 r 0 m])→y.one=true:=by
     intro r m y hy
     rcases List.mem_cons.1 hy with rfl | hy
     ·rfl
     ·rcases List.mem_append.1 hy with hy | hy
      ·obtain ⟨z,_,rfl⟩:=List.mem_map.1 hy;rfl
      ·rw [List.mem_singleton.1 hy];rfl
    simp [-Xa,hdr]
    rw [if_pos (by exact fun y hy=>hone _ _ y hy)]
    simp only [Ybx]
    obtain ⟨v',g',o',he,hA',hlen,hkeep,ho⟩:=(((hA.acc (P++Zf b P.length q h v N) (by simp [Zf])).more [AObj.cells (AV.int IntKind.i64 ↑x.wind::(List.map AV.bool x.got++[AV.pl 1 (Zh x.course)])),AObj.cells (AV.int IntKind.i64 ↑w::List.map AV.bool G),AObj.dead,AObj.cells (Zh x.course++[AV.int IntKind.i64 ↑w])]).app (P:=Tryz.prog) (t:=372) (e:=377) (ag:=true)
     (ys:=[.agg (.int .i64 w::(G.map AV.bool++[.arr 1 (P.length+(g.length+3+1+1+1+1+1+1))  0 (x.course.length+1)]))]) (y:=.pl 26 [.agg (.int .i64 w::(G.map AV.bool++[.arr 1 (P.length+(g.length+3+1+1+1+1+1+1))  0 (x.course.length+1)]))]) (by simp) (by simp) (by simp) (by omega) (fun y hy=>by
      rw [List.mem_singleton.1 hy]
      exact ⟨by simp [AV.cells,hG],fun z hz=>hone _ _ z hz⟩) (by
      simp [hG]) (by simp [hA.len];omega))
    simp [-Xa,Nat.add_assoc,Zf] at he
    try simp [-Xa,Nat.add_assoc]
    rw [he,Xk]
    obtain ⟨jo,rfl⟩:∃ jo,o'=some jo:=by
     cases o' with
     | none=>exact absurd hA'.val.2 (by simp)
     | some jo=>exact ⟨jo,rfl⟩
    obtain ⟨rfl,hjo⟩:=hA'.val
    simp [-Xa]
    have:=hA.snoc (v':=.arr 26 (List.length P+List.length (Zf b (List.length P) q h v N)+jo) 0 (L.length+1)) [AObj.cells (AV.int IntKind.i64 ↑x.wind::(List.map AV.bool x.got++[AV.pl 1 (Zh x.course)])),AObj.cells (AV.int IntKind.i64 ↑w::List.map AV.bool G),AObj.dead,AObj.cells (Zh x.course++[AV.int IntKind.i64 ↑w])] 3 jo ⟨w,G,x.course++[(w:Int)]⟩ (by simp) (by simp [Zh])
     (fun σ hs=>by
      have h1:=hA'.base (σ':=σ) (by simp [Zf,hs])
      simpa [Nat.add_assoc,Nat.add_comm,Nat.add_left_comm] using h1) hkeep ho
    rw [← hN'] at this
    exact ⟨_,_,_,_,this,hK.snoc _ hkeep ho,rfl,rfl⟩
end Ab
namespace Ab
open Go Go.RowKit Go.Proofs
attribute [local irreducible] aws awp aw1 Og Om Oc Oa Ogd Ov Ot awd Zb awh Wb Ogh Ohd awl Ogl Ohl awv Ogv Ohv Xb Vb QFn Ub QRo QBe ACode AYield
theorem Uey (w:Nat) (σ:Za):ACalls Tryz.prog 274 [.int .i64 w] σ (fun v σ'=>v=.fn (.func 326) [] [.ptr σ.length 0]∧σ'=σ++[.cells [.int .i64 w]]):=by
 refine Yb Tryz.func274 rfl (Ua Tryz.func274 (by decide) rfl) ?_
 simp [Tryz.ntmps274]
theorem Xhb (w:Nat) (hw:w<8) (r q:Nat) (I:Nat→Za→Prop)
  (hq:∀ k σ,I k σ→σ[q]? = some (.cells [.int .i64 w]))
  (hy:∀ k σ,I k σ→k<8→Uq k w=true→AYield Tryz.prog r [.int .i64 k] σ (fun v σ'=>v=.bool true∧I (k+1) σ'))
  (hn:∀ k σ,I k σ→k<8→Uq k w=false→I (k+1) σ)
  (σ:Za) (h0:I 0 σ):AEnter Tryz.prog 326 [.yld r,.ptr q 0] σ (fun _ σ'=>I 8 σ'):=by
 refine Ubi Tryz.func326 rfl (Ua Tryz.func326 (by decide) rfl) ?_
 simp [Tryz.ntmps326]
 refine Xc (fun env σ'=>∃ (u:List AV) (k:Nat),env={ t:=u }∧u.length=17∧tg u 0=.yld r∧tg u 1=.ptr q 0∧tg u 4=.int .i64 k∧k≤8∧I k σ')
  (fun env _=>match tg env.t 4 with | .int _ k=>8 - k.toNat | _=>0) ⟨_,0,rfl,by simp,by simp,by simp,by simp,by omega,h0⟩ ?_
 rintro env σ' ⟨u,k,rfl,hl,g0,g1,g4,hk,hI⟩
 rcases Qzn k 8 with hlt | hge
 ·have hlt':(k:Int)<8:=by omega
  have hw1:=w64 (n:=(k:Int)+1) (by omega) (by omega)
  have hqx:=hq _ _ hI
  simp [hl,g0,g1,g4,hlt',hqx]
  refine (Ycj k w (by omega) (by omega)).use ?_
  cases hb:Uq k w with
  | true =>
   simp [hl,g0,g1,g4,hb]
   refine StY.of (hy k σ' hI hlt hb) ?_
   rintro v σ2 ⟨rfl,hI2⟩
   simp [hl,g0,g1,g4,hb,hw1]
   exact ⟨⟨k+1,by simp,by omega,hI2⟩,by omega⟩
  | false =>
   have hI2:=hn k σ' hI hlt hb
   simp [hl,g0,g1,g4,hb,hw1]
   exact ⟨⟨k+1,by simp,by omega,hI2⟩,by omega⟩
 ·obtain rfl:k=8:=by omega
  simp [hl,g0,g1,g4]
  exact hI
end Ab
namespace Ab
open Go Go.RowKit
variable [Mode]
variable {P:Program}
def Ws (P:Program) (fn:Func) (R:AV→Za→Prop) (env:Env):List Nat→Za→Prop
 | [],σ=>match Vr P fn.results.toList env.t σ with
  | some v=>R v σ
  | none=>False
 | r::m,σ=>σ[r]? = some .deferred∧Ws P fn R env m (σ.set r .dead)
def Xi (P:Program) (fn:Func) (R:AV→Za→Prop):Exit→Env→Za→Prop
 | .normal,env,σ | .ret,env,σ=>Ws P fn R env env.m σ
 | _,_,_=>False
theorem Zcg {f:FuncId} {fn:Func} {c:Code} {args:List AV} {σ:Za} {R:AV→Za→Prop} (hf:P.funcs[f]? = some fn) (hb:fn.body=some c) (hen:Enters P f)
  (h:ACode P none c (Xi P fn R) { t:=te args fn.ntmps } σ):ACalls P f args σ R:=by
 refine .inl ⟨hen,fun C cargs hI hv=>?_⟩
 have hl:=hv.len
 refine callsIn_of_wp_marks hf hb trivial ?_ rfl
 have he:ER C { t:=te args fn.ntmps } { tmps:=cargs.toArray++Array.replicate (fn.ntmps - cargs.toArray.size) undef,defers:=[] }:=by
  refine ⟨?_,rfl,fun i r d h=>by simp at h⟩
  have h2:VRs C (List.replicate (fn.ntmps - args.length) .any) (List.replicate (fn.ntmps - args.length) undef):=⟨by simp,fun i x c hx hc=>by
   obtain ⟨_,hx⟩:=Qzs.1 hx
   simp at hx
   subst hx
   exact .any _⟩
  have:=hv.append h2
  simpa [hl,te] using this
 refine wpIn_mono (h C _ none hI he rfl) ?_
 rintro e a' w' ⟨C',env',σ',rfl,hE,hI',he',hq⟩
 have key:∀ (m:List Nat) (ds:List Deferred) (C2:Ctx) (σ2:Za),Ext C' C2→Inv C2 σ2→m.length=ds.length→(∀ (i r:Nat) (d:Deferred),m[i]? = some r→ds[i]? = some d→∃ b,C'.blk[r]? = some b∧d=⟨.collected b,#[]⟩) →
   Ws P fn R env' m σ2→LeavesInM Fence.wide 0 P fn a'.tmps (fun e w'=>∃ (v:Value) (C':Ctx) (av:AV) (σ':Za),e=.returned v∧C'.w=w'∧Ext C C'∧Inv C' σ'∧VR C' av v∧R av σ') ds .returning C2.w:=by
  intro m
  induction m with
  | nil =>
   intro ds C2 σ2 hE2 hI2 hm _ hq
   rw [List.eq_nil_of_length_eq_zero hm.symm]
   unfold Ws at hq
   split at hq
   ·rename_i v hv'
    obtain ⟨c,hc,hvr⟩:=Ybg hI2 (he'.ext hE2) hv'
    exact ⟨c,hc,c,C2,v,σ2,rfl,rfl,hE.trans hE2,hI2,hvr,hq⟩
   ·cases hq
  | cons r m ih =>
   intro ds C2 σ2 hE2 hI2 hm hmark hq
   obtain ⟨hd,hq⟩:=hq
   match ds,hm,hmark with
   | d::ds,hm,hmark =>
    obtain ⟨b,hb',rfl⟩:=hmark 0 r d rfl rfl
    have hb2:=hE2.blk_at hb'
    obtain ⟨hnp,c,hc,hR⟩:=hI2.live _ _ _ hb2 hd rfl
    cases hR
    refine ⟨by simp,.inl ⟨b,_,rfl,run_takeDeferred hc,?_⟩⟩
    rw [Ual]
    have hE4:=Ext.set (C:=C2) (o:=.deferred none) hc hnp rfl
    have hI4:=hI2.set (o':=.dead) (c':=.deferred none) hb2 hd rfl hc rfl (.gone _)
    exact ih ds _ _ (hE2.trans hE4) hI4 (by simpa using hm) (fun i r d h1 h2=>hmark (i+1) r d h1 h2) hq
 have fin:Ws P fn R env' env'.m σ'→LeavesInM Fence.wide 0 P fn a'.tmps (fun e w'=>∃ (v:Value) (C':Ctx) (av:AV) (σ':Za),e=.returned v∧C'.w=w'∧Ext C C'∧Inv C' σ'∧VR C' av v∧R av σ') a'.defers .returning C'.w :=
  fun h=>key env'.m a'.defers C' σ' (Ext.refl C') hI' he'.m.symm (fun i r d h1 h2=>he'.mark i r d h1 h2) h
 cases e with
 | normal=>exact fin hq
 | ret=>exact fin hq
 | _=>cases hq
theorem Whj {f:FuncId} {fn:Func} {c:Code} {args:List AV} {σ:Za} {R:AV→Za→Prop} (hf:P.funcs[f]? = some fn) (hb:fn.body=some c) (hen:Enters P f)
  (h:awp P none c (Xi P fn R) { t:=te args fn.ntmps } σ):ACalls P f args σ R:=Zcg hf hb hen (Yi c h)
end Ab
namespace Ab
open Go Go.RowKit Go.Proofs
def Zf8 (b:Bool):List UInt8:=if b then [104,101,97,114,100] else [110,111,116]
def Zcz:List (List UInt8):=[[48],[49],[50],[51],[52],[53],[54],[55],[56],[57],[104,101,97,114,100],[110,111,116]]
theorem Wen:∀ w∈Zcz,Oyez.word w=true∧w.length≤6:=by decide
theorem Vb4 {n:Int} (h0:0≤n) (h1:n≤9):Lib.itoa n∈Zcz∧(Lib.itoa n).length≤6∧Ya1 (Lib.itoa n)=.tup [.int .i64 n,.nili]:=by
 have:n=0∨n=1∨n=2∨n=3∨n=4∨n=5∨n=6∨n=7∨n=8∨n=9:=by omega
 rcases this with rfl | rfl | rfl | rfl | rfl | rfl | rfl | rfl | rfl | rfl
 ·rw [show Lib.itoa 0=[48] by kernel_rfl];exact ⟨by decide,by decide,by kernel_rfl⟩
 ·rw [show Lib.itoa 1=[49] by kernel_rfl];exact ⟨by decide,by decide,by kernel_rfl⟩
 ·rw [show Lib.itoa 2=[50] by kernel_rfl];exact ⟨by decide,by decide,by kernel_rfl⟩
 ·rw [show Lib.itoa 3=[51] by kernel_rfl];exact ⟨by decide,by decide,by kernel_rfl⟩
 ·rw [show Lib.itoa 4=[52] by kernel_rfl];exact ⟨by decide,by decide,by kernel_rfl⟩
 ·rw [show Lib.itoa 5=[53] by kernel_rfl];exact ⟨by decide,by decide,by kernel_rfl⟩
 ·rw [show Lib.itoa 6=[54] by kernel_rfl];exact ⟨by decide,by decide,by kernel_rfl⟩
 ·rw [show Lib.itoa 7=[55] by kernel_rfl];exact ⟨by decide,by decide,by kernel_rfl⟩
 ·rw [show Lib.itoa 8=[56] by kernel_rfl];exact ⟨by decide,by decide,by kernel_rfl⟩
 ·rw [show Lib.itoa 9=[57] by kernel_rfl];exact ⟨by decide,by decide,by kernel_rfl⟩
def Zg2 (i:Nat) (c:Cr):Oyez.Rec:=⟨0,i,[Lib.itoa c.hour,Lib.itoa c.stand,Lib.itoa c.notice]⟩
def Yey (i:Nat) (c:Cm):Oyez.Rec:=⟨4,i,[Lib.itoa c.house,Lib.itoa c.notice,Zf8 c.heard]⟩
def Wjb (l:List Cr):List Oyez.Rec:=l.mapIdx Zg2
def Vip (l:List Cm):List Oyez.Rec:=l.mapIdx Yey
def Wi3 (c:Cr):Prop:=(0≤c.hour∧c.hour≤9)∧(0≤c.stand∧c.stand≤9)∧0≤c.notice∧c.notice≤9
def Zir (c:Cm):Prop:=(0≤c.house∧c.house≤9)∧0≤c.notice∧c.notice≤9
end Ab
namespace Ab
open Go Go.RowKit Go.Proofs
attribute [local irreducible] aws awp aw1 Og Om Oc Oa Ogd Ov Ot awd Zb awh Wb Ogh Ohd awl Ogl Ohl awv Ogv Ohv Xb Vb QFn Ub QRo QBe ACode AYield
end Ab

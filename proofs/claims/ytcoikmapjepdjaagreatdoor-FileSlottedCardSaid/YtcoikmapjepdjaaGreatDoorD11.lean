/-
  Texts packed for a claim.
-/
import Derived.Test.YtcoikmapjepdjaaGreatDoorD00
import Derived.Test.YtcoikmapjepdjaaGreatDoorD06
import Derived.Test.YtcoikmapjepdjaaGreatDoorD08
import Derived.Test.YtcoikmapjepdjaaGreatDoorD09
import Derived.Test.YtcoikmapjepdjaaGreatDoorD10
set_option linter.all false
namespace Ab
open Go Go.Proofs
instance loose:Mode:=⟨False⟩
attribute [local irreducible] aws awp aw1 Og Om Oc Oa Wb Vb QFn ACode ACalls AYield
theorem Vbe (n:Nat):(Oyez.digitsN n).length≤n+1:=by
 induction n using Nat.strongRecOn with
 | _ n ih =>
  rcases Qzn n 10 with h | h
  ·rw [Oyez.digitsN_lt h];simp
  ·rw [Oyez.digitsN_ge h,List.length_append]
   have:=ih (n / 10) (by omega)
   simp only [List.length_cons,List.length_nil]
   omega
theorem Vc7 (c:UInt8) (n:Nat) (h:n<256):c.toNat=n↔c=UInt8.ofNat n:=by
 constructor
 ·intro e;rw [← e];simp
 ·intro e;rw [e];simp;omega
theorem Ze7 (c:UInt8):Oyez.isDig c=true↔48≤c.toNat∧c.toNat≤57:=by
 simp [Oyez.isDig,UInt8.le_iff_toNat_le]
end Ab
namespace Ab
open Go Go.Proofs
attribute [local irreducible] aws awp aw1 Og Om Oc Oa Ogd Ov Ot awd Zb Wb Vb QFn Ub ACode ACalls AYield
theorem mixed:Tryz.prog.follows .mixedOrders=true:=by kernel_rfl
def strs (ws:List (List UInt8)):List AV:=ws.map AV.str
def Uc (ws:List (List UInt8)):AV:=.pl 1 (strs ws)
def Xv (ws:List (List UInt8)):Nat:=(ws.map fun w=>w.length+1).sum
theorem Wce (ws:List (List UInt8)):(ws.flatMap fun w=>(32:UInt8)::w).length=Xv ws:=by
 induction ws with
 | nil=>rfl
 | cons w t ih=>simp [Xv] at *;omega
theorem Ze9 {ws:List (List UInt8)} {w:List UInt8} (h:w∈ws):w.length+1≤Xv ws:=by
 induction ws with
 | nil=>simp at h
 | cons x t ih =>
  rcases List.mem_cons.1 h with rfl | h
  ·simp [Xv]
  ·have:=ih h;simp [Xv] at *;omega
theorem Xhh (k:Int):(Oyez.name k).length≤6:=by
 unfold Oyez.name
 generalize k.toNat=n
 match n with
 | 0=>decide
 | 1=>decide
 | 2=>decide
 | 3=>decide
 | _+4=>exact (by decide:([112,108,101,97]:List UInt8).length≤6)
end Ab
namespace Ab
open Go Go.Proofs
attribute [local irreducible] aws awp aw1 Og Om Oc Oa Ogd Ov Ot awd Zb Wb Vb QFn Ub ACode ACalls AYield
def Yg (r:Oyez.Rec):AV:=.agg [.int .i64 r.kind,.int .i64 r.number,Uc r.words]
def We (f:List Oyez.Rec):AV:=.pl 3 (f.map Yg)
attribute [simp] Uc strs Yg We
def Uj (w:List UInt8):Int:=match Oyez.kindOf w with | some k=>k | none=>-1
theorem Ucg (s:List UInt8):Oyez.words s≠[]:=by
 unfold Oyez.words
 cases s with
 | nil=>simp [Oyez.splitAt]
 | cons b t =>
  unfold Oyez.splitAt
  split
  ·simp
  ·split<;>simp
def Xar (w:List UInt8):List (List UInt8)→List (List UInt8)
 | []=>[w]
 | x::r=>(w++x)::r
theorem Wbb (t:List UInt8):Oyez.words (32::t)=[]::Oyez.words t:=by simp [Oyez.words,Oyez.splitAt]
theorem Zbb (b:UInt8) (t:List UInt8) (h:b≠32):Oyez.words (b::t)=Xar [b] (Oyez.words t):=by
 unfold Oyez.words
 rw [Oyez.splitAt,if_neg h]
 cases hx:Oyez.splitAt 32 t with
 | nil=>rfl
 | cons w r=>rfl
theorem Ydf (ws:List (List UInt8)):(strs ws).length=ws.length:=by simp [strs]
theorem Xcz (s:List UInt8):(Oyez.words s).length≤s.length+1:=by
 induction s with
 | nil=>simp [Oyez.words,Oyez.splitAt]
 | cons b t ih =>
  by_cases h:b=32
  ·subst h;rw [Wbb];simp;omega
  ·rw [Zbb b t h]
   revert ih
   cases Oyez.words t<;>simp [Xar]<;>omega
end Ab
namespace Ab
open Go Go.Proofs
attribute [local irreducible] aws awp aw1 Og Om Oc Oa Ogd Ov Ot awd Zb Wb Vb QFn Ub ACode ACalls AYield
def Wh4 (f:List Oyez.Rec):Prop:=∀ r∈f,Xv r.words≤2^49∧r.words.length≤2^49
def Uai (f:List Oyez.Rec) (i:Nat):Option Oyez.Place:=if i=0 then none else (f[i - 1]?).map Oyez.Rec.place
end Ab
namespace Ab
open Go Go.Proofs
attribute [local irreducible] aws awp aw1 Og Om Oc Oa Ogd Ov Ot awd Zb Wb Vb QFn Ub ACode ACalls AYield
def Zhv (x:Except (Nat × Int) Oyez.Rec):AV:=match x with
 | .ok r=>.tup [Yg r,.int .i64 0,.int .i64 0]
 | .error (w,e)=>.tup [Yg ⟨0,0,[]⟩,.int .i64 w,.int .i64 e]
theorem Xdl {s w:List UInt8} (h:w∈Oyez.words s):w.length≤s.length:=by
 induction s generalizing w with
 | nil=>simp [Oyez.words,Oyez.splitAt] at h;subst h;simp
 | cons b t ih =>
  by_cases hb:b=32
  ·subst hb
   rw [Wbb] at h
   rcases List.mem_cons.1 h with rfl | h
   ·simp
   ·have:=ih h;simp;omega
  ·rw [Zbb b t hb] at h
   cases hx:Oyez.words t with
   | nil=>rw [hx] at h;simp [Xar] at h;subst h;simp
   | cons x r =>
    rw [hx] at h ih
    simp only [Xar,List.mem_cons] at h
    rcases h with rfl | h
    ·have:=ih (List.mem_cons_self);simp;omega
    ·have:=ih (List.mem_cons_of_mem _ h);simp;omega
theorem Yau (n:Nat) (σ:Za) (ws:List (List UInt8)):Fz n σ (.pl 1 (List.map AV.str ws)) (.pl 1 (List.map AV.str ws))↔True:=by
 refine ⟨fun _=>trivial,fun _=>.pl 1 _ fun i x hx j y hy=>?_⟩
 rw [Qzp,Qzm] at hx
 obtain ⟨w,_,rfl⟩:=hx
 cases j with
 | zero=>simp [AV.cells] at hy;subst hy;exact .str w
 | succ j=>simp [AV.cells] at hy
attribute [simp] Yau
end Ab
namespace Ab
open Go Go.Proofs
attribute [local irreducible] aws awp aw1 Og Om Oc Oa Ogd Ov Ot awd Zb Wb Vb QFn Ub ACode ACalls AYield
def Xao (p:Oyez.Parsed):AV:=.tup [We p.recs,.int .i64 p.line,.int .i64 p.word,.int .i64 p.err]
def Uv (r:Oyez.Rec):List AV:=[.int .i64 r.kind,.int .i64 r.number,Uc r.words]
theorem Wbf (f:List Oyez.Rec) (i j:Nat) (h:i<f.length) (hj:j<3):((f.map Yg).flatMap AV.cells)[i*3+j]? = (Uv f[i])[j]?:=by
 have:=flat_get (f.map Yg) (k:=3) (fun x hx=>by obtain ⟨r,_,rfl⟩:=List.mem_map.1 hx;rfl) (by decide) (i*3+j)
 rw [this,show (i*3+j) / 3=i by omega,show (i*3+j) % 3=j by omega]
 simp [h,Uv,AV.cells]
theorem Xhe {own:List UInt8} {fed:Bool} {n:Nat} {r:Oyez.Rec} (h:Oyez.readLine own fed n=.ok r):n<40∧own.length≤64∧fed=true:=by
 unfold Oyez.readLine at h
 split at h
 ·cases h
 ·split at h
  ·cases h
  ·split at h
   ·cases h
   ·rename_i h1 h2 h3
    refine ⟨by omega,by omega,?_⟩
    cases fed<;>simp_all
def cutAt (s:List UInt8):List UInt8:=(Oyez.cutLine s).2.2
theorem Acc.more {σ g:Za} {k:Nat} {v:AV} {l:List AV} {o:Option Nat} (h:Acc σ g k v l o) (y:Za):Acc σ (g++y) k v l o:=⟨h.len,by
 have:=h.val
 cases o with
 | none=>exact this
 | some j=>exact ⟨this.1,by rw [Qzl (Qzs.1 this.2).1];exact this.2⟩⟩
theorem Acc.base {σ σ' g:Za} {k:Nat} {v:AV} {l:List AV} {o:Option Nat} (h:Acc σ g k v l o) (hl:σ.length=σ'.length):Acc σ' g k v l o:=⟨h.len,by
 have hv:=h.val
 cases o with
 | none=>exact hv
 | some j=>rw [← hl];exact hv⟩
def glue (f:List Oyez.Rec) (p:Oyez.Parsed):Oyez.Parsed:=if p.err=0 then ⟨f++p.recs,0,0,0⟩ else p
theorem Ubm {own:List UInt8} {fed:Bool} {n:Nat} {w:Nat} {e:Int} (h:Oyez.readLine own fed n=.error (w,e)):e≠0:=by
 unfold Oyez.readLine at h
 repeat' split at h
 all_goals first
  | (cases h;decide)
  | cases h
theorem Zex:∀ (l:List (Oyez.S × Bool)) (p:Option Oyez.Place) (n:Nat),(Oyez.parseLines l p n).err=0→(Oyez.parseLines l p n).line=0∧(Oyez.parseLines l p n).word=0:=by
 intro l
 induction l with
 | nil=>intro p n _;exact ⟨rfl,rfl⟩
 | cons x t ih =>
  intro p n h
  obtain ⟨own,ended⟩:=x
  rw [Oyez.parseLines] at h ⊢
  split at h
  ·rename_i w e he
   exact absurd h (Ubm he)
  ·rename_i r hr
   simp only at h ⊢
   split at h
   ·cases h
   ·rename_i h2
    rw [if_neg h2]
    split at h
    ·rename_i h3;rw [if_pos h3];exact ⟨rfl,rfl⟩
    ·rename_i h3;exact absurd h h3
theorem Zee (s:List UInt8):glue [] (Oyez.parse s)=Oyez.parse s:=by
 unfold glue
 split
 ·rename_i h
  have:=Zex _ _ _ h
  unfold Oyez.parse at h ⊢
  generalize Oyez.parseLines (Oyez.linesOf s) none 0=p at *
  obtain ⟨a,b,c,d⟩:=p
  simp_all
 ·rfl
def Wac (f:List Oyez.Rec):Option Oyez.Place:=f.getLast?.map Oyez.Rec.place
def Vhv (s:List UInt8) (at_:Nat) (f:List Oyez.Rec):Oyez.Parsed:=glue f (Oyez.parseLines (Oyez.linesOf (s.drop at_)) (Wac f) f.length)
end Ab
namespace Ab
open Go Go.Proofs
attribute [local irreducible] aws awp aw1 Og Om Oc Oa Ogd Ov Ot awd Zb Wb Vb QFn Ub ACode ACalls AYield
end Ab
namespace Ab
open Go Go.Proofs
attribute [local irreducible] aws awp aw1 Og Om Oc Oa Ogd Ov Ot awd Zb Wb Vb QFn Ub ACode ACalls AYield
theorem Xc0 (s:Oyez.S):(Oyez.sums s).1<65537∧(Oyez.sums s).2<65537:=by
 rw [Oyez.sums_eq];exact ⟨Nat.mod_lt _ (by decide),Nat.mod_lt _ (by decide)⟩
theorem Ubu {w:List UInt8} {most n:Nat} (h:Oyez.value w most=some n):n≤most:=by
 unfold Oyez.value at h
 split at h
 ·cases h
 ·split at h
  ·cases h
  ·split at h
   ·cases h
   ·split at h
    ·split at h
     ·cases h
     ·cases h;omega
    ·cases h
def Yib (x:Except Int (List UInt8 × Nat × Nat)):AV:=match x with
 | .error e=>.tup [.str [],.int .i64 e]
 | .ok (b,m,n)=>.tup [.str b,.int .i64 (if Oyez.sums b=(m,n) then 0 else 8)]
end Ab
namespace Ab
open Go Go.RowKit
variable [Mode]
variable {P:Program}
def Yat (ops:List Oper) (H:List Nat) (W:List (Nat × Nat)):Bool :=
 let ms:=Uq ops
 (List.range ops.length).all fun i=>H.contains i||((ops[i]?).map isLit).getD false||(List.range (H.length+1)).all fun m =>
  (m == H.countP (fun h=>decide (h<i)))||W.contains (i,m) ||
   H.zipIdx.any fun (h,p)=>(bef ms i h&&!decide (p<m))||(bef ms h i&&!decide (m≤p))
theorem Xe4 {o:Oper} {v:AV} {s:Za} {env:Env} (h:((some o).map isLit).getD false=true):¬ Vh P o v s env s:=by
 have h:isLit o=true:=h
 intro hf
 unfold Vh aw1 at hf
 split at hf
 ·rename_i f args ts hop
  unfold isLit at h
  rw [hop] at h
  cases h
 ·split at hf
  ·rename_i v' s' hop
   exact Vhi h hop hf.2
  ·exact hf
theorem Done.drawsL {ops:List Oper} {H:List Nat} {W:List (Nat × Nat)} {env0:Env} {σ:Za} {rs:List AV} {es:List Env} {ss:List Za} (hok:Xq ops H=true) (hlv:Yat ops H W=true) (hs0:ss[0]? = some σ)
  (hd:Done P ops H env0 ops.length rs es ss) (hW:∀ x∈W,match ops[x.1]?,rs[x.1]?,es[x.1]?,ss[x.2]? with
   | some o,some v,some e,some s=>Vg ops e.t o.guard=some false∨Vh P o v s e s
   | _,_,_,_=>False):Draws P ops H env0 σ (rOf rs) (sOf ss):=by
 obtain ⟨_,_,hHlt,hHord⟩:=Wam hok
 refine ⟨by simp [sOf,hs0],fun i o ho hi=>?_,fun p i o hp ho=>?_⟩
 ·have hlt:=(Qzs.1 ho).1
  have hcc:H.contains i=false:=by simpa using hi
  have hc:=Zak hHord i
  rw [hcc] at hc
  simp only [Bool.false_eq_true,if_false,Nat.add_zero] at hc
  rcases hd.one i o hlt ho with ⟨h1,h2⟩ | ⟨h1,h2,_⟩
  ·rcases h2 with ⟨_,h2⟩ | h2
   ·exact .inl ⟨h1,.inl h2⟩
   refine .inl ⟨h1,.inr fun m hm hall=>?_⟩
   rw [hc] at h2
   by_cases e:m=H.countP (fun h=>decide (h<i))
   ·subst e;exact h2
   ·unfold Yat at hlv
    simp only [List.all_eq_true,List.mem_range,Bool.or_eq_true] at hlv
    rcases hlv i hlt with (h | h) | h
    ·rw [hcc] at h;cases h
    ·rw [ho] at h
     exact absurd h2 (Xe4 h)
    ·rcases h m (by omega) with (h | h) | h
     ·simp at h;exact absurd h e
     ·have:=hW (i,m) (by simpa using h)
      simp only at this
      rw [ho] at this
      have hr:=Qze (show i<rs.length by rw [hd.rl];exact hlt)
      have he:=Qze (show i<es.length by rw [hd.el];exact hlt)
      have hsl:=hd.sl
      have hcn:H.countP (fun h=>decide (h<ops.length))=H.length:=by
       rw [List.countP_eq_length]
       intro a ha
       obtain ⟨q,hq⟩:=List.mem_iff_getElem?.1 ha
       simpa using hHlt q a hq
      have hs:=Qze (show m<ss.length by omega)
      rw [hr,he,hs] at this
      simp only at this
      have e1:=hd.env i _ he
      rcases this with this | this
      ·rw [e1,h1] at this;cases this
      ·rw [e1] at this
       have e2:rs[i]'(by rw [hd.rl];exact hlt)=rOf rs i:=by simp [rOf,hr]
       have e3:ss[m]'(by omega)=sOf ss m:=by simp [sOf,hs]
       rw [e2,e3] at this
       exact this
     ·rw [List.any_eq_true] at h
      obtain ⟨⟨h',p⟩,hmem,hx⟩:=h
      have hp:=List.mem_zipIdx_iff_getElem?.1 hmem
      simp only at hp hx
      have hpp:H[p]? = some h':=by simpa using hp
      obtain ⟨a1,a2⟩:=hall p h' hpp
      simp only [Bool.or_eq_true,Bool.and_eq_true,Bool.not_eq_true',decide_eq_false_iff_not] at hx
      rcases hx with ⟨b1,b2⟩ | ⟨b1,b2⟩
      ·exact absurd (a1 b1) b2
      ·exact absurd (a2 b1) b2
  ·exact .inr ⟨h1,h2⟩
 ·have hlt:=(Qzs.1 ho).1
  have hcp:H.countP (fun h=>decide (h<i))=p:=by
   have hpl:=(Qzs.1 hp).1
   have e1:(H.take p).countP (fun h=>decide (h<i))=p:=by
    rw [List.countP_eq_length.2]
    ·simp;omega
    ·intro a ha
     obtain ⟨q,hq⟩:=List.mem_iff_getElem?.1 ha
     have hql:=(Qzs.1 hq).1
     simp at hql
     rw [List.getElem?_take_of_lt (by omega)] at hq
     simpa using hHord q p a i hq hp (by omega)
   have e2:(H.drop p).countP (fun h=>decide (h<i))=0:=by
    rw [List.countP_eq_zero]
    intro a ha
    obtain ⟨q,hq⟩:=List.mem_iff_getElem?.1 ha
    rw [List.getElem?_drop] at hq
    rcases Nat.eq_zero_or_pos q with h0 | h0
    ·subst h0;simp at hq;rw [hp] at hq;simp at hq;subst hq;simp
    ·have:=hHord p (p+q) i a hp hq (by omega)
     simp;omega
   rw [← List.take_append_drop p H,List.countP_append,e1,e2,Nat.add_zero]
  have hc:=Zak hHord i
  have hci:H.contains i=true:=by simpa using mem_of_getElem? hp
  rw [hci] at hc
  simp only [if_true] at hc
  rw [hcp] at hc
  rcases hd.one i o hlt ho with ⟨h1,h2⟩ | ⟨h1,h2,h3⟩
  ·rcases h2 with ⟨h2,_⟩ | h2
   ·rw [hci] at h2;cases h2
   rw [hc,hcp] at h2;exact .inl ⟨h1,h2⟩
  ·rw [hc,hcp] at h3;exact .inr ⟨h1,h2,h3⟩
theorem Uhl {ops:List Oper} {H:List Nat} {W:List (Nat × Nat)} {K:Env→Za→Prop} {env0:Env} {σ:Za} (hok:Xq ops H=true) (hlv:Yat ops H W=true):∀ (rest dn:List Oper) (i:Nat) (s:Za) (rs:List AV) (es:List Env) (ss:List Za),ops=dn++rest→dn.length=i →
  Done P ops H env0 i rs es ss→ss[0]? = some σ→sOf ss (H.countP (fun h=>decide (h<i)))=s→adr P ops H W K rest i (Ua ops (rOf rs) env0 tr i) s rs es ss →
  ∃ (r:Nat→AV) (S:Nat→Za),Draws P ops H env0 σ r S∧K (Ua ops r env0 tr ops.length) (S H.length):=by
 obtain ⟨_,_,hHlt,hHord⟩:=Wam hok
 intro rest
 induction rest with
 | nil =>
  intro dn i s rs es ss h1 h2 hd hs0 hs h
  simp at h1
  subst h1
  subst h2
  obtain ⟨hW,hK⟩:=h
  have hcn:H.countP (fun h=>decide (h<ops.length))=H.length:=by
   rw [List.countP_eq_length]
   intro a ha
   obtain ⟨q,hq⟩:=List.mem_iff_getElem?.1 ha
   simpa using hHlt q a hq
  refine ⟨rOf rs,sOf ss,hd.drawsL hok hlv hs0 hW,?_⟩
  rw [hcn] at hs
  rw [hs]
  exact hK
 | cons o rest ih =>
  intro dn i s rs es ss h1 h2 hd hs0 hs h
  have ho:ops[i]? = some o:=by rw [h1,← h2];simp
  have hc:=Zak hHord i
  have hrl:=hd.rl
  have hsl:=hd.sl
  have next:∀ (v:AV) (ss':List Za) (s':Za),(if H.contains i then ss'=ss++[s'] else ss'=ss∧s'=s) →
    ((Vg ops (Ua ops (rOf rs) env0 tr i).t o.guard=some true∧((H.contains i=false∧Lit P o v (Ua ops (rOf rs) env0 tr i))∨Vh P o v s' (Ua ops (rOf rs) env0 tr i) s)) ∨
      (Vg ops (Ua ops (rOf rs) env0 tr i).t o.guard=some false∧v=.tup []∧s'=s)) →
    adr P ops H W K rest (i+1) ((Ua ops (rOf rs) env0 tr i).put o.dst v) s' (rs++[v]) (es++[Ua ops (rOf rs) env0 tr i]) ss' →
    ∃ (r:Nat→AV) (S:Nat→Za),Draws P ops H env0 σ r S∧K (Ua ops r env0 tr ops.length) (S H.length):=by
   intro v ss' s' hss hw hrest
   have hs1:sOf ss' (H.countP (fun h=>decide (h<i)))=s:=by
    rw [← hs]
    split at hss
    ·rw [hss]
     simp only [sOf,List.getD_eq_getElem?_getD]
     rw [Qzl (by omega)]
    ·rw [hss.1]
   have hs2:sOf ss' (H.countP (fun h=>decide (h<i+1)))=s':=by
    rw [hc]
    split at hss
    ·rename_i hcc
     rw [hss,if_pos hcc]
     simp only [sOf,List.getD_eq_getElem?_getD]
     rw [Qzr (by omega),hsl]
     simp
    ·rename_i hcc
     rw [if_neg hcc,Nat.add_zero,hss.1,hs,hss.2]
   have hd':=hd.step (v:=v) (ss':=ss') hHord ho (by
    split
    ·rename_i hcc;rw [if_pos hcc] at hss;exact ⟨s',hss⟩
    ·rename_i hcc;rw [if_neg hcc] at hss;exact hss.1) (by rw [hs1,hs2];exact hw)
   have henv:Ua ops (rOf (rs++[v])) env0 tr (i+1)=(Ua ops (rOf rs) env0 tr i).put o.dst v:=by
    simp only [Ua,ho,tr,if_true]
    rw [Vax i (by omega),Option.bind_some]
    congr 1
    simp only [rOf,List.getD_eq_getElem?_getD]
    rw [Qzr (by omega),hrl]
    simp
   refine ih (dn++[o]) (i+1) s' _ _ ss' (by simp [h1]) (by simp [h2]) hd' ?_ hs2 ?_
   ·split at hss
    ·rw [hss,Qzl (by omega)];exact hs0
    ·rw [hss.1];exact hs0
   ·rw [henv];exact hrest
  unfold adr at h
  split at h
  ·rename_i hw
   rcases h with ⟨v,hlit,hf,hr⟩ | h
   ·have hcc:H.contains i=false:=by
     rw [Bool.and_eq_true,Bool.not_eq_true'] at hlit
     exact hlit.2
    exact next v _ s (by rw [hcc];exact ⟨rfl,rfl⟩) (.inl ⟨hw,.inl ⟨hcc,hf⟩⟩) hr
   split at h
   ·split at h
    ·rename_i hcc
     obtain ⟨v,s',hf,hr⟩:=h
     exact next v _ s' (by rw [if_pos hcc]) (.inl ⟨hw,.inr hf⟩) hr
    ·rename_i hcc
     obtain ⟨v,hf,hr⟩:=h
     exact next v _ s (by rw [if_neg hcc];exact ⟨rfl,rfl⟩) (.inl ⟨hw,.inr hf⟩) hr
   ·rename_i hcall
    split at h
    ·rename_i v s' hop
     have hf:=Vcl (by simpa using hcall) hop
     split at h
     ·rename_i hcc
      exact next v _ s' (by rw [if_pos hcc]) (.inl ⟨hw,.inr hf⟩) h
     ·rename_i hcc
      obtain ⟨rfl,hr⟩:=h
      exact next v _ s' (by rw [if_neg hcc];exact ⟨rfl,rfl⟩) (.inl ⟨hw,.inr hf⟩) hr
    ·cases h
  ·rename_i hw
   split at h
   ·rename_i hcc
    exact next (.tup []) _ s (by rw [if_pos hcc]) (.inr ⟨hw,rfl,rfl⟩) h
   ·rename_i hcc
    exact next (.tup []) _ s (by rw [if_neg hcc];exact ⟨rfl,rfl⟩) (.inr ⟨hw,rfl,rfl⟩) h
  ·cases h
theorem Yf1 {rd:Option Nat} {id:Nat} {opsA:Array Oper} {Q:Exit→Env→Za→Prop} {env:Env} {σ:Za} (H:List Nat) (W:List (Nat × Nat)) (hm:P.follows .mixedOrders=true) (hok:(Xq opsA.toList H&&Yat opsA.toList H W)=true)
  (h:adr P opsA.toList H W (Q .normal) opsA.toList 0 env σ [] [] [σ]):ACode P rd (.region id opsA true) Q env σ:=by
 rw [Bool.and_eq_true] at hok
 obtain ⟨r,S,hd,hK⟩:=Uhl (P:=P) (env0:=env) (σ:=σ) hok.1 hok.2 opsA.toList [] 0 σ [] [] [σ] rfl rfl ⟨rfl,rfl,by simp,fun j e h=>by simp at h,fun j o h=>by omega⟩ rfl (by simp [sOf]) h
 exact Xbw hm H r S hok.1 hd (by simpa using hK)
theorem Us {rd:Option Nat} {id:Nat} {opsA:Array Oper} {Q:Exit→Env→Za→Prop} {env:Env} {σ:Za} (H:List Nat) (W:List (Nat × Nat)) (hm:P.follows .mixedOrders=true)
  (hok:(Xq opsA.toList H&&Yat opsA.toList H W)=true) (hW:(W.all fun x=>decide (x.1<opsA.toList.length))=true)
  (h:awv P opsA.toList H W (Q .normal) opsA.toList 0 env σ [σ] []):@StC _ P rd ⟨.region id opsA true⟩ ⟨Q⟩ env σ :=
 Yf1 H W hm hok (Uch (fun x hx=>by simpa using List.all_eq_true.1 hW x hx) opsA.toList [] _ _ _ _ _ _ rfl rfl rfl (fun x _ hlt=>by simp at hlt) h)
end Ab
namespace Oyez
variable {α:Type} [DecidableEq α]
def Ybg (a:α) (f:List α→Nat):List α→Nat
 | []=>0
 | b::y=>if a=b then max (max (f (b::y)) (Ybg a f y)) (f y+1) else max (f (b::y)) (Ybg a f y)
def lcs:List α→List α→Nat
 | [],_=>0
 | a::x,y=>Ybg a (lcs x) y
inductive Far:Nat→List α→List α→Prop
 | nil:Far 0 [] []
 | keep {n x y} (a:α):Far n x y→Far n (a::x) (a::y)
 | del {n x y} (a:α):Far n x y→Far (n+1) (a::x) y
 | ins {n x y} (b:α):Far n x y→Far (n+1) x (b::y)
theorem Far.symm {n:Nat} {x y:List α} (h:Far n x y):Far n y x:=by
 induction h with
 | nil=>exact .nil
 | keep a _ ih=>exact .keep a ih
 | del a _ ih=>exact .ins a ih
 | ins b _ ih=>exact .del b ih
theorem Far.eq {x y:List α} (h:Far 0 x y):x=y:=by
 generalize hn:0=n at h
 induction h with
 | nil=>rfl
 | keep a _ ih=>rw [ih hn]
 | del a _ ih=>omega
 | ins b _ ih=>omega
theorem Far.trans {n:Nat} {x y:List α} (h:Far n x y):∀ {m:Nat} {z:List α},Far m y z→∃ k,k≤n+m∧Far k x z:=by
 induction h with
 | nil=>exact fun h=>⟨_,by omega,h⟩
 | @keep n x y a h ih =>
  intro m z h'
  generalize hy:a::y=y' at h'
  induction h' with
  | nil=>cases hy
  | keep b h' _=>cases hy;obtain ⟨k,hk,hf⟩:=ih h';exact ⟨k,hk,.keep _ hf⟩
  | del b h' _=>cases hy;obtain ⟨k,hk,hf⟩:=ih h';exact ⟨k+1,by omega,.del _ hf⟩
  | ins b h' ih'=>obtain ⟨k,hk,hf⟩:=ih' hy;exact ⟨k+1,by omega,.ins _ hf⟩
 | @del n x y a h ih =>
  intro m z h'
  obtain ⟨k,hk,hf⟩:=ih h'
  exact ⟨k+1,by omega,.del _ hf⟩
 | @ins n x y b h ih =>
  intro m z h'
  generalize hy:b::y=y' at h'
  induction h' with
  | nil=>cases hy
  | keep c h' _=>cases hy;obtain ⟨k,hk,hf⟩:=ih h';exact ⟨k+1,by omega,.ins _ hf⟩
  | del c h' _=>cases hy;obtain ⟨k,hk,hf⟩:=ih h';exact ⟨k,by omega,hf⟩
  | ins c h' ih'=>obtain ⟨k,hk,hf⟩:=ih' hy;exact ⟨k+1,by omega,.ins _ hf⟩
def Xhv (x y:List α):Nat:=x.length+y.length - 2*lcs x y
end Oyez
namespace Ab
open Go Go.RowKit Go.Proofs
def Wfi (l:List Int):AV:=.pl 1 (l.map fun x=>.int .i64 x)
def Yhw (l:List (List Int)):AV:=.pl 1 (l.map fun x=>Wfi x)
def Wz {α:Type} (l:List α) (p:α→Bool):Int:=match l.findIdx? p with | some i=>i | none=>-1
theorem Uho {α:Type} {l:List α} {p:α→Bool} {i:Nat} (h:i<l.length) (hd:∀ x∈l.take i,p x=false) (hx:p l[i]=false):∀ x∈l.take (i+1),p x=false:=by
 intro x hm
 rw [Qzt h] at hm
 rcases List.mem_append.1 hm with hm | hm
 ·exact hd x hm
 ·rw [List.mem_singleton.1 hm];exact hx
theorem Ybs {α:Type} {l:List α} {p:α→Bool} {i:Nat} (h:i<l.length) (hd:∀ x∈l.take i,p x=false) (hx:p l[i]=true):Wz l p=i:=by
 unfold Wz
 have:l.findIdx? p=some i:=by
  rw [List.findIdx?_eq_some_iff_getElem]
  refine ⟨h,hx,fun j hj=>?_⟩
  have:=hd l[j] (by rw [List.mem_iff_getElem];exact ⟨j,by simp;omega,by simp⟩)
  simp [this]
 rw [this]
theorem Zb2 {α:Type} {l:List α} {p:α→Bool} (hd:∀ x∈l,p x=false):Wz l p=-1:=by
 unfold Wz
 have:l.findIdx? p=none:=by rw [List.findIdx?_eq_none_iff];exact hd
 rw [this]
theorem Ub5 {α:Type} (l:List α) (p:α→Bool):decide (0≤Wz l p)=l.any p:=by
 unfold Wz
 rw [← List.findIdx?_isSome]
 cases l.findIdx? p<;>simp
attribute [local irreducible] aws awp aw1 Og Om Oc Oa Ogd Ov Ot awd Zb awh Xb Ogh Ohd awl Ogl Ohl awv Ogv Ohv Wb Vb QFn Ub QRo QBe ACode AYield
def Wib (w:Int):Bool:=decide (0≤w)&&decide (w≤9)
abbrev R1 (l:List Int):AV:=.pl 1 (l.map fun y=>AV.int .i64 y)
def grid (f:Nat→Nat→Int):List AV:=(List.range 49).map fun n=>AV.int .i64 (f (n / 7) (n % 7))
def Vbn (a b:List Int) (i k:Nat):Int:=Oyez.lcs (a.drop i) (b.drop k)
def Uib (a b:List Int) (i k:Int):Nat→Nat→Int:=fun i' k'=>if i<i'∨((i':Int)=i∧k<k') then Vbn a b i' k' else 0
def etr (a b:List Int):Nat→Nat→Nat→List Int
 | 0,_,_=>[]
 | n+1,i,k=>if h:i<a.length∧k<b.length then (if a[i]=b[k] then a[i]::etr a b n (i+1) (k+1) else if Vbn a b i (k+1)≤Vbn a b (i+1) k then etr a b n (i+1) k else etr a b n i (k+1)) else []
theorem Acc.under {σ g:Za} {X:AObj} {k:Nat} {v:AV} {l:List AV} {o:Option Nat} (h:Acc (σ++[X]) g k v l o):Acc σ (X::g) k v l (o.map (·+1)):=⟨h.len,by
 have hv:=h.val
 cases o with
 | none=>exact hv
 | some j =>
  simp only [Option.map_some,List.length_append,List.length_singleton,List.getElem?_cons_succ] at hv ⊢
  rw [hv.1,show σ.length+1+j=σ.length+(j+1) from by omega]
  exact ⟨rfl,hv.2⟩⟩
end Ab
namespace Ab
open Go Go.RowKit Go.Proofs
def Va1 (ws:List (List UInt8)) (xs:List AV):Prop:=xs=strs ws
def Ya0 (ws:List (List UInt8)) (xs:List AV):Prop:=xs.length=ws.length
theorem Wdg {τ:Za} {q:Nat} (ws:List (List UInt8)) (h:τ[q]? = some (.cells (strs ws))):Fz 0 τ (.arr 1 q 0 ws.length) (Uc ws):=by
 have hl:ws.length=(strs ws).length:=by simp [strs]
 rw [hl]
 refine Fz.arr 1 q 0 (strs ws) (strs ws) (fun i _=>(strs ws).getD i .any) (Nat.zero_le _) h (fun i x hx=>?_) (fun i x hx j y hy=>?_)
 ·have hx':=hx
  simp only [strs,Qzp,Qzm] at hx
  obtain ⟨s,hs,rfl⟩:=hx
  refine ⟨rfl,fun j y hy=>?_⟩
  match j,hy with
  | 0,hy =>
   simp [AV.cells] at hy;subst hy
   refine ⟨rfl,?_⟩
   rw [Nat.zero_add,Nat.mul_one,Nat.add_zero,List.getD_eq_getElem?_getD,hx']
   rfl
  | j+1,hy=>simp [AV.cells] at hy
 ·have hx':=hx
  simp only [strs,Qzp,Qzm] at hx
  obtain ⟨s,hs,rfl⟩:=hx
  match j,hy with
  | 0,hy =>
   simp [AV.cells] at hy;subst hy
   rw [List.getD_eq_getElem?_getD,hx']
   exact .str _
  | j+1,hy=>simp [AV.cells] at hy
end Ab

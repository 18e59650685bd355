/-
  Texts packed for a claim.
-/
import Derived.Test.YtcoikmapjepdjaaGreatDoorE00
import Derived.Laws.MakeOwn
import Derived.Laws.RangeAny
import Derived.Laws.BytesString
import Derived.Lib.MinMax
import Derived.Lib.ConvBytes
import Derived.MapKept
import Derived.Test.YtcoikmapjepdjaaGreatDoorE01
set_option linter.all false
namespace Ab
open Go Go.RowKit
variable [Mode]
variable {P:Program}
def Yy (P:Program) (t:TypeId) (x:AV) (lo hi mx:Option AV):Option AV :=
 match x with
 | .str s =>
  if Yd P t∧mx.isNone then
   match abd lo 0,abd hi s.length with
   | some l,some h=>if l≤h∧h≤s.length then some (.str ((s.take h).drop l)) else none
   | _,_=>none
  else none
 | .pl k xs =>
  match Uc P t with
  | some e=>match tsa P e with
   | some (n,_)=>(match abd lo 0,abd hi xs.length,abd mx xs.length with
    | some l,some h,some m=>if k=n∧l≤h∧h≤m∧m≤xs.length∧(mx.isSome→hi.isSome) then (if mx.isSome∧l=m then some .emp else some (.pl k ((xs.take h).drop l))) else none
    | _,_,_=>none)
   | none=>none
  | none=>none
 | .arr k r off len =>
  match Uc P t with
  | some e=>match tsa P e with
   | some (n,_)=>(match abd lo 0,abd hi len,abd mx len with
    | some l,some h,some m=>if k=n∧l≤h∧h≤m∧m≤len∧(mx.isSome→hi.isSome) then (if mx.isSome∧l=m then some .emp else if l=h then some (.pl k []) else some (.arr k r (off+l) (h - l))) else none
    | _,_,_=>none)
   | none=>none
  | none=>none
 | .nils =>
  match Uc P t with
  | some e=>match tsa P e with
   | some _=>(match abd lo 0,abd hi 0,abd mx 0 with
    | some 0,some 0,some 0=>if mx.isSome→hi.isSome then some .nils else none
    | _,_,_=>none)
   | none=>none
  | none=>none
 | .nn =>
  match Uc P t with
  | some e=>match tsa P e with
   | some _=>(match abd lo 0,abd hi 0,abd mx 0 with
    | some 0,some 0,some 0=>if mx.isSome∧hi.isSome then some .emp else none
    | _,_,_=>none)
   | none=>none
  | none=>none
 | .arc k r off len cap =>
  match Uc P t with
  | some e=>match tsa P e with
   | some (n,_)=>(match abd lo 0,abd hi len,abd mx cap with
    | some l,some h,some m=>if k=n∧l≤h∧h≤m∧m≤cap∧(mx.isSome→hi.isSome) then (if m=l then some .emp else some (.arc k r (off+l) (h - l) (m - l))) else none
    | _,_,_=>none)
   | none=>none
  | none=>none
 | _=>none
theorem Za8 {mx:Option AV} {n cap m:Nat} (h:abd mx n=some m):(mx=none∧m=n∧abd mx cap=some cap)∨(mx.isSome=true∧abd mx cap=some m):=by
 unfold abd at h ⊢
 cases mx with
 | none=>simp at h;exact .inl ⟨rfl,h.symm,rfl⟩
 | some v=>exact .inr ⟨rfl,by cases v<;>first | exact h | (simp at h;done)⟩
theorem Wbb {x:Option AV} {d h:Nat} (e:abd x d=some h) (hn:x=none):h=d:=by subst hn;simp [abd] at e;exact e.symm
theorem Xak {C:Ctx} {t e:TypeId} {n:Nat} {ag:Bool} (hu:P.underlying t=some (.slice e)) (hs:tsa P e=some (n,ag)) {lo hi mx:Option AV} {clo chi cmx:Option Value} (hlo:VO C lo clo) (hhi:VO C hi chi) (hmx:VO C mx cmx)
  {l h m len cap:Nat} (el:abd lo 0=some l) (eh:abd hi len=some h) (em:abd mx cap=some m) (h1:l≤h) (h2:h≤m) (h3:m≤cap) (hm:mx.isSome=true→hi.isSome=true) (A:Option Addr) (w:World) :
  (Instr.sliceAt t (.slice A len cap) clo chi cmx).run P w=.ok (.slice (if m=l then A else A.map (·.add (l*n))) (h - l) (m - l)) w:=by
 simp only [Instr.sliceAt,Sem.run_bind,run_underlying hu,Result.andThen_ok,Instr.slice,Ubm hlo hhi hmx true el eh em h1 h2 h3 hm (Wbb eh) w,Yq w hs,Sem.run_pure]
theorem Yeo {C:Ctx} {t:TypeId} {x v:AV} {c:Value} {lo hi mx:Option AV} {clo chi cmx:Option Value} (hx:VR C x c) (hlo:VO C lo clo) (hhi:VO C hi chi) (hmx:VO C mx cmx) (h:Yy P t x lo hi mx=some v) :
  ∃ r,(Instr.sliceAt t c clo chi cmx).run P C.w=.ok r C.w∧VR C v r:=by
 unfold Yy at h
 split at h
 ·rename_i s
  cases hx
  by_cases hh:Yd P t∧mx.isNone
  case neg=>rw [if_neg hh] at h;cases h
  rw [if_pos hh] at h
  split at h
  case h_2=>cases h
  rename_i l hq el eh
  by_cases h2:l≤hq∧hq≤s.length
  case neg=>rw [if_neg h2] at h;cases h
  rw [if_pos h2] at h
  simp only [Option.some.injEq] at h
  subst h
  have hmn:mx=none:=by cases mx<;>simp_all
  subst hmn
  obtain rfl:=hmx.none_ rfl
  have hb:=Ubm (P:=P) hlo hhi (mx:=none) (cmx:=none) ⟨(fun v h=>by cases h),fun _=>rfl⟩ (l:=l) (h:=hq) (m:=s.length) (len:=s.length) (cap:=s.length) false el eh rfl h2.1 h2.2 (Nat.le_refl _) (by simp) (Wbb eh) C.w
  refine ⟨.string ((⟨⟨s⟩⟩:ByteArray).extract l hq),?_,?_⟩
  ·have e1:(⟨⟨s⟩⟩:ByteArray).size=s.length:=rfl
   simp only [Instr.sliceAt,Sem.run_bind,run_underlying (Ux hh.1),Result.andThen_ok,Instr.slice,Option.isSome_none,Bool.false_eq_true,if_false,e1,hb,Sem.run_pure]
  ·have e2:(⟨⟨s⟩⟩:ByteArray).extract l hq=⟨⟨(s.take hq).drop l⟩⟩:=by
    apply ByteArray.ext
    rw [ByteArray.data_extract]
    simp [List.drop_take]
   rw [e2]
   exact .str _
 ·rename_i k xs
  split at h
  case h_2=>cases h
  rename_i e he
  split at h
  case h_2=>cases h
  rename_i n ag hs
  split at h
  case h_2=>cases h
  rename_i l hq m el eh em
  obtain ⟨A,cap,rfl,hcap,hA⟩:=hx.pl_inv
  by_cases hh:k=n∧l≤hq∧hq≤m∧m≤xs.length∧(mx.isSome→hi.isSome)
  case neg=>rw [if_neg hh] at h;cases h
  rw [if_pos hh] at h
  obtain ⟨rfl,h1,h2,h3,h4⟩:=hh
  have hrun:∃ m',(Instr.sliceAt t (.slice A xs.length cap) clo chi cmx).run P C.w=.ok (.slice (if m'=l then A else A.map (·.add (l*k))) (hq - l) (m' - l)) C.w∧hq≤m'∧m'≤cap∧(mx.isSome=true→m'=m):=by
   rcases Za8 (cap:=cap) em with ⟨e1,e2,e3⟩ | ⟨e1,e2⟩
   ·exact ⟨cap,Xak (Uk he) hs hlo hhi hmx el eh e3 h1 (by omega) (Nat.le_refl _) h4 A C.w,by omega,Nat.le_refl _,by simp [e1]⟩
   ·exact ⟨m,Xak (Uk he) hs hlo hhi hmx el eh e2 h1 h2 (by omega) h4 A C.w,h2,by omega,fun _=>rfl⟩
  obtain ⟨m',hr,hm',hmc0,hmm⟩:=hrun
  have hA0:=hx.pl_cap
  refine ⟨_,hr,?_⟩
  by_cases he':mx.isSome∧l=m
  ·rw [if_pos he'] at h
   simp only [Option.some.injEq] at h
   subst h
   rw [hmm he'.1,if_pos he'.2.symm,show hq - l=0 from by omega,show m - l=0 from by omega]
   exact .emp A
  ·rw [if_neg he'] at h
   simp only [Option.some.injEq] at h
   subst h
   by_cases hlh:l=hq
   ·subst hlh
    have:(xs.take l).drop l=[]:=by simp [List.drop_take]
    rw [this,Nat.sub_self]
    refine .pl0 k _ _ fun h0=>?_
    have hA1:A=none:=by
     cases A with
     | none=>rfl
     | some a=>split at h0<;>cases h0
    have:=hA0 hA1
    omega
   ·rw [if_neg (by omega)]
    rcases hA with rfl | ⟨b,o,rfl,hrow⟩
    ·simp at h3;omega
    ·simp only [Option.map_some,Zp]
     have hlen:((xs.take hq).drop l).length=hq - l:=by simp;omega
     rw [← hlen]
     refine Row.pl ⟨hrow.1,fun i x hx=>?_⟩ (by rw [hlen];omega)
     have hi':=(Qzs.1 hx).1
     rw [hlen] at hi'
     rw [List.getElem?_drop,List.getElem?_take_of_lt (by omega)] at hx
     obtain ⟨q1,q2⟩:=hrow.2 _ x hx
     refine ⟨q1,fun j y hy=>?_⟩
     obtain ⟨q3,q4⟩:=q2 j y hy
     refine ⟨q3,?_⟩
     rw [Nat.add_mul,← Nat.add_assoc] at q4
     exact q4
 ·rename_i k r off len
  split at h
  case h_2=>cases h
  rename_i e he
  split at h
  case h_2=>cases h
  rename_i n ag hs
  split at h
  case h_2=>cases h
  rename_i l hq m el eh em
  obtain ⟨b,cap,e',n',hb,hcap,hsh,hbd,rfl⟩:=hx.arr_inv
  by_cases hh:k=n∧l≤hq∧hq≤m∧m≤len∧(mx.isSome→hi.isSome)
  case neg=>rw [if_neg hh] at h;cases h
  rw [if_pos hh] at h
  obtain ⟨rfl,h1,h2,h3,h4⟩:=hh
  have hrun:∃ m',(Instr.sliceAt t (.slice (some ⟨b,off*k,none⟩) len cap) clo chi cmx).run P C.w=.ok (.slice (if m'=l then some ⟨b,off*k,none⟩ else (some (⟨b,off*k,none⟩:Addr)).map (·.add (l*k))) (hq - l) (m' - l)) C.w∧hq≤m'∧m'≤cap∧(mx.isSome=true→m'=m):=by
   rcases Za8 (cap:=cap) em with ⟨e1,e2,e3⟩ | ⟨e1,e2⟩
   ·exact ⟨cap,Xak (Uk he) hs hlo hhi hmx el eh e3 h1 (by omega) (Nat.le_refl _) h4 _ C.w,by omega,Nat.le_refl _,by simp [e1]⟩
   ·exact ⟨m,Xak (Uk he) hs hlo hhi hmx el eh e2 h1 h2 (by omega) h4 _ C.w,h2,by omega,fun _=>rfl⟩
  obtain ⟨m',hr,hm',hmc,hmm⟩:=hrun
  refine ⟨_,hr,?_⟩
  by_cases he':mx.isSome∧l=m
  ·rw [if_pos he'] at h
   simp only [Option.some.injEq] at h
   subst h
   rw [hmm he'.1,if_pos he'.2.symm,show hq - l=0 from by omega,show m - l=0 from by omega]
   exact .emp _
  ·rw [if_neg he'] at h
   by_cases hlh:l=hq
   ·rw [if_pos hlh] at h
    simp only [Option.some.injEq] at h
    subst h
    rw [show hq - l=0 from by omega]
    exact .pl0 k _ _ fun h0=>by split at h0<;>cases h0
   ·rw [if_neg hlh] at h
    simp only [Option.some.injEq] at h
    subst h
    rw [if_neg (by omega)]
    simp only [Option.map_some,Zp,← Nat.add_mul]
    refine .arr k r (off+l) (hq - l) b (m' - l) e' n' hb (by omega) hsh ⟨Nat.le_trans (Nat.mul_le_mul_right _ (by omega)) hbd.1,hbd.2⟩
 ·split at h
  case h_2=>cases h
  rename_i e he
  split at h
  case h_2=>cases h
  rename_i q hs
  obtain ⟨n,ag⟩:=q
  split at h
  case h_2=>cases h
  rename_i el eh em
  cases hx
  by_cases hh:mx.isSome→hi.isSome
  case neg=>rw [if_neg hh] at h;cases h
  rw [if_pos hh] at h
  simp only [Option.some.injEq] at h
  subst h
  exact ⟨_,Xak (Uk he) hs hlo hhi hmx el eh em (Nat.le_refl _) (Nat.le_refl _) (Nat.le_refl _) hh none C.w,.nils⟩
 ·split at h
  case h_2=>cases h
  rename_i e he
  split at h
  case h_2=>cases h
  rename_i q hs
  obtain ⟨n,ag⟩:=q
  split at h
  case h_2=>cases h
  rename_i el eh em
  cases hx
  rename_i a cap
  by_cases hh:mx.isSome∧hi.isSome
  case neg=>rw [if_neg hh] at h;cases h
  rw [if_pos hh] at h
  simp only [Option.some.injEq] at h
  subst h
  rcases Za8 (cap:=cap) em with ⟨e1,e2,e3⟩ | ⟨e1,e2⟩
  ·rw [e1] at hh;simp at hh
  ·exact ⟨_,Xak (Uk he) hs hlo hhi hmx el eh e2 (Nat.le_refl _) (Nat.le_refl _) (Nat.zero_le _) (fun _=>hh.2) (some a) C.w,.emp _⟩
 ·rename_i k r off len cap
  split at h
  case h_2=>cases h
  rename_i e he
  split at h
  case h_2=>cases h
  rename_i n ag hs
  split at h
  case h_2=>cases h
  rename_i l hq m el eh em
  obtain ⟨b,e',n',hb,hcap,hsh,hbd,rfl⟩:=hx.arc_inv
  by_cases hh:k=n∧l≤hq∧hq≤m∧m≤cap∧(mx.isSome→hi.isSome)
  case neg=>rw [if_neg hh] at h;cases h
  rw [if_pos hh] at h
  obtain ⟨rfl,h1,h2,h3,h4⟩:=hh
  refine ⟨_,Xak (Uk he) hs hlo hhi hmx el eh em h1 h2 h3 h4 _ C.w,?_⟩
  by_cases hlh:m=l
  ·rw [if_pos hlh] at h
   simp only [Option.some.injEq] at h
   subst h
   rw [show hq - l=0 from by omega,show m - l=0 from by omega]
   exact .emp _
  ·rw [if_neg hlh] at h
   simp only [Option.some.injEq] at h
   subst h
   rw [if_neg hlh]
   simp only [Option.map_some,Zp,← Nat.add_mul]
   exact .arc k r (off+l) (hq - l) b (m - l) e' n' hb (by omega) hsh ⟨Nat.le_trans (Nat.mul_le_mul_right _ (by omega)) hbd.1,hbd.2⟩
 ·cases h
def Zau (P:Program) (t:TypeId) (r o:Nat) (lo hi mx:Option AV) (σ:Za):Option AV :=
 match Um P t,σ[r]? with
 | some (m,e),some (.cells cs)=>if tsa P e=some (1,false)∧mx.isNone∧o+m≤cs.length then (match abd lo 0,abd hi m with
  | some l,some h=>if l≤h∧h≤m then (if l=h then some (.pl 1 []) else some (.arr 1 r (o+l) (h - l))) else none
  | _,_=>none) else none
 | _,_=>none
def Xv (P:Program) (t:TypeId) (x:AV) (lo hi mx:Option AV) (σ:Za):Option AV :=
 match x with
 | .ptr r o=>Zau P t r o lo hi mx σ
 | y=>Yy P t y lo hi mx
theorem Ye0 (P:Program) (t:TypeId) (s:List UInt8) (lo hi mx:Option AV) (σ:Za):Xv P t (.str s) lo hi mx σ=Yy P t (.str s) lo hi mx:=rfl
theorem Zdu (P:Program) (t:TypeId) (k:Nat) (l:List AV) (lo hi mx:Option AV) (σ:Za):Xv P t (.pl k l) lo hi mx σ=Yy P t (.pl k l) lo hi mx:=rfl
theorem Wd6 (P:Program) (t:TypeId) (k r off len:Nat) (lo hi mx:Option AV) (σ:Za):Xv P t (.arr k r off len) lo hi mx σ=Yy P t (.arr k r off len) lo hi mx:=rfl
theorem Yec (P:Program) (t:TypeId) (k r off len cap:Nat) (lo hi mx:Option AV) (σ:Za):Xv P t (.arc k r off len cap) lo hi mx σ=Yy P t (.arc k r off len cap) lo hi mx:=rfl
theorem Xfv (P:Program) (t:TypeId) (lo hi mx:Option AV) (σ:Za):Xv P t .nils lo hi mx σ=Yy P t .nils lo hi mx:=rfl
theorem Udm (P:Program) (t:TypeId) (lo hi mx:Option AV) (σ:Za):Xv P t .emp lo hi mx σ=Yy P t .emp lo hi mx:=rfl
theorem Xdk (P:Program) (t:TypeId) (lo hi mx:Option AV) (σ:Za):Xv P t .nn lo hi mx σ=Yy P t .nn lo hi mx:=rfl
theorem Xgi (P:Program) (t:TypeId) (r o:Nat) (lo hi mx:Option AV) (σ:Za):Xv P t (.ptr r o) lo hi mx σ=Zau P t r o lo hi mx σ:=rfl
theorem Zfs {C:Ctx} {σ:Za} (hI:Inv C σ) {t:TypeId} {r o:Nat} {v:AV} {c:Value} {lo hi mx:Option AV} {clo chi cmx:Option Value} (hx:VR C (.ptr r o) c) (hlo:VO C lo clo) (hhi:VO C hi chi) (hmx:VO C mx cmx) (h:Zau P t r o lo hi mx σ=some v) :
  ∃ r,(Instr.sliceAt t c clo chi cmx).run P C.w=.ok r C.w∧VR C v r:=by
 unfold Zau at h
 split at h
 case h_2=>cases h
 rename_i m e cs ht hr
 split at h
 case isFalse=>cases h
 rename_i hc
 obtain ⟨hs,hmn,hom⟩:=hc
 split at h
 case h_2=>cases h
 rename_i l hq el eh
 split at h
 case isFalse=>cases h
 rename_i hlh
 obtain ⟨b,hb,rfl⟩:=hx.ptr_inv
 obtain ⟨_,ob,hob,hR⟩:=hI.live r b _ hb hr rfl
 have hu:=Yba ht
 obtain rfl:mx=none:=by simpa using hmn
 have em:abd (none:Option AV) m=some m:=rfl
 have hbd:=Ubm (P:=P) hlo hhi hmx false el eh em hlh.1 hlh.2 (Nat.le_refl m) (by simp) (Wbb eh) C.w
 cases hR with
 | cells _ carr ety lo' hi' g1 g2 g3 =>
  have hsh:C.w.shape? b=some (ety,carr.size):=by unfold World.shape?;rw [hob]
  refine ⟨.slice (some (if m=l then ⟨b,o,none⟩ else (⟨b,o,none⟩:Addr).add (l*1))) (hq - l) (m - l),?_,?_⟩
  ·simp only [Instr.sliceAt,Sem.run_bind,run_underlying hu,Result.andThen_ok,Instr.sureAddr,Sem.run_pure,hbd,Yq C.w hs]
  ·by_cases hlq:l=hq
   ·rw [if_pos hlq] at h
    cases h
    subst hlq
    rw [Nat.sub_self]
    exact .pl0 1 _ _ (fun h=>by cases h)
   ·rw [if_neg hlq] at h
    cases h
    have hml:¬ m=l:=by omega
    rw [if_neg hml,Nat.mul_one,Zp]
    have:=VR.arr (C:=C) 1 r (o+l) (hq - l) b (m - l) ety carr.size hb (by omega) hsh ⟨by omega,.inl rfl⟩
    rwa [Nat.mul_one] at this
theorem Veo {C:Ctx} {σ:Za} (hI:Inv C σ) {t:TypeId} {x v:AV} {c:Value} {lo hi mx:Option AV} {clo chi cmx:Option Value} (hx:VR C x c) (hlo:VO C lo clo) (hhi:VO C hi chi) (hmx:VO C mx cmx) (h:Xv P t x lo hi mx σ=some v) :
  ∃ r,(Instr.sliceAt t c clo chi cmx).run P C.w=.ok r C.w∧VR C v r:=by
 unfold Xv at h
 split at h
 ·exact Zfs hI hx hlo hhi hmx h
 ·exact Yeo hx hlo hhi hmx h
def Zq (P:Program) (t:TypeId):Option (TypeId × TypeId):=match P.underlying t with | some (.map k e)=>some (k,e) | _=>none
theorem Zcc {t k e:TypeId} (h:Zq P t=some (k,e)):P.underlying t=some (.map k e):=by
 unfold Zq at h;split at h
 ·rename_i h1;simp at h;obtain ⟨rfl,rfl⟩:=h;exact h1
 ·cases h
def Xa0 (P:Program) (t:TypeId) (x:AV) (σ:Za):Option AV :=
 match x with
 | .str s=>if Yd P t then some (.int .i64 s.length) else none
 | .pl _ l=>(Uc P t).map fun _=>.int .i64 l.length
 | .arr _ _ _ n=>(Uc P t).map fun _=>.int .i64 n
 | .arc _ _ _ n _=>(Uc P t).map fun _=>.int .i64 n
 | .nils=>(Uc P t).map fun _=>.int .i64 0
 | .emp=>(Uc P t).map fun _=>.int .i64 0
 | .nn=>(Uc P t).map fun _=>.int .i64 0
 | .nilm=>(Zq P t).map fun _=>.int .i64 0
 | .mp r=>(Zq P t).bind fun _=>match σ[r]? with
  | some (.map es)=>some (.int .i64 es.length)
  | _=>none
 | _=>none
theorem Xfc {C:Ctx} {σ:Za} (hI:Inv C σ) {t ty:TypeId} {x v:AV} {c:Value} (hx:VR C x c) (h:Xa0 P t x σ=some v) :
  ∃ r,(Builtin.len_ #[t] ty #[c]).run P C.w=.ok r C.w∧VR C v r:=by
 have sl:∀ {e:TypeId} (A:Option Addr) (n cap:Nat),Uc P t=some e→(Builtin.len_ #[t] ty #[.slice A n cap]).run P C.w=.ok (goInt n) C.w:=fun A n cap he=>by
  simp [Builtin.len_,run_underlying (Uk he)]
 unfold Xa0 at h
 split at h
 ·rename_i s
  cases hx
  by_cases hh:Yd P t=true
  case neg=>rw [if_neg hh] at h;cases h
  rw [if_pos hh] at h
  simp only [Option.some.injEq] at h
  subst h
  exact ⟨_,run_len_string C.w t ty _ (Ux hh),.int _ _⟩
 ·rw [Qzm] at h
  obtain ⟨e,he,rfl⟩:=h
  obtain ⟨A,cap,rfl,_,_⟩:=hx.pl_inv
  exact ⟨_,sl _ _ _ he,.int _ _⟩
 ·rw [Qzm] at h
  obtain ⟨e,he,rfl⟩:=h
  obtain ⟨b,cap,e',n',_,_,_,_,rfl⟩:=hx.arr_inv
  exact ⟨_,sl _ _ _ he,.int _ _⟩
 ·rw [Qzm] at h
  obtain ⟨e,he,rfl⟩:=h
  obtain ⟨b,e',n',_,_,_,_,rfl⟩:=hx.arc_inv
  exact ⟨_,sl _ _ _ he,.int _ _⟩
 ·rw [Qzm] at h
  obtain ⟨e,he,rfl⟩:=h
  cases hx
  exact ⟨_,sl _ _ _ he,.int _ _⟩
 ·rw [Qzm] at h
  obtain ⟨e,he,rfl⟩:=h
  cases hx
  exact ⟨_,sl _ _ _ he,.int _ _⟩
 ·rw [Qzm] at h
  obtain ⟨e,he,rfl⟩:=h
  cases hx
  exact ⟨_,sl _ _ _ he,.int _ _⟩
 ·rw [Qzm] at h
  obtain ⟨⟨k,e⟩,he,rfl⟩:=h
  cases hx
  exact ⟨_,by simp [Builtin.len_,run_underlying (Zcc he)];rfl,.int _ _⟩
 ·rename_i r
  rw [Option.bind_eq_some_iff] at h
  obtain ⟨⟨k,e⟩,he,h⟩:=h
  split at h
  case h_2=>cases h
  rename_i es hr
  simp only [Option.some.injEq] at h
  subst h
  obtain ⟨b,hb,rfl⟩:=hx.mp_inv
  obtain ⟨_,o,ho,hR⟩:=hI.live r b _ hb hr rfl
  cases hR with
  | map _ ces clock hl _ =>
   refine ⟨goInt ces.size,?_,?_⟩
   ·simp [Builtin.len_,run_underlying (Zcc he),getObj,Sem.run,ho]
   ·rw [hl];exact .int _ _
 ·cases h
def Ya2 (P:Program) (t:TypeId) (x:AV):Option AV :=
 match x with
 | .arc _ _ _ _ cap=>(Uc P t).map fun _=>.int .i64 cap
 | _=>none
theorem Whi {C:Ctx} {t ty:TypeId} {x v:AV} {c:Value} (hx:VR C x c) (h:Ya2 P t x=some v) :
  ∃ r,(Builtin.cap_ #[t] ty #[c]).run P C.w=.ok r C.w∧VR C v r:=by
 unfold Ya2 at h
 split at h
 ·rename_i k r off len cap
  rw [Qzm] at h
  obtain ⟨e,he,rfl⟩:=h
  obtain ⟨b,e',n',_,_,_,_,rfl⟩:=hx.arc_inv
  exact ⟨goInt cap,by simp [Builtin.cap_,run_underlying (Uk he)],.int _ _⟩
 ·cases h
def Ve (P:Program) (t:TypeId):Option IntKind:=match P.underlying t with | some (.int k)=>some k | _=>none
theorem Zak {t:TypeId} {k:IntKind} (h:Ve P t=some k):P.underlying t=some (.int k):=by
 unfold Ve at h;split at h
 ·rename_i h1;simp at h;subst h;exact h1
 ·cases h
def Uad (P:Program) (s d:TypeId) (x:AV):Option AV :=
 match x with
 | .int _ n =>
  match Ve P s,Ve P d with
  | some _,some k=>some (.int k (k.wrap n))
  | some _,none=>if Yd P d then some (.str (Utf8.encode n).data.toList) else none
  | _,_=>none
 | .str s'=>if Yd P s∧Yd P d then some (.str s') else none
 | .nils=>(match Uc P s with
  | some e=>if Ve P e=some .u8∧Yd P d=true then some (.str []) else none
  | none=>none)
 | _=>none
theorem Ue2 {C:Ctx} {s d:TypeId} {x v:AV} {c:Value} (hx:VR C x c) (h:Uad P s d x=some v) (w:World):∃ r,(convert s d c).run P w=.ok r w∧VR C v r:=by
 unfold Uad at h
 split at h
 ·rename_i q n
  cases hx
  split at h
  ·rename_i k1 k h1 h2
   simp only [Option.some.injEq] at h
   subst h
   exact ⟨_,by simp only [convert,Sem.run_bind,run_underlying (Zak h1),run_underlying (Zak h2),Result.andThen_ok];rfl,.int _ _⟩
  ·rename_i k1 h1 h2
   by_cases hh:Yd P d=true
   case neg=>rw [if_neg hh] at h;cases h
   rw [if_pos hh] at h
   simp only [Option.some.injEq] at h
   subst h
   refine ⟨.string (Utf8.encode n),by simp only [convert,Sem.run_bind,run_underlying (Zak h1),run_underlying (Ux hh),Result.andThen_ok];rfl,?_⟩
   have:=VR.str (C:=C) (Utf8.encode n).data.toList
   simpa using this
  ·cases h
 ·rename_i s'
  cases hx
  by_cases hh:Yd P s∧Yd P d
  case neg=>rw [if_neg hh] at h;cases h
  rw [if_pos hh] at h
  simp only [Option.some.injEq] at h
  subst h
  exact ⟨_,by simp only [convert,Sem.run_bind,run_underlying (Ux hh.1),run_underlying (Ux hh.2),Result.andThen_ok];rfl,.str _⟩
 ·cases hx
  split at h
  ·rename_i e he
   by_cases hh:Ve P e=some .u8∧Yd P d=true
   case neg=>rw [if_neg hh] at h;cases h
   rw [if_pos hh] at h
   simp only [Option.some.injEq] at h
   subst h
   refine ⟨.string ByteArray.empty,?_,.str []⟩
   rw [run_convert_bytes_string w s d e none 0 0 (Uk he) (Zak hh.1) (Ux hh.2)]
   simp [Conv.bytesToString]
  ·cases h
 ·cases h
end Ab
namespace Ab
open Go Go.RowKit
variable [Mode]
variable {P:Program}
def Ud (place:Nat→Option (Nat × Nat)):List AV→List (Nat × AV)→Option (List AV)
 | cells,[]=>some cells
 | cells,(i,v)::rest =>
  match place i with
  | some (off,size)=>if v.cells.length=size∧off+size≤cells.length∧v.known=true then Ud place (wr cells off v.cells) rest else none
  | none=>none
theorem Vgn (off:Nat):∀ (vs:List Value) (n:Nat) (cells:Array Value),(vs.zipIdx n).foldl (fun cs (x:Value × Nat)=>cs.setIfInBounds (off+x.2) x.1) cells=wrA cells (off+n) vs:=by
 intro vs
 induction vs with
 | nil=>intro n cells;rfl
 | cons v vs ih=>intro n cells;simp only [List.zipIdx_cons,List.foldl_cons,ih,wrA,Nat.add_assoc]
theorem VRs.wr {C:Ctx} {xs ys:List AV} {cs:Array Value} {ds:List Value} {off:Nat} (hx:VRs C xs cs.toList) (hy:VRs C ys ds) (h:off+ys.length≤xs.length):VRs C (wr xs off ys) (wrA cs off ds).toList:=by
 have hl:=hx.len
 have hl2:=hy.len
 simp at hl
 refine ⟨by rw [Ua8 _ _ _ h];simp [Xab,hl],fun i x c h1 h2=>?_⟩
 rw [Zbw _ _ _ _ h] at h1
 have h2':(wrA cs off ds)[i]? = some c:=by simpa using h2
 rw [Wa9 _ _ _ _ (by omega),← hl2] at h2'
 split at h1
 ·rename_i hin
  rw [if_pos hin] at h2'
  exact hy.at_ _ x c h1 h2'
 ·rename_i hin
  rw [if_neg hin] at h2'
  exact hx.at_ i x c h1 (by simpa using h2')
theorem Zay {C:Ctx} {place:Nat→Option (Nat × Nat)}:∀ (parts:List (Nat × AV)) (cparts:List (Nat × Value)) (xs:List AV) (cs:Array Value) (ys:List AV),VRs C xs cs.toList →
  cparts.length=parts.length→(∀ (i:Nat) (p:Nat × AV) (q:Nat × Value),parts[i]? = some p→cparts[i]? = some q→p.1=q.1∧VR C p.2 q.2)→Ud place xs parts=some ys →
  ∃ ds,Instr.fill place cs cparts=some ds∧VRs C ys ds.toList:=by
 intro parts
 induction parts with
 | nil =>
  intro cparts xs cs ys hx hl _ h
  obtain rfl:cparts=[]:=List.eq_nil_of_length_eq_zero (by simpa using hl)
  simp [Ud] at h
  subst h
  exact ⟨cs,rfl,hx⟩
 | cons p parts ih =>
  intro cparts xs cs ys hx hl hp h
  obtain ⟨i,v⟩:=p
  cases cparts with
  | nil=>simp at hl
  | cons q cparts =>
   obtain ⟨i',c⟩:=q
   obtain ⟨h1,hv⟩:=hp 0 _ _ rfl rfl
   simp only at h1 hv
   subst h1
   simp only [Ud] at h
   split at h
   case h_2=>cases h
   rename_i off size hpl
   by_cases hh:v.cells.length=size∧off+size≤xs.length∧v.known=true
   case neg=>rw [if_neg hh] at h;cases h
   rw [if_pos hh] at h
   obtain ⟨hs,hle,hk⟩:=hh
   have hc:=hv.cells hk
   have hcl:=hc.len
   have hxl:=hx.len
   simp at hcl hxl
   obtain ⟨ds,hd,hr⟩:=ih cparts (Ab.wr xs off v.cells) (wrA cs off c.cells.toList) ys (hx.wr hc (by omega)) (by simpa using hl) (fun j p q hp1 hq1=>hp (j+1) p q (by simpa using hp1) (by simpa using hq1)) h
   refine ⟨ds,?_,hr⟩
   have hg:¬ ((c.cells.size≠size||decide (off+c.cells.size > cs.size))=true):=by simp;omega
   simp only [Instr.fill,hpl,if_neg hg]
   rw [← Array.foldl_toList,Array.toList_zipIdx,Vgn]
   simpa using hd
def Xar (P:Program) (t:TypeId):Option (Nat→Option (Nat × Nat)) :=
 match P.underlying t with
 | some (.struct fs)=>if fs.toList.all (fun f=>(tsa P f.type).isSome) then some (fun i=>(fs[i]?).bind fun f=>(tsa P f.type).map fun s=>(f.offset,s.1)) else none
 | some (.array _ e)=>(tsa P e).map fun s=>fun i=>some (i*s.1,s.1)
 | _=>none
def Xe (P:Program) (t:TypeId) (parts:List (Nat × AV)):Option AV :=
 match tz P t,Xar P t with
 | some z,some pl=>if z.known then (Ud pl z.cells parts).map AV.agg else none
 | _,_=>none
theorem run_places (w:World):∀ (fs:List Field),fs.all (fun f=>(tsa P f.type).isSome)=true →
  (fs.mapM fun f=>(do pure (f.offset,← Go.sizeOf f.type):Sem (Nat × Nat))).run P w=.ok (fs.map fun f=>(f.offset,((tsa P f.type).map (·.1)).getD 0)) w:=by
 intro fs
 induction fs with
 | nil=>intro _;rfl
 | cons f fs ih =>
  intro h
  simp only [List.all_cons,Bool.and_eq_true] at h
  obtain ⟨h1,h2⟩:=h
  obtain ⟨⟨n,ag⟩,hs⟩:=Option.isSome_iff_exists.1 h1
  simp only [List.mapM_cons,Sem.run_bind,Yq w hs,Result.andThen_ok,Sem.run_pure,ih h2,List.map_cons,hs,Option.map_some,Option.getD_some]
structure VP (C:Ctx) (parts:List (Nat × AV)) (cparts:List (Nat × Value)):Prop where
 len:cparts.length=parts.length
 at_:∀ (i:Nat) (p:Nat × AV) (q:Nat × Value),parts[i]? = some p→cparts[i]? = some q→p.1=q.1∧VR C p.2 q.2
theorem Vcx {C:Ctx} {t:TypeId} {parts:List (Nat × AV)} {cparts:Array (Nat × Value)} {v:AV} (hp:VP C parts cparts.toList) (h:Xe P t parts=some v) (w:World) :
  ∃ r,(Instr.build t cparts).run P w=.ok r w∧VR C v r:=by
 unfold Xe at h
 split at h
 case h_2=>cases h
 rename_i z pl hz hpl
 by_cases hk:z.known=true
 case neg=>rw [if_neg hk] at h;cases h
 rw [if_pos hk,Qzm] at h
 obtain ⟨ys,hf,rfl⟩:=h
 obtain ⟨zv,hzr,hzv⟩:=Xat hz
 have hzc:=(hzv C).cells hk
 obtain ⟨ds,hd,hr⟩:=Zay parts cparts.toList z.cells zv.cells ys hzc hp.len hp.at_ hf
 refine ⟨.agg ds,?_,by have:=VR.agg ys ds.toList hr.len hr.at_;simpa using this⟩
 unfold Xar at hpl
 split at hpl
 ·rename_i fs hu
  by_cases ha:fs.toList.all (fun f=>(tsa P f.type).isSome)=true
  case neg=>rw [if_neg ha] at hpl;cases hpl
  rw [if_pos ha] at hpl
  simp only [Option.some.injEq] at hpl
  subst hpl
  have hm:(fs.mapM fun f=>(do pure (f.offset,← Go.sizeOf f.type):Sem (Nat × Nat))).run P w=.ok (fs.map fun f=>(f.offset,((tsa P f.type).map (·.1)).getD 0)) w:=by
   rw [Array.mapM_eq_mapM_toList,Sem.run_map,run_places w _ ha]
   simp only [Result.andThen_ok]
   congr 1
   apply Array.ext'
   simp
  have he:(fun i:Nat=>(fs.map fun f:Field=>(f.offset,((tsa P f.type).map (·.1)).getD 0))[i]?)=(fun i:Nat=>(fs[i]?).bind fun f:Field=>(tsa P f.type).map fun s=>(f.offset,s.1)):=by
   funext i
   rw [Array.getElem?_map]
   cases hfi:fs[i]? with
   | none=>rfl
   | some f =>
    have:f∈fs.toList:=by
     obtain ⟨hlt,rfl⟩:=Array.getElem?_eq_some_iff.1 hfi
     exact Array.getElem_mem_toList hlt
    have:=List.all_eq_true.1 ha f this
    obtain ⟨s,hs⟩:=Option.isSome_iff_exists.1 this
    simp [hs]
  simp only [Instr.build,Sem.run_bind,hzr,Result.andThen_ok,run_underlying hu,hm]
  rw [he,hd]
  rfl
 ·rename_i n e hu
  rw [Qzm] at hpl
  obtain ⟨⟨m,ag⟩,hs,rfl⟩:=hpl
  simp only [Instr.build,Sem.run_bind,hzr,Result.andThen_ok,run_underlying hu,Yq w hs]
  rw [hd]
  rfl
 ·cases hpl
def Xs (P:Program) (e:TypeId) (n:Nat):Option (List AV) :=
 match tsa P e,tz P e with
 | some (k,_),some z=>if z.known=true∧z.cells.length=k∧0<k then some ((List.range (n*k)).map fun i=>z.cells.getD (i % k) .any) else none
 | _,_=>none
theorem Ua4 {C:Ctx} {e:TypeId} {n:Nat} {xs:List AV} (h:Xs P e n=some xs):∃ (k:Nat) (ag:Bool) (zv:Value),tsa P e=some (k,ag)∧0<k∧(∀ w,(zeroValue e).run P w=.ok zv w)∧zv.cells.size=k ∧
  VRs C xs ((Array.range (n*k)).map fun i=>zv.cells[i % zv.cells.size]!).toList:=by
 unfold Xs at h
 split at h
 case h_2=>cases h
 rename_i k ag z hs hz
 by_cases hh:z.known=true∧z.cells.length=k∧0<k
 case neg=>rw [if_neg hh] at h;cases h
 rw [if_pos hh] at h
 simp only [Option.some.injEq] at h
 subst h
 obtain ⟨hk,hl,h0⟩:=hh
 obtain ⟨zv,hzr,hzv⟩:=Xat hz
 have hc:=(hzv C).cells hk
 have hcl:=hc.len
 simp at hcl
 refine ⟨k,ag,zv,hs,h0,hzr,by omega,by simp,fun i x c hx hc'=>?_⟩
 simp [Qzp] at hx hc'
 obtain ⟨j,hj,rfl⟩:=hx
 obtain ⟨j',hj',rfl⟩:=hc'
 rw [hj] at hj'
 obtain rfl:j=j':=by simpa using hj'
 have hm:j % k<k:=Nat.mod_lt _ h0
 have e1:zv.cells.size=k:=by omega
 refine hc.at_ (j % k) _ _ ?_ ?_
 ·simp [Qze (show j % k<z.cells.length by omega)]
 ·rw [e1]
  have:j % k<zv.cells.size:=by omega
  simp [getElem!_def,Array.getElem?_eq_getElem this]
def Vab (P:Program) (t:TypeId) (len:Nat) (parts:List (Nat × AV)) (σ:Za):Option (AV × Za) :=
 match Uc P t with
 | some e=>match tsa P e,Xs P e len with
  | some (k,_),some zs=>if len=0 then (if parts.isEmpty then some (.emp,σ++[.cells []]) else none) else if len*k≤16777216∧0<len then (Ud (fun i=>some (i*k,k)) zs parts).map fun cs=>(.arr k σ.length 0 len,σ++[.cells cs]) else none
  | _,_=>none
 | none=>none
theorem Zbe {place:Nat→Option (Nat × Nat)}:∀ (parts:List (Nat × AV)) (xs ys:List AV),Ud place xs parts=some ys→ys.length=xs.length:=by
 intro parts
 induction parts with
 | nil=>intro xs ys h;simp [Ud] at h;rw [h]
 | cons p parts ih =>
  intro xs ys h
  obtain ⟨i,v⟩:=p
  simp only [Ud] at h
  split at h
  case h_2=>cases h
  rename_i off size hpl
  by_cases hh:v.cells.length=size∧off+size≤xs.length∧v.known=true
  case neg=>rw [if_neg hh] at h;cases h
  rw [if_pos hh] at h
  rw [ih _ _ h,Ua8 _ _ _ (by omega)]
theorem Uay (C:Ctx) (c:Array Value) (e:TypeId):(C.push (.cells c e)).w.shape? C.w.heap.size=some (e,c.size):=by
 rw [Va0]
 show ((C.w.alloc (.cells c e)).heap[C.w.heap.size]?).bind shp=_
 rw [heap_alloc_new]
 rfl
theorem VRs.nil' (C:Ctx):VRs C [] []:=⟨rfl,fun i x c h=>by simp at h⟩
theorem Ugl {C:Ctx} {σ σ':Za} (hI:Inv C σ) {t:TypeId} {len:Nat} {parts:List (Nat × AV)} {cparts:Array (Nat × Value)} {v:AV} (hp:VP C parts cparts.toList) (h:Vab P t len parts σ=some (v,σ')) :
  ∃ (C':Ctx) (r:Value),(Instr.buildSlice t len cparts).run P C.w=.ok r C'.w∧Ext C C'∧Inv C' σ'∧VR C' v r:=by
 unfold Vab at h
 split at h
 case h_2=>cases h
 rename_i e he
 split at h
 case h_2=>cases h
 rename_i k ag zs hs hzs
 by_cases hz:len=0
 ·subst hz
  rw [if_pos rfl] at h
  split at h
  ·rename_i hp0
   simp only [Option.some.injEq,Prod.mk.injEq] at h
   obtain ⟨rfl,rfl⟩:=h
   have hcp:cparts=#[]:=by
    have h1:=hp.len
    rw [List.isEmpty_iff.1 hp0] at h1
    have h2:cparts.size=0:=by rw [Array.length_toList] at h1;exact h1
    exact Array.eq_empty_of_size_eq_zero h2
   subst hcp
   obtain ⟨hE,hI',hb⟩:=hI.new (VRs.nil' C) e
   refine ⟨_,.slice (some ⟨C.w.heap.size,0,none⟩) 0 0,?_,hE,hI',.emp _⟩
   simp only [Instr.buildSlice,Sem.run_bind,run_underlying (Uk he),Result.andThen_ok,Yq C.w hs,if_neg (show ¬ (0*k > 2^24) by omega),if_pos (Nat.zero_mul k),Sem.run_pure,newRow,run_newObj]
   have h0:Array.range 0=#[]:=rfl
   simp [Ctx.push,World.alloc_eq,Instr.fill,h0]
  ·cases h
 rw [if_neg hz] at h
 by_cases hh:len*k≤16777216∧0<len
 case neg=>rw [if_neg hh] at h;cases h
 rw [if_pos hh,Qzm] at h
 obtain ⟨cs,hf,h⟩:=h
 simp only [Prod.mk.injEq] at h
 obtain ⟨rfl,rfl⟩:=h
 obtain ⟨k',ag',zv,hs',h0,hzr,hzl,hzv⟩:=Ua4 (C:=C) hzs
 rw [hs] at hs'
 obtain ⟨rfl,rfl⟩:k=k'∧ag=ag':=by simpa using hs'
 obtain ⟨ds,hd,hr⟩:=Zay parts cparts.toList zs _ cs hzv hp.len hp.at_ hf
 obtain ⟨hE,hI',hb⟩:=hI.new hr e
 have hdl:ds.size=len*k:=by
  have h1:=hr.len
  have h2:=Zbe _ _ _ hf
  have h3:=hzv.len
  simp at h1 h3
  omega
 refine ⟨_,.slice (some ⟨C.w.heap.size,0,none⟩) len len,?_,hE,hI',?_⟩
 ·have hne:¬ (len*k=0):=by
   have:=Nat.mul_pos hh.2 h0;omega
  simp only [Instr.buildSlice,Sem.run_bind,run_underlying (Uk he),Result.andThen_ok,Yq C.w hs,if_neg (show ¬ (len*k > 2^24) by omega),if_neg hne,hzr,Sem.run_pure,hd,newRow,run_newObj]
  simp [Ctx.push,World.alloc_eq]
 ·have:=VR.arr (C:=C.push (.cells ds.toList.toArray e)) k σ.length 0 len C.w.heap.size len e ds.size hb (Nat.le_refl _) (by simpa using Uay C ds e) ⟨by rw [hdl];simp,Wa4 hs⟩
  simpa using this
end Ab
namespace Ab
open Go Go.RowKit
variable [Mode]
variable {P:Program}
def Wr (k:Nat) (y:AV) (σ:Za):Option (List AV × Nat) :=
 match y with
 | .pl k' l=>if k'=k then some (l.flatMap AV.cells,l.length) else none
 | .arr k' r off len=>match σ[r]? with
  | some (.cells cs)=>if k'=k∧(off+len)*k≤cs.length∧(sub cs (off*k) (len*k)).all AV.one=true then some (sub cs (off*k) (len*k),len) else none
  | _=>none
 | .nils=>some ([],0)
 | .emp=>some ([],0)
 | .nn=>some ([],0)
 | .str s=>if k=1 then some (s.map (fun b=>AV.int .u8 b.toNat),s.length) else none
 | .arc k' r off len _=>match σ[r]? with
  | some (.cells cs)=>if k'=k∧(off+len)*k≤cs.length∧(sub cs (off*k) (len*k)).all AV.one=true then some (sub cs (off*k) (len*k),len) else none
  | _=>none
 | _=>none
theorem flat_get {k:Nat}:∀ (l:List AV),(∀ x∈l,x.cells.length=k)→0<k→∀ j,(l.flatMap AV.cells)[j]? = (l[j / k]?).bind fun x=>x.cells[j % k]?:=by
 intro l hl hk
 induction l with
 | nil=>intro j;simp
 | cons x l ih =>
  intro j
  have hx:=hl x (by simp)
  rw [List.flatMap_cons]
  by_cases h:j<k
  ·rw [Qzl (by omega),Nat.div_eq_of_lt h,Nat.mod_eq_of_lt h];rfl
  ·rw [Qzr (by omega),hx,ih (fun y hy=>hl y (by simp [hy]))]
   have e1:j / k=(j - k) / k+1:=by
    have:=Nat.add_div_right (j - k) hk
    rw [show j - k+k=j from by omega] at this
    exact this
   have e2:j % k=(j - k) % k:=by
    have:=Nat.add_mod_right (j - k) k
    rw [show j - k+k=j from by omega] at this
    exact this
   rw [e1,e2]
   rfl
theorem Zb6 {k:Nat}:∀ (l:List AV),(∀ x∈l,x.cells.length=k)→(l.flatMap AV.cells).length=l.length*k:=by
 intro l hl
 induction l with
 | nil=>simp
 | cons x l ih=>rw [List.flatMap_cons,List.length_append,hl x (by simp),ih (fun y hy=>hl y (by simp [hy])),List.length_cons,Nat.add_mul];omega
theorem Row.lens {C:Ctx} {k b o:Nat} {l:List AV} (h:Row C k b o l):∀ x∈l,x.cells.length=k:=by
 intro x hx
 obtain ⟨i,hi,rfl⟩:=List.getElem_of_mem hx
 exact (h.2 i _ (Qze hi)).1
theorem Wa2 {C:Ctx} {σ:Za} (hI:Inv C σ) {k r off len b len' cap:Nat} {cs:List AV} (hb:C.blk[r]? = some b) (hr:σ[r]? = some (.cells cs)) (hle:(off+len)*k≤cs.length) :
  (sub cs (off*k) (len*k)).length=len*k∧∃ vs:List Value,(Builtin.firstCells k len (.slice (some ⟨b,off*k,none⟩) len' cap)).run P C.w=.ok vs.toArray C.w∧VRs C (sub cs (off*k) (len*k)) vs:=by
 rw [Nat.add_mul] at hle
 have hsl:(sub cs (off*k) (len*k)).length=len*k:=by simp [sub];omega
 have hcell:∀ (j:Nat) (y:AV),(sub cs (off*k) (len*k))[j]? = some y→∃ v,C.w.cell? ⟨b,off*k+j,none⟩=some v∧VR C y v:=by
  intro j y hy
  have hj:=(Qzs.1 hy).1
  unfold sub at hy
  rw [List.getElem?_take_of_lt (by omega),List.getElem?_drop] at hy
  exact hI.cell_at hb hr _ y hy
 refine ⟨hsl,(List.range (len*k)).map (fun j=>(C.w.cell? ⟨b,off*k+j,none⟩).getD undef),?_,by simp [hsl],fun i x c hx hc=>?_⟩
 ·refine run_firstCells_some (P:=P) C.w k len ⟨b,off*k,none⟩ _ _ _ (by simp) (fun j v hv=>?_)
  simp [Qzp] at hv
  obtain ⟨j',hj',rfl⟩:=hv
  obtain ⟨hlt,hj'⟩:=Qzs.1 hj'
  simp at hlt hj'
  subst hj'
  obtain ⟨v,hv,_⟩:=hcell j _ (Qze (by omega))
  rw [Zp,hv];rfl
 ·simp [Qzp] at hc
  obtain ⟨j',hj',rfl⟩:=hc
  obtain ⟨hlt,hj'⟩:=Qzs.1 hj'
  simp at hj'
  subst hj'
  obtain ⟨v,hv,hr'⟩:=hcell i x hx
  rw [hv];exact hr'
theorem Zav {C:Ctx} {σ:Za} (hI:Inv C σ) {k:Nat} (hk:0<k) {y:AV} {c:Value} {news:List AV} {n:Nat} (hy:VR C y c) (h:Wr k y σ=some (news,n)) :
  (Builtin.lenOf c).run P C.w=.ok n C.w∧news.length=n*k∧news.all AV.one=true∧∃ cs:List Value,(Builtin.firstCells k n c).run P C.w=.ok cs.toArray C.w∧VRs C news cs:=by
 unfold Wr at h
 split at h
 ·rename_i k' l
  by_cases hh:k'=k
  case neg=>rw [if_neg hh] at h;cases h
  rw [if_pos hh] at h
  simp only [Option.some.injEq,Prod.mk.injEq] at h
  obtain ⟨rfl,rfl⟩:=h
  subst hh
  obtain ⟨A,cap,rfl,_,hA⟩:=hy.pl_inv
  refine ⟨rfl,?_⟩
  rcases hA with rfl | ⟨b,o,rfl,hrow⟩
  ·refine ⟨by simp,by simp,[],?_,.nil C⟩
   cases A with
   | none=>exact run_firstCells_none (P:=P) C.w k' 0 _ _
   | some a=>simp [Builtin.firstCells,loadCells,loadCellsFrom]
  ·have hlen:=Zb6 l hrow.lens
   have hget:=flat_get l hrow.lens hk
   have hcell:∀ (j:Nat) (y:AV),(l.flatMap AV.cells)[j]? = some y→y.one=true∧∃ v,C.w.cell? ⟨b,o+j,none⟩=some v∧VR C y v:=by
    intro j y hy
    rw [hget,Option.bind_eq_some_iff] at hy
    obtain ⟨x,hx,hy⟩:=hy
    have:=(hrow.2 _ x hx).2 _ y hy
    rw [Nat.add_assoc,show j / k'*k'+j % k'=j from by rw [Nat.mul_comm];exact Nat.div_add_mod j k'] at this
    exact this
   refine ⟨hlen,?_,?_⟩
   ·rw [List.all_eq_true]
    intro y hy
    obtain ⟨i,hi,rfl⟩:=List.getElem_of_mem hy
    exact (hcell i _ (Qze hi)).1
   ·refine ⟨(List.range (l.length*k')).map (fun j=>(C.w.cell? ⟨b,o+j,none⟩).getD undef),?_,by simp [hlen],fun i x c hx hc=>?_⟩
    ·refine run_firstCells_some (P:=P) C.w k' l.length ⟨b,o,none⟩ _ _ _ (by simp) (fun j v hv=>?_)
     simp [Qzp] at hv
     obtain ⟨j',hj',rfl⟩:=hv
     obtain ⟨hlt,hj'⟩:=Qzs.1 hj'
     simp at hlt hj'
     subst hj'
     obtain ⟨_,v,hv,_⟩:=hcell j _ (Qze (by omega))
     rw [Zp,hv];rfl
    ·simp [Qzp] at hc
     obtain ⟨j',hj',rfl⟩:=hc
     obtain ⟨hlt,hj'⟩:=Qzs.1 hj'
     simp at hj'
     subst hj'
     obtain ⟨_,v,hv,hr⟩:=hcell i x hx
     rw [hv];exact hr
 ·rename_i k' r off len
  split at h
  case h_2=>cases h
  rename_i cs hr
  by_cases hh:k'=k∧(off+len)*k≤cs.length∧(sub cs (off*k) (len*k)).all AV.one=true
  case neg=>rw [if_neg hh] at h;cases h
  rw [if_pos hh] at h
  simp only [Option.some.injEq,Prod.mk.injEq] at h
  obtain ⟨rfl,rfl⟩:=h
  obtain ⟨rfl,hle,h1⟩:=hh
  obtain ⟨b,cap,e,n,hb,_,_,_,rfl⟩:=hy.arr_inv
  rw [Nat.add_mul] at hle
  have hsl:(sub cs (off*k') (len*k')).length=len*k':=by simp [sub];omega
  have hcell:∀ (j:Nat) (y:AV),(sub cs (off*k') (len*k'))[j]? = some y→∃ v,C.w.cell? ⟨b,off*k'+j,none⟩=some v∧VR C y v:=by
   intro j y hy
   have hj:=(Qzs.1 hy).1
   unfold sub at hy
   rw [List.getElem?_take_of_lt (by omega),List.getElem?_drop] at hy
   exact hI.cell_at hb hr _ y hy
  refine ⟨rfl,hsl,h1,(List.range (len*k')).map (fun j=>(C.w.cell? ⟨b,off*k'+j,none⟩).getD undef),?_,by simp [hsl],fun i x c hx hc=>?_⟩
  ·refine run_firstCells_some (P:=P) C.w k' len ⟨b,off*k',none⟩ _ _ _ (by simp) (fun j v hv=>?_)
   simp [Qzp] at hv
   obtain ⟨j',hj',rfl⟩:=hv
   obtain ⟨hlt,hj'⟩:=Qzs.1 hj'
   simp at hlt hj'
   subst hj'
   obtain ⟨v,hv,_⟩:=hcell j _ (Qze (by omega))
   rw [Zp,hv];rfl
  ·simp [Qzp] at hc
   obtain ⟨j',hj',rfl⟩:=hc
   obtain ⟨hlt,hj'⟩:=Qzs.1 hj'
   simp at hj'
   subst hj'
   obtain ⟨v,hv,hr'⟩:=hcell i x hx
   rw [hv];exact hr'
 ·simp only [Option.some.injEq,Prod.mk.injEq] at h
  obtain ⟨rfl,rfl⟩:=h
  cases hy
  exact ⟨rfl,by simp,rfl,[],run_firstCells_none (P:=P) C.w k 0 _ _,.nil C⟩
 ·simp only [Option.some.injEq,Prod.mk.injEq] at h
  obtain ⟨rfl,rfl⟩:=h
  cases hy
  rename_i A
  refine ⟨rfl,by simp,rfl,[],?_,.nil C⟩
  cases A with
  | none=>exact run_firstCells_none (P:=P) C.w k 0 _ _
  | some a=>simp [Builtin.firstCells,loadCells,loadCellsFrom]
 ·simp only [Option.some.injEq,Prod.mk.injEq] at h
  obtain ⟨rfl,rfl⟩:=h
  cases hy
  exact ⟨rfl,by simp,rfl,[],by simp [Builtin.firstCells,loadCells,loadCellsFrom],.nil C⟩
 ·rename_i s
  by_cases hh:k=1
  case neg=>rw [if_neg hh] at h;cases h
  rw [if_pos hh] at h
  simp only [Option.some.injEq,Prod.mk.injEq] at h
  obtain ⟨rfl,rfl⟩:=h
  subst hh
  cases hy
  refine ⟨rfl,by simp,by simp [AV.one],s.map (fun b=>Value.int .u8 b.toNat),?_,by simp,fun i x c hx hc=>?_⟩
  ·simp only [Builtin.firstCells,Sem.run_pure]
   congr 1
   apply Array.ext'
   have:((⟨⟨s⟩⟩:ByteArray).extract 0 s.length)=⟨⟨s⟩⟩:=by
    apply ByteArray.ext
    rw [ByteArray.data_extract]
    simp
   rw [this]
   simp
  ·simp [Qzp] at hx hc
   obtain ⟨b,hb,rfl⟩:=hx
   obtain ⟨b',hb',rfl⟩:=hc
   rw [hb] at hb'
   obtain rfl:b=b':=by simpa using hb'
   exact .int _ _
 ·rename_i k' r off len cap
  split at h
  case h_2=>cases h
  rename_i cs hr
  by_cases hh:k'=k∧(off+len)*k≤cs.length∧(sub cs (off*k) (len*k)).all AV.one=true
  case neg=>rw [if_neg hh] at h;cases h
  rw [if_pos hh] at h
  simp only [Option.some.injEq,Prod.mk.injEq] at h
  obtain ⟨rfl,rfl⟩:=h
  obtain ⟨rfl,hle,h1⟩:=hh
  obtain ⟨b,e,n,hb,_,_,_,rfl⟩:=hy.arc_inv
  obtain ⟨q1,q2⟩:=Wa2 (P:=P) (len':=len) (cap:=cap) hI hb hr hle
  exact ⟨rfl,q1,h1,q2⟩
 ·cases h
def tby (P:Program) (e:TypeId):Nat:=((P.info? e).map (·.bytes)).getD 0
theorem Xdc (need:Nat):∀ (r c:Nat),c<need→256≤c→Builtin.growBy need r c≤2*need:=by
 intro r
 induction r with
 | zero=>intro c h _;simp [Builtin.growBy];omega
 | succ r ih =>
  intro c h h2
  simp only [Builtin.growBy,ge_iff_le,if_neg (by omega:¬ need≤c)]
  by_cases h3:c+(c+768) / 4<need
  ·exact ih _ h3 (by omega)
  ·cases r with
   | zero=>simp [Builtin.growBy];omega
   | succ r=>simp only [Builtin.growBy,ge_iff_le,if_pos (by omega:need≤c+(c+768) / 4)];omega
theorem Wca {need cap:Nat} (h:cap<need):Builtin.nextslicecap need cap≤2*need:=by
 unfold Builtin.nextslicecap
 split
 ·omega
 ·split
  ·omega
  ·exact Xdc _ _ _ h (by omega)
def tzk (P:Program) (e:TypeId) (k:Nat):Bool:=match tz P e with | some z=>z.known&&(z.cells.length == k)&&decide (0<tby P e) | none=>false
def Xa (P:Program) (ts:Array TypeId) (x y:AV) (σ:Za):Option (AV × Za) :=
 match ts.toList with
 | [t,t2] =>
  match Uc P t,(Uc P t2).isSome||Yd P t2 with
  | some e,true=>match tsa P e with
   | some (k,_)=>if tzk P e k=false then none else match Wr k y σ with
    | some (news,n) =>
     if 0<k then (match x with
     | .nils=>if n=0 then some (.nils,σ) else if n*tby P e≤140737488355328 then some (.arr k σ.length 0 n,σ++[.cells news]) else none
     | .emp=>if n=0 then some (.emp,σ) else if n*tby P e≤140737488355328 then some (.arr k σ.length 0 n,σ++[.cells news]) else none
     | .arr k' r 0 len=>match σ[r]? with
      | some (.cells cs)=>if k'=k∧cs.length=len*k∧(len+n)*tby P e≤140737488355328 then some (.arr k σ.length 0 (len+n),σ.set r .dead++[.cells (cs++news)]) else none
      | _=>none
     | .arc k' r off len cap=>match σ[r]? with
      | some (.cells cs)=>if k'=k∧cap<len+n∧(off+len)*k≤cs.length∧(len+n)*tby P e≤140737488355328 then some (.arr k σ.length 0 (len+n),σ++[.cells (sub cs (off*k) (len*k)++news)]) else none
      | _=>none
     | _=>none) else none
    | none=>none
   | none=>none
  | _,_=>none
 | _=>none
theorem run_append_grow {w:World} {t t2 ty e:TypeId} {d2:TypeDesc} {i:TypeInfo} {z:Value} (ht:P.underlying t=some (.slice e)) (h2:P.underlying t2=some d2) (hd2:(∃ e',d2=.slice e')∨d2=.string) (hi:P.info? e=some i) (hz:i.zero=some z)
  {base:Option Addr} {sLen sCap n:Nat} {x:Value} {old news:List Value} (hl:(Builtin.lenOf x).run P w=.ok n w) (ho:(Builtin.firstCells i.size sLen (.slice base sLen sCap)).run P w.drew=.ok old.toArray w.drew)
  (hn':(Builtin.firstCells i.size n x).run P w.drew=.ok news.toArray w.drew) (hg:sCap<sLen+n) (hb:(sLen+n)*i.bytes≤140737488355328) (hp:0<i.bytes) :
  ∃ (nc:Nat) (rest:Array Value),sLen+n≤nc∧(Builtin.append_ #[t,t2] ty #[.slice base sLen sCap,x]).run P w=.ok (.slice (some ⟨w.heap.size,0,none⟩) (sLen+n) nc) (w.drew.alloc (.cells (old.toArray++news.toArray++rest) e))∧rest.size=(nc - (sLen+n))*z.cells.size:=by
 have hle:=Wca hg
 have h1:¬ (Builtin.nextslicecap (sLen+n) sCap*i.bytes > 2^48):=by
  have:Builtin.nextslicecap (sLen+n) sCap*i.bytes≤2*(sLen+n)*i.bytes:=Nat.mul_le_mul_right _ hle
  rw [Nat.mul_assoc] at this
  omega
 let q:Question:=.appendCap (sLen+n) sCap e
 let nc:=q.cut (w.tape w.drawn q)
 have hnc:sLen+n≤nc:=Nat.le_add_right _ _
 refine ⟨nc,Builtin.zeroCells z.cells (nc - (sLen+n)),hnc,?_,by simp [Builtin.zeroCells]⟩
 have hch:(choose (.appendCap (sLen+n) sCap e)).run P w=.ok nc w.drew:=by rw [run_choose];rfl
 have hroom:¬ (sLen+n≤sCap):=by omega
 have h63':¬ ((9223372036854775807<((sLen:Int)+(n:Int)))∧i.bytes=0):=by omega
 have h48':¬ (281474976710656<Builtin.nextslicecap (sLen+n) sCap*i.bytes):=by omega
 have hnb:¬ (i.bytes=0):=by omega
 have hq:(Question.appendCap (sLen+n) sCap e).forced=false:=rfl
 have hw:({ w with drawn:=w.drawn+1 }:World)=w.drew:=rfl
 have h4:w.drew.alloc (Obj.cells (old.toArray++(news.toArray++Builtin.zeroCells z.cells (nc - (sLen+n)))) e)=w.drew.alloc (Obj.cells (old.toArray++news.toArray++Builtin.zeroCells z.cells (nc - (sLen+n))) e):=by
  rw [Array.append_assoc]
 rw [← h4]
 rcases hd2 with ⟨e',rfl⟩ | rfl <;>
  (simp [Builtin.append_,run_underlying ht,run_underlying h2,Go.sizeOf,typeInfo,hi,hl,hroom,h48',hnb,hq,hw,ho,hn',zeroValue,hz,newRow]
   exact ⟨rfl,rfl⟩)
theorem run_append_room {w w':World} {t t2 ty e:TypeId} {d2:TypeDesc} {i:TypeInfo} (ht:P.underlying t=some (.slice e)) (h2:P.underlying t2=some d2) (hd2:(∃ e',d2=.slice e')∨d2=.string) (hi:P.info? e=some i)
  {base:Option Addr} {sLen sCap n:Nat} {x:Value} {news:List Value} (hl:(Builtin.lenOf x).run P w=.ok n w) (hn:(Builtin.firstCells i.size n x).run P w=.ok news.toArray w) (hg:sLen+n≤sCap)
  (hs:∀ a,base=some a→(storeCells (a.add (sLen*i.size)) news).run P w=.ok () w') (hw:base=none→w'=w) :
  (Builtin.append_ #[t,t2] ty #[.slice base sLen sCap,x]).run P w=.ok (.slice base (sLen+n) sCap) w':=by
 rcases hd2 with ⟨e',rfl⟩ | rfl <;>
  (simp [Builtin.append_,run_underlying ht,run_underlying h2,Go.sizeOf,typeInfo,hi,hl,hg,hn]
   cases base with
   | none=>simp [hw rfl]
   | some a=>simp [hs a rfl])
theorem Vb1 {t2:TypeId} (h:((Uc P t2).isSome||Yd P t2)=true):∃ d2,P.underlying t2=some d2∧((∃ e',d2=.slice e')∨d2=.string):=by
 rw [Bool.or_eq_true] at h
 rcases h with h | h
 ·obtain ⟨e,he⟩:=Option.isSome_iff_exists.1 h
  exact ⟨_,Uk he,.inl ⟨e,rfl⟩⟩
 ·exact ⟨_,Ux h,.inr rfl⟩
theorem Ext.drew {C:Ctx}:Ext C (C.at_ C.w.drew):=⟨rfl,⟨[],by simp [Ctx.at_]⟩,fun _ h=>h,fun _ _=>rfl,fun _ _ h=>h,Nat.le_refl _,fun _=>Nat.le_succ _⟩
theorem Inv.drew {C:Ctx} {σ:Za} (hI:Inv C σ):Inv (C.at_ C.w.drew) σ:=by
 refine ⟨hI.len,hI.glob,hI.base.drew,hI.basep,hI.plt,fun r b o h1 h2 h3=>?_,hI.inj⟩
 obtain ⟨h4,c,h5,h6⟩:=hI.live r b o h1 h2 h3
 exact ⟨h4,c,h5,h6.ext Ext.drew⟩
theorem Inv.new_room {C:Ctx} {σ:Za} (hI:Inv C σ) {xs:List AV} {vs:List Value} (hv:VRs C xs vs) (e:TypeId) (rest:Array Value) :
  Ext C (C.push (.cells (vs.toArray++rest) e))∧Inv (C.push (.cells (vs.toArray++rest) e)) (σ++[.cells xs])∧(C.push (.cells (vs.toArray++rest) e)).blk[σ.length]? = some C.w.heap.size:=by
 have hE:=Ext.push hI.plt (.cells (vs.toArray++rest) e)
 have hl:=hv.len
 refine ⟨hE,hI.push (.cells xs (vs.toArray++rest) e 0 0 (by simp [hl]) (.zero _ _) fun i x c hx hc=>?_),?_⟩
 ·have hi:=(Qzs.1 hx).1
  rw [Array.getElem?_append_left (by simp;omega)] at hc
  exact (hv.at_ i x c hx (by simpa using hc)).ext hE
 ·simp [Ctx.push,hI.len]
theorem Zbo {C:Ctx} {σ:Za} (hI:Inv C σ) {t t2 ty e:TypeId} {k:Nat} {ag:Bool} (ht:Uc P t=some e) (h2:((Uc P t2).isSome||Yd P t2)=true) (hs:tsa P e=some (k,ag)) (hz:tzk P e k=true) (hk:0<k)
  {base:Option Addr} {sLen sCap n:Nat} {y:AV} {cy:Value} {news olds:List AV} (hy:VR C y cy) (ha:Wr k y σ=some (news,n)) {cold:List Value} (hcold:VRs C olds cold) (hcl:olds.length=sLen*k)
  (hold:(Builtin.firstCells k sLen (.slice base sLen sCap)).run P C.w.drew=.ok cold.toArray C.w.drew) (hg:sCap<sLen+n) (hb:(sLen+n)*tby P e≤140737488355328) :
  ∃ (C':Ctx) (r:Value),(Builtin.append_ #[t,t2] ty #[.slice base sLen sCap,cy]).run P C.w=.ok r C'.w∧Ext C C'∧Inv C' (σ++[.cells (olds++news)])∧VR C' (.arr k σ.length 0 (sLen+n)) r:=by
 obtain ⟨i,d,hi,_,hsz,_⟩:=Xac hs
 subst hsz
 have hz':∃ z,i.zero=some z∧z.cells.size=i.size∧0<tby P e:=by
  unfold tzk tz at hz
  rw [hi] at hz
  cases hiz:i.zero with
  | none=>simp [hiz] at hz
  | some z =>
   simp [hiz] at hz
   obtain ⟨⟨h1,h2⟩,h3⟩:=hz
   have:=((VR.ofValue C z).cells h1).len
   simp at this
   exact ⟨z,rfl,by omega,h3⟩
 obtain ⟨z,hz',hzs,hp⟩:=hz'
 obtain ⟨d2,hd2,hdd⟩:=Vb1 h2
 obtain ⟨hl,hnl,_,_⟩:=Zav (P:=P) hI hk hy ha
 obtain ⟨_,_,hn1,cs,hc,hcr⟩:=Zav (P:=P) hI.drew hk (hy.ext Ext.drew) ha
 have htb:tby P e=i.bytes:=by simp [tby,hi]
 rw [htb] at hb hp
 obtain ⟨nc,rest,hnc,hrun,hrs⟩:=run_append_grow (ty:=ty) (Uk ht) hd2 hdd hi hz' hl hold hc hg hb hp
 have hcold':=hcold.ext Ext.drew
 obtain ⟨hE,hI2,hbk⟩:=(hI.drew).new_room (hcold'.append hcr) e rest
 refine ⟨_,.slice (some ⟨C.w.heap.size,0,none⟩) (sLen+n) nc,?_,Ext.drew.trans hE,hI2,?_⟩
 ·rw [hrun]
  have:cold.toArray++cs.toArray++rest=(cold++cs).toArray++rest:=by simp
  rw [this]
  rfl
 ·have hlen:=hcold.len
  have hlen2:=hcr.len
  have:=VR.arr (C:=(C.at_ C.w.drew).push (Obj.cells ((cold++cs).toArray++rest) e)) i.size σ.length 0 (sLen+n) (C.at_ C.w.drew).w.heap.size nc e ((cold++cs).toArray++rest).size hbk hnc (Uay _ _ e) ⟨by
   simp only [Array.size_append,List.size_toArray,List.length_append]
   rw [hrs,hzs,← hlen,← hlen2,hcl,hnl,← Nat.add_mul,← Nat.add_mul]
   exact Nat.mul_le_mul_right _ (by omega),Wa4 hs⟩
  rw [Nat.zero_mul] at this
  exact this
theorem Inv.move {C:Ctx} {σ:Za} (hI:Inv C σ) {r b:Nat} {o:AObj} (hb:C.blk[r]? = some b) (ho:σ[r]? = some o) (hl:o.live=true) :
  Ext C { C with blk:=C.blk++[b] }∧Inv { C with blk:=C.blk++[b] } (σ.set r .dead++[o])∧({ C with blk:=C.blk++[b] }:Ctx).blk[σ.length]? = some b:=by
 have hE:Ext C { C with blk:=C.blk++[b] }:=⟨rfl,⟨_,rfl⟩,fun _ h=>h,fun _ _=>rfl,fun _ _ h=>h,Nat.le_refl _,fun _=>Nat.le_refl _⟩
 have hlen:=hI.len
 have hrl:=(Qzs.1 ho).1
 have hlast:∀ (r' b':Nat) (o':AObj),(C.blk++[b])[r']? = some b'→(σ.set r .dead++[o])[r']? = some o'→o'.live=true→(C.blk[r']? = some b'∧σ[r']? = some o'∧r'≠r)∨(r'=σ.length∧b'=b∧o'=o):=by
  intro r' b' o' h1 h2 h3
  rcases Qzn r' σ.length with h | h
  ·rw [Qzl (by omega)] at h1
   rw [Qzl (by simpa using h),List.getElem?_set] at h2
   by_cases e:r=r'
   ·subst e
    simp [h] at h2
    subst h2
    cases h3
   ·rw [if_neg e] at h2
    exact .inl ⟨h1,h2,fun x=>e x.symm⟩
  ·have e:r'=σ.length:=by
    have:=(Qzs.1 h2).1
    simp at this;omega
   subst e
   rw [Qzr (by omega)] at h1
   rw [Qzr (by simp)] at h2
   simp [hlen] at h1 h2
   exact .inr ⟨rfl,h1.symm,h2.symm⟩
 refine ⟨hE,⟨by simp [hlen],hI.glob,hI.base,hI.basep,hI.plt,fun r' b' o' h1 h2 h3=>?_,fun r1 r2 b' o1 o2 h1 h2 ho1 ho2 hl1 hl2=>?_⟩,by simp [hlen]⟩
 ·rcases hlast r' b' o' h1 h2 h3 with ⟨g1,g2,_⟩ | ⟨_,rfl,rfl⟩
  ·obtain ⟨g4,c,g5,g6⟩:=hI.live r' b' o' g1 g2 h3
   exact ⟨g4,c,g5,g6.ext hE⟩
  ·obtain ⟨g4,c,g5,g6⟩:=hI.live r _ _ hb ho hl
   exact ⟨g4,c,g5,g6.ext hE⟩
 ·rcases hlast r1 b' o1 h1 ho1 hl1 with ⟨g1,g2,g3⟩ | ⟨e1,f1,_⟩
  ·rcases hlast r2 b' o2 h2 ho2 hl2 with ⟨k1,k2,_⟩ | ⟨e2,f2,_⟩
   ·exact hI.inj r1 r2 b' o1 o2 g1 k1 g2 k2 hl1 hl2
   ·subst f2;exact absurd (hI.inj r1 r _ o1 o g1 hb g2 ho hl1 hl) g3
  ·rcases hlast r2 b' o2 h2 ho2 hl2 with ⟨k1,k2,k3⟩ | ⟨e2,f2,_⟩
   ·subst f1;exact absurd (hI.inj r2 r _ o2 o k1 hb k2 ho hl2 hl) k3
   ·omega
theorem Yfm (k:Nat) (A:Option Addr) (cap:Nat) (w:World):(Builtin.firstCells k 0 (.slice A 0 cap)).run P w=.ok ([]:List Value).toArray w:=by
 cases A with
 | none=>exact run_firstCells_none (P:=P) w k 0 _ _
 | some a=>simp [Builtin.firstCells,loadCells,loadCellsFrom]
theorem Zgf {C:Ctx} {σ σ':Za} (hI:Inv C σ) {ts:Array TypeId} {ty:TypeId} {x y v:AV} {c d:Value} (hx:VR C x c) (hy:VR C y d) (h:Xa P ts x y σ=some (v,σ')) :
  ∃ (C':Ctx) (r:Value),(Builtin.append_ ts ty #[c,d]).run P C.w=.ok r C'.w∧Ext C C'∧Inv C' σ'∧VR C' v r:=by
 unfold Xa at h
 split at h
 case h_2=>cases h
 rename_i t t2 hts
 obtain rfl:ts=#[t,t2]:=Array.ext' hts
 split at h
 case h_2=>cases h
 rename_i e he h2
 split at h
 case h_2=>cases h
 rename_i k ag hs
 by_cases hz:tzk P e k=false
 ·rw [if_pos hz] at h;cases h
 rw [if_neg hz] at h
 have hz':tzk P e k=true:=by simpa using hz
 split at h
 case h_2=>cases h
 rename_i news n ha
 by_cases hk:0<k
 case neg=>rw [if_neg hk] at h;cases h
 rw [if_pos hk] at h
 obtain ⟨i,dd,hi,_,hsz,_⟩:=Xac hs
 obtain ⟨d2,hd2,hdd⟩:=Vb1 h2
 obtain ⟨hl,hnl,hn1,cs0,hc0,hcr0⟩:=Zav (P:=P) hI hk hy ha
 have none_case:∀ (A:Option Addr),n=0→(Builtin.append_ #[t,t2] ty #[.slice A 0 0,d]).run P C.w=.ok (.slice A 0 0) C.w:=by
  intro A h0
  subst h0
  have hnews:cs0=[]:=by
   have:=hcr0.len
   rw [hnl] at this
   simp at this
   exact List.eq_nil_of_length_eq_zero this.symm
  subst hnews
  have:=run_append_room (w':=C.w) (ty:=ty) (base:=A) (sLen:=0) (sCap:=0) (x:=d) (news:=[]) (Uk he) hd2 hdd hi hl (by rw [hsz];exact hc0) (Nat.le_refl _) (fun a _=>by simp [storeCells]) (fun _=>rfl)
  simpa using this
 have grow_case:∀ (A:Option Addr),n≠0→n*tby P e≤140737488355328→∃ (C':Ctx) (r:Value),(Builtin.append_ #[t,t2] ty #[.slice A 0 0,d]).run P C.w=.ok r C'.w∧Ext C C'∧Inv C' (σ++[.cells news])∧VR C' (.arr k σ.length 0 n) r:=by
  intro A h0 hb
  have:=Zbo (ty:=ty) hI he h2 hs hz' hk (base:=A) (sLen:=0) (sCap:=0) (n:=n) hy ha (olds:=[]) (cold:=[]) (.nil C) (by simp) (Yfm k A 0 _) (by omega) (by simpa using hb)
  simpa using this
 split at h
 ·cases hx
  by_cases h0:n=0
  ·rw [if_pos h0] at h
   simp only [Option.some.injEq,Prod.mk.injEq] at h
   obtain ⟨rfl,rfl⟩:=h
   exact ⟨C,_,none_case none h0,Ext.refl C,hI,.nils⟩
  ·rw [if_neg h0] at h
   by_cases hb:n*tby P e≤140737488355328
   case neg=>rw [if_neg hb] at h;cases h
   rw [if_pos hb] at h
   simp only [Option.some.injEq,Prod.mk.injEq] at h
   obtain ⟨rfl,rfl⟩:=h
   exact grow_case none h0 hb
 ·cases hx
  rename_i A
  by_cases h0:n=0
  ·rw [if_pos h0] at h
   simp only [Option.some.injEq,Prod.mk.injEq] at h
   obtain ⟨rfl,rfl⟩:=h
   exact ⟨C,_,none_case A h0,Ext.refl C,hI,.emp A⟩
  ·rw [if_neg h0] at h
   by_cases hb:n*tby P e≤140737488355328
   case neg=>rw [if_neg hb] at h;cases h
   rw [if_pos hb] at h
   simp only [Option.some.injEq,Prod.mk.injEq] at h
   obtain ⟨rfl,rfl⟩:=h
   exact grow_case A h0 hb
 ·rename_i k' r len
  split at h
  case h_2=>cases h
  rename_i cs hr
  by_cases hh:k'=k∧cs.length=len*k∧(len+n)*tby P e≤140737488355328
  case neg=>rw [if_neg hh] at h;cases h
  rw [if_pos hh] at h
  simp only [Option.some.injEq,Prod.mk.injEq] at h
  obtain ⟨rfl,rfl⟩:=h
  obtain ⟨rfl,hcl,hb⟩:=hh
  obtain ⟨b,cap,e',n',hbk,hlc,hsh,hbd,rfl⟩:=hx.arr_inv
  obtain ⟨hnp,carr,e'',lo,hi',hc,hcsz,hfr,hrel⟩:=hI.cells hbk hr
  have hn':carr.size=n':=by
   rw [Va0,hc] at hsh
   simp [shp] at hsh
   exact hsh.2
  by_cases hroom:len+n≤cap
  ·have hbig:len*k'+news.length≤carr.size:=by
    rw [hn',hnl,← Nat.add_mul]
    exact Nat.le_trans (Nat.mul_le_mul_right _ hroom) (by simpa using hbd.1)
   have hcl0:=hcr0.len
   have hst:=Ubw (P:=P) b e'' lo hi' cs0 carr C.w (len*k') 0 hc hfr (hcr0.oneCells hn1) (by omega)
   have hE:=Ext.set (C:=C) (b:=b) (o:=.cells (wrA carr (len*k') cs0) e'' (lo,hi')) hc hnp (by simp [shp,Xab])
   have hI1:Inv (C.at_ (Xh C.w b (.cells (wrA carr (len*k') cs0) e'' (lo,hi')))) (σ.set r (.cells (cs++news))):=by
    refine hI.set hbk hr rfl hc (by simp [shp,Xab]) (.cells _ _ e'' lo hi' (by rw [Xab,List.length_append,hcl];exact hbig) (by rw [Xab];exact hfr) fun i x c hx hc'=>?_)
    rw [Wa9 _ _ _ _ (by omega)] at hc'
    refine VR.ext hE ?_
    by_cases h1:i<len*k'
    ·rw [Qzl (by omega)] at hx
     rw [if_neg (by omega)] at hc'
     exact hrel i x c hx hc'
    ·rw [Qzr (by omega),hcl] at hx
     have:=(Qzs.1 hx).1
     rw [if_pos (by omega)] at hc'
     exact hcr0.at_ _ x c hx hc'
   have hrl:=(Qzs.1 hr).1
   obtain ⟨hE2,hI2,hb2⟩:=hI1.move (r:=r) (b:=b) (o:=.cells (cs++news)) hbk (by rw [List.getElem?_set_self hrl]) rfl
   refine ⟨_,.slice (some ⟨b,0,none⟩) (len+n) cap,?_,hE.trans hE2,?_,?_⟩
   ·have:=run_append_room (w':=Xh C.w b (.cells (wrA carr (len*k') cs0) e'' (lo,hi'))) (ty:=ty) (base:=some ⟨b,0,none⟩) (sLen:=len) (sCap:=cap) (x:=d) (news:=cs0) (Uk he) hd2 hdd hi hl (by rw [hsz];exact hc0) hroom
     (fun a ha=>by simp only [Option.some.injEq] at ha;subst ha;rw [Zp,hsz,Nat.zero_add];simpa using hst) (fun h=>by cases h)
    rw [Nat.zero_mul]
    exact this
   ·simpa using hI2
   ·have:=VR.arr (C:={ (C.at_ (Xh C.w b (.cells (wrA carr (len*k') cs0) e'' (lo,hi')))) with blk:=C.blk++[b] }) k' (σ.set r (.cells (cs++news))).length 0 (len+n) b cap e' n' hb2 hroom (hE.shape b _ hsh) hbd
    rw [Nat.zero_mul,List.length_set] at this
    exact this
  ·have hold:(Builtin.firstCells k' len (.slice (some ⟨b,0,none⟩) len cap)).run P C.w.drew=.ok ((carr.toList.take (len*k'))).toArray C.w.drew:=by
    refine run_firstCells_some (P:=P) C.w.drew k' len ⟨b,0,none⟩ _ _ _ (by simp;omega) (fun j v hv=>?_)
    have hj:=(Qzs.1 hv).1
    simp at hj
    rw [List.getElem?_take_of_lt (by omega)] at hv
    rw [Zp,World.cell?_drew,Ybg hc,Nat.zero_add]
    simpa using hv
   have hold':VRs C cs (carr.toList.take (len*k')):=⟨by simp;omega,fun i x c hx hc'=>by
    have:=(Qzs.1 hx).1
    rw [List.getElem?_take_of_lt (by omega)] at hc'
    exact hrel i x c hx (by simpa using hc')⟩
   have:=Zbo (ty:=ty) hI he h2 hs hz' hk (base:=some ⟨b,0,none⟩) (sLen:=len) (sCap:=cap) (n:=n) hy ha (olds:=cs) (cold:=carr.toList.take (len*k')) hold' hcl hold (by omega) hb
   obtain ⟨C',rv,g1,g2,g3,g4⟩:=this
   have g3':=g3.kill r
   have hrl:=(Qzs.1 hr).1
   rw [List.set_append_left _ _ hrl] at g3'
   exact ⟨C',rv,by simpa using g1,g2,g3',g4⟩
 ·rename_i k' r off len cap
  split at h
  case h_2=>cases h
  rename_i cs hr
  by_cases hh:k'=k∧cap<len+n∧(off+len)*k≤cs.length∧(len+n)*tby P e≤140737488355328
  case neg=>rw [if_neg hh] at h;cases h
  rw [if_pos hh] at h
  simp only [Option.some.injEq,Prod.mk.injEq] at h
  obtain ⟨rfl,rfl⟩:=h
  obtain ⟨rfl,hcap,hle,hb⟩:=hh
  obtain ⟨b,e',n',hbk,hlc,hsh,hbd,rfl⟩:=hx.arc_inv
  obtain ⟨q1,vs,q2,q3⟩:=Wa2 (P:=P) (len':=len) (cap:=cap) hI.drew (k:=k') (off:=off) (len:=len) (C:=C.at_ C.w.drew) hbk hr hle
  have hback:@Ext ⟨False⟩ (C.at_ C.w.drew) C:=@Ext.mk ⟨False⟩ _ _ rfl ⟨[],by simp [Ctx.at_]⟩ (fun _ h=>h) (fun _ _=>rfl) (fun _ _ h=>h) (Nat.le_refl _) (fun h=>False.elim h)
  exact Zbo (ty:=ty) hI he h2 hs hz' hk (base:=some ⟨b,off*k',none⟩) (sLen:=len) (sCap:=cap) (n:=n) hy ha (olds:=sub cs (off*k') (len*k')) (cold:=vs) (@VRs.ext ⟨False⟩ _ _ hback _ _ q3) q1 q2 hcap hb
 ·cases h
end Ab
namespace Ab
open Go Go.RowKit
variable [Mode]
variable {P:Program}
def Vaq (P:Program) (t:TypeId) (l c:AV) (σ:Za):Option (AV × Za) :=
 match l,c with
 | .int _ l,.int _ c =>
  match Uc P t with
  | some e=>match tsa P e,Xs P e c.toNat with
   | some (k,_),some zs=>if 0≤l∧l≤c∧c*tby P e≤281474976710656∧c≤9223372036854775807 then some (.arr k σ.length 0 l.toNat,σ++[.cells zs]) else none
   | _,_=>none
  | none=>none
 | _,_=>none
theorem Ybp {e:TypeId} {n:Nat} {xs:List AV} (h:Xs P e n=some xs):∃ (i:TypeInfo) (z:Value) (k:Nat) (ag:Bool),P.info? e=some i∧i.zero=some z∧i.size=k∧tsa P e=some (k,ag)∧z.cells.size=k∧0<k∧∀ C:Ctx,VRs C xs (madeCells z.cells (n*k)).toList:=by
 obtain ⟨k,ag,zv,hs,h0,hzr,hsz,_⟩:=Ua4 (C:=⟨default,[],fun _=>False,default⟩) h
 obtain ⟨i,d,hi,_,hn,_⟩:=Xac hs
 unfold Xs at h
 rw [hs] at h
 have hz:∃ z,i.zero=some z:=by
  cases hz:tz P e with
  | none=>rw [hz] at h;cases h
  | some q =>
   unfold tz at hz
   rw [hi] at hz
   cases hz':i.zero with
   | none=>simp [hz'] at hz
   | some z=>exact ⟨z,rfl⟩
 obtain ⟨z,hz⟩:=hz
 have ez:zv=z:=by
  have:=hzr default
  simp [zeroValue,typeInfo,hi,hz] at this
  exact this.symm
 subst ez
 refine ⟨i,zv,k,ag,hi,hz,hn,hs,hsz,h0,fun C=>?_⟩
 obtain ⟨k',ag',zv',hs',_,hzr',_,hv⟩:=Ua4 (C:=C) (by unfold Xs;rw [hs];exact h)
 rw [hs] at hs'
 obtain ⟨rfl,rfl⟩:k=k'∧ag=ag':=by simpa using hs'
 have e2:zv'=zv:=by
  have h1:=hzr default
  have h2:=hzr' default
  rw [h1] at h2
  simpa using h2.symm
 rw [e2] at hv
 exact hv
theorem Xes {C:Ctx} {σ σ':Za} (hI:Inv C σ) {t:TypeId} {l c v:AV} {cl cc:Value} (hl:VR C l cl) (hc:VR C c cc) (h:Vaq P t l c σ=some (v,σ')) :
  ∃ (C':Ctx) (r:Value),(Instr.makeSlice t cl cc).run P C.w=.ok r C'.w∧Ext C C'∧Inv C' σ'∧VR C' v r:=by
 unfold Vaq at h
 split at h
 case h_2=>cases h
 rename_i k1 l k2 c
 cases hl;cases hc
 split at h
 case h_2=>cases h
 rename_i e he
 split at h
 case h_2=>cases h
 rename_i k ag zs hs hzs
 by_cases hh:0≤l∧l≤c∧c*tby P e≤281474976710656∧c≤9223372036854775807
 case neg=>rw [if_neg hh] at h;cases h
 rw [if_pos hh] at h
 simp only [Option.some.injEq,Prod.mk.injEq] at h
 obtain ⟨rfl,rfl⟩:=h
 obtain ⟨i,z,k',ag',hi,hz,hn,hs',hsz,h0,hv⟩:=Ybp hzs
 rw [hs] at hs'
 obtain ⟨rfl,rfl⟩:k=k'∧ag=ag':=by simpa using hs'
 have hby:tby P e=i.bytes:=by simp [tby,hi]
 have hrun:=run_make (P:=P) C.w t e i z (Uk he) hi hz k1 k2 l c hh.1 hh.2.1 (by rw [← hby,Int.mul_comm];exact hh.2.2.1) hh.2.2.2
 obtain ⟨hE,hI',hb⟩:=hI.new (hv C) e
 rw [hn] at hrun
 refine ⟨_,.slice (some ⟨C.w.heap.size,0,none⟩) l.toNat c.toNat,?_,hE,hI',?_⟩
 ·rw [hrun];simp [Ctx.push]
 ·have hsh:=Uay C (madeCells z.cells (c.toNat*k)) e
  have:=VR.arr (C:=C.push (.cells (madeCells z.cells (c.toNat*k)) e)) k σ.length 0 l.toNat C.w.heap.size c.toNat e _ (by simpa using hb) (by omega) hsh ⟨by simp [size_madeCells],Wa4 hs⟩
  simpa using this
def Za4 (P:Program) (ts:Array TypeId) (x y:AV) (σ:Za):Option (AV × Za) :=
 match ts.toList with
 | [t,_] =>
  match Uc P t with
  | some e=>match tsa P e with
   | some (k,_)=>if 0<k then (match x,y with
     | .arc k' r off len _,.arc k2 r2 off2 len2 _=>(match σ[r]?,σ[r2]? with
      | some (.cells cs),some (.cells ds)=>if k'=k∧k2=k∧(off+Nat.min len2 len)*k≤cs.length∧(off2+Nat.min len2 len)*k≤ds.length∧(sub ds (off2*k) (Nat.min len2 len*k)).all AV.one=true then some (.int .i64 (Nat.min len2 len),σ.set r (.cells (wr cs (off*k) (sub ds (off2*k) (Nat.min len2 len*k))))) else none
      | _,_=>none)
     | .arc k' r off len _,.arr k2 r2 off2 len2=>(match σ[r]?,σ[r2]? with
      | some (.cells cs),some (.cells ds)=>if k'=k∧k2=k∧(off+Nat.min len2 len)*k≤cs.length∧(off2+Nat.min len2 len)*k≤ds.length∧(sub ds (off2*k) (Nat.min len2 len*k)).all AV.one=true then some (.int .i64 (Nat.min len2 len),σ.set r (.cells (wr cs (off*k) (sub ds (off2*k) (Nat.min len2 len*k))))) else none
      | _,_=>none)
     | .arr k' r off len,.arr k2 r2 off2 len2=>(match σ[r]?,σ[r2]? with
      | some (.cells cs),some (.cells ds)=>if k'=k∧k2=k∧(off+Nat.min len2 len)*k≤cs.length∧(off2+Nat.min len2 len)*k≤ds.length∧(sub ds (off2*k) (Nat.min len2 len*k)).all AV.one=true then some (.int .i64 (Nat.min len2 len),σ.set r (.cells (wr cs (off*k) (sub ds (off2*k) (Nat.min len2 len*k))))) else none
      | _,_=>none)
     | _,_=>none) else none
   | none=>none
  | none=>none
 | _=>none
theorem Xhu {C:Ctx} {σ σ':Za} (hI:Inv C σ) {ts:Array TypeId} {ty:TypeId} {x y v:AV} {c d:Value} (hx:VR C x c) (hy:VR C y d) (h:Za4 P ts x y σ=some (v,σ')) :
  ∃ (C':Ctx) (r:Value),(Builtin.copy_ ts ty #[c,d]).run P C.w=.ok r C'.w∧Ext C C'∧Inv C' σ'∧VR C' v r:=by
 unfold Za4 at h
 split at h
 case h_2=>cases h
 rename_i t t2 hts
 obtain rfl:ts=#[t,t2]:=Array.ext' hts
 split at h
 case h_2=>cases h
 rename_i e he
 split at h
 case h_2=>cases h
 rename_i k ag hs
 by_cases hk:0<k
 case neg=>rw [if_neg hk] at h;cases h
 rw [if_pos hk] at h
 have key:∀ (r r2 off off2 len len2 b b2 cap cap2:Nat) (cs ds:List AV),C.blk[r]? = some b→C.blk[r2]? = some b2→σ[r]? = some (.cells cs)→σ[r2]? = some (.cells ds)→(off+Nat.min len2 len)*k≤cs.length→(off2+Nat.min len2 len)*k≤ds.length →
   (sub ds (off2*k) (Nat.min len2 len*k)).all AV.one=true →
   ∃ (C':Ctx) (r0:Value),(Builtin.copy_ #[t,t2] ty #[.slice (some ⟨b,off*k,none⟩) len cap,.slice (some ⟨b2,off2*k,none⟩) len2 cap2]).run P C.w=.ok r0 C'.w∧Ext C C'∧Inv C' (σ.set r (.cells (wr cs (off*k) (sub ds (off2*k) (Nat.min len2 len*k)))))∧VR C' (.int .i64 (Nat.min len2 len)) r0:=by
  intro r r2 off off2 len len2 b b2 cap cap2 cs ds hb hb2 hr hr2 hle hle2 h1
  obtain ⟨q1,vs,q2,q3⟩:=Wa2 (P:=P) (len':=len2) (cap:=cap2) hI hb2 hr2 hle2
  rw [Nat.add_mul] at hle
  obtain ⟨C',hrun,hE,_,hI'⟩:=hI.write (P:=P) (off:=off*k) hb hr q3 h1 (by omega)
  refine ⟨C',goInt (Nat.min len2 len),?_,hE,hI',.int _ _⟩
  have hl:(Builtin.lenOf (.slice (some ⟨b2,off2*k,none⟩) len2 cap2)).run P C.w=.ok len2 C.w:=rfl
  simp only [Builtin.copy_,List.getElem?_toArray,List.getElem?_cons_zero,List.getElem?_cons_succ,Sem.run_bind,run_underlying (Uk he),Result.andThen_ok,hl,Yq C.w hs,q2]
  rw [hrun]
  rfl
 split at h
 ·rename_i k' r off len cap k2 r2 off2 len2 cap2
  split at h
  case h_2=>cases h
  rename_i cs ds hr hr2
  by_cases hh:k'=k∧k2=k∧(off+Nat.min len2 len)*k≤cs.length∧(off2+Nat.min len2 len)*k≤ds.length∧(sub ds (off2*k) (Nat.min len2 len*k)).all AV.one=true
  case neg=>rw [if_neg hh] at h;cases h
  rw [if_pos hh] at h
  simp only [Option.some.injEq,Prod.mk.injEq] at h
  obtain ⟨rfl,rfl⟩:=h
  obtain ⟨rfl,rfl,h1,h2,h3⟩:=hh
  obtain ⟨b,e1,n1,hb,_,_,_,rfl⟩:=hx.arc_inv
  obtain ⟨b2,e2,n2,hb2,_,_,_,rfl⟩:=hy.arc_inv
  exact key r r2 off off2 len len2 b b2 _ _ cs ds hb hb2 hr hr2 h1 h2 h3
 ·rename_i k' r off len cap k2 r2 off2 len2
  split at h
  case h_2=>cases h
  rename_i cs ds hr hr2
  by_cases hh:k'=k∧k2=k∧(off+Nat.min len2 len)*k≤cs.length∧(off2+Nat.min len2 len)*k≤ds.length∧(sub ds (off2*k) (Nat.min len2 len*k)).all AV.one=true
  case neg=>rw [if_neg hh] at h;cases h
  rw [if_pos hh] at h
  simp only [Option.some.injEq,Prod.mk.injEq] at h
  obtain ⟨rfl,rfl⟩:=h
  obtain ⟨rfl,rfl,h1,h2,h3⟩:=hh
  obtain ⟨b,e1,n1,hb,_,_,_,rfl⟩:=hx.arc_inv
  obtain ⟨b2,cap2,e2,n2,hb2,_,_,_,rfl⟩:=hy.arr_inv
  exact key r r2 off off2 len len2 b b2 _ _ cs ds hb hb2 hr hr2 h1 h2 h3
 ·rename_i k' r off len k2 r2 off2 len2
  split at h
  case h_2=>cases h
  rename_i cs ds hr hr2
  by_cases hh:k'=k∧k2=k∧(off+Nat.min len2 len)*k≤cs.length∧(off2+Nat.min len2 len)*k≤ds.length∧(sub ds (off2*k) (Nat.min len2 len*k)).all AV.one=true
  case neg=>rw [if_neg hh] at h;cases h
  rw [if_pos hh] at h
  simp only [Option.some.injEq,Prod.mk.injEq] at h
  obtain ⟨rfl,rfl⟩:=h
  obtain ⟨rfl,rfl,h1,h2,h3⟩:=hh
  obtain ⟨b,cap,e1,n1,hb,_,_,_,rfl⟩:=hx.arr_inv
  obtain ⟨b2,cap2,e2,n2,hb2,_,_,_,rfl⟩:=hy.arr_inv
  exact key r r2 off off2 len len2 b b2 _ _ cs ds hb hb2 hr hr2 h1 h2 h3
 ·cases h
def Zar (P:Program) (ts:Array TypeId) (x y:AV) (σ:Za):Option (AV × Za) :=
 match ts.toList with
 | [t,_] =>
  match Uc P t with
  | some e=>match tsa P e with
   | some (k,_)=>if 0<k then (match Wr k y σ with
    | some (news,n)=>(match x with
     | .arr k' r off len=>(match σ[r]? with
      | some (.cells cs)=>if k'=k∧n≤len∧(off+n)*k≤cs.length then some (.int .i64 n,σ.set r (.cells (wr cs (off*k) news))) else none
      | _=>none)
     | _=>none)
    | none=>none) else none
   | none=>none
  | none=>none
 | _=>none
theorem Zfg {C:Ctx} {σ σ':Za} (hI:Inv C σ) {ts:Array TypeId} {ty:TypeId} {x y v:AV} {c d:Value} (hx:VR C x c) (hy:VR C y d) (h:Zar P ts x y σ=some (v,σ')) :
  ∃ (C':Ctx) (r:Value),(Builtin.copy_ ts ty #[c,d]).run P C.w=.ok r C'.w∧Ext C C'∧Inv C' σ'∧VR C' v r:=by
 unfold Zar at h
 split at h
 case h_2=>cases h
 rename_i t t2 hts
 obtain rfl:ts=#[t,t2]:=Array.ext' hts
 split at h
 case h_2=>cases h
 rename_i e he
 split at h
 case h_2=>cases h
 rename_i k ag hs
 by_cases hk:0<k
 case neg=>rw [if_neg hk] at h;cases h
 rw [if_pos hk] at h
 split at h
 case h_2=>cases h
 rename_i news n hac
 obtain ⟨hl,hnl,h1,cs',hfc,hvs⟩:=Zav (P:=P) hI hk hy hac
 split at h
 case h_2=>cases h
 rename_i k' r off len
 split at h
 case h_2=>cases h
 rename_i cs hr
 by_cases hh:k'=k∧n≤len∧(off+n)*k≤cs.length
 case neg=>rw [if_neg hh] at h;cases h
 rw [if_pos hh] at h
 simp only [Option.some.injEq,Prod.mk.injEq] at h
 obtain ⟨rfl,rfl⟩:=h
 obtain ⟨rfl,hn,hle⟩:=hh
 obtain ⟨b,cap,e',m,hb,_,_,_,rfl⟩:=hx.arr_inv
 rw [Nat.add_mul] at hle
 obtain ⟨C',hrun,hE,_,hI'⟩:=hI.write (P:=P) (off:=off*k') hb hr hvs h1 (by omega)
 refine ⟨C',goInt n,?_,hE,hI',.int _ _⟩
 have hmin:Nat.min n len=n:=Nat.min_eq_left hn
 simp only [Builtin.copy_,List.getElem?_toArray,List.getElem?_cons_zero,List.getElem?_cons_succ,Sem.run_bind,run_underlying (Uk he),Result.andThen_ok,hl,hmin,Yq C.w hs,hfc]
 rw [hrun]
 rfl
def Vu (P:Program) (ts:Array TypeId) (x:AV) (σ:Za):Option (AV × Za) :=
 match ts.toList with
 | [t] =>
  match Uc P t with
  | some e=>match x with
   | .nils=>some (.tup [],σ)
   | .emp=>some (.tup [],σ)
   | .nn=>some (.tup [],σ)
   | .pl _ []=>some (.tup [],σ)
   | .arr k r off len=>(match σ[r]?,Xs P e len,tsa P e with
    | some (.cells cs),some zs,some (k',_)=>if k'=k∧(off+len)*k≤cs.length∧zs.all AV.one=true then some (.tup [],σ.set r (.cells (wr cs (off*k) zs))) else none
    | _,_,_=>none)
   | _=>none
  | none=>none
 | _=>none
theorem Zhs {C:Ctx} {σ σ':Za} (hI:Inv C σ) {ts:Array TypeId} {ty:TypeId} {x v:AV} {c:Value} (hx:VR C x c) (h:Vu P ts x σ=some (v,σ')) :
  ∃ (C':Ctx) (r:Value),(Builtin.clear_ ts ty #[c]).run P C.w=.ok r C'.w∧Ext C C'∧Inv C' σ'∧VR C' v r:=by
 unfold Vu at h
 split at h
 case h_2=>cases h
 rename_i t hts
 obtain rfl:ts=#[t]:=Array.ext' hts
 split at h
 case h_2=>cases h
 rename_i e he
 have zero:∀ (A:Option Addr) (cap:Nat),(Builtin.clear_ #[t] ty #[.slice A 0 cap]).run P C.w=.ok (.tuple #[]) C.w:=fun A cap=>by
  cases A<;>simp [Builtin.clear_,run_underlying (Uk he)]
 have tup0:VR C (.tup []) (.tuple #[]):=.tup [] [] rfl (fun i x c h=>by simp at h)
 split at h
 ·simp only [Option.some.injEq,Prod.mk.injEq] at h;obtain ⟨rfl,rfl⟩:=h
  cases hx;exact ⟨C,_,zero _ _,Ext.refl C,hI,tup0⟩
 ·simp only [Option.some.injEq,Prod.mk.injEq] at h;obtain ⟨rfl,rfl⟩:=h
  cases hx;exact ⟨C,_,zero _ _,Ext.refl C,hI,tup0⟩
 ·simp only [Option.some.injEq,Prod.mk.injEq] at h;obtain ⟨rfl,rfl⟩:=h
  cases hx;exact ⟨C,_,zero _ _,Ext.refl C,hI,tup0⟩
 ·simp only [Option.some.injEq,Prod.mk.injEq] at h;obtain ⟨rfl,rfl⟩:=h
  obtain ⟨A,cap,rfl,_,_⟩:=hx.pl_inv
  exact ⟨C,_,zero _ _,Ext.refl C,hI,tup0⟩
 ·rename_i k r off len
  split at h
  case h_2=>cases h
  rename_i cs zs k' ag hr hzs hs
  by_cases hh:k'=k∧(off+len)*k≤cs.length∧zs.all AV.one=true
  case neg=>rw [if_neg hh] at h;cases h
  rw [if_pos hh] at h
  simp only [Option.some.injEq,Prod.mk.injEq] at h
  obtain ⟨rfl,rfl⟩:=h
  obtain ⟨rfl,hle,h1⟩:=hh
  obtain ⟨b,cap,e',m,hb,_,_,_,rfl⟩:=hx.arr_inv
  rcases Nat.eq_zero_or_pos len with h0 | h0
  ·subst h0
   have e0:zs=[]:=by
    unfold Xs at hzs
    split at hzs
    ·split at hzs
     ·simp at hzs;exact hzs
     ·cases hzs
    ·cases hzs
   subst e0
   have ew:wr cs (off*k') []=cs:=by simp [wr]
   rw [ew]
   have es:σ.set r (.cells cs)=σ:=by
    obtain ⟨hlt,hv⟩:=Qzs.1 hr
    rw [← hv];exact List.set_getElem_self hlt
   rw [es]
   exact ⟨C,_,zero _ _,Ext.refl C,hI,tup0⟩
  ·obtain ⟨i,z,k2,ag2,hi,hz,hn,hs2,hsz,hk0,hv⟩:=Ybp hzs
   rw [hs] at hs2
   obtain ⟨rfl,rfl⟩:k'=k2∧ag=ag2:=by simpa using hs2
   have hvl:=(hv C).len
   have hzl:zs.length=len*k':=by simpa [size_madeCells] using hvl
   rw [Nat.add_mul] at hle
   obtain ⟨C',hrun,hE,_,hI'⟩:=hI.write (P:=P) (off:=off*k') hb hr (hv C) h1 (by omega)
   refine ⟨C',.tuple #[],?_,hE,hI',.tup [] [] rfl (fun i x c h=>by simp at h)⟩
   have hzr:∀ w,(zeroValue e).run P w=.ok z w:=fun w=>by simp [zeroValue,typeInfo,hi,hz]
   have hzc:(Builtin.zeroCells z.cells len).toList=(madeCells z.cells (len*k')).toList:=by simp [Builtin.zeroCells,madeCells,hsz]
   obtain ⟨len',rfl⟩:∃ m,len=m+1:=⟨len - 1,by omega⟩
   simp only [Builtin.clear_,List.getElem?_toArray,List.getElem?_cons_zero,Sem.run_bind,run_underlying (Uk he),Result.andThen_ok,hzr,hzc]
   rw [hrun]
   rfl
 ·cases h
def Wab:List AV→Option (List UInt8)
 | []=>some []
 | .int .u8 n::l=>(Wab l).map (UInt8.ofNat n.toNat::·)
 | _=>none
def abstr (P:Program) (s d:TypeId) (x:AV) (σ:Za):Option AV :=
 match Uc P s with
 | some e=>if Ve P e=some .u8∧Yd P d=true then (match x with
  | .arr 1 r off len=>(match Wr 1 x σ with
   | some (l,_)=>(Wab l).map AV.str
   | none=>none)
  | .pl 1 l=>(Wab l).map AV.str
  | _=>none) else none
 | none=>none
theorem Uep {C:Ctx}:∀ {l:List AV} {s:List UInt8} {cs:List Value},Wab l=some s→VRs C l cs→∃ ns:List Int,cs=ns.map (Value.int .u8)∧s=ns.map (fun n=>UInt8.ofNat n.toNat):=by
 intro l
 induction l with
 | nil=>intro s cs h hv;simp [Wab] at h;subst h;obtain rfl:=hv.of_nil;exact ⟨[],rfl,rfl⟩
 | cons x l ih =>
  intro s cs h hv
  obtain ⟨c,cs',rfl,hc,hcs⟩:=hv.inv
  unfold Wab at h
  split at h
  ·rename_i heq;cases heq
  ·rename_i n l' heq
   simp only [List.cons.injEq] at heq
   obtain ⟨rfl,rfl⟩:=heq
   rw [Qzm] at h
   obtain ⟨s',hs',rfl⟩:=h
   obtain ⟨ns,rfl,rfl⟩:=ih hs' hcs
   cases hc
   exact ⟨n::ns,rfl,rfl⟩
  ·cases h
theorem Wfo (ns:List Int):∀ (s:List UInt8),ns.foldl (fun (r:ByteArray) n=>r.push (UInt8.ofNat n.toNat)) ⟨⟨s⟩⟩=⟨⟨s++ns.map (fun n=>UInt8.ofNat n.toNat)⟩⟩:=by
 induction ns with
 | nil=>intro s;simp
 | cons n ns ih =>
  intro s
  rw [List.foldl_cons]
  have:(ByteArray.push ⟨⟨s⟩⟩ (UInt8.ofNat n.toNat))=⟨⟨s++[UInt8.ofNat n.toNat]⟩⟩:=by
   apply ByteArray.ext
   simp [ByteArray.push]
  rw [this,ih]
  simp
theorem Wbt {C:Ctx} {σ:Za} (hI:Inv C σ) {s d:TypeId} {x v:AV} {c:Value} (hx:VR C x c) (h:abstr P s d x σ=some v):∃ r,(convert s d c).run P C.w=.ok r C.w∧VR C v r:=by
 unfold abstr at h
 split at h
 case h_2=>cases h
 rename_i e he
 by_cases hh:Ve P e=some .u8∧Yd P d=true
 case neg=>rw [if_neg hh] at h;cases h
 rw [if_pos hh] at h
 have key:∀ (l:List AV) (n:Nat) (s':List UInt8) (A:Option Addr) (cap:Nat),Wr 1 x σ=some (l,n)→Wab l=some s'→c=.slice A n cap→(A=none→n=0) →
   (convert s d c).run P C.w=.ok (.string ⟨⟨s'⟩⟩) C.w:=by
  intro l n s' A cap hac hb hcs hA
  obtain ⟨_,hnl,_,cs,hfc,hvs⟩:=Zav (P:=P) hI (by decide) hx hac
  obtain ⟨ns,rfl,rfl⟩:=Uep hb hvs
  subst hcs
  rw [run_convert_bytes_string C.w s d e A n cap (Uk he) (Zak hh.1) (Ux hh.2)]
  cases A with
  | none =>
   obtain rfl:=hA rfl
   have hns:ns=[]:=by
    have:=hvs.len
    simp at this
    exact List.eq_nil_of_length_eq_zero (by omega)
   subst hns
   rfl
  | some a =>
   simp only [Builtin.firstCells,Nat.mul_one] at hfc
   rw [run_bytesToString C.w a n cap ns (by rw [hfc])]
   have:=Wfo ns []
   simp only [List.nil_append] at this
   rw [show ByteArray.empty=⟨⟨[]⟩⟩ from rfl,this]
 split at h
 ·rename_i r off len
  split at h
  case h_2=>cases h
  rename_i l n hac
  rw [Qzm] at h
  obtain ⟨s',hs',rfl⟩:=h
  have hn:n=len:=by
   simp only [Wr] at hac
   split at hac
   ·split at hac
    ·simp only [Option.some.injEq,Prod.mk.injEq] at hac;exact hac.2.symm
    ·cases hac
   ·cases hac
  obtain ⟨b,cap,e',m,hb,_,_,_,hc⟩:=hx.arr_inv
  subst hn
  exact ⟨_,key l n s' _ cap hac hs' hc (by simp),.str _⟩
 ·rename_i l
  rw [Qzm] at h
  obtain ⟨s',hs',rfl⟩:=h
  obtain ⟨A,cap,hc,hcap,hA⟩:=hx.pl_inv
  have hfl:l.flatMap AV.cells=l:=by
   clear hx hA key hc hcap
   induction l generalizing s' with
   | nil=>rfl
   | cons y l ih =>
    unfold Wab at hs'
    split at hs'
    ·rename_i heq;cases heq
    ·rename_i n l' heq
     simp only [List.cons.injEq] at heq
     obtain ⟨rfl,rfl⟩:=heq
     rw [Qzm] at hs'
     obtain ⟨s2,h2,_⟩:=hs'
     rw [List.flatMap_cons,ih s2 h2]
     rfl
    ·cases hs'
  refine ⟨_,key l l.length s' A cap (by simp only [Wr,if_true];rw [hfl]) hs' hc ?_,.str _⟩
  rintro rfl
  rcases hA with rfl | ⟨b,o,hA,_⟩
  ·rfl
  ·cases hA
 ·cases h
def Zas (P:Program) (t:TypeId) (x:AV) (σ:Za):Option (AV × Za) :=
 match x with
 | .str s=>if Yd P t then some (.ptr σ.length 0,σ++[.iter s 0]) else none
 | _=>none
def Yav (x:AV) (isS:Bool) (σ:Za):Option (AV × Za) :=
 match x,isS with
 | .ptr r 0,true=>match σ[r]? with
  | some (.iter s pos)=>if pos<s.length then some (.tup [.bool true,.int .i64 pos,.int .i32 (Utf8.decode ⟨⟨s⟩⟩ pos).1],σ.set r (.iter s (pos+(Utf8.decode ⟨⟨s⟩⟩ pos).2))) else some (.tup [.bool false],σ)
  | _=>none
 | _,_=>none
theorem Zd5 {C:Ctx} {σ σ':Za} (hI:Inv C σ) {t:TypeId} {x v:AV} {c:Value} (hx:VR C x c) (h:Zas P t x σ=some (v,σ')) :
  ∃ (C':Ctx) (r:Value),(Instr.range t c).run P C.w=.ok r C'.w∧Ext C C'∧Inv C' σ'∧VR C' v r:=by
 unfold Zas at h
 split at h
 case h_2=>cases h
 rename_i s
 by_cases hh:Yd P t=true
 case neg=>rw [if_neg hh] at h;cases h
 rw [if_pos hh] at h
 simp only [Option.some.injEq,Prod.mk.injEq] at h
 obtain ⟨rfl,rfl⟩:=h
 cases hx
 have hE:=Ext.push hI.plt (.stringIter ⟨⟨s⟩⟩ 0)
 refine ⟨C.push (.stringIter ⟨⟨s⟩⟩ 0),_,by rw [run_range_string C.w t _ (Ux hh)];rfl,hE,hI.push (.iter s 0),.ptr _ _ _ (by simp [Ctx.push,hI.len])⟩
theorem Xeq {C:Ctx} {σ σ':Za} (hI:Inv C σ) {ty:TypeId} {x v:AV} {isS:Bool} {c:Value} (hx:VR C x c) (h:Yav x isS σ=some (v,σ')) :
  ∃ (C':Ctx) (r:Value),(Instr.next c isS ty).run P C.w=.ok r C'.w∧Ext C C'∧Inv C' σ'∧VR C' v r:=by
 unfold Yav at h
 split at h
 case h_2=>cases h
 rename_i r
 split at h
 case h_2=>cases h
 rename_i s pos hr
 obtain ⟨b,hb,rfl⟩:=hx.ptr_inv
 obtain ⟨hnp,co,hco,hR⟩:=hI.live r b _ hb hr rfl
 cases hR
 by_cases hlt:pos<s.length
 ·rw [if_pos hlt] at h
  simp only [Option.some.injEq,Prod.mk.injEq] at h
  obtain ⟨rfl,rfl⟩:=h
  have hE:=Ext.set (C:=C) (b:=b) (o:=.stringIter ⟨⟨s⟩⟩ (pos+(Utf8.decode ⟨⟨s⟩⟩ pos).2)) hco hnp rfl
  refine ⟨C.at_ (Xh C.w b (.stringIter ⟨⟨s⟩⟩ (pos+(Utf8.decode ⟨⟨s⟩⟩ pos).2))),.tuple #[.bool true,.int .i64 pos,.int .i32 (Utf8.decode ⟨⟨s⟩⟩ pos).1],?_,hE,hI.set hb hr rfl hco rfl (.iter s _),?_⟩
  ·have hlt':pos<(⟨⟨s⟩⟩:ByteArray).size:=hlt
   simp only [Instr.next,getObj,setObj,Sem.run_bind,Sem.run,hco,Result.andThen,hlt',if_true]
   simp [goInt,Xh,Ctx.at_]
  ·exact .tup _ [.bool true,.int .i64 pos,.int .i32 (Utf8.decode ⟨⟨s⟩⟩ pos).1] rfl (fun i x c hx hc=>by
    match i,hx,hc with
    | 0,hx,hc=>simp at hx hc;subst hx;subst hc;exact .bool _
    | 1,hx,hc=>simp at hx hc;subst hx;subst hc;exact .int _ _
    | 2,hx,hc=>simp at hx hc;subst hx;subst hc;exact .int _ _
    | i+3,hx,hc=>simp at hx)
 ·rw [if_neg hlt] at h
  simp only [Option.some.injEq,Prod.mk.injEq] at h
  obtain ⟨rfl,rfl⟩:=h
  refine ⟨C,.tuple #[.bool false],?_,Ext.refl C,hI,?_⟩
  ·have hlt':¬ pos<(⟨⟨s⟩⟩:ByteArray).size:=hlt
   simp [Instr.next,getObj,Sem.run,hco,hlt']
  ·exact .tup _ [.bool false] rfl (fun i x c hx hc=>by
    match i,hx,hc with
    | 0,hx,hc=>simp at hx hc;subst hx;subst hc;exact .bool _
    | i+1,hx,hc=>simp at hx)
def Zat (mx:Bool) (x y:AV):Option AV :=
 match x,y with
 | .int k a,.int k' b=>if k=k' then some (.int k (if mx then (if a<b then b else a) else (if b<a then b else a))) else none
 | _,_=>none
theorem Yb7 {C:Ctx} {mx:Bool} {ts:Array TypeId} {ty:TypeId} {x y v:AV} {c d:Value} (hx:VR C x c) (hy:VR C y d) (h:Zat mx x y=some v) (w:World) :
  ∃ r,(if mx then Builtin.max_ ts ty #[c,d] else Builtin.min_ ts ty #[c,d]).run P w=.ok r w∧VR C v r:=by
 unfold Zat at h
 split at h
 case h_2=>cases h
 rename_i k a k' b
 cases hx;cases hy
 split at h
 case isFalse=>cases h
 rename_i hk
 subst hk
 simp only [Option.some.injEq] at h
 subst h
 cases mx
 ·exact ⟨_,by simp [Builtin.min_,Builtin.min2],.int _ _⟩
 ·refine ⟨_,?_,.int _ _⟩
  simp only [if_true,Builtin.max_,List.foldlM_cons,List.foldlM_nil,Sem.run_bind,Builtin.max2,Sem.run_pure,Result.andThen_ok]
def Van (P:Program) (s d:TypeId):Bool:=Yd P s&&match Uc P d with | some e=>decide (Ve P e=some .u8)&&e == 5 | none=>false
theorem Xc3 (w:World) (e:TypeId) (s:ByteArray):Lib.bytesWorld w e s=w.drew.alloc (.cells (Lib.bytesCells w e s) e ((Lib.bytesCells w e s).size,(Lib.bytesCells w e s).size+1)):=by
 have hh:(Lib.bytesWorld w e s).heap=(w.drew.alloc (.cells (Lib.bytesCells w e s) e ((Lib.bytesCells w e s).size,(Lib.bytesCells w e s).size+1))).heap:=by
  apply Array.ext_getElem?
  intro i
  have hsz:w.drew.heap.size=w.heap.size:=rfl
  rcases Nat.lt_trichotomy i w.heap.size with h | h | h
  ·rw [Lib.bytesWorld_at_old w e s i h]
   have h1:i<w.drew.heap.size:=h
   show _=(w.drew.heap.push _)[i]?
   rw [Array.getElem?_push_lt h1,Array.getElem?_eq_getElem h]
   rfl
  ·subst h
   rw [Lib.bytesWorld_at_new w e s]
   exact (heap_alloc_new w.drew _).symm
  ·rw [Array.getElem?_eq_none (by rw [Lib.bytesWorld_size];omega),Array.getElem?_eq_none]
   show (w.drew.heap.push _).size≤i
   rw [Array.size_push,hsz]
   omega
 have h2:Lib.bytesWorld w e s={ (w.drew.alloc (.cells (Lib.bytesCells w e s) e ((Lib.bytesCells w e s).size,(Lib.bytesCells w e s).size+1))) with heap:=(Lib.bytesWorld w e s).heap }:=by
  unfold Lib.bytesWorld World.freeze
  rw [if_neg (by decide)]
  rfl
 rw [h2,hh]
theorem Ugs {C:Ctx} {σ:Za} (hI:Inv C σ) {s d:TypeId} {b:List UInt8} {c:Value} (hx:VR C (.str b) c) (ht:Van P s d=true) :
  ∃ (C':Ctx) (r:Value),(convert s d c).run P C.w=.ok r C'.w∧Ext C C'∧Inv C' (σ++[.cells (b.map fun x=>AV.int .u8 x.toNat)])∧VR C' (.arr 1 σ.length 0 b.length) r:=by
 unfold Van at ht
 rw [Bool.and_eq_true] at ht
 obtain ⟨h1,h2⟩:=ht
 split at h2
 ·rename_i e he
  rw [Bool.and_eq_true] at h2
  have hk:=Zak (of_decide_eq_true h2.1)
  have hkT:e=5:=by simpa using h2.2
  rw [hx.str_inv]
  have hrun:=Lib.run_convert_string_bytes (P:=P) C.w s d e ⟨⟨b⟩⟩ (Ux h1) (Uk he) hk
  rw [Xc3] at hrun
  have hcap:b.length≤grownCap C.w b.length 0 e:=Nat.le_add_right _ _
  have hsz:(Lib.bytesCells C.w e ⟨⟨b⟩⟩).size=grownCap C.w b.length 0 e:=by
   have e1:(⟨⟨b⟩⟩:ByteArray).size=b.length:=rfl
   simp [Lib.bytesCells,e1]
   omega
  have hid:=Inv.drew hI
  have hE1:=Ext.drew (C:=C)
  have hE2:=Ext.push hid.plt (.cells (Lib.bytesCells C.w e ⟨⟨b⟩⟩) e ((Lib.bytesCells C.w e ⟨⟨b⟩⟩).size,(Lib.bytesCells C.w e ⟨⟨b⟩⟩).size+1))
  refine ⟨_,_,hrun,hE1.trans hE2,hid.push (.cells _ _ e _ _ ?_ ?_ ?_),?_⟩
  ·rw [hsz];simpa using hcap
  ·exact ⟨fun i hi=>by omega,.inl hkT⟩
  ·intro i x c hx hc
   simp [Qzp] at hx
   obtain ⟨y,hy,rfl⟩:=hx
   have hi:=(Qzs.1 hy).1
   have:(Lib.bytesCells C.w e ⟨⟨b⟩⟩)[i]? = some (.int .u8 y.toNat):=by
    unfold Lib.bytesCells
    rw [Array.getElem?_append_left (by simpa using hi)]
    simp [hy]
   rw [this] at hc
   obtain rfl:=Option.some.inj hc
   exact .int _ _
  ·refine .arr 1 σ.length 0 b.length C.w.drew.heap.size _ e (Lib.bytesCells C.w e ⟨⟨b⟩⟩).size ?_ hcap ?_ ?_
   ·show (C.blk++[C.w.drew.heap.size])[σ.length]? = _
    rw [← hI.len]
    simp
   ·show (C.w.drew.alloc _).shape? C.w.drew.heap.size=_
    rw [Va0,heap_alloc_new]
    rfl
   ·exact ⟨by rw [hsz];exact Nat.le_of_eq (by rw [Nat.zero_add,Nat.mul_one];rfl),.inl rfl⟩
 ·cases h2
end Ab
namespace Ab
open Go Go.RowKit
variable [Mode]
variable {P:Program}
def Ym (ks:List Nat) (xs:List AV):List (AV × AV)→Nat→Option (Option (Nat × AV))
 | [],_=>some none
 | (.agg ys,v)::es,i=>match Wh ks xs ys with
  | some true=>some (some (i,v))
  | some false=>Ym ks xs es (i+1)
  | none=>none
 | _,_=>none
def Xi (P:Program) (t:TypeId):Option (List Nat) :=
 match tsa P t with
 | some (_,true)=>Wy P 40 t
 | _=>none
def Yr (xs:List AV):Bool:=xs.all fun | .int _ _=>true | .bool _=>true | .str _=>true | _=>false
def Ybn (P:Program) (d:Nat) (t:TypeId) (ks:List Nat):Prop :=
 ∀ (em:Bool) (n:Nat) (ag:Bool) (a:Value) (cs:List Value) (w:World) (D:Nat),d≤D→tsa P t=some (n,ag)→Uq ag a cs→cs.length=ks.length→(Instr.checkKey em D t a).run P w=.ok () w
theorem Waw {t:TypeId} (h:(∃ q,P.underlying t=some (.int q))∨P.underlying t=some .bool∨P.underlying t=some .string) (em:Bool) (v:Value) (w:World) (D:Nat):(Instr.checkKey em (D+1) t v).run P w=.ok () w:=by
 rcases h with ⟨q,h⟩ | h | h<;>(unfold Instr.checkKey;simp only [Sem.run_bind,run_underlying h,Result.andThen_ok,Sem.run_pure])
theorem Zh1 {d:Nat} {rec:TypeId→Option (List Nat)} (ih:∀ t ks,rec t=some ks→Ybn P d t ks∧∀ n,tsa P t=some (n,false)→n=ks.length→n=1) (em:Bool) (w:World) (D:Nat) (hD:d≤D) (cs:List Value):∀ (fs:List Field) (n:Nat) (ks:List Nat),
  Wai P rec fs n=some ks→n+ks.length≤cs.length →
  (forIn fs PUnit.unit (fun (f:Field) (_:PUnit)=>(if f.name≠"_" then (do let p ← part f.type cs.toArray f.offset;Instr.checkKey em D f.type p;pure (ForInStep.yield PUnit.unit)) else pure (ForInStep.yield PUnit.unit):Sem (ForInStep PUnit)))).run P w=.ok PUnit.unit w:=by
 intro fs
 induction fs with
 | nil=>intro n ks _ _;rfl
 | cons f fs ih' =>
  intro n ks h hl
  simp only [Wai] at h
  split at h
  case isFalse=>cases h
  rename_i hc
  simp only [Bool.and_eq_true,bne_iff_ne,ne_eq,beq_iff_eq] at hc
  obtain ⟨hn,ho⟩:=hc
  split at h
  case h_2=>cases h
  rename_i k1 m ag hr hs
  split at h
  case isFalse=>cases h
  rename_i hm
  obtain ⟨hm0,hm⟩:=hm
  rw [Qzm] at h
  obtain ⟨k2,h2,rfl⟩:=h
  rw [List.length_append] at hl
  obtain ⟨i1,i2⟩:=ih _ _ hr
  obtain ⟨a,p1,c1⟩:=Zao (cs:=cs) (i:=n) (n:=m) hs (by omega) (fun hh=>by subst hh;exact i2 _ hs hm) w
  have g1:=i1 em m ag a _ w D hD hs c1 (by simp;omega)
  have g2:=ih' (n+m) k2 h2 (by omega)
  rw [List.forIn_cons]
  simp only [Sem.run_bind,if_pos hn,ho,p1,Result.andThen_ok,g1,Sem.run_pure]
  exact g2
theorem Vd2 {d:Nat} {e:TypeId} {ks:List Nat} {m:Nat} {ag:Bool} (ih:Ybn P d e ks) (hs:tsa P e=some (m,ag)) (hm:m=ks.length) (h1:ag=false→m=1) (em:Bool) (w:World) (D:Nat) (hD:d≤D) (cs:List Value):∀ (q n:Nat),(n+q)*m≤cs.length →
  (forIn (List.range' n q) PUnit.unit (fun (i:Nat) (_:PUnit)=>(do let z ← sizeOf e;let p ← part e cs.toArray (i*z);Instr.checkKey em D e p;pure (ForInStep.yield PUnit.unit):Sem (ForInStep PUnit)))).run P w=.ok PUnit.unit w:=by
 intro q
 induction q with
 | zero=>intro n _;rfl
 | succ q ih' =>
  intro n hl
  have h2:(n+1)*m≤(n+(q+1))*m:=Nat.mul_le_mul_right m (by omega)
  rw [Nat.succ_mul] at h2
  obtain ⟨a,p1,c1⟩:=Zao (cs:=cs) (i:=n*m) (n:=m) hs (by omega) h1 w
  have g1:=ih em m ag a _ w D hD hs c1 (by simp;omega)
  have g2:=ih' (n+1) (by rw [show n+1+q=n+(q+1) from by omega];exact hl)
  rw [List.range'_succ,List.forIn_cons]
  simp only [Sem.run_bind,Yq w hs,p1,Result.andThen_ok,g1,Sem.run_pure]
  exact g2
theorem Zd8:∀ (d:Nat) (t:TypeId) (ks:List Nat),Wy P d t=some ks→Ybn P d t ks:=by
 intro d
 induction d with
 | zero=>intro t ks h;simp [Wy] at h
 | succ d ih =>
  intro t ks h
  have h0:=h
  unfold Wy at h
  intro em n ag a cs w D hD hs ha hl
  obtain ⟨D,rfl⟩:∃ e,D=e+1:=⟨D - 1,by omega⟩
  split at h
  ·rename_i q hu;exact Waw (.inl ⟨q,hu⟩) em a w D
  ·rename_i hu;exact Waw (.inr (.inl hu)) em a w D
  ·rename_i hu;exact Waw (.inr (.inr hu)) em a w D
  ·rename_i fs hu
   split at h
   ·cases h
   have hag:ag=true:=by
    cases ag with
    | true=>rfl
    | false=>have:=Yam hs hu;simp [Vz] at this
   subst hag
   simp only [Uq,if_true] at ha
   subst ha
   unfold Instr.checkKey
   simp only [Sem.run_bind,run_underlying hu,Result.andThen_ok]
   rw [← Array.forIn_toList]
   rw [Zh1 (fun t ks h=>⟨ih t ks h,(Zax d t ks h).2⟩) em w D (by omega) cs fs.toList 0 ks h (by omega)]
   rfl
  ·rename_i m e hu
   split at h
   case h_2=>cases h
   rename_i k1 n1 ag1 hr hs1
   split at h
   case isFalse=>cases h
   rename_i hn
   obtain ⟨hn0,hn⟩:=hn
   have hag:ag=true:=by
    cases ag with
    | true=>rfl
    | false=>have:=Yam hs hu;simp [Vz] at this
   subst hag
   simp only [Uq,if_true] at ha
   subst ha
   cases h
   have hk:(List.replicate m k1).flatten.length=m*n1:=by simp [hn]
   unfold Instr.checkKey
   simp only [Sem.run_bind,run_underlying hu,Result.andThen_ok]
   simp only [Std.Legacy.Range.forIn_eq_forIn_range',Std.Legacy.Range.size,Nat.sub_zero,Nat.add_one_sub_one,Nat.div_one]
   rw [Vd2 (ih _ _ hr) hs1 hn (fun hh=>by subst hh;exact (Zax d _ _ hr).2 _ hs1 hn) em w D (by omega) cs m 0 (by rw [Nat.zero_add];omega)]
   rfl
  ·cases h
theorem Vbg {t:TypeId} {ks:List Nat} (h:Xi P t=some ks):(∃ n,tsa P t=some (n,true))∧Wy P 40 t=some ks:=by
 unfold Xi at h
 split at h
 ·rename_i n hs;exact ⟨⟨n,hs⟩,h⟩
 ·cases h
theorem Vbj {t:TypeId} {ks:List Nat} (h:Xi P t=some ks) {cs:List Value} (hl:cs.length=ks.length) (em:Bool) (w:World):(Instr.checkKey em 10000 t (.agg cs.toArray)).run P w=.ok () w:=by
 obtain ⟨⟨n,hs⟩,hd⟩:=Vbg h
 exact Zd8 40 t ks hd em n true _ cs w 10000 (Nat.le_of_ble_eq_true rfl) hs (by simp [Uq]) hl
theorem Zb8 {C:Ctx} {t:TypeId} {ks:List Nat} {xs ys:List AV} {cs ds:List Value} {r:Bool} (ht:Xi P t=some ks) (hx:VRs C xs cs) (hy:VRs C ys ds) (h:Wh ks xs ys=some r) (w:World) :
  (Op.equal t (.agg cs.toArray) (.agg ds.toArray)).run P w=.ok r w:=by
 obtain ⟨⟨n,hs⟩,hd⟩:=Vbg ht
 exact (Zax 40 t ks hd).1 C n true _ _ cs ds xs ys r w 10000 (by decide) hs (by simp [Uq]) (by simp [Uq]) hx hy h
theorem Ye5 {t:TypeId} {ks:List Nat} (ht:Xi P t=some ks):(∃ fs,P.underlying t=some (.struct fs))∨∃ m e,P.underlying t=some (.array m e):=by
 obtain ⟨⟨n,hs⟩,hd⟩:=Vbg ht
 obtain ⟨i,d,_,hu,_,hag⟩:=Xac hs
 cases d<;>simp [Vz] at hag
 ·rename_i m e;exact .inr ⟨m,e,hu⟩
 ·rename_i fs;exact .inl ⟨fs,hu⟩
theorem Xg8 {C:Ctx} {t:TypeId} {ks:List Nat} (ht:Xi P t=some ks) {xs:List AV} {cs:List Value} (hx:VRs C xs cs) (w:World):∀ (es:List (AV × AV)) (ces:List MapEntry) (i:Nat) (r:Option (Nat × AV)),es.length=ces.length →
  (∀ (i:Nat) (x:AV × AV) (e:MapEntry),es[i]? = some x→ces[i]? = some e→VR C x.1 e.key∧VR C x.2 e.val)→Ym ks xs es i=some r →
  ∃ rc:Option (Nat × Value),(Instr.findAsking t (.agg cs.toArray) ces i).run P w=.ok rc w∧(match r,rc with
   | none,none=>True
   | some (j,v),some (j',c)=>j=j'∧i≤j∧VR C v c∧∃ e,ces[j - i]? = some e∧e.val=c∧∃ ys ds,e.key=.agg (List.toArray ds)∧VRs C ys ds∧Wh ks xs ys=some true
   | _,_=>False):=by
 intro es
 induction es with
 | nil =>
  intro ces i r hl _ h
  cases ces with
  | cons e ces=>simp at hl
  | nil=>simp [Ym] at h;subst h;exact ⟨none,rfl,trivial⟩
 | cons x es ih =>
  intro ces i r hl hr h
  cases ces with
  | nil=>simp at hl
  | cons e ces =>
   obtain ⟨k,v⟩:=x
   have h0:=hr 0 (k,v) e rfl rfl
   cases k with
   | agg ys =>
    simp only [Ym] at h
    obtain ⟨ds,hd,hds⟩:=h0.1.agg_inv
    split at h
    ·rename_i he
     simp only [Option.some.injEq] at h
     subst h
     refine ⟨some (i,e.val),?_,rfl,Nat.le_refl _,h0.2,e,by simp,rfl,ys,ds,hd,hds,he⟩
     simp only [Instr.findAsking,Sem.run_bind,hd,Zb8 ht hx hds he w,Result.andThen_ok,if_true,Sem.run_pure]
    ·rename_i he
     obtain ⟨rc,hrc,hm⟩:=ih ces (i+1) r (by simpa using hl) (fun i x e hx he=>hr (i+1) x e (by simpa using hx) (by simpa using he)) h
     refine ⟨rc,?_,?_⟩
     ·simp only [Instr.findAsking,Sem.run_bind,hd,Zb8 ht hx hds he w,Result.andThen_ok,Bool.false_eq_true,if_false]
      exact hrc
     ·cases r with
      | none=>cases rc with
       | none=>trivial
       | some _=>exact hm
      | some p=>cases rc with
       | none=>exact hm
       | some q =>
        obtain ⟨m1,m2,m3,e',m4,m5⟩:=hm
        refine ⟨m1,by omega,m3,e',?_,m5⟩
        rw [show p.1 - i=(p.1 - (i+1))+1 from by omega]
        simpa using m4
    ·cases h
   | _=>simp [Ym] at h
theorem Wao {C:Ctx} {t:TypeId} {ks:List Nat} (ht:Xi P t=some ks) {xs:List AV} {cs:List Value} (hx:VRs C xs cs) (w:World) {es:List (AV × AV)} {ces:Array MapEntry} {r:Option (Nat × AV)} (hl:es.length=ces.size)
  (hr:∀ (i:Nat) (x:AV × AV) (e:MapEntry),es[i]? = some x→ces[i]? = some e→VR C x.1 e.key∧VR C x.2 e.val) (h:Ym ks xs es 0=some r) :
  ∃ rc:Option (Nat × Value),(Instr.findKey t (.agg cs.toArray) ces.toList).run P w=.ok rc w∧(match r,rc with
   | none,none=>True
   | some (j,v),some (j',c)=>j=j'∧VR C v c∧∃ e,ces[j]? = some e∧e.val=c∧∃ ys ds,e.key=.agg (List.toArray ds)∧VRs C ys ds∧Wh ks xs ys=some true
   | _,_=>False):=by
 obtain ⟨rc,hrc,hm⟩:=Xg8 ht hx w es ces.toList 0 r (by simpa using hl) (fun i x e hx he=>hr i x e hx (by simpa using he)) h
 have hnow:(Instr.findKey t (.agg cs.toArray) ces.toList).run P w=(Instr.findAsking t (.agg cs.toArray) ces.toList).run P w:=by
  rcases Ye5 ht with ⟨fs,hu⟩ | ⟨m,e,hu⟩<;>(
   simp only [Instr.findKey,Sem.run_bind,run_underlying hu,Result.andThen_ok]
   cases hc:ces.toList with
   | nil=>simp only [Instr.findNow,Instr.findAsking]
   | cons e rest=>simp only [Instr.findNow,Instr.sameNow])
 refine ⟨rc,hnow.trans hrc,?_⟩
 cases r with
 | none=>cases rc with
  | none=>trivial
  | some _=>exact hm
 | some p=>cases rc with
  | none=>exact hm
  | some q=>obtain ⟨m1,_,m3,e,m4,m5⟩:=hm;exact ⟨m1,m3,e,by simpa using m4,m5⟩
def Zw (kc:Nat) (x:AV):List (AV × AV)→Nat→Option (Option (Nat × AV))
 | [],_=>some none
 | (y,v)::es,i=>match Zt kc x y with
  | some true=>some (some (i,v))
  | some false=>Zw kc x es (i+1)
  | none=>none
theorem Xgq {C:Ctx} {kc:Nat} {D:TypeDesc} (hD:(kc=1∧∃ q,D=.int q)∨(kc=2∧D=.bool)∨(kc=3∧D=.string)) {x:AV} {c:Value} (hx:VR C x c):∀ (es:List (AV × AV)) (ces:List MapEntry) (i:Nat) (r:Option (Nat × AV)),es.length=ces.length →
  (∀ (i:Nat) (x:AV × AV) (e:MapEntry),es[i]? = some x→ces[i]? = some e→VR C x.1 e.key∧VR C x.2 e.val)→Zw kc x es i=some r →
  ∃ rc:Option (Nat × Value),Instr.findNow D c ces i=some rc∧(match r,rc with
   | none,none=>True
   | some (j,v),some (j',c')=>j=j'∧i≤j∧VR C v c'∧∃ e,ces[j - i]? = some e∧e.val=c'∧e.key=c∧Yr [x]=true
   | _,_=>False):=by
 intro es
 induction es with
 | nil =>
  intro ces i r hl _ h
  cases ces with
  | cons e ces=>simp at hl
  | nil=>simp [Zw] at h;subst h;exact ⟨none,rfl,trivial⟩
 | cons p es ih =>
  intro ces i r hl hr h
  cases ces with
  | nil=>simp at hl
  | cons e ces =>
   obtain ⟨y,v⟩:=p
   have h0:=hr 0 (y,v) e rfl rfl
   simp only [Zw] at h
   have key:∀ b,Zt kc x y=some b→Instr.sameNow D c e.key=some b∧(b=true→e.key=c∧Yr [x]=true):=by
    intro b hb
    have hk:=h0.1
    generalize e.key=ck at hk
    cases x<;>cases y<;>simp only [Zt,reduceCtorEq] at hb
    case int.int k1 n1 k2 n2 =>
     split at hb
     case isFalse=>cases hb
     rename_i hh
     obtain ⟨h1,rfl⟩:=hh
     cases hx;cases hk
     rcases hD with ⟨_,q,rfl⟩ | ⟨h2,_⟩ | ⟨h2,_⟩
     ·simp only [Option.some.injEq] at hb
      subst hb
      refine ⟨by simp [Instr.sameNow],fun hb=>⟨?_,rfl⟩⟩
      rw [beq_iff_eq] at hb
      rw [hb]
     ·omega
     ·omega
    case bool.bool a b' =>
     split at hb
     case isFalse=>cases hb
     rename_i h1
     cases hx;cases hk
     rcases hD with ⟨h2,_⟩ | ⟨_,rfl⟩ | ⟨h2,_⟩
     ·omega
     ·simp only [Option.some.injEq] at hb
      subst hb
      refine ⟨by simp [Instr.sameNow],fun hb=>⟨?_,rfl⟩⟩
      rw [beq_iff_eq] at hb
      rw [hb]
     ·omega
    case str.str a b' =>
     split at hb
     case isFalse=>cases hb
     rename_i h1
     cases hx;cases hk
     rcases hD with ⟨h2,_⟩ | ⟨h2,_⟩ | ⟨_,rfl⟩
     ·omega
     ·omega
     ·simp only [Option.some.injEq] at hb
      subst hb
      refine ⟨?_,fun hb=>⟨?_,rfl⟩⟩
      ·show some (_ == _)=_
       rw [beq_toListBytes,Za3]
      ·rw [beq_iff_eq] at hb
       rw [hb]
   split at h
   ·rename_i he
    obtain ⟨k1,k2⟩:=key true he
    obtain ⟨k3,k4⟩:=k2 rfl
    simp only [Option.some.injEq] at h
    subst h
    exact ⟨some (i,e.val),by simp only [Instr.findNow,k1],rfl,Nat.le_refl _,h0.2,e,by simp,rfl,k3,k4⟩
   ·rename_i he
    obtain ⟨k1,_⟩:=key false he
    obtain ⟨rc,hrc,hm⟩:=ih ces (i+1) r (by simpa using hl) (fun i x e hx he=>hr (i+1) x e (by simpa using hx) (by simpa using he)) h
    refine ⟨rc,by simp only [Instr.findNow,k1];exact hrc,?_⟩
    cases r with
    | none=>cases rc with
     | none=>trivial
     | some _=>exact hm
    | some p=>cases rc with
     | none=>exact hm
     | some q =>
      obtain ⟨m1,m2,m3,e',m4,m5⟩:=hm
      refine ⟨m1,by omega,m3,e',?_,m5⟩
      rw [show p.1 - i=(p.1 - (i+1))+1 from by omega]
      simpa using m4
   ·cases h
theorem Ze5 {t:TypeId} (h:Vd P t≠0):∃ D,P.underlying t=some D∧((Vd P t=1∧∃ q,D=.int q)∨(Vd P t=2∧D=.bool)∨(Vd P t=3∧D=.string)):=by
 unfold Vd at h ⊢
 split at h
 ·rename_i q hu;exact ⟨_,hu,.inl ⟨rfl,q,rfl⟩⟩
 ·rename_i hu;exact ⟨_,hu,.inr (.inl ⟨rfl,rfl⟩)⟩
 ·rename_i hu;exact ⟨_,hu,.inr (.inr ⟨rfl,rfl⟩)⟩
 ·exact absurd rfl h
theorem Vay {C:Ctx} {t:TypeId} (ht:Vd P t≠0) {x:AV} {c:Value} (hx:VR C x c) (w:World) {es:List (AV × AV)} {ces:Array MapEntry} {r:Option (Nat × AV)} (hl:es.length=ces.size)
  (hr:∀ (i:Nat) (x:AV × AV) (e:MapEntry),es[i]? = some x→ces[i]? = some e→VR C x.1 e.key∧VR C x.2 e.val) (h:Zw (Vd P t) x es 0=some r) :
  (∃ rc:Option (Nat × Value),(Instr.findKey t c ces.toList).run P w=.ok rc w∧(match r,rc with
   | none,none=>True
   | some (j,v),some (j',c')=>j=j'∧VR C v c'∧∃ e,ces[j]? = some e∧e.val=c'∧e.key=c∧Yr [x]=true
   | _,_=>False))∧∀ em,(Instr.checkKey em 10000 t c).run P w=.ok () w:=by
 obtain ⟨D,hu,hD⟩:=Ze5 ht
 obtain ⟨rc,hrc,hm⟩:=Xgq hD hx es ces.toList 0 r (by simpa using hl) (fun i x e hx he=>hr i x e hx (by simpa using he)) h
 refine ⟨⟨rc,?_,?_⟩,fun em=>?_⟩
 ·simp only [Instr.findKey,Sem.run_bind,run_underlying hu,Result.andThen_ok,hrc,Sem.run_pure]
 ·cases r with
  | none=>cases rc with
   | none=>trivial
   | some _=>exact hm
  | some p=>cases rc with
   | none=>exact hm
   | some q=>obtain ⟨m1,_,m3,e,m4,m5⟩:=hm;exact ⟨m1,m3,e,by simpa using m4,m5⟩
 ·show (Instr.checkKey em (9999+1) t c).run P w=_
  exact Waw (by rcases hD with ⟨_,q,rfl⟩ | ⟨_,rfl⟩ | ⟨_,rfl⟩<;>first | exact .inl ⟨q,hu⟩ | exact .inr (.inl hu) | exact .inr (.inr hu)) em c w 9999
def Xan (P:Program) (t:TypeId) (σ:Za):Option (AV × Za):=some (.mp σ.length,σ++[.map []])
theorem Wd2 {C:Ctx} {σ σ':Za} (hI:Inv C σ) {t:TypeId} {v:AV} (h:Xan P t σ=some (v,σ')) :
  ∃ (C':Ctx) (r:Value),(Instr.makeMap t none).run P C.w=.ok r C'.w∧Ext C C'∧Inv C' σ'∧VR C' v r:=by
 simp only [Xan,Option.some.injEq,Prod.mk.injEq] at h
 obtain ⟨rfl,rfl⟩:=h
 refine ⟨C.push (.map #[] 0),.map (some C.w.heap.size),rfl,Ext.push hI.plt _,hI.push (.map [] #[] 0 rfl (fun i x e hx=>by simp at hx)),.mp _ _ (by simp [Ctx.push,hI.len])⟩
def Uam (P:Program) (kt et:TypeId) (r:Nat) (x:AV) (ok:Bool) (σ:Za):Option AV :=
 match σ[r]? with
 | some (.map es)=>if Vd P kt=0 then none else (match Zw (Vd P kt) x es 0,tz P et with
  | some (some (_,v)),_=>some (if ok then .tup [v,.bool true] else v)
  | some none,some z=>some (if ok then .tup [z,.bool false] else z)
  | _,_=>none)
 | _=>none
def Yag (P:Program) (t:TypeId) (m k:AV) (ok:Bool) (σ:Za):Option AV :=
 match Zq P t,m with
 | some (kt,et),.mp r=>(match k with
  | .agg xs=>(match Xi P kt,σ[r]? with
   | some ks,some (.map es)=>if xs.length=ks.length then (match Ym ks xs es 0,tz P et with
    | some (some (_,v)),_=>some (if ok then .tup [v,.bool true] else v)
    | some none,some z=>some (if ok then .tup [z,.bool false] else z)
    | _,_=>none) else none
   | _,_=>none)
  | .int _ _=>Uam P kt et r k ok σ
  | .str _=>Uam P kt et r k ok σ
  | .bool _=>Uam P kt et r k ok σ
  | _=>none)
 | _,_=>none
theorem Uaa {t k e:TypeId} (h:Zq P t=some (k,e)):P.underlying t=some (.map k e):=by
 unfold Zq at h;split at h
 ·rename_i a b hu;simp at h;obtain ⟨rfl,rfl⟩:=h;exact hu
 ·cases h
theorem tup2 {C:Ctx} {x y:AV} {c d:Value} (hx:VR C x c) (hy:VR C y d):VR C (.tup [x,y]) (.tuple #[c,d]) :=
 .tup _ [c,d] rfl fun i a b ha hb=>by
  match i,ha,hb with
  | 0,ha,hb=>simp at ha hb;subst ha;subst hb;exact hx
  | 1,ha,hb=>simp at ha hb;subst ha;subst hb;exact hy
  | i+2,ha,hb=>simp at ha
theorem Inv.mapAt {C:Ctx} {σ:Za} (hI:Inv C σ) {r b:Nat} {es:List (AV × AV)} (hb:C.blk[r]? = some b) (hr:σ[r]? = some (.map es)) :
  ¬ C.pers b∧∃ ces clock,C.w.heap[b]? = some (.map ces clock)∧es.length=ces.size∧(∀ (i:Nat) (x:AV × AV) (e:MapEntry),es[i]? = some x→ces[i]? = some e→VR C x.1 e.key∧VR C x.2 e.val):=by
 obtain ⟨hnp,c,hc,hR⟩:=hI.live r b _ hb hr rfl
 cases hR with
 | map _ ces clock h1 h2=>exact ⟨hnp,ces,clock,hc,h1,h2⟩
theorem Wbq {C:Ctx} {σ:Za} (hI:Inv C σ) {t kt et:TypeId} (ht:Zq P t=some (kt,et)) {r:Nat} {x v:AV} {ok:Bool} {cm ck:Value} (hm:VR C (.mp r) cm) (hk:VR C x ck) (h:Uam P kt et r x ok σ=some v) :
  ∃ r,(Instr.lookup t cm ck ok).run P C.w=.ok r C.w∧VR C v r:=by
 unfold Uam at h
 split at h
 case h_2=>cases h
 rename_i es hr
 by_cases hl:Vd P kt=0
 case pos=>rw [if_pos hl] at h;cases h
 rw [if_neg hl] at h
 obtain ⟨b,hb,rfl⟩:=hm.mp_inv
 obtain ⟨_,ces,clock,hc,hlen,hrel⟩:=hI.mapAt hb hr
 have hgo:(getObj b).run P C.w=.ok (.map ces clock) C.w:=by simp [getObj,Sem.run,hc]
 split at h
 ·rename_i i v' z hf
  obtain ⟨⟨rc,hrc,hmm⟩,hck⟩:=Vay hl hk C.w hlen hrel hf
  cases rc with
  | none=>exact hmm.elim
  | some q =>
   obtain ⟨_,hv,_⟩:=hmm
   simp only [Option.some.injEq] at h
   subst h
   refine ⟨if ok then .tuple #[q.2,.bool true] else q.2,?_,?_⟩
   ·simp only [Instr.lookup,Sem.run_bind,run_underlying (Uaa ht),Result.andThen_ok,hgo,Sem.run_pure,hck,hrc]
   ·cases ok
    ·exact hv
    ·exact tup2 hv (.bool true)
 ·rename_i z hf hz
  obtain ⟨⟨rc,hrc,hmm⟩,hck⟩:=Vay hl hk C.w hlen hrel hf
  obtain ⟨zv,hzr,hzv⟩:=Xat hz
  cases rc with
  | some q=>exact hmm.elim
  | none =>
   simp only [Option.some.injEq] at h
   subst h
   refine ⟨if ok then .tuple #[zv,.bool false] else zv,?_,?_⟩
   ·simp only [Instr.lookup,Sem.run_bind,run_underlying (Uaa ht),Result.andThen_ok,hgo,Sem.run_pure,hck,hrc,hzr]
   ·cases ok
    ·exact hzv C
    ·exact tup2 (hzv C) (.bool false)
 ·cases h
theorem Ug6 {C:Ctx} {σ:Za} (hI:Inv C σ) {t:TypeId} {m k v:AV} {ok:Bool} {cm ck:Value} (hm:VR C m cm) (hk:VR C k ck) (h:Yag P t m k ok σ=some v) :
  ∃ r,(Instr.lookup t cm ck ok).run P C.w=.ok r C.w∧VR C v r:=by
 unfold Yag at h
 split at h
 case h_2=>cases h
 rename_i kt et r ht
 split at h
 case h_2=>exact Wbq hI ht hm hk h
 case h_3=>exact Wbq hI ht hm hk h
 case h_4=>exact Wbq hI ht hm hk h
 case h_5=>cases h
 rename_i xs
 split at h
 case h_2=>cases h
 rename_i ks es hks hr
 by_cases hl:xs.length=ks.length
 case neg=>rw [if_neg hl] at h;cases h
 rw [if_pos hl] at h
 obtain ⟨b,hb,rfl⟩:=hm.mp_inv
 obtain ⟨cs,rfl,hcs⟩:=hk.agg_inv
 obtain ⟨_,ces,clock,hc,hlen,hrel⟩:=hI.mapAt hb hr
 have hck:=Vbj (P:=P) hks (cs:=cs) (by rw [← hcs.len];exact hl) ces.isEmpty C.w
 have hgo:(getObj b).run P C.w=.ok (.map ces clock) C.w:=by simp [getObj,Sem.run,hc]
 split at h
 ·rename_i i v' z hf
  obtain ⟨rc,hrc,hmm⟩:=Wao hks hcs C.w hlen hrel hf
  cases rc with
  | none=>exact hmm.elim
  | some q =>
   obtain ⟨_,hv,_⟩:=hmm
   simp only [Option.some.injEq] at h
   subst h
   refine ⟨if ok then .tuple #[q.2,.bool true] else q.2,?_,?_⟩
   ·simp only [Instr.lookup,Sem.run_bind,run_underlying (Uaa ht),Result.andThen_ok,hgo,Sem.run_pure,hck,hrc]
   ·cases ok
    ·exact hv
    ·exact tup2 hv (.bool true)
 ·rename_i z hf hz
  obtain ⟨rc,hrc,hmm⟩:=Wao hks hcs C.w hlen hrel hf
  obtain ⟨zv,hzr,hzv⟩:=Xat hz
  cases rc with
  | some q=>exact hmm.elim
  | none =>
   simp only [Option.some.injEq] at h
   subst h
   refine ⟨if ok then .tuple #[zv,.bool false] else zv,?_,?_⟩
   ·simp only [Instr.lookup,Sem.run_bind,run_underlying (Uaa ht),Result.andThen_ok,hgo,Sem.run_pure,hck,hrc,hzr]
   ·cases ok
    ·exact hzv C
    ·exact tup2 (hzv C) (.bool false)
 ·cases h
theorem Xfk:∀ {ks:List Nat} {xs ys:List AV},Yr xs=true→Wh ks xs ys=some true→xs=ys:=by
 intro ks
 induction ks with
 | nil=>intro xs ys _ h;cases xs<;>cases ys<;>simp [Wh] at h ⊢
 | cons k ks ih =>
  intro xs ys hi h
  cases xs with
  | nil=>simp [Wh] at h
  | cons x xs=>cases ys with
   | nil=>simp [Wh] at h
   | cons y ys =>
    simp only [Yr,List.all_cons,Bool.and_eq_true] at hi
    simp only [Wh] at h
    split at h
    ·rename_i r1 r2 h1 h2
     simp only [Option.some.injEq,Bool.and_eq_true] at h
     obtain ⟨rfl,rfl⟩:=h
     rw [ih hi.2 h2]
     cases x<;>simp at hi<;>cases y<;>simp only [Zt,reduceCtorEq] at h1<;>split at h1
     all_goals first | (cases h1;done) | skip
     all_goals rename_i hh;simp at h1
     all_goals first | rw [hh.2,h1] | rw [h1]
    ·cases h
theorem Ye3 {C:Ctx}:∀ {xs:List AV} {cs ds:List Value},Yr xs=true→VRs C xs cs→VRs C xs ds→cs=ds:=by
 intro xs
 induction xs with
 | nil=>intro cs ds _ h1 h2;rw [h1.of_nil,h2.of_nil]
 | cons x xs ih =>
  intro cs ds hi h1 h2
  simp only [Yr,List.all_cons,Bool.and_eq_true] at hi
  obtain ⟨c,cs',rfl,hc,hcs⟩:=h1.inv
  obtain ⟨d,ds',rfl,hd,hds⟩:=h2.inv
  obtain ⟨hi0,hi1⟩:=hi
  cases x<;>simp at hi0<;>cases hc<;>cases hd<;>rw [ih hi1 hcs hds]
theorem Vf8 {C:Ctx} {xs:List AV} {cs:List Value} (hi:Yr xs=true) (h:VRs C xs cs):Instr.sameBits 10000 (.agg cs.toArray) (.agg cs.toArray)=true:=by
 have key:∀ {xs:List AV} {cs:List Value},Yr xs=true→VRs C xs cs→((cs.zip cs).all fun (x,y)=>Instr.sameBits 9999 x y)=true:=by
  intro xs
  induction xs with
  | nil=>intro cs _ h;rw [h.of_nil];rfl
  | cons x xs ih =>
   intro cs hi h
   simp only [Yr,List.all_cons,Bool.and_eq_true] at hi
   obtain ⟨c,cs',rfl,hc,hcs⟩:=h.inv
   rw [List.zip_cons_cons,List.all_cons,ih hi.2 hcs,Bool.and_true]
   cases x<;>simp at hi<;>cases hc<;>simp [Instr.sameBits,beq_toListBytes]
 show Instr.sameBits (9999+1) _ _=true
 simp only [Instr.sameBits,beq_self_eq_true,Bool.true_and]
 exact key hi h
def Uan (P:Program) (kt:TypeId) (r:Nat) (x v:AV) (σ:Za):Option Za :=
 match σ[r]? with
 | some (.map es)=>if Vd P kt=0 then none else (match Zw (Vd P kt) x es 0 with
  | some (some (i,_))=>some (σ.set r (.map (es.set i (x,v))))
  | some none=>some (σ.set r (.map (es++[(x,v)])))
  | none=>none)
 | _=>none
def Xam (P:Program) (t:TypeId) (m k v:AV) (σ:Za):Option Za :=
 match Zq P t,m with
 | some (kt,_),.mp r=>(match k with
  | .agg xs=>(match Xi P kt,σ[r]? with
   | some ks,some (.map es)=>if xs.length=ks.length∧Yr xs=true then (match Ym ks xs es 0 with
    | some (some (i,_))=>some (σ.set r (.map (es.set i (k,v))))
    | some none=>some (σ.set r (.map (es++[(k,v)])))
    | none=>none) else none
   | _,_=>none)
  | .int _ _=>Uan P kt r k v σ
  | .str _=>Uan P kt r k v σ
  | .bool _=>Uan P kt r k v σ
  | _=>none)
 | _,_=>none
theorem Yh1 {C:Ctx} {x:AV} {c:Value} (hi:Yr [x]=true) (h:VR C x c):Instr.sameBits 10000 c c=true:=by
 show Instr.sameBits (9999+1) _ _=true
 cases x<;>simp [Yr] at hi<;>cases h<;>simp [Instr.sameBits,beq_toListBytes]
theorem Vbf {C:Ctx} {σ σ':Za} (hI:Inv C σ) {t kt et:TypeId} (ht:Zq P t=some (kt,et)) {r:Nat} {k v:AV} {cm ck cv:Value} (hm:VR C (.mp r) cm) (hk:VR C k ck) (hv:VR C v cv) (h:Uan P kt r k v σ=some σ') :
  ∃ C':Ctx,(Instr.mapUpdate t cm ck cv).run P C.w=.ok () C'.w∧Ext C C'∧Inv C' σ':=by
 unfold Uan at h
 split at h
 case h_2=>cases h
 rename_i es hr
 by_cases hl:Vd P kt=0
 case pos=>rw [if_pos hl] at h;cases h
 rw [if_neg hl] at h
 obtain ⟨b,hb,rfl⟩:=hm.mp_inv
 obtain ⟨hnp,ces,clock,hc,hlen,hrel⟩:=hI.mapAt hb hr
 have hgo:(getObj b).run P C.w=.ok (.map ces clock) C.w:=by simp [getObj,Sem.run,hc]
 have hso:∀ o:Obj,(setObj b o).run P C.w=.ok () (Xh C.w b o):=fun o=>by simp [setObj,Sem.run,hc,Xh]
 split at h
 ·rename_i i v' hf
  obtain ⟨⟨rc,hrc,hmm⟩,hck⟩:=Vay hl hk C.w hlen hrel hf
  cases rc with
  | none=>exact hmm.elim
  | some q =>
   obtain ⟨rfl,_,e,he,_,hek,hi⟩:=hmm
   simp only [Option.some.injEq] at h
   subst h
   have hE:=Ext.set (C:=C) (b:=b) (o:=.map (ces.modify q.1 fun e=>{ e with key:=ck,val:=cv }) clock) hc hnp rfl
   refine ⟨C.at_ (Xh C.w b (.map (ces.modify q.1 fun e=>{ e with key:=ck,val:=cv }) clock)),?_,hE,hI.set hb hr rfl hc rfl (.map _ _ _ (by simp [hlen]) fun i x e' hx he'=>?_)⟩
   ·simp only [Instr.mapUpdate,Sem.run_bind,run_underlying (Uaa ht),Result.andThen_ok,hgo,hck,hrc,Instr.keyThatStays,he,Option.map_some,Option.getD_some,hek,Yh1 hi hk,if_true,Sem.run_pure,hso]
    rfl
   ·rw [List.getElem?_set] at hx
    rw [Array.getElem?_modify] at he'
    by_cases ei:q.1=i
    ·subst ei
     rw [if_pos rfl] at hx he'
     split at hx
     ·simp only [Option.some.injEq] at hx
      rw [he] at he'
      simp only [Option.map_some,Option.some.injEq] at he'
      subst hx;subst he'
      exact ⟨hk.ext hE,hv.ext hE⟩
     ·cases hx
    ·rw [if_neg ei] at hx he'
     have:=hrel i x e' hx he'
     exact ⟨this.1.ext hE,this.2.ext hE⟩
 ·rename_i hf
  obtain ⟨⟨rc,hrc,hmm⟩,hck⟩:=Vay hl hk C.w hlen hrel hf
  cases rc with
  | some q=>exact hmm.elim
  | none =>
   simp only [Option.some.injEq] at h
   subst h
   have hE:=Ext.set (C:=C) (b:=b) (o:=.map (ces.push { key:=ck,val:=cv,born:=clock }) (clock+1)) hc hnp rfl
   refine ⟨C.at_ (Xh C.w b (.map (ces.push { key:=ck,val:=cv,born:=clock }) (clock+1))),?_,hE,hI.set hb hr rfl hc rfl (.map _ _ _ (by simp [hlen]) fun i x e' hx he'=>?_)⟩
   ·simp only [Instr.mapUpdate,Sem.run_bind,run_underlying (Uaa ht),Result.andThen_ok,hgo,hck,hrc,Sem.run_pure,hso]
    rfl
   ·rw [Array.getElem?_push] at he'
    rw [List.getElem?_append] at hx
    by_cases ei:i=ces.size
    ·subst ei
     rw [if_pos rfl] at he'
     rw [if_neg (by omega)] at hx
     simp [hlen] at hx he'
     subst hx;subst he'
     exact ⟨hk.ext hE,hv.ext hE⟩
    ·rw [if_neg ei] at he'
     have hi:=(Array.getElem?_eq_some_iff.1 he').1
     rw [if_pos (by omega)] at hx
     have:=hrel i x e' hx he'
     exact ⟨this.1.ext hE,this.2.ext hE⟩
 ·cases h
theorem Xgd {C:Ctx} {σ σ':Za} (hI:Inv C σ) {t:TypeId} {m k v:AV} {cm ck cv:Value} (hm:VR C m cm) (hk:VR C k ck) (hv:VR C v cv) (h:Xam P t m k v σ=some σ') :
  ∃ C':Ctx,(Instr.mapUpdate t cm ck cv).run P C.w=.ok () C'.w∧Ext C C'∧Inv C' σ':=by
 unfold Xam at h
 split at h
 case h_2=>cases h
 rename_i kt et r ht
 split at h
 case h_2=>exact Vbf hI ht hm hk hv h
 case h_3=>exact Vbf hI ht hm hk hv h
 case h_4=>exact Vbf hI ht hm hk hv h
 case h_5=>cases h
 rename_i xs
 split at h
 case h_2=>cases h
 rename_i ks es hks hr
 by_cases hl:xs.length=ks.length∧Yr xs=true
 case neg=>rw [if_neg hl] at h;cases h
 rw [if_pos hl] at h
 obtain ⟨b,hb,rfl⟩:=hm.mp_inv
 obtain ⟨cs,rfl,hcs⟩:=hk.agg_inv
 obtain ⟨hnp,ces,clock,hc,hlen,hrel⟩:=hI.mapAt hb hr
 have hck:=Vbj (P:=P) hks (cs:=cs) (by rw [← hcs.len];exact hl.1) false C.w
 have hgo:(getObj b).run P C.w=.ok (.map ces clock) C.w:=by simp [getObj,Sem.run,hc]
 have hso:∀ o:Obj,(setObj b o).run P C.w=.ok () (Xh C.w b o):=fun o=>by simp [setObj,Sem.run,hc,Xh]
 split at h
 ·rename_i i v' hf
  obtain ⟨rc,hrc,hmm⟩:=Wao hks hcs C.w hlen hrel hf
  cases rc with
  | none=>exact hmm.elim
  | some q =>
   obtain ⟨rfl,_,e,he,_,ys,ds,hek,hds,hae⟩:=hmm
   simp only [Option.some.injEq] at h
   subst h
   obtain rfl:=Xfk hl.2 hae
   obtain rfl:=Ye3 hl.2 hcs hds
   have hE:=Ext.set (C:=C) (b:=b) (o:=.map (ces.modify q.1 fun e=>{ e with key:=.agg cs.toArray,val:=cv }) clock) hc hnp rfl
   refine ⟨C.at_ (Xh C.w b (.map (ces.modify q.1 fun e=>{ e with key:=.agg cs.toArray,val:=cv }) clock)),?_,hE,hI.set hb hr rfl hc rfl (.map _ _ _ (by simp [hlen]) fun i x e' hx he'=>?_)⟩
   ·simp only [Instr.mapUpdate,Sem.run_bind,run_underlying (Uaa ht),Result.andThen_ok,hgo,hck,hrc,Instr.keyThatStays,he,Option.map_some,Option.getD_some,hek,Vf8 hl.2 hcs,if_true,Sem.run_pure,hso]
    rfl
   ·rw [List.getElem?_set] at hx
    rw [Array.getElem?_modify] at he'
    by_cases ei:q.1=i
    ·subst ei
     rw [if_pos rfl] at hx he'
     split at hx
     ·simp only [Option.some.injEq] at hx
      rw [he] at he'
      simp only [Option.map_some,Option.some.injEq] at he'
      subst hx;subst he'
      exact ⟨hk.ext hE,hv.ext hE⟩
     ·cases hx
    ·rw [if_neg ei] at hx he'
     have:=hrel i x e' hx he'
     exact ⟨this.1.ext hE,this.2.ext hE⟩
 ·rename_i hf
  obtain ⟨rc,hrc,hmm⟩:=Wao hks hcs C.w hlen hrel hf
  cases rc with
  | some q=>exact hmm.elim
  | none =>
   simp only [Option.some.injEq] at h
   subst h
   have hE:=Ext.set (C:=C) (b:=b) (o:=.map (ces.push { key:=.agg cs.toArray,val:=cv,born:=clock }) (clock+1)) hc hnp rfl
   refine ⟨C.at_ (Xh C.w b (.map (ces.push { key:=.agg cs.toArray,val:=cv,born:=clock }) (clock+1))),?_,hE,hI.set hb hr rfl hc rfl (.map _ _ _ (by simp [hlen]) fun i x e' hx he'=>?_)⟩
   ·simp only [Instr.mapUpdate,Sem.run_bind,run_underlying (Uaa ht),Result.andThen_ok,hgo,hck,hrc,Sem.run_pure,hso]
    rfl
   ·rw [Array.getElem?_push] at he'
    rw [List.getElem?_append] at hx
    by_cases ei:i=ces.size
    ·subst ei
     rw [if_pos rfl] at he'
     rw [if_neg (by omega)] at hx
     simp [hlen] at hx he'
     subst hx;subst he'
     exact ⟨hk.ext hE,hv.ext hE⟩
    ·rw [if_neg ei] at he'
     have hi:=(Array.getElem?_eq_some_iff.1 he').1
     rw [if_pos (by omega)] at hx
     have:=hrel i x e' hx he'
     exact ⟨this.1.ext hE,this.2.ext hE⟩
 ·cases h
def Ya0 (P:Program) (ts:Array TypeId) (m k:AV) (σ:Za):Option (AV × Za) :=
 match ts.toList with
 | [t,_]=>match Zq P t,m,k with
  | some (kt,_),.mp r,.agg xs=>match Xi P kt,σ[r]? with
   | some ks,some (.map es)=>if xs.length=ks.length then (match Ym ks xs es 0 with
    | some (some (i,_))=>some (.tup [],σ.set r (.map (es.eraseIdx i)))
    | some none=>some (.tup [],σ)
    | none=>none) else none
   | _,_=>none
  | _,_,_=>none
 | _=>none
theorem Vhh {C:Ctx} {σ σ':Za} (hI:Inv C σ) {ts:Array TypeId} {ty:TypeId} {m k v:AV} {cm ck:Value} (hm:VR C m cm) (hk:VR C k ck) (h:Ya0 P ts m k σ=some (v,σ')) :
  ∃ (C':Ctx) (r:Value),(Builtin.delete_ ts ty #[cm,ck]).run P C.w=.ok r C'.w∧Ext C C'∧Inv C' σ'∧VR C' v r:=by
 unfold Ya0 at h
 split at h
 case h_2=>cases h
 rename_i t t2 hts
 obtain rfl:ts=#[t,t2]:=Array.ext' hts
 split at h
 case h_2=>cases h
 rename_i kt et r xs ht
 split at h
 case h_2=>cases h
 rename_i ks es hks hr
 by_cases hl:xs.length=ks.length
 case neg=>rw [if_neg hl] at h;cases h
 rw [if_pos hl] at h
 obtain ⟨b,hb,rfl⟩:=hm.mp_inv
 obtain ⟨cs,rfl,hcs⟩:=hk.agg_inv
 obtain ⟨hnp,ces,clock,hc,hlen,hrel⟩:=hI.mapAt hb hr
 have hck:=Vbj (P:=P) hks (cs:=cs) (by rw [← hcs.len];exact hl) ces.isEmpty C.w
 have hgo:(getObj b).run P C.w=.ok (.map ces clock) C.w:=by simp [getObj,Sem.run,hc]
 have hso:∀ o:Obj,(setObj b o).run P C.w=.ok () (Xh C.w b o):=fun o=>by simp [setObj,Sem.run,hc,Xh]
 have tup0:∀ C:Ctx,VR C (.tup []) (.tuple #[]):=fun C=>.tup [] [] rfl (fun i x c h=>by simp at h)
 split at h
 ·rename_i i v' hf
  obtain ⟨rc,hrc,hmm⟩:=Wao hks hcs C.w hlen hrel hf
  cases rc with
  | none=>exact hmm.elim
  | some q =>
   obtain ⟨rfl,_,e,he,_⟩:=hmm
   simp only [Option.some.injEq,Prod.mk.injEq] at h
   obtain ⟨rfl,rfl⟩:=h
   have hq:=(Array.getElem?_eq_some_iff.1 he).1
   have hE:=Ext.set (C:=C) (b:=b) (o:=.map (ces.eraseIdxIfInBounds q.1) clock) hc hnp rfl
   refine ⟨C.at_ (Xh C.w b (.map (ces.eraseIdxIfInBounds q.1) clock)),.tuple #[],?_,hE,hI.set hb hr rfl hc rfl (.map _ _ _ ?_ fun i x e' hx he'=>?_),tup0 _⟩
   ·simp only [Builtin.delete_,List.getElem?_toArray,List.getElem?_cons_zero,List.getElem?_cons_succ,Sem.run_bind,run_underlying (Uaa ht),Result.andThen_ok,hgo,hck,hrc,hso,Sem.run_pure]
    rfl
   ·simp only [Array.eraseIdxIfInBounds,hq,dite_true,Array.size_eraseIdx,List.length_eraseIdx]
    rw [if_pos (by omega),hlen]
   ·simp only [Array.eraseIdxIfInBounds,hq,dite_true] at he'
    rw [Array.getElem?_eraseIdx] at he'
    rw [List.getElem?_eraseIdx] at hx
    split at hx
    ·rename_i hlt
     rw [if_pos hlt] at he'
     have:=hrel i x e' hx he'
     exact ⟨this.1.ext hE,this.2.ext hE⟩
    ·rename_i hlt
     rw [if_neg hlt] at he'
     have:=hrel _ x e' hx he'
     exact ⟨this.1.ext hE,this.2.ext hE⟩
 ·rename_i hf
  obtain ⟨rc,hrc,hmm⟩:=Wao hks hcs C.w hlen hrel hf
  cases rc with
  | some q=>exact hmm.elim
  | none =>
   simp only [Option.some.injEq,Prod.mk.injEq] at h
   obtain ⟨rfl,rfl⟩:=h
   refine ⟨C,.tuple #[],?_,Ext.refl C,hI,tup0 C⟩
   simp only [Builtin.delete_,List.getElem?_toArray,List.getElem?_cons_zero,List.getElem?_cons_succ,Sem.run_bind,run_underlying (Uaa ht),Result.andThen_ok,hgo,hck,hrc,hso,Sem.run_pure,Vb0 hc]
 ·cases h
theorem Vd0 {w:World} {t t2 ty e:TypeId} {ik k2:IntKind} {i:TypeInfo} {z:Value} (ht:P.underlying t=some (.slice e)) (h2:P.underlying t2=some (.int ik)) (hi:P.info? e=some i) (hz:i.zero=some z)
  {base:Option Addr} {sLen sCap n:Nat} {old:List Value} (h0:0<n) (ho:(Builtin.firstCells i.size sLen (.slice base sLen sCap)).run P w.drew=.ok old.toArray w.drew)
  (hg:sCap<sLen+n) (hb:(sLen+n)*i.bytes≤140737488355328) (hp:0<i.bytes) (hs:0<i.size) :
  ∃ (nc:Nat) (rest:Array Value),sLen+n≤nc∧(Builtin.append_ #[t,t2] ty #[.slice base sLen sCap,.int k2 n]).run P w=.ok (.slice (some ⟨w.heap.size,0,none⟩) (sLen+n) nc) (w.drew.alloc (.cells (old.toArray++Builtin.zeroCells z.cells n++rest) e))∧rest.size=(nc - (sLen+n))*z.cells.size:=by
 have hle:=Wca hg
 have h1:¬ (Builtin.nextslicecap (sLen+n) sCap*i.bytes > 2^48):=by
  have:Builtin.nextslicecap (sLen+n) sCap*i.bytes≤2*(sLen+n)*i.bytes:=Nat.mul_le_mul_right _ hle
  rw [Nat.mul_assoc] at this
  omega
 have hnb2:n*i.bytes≤140737488355328:=Nat.le_trans (Nat.mul_le_mul_right _ (Nat.le_add_left _ _)) hb
 have hn:n≤140737488355328:=Nat.le_trans (Nat.le_mul_of_pos_right _ hp) hnb2
 have hsl:sLen+n≤140737488355328:=Nat.le_trans (Nat.le_mul_of_pos_right _ hp) hb
 let q:Question:=.appendCap (sLen+n) sCap e
 let nc:=q.cut (w.tape w.drawn q)
 have hnc:sLen+n≤nc:=Nat.le_add_right _ _
 refine ⟨nc,Builtin.zeroCells z.cells (nc - (sLen+n)),hnc,?_,by simp [Builtin.zeroCells]⟩
 have hroom:¬ (sLen+n≤sCap):=by omega
 have h63':¬ (9223372036854775807<((sLen:Int)+(n:Int))):=by omega
 have h48':¬ (281474976710656<Builtin.nextslicecap (sLen+n) sCap*i.bytes):=by omega
 have hnb:¬ (i.bytes=0):=by omega
 have hq:(Question.appendCap (sLen+n) sCap e).forced=false:=rfl
 have hw:({ w with drawn:=w.drawn+1 }:World)=w.drew:=rfl
 have hwr:IntKind.i64.wrap (n:Int)=n:=by rw [IntKind.wrap_i64];omega
 have hm48:¬ ((281474976710656:Int)<(n:Int)*(i.bytes:Int)):=by
  have:(n:Int)*(i.bytes:Int)=((n*i.bytes:Nat):Int):=by simp
  rw [this];omega
 have hn0:¬ ((n:Int)<0):=by omega
 have hne:¬ (n=0∨i.size=0):=by omega
 have hn1:¬ n=0:=by omega
 have hs1:¬ i.size=0:=by omega
 have h4:w.drew.alloc (Obj.cells (old.toArray++(Builtin.zeroCells z.cells n++Builtin.zeroCells z.cells (nc - (sLen+n)))) e)=w.drew.alloc (Obj.cells (old.toArray++Builtin.zeroCells z.cells n++Builtin.zeroCells z.cells (nc - (sLen+n))) e):=by
  rw [Array.append_assoc]
 rw [← h4]
 simp [Builtin.append_,run_underlying ht,run_underlying h2,Go.sizeOf,typeInfo,hi,hroom,h48',h63',hnb,hq,hw,ho,zeroValue,hz,newRow,asInt,asIntOf,hwr,hm48,hn0,hne,hn1,hs1]
 rw [if_neg (Nat.mul_ne_zero hn1 hs1)]
def Xaw (P:Program) (ts:Array TypeId) (x:AV) (m:Int) (σ:Za):Option (AV × Za) :=
 match ts.toList,x with
 | [t,t2],.arc k' r off len cap =>
  match Uc P t,Ve P t2 with
  | some e,some _=>match tsa P e,Xs P e m.toNat,σ[r]? with
   | some (k,_),some zs,some (.cells cs)=>if tzk P e k=true∧k'=k∧0<m∧cap<len+m.toNat∧(off+len)*k≤cs.length∧(len+m.toNat)*tby P e≤140737488355328 then some (.arr k σ.length 0 (len+m.toNat),σ++[.cells (sub cs (off*k) (len*k)++zs)]) else none
   | _,_,_=>none
  | _,_=>none
 | _,_=>none
theorem Yd5 {C:Ctx} {σ σ':Za} (hI:Inv C σ) {ts:Array TypeId} {ty:TypeId} {x v:AV} {k2:IntKind} {m:Int} {c:Value} (hx:VR C x c) (h:Xaw P ts x m σ=some (v,σ')) :
  ∃ (C':Ctx) (r:Value),(Builtin.append_ ts ty #[c,.int k2 m]).run P C.w=.ok r C'.w∧Ext C C'∧Inv C' σ'∧VR C' v r:=by
 unfold Xaw at h
 split at h
 case h_2=>cases h
 rename_i t t2 k' r off len cap hts
 obtain rfl:ts=#[t,t2]:=Array.ext' hts
 split at h
 case h_2=>cases h
 rename_i e ik he h2
 split at h
 case h_2=>cases h
 rename_i k ag zs cs hs hz hr
 by_cases hh:tzk P e k=true∧k'=k∧0<m∧cap<len+m.toNat∧(off+len)*k≤cs.length∧(len+m.toNat)*tby P e≤140737488355328
 case neg=>rw [if_neg hh] at h;cases h
 rw [if_pos hh] at h
 simp only [Option.some.injEq,Prod.mk.injEq] at h
 obtain ⟨rfl,rfl⟩:=h
 obtain ⟨htz,rfl,hm,hcap,hle,hb⟩:=hh
 obtain ⟨n,rfl⟩:∃ n:Nat,m=n:=⟨m.toNat,by omega⟩
 rw [Int.toNat_natCast] at *
 obtain ⟨i,z,k3,ag',hi,hiz,hisz,hs',hzs,hk0,hzv⟩:=Ybp hz
 rw [hs] at hs'
 obtain ⟨rfl,rfl⟩:k'=k3∧ag=ag':=by simpa using hs'
 subst hisz
 have hp:0<tby P e:=by
  unfold tzk at htz
  split at htz
  ·simp at htz;exact htz.2
  ·cases htz
 have htb:tby P e=i.bytes:=by simp [tby,hi]
 rw [htb] at hb hp
 obtain ⟨b,e',n',hbk,hlc,hsh,hbd,rfl⟩:=hx.arc_inv
 obtain ⟨q1,vs,q2,q3⟩:=Wa2 (P:=P) (len':=len) (cap:=cap) hI.drew (k:=i.size) (off:=off) (len:=len) (C:=C.at_ C.w.drew) hbk hr hle
 obtain ⟨nc,rest,hnc,hrun,hrs⟩:=Vd0 (ty:=ty) (k2:=k2) (Uk he) (Zak h2) hi hiz (n:=n) (by omega) q2 hcap hb hp hk0
 have hzc:Builtin.zeroCells z.cells n=madeCells z.cells (n*i.size):=by unfold Builtin.zeroCells madeCells;rw [hzs]
 obtain ⟨hE,hI2,hbk2⟩:=(hI.drew).new_room (q3.append (hzv (C.at_ C.w.drew))) e rest
 refine ⟨_,.slice (some ⟨C.w.heap.size,0,none⟩) (len+n) nc,?_,Ext.drew.trans hE,hI2,?_⟩
 ·rw [hrun,hzc]
  have:vs.toArray++madeCells z.cells (n*i.size)++rest=(vs++(madeCells z.cells (n*i.size)).toList).toArray++rest:=by apply Array.ext';simp [-Array.append_assoc]
  rw [this]
  try rfl
 ·have hlen:=q3.len
  have hlen2:=(hzv (C.at_ C.w.drew)).len
  have:=VR.arr (C:=(C.at_ C.w.drew).push (Obj.cells ((vs++(madeCells z.cells (n*i.size)).toList).toArray++rest) e)) i.size σ.length 0 (len+n) (C.at_ C.w.drew).w.heap.size nc e ((vs++(madeCells z.cells (n*i.size)).toList).toArray++rest).size hbk2 hnc (Uay _ _ e) ⟨by
   have vsl:vs.length=len*i.size:=by rw [← hlen,q1]
   have hsz:((vs++(madeCells z.cells (n*i.size)).toList).toArray++rest).size=(len+n+(nc - (len+n)))*i.size:=by
    rw [Nat.add_mul,Nat.add_mul]
    simp [size_madeCells,vsl,hrs,hzs]
    try omega
   rw [hsz]
   exact Nat.mul_le_mul_right _ (by omega),Wa4 hs⟩
  rw [Nat.zero_mul] at this
  exact this
end Ab

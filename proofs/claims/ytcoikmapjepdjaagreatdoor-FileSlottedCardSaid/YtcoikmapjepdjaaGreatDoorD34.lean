/-
  Texts packed for a claim.
-/
import Derived.Test.YtcoikmapjepdjaaGreatDoorD00
import Derived.Test.YtcoikmapjepdjaaGreatDoorD29
import Derived.Test.YtcoikmapjepdjaaGreatDoorD32
import Derived.Test.YtcoikmapjepdjaaGreatDoorD30
import Derived.Test.YtcoikmapjepdjaaGreatDoorD31
set_option linter.all false
namespace Ab
open Go Go.Proofs
theorem Zfo:tsa Tryz.prog 54=some (1,false):=by kernel_rfl
theorem Web:Yd Tryz.prog 54=none:=by kernel_rfl
theorem Zfs:Wd Tryz.prog 54=false:=by kernel_rfl
theorem Vgf:Vf Tryz.prog 54=none:=by kernel_rfl
theorem Xel:Ud Tryz.prog 54=0:=by kernel_rfl
theorem Ufk:Yh Tryz.prog 54=false:=by kernel_rfl
theorem Wgo:Xe Tryz.prog 54=4:=by kernel_rfl
theorem Vdh:tby Tryz.prog 54=8:=by kernel_rfl
theorem Xgt:tz Tryz.prog 54=some (.nilf):=by kernel_rfl
theorem Zfa:tzk Tryz.prog 54 1=true:=by kernel_rfl
theorem Uf6:tsa Tryz.prog 128=some (2,true):=by kernel_rfl
theorem Ugl:Yd Tryz.prog 128=none:=by kernel_rfl
theorem Wey:Wd Tryz.prog 128=false:=by kernel_rfl
theorem Ueu:Vf Tryz.prog 128=none:=by kernel_rfl
theorem Wfs:Ud Tryz.prog 128=0:=by kernel_rfl
theorem Xgb:Yh Tryz.prog 128=false:=by kernel_rfl
theorem Wgi:Xe Tryz.prog 128=0:=by kernel_rfl
theorem Vfx:tby Tryz.prog 128=48:=by kernel_rfl
theorem Vd5:tz Tryz.prog 128=some (.agg [.nils,.nils]):=by kernel_rfl
theorem Ufb:tzk Tryz.prog 128 2=true:=by kernel_rfl
theorem Yef:Wq Tryz.prog 128=some (2,57):=by kernel_rfl
theorem Zf2:apl Tryz.prog 128 0=some (0,1):=by kernel_rfl
theorem Xcu:apl Tryz.prog 128 1=some (1,1):=by kernel_rfl
theorem Ze0 (parts:List (Nat × AV)):Zh Tryz.prog 128 parts=(Xg (apl Tryz.prog 128) [.nils,.nils] parts).map AV.agg:=Xi (by kernel_rfl) (by decide) (by kernel_rfl) parts
theorem Ydp:tsa Tryz.prog 285=some (40,true):=by kernel_rfl
theorem Ve1:Yd Tryz.prog 285=none:=by kernel_rfl
theorem Wg8:Wd Tryz.prog 285=false:=by kernel_rfl
theorem Vhk:Vf Tryz.prog 285=none:=by kernel_rfl
theorem Udc:Ud Tryz.prog 285=0:=by kernel_rfl
theorem Zeo:Yh Tryz.prog 285=false:=by kernel_rfl
theorem Ydt:Xe Tryz.prog 285=0:=by kernel_rfl
theorem Ye5:tby Tryz.prog 285=320:=by kernel_rfl
theorem Vda:tz Tryz.prog 285=some (.agg [.int .i64 0,.int .i64 0,.int .i64 0,.int .i64 0,.int .i64 0,.int .i64 0,.int .i64 0,.int .i64 0,.int .i64 0,.int .i64 0,.int .i64 0,.int .i64 0,.int .i64 0,.int .i64 0,.int .i64 0,.int .i64 0,.int .i64 0,.int .i64 0,.int .i64 0,.int .i64 0,.int .i64 0,.int .i64 0,.int .i64 0,.int .i64 0,.int .i64 0,.int .i64 0,.int .i64 0,.int .i64 0,.int .i64 0,.int .i64 0,.int .i64 0,.int .i64 0,.int .i64 0,.int .i64 0,.int .i64 0,.int .i64 0,.int .i64 0,.int .i64 0,.int .i64 0,.int .i64 0]):=by kernel_rfl
theorem Yec:tzk Tryz.prog 285 40=true:=by kernel_rfl
theorem Xdm:Wq Tryz.prog 285=some (8,283):=by kernel_rfl
theorem Xc8:apl Tryz.prog 285 0=some (0,5):=by kernel_rfl
theorem Zg5:apl Tryz.prog 285 1=some (5,5):=by kernel_rfl
theorem Vfc:apl Tryz.prog 285 2=some (10,5):=by kernel_rfl
theorem Vgv:apl Tryz.prog 285 3=some (15,5):=by kernel_rfl
theorem Vfd:apl Tryz.prog 285 4=some (20,5):=by kernel_rfl
theorem Wd5:apl Tryz.prog 285 5=some (25,5):=by kernel_rfl
theorem Udz:apl Tryz.prog 285 6=some (30,5):=by kernel_rfl
theorem Zep:apl Tryz.prog 285 7=some (35,5):=by kernel_rfl
theorem Yel:Vm Tryz.prog 285=some [1,1,1,1,1,1,1,1,1,1,1,1,1,1,1,1,1,1,1,1,1,1,1,1,1,1,1,1,1,1,1,1,1,1,1,1,1,1,1,1]:=by kernel_rfl
theorem Xgj:Yk Tryz.prog 285=some [1,1,1,1,1,1,1,1,1,1,1,1,1,1,1,1,1,1,1,1,1,1,1,1,1,1,1,1,1,1,1,1,1,1,1,1,1,1,1,1]:=by kernel_rfl
theorem Veq (parts:List (Nat × AV)):Zh Tryz.prog 285 parts=(Xg (apl Tryz.prog 285) [.int .i64 0,.int .i64 0,.int .i64 0,.int .i64 0,.int .i64 0,.int .i64 0,.int .i64 0,.int .i64 0,.int .i64 0,.int .i64 0,.int .i64 0,.int .i64 0,.int .i64 0,.int .i64 0,.int .i64 0,.int .i64 0,.int .i64 0,.int .i64 0,.int .i64 0,.int .i64 0,.int .i64 0,.int .i64 0,.int .i64 0,.int .i64 0,.int .i64 0,.int .i64 0,.int .i64 0,.int .i64 0,.int .i64 0,.int .i64 0,.int .i64 0,.int .i64 0,.int .i64 0,.int .i64 0,.int .i64 0,.int .i64 0,.int .i64 0,.int .i64 0,.int .i64 0,.int .i64 0] parts).map AV.agg:=Xi (by kernel_rfl) (by decide) (by kernel_rfl) parts
theorem Xdk:tsa Tryz.prog 347=some (1,false):=by kernel_rfl
theorem Yfz:Yd Tryz.prog 347=none:=by kernel_rfl
theorem Yd3:Wd Tryz.prog 347=false:=by kernel_rfl
theorem Xek:Vf Tryz.prog 347=none:=by kernel_rfl
theorem Ug2:Ud Tryz.prog 347=0:=by kernel_rfl
theorem Wdz:Yh Tryz.prog 347=false:=by kernel_rfl
theorem Zgf:Xe Tryz.prog 347=1:=by kernel_rfl
theorem Wes:tby Tryz.prog 347=8:=by kernel_rfl
theorem Yea:tz Tryz.prog 347=some (.nilp):=by kernel_rfl
theorem Wc1:tzk Tryz.prog 347 1=true:=by kernel_rfl
theorem Ugw:tsa Tryz.prog 399=some (1,false):=by kernel_rfl
theorem Udn:Yd Tryz.prog 399=some 401:=by kernel_rfl
theorem Zel:Wd Tryz.prog 399=false:=by kernel_rfl
theorem Yej:Vf Tryz.prog 399=none:=by kernel_rfl
theorem Yfl:Ud Tryz.prog 399=0:=by kernel_rfl
theorem Vgx:Yh Tryz.prog 399=false:=by kernel_rfl
theorem Xgh:Xe Tryz.prog 399=2:=by kernel_rfl
theorem Wfx:tby Tryz.prog 399=24:=by kernel_rfl
theorem Yhc:tz Tryz.prog 399=some (.nils):=by kernel_rfl
theorem Zcp:tzk Tryz.prog 399 1=true:=by kernel_rfl
theorem Xgd:tsa Tryz.prog 401=some (3,true):=by kernel_rfl
theorem Wg9:Yd Tryz.prog 401=none:=by kernel_rfl
theorem Xc3:Wd Tryz.prog 401=false:=by kernel_rfl
theorem Yfr:Vf Tryz.prog 401=none:=by kernel_rfl
theorem Yey:Ud Tryz.prog 401=0:=by kernel_rfl
theorem Vet:Yh Tryz.prog 401=false:=by kernel_rfl
theorem Wdu:Xe Tryz.prog 401=0:=by kernel_rfl
theorem Vek:tby Tryz.prog 401=24:=by kernel_rfl
theorem Uer:tz Tryz.prog 401=some (.agg [.int .i64 0,.int .i64 0,.int .i64 0]):=by kernel_rfl
theorem Zhi:tzk Tryz.prog 401 3=true:=by kernel_rfl
theorem Zfy:Xk Tryz.prog 401 0=some (0,3):=by kernel_rfl
theorem Vfh:apl Tryz.prog 401 0=some (0,1):=by kernel_rfl
theorem We4:Xk Tryz.prog 401 1=some (1,3):=by kernel_rfl
theorem Ugz:apl Tryz.prog 401 1=some (1,1):=by kernel_rfl
theorem Vcz:Xk Tryz.prog 401 2=some (2,3):=by kernel_rfl
theorem Zho:apl Tryz.prog 401 2=some (2,1):=by kernel_rfl
theorem Ue9:Vm Tryz.prog 401=some [1,1,1]:=by kernel_rfl
theorem Whc:Yk Tryz.prog 401=some [1,1,1]:=by kernel_rfl
theorem Yg7 (parts:List (Nat × AV)):Zh Tryz.prog 401 parts=(Xg (apl Tryz.prog 401) [.int .i64 0,.int .i64 0,.int .i64 0] parts).map AV.agg:=Xi (by kernel_rfl) (by decide) (by kernel_rfl) parts
attribute [simp] Zfo Web Zfs Vgf Xel Ufk Wgo Vdh Xgt Zfa Uf6 Ugl Wey Ueu Wfs Xgb Wgi Vfx Vd5 Ufb Yef Zf2 Xcu Ze0 Ydp Ve1 Wg8 Vhk Udc Zeo Ydt Ye5 Vda Yec Xdm Xc8 Zg5 Vfc Vgv Vfd Wd5 Udz Zep Yel Xgj Veq Xdk Yfz Yd3 Xek Ug2 Wdz Zgf Wes Yea Wc1 Ugw Udn Zel Yej Yfl Vgx Xgh Wfx Yhc Zcp Xgd Wg9 Xc3 Yfr Yey Vet Wdu Vek Uer Zhi Zfy Vfh We4 Ugz Vcz Zho Ue9 Whc Yg7
end Ab
namespace Ab
open Go Go.RowKit Go.Proofs
structure Ntc where
 times:Int
 men:List Int
structure Rl where
 men:Int
 ntcs:List Ntc
def Xc (n:Ntc):AV:=.agg [.int .i64 n.times,.pl 1 (Ya n.men)]
def Uh (r:Rl):AV:=.agg [.int .i64 r.men,.pl 2 (r.ntcs.map Xc)]
def Yf (l:List (List Int)):AV:=.pl 1 (l.map fun x=>.pl 1 (Ya x))
structure Ntc.Ok (m:Int) (n:Ntc):Prop where
 t1:1≤n.times
 t3:n.times≤3
 le:n.times≤n.men.length
 srt:n.men.Pairwise (·<·)
 mem:∀ x∈n.men,0≤x∧x<m
structure Rl.Ok (r:Rl):Prop where
 m1:1≤r.men
 m5:r.men≤5
 few:r.ntcs.length≤6
 each:∀ n∈r.ntcs,n.Ok r.men
structure ShOk (r:Rl) (S:List (List Int)):Prop where
 len:S.length=r.ntcs.length
 each:∀ (i:Nat) (l:List Int) (n:Ntc),S[i]? = some l→r.ntcs[i]? = some n→(l.length:Int)=n.times∧l.Pairwise (·<·)∧∀ x∈l,x∈n.men
theorem Xav {l:List Int} {m:Nat} (h:l.Pairwise (·<·)) (hm:∀ x∈l,0≤x∧x<(m:Int)):l.length≤m:=by
 have hn:l.Nodup:=h.imp fun {a b} hab e=>by omega
 have:=Xat (l.map Int.toNat) (List.range m) (Wak hn fun x hx y hy e=>by have:=hm x hx;have:=hm y hy;omega) fun y hy=>by
  obtain ⟨x,hx,rfl⟩:=List.mem_map.1 hy
  have:=hm x hx
  exact List.mem_range.2 (by omega)
 simpa using this
def Wi (i:Nat) (l:List Int):List (Nat × Int):=l.map fun m=>(m.toNat,(i:Int))
def shP (S:List (List Int)):List (Nat × Int):=(S.mapIdx Wi).flatten
theorem Vcj (S:List (List Int)) (l:List Int):shP (S++[l])=shP S++Wi S.length l:=by
 unfold shP
 rw [List.mapIdx_append]
 simp
theorem Wgh (i:Nat) (l:List Int) (m:Int):Wi i (l++[m])=Wi i l++[(m.toNat,(i:Int))]:=by simp [Wi]
theorem mem_shP {S:List (List Int)} {m:Nat} {n:Int}:(m,n)∈shP S↔∃ (i:Nat) (l:List Int),S[i]? = some l∧n=i∧∃ x∈l,x.toNat=m:=by
 unfold shP
 rw [List.mem_flatten]
 constructor
 ·rintro ⟨L,hL,h⟩
  obtain ⟨i,hi⟩:=List.getElem?_of_mem hL
  rw [List.getElem?_mapIdx,Qzm] at hi
  obtain ⟨l,hl,rfl⟩:=hi
  obtain ⟨x,hx,e⟩:=List.mem_map.1 h
  simp at e
  exact ⟨i,l,hl,e.2.symm,x,hx,e.1⟩
 ·rintro ⟨i,l,hl,rfl,x,hx,rfl⟩
  refine ⟨Wi i l,?_,List.mem_map.2 ⟨x,hx,rfl⟩⟩
  refine Qzg (i:=i) ?_
  rw [List.getElem?_mapIdx,hl]
  rfl
def Uad (S:List (List Int)) (m:Nat):Int:=((shP S).filter fun p=>p.1 == m).length
def Wt (men:Nat) (S:List (List Int)):List Int:=(List.range men).map (Uad S)
def grt (l:List Int):Int:=l.foldl (fun n x=>if n<x then x else n) 0
theorem Zbm:∀ (l:List Int) (n:Int),n≤l.foldl (fun n x=>if n<x then x else n) n∧(∀ x∈l,x≤l.foldl (fun n x=>if n<x then x else n) n)∧(l.foldl (fun n x=>if n<x then x else n) n=n∨l.foldl (fun n x=>if n<x then x else n) n∈l):=by
 intro l
 induction l with
 | nil=>intro n;simp
 | cons y l ih =>
  intro n
  obtain ⟨h1,h2,h3⟩:=ih (if n<y then y else n)
  simp only [List.foldl_cons]
  obtain ⟨z,hz⟩:∃ z,(if n<y then y else n)=z:=⟨_,rfl⟩
  have hz2:n≤z∧y≤z∧(z=n∨z=y):=by rw [← hz];split<;>omega
  rw [hz] at h1 h2 h3 ⊢
  refine ⟨by omega,fun x hx=>?_,?_⟩
  ·rcases List.mem_cons.1 hx with rfl | hx
   ·omega
   ·exact h2 x hx
  ·rcases h3 with h3 | h3
   ·rcases hz2.2.2 with e | e
    ·left;rw [h3,e]
    ·right;rw [h3,e];simp
   ·right;exact List.mem_cons_of_mem _ h3
theorem Ybk {l:List Int} {b:Int} (hb:0≤b) (h:∀ x∈l,x≤b):grt l≤b:=by
 rcases (Zbm l 0).2.2 with e | e
 ·unfold grt;omega
 ·exact h _ e
theorem Zcb {l:List Int} {x:Int} (h:x∈l):x≤grt l:=(Zbm l 0).2.1 x h
theorem Uck (l:List Int):0≤grt l:=(Zbm l 0).1
def slotsOf (r:Rl) (S:List (List Int)):Int:=let a:=grt (Wt r.men.toNat S);let b:=grt (r.ntcs.map Ntc.times);if a<b then b else a
theorem Ubc (r:Rl) (S:List (List Int)):grt (Wt r.men.toNat S)≤slotsOf r S∧grt (r.ntcs.map Ntc.times)≤slotsOf r S:=by
 unfold slotsOf
 simp only
 split<;>omega
theorem ShOk.mem {r:Rl} {S:List (List Int)} (hr:r.Ok) (h:ShOk r S) {i:Nat} {l:List Int} (hl:S[i]? = some l):∃ n,r.ntcs[i]? = some n∧n.Ok r.men∧(l.length:Int)=n.times∧l.Pairwise (·<·)∧∀ x∈l,x∈n.men∧0≤x∧x<r.men:=by
 have hi:=(Qzs.1 hl).1
 rw [h.len] at hi
 have hn:r.ntcs[i]? = some r.ntcs[i]:=Qze hi
 have hok:=hr.each _ (List.getElem_mem hi)
 obtain ⟨h1,h2,h3⟩:=h.each i l _ hl hn
 exact ⟨_,hn,hok,h1,h2,fun x hx=>⟨h3 x hx,hok.mem x (h3 x hx)⟩⟩
theorem ShOk.pairs {r:Rl} {S:List (List Int)} (hr:r.Ok) (h:ShOk r S) {m:Nat} {n:Int} (hm:(m,n)∈shP S):(m:Int)<r.men∧0≤n∧n<r.ntcs.length:=by
 obtain ⟨i,l,hl,rfl,x,hx,rfl⟩:=mem_shP.1 hm
 obtain ⟨n,hn,hok,_,_,h3⟩:=h.mem hr hl
 have:=(Qzs.1 hn).1
 have:=h3 x hx
 omega
structure Pre (S:List (List Int)) (i j:Nat) (l:List Int) (m:Int) (N:List (Nat × Int)):Prop where
 row:S[i]? = some l
 at_:l[j]? = some m
 eq:N=shP (S.take i)++Wi i (l.take j)
theorem Veg {α:Type} {A B:List α} {x:α} {C:List α} (h:B=A++x::C) {q:α→Bool} (hq:q x=true):(A.filter q).length<(B.filter q).length:=by
 subst h
 rw [List.filter_append,List.filter_cons,if_pos hq]
 simp
theorem Ze8 (A B:List (List Int)) (l:List Int):∃ C,shP (A++l::B)=shP A++(Wi A.length l++C):=by
 unfold shP
 rw [List.mapIdx_append,List.mapIdx_cons,List.flatten_append,List.flatten_cons]
 refine ⟨(List.mapIdx (fun i=>Wi (i+1+A.length)) B).flatten,?_⟩
 rw [Nat.zero_add]
theorem Vbh {α:Type} {l:List α} {i:Nat} {x:α} (h:l[i]? = some x):l=l.take i++x::l.drop (i+1)∧(l.take i).length=i:=by
 obtain ⟨hi,e⟩:=Qzs.1 h
 refine ⟨?_,by rw [List.length_take];omega⟩
 rw [← e,← List.drop_eq_getElem_cons hi,List.take_append_drop]
theorem Pre.split {S:List (List Int)} {i j:Nat} {l:List Int} {m:Int} {N:List (Nat × Int)} (h:Pre S i j l m N):∃ C,shP S=N++(m.toNat,(i:Int))::C:=by
 obtain ⟨e1,k1⟩:=Vbh h.row
 obtain ⟨e2,k2⟩:=Vbh h.at_
 obtain ⟨C,hC⟩:=Ze8 (S.take i) (S.drop (i+1)) l
 rw [← e1,k1] at hC
 refine ⟨Wi i (l.drop (j+1))++C,?_⟩
 rw [hC,h.eq]
 have:Wi i l=Wi i (l.take j)++(m.toNat,(i:Int))::Wi i (l.drop (j+1)):=by
  conv=>lhs;rw [e2]
  simp [Wi]
 rw [this]
 simp
theorem Wb3 {S:List (List Int)} {i:Nat}:∀ p∈shP (S.take i),p.2<(i:Int):=fun p hp=>by
 obtain ⟨m,n⟩:=p
 obtain ⟨k,l,hk,e,_⟩:=mem_shP.1 hp
 have:=(Qzs.1 hk).1
 rw [List.length_take] at this
 show n<(i:Int)
 omega
section
variable {r:Rl} {S:List (List Int)} {i j:Nat} {l:List Int} {m:Int} {N:List (Nat × Int)}
theorem Pre.new (hr:r.Ok) (hs:ShOk r S) (h:Pre S i j l m N):(m.toNat,(i:Int))∉N:=by
 intro hm
 rw [h.eq] at hm
 obtain ⟨n,hn,hok,_,hp,h3⟩:=hs.mem hr h.row
 rcases List.mem_append.1 hm with hm | hm
 ·have:=Wb3 _ hm
  simp at this
 ·obtain ⟨x,hx,e⟩:=List.mem_map.1 hm
  simp at e
  obtain ⟨e2,k2⟩:=Vbh h.at_
  rw [e2,List.pairwise_append] at hp
  have:=hp.2.2 x hx m (by simp)
  have:=h3 x (List.mem_of_mem_take hx)
  have:=h3 m (Qzg h.at_)
  omega
theorem Pre.rowFew (hr:r.Ok) (hs:ShOk r S) (h:Pre S i j l m N):((N.filter fun p=>p.2 == (i:Int)).length:Int)<slotsOf r S:=by
 obtain ⟨n,hn,hok,h1,hp,h3⟩:=hs.mem hr h.row
 have hj:=(Qzs.1 h.at_).1
 have e:(shP (S.take i)).filter (fun p=>p.2 == (i:Int))=[]:=by
  rw [List.filter_eq_nil_iff]
  intro p hp
  have:=Wb3 p hp
  simp
  omega
 rw [h.eq,List.filter_append,e,List.nil_append]
 have h4:=List.length_filter_le (fun p=>p.2 == (i:Int)) (Wi i (l.take j))
 have h5:(Wi i (l.take j)).length=j:=by simp [Wi];omega
 have h6:=Zcb (List.mem_map_of_mem (f:=Ntc.times) (Qzg hn))
 have h7:=(Ubc r S).2
 omega
theorem Pre.manFew (hr:r.Ok) (hs:ShOk r S) (h:Pre S i j l m N):((N.filter fun p=>p.1 == m.toNat).length:Int)<slotsOf r S:=by
 obtain ⟨C,hC⟩:=h.split
 have h1:=Veg hC (q:=fun p=>p.1 == m.toNat) (by simp)
 obtain ⟨n,hn,hok,_,hp,h3⟩:=hs.mem hr h.row
 have hm:=h3 m (Qzg h.at_)
 have h6:Uad S m.toNat∈Wt r.men.toNat S:=List.mem_map_of_mem (List.mem_range.2 (by omega))
 have h7:=Zcb h6
 have h8:=(Ubc r S).1
 unfold Uad at h7
 omega
theorem Pre.ok (hr:r.Ok) (hs:ShOk r S) (h:Pre S i j l m N):0≤m∧m<r.men:=by
 obtain ⟨n,hn,hok,_,hp,h3⟩:=hs.mem hr h.row
 exact (h3 m (Qzg h.at_)).2
end
theorem Xcm (m:Nat):∀ (n:Nat) (S:List (List Int)),S.length=n→(∀ l∈S,l.Pairwise (·<·)∧∀ x∈l,0≤x)→Uad S m≤n:=by
 intro n
 induction n with
 | zero=>intro S h _;obtain rfl:=List.eq_nil_of_length_eq_zero h;simp [Uad,shP]
 | succ n ih =>
  intro S h hs
  obtain ⟨A,l,rfl⟩:∃ A l,S=A++[l]:=⟨S.dropLast,S.getLast (by intro e;simp [e] at h),(List.dropLast_concat_getLast _).symm⟩
  have h1:=ih A (by simpa using h) fun l hl=>hs l (by simp [hl])
  have h2:=hs l (by simp)
  unfold Uad at h1 ⊢
  rw [Vcj,List.filter_append,List.length_append]
  have h3:((Wi A.length l).filter fun p=>p.1 == m).length≤1:=by
   have hn:l.Nodup:=h2.1.imp fun {a b} hab e=>by omega
   have:=Xat ((Wi A.length l).filter fun p=>p.1 == m) [(m,(A.length:Int))] (List.Pairwise.filter _ (Wak hn fun x hx y hy e=>by
    simp at e
    have:=h2.2 x hx
    have:=h2.2 y hy
    omega)) fun p hp=>by
    rw [List.mem_filter] at hp
    obtain ⟨x,hx,rfl⟩:=List.mem_map.1 hp.1
    have:=hp.2
    simp at this
    simp [this]
   simpa using this
  omega
theorem Xbl {r:Rl} {S:List (List Int)} (hr:r.Ok) (hs:ShOk r S):0≤slotsOf r S∧slotsOf r S≤6:=by
 have h1:=Ubc r S
 have h2:=Uck (Wt r.men.toNat S)
 refine ⟨by omega,?_⟩
 have h3:grt (Wt r.men.toNat S)≤6:=Ybk (by omega) fun x hx=>by
  obtain ⟨m,_,rfl⟩:=List.mem_map.1 hx
  have:=Xcm m S.length S rfl fun l hl=>by
   obtain ⟨i,hi⟩:=List.getElem?_of_mem hl
   obtain ⟨n,_,_,_,h4,h5⟩:=hs.mem hr hi
   exact ⟨h4,fun x hx=>(h5 x hx).2.1⟩
  have:=hs.len
  have:=hr.few
  omega
 have h4:grt (r.ntcs.map Ntc.times)≤6:=Ybk (by omega) fun x hx=>by
  obtain ⟨n,hn,rfl⟩:=List.mem_map.1 hx
  have:=(hr.each n hn).t3
  omega
 unfold slotsOf
 simp only
 split<;>omega
def Ue (t:Tab) (men slots:Nat):List (List Int):=(List.range slots).map fun s=>(List.range men).map fun m=>t s m
theorem Weq {r:Rl} {S:List (List Int)} {t:Tab} {slots:Nat} (hr:r.Ok) (hs:ShOk r S) (ht:SlInv slots (shP S) t) {i:Nat} {l L:List Int} (hl:S[i]? = some l) (hL:L.Pairwise (·<·)) (hp:∀ x,x∈L↔x∈Wm (Wg t r.men.toNat slots) i):L=l:=by
 obtain ⟨n,hn,hok,h1,h2,h3⟩:=hs.mem hr hl
 refine Ugj hL h2 fun x=>?_
 rw [hp,Ub1 ht (fun m n hm=>by have:=(hs.pairs hr hm).1;omega) i (by omega)]
 constructor
 ·rintro ⟨m,rfl,hm⟩
  obtain ⟨k,l',hk,e,x,hx,rfl⟩:=mem_shP.1 hm
  obtain rfl:i=k:=by omega
  rw [hl] at hk
  obtain rfl:=Option.some.inj hk
  have:=h3 x hx
  rw [show ((x.toNat:Nat):Int)=x by omega]
  exact hx
 ·intro hx
  have:=h3 x hx
  exact ⟨x.toNat,by omega,mem_shP.2 ⟨i,l,hl,rfl,x,hx,rfl⟩⟩
end Ab
namespace Ab
open Go Go.RowKit Go.Proofs
def Vv (n lo hi:Int):Bool:=decide (lo≤n)&&decide (n≤hi)
attribute [local irreducible] aws awp aw1 Og Om Oc Oa Ogd Ov Ot awd Zb awh Xb Ogh Ohd awl Ogl Ohl awv Ogv Ohv Wb Vb QFn Ub QRo QBe Ul Vn ACode AYield
theorem Xa1 (n lo hi:Int):APure Tryz.prog 146 [.int .i64 n,.int .i64 lo,.int .i64 hi] (.bool (Vv n lo hi)):=by
 intro σ
 refine Yb Tryz.func146 rfl (Va Tryz.func146 (by decide) rfl) ?_
 simp [Tryz.ntmps146,Vv]
 by_cases h:lo≤n<;>by_cases h2:n≤hi<;>simp [h,h2]
theorem Xcq (r:Rl) (n:Int) (h:r.Ok):APure Tryz.prog 76 [Uh r,.int .i64 n] (.bool (Vv n 0 (r.men - 1))):=by
 refine APure.of fun σ=>?_
 refine Yb Tryz.func76 rfl (Va Tryz.func76 (by decide) rfl) ?_
 have:=h.m1
 have:=h.m5
 have hw:=w64 (n:=r.men - 1) (by omega) (by omega)
 simp [Tryz.ntmps76,Uh,hw]
 refine (Xa1 _ _ _).use ?_
 simp
theorem Zd8 (r:Rl) (n:Int) (h:r.Ok):APure Tryz.prog 110 [Uh r,.int .i64 n] (.bool (Vv n 0 (r.ntcs.length - 1))):=by
 refine APure.of fun σ=>?_
 refine Yb Tryz.func110 rfl (Va Tryz.func110 (by decide) rfl) ?_
 have:=h.few
 have hw:=w64 (n:=(r.ntcs.length:Int) - 1) (by omega) (by omega)
 simp [Tryz.ntmps110,Uh,hw]
 refine (Xa1 _ _ _).use ?_
 simp
theorem Xf9 (n:Ntc) (m:Int) (hl:n.men.length≤2^40):APure Tryz.prog 160 [Xc n,.int .i64 m] (.bool (decide (m∈n.men))):=by
 refine APure.of fun σ=>?_
 refine Yb Tryz.func160 rfl (Va Tryz.func160 (by decide) rfl) ?_
 simp [Tryz.ntmps160,Xc]
 refine (Zbr n.men m hl).use ?_
 simp
theorem Zhf (l:List Int) (q f:Nat) (fs cs:List AV) (σ:Za) (hq:σ[q]? = some (.cells [.fn (.func f) fs cs])) (hl:l.length≤2^40) (h:∀ x∈l,∀ g,ACalls Tryz.prog f (fs++[.int .i64 x]++cs) (σ++g) fun v s=>v=.bool true∧∃ g',s=σ++g++g') :
  ACalls Tryz.prog 152 [.pl 1 (Ya l),.fn (.func 185) [] [.ptr q 0]] σ fun v s=>v=.int .i64 (-1)∧∃ g,s=σ++g:=by
 refine Yb Tryz.func152 rfl (Va Tryz.func152 (by decide) rfl) ?_
 have hql:=(Qzs.1 hq).1
 simp [Tryz.ntmps152]
 refine Vd (fun env σ'=>∃ (u:List AV) (i:Nat) (g:Za),env={ t:=u }∧u.length=19∧tg u 0=.pl 1 (Ya l)∧tg u 1=.fn (.func 185) [] [.ptr q 0]∧tg u 7=.int .i64 l.length∧tg u 8=.int .i64 i∧σ'=σ++g∧i≤l.length)
  (fun env _=>match tg env.t 8 with | .int _ i=>l.length - i.toNat | _=>0) ⟨_,0,[],rfl,by simp,by simp,by simp,by simp [Ya],by simp,by simp,by omega⟩ ?_
 rintro env σ' ⟨u,i,g,rfl,hl0,g0,g1,g7,g8,rfl,hi⟩
 rcases Qzn i l.length with hlt | hge
 ·have hlt':(i:Int)<(l.length:Int):=by omega
  have hw1:=w64 (n:=(i:Int)+1) (by omega) (by omega)
  have hx:(Ya l)[i]? = some (.int .i64 l[i]):=by simp [Ya,hlt]
  have hil:i<(Ya l).length:=by simpa [Ya] using hlt
  have hx':(Ya l)[i]=.int .i64 l[i]:=by simp [Ya]
  have h1:ACalls Tryz.prog 185 [.int .i64 l[i],.ptr q 0] (σ++g) fun v s=>v=.bool false∧∃ g',s=σ++g++g':=by
   refine Yb Tryz.func185 rfl (Va Tryz.func185 (by decide) rfl) ?_
   have hq2:(σ++g)[q]? = some (.cells [.fn (.func f) fs cs]):=by rw [Qzl hql];exact hq
   generalize hT:σ++g=T at hq2
   have h2:=h l[i] (List.getElem_mem hlt) g
   rw [hT] at h2
   simp [Tryz.ntmps185,hq2]
   refine StA.of ((by simpa using h2:ACalls Tryz.prog f (fs++.int .i64 l[i]::cs) T fun v s=>v=.bool true∧∃ g',s=T++g').mono ?_)
   rintro v s ⟨rfl,g',rfl⟩
   simp
  simp [hl0,g0,g1,g7,g8,hlt',hlt,hil,hx']
  refine StA.of (h1.mono ?_)
  rintro v s ⟨rfl,g',rfl⟩
  simp [hl0,g0,g1,g7,g8,hlt',hlt,hw1]
  exact ⟨⟨i+1,by simp,hlt⟩,by omega⟩
 ·have hge':¬ (i:Int)<(l.length:Int):=by omega
  simp [hl0,g0,g1,g7,g8,hge']
theorem Xbc (l:List Int) (f:Nat) (fs cs:List AV) (σ:Za) (hl:l.length≤2^40) (h:∀ x∈l,∀ g,ACalls Tryz.prog f (fs++[.int .i64 x]++cs) (σ++g) fun v s=>v=.bool true∧∃ g',s=σ++g++g') :
  ACalls Tryz.prog 108 [.pl 1 (Ya l),.fn (.func f) fs cs] σ fun v s=>v=.bool true∧s=σ:=by
 refine ACalls.forgetT ?_
 refine Yb Tryz.func108 rfl (Va Tryz.func108 (by decide) rfl) ?_
 simp [Tryz.ntmps108]
 have h2:ACalls Tryz.prog 184 [.pl 1 (Ya l),.fn (.func 185) [] [.ptr σ.length 0]] (σ++[.cells [.fn (.func f) fs cs]]) fun v s=>v=.bool false∧∃ g,s=σ++g:=by
  refine Yb Tryz.func184 rfl (Va Tryz.func184 (by decide) rfl) ?_
  simp [Tryz.ntmps184]
  refine StA.of ((Zhf l σ.length f fs cs _ (by simp) hl fun x hx g=>?_).mono ?_)
  ·have:=h x hx (.cells [.fn (.func f) fs cs]::g)
   simpa using this
  ·rintro v s ⟨rfl,g,rfl⟩
   simp
 refine StA.of (h2.mono ?_)
 rintro v s ⟨rfl,g,rfl⟩
 simp
 exact ⟨σ,g,rfl,rfl,fun r o h=>.inl h,.bool true,.bool _,rfl,rfl⟩
theorem Xb7 (l:List Int) (hl:l.length≤2^40) (hs:l.Pairwise (·<·)):APure Tryz.prog 147 [.pl 1 (Ya l)] (.bool true):=by
 intro σ
 refine Yb Tryz.func147 rfl (Va Tryz.func147 (by decide) rfl) ?_
 simp [Tryz.ntmps147]
 refine Vd (fun env σ'=>∃ (u:List AV) (i:Nat),env={ t:=u }∧u.length=24∧tg u 0=.pl 1 (Ya l)∧tg u 5=.int .i64 l.length∧tg u 6=.int .i64 i∧σ'=σ∧i≤l.length)
  (fun env _=>match tg env.t 6 with | .int _ i=>l.length - i.toNat | _=>0) ⟨_,0,rfl,by simp,by simp,by simp [Ya],by simp,rfl,by omega⟩ ?_
 rintro env σ' ⟨u,i,rfl,hl0,g0,g5,g6,rfl,hi⟩
 rcases Qzn i l.length with hlt | hge
 ·have hlt':(i:Int)<(l.length:Int):=by omega
  have hw1:=w64 (n:=(i:Int)+1) (by omega) (by omega)
  have hil:i<(Ya l).length:=by simpa [Ya] using hlt
  have hx':(Ya l)[i]=.int .i64 l[i]:=by simp [Ya]
  simp [hl0,g0,g5,g6,hlt',hlt]
  refine Zj mixed (by kernel_rfl) ?_
  rcases Nat.eq_zero_or_pos i with rfl | hpos
  ·have hw0:IntKind.i64.wrap 1=1:=by decide
   simp [hl0,g0,g5,g6,hlt',hlt,hw0]
   exact ⟨⟨1,by simp,by omega⟩,by omega⟩
  ·have hp':(0:Int)<(i:Int):=by omega
   have hw2:=w64 (n:=(i:Int) - 1) (by omega) (by omega)
   obtain ⟨k,rfl⟩:∃ k,i=k+1:=⟨i - 1,by omega⟩
   have e:((k+1:Nat):Int) - 1=(k:Int):=by omega
   have hkl:k<(Ya l).length:=by omega
   have hk':(Ya l)[k]=.int .i64 (l[k]'(by omega)):=by simp [Ya]
   have hlt2:=(List.pairwise_iff_getElem.1 hs) k (k+1) (by omega) hlt (by omega)
   rw [e] at hw2
   have e2:(k:Int)+1 - 1=(k:Int):=by omega
   have hn:¬ l[k+1]≤l[k]:=by omega
   have c1:(0:Int)≤(k:Int)+1:=by omega
   have c2:(k:Int)+1<((Ya l).length:Int):=by omega
   simp [hl0,g0,g5,g6,hil,hx',hw2,e2,hkl,hk',hn,c1,c2]
   simp at hw1
   simp [hl0,g0,g5,g6,hw1]
   exact ⟨⟨k+2,by simp;omega,by omega⟩,by omega⟩
 ·have hge':¬ (i:Int)<(l.length:Int):=by omega
  simp [hl0,g0,g5,g6,hge']
theorem Ntc.Ok.short {m:Int} {n:Ntc} (h:n.Ok m) (hm:m≤5):n.men.length≤5:=Xav h.srt fun x hx=>by have:=h.mem x hx;omega
theorem Ubx (r:Rl) (h:r.Ok):APure Tryz.prog 64 [Uh r] (.int .i64 0):=by
 refine APure.of fun σ=>?_
 refine Yb Tryz.func64 rfl (Va Tryz.func64 (by decide) rfl) ?_
 have:=h.m1
 have:=h.m5
 have:=h.few
 have hnf:¬ (6:Int)<(r.ntcs.length:Int):=by omega
 have hin:Vv r.men 1 5=true:=by simp [Vv];omega
 simp [Tryz.ntmps64,Uh]
 refine (Xa1 _ _ _).use ?_
 simp [hin,hnf]
 refine Vd (fun env σ'=>∃ (u:List AV) (i:Nat) (g:Za),env={ t:=u }∧u.length=47∧tg u 1=.ptr σ.length 0∧tg u 16=.pl 2 (r.ntcs.map Xc)∧tg u 17=.int .i64 r.ntcs.length∧tg u 18=.int .i64 i∧σ'=σ++(.cells (Uh r).cells::g)∧i≤r.ntcs.length)
  (fun env _=>match tg env.t 18 with | .int _ i=>r.ntcs.length - i.toNat | _=>0) ⟨_,0,[],rfl,by simp,by simp,by simp,by simp,by simp,by simp [Uh],by omega⟩ ?_
 rintro env σ' ⟨u,i,g,rfl,hl0,g1,g16,g17,g18,rfl,hi⟩
 rcases Qzn i r.ntcs.length with hlt | hge
 ·have hlt':(i:Int)<(r.ntcs.length:Int):=by omega
  have hw1:=w64 (n:=(i:Int)+1) (by omega) (by omega)
  obtain ⟨n,hn⟩:∃ n,r.ntcs[i]=n:=⟨_,rfl⟩
  have ok:n.Ok r.men:=hn▸h.each _ (List.getElem_mem hlt)
  have hs:=ok.short h.m5
  have i1:Vv n.times 1 3=true:=by have:=ok.t1;have:=ok.t3;simp [Vv];omega
  have i4:¬ (n.men.length:Int)<n.times:=by have:=ok.le;omega
  have hev:∀ σ,ACalls Tryz.prog 108 [.pl 1 (Ya n.men),.fn (.func 76) [Uh r] []] σ fun v s=>v=.bool true∧s=σ:=fun σ=>Xbc n.men 76 [Uh r] [] σ (by omega) fun x hx g=>by
   have hxm:=ok.mem x hx
   have e:Vv x 0 (r.men - 1)=true:=by simp [Vv];omega
   have:=Xcq r x h (σ++g)
   rw [e] at this
   exact this.mono fun v s hh=>⟨hh.1,[],by rw [hh.2];simp⟩
  obtain ⟨T,hT⟩:∃ T,σ++.cells (Uh r).cells::g=T:=⟨_,rfl⟩
  have hnext:∀ X:Za,(T++X)[σ.length]? = some (.cells [.int .i64 r.men,.pl 2 (r.ntcs.map Xc)]):=fun X=>by rw [← hT];simp [Uh]
  have hx1:∀ (x:AObj) (Y:Za),(T++x::Y)[T.length]? = some x:=fun x Y=>by simp
  rw [hT]
  simp [hl0,g1,g16,g17,g18,hlt',hlt,hn,Xc]
  refine (Xa1 _ _ _).use ?_
  simp [hl0,g1,g16,g17,g18,i1,hnext,hx1]
  refine StA.of ((hev _).mono ?_)
  rintro v s ⟨rfl,rfl⟩
  simp [hl0,g1,g16,g17,g18,i1,hnext,hx1]
  refine (Xb7 n.men (by omega) ok.srt).use ?_
  have hil:(Ya n.men).length=n.men.length:=by simp [Ya]
  simp [hl0,g1,g16,g17,g18,i1,hnext,hx1,hil,i4,hw1]
  exact ⟨⟨i+1,by simp,⟨_,by rw [← hT];simp [Uh];rfl⟩,hlt⟩,by omega⟩
 ·have hge':¬ (i:Int)<(r.ntcs.length:Int):=by omega
  simp [hl0,g1,g16,g17,g18,hge']
theorem Xb2 (r:Rl) (S:List (List Int)) (h:r.Ok) (hs:ShOk r S):APure Tryz.prog 79 [Uh r,Yf S] (.int .i64 0):=by
 refine APure.of fun σ=>?_
 refine Yb Tryz.func79 rfl (Va Tryz.func79 (by decide) rfl) ?_
 have:=h.few
 have hlen:=hs.len
 simp [Tryz.ntmps79,Uh,Yf]
 refine (Ubx r h).use ?_
 simp [hlen]
 refine Vd (fun env σ'=>∃ (u:List AV) (i:Nat),env={ t:=u }∧u.length=53∧tg u 2=.ptr σ.length 0∧tg u 20=.pl 1 (S.map fun x=>.pl 1 (Ya x))∧tg u 21=.int .i64 r.ntcs.length∧tg u 22=.int .i64 i∧σ'=σ++[.cells [.int .i64 r.men,.pl 2 (r.ntcs.map Xc)]]∧i≤r.ntcs.length)
  (fun env _=>match tg env.t 22 with | .int _ i=>r.ntcs.length - i.toNat | _=>0) ⟨_,0,rfl,by simp,by simp,by simp,by simp,by simp,by simp,by omega⟩ ?_
 rintro env σ' ⟨u,i,rfl,hl0,g2,g20,g21,g22,rfl,hi⟩
 rcases Qzn i r.ntcs.length with hlt | hge
 ·have hlt':(i:Int)<(r.ntcs.length:Int):=by omega
  have hw1:=w64 (n:=(i:Int)+1) (by omega) (by omega)
  have hlS:i<S.length:=by omega
  obtain ⟨l,hl⟩:∃ l,S[i]=l:=⟨_,rfl⟩
  obtain ⟨n,hn,ok,h1,h2,h3⟩:=hs.mem h (show S[i]? = some l by rw [Qze hlS,hl])
  have hn':r.ntcs[i]=n:=Option.some.inj ((Qze hlt).symm.trans hn)
  have hsh:=ok.short h.m5
  have hls:l.length≤5:=Xav h2 fun x hx=>by have:=h3 x hx;have:=h.m5;omega
  have hev:∀ σ,ACalls Tryz.prog 108 [.pl 1 (Ya l),.fn (.func 160) [Xc n] []] σ fun v s=>v=.bool true∧s=σ:=fun σ=>Xbc l 160 [Xc n] [] σ (by omega) fun x hx g=>by
   have e:decide (x∈n.men)=true:=by simpa using (h3 x hx).1
   have:=Xf9 n x (by omega) (σ++g)
   rw [e] at this
   exact this.mono fun v s hh=>⟨hh.1,[],by rw [hh.2];simp⟩
  have hil:(Ya l).length=l.length:=by simp [Ya]
  obtain ⟨T,hT⟩:∃ T,σ++[AObj.cells [.int .i64 r.men,.pl 2 (r.ntcs.map Xc)]]=T:=⟨_,rfl⟩
  have hTc:T[σ.length]? = some (.cells [.int .i64 r.men,.pl 2 (r.ntcs.map Xc)]):=by rw [← hT];simp
  rw [hT]
  simp [hl0,g2,g20,g21,g22,hlt',hlt,hl,hn',hlS,hTc,hil,h1,Xc]
  refine StA.of ((hev _).mono ?_)
  rintro v s ⟨rfl,rfl⟩
  simp [hl0,g2,g20,g21,g22,hlt',hlt,hl,hn',hlS,hTc]
  refine (Xb7 l (by omega) h2).use ?_
  simp [hl0,g2,g20,g21,g22,hlt',hlt,hl,hn',hlS,hTc,hw1]
  exact ⟨⟨i+1,by simp,hlt⟩,by omega⟩
 ·have hge':¬ (i:Int)<(r.ntcs.length:Int):=by omega
  simp [hl0,g2,g20,g21,g22,hge']
end Ab

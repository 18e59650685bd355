/-
  Texts packed for a claim.
-/
import Derived.Test.YtcoikmapjepdjaaGreatDoorE00
import Derived.Test.YtcoikmapjepdjaaGreatDoorE16
import Derived.Test.YtcoikmapjepdjaaGreatDoorE21
import Derived.Test.YtcoikmapjepdjaaGreatDoorE22
set_option linter.all false
namespace Ab
open Go Go.Proofs
theorem Vei:tsa Tryz.prog 54=some (1,false):=by kernel_rfl
theorem Ufj:Uc Tryz.prog 54=none:=by kernel_rfl
theorem Xf0:Yd Tryz.prog 54=false:=by kernel_rfl
theorem Zhc:Ve Tryz.prog 54=none:=by kernel_rfl
theorem Vgm:Vd Tryz.prog 54=0:=by kernel_rfl
theorem Yha:Xg Tryz.prog 54=false:=by kernel_rfl
theorem Wdo:Ye Tryz.prog 54=4:=by kernel_rfl
theorem Yer:tby Tryz.prog 54=8:=by kernel_rfl
theorem Xfo:tz Tryz.prog 54=some (.nilf):=by kernel_rfl
theorem Xhp:tzk Tryz.prog 54 1=true:=by kernel_rfl
theorem Wes:tsa Tryz.prog 128=some (2,true):=by kernel_rfl
theorem Zdq:Uc Tryz.prog 128=none:=by kernel_rfl
theorem Vev:Yd Tryz.prog 128=false:=by kernel_rfl
theorem Yct:Ve Tryz.prog 128=none:=by kernel_rfl
theorem Wey:Vd Tryz.prog 128=0:=by kernel_rfl
theorem Wed:Xg Tryz.prog 128=false:=by kernel_rfl
theorem Ucz:Ye Tryz.prog 128=0:=by kernel_rfl
theorem Uef:tby Tryz.prog 128=48:=by kernel_rfl
theorem Ye7:tz Tryz.prog 128=some (.agg [.nils,.nils]):=by kernel_rfl
theorem Yf5:tzk Tryz.prog 128 2=true:=by kernel_rfl
theorem Wfn:Um Tryz.prog 128=some (2,57):=by kernel_rfl
theorem Vho:apl Tryz.prog 128 0=some (0,1):=by kernel_rfl
theorem Zf0:apl Tryz.prog 128 1=some (1,1):=by kernel_rfl
theorem Whk (parts:List (Nat × AV)):Xe Tryz.prog 128 parts=(Ud (apl Tryz.prog 128) [.nils,.nils] parts).map AV.agg:=Uf (by kernel_rfl) (by decide) (by kernel_rfl) parts
theorem Vfx:tsa Tryz.prog 285=some (40,true):=by kernel_rfl
theorem Wcq:Uc Tryz.prog 285=none:=by kernel_rfl
theorem Ufi:Yd Tryz.prog 285=false:=by kernel_rfl
theorem Wf6:Ve Tryz.prog 285=none:=by kernel_rfl
theorem Wgu:Vd Tryz.prog 285=0:=by kernel_rfl
theorem Ue6:Xg Tryz.prog 285=false:=by kernel_rfl
theorem Uel:Ye Tryz.prog 285=0:=by kernel_rfl
theorem Vgw:tby Tryz.prog 285=320:=by kernel_rfl
theorem Wdn:tz Tryz.prog 285=some (.agg [.int .i64 0,.int .i64 0,.int .i64 0,.int .i64 0,.int .i64 0,.int .i64 0,.int .i64 0,.int .i64 0,.int .i64 0,.int .i64 0,.int .i64 0,.int .i64 0,.int .i64 0,.int .i64 0,.int .i64 0,.int .i64 0,.int .i64 0,.int .i64 0,.int .i64 0,.int .i64 0,.int .i64 0,.int .i64 0,.int .i64 0,.int .i64 0,.int .i64 0,.int .i64 0,.int .i64 0,.int .i64 0,.int .i64 0,.int .i64 0,.int .i64 0,.int .i64 0,.int .i64 0,.int .i64 0,.int .i64 0,.int .i64 0,.int .i64 0,.int .i64 0,.int .i64 0,.int .i64 0]):=by kernel_rfl
theorem Wgc:tzk Tryz.prog 285 40=true:=by kernel_rfl
theorem Udj:Um Tryz.prog 285=some (8,283):=by kernel_rfl
theorem Zgz:apl Tryz.prog 285 0=some (0,5):=by kernel_rfl
theorem Vg0:apl Tryz.prog 285 1=some (5,5):=by kernel_rfl
theorem Vdk:apl Tryz.prog 285 2=some (10,5):=by kernel_rfl
theorem Wda:apl Tryz.prog 285 3=some (15,5):=by kernel_rfl
theorem Zdr:apl Tryz.prog 285 4=some (20,5):=by kernel_rfl
theorem Wek:apl Tryz.prog 285 5=some (25,5):=by kernel_rfl
theorem Xdy:apl Tryz.prog 285 6=some (30,5):=by kernel_rfl
theorem Xhz:apl Tryz.prog 285 7=some (35,5):=by kernel_rfl
theorem Wdz:Yk Tryz.prog 285=some [1,1,1,1,1,1,1,1,1,1,1,1,1,1,1,1,1,1,1,1,1,1,1,1,1,1,1,1,1,1,1,1,1,1,1,1,1,1,1,1]:=by kernel_rfl
theorem Yhz:Xi Tryz.prog 285=some [1,1,1,1,1,1,1,1,1,1,1,1,1,1,1,1,1,1,1,1,1,1,1,1,1,1,1,1,1,1,1,1,1,1,1,1,1,1,1,1]:=by kernel_rfl
theorem Yc0 (parts:List (Nat × AV)):Xe Tryz.prog 285 parts=(Ud (apl Tryz.prog 285) [.int .i64 0,.int .i64 0,.int .i64 0,.int .i64 0,.int .i64 0,.int .i64 0,.int .i64 0,.int .i64 0,.int .i64 0,.int .i64 0,.int .i64 0,.int .i64 0,.int .i64 0,.int .i64 0,.int .i64 0,.int .i64 0,.int .i64 0,.int .i64 0,.int .i64 0,.int .i64 0,.int .i64 0,.int .i64 0,.int .i64 0,.int .i64 0,.int .i64 0,.int .i64 0,.int .i64 0,.int .i64 0,.int .i64 0,.int .i64 0,.int .i64 0,.int .i64 0,.int .i64 0,.int .i64 0,.int .i64 0,.int .i64 0,.int .i64 0,.int .i64 0,.int .i64 0,.int .i64 0] parts).map AV.agg:=Uf (by kernel_rfl) (by decide) (by kernel_rfl) parts
theorem Zg1:tsa Tryz.prog 347=some (1,false):=by kernel_rfl
theorem Xcx:Uc Tryz.prog 347=none:=by kernel_rfl
theorem Vej:Yd Tryz.prog 347=false:=by kernel_rfl
theorem Xde:Ve Tryz.prog 347=none:=by kernel_rfl
theorem Uhi:Vd Tryz.prog 347=0:=by kernel_rfl
theorem Ufa:Xg Tryz.prog 347=false:=by kernel_rfl
theorem Xhc:Ye Tryz.prog 347=1:=by kernel_rfl
theorem Wcs:tby Tryz.prog 347=8:=by kernel_rfl
theorem Xew:tz Tryz.prog 347=some (.nilp):=by kernel_rfl
theorem Vgq:tzk Tryz.prog 347 1=true:=by kernel_rfl
theorem Wgb:tsa Tryz.prog 399=some (1,false):=by kernel_rfl
theorem Vgp:Uc Tryz.prog 399=some 401:=by kernel_rfl
theorem Whl:Yd Tryz.prog 399=false:=by kernel_rfl
theorem Uhz:Ve Tryz.prog 399=none:=by kernel_rfl
theorem Ugb:Vd Tryz.prog 399=0:=by kernel_rfl
theorem Weq:Xg Tryz.prog 399=false:=by kernel_rfl
theorem Vdf:Ye Tryz.prog 399=2:=by kernel_rfl
theorem Wcv:tby Tryz.prog 399=24:=by kernel_rfl
theorem Vgu:tz Tryz.prog 399=some (.nils):=by kernel_rfl
theorem Vgc:tzk Tryz.prog 399 1=true:=by kernel_rfl
theorem Ze4:tsa Tryz.prog 401=some (3,true):=by kernel_rfl
theorem Xfe:Uc Tryz.prog 401=none:=by kernel_rfl
theorem Zhh:Yd Tryz.prog 401=false:=by kernel_rfl
theorem Yfx:Ve Tryz.prog 401=none:=by kernel_rfl
theorem Vgh:Vd Tryz.prog 401=0:=by kernel_rfl
theorem Yc3:Xg Tryz.prog 401=false:=by kernel_rfl
theorem Zgj:Ye Tryz.prog 401=0:=by kernel_rfl
theorem Ydq:tby Tryz.prog 401=24:=by kernel_rfl
theorem Ye9:tz Tryz.prog 401=some (.agg [.int .i64 0,.int .i64 0,.int .i64 0]):=by kernel_rfl
theorem Uhc:tzk Tryz.prog 401 3=true:=by kernel_rfl
theorem Uco:Vj Tryz.prog 401 0=some (0,3):=by kernel_rfl
theorem Uf2:apl Tryz.prog 401 0=some (0,1):=by kernel_rfl
theorem Xft:Vj Tryz.prog 401 1=some (1,3):=by kernel_rfl
theorem Xdj:apl Tryz.prog 401 1=some (1,1):=by kernel_rfl
theorem Vek:Vj Tryz.prog 401 2=some (2,3):=by kernel_rfl
theorem Yg6:apl Tryz.prog 401 2=some (2,1):=by kernel_rfl
theorem Vhs:Yk Tryz.prog 401=some [1,1,1]:=by kernel_rfl
theorem Xhm:Xi Tryz.prog 401=some [1,1,1]:=by kernel_rfl
theorem Ugw (parts:List (Nat × AV)):Xe Tryz.prog 401 parts=(Ud (apl Tryz.prog 401) [.int .i64 0,.int .i64 0,.int .i64 0] parts).map AV.agg:=Uf (by kernel_rfl) (by decide) (by kernel_rfl) parts
attribute [simp] Vei Ufj Xf0 Zhc Vgm Yha Wdo Yer Xfo Xhp Wes Zdq Vev Yct Wey Wed Ucz Uef Ye7 Yf5 Wfn Vho Zf0 Whk Vfx Wcq Ufi Wf6 Wgu Ue6 Uel Vgw Wdn Wgc Udj Zgz Vg0 Vdk Wda Zdr Wek Xdy Xhz Wdz Yhz Yc0 Zg1 Xcx Vej Xde Uhi Ufa Xhc Wcs Xew Vgq Wgb Vgp Whl Uhz Ugb Weq Vdf Wcv Vgu Vgc Ze4 Xfe Zhh Yfx Vgh Yc3 Zgj Ydq Ye9 Uhc Uco Uf2 Xft Xdj Vek Yg6 Vhs Xhm Ugw
end Ab
namespace Ab
open Go Go.Proofs
theorem Xdd:tsa Tryz.prog 152=some (1,false):=by kernel_rfl
theorem Xd3:Uc Tryz.prog 152=none:=by kernel_rfl
theorem Xeh:Yd Tryz.prog 152=false:=by kernel_rfl
theorem Ug7:Ve Tryz.prog 152=none:=by kernel_rfl
theorem Zgc:Vd Tryz.prog 152=0:=by kernel_rfl
theorem Uhv:Xg Tryz.prog 152=false:=by kernel_rfl
theorem Yg8:Ye Tryz.prog 152=4:=by kernel_rfl
theorem Ygk:tby Tryz.prog 152=8:=by kernel_rfl
theorem Ygx:tz Tryz.prog 152=some (.nilf):=by kernel_rfl
theorem Vcq:tzk Tryz.prog 152 1=true:=by kernel_rfl
theorem We8:tsa Tryz.prog 156=some (1,false):=by kernel_rfl
theorem Ydh:Uc Tryz.prog 156=none:=by kernel_rfl
theorem Wfb:Yd Tryz.prog 156=false:=by kernel_rfl
theorem Vfl:Ve Tryz.prog 156=none:=by kernel_rfl
theorem Ue3:Vd Tryz.prog 156=0:=by kernel_rfl
theorem Uf4:Xg Tryz.prog 156=false:=by kernel_rfl
theorem Zev:Ye Tryz.prog 156=4:=by kernel_rfl
theorem Yfw:tby Tryz.prog 156=8:=by kernel_rfl
theorem Ve9:tz Tryz.prog 156=some (.nilf):=by kernel_rfl
theorem Zdh:tzk Tryz.prog 156 1=true:=by kernel_rfl
theorem Vfo:tsa Tryz.prog 157=some (1,false):=by kernel_rfl
theorem Wgf:Uc Tryz.prog 157=none:=by kernel_rfl
theorem Yhj:Yd Tryz.prog 157=false:=by kernel_rfl
theorem Vdw:Ve Tryz.prog 157=none:=by kernel_rfl
theorem Zgy:Vd Tryz.prog 157=0:=by kernel_rfl
theorem Yfq:Xg Tryz.prog 157=false:=by kernel_rfl
theorem Ucs:Ye Tryz.prog 157=4:=by kernel_rfl
theorem Zcr:tby Tryz.prog 157=8:=by kernel_rfl
theorem Xhr:tz Tryz.prog 157=some (.nilf):=by kernel_rfl
theorem Vco:tzk Tryz.prog 157 1=true:=by kernel_rfl
theorem Xhn:tsa Tryz.prog 160=some (2,true):=by kernel_rfl
theorem Zd2:Uc Tryz.prog 160=none:=by kernel_rfl
theorem Zhv:Yd Tryz.prog 160=false:=by kernel_rfl
theorem Zg5:Ve Tryz.prog 160=none:=by kernel_rfl
theorem Uh3:Vd Tryz.prog 160=0:=by kernel_rfl
theorem Yd1:Xg Tryz.prog 160=false:=by kernel_rfl
theorem Vdb:Ye Tryz.prog 160=0:=by kernel_rfl
theorem Weh:tby Tryz.prog 160=16:=by kernel_rfl
theorem Xd1:tz Tryz.prog 160=some (.agg [.int .i64 0,.int .i64 0]):=by kernel_rfl
theorem Wdu:tzk Tryz.prog 160 2=true:=by kernel_rfl
theorem Wc4:Vj Tryz.prog 160 0=some (0,3):=by kernel_rfl
theorem Xhs:apl Tryz.prog 160 0=some (0,1):=by kernel_rfl
theorem Vhf:Vj Tryz.prog 160 1=some (1,3):=by kernel_rfl
theorem Ufl:apl Tryz.prog 160 1=some (1,1):=by kernel_rfl
theorem Yhg:Yk Tryz.prog 160=some [1,1]:=by kernel_rfl
theorem Weg:Xi Tryz.prog 160=some [1,1]:=by kernel_rfl
theorem Wf4 (parts:List (Nat × AV)):Xe Tryz.prog 160 parts=(Ud (apl Tryz.prog 160) [.int .i64 0,.int .i64 0] parts).map AV.agg:=Uf (by kernel_rfl) (by decide) (by kernel_rfl) parts
theorem Uex:tsa Tryz.prog 261=some (1,false):=by kernel_rfl
theorem Vgo:Uc Tryz.prog 261=none:=by kernel_rfl
theorem Wfp:Yd Tryz.prog 261=false:=by kernel_rfl
theorem Vfa:Ve Tryz.prog 261=none:=by kernel_rfl
theorem Udh:Vd Tryz.prog 261=0:=by kernel_rfl
theorem Wgm:Xg Tryz.prog 261=false:=by kernel_rfl
theorem Xg5:Ye Tryz.prog 261=4:=by kernel_rfl
theorem Xct:tby Tryz.prog 261=8:=by kernel_rfl
theorem Uet:tz Tryz.prog 261=some (.nilf):=by kernel_rfl
theorem Zc5:tzk Tryz.prog 261 1=true:=by kernel_rfl
attribute [simp] Xdd Xd3 Xeh Ug7 Zgc Uhv Yg8 Ygk Ygx Vcq We8 Ydh Wfb Vfl Ue3 Uf4 Zev Yfw Ve9 Zdh Vfo Wgf Yhj Vdw Zgy Yfq Ucs Zcr Xhr Vco Xhn Zd2 Zhv Zg5 Uh3 Yd1 Vdb Weh Xd1 Wdu Wc4 Xhs Vhf Ufl Yhg Weg Wf4 Uex Vgo Wfp Vfa Udh Wgm Xg5 Xct Uet Zc5
end Ab
namespace Ab
open Go Go.RowKit
variable [Mode]
variable {P:Program}
def Vag (c:Code):Option AObj→Prop
 | some (.loop _ _ _ _ _ .done (some c') _)=>c'=c
 | _=>False
theorem Wh4 {g:Operand} {ps:Array Tmp} {assign body:Code} {Q:Exit→Env→Za→Prop} {env:Env} {σ:Za} {gf:FuncId} {first caps:List AV} (hg:Wa env.t g=.fn (.func gf) first caps)
  (h:∀ fn D,AEnter P gf (first++[.yld (σ.length+1)]++caps) (σ++[.deferred,.loop fn env.t ps assign body .ready none D])
   (fun _ σ'=>(Yah σ'[σ.length+1]?∧Q .normal { env with m:=σ.length::env.m } (σ'.set (σ.length+1) .dead))∨(Vag .ret σ'[σ.length+1]?∧Q .ret { env with m:=σ.length::env.m } (σ'.set (σ.length+1) .dead))∨∃ id,Vag (.exit id) σ'[σ.length+1]?∧Q (.exit id) { env with m:=σ.length::env.m } (σ'.set (σ.length+1) .dead))):ACode P none (.rangeFunc g ps assign body) Q env σ:=by
 intro C a ro hI he hr
 have hro:ro=none:=hr
 subst hro
 have hf:=he.eval g
 rw [hg] at hf
 obtain ⟨cs,ds,hfv,hcs,hds⟩:=hf.fn_inv
 refine wpIn_rangeFunc fun fn _=>?_
 obtain ⟨hen,hcall⟩:=h fn C.w.heap.size
 have hE1:=Ext.push hI.plt (.deferred (some []))
 have hI1:Inv (C.push (.deferred (some []))) (σ++[.deferred]):=hI.push .deferred
 have hE2:=Ext.push hI1.plt (.loop { state:=.ready,pending:=none,fn,tmps:=a.tmps,params:=ps,assign,body,defers:=C.w.heap.size })
 have hI2:=hI1.push (c:=.loop { state:=.ready,pending:=none,fn,tmps:=a.tmps,params:=ps,assign,body,defers:=C.w.heap.size }) (.loop fn env.t a.tmps ps assign body .ready none C.w.heap.size (he.t.ext (hE1.trans hE2)))
 rw [List.append_assoc] at hI2
 have hb2:((C.push (.deferred (some []))).push (.loop { state:=.ready,pending:=none,fn,tmps:=a.tmps,params:=ps,assign,body,defers:=C.w.heap.size })).blk[σ.length+1]? = some (C.w.heap.size+1):=by
  have:=hI.len
  simp [Ctx.push,World.size_alloc,← this]
 have hb1:((C.push (.deferred (some []))).push (.loop { state:=.ready,pending:=none,fn,tmps:=a.tmps,params:=ps,assign,body,defers:=C.w.heap.size })).blk[σ.length]? = some C.w.heap.size:=by
  have:=hI.len
  simp [Ctx.push,← this]
 refine ⟨C.w.heap.size+1,[{ target:=.collected C.w.heap.size,args:=#[] }],((C.push (.deferred (some []))).push (.loop { state:=.ready,pending:=none,fn,tmps:=a.tmps,params:=ps,assign,body,defers:=C.w.heap.size })).w,{ target:=.fn (.func gf) ds.toArray,args:=cs.toArray++#[Value.func (.yield (C.w.heap.size+1)) #[] #[]] },((C.push (.deferred (some []))).push (.loop { state:=.ready,pending:=none,fn,tmps:=a.tmps,params:=ps,assign,body,defers:=C.w.heap.size })).w,gf,(cs++[Value.func (.yield (C.w.heap.size+1)) #[] #[]]++ds).toArray,((C.push (.deferred (some []))).push (.loop { state:=.ready,pending:=none,fn,tmps:=a.tmps,params:=ps,assign,body,defers:=C.w.heap.size })).w,run_enterLoop_outer _ _ _ _ _,?_,fun _ _=>trivial,?_,(fun h=>by cases h),?_⟩
 ·simp only [resolve,hfv]
  simp [go_sem]
 ·have:=hen (cs++[Value.func (.yield (C.w.heap.size+1)) #[] #[]]++ds).toArray (((C.push (.deferred (some []))).push (.loop { state:=.ready,pending:=none,fn,tmps:=a.tmps,params:=ps,assign,body,defers:=C.w.heap.size })).w)
  simp [invoke,go_sem]
  simpa using this
 ·refine (hcall _ _ hI2 (((hcs.ext (hE1.trans hE2)).append (.cons (.yld _ _ hb2) (.nil _))).append (hds.ext (hE1.trans hE2)))).mono ?_
  rintro e w' ⟨v,C',av,σ',rfl,rfl,hE,hI',hv,hq⟩
  have hb':=hE.blk_at hb2
  have fin:∀ (fn':FuncId) (t':List AV) (ps':Array Tmp) (sa' bd':Code) (st:LoopState) (pd:Option Code) (D':Nat),σ'[σ.length+1]? = some (.loop fn' t' ps' sa' bd' st pd D')→st≠.busy→∃ (w4:World) (C4:Ctx),(Instr.endLoop (C.w.heap.size+1)).run P C'.w=.ok pd w4∧C4.w=w4∧Ext C C4∧Inv C4 (σ'.set (σ.length+1) .dead)∧ER C4 { t:=env.t,m:=σ.length::env.m } { a with defers:=[{ target:=.collected C.w.heap.size,args:=#[] }]++a.defers }:=by
   intro fn' t' ps' sa' bd' st pd D' hr' hst
   obtain ⟨hnp,c,hc,hR⟩:=hI'.live _ _ _ hb' hr' rfl
   obtain ⟨tmps',rfl,ht'⟩:=hR.loop_inv
   have hE4:=Ext.set (C:=C') (o:=.loop { state:=.exhausted,pending:=pd,fn:=fn',tmps:=tmps',params:=ps',assign:=sa',body:=bd',defers:=D' }) hc hnp rfl
   have hI4:=hI'.set (o':=.dead) (c':=.loop { state:=.exhausted,pending:=pd,fn:=fn',tmps:=tmps',params:=ps',assign:=sa',body:=bd',defers:=D' }) hb' hr' rfl hc rfl (.gone _)
   have hEE:=((hE1.trans hE2).trans hE).trans hE4
   refine ⟨_,_,by rw [run_endLoop hc (by simpa using hst)],?_,hEE,hI4,⟨he.t.ext hEE,by simp [he.m],fun i r d h1 h2=>?_⟩⟩
   ·rw [Wan];rfl
   ·cases i with
    | zero =>
     simp at h1 h2
     subst h1
     subst h2
     exact ⟨_,hE4.blk_at (hE.blk_at hb1),rfl⟩
    | succ i =>
     simp at h1 h2
     obtain ⟨b,hb,hd⟩:=he.mark i r d h1 h2
     exact ⟨b,hEE.blk_at hb,hd⟩
  rcases hq with ⟨hrd,hq⟩ | ⟨hrd,hq⟩ | ⟨id,hrd,hq⟩
  ·unfold Yah at hrd
   split at hrd
   ·rename_i fn' t' ps' sa' bd' D' hr'
    obtain ⟨w4,C4,h1,rfl,h3,h4,h5⟩:=fin _ _ _ _ _ _ _ _ hr' (by simp)
    exact ⟨none,_,h1,_,_,_,rfl,h3,h4,h5,hq⟩
   ·exact hrd.elim
  ·unfold Vag at hrd
   split at hrd
   ·rename_i fn' t' ps' sa' bd' c' D' hr'
    subst hrd
    obtain ⟨w4,C4,h1,rfl,h3,h4,h5⟩:=fin _ _ _ _ _ _ _ _ hr' (by simp)
    exact ⟨some .ret,_,h1,wpIn_ret ⟨_,_,_,rfl,h3,h4,h5,hq⟩⟩
   ·exact hrd.elim
  ·unfold Vag at hrd
   split at hrd
   ·rename_i fn' t' ps' sa' bd' c' D' hr'
    subst hrd
    obtain ⟨w4,C4,h1,rfl,h3,h4,h5⟩:=fin _ _ _ _ _ _ _ _ hr' (by simp)
    exact ⟨some (.exit id),_,h1,wpIn_exit ⟨_,_,_,rfl,h3,h4,h5,hq⟩⟩
   ·exact hrd.elim
theorem Uc4 {g:Operand} {ps:Array Tmp} {assign body:Code} {Q:Exit→Env→Za→Prop} {env:Env} {σ:Za} {gf:FuncId} {first caps:List AV} (r q:Nat) (hr:σ.length=r) (hq:r+1=q) (hg:Wa env.t g=.fn (.func gf) first caps)
  (h:∀ fn D o σ2,o=.loop fn env.t ps assign body .ready none D→Yah (some o)=True→σ2=σ++[.deferred,o]→AEnter P gf (first++[.yld q]++caps) σ2
   (fun _ σ'=>(Yah σ'[q]?∧Q .normal { env with m:=r::env.m } (σ'.set q .dead))∨(Vag .ret σ'[q]?∧Q .ret { env with m:=r::env.m } (σ'.set q .dead))∨∃ id,Vag (.exit id) σ'[q]?∧Q (.exit id) { env with m:=r::env.m } (σ'.set q .dead))):@StC _ P none ⟨.rangeFunc g ps assign body⟩ ⟨Q⟩ env σ:=by
 subst hr
 subst hq
 exact Wh4 hg fun fn D=>h fn D _ _ rfl (Ud5 _ _ _ _ _ _) rfl
def Yf (r:Nat) (K:AV→Za→Prop) (o o':AObj) (oJ:Code→AObj):Exit→Env→Za→Prop
 | .normal,_,σ=>σ[r]? = some o'∧K (.bool true) (σ.set r o)
 | .ret,_,σ=>σ[r]? = some o'∧K (.bool false) (σ.set r (oJ .ret))
 | .exit id,_,σ=>σ[r]? = some o'∧K (.bool false) (σ.set r (oJ (.exit id)))
 | _,_,_=>False
def Yg (P:Program) (r:Nat) (body:Code) (K:AV→Za→Prop) (o o':AObj) (oJ:Code→AObj):Exit→Env→Za→Prop
 | .normal,env,σ=>σ[r]? = some o∧awp P (some r) body (Yf r K o o' oJ) env (σ.set r o')
 | _,_,_=>False
theorem Wdk {r:Nat} {K:AV→Za→Prop} {o o':AObj} {oJ:Code→AObj} {env:Env} {σ:Za}:Yf r K o o' oJ .normal env σ=(σ[r]? = some o'∧K (.bool true) (σ.set r o)):=(rfl)
theorem Zdn {r:Nat} {K:AV→Za→Prop} {o o':AObj} {oJ:Code→AObj} {env:Env} {σ:Za}:Yf r K o o' oJ .ret env σ=(σ[r]? = some o'∧K (.bool false) (σ.set r (oJ .ret))):=(rfl)
theorem Wd8 {r id:Nat} {K:AV→Za→Prop} {o o':AObj} {oJ:Code→AObj} {env:Env} {σ:Za}:Yf r K o o' oJ (.exit id) env σ=(σ[r]? = some o'∧K (.bool false) (σ.set r (oJ (.exit id)))):=(rfl)
theorem Ucy {r:Nat} {body:Code} {K:AV→Za→Prop} {o o':AObj} {oJ:Code→AObj} {env:Env} {σ:Za}:Yg P r body K o o' oJ .normal env σ=(σ[r]? = some o∧awp P (some r) body (Yf r K o o' oJ) env (σ.set r o')):=(rfl)
@[congr] theorem Wip {r:Nat} {K:AV→Za→Prop} {o o':AObj} {oJ:Code→AObj} {e:Exit} {env env':Env} {σ σ':Za} (h:env=env') (h':σ=σ'):Yf r K o o' oJ e env σ=Yf r K o o' oJ e env' σ':=by rw [h,h']
@[congr] theorem Yie {r:Nat} {body:Code} {K:AV→Za→Prop} {o o':AObj} {oJ:Code→AObj} {e:Exit} {env env':Env} {σ σ':Za} (h:env=env') (h':σ=σ'):Yg P r body K o o' oJ e env σ=Yg P r body K o o' oJ e env' σ':=by rw [h,h']
def Vav (c:Code):AObj→AObj
 | .loop fn t ps a b _ _ D=>.loop fn t ps a b .done (some c) D
 | o=>o
theorem Ye6 {o:AObj} (c:Code) (h:Yah (some o)=True):Vag c (some (Vav c o)):=by
 unfold Yah at h
 split at h
 ·rename_i e;cases e;unfold Vav Vag;rfl
 ·exact absurd h (by simp)
theorem AYield.roundJ {r:Nat} {body:Code} {K:AV→Za→Prop} {o:AObj} {σ:Za} {args:List AV} {fn:FuncId} {t:List AV} {ps:Array Tmp} {assign:Code} {D:Nat} (ho:o=.loop fn t ps assign body .ready none D) (hr:σ[r]? = some o) (hl:args.length=ps.size)
  (h:∀ o':AObj,(∀ cs,o'≠.cells cs)→awp P (some r) assign (Yg P r body K o o' fun c=>Vav c o) { t:=Waf ps.toList args t } σ):AYield P r args σ K:=by
 subst ho
 unfold AYield
 rw [hr]
 refine ⟨hl,?_⟩
 refine (Vk _ (h (.loop fn t ps assign body .busy none D) fun cs e=>by cases e)).mono fun e env s hq=>?_
 cases e with
 | normal =>
  obtain ⟨h1,h2⟩:=hq
  unfold QBegin
  simp only [h1,true_and]
  refine (Vk _ h2).mono fun e env s hq=>?_
  cases e with
  | normal =>
   obtain ⟨h3,h4⟩:=hq
   unfold QRound
   simp only [h3]
   exact h4
  | ret =>
   obtain ⟨h3,h4⟩:=hq
   unfold QRound
   simp only [h3]
   exact h4
  | exit id =>
   obtain ⟨h3,h4⟩:=hq
   unfold QRound
   simp only [h3]
   exact h4
  | _=>cases hq
 | _=>cases hq
theorem Ufr {r:Nat} {args:List AV} {σ:Za} {v:AV} {s:Za} {K:AV→Za→Prop} (h:AYield P r args σ fun v' s'=>v'=v∧s'=s) (hk:K v s):@OuH _ P (.yld r) args σ ⟨K⟩:=⟨v,s,h,hk⟩
attribute [simp] Wdk Zdn Wd8 Ucy
end Ab
namespace Ab
open Go Go.RowKit Go.Proofs
def Xj (n lo hi:Int):Bool:=decide (lo≤n)&&decide (n≤hi)
attribute [local irreducible] aws awp aw1 Og Om Oc Oa Ogd Ov Ot awd Ua awh Xb Ogh Ohd awl Ogl Ohl awv Ogv Ohv Wb Vb QFn Zc QRo QBe Yf Yg ACode AYield
theorem Za9 (n lo hi:Int):APure Tryz.prog 146 [.int .i64 n,.int .i64 lo,.int .i64 hi] (.bool (Xj n lo hi)):=by
 intro σ
 refine Yb Tryz.func146 rfl (Zb Tryz.func146 (by decide) rfl) ?_
 simp [Tryz.ntmps146,Xj]
 by_cases h:lo≤n<;>by_cases h2:n≤hi<;>simp [h,h2]
theorem Wcj (r:Rl) (n:Int) (h:r.Ok):APure Tryz.prog 76 [Ug r,.int .i64 n] (.bool (Xj n 0 (r.men - 1))):=by
 refine APure.of fun σ=>?_
 refine Yb Tryz.func76 rfl (Zb Tryz.func76 (by decide) rfl) ?_
 have:=h.m1
 have:=h.m5
 have hw:=w64 (n:=r.men - 1) (by omega) (by omega)
 simp [Tryz.ntmps76,Ug,hw]
 refine (Za9 _ _ _).use ?_
 simp
theorem Xcu (n:Ntc) (m:Int) (hl:n.men.length≤2^40):APure Tryz.prog 160 [Ub n,.int .i64 m] (.bool (decide (m∈n.men))):=by
 refine APure.of fun σ=>?_
 refine Yb Tryz.func160 rfl (Zb Tryz.func160 (by decide) rfl) ?_
 simp [Tryz.ntmps160,Ub]
 refine (Uau n.men m hl).use ?_
 simp
theorem Wdq (l:List Int) (q f:Nat) (fs cs:List AV) (σ:Za) (hq:σ[q]? = some (.cells [.fn (.func f) fs cs])) (hl:l.length≤2^40) (h:∀ x∈l,∀ g,ACalls Tryz.prog f (fs++[.int .i64 x]++cs) (σ++g) fun v s=>v=.bool true∧∃ g',s=σ++g++g') :
  ACalls Tryz.prog 152 [.pl 1 (Ya l),.fn (.func 185) [] [.ptr q 0]] σ fun v s=>v=.int .i64 (-1)∧∃ g,s=σ++g:=by
 refine Yb Tryz.func152 rfl (Zb Tryz.func152 (by decide) rfl) ?_
 have hql:=(Qzs.1 hq).1
 simp [Tryz.ntmps152]
 refine Wd (fun env σ'=>∃ (u:List AV) (i:Nat) (g:Za),env={ t:=u }∧u.length=19∧tg u 0=.pl 1 (Ya l)∧tg u 1=.fn (.func 185) [] [.ptr q 0]∧tg u 7=.int .i64 l.length∧tg u 8=.int .i64 i∧σ'=σ++g∧i≤l.length)
  (fun env _=>match tg env.t 8 with | .int _ i=>l.length - i.toNat | _=>0) ⟨_,0,[],rfl,by simp,by simp,by simp,by simp [Ya],by simp,by simp,by omega⟩ ?_
 rintro env σ' ⟨u,i,g,rfl,hl0,g0,g1,g7,g8,rfl,hi⟩
 rcases Qzn i l.length with hlt | hge
 ·have hlt':(i:Int)<(l.length:Int):=by omega
  have hw1:=w64 (n:=(i:Int)+1) (by omega) (by omega)
  have hx:(Ya l)[i]? = some (.int .i64 l[i]):=by simp [Ya,hlt]
  have hil:i<(Ya l).length:=by simpa [Ya] using hlt
  have hx':(Ya l)[i]=.int .i64 l[i]:=by simp [Ya]
  have h1:ACalls Tryz.prog 185 [.int .i64 l[i],.ptr q 0] (σ++g) fun v s=>v=.bool false∧∃ g',s=σ++g++g':=by
   refine Yb Tryz.func185 rfl (Zb Tryz.func185 (by decide) rfl) ?_
   have hq2:(σ++g)[q]? = some (.cells [.fn (.func f) fs cs]):=by rw [Qzl hql];exact hq
   generalize hT:σ++g=T at hq2
   have h2:=h l[i] (List.getElem_mem hlt) g
   rw [hT] at h2
   simp [Tryz.ntmps185,hq2]
   refine StA.of ((by simpa using h2:ACalls Tryz.prog f (fs++.int .i64 l[i]::cs) T fun v s=>v=.bool true∧∃ g',s=T++g').mono ?_)
   rintro v s ⟨rfl,g',rfl⟩
   simp
  simp [hl0,g0,g1,g7,g8,hlt',hlt,hil,hx']
  refine StA.of (h1.mono ?_)
  rintro v s ⟨rfl,g',rfl⟩
  simp [hl0,g0,g1,g7,g8,hlt',hlt,hw1]
  exact ⟨⟨i+1,by simp,hlt⟩,by omega⟩
 ·have hge':¬ (i:Int)<(l.length:Int):=by omega
  simp [hl0,g0,g1,g7,g8,hge']
theorem Wbw (l:List Int) (f:Nat) (fs cs:List AV) (σ:Za) (hl:l.length≤2^40) (h:∀ x∈l,∀ g,ACalls Tryz.prog f (fs++[.int .i64 x]++cs) (σ++g) fun v s=>v=.bool true∧∃ g',s=σ++g++g') :
  ACalls Tryz.prog 108 [.pl 1 (Ya l),.fn (.func f) fs cs] σ fun v s=>v=.bool true∧s=σ:=by
 refine ACalls.forgetT ?_
 refine Yb Tryz.func108 rfl (Zb Tryz.func108 (by decide) rfl) ?_
 simp [Tryz.ntmps108]
 have h2:ACalls Tryz.prog 184 [.pl 1 (Ya l),.fn (.func 185) [] [.ptr σ.length 0]] (σ++[.cells [.fn (.func f) fs cs]]) fun v s=>v=.bool false∧∃ g,s=σ++g:=by
  refine Yb Tryz.func184 rfl (Zb Tryz.func184 (by decide) rfl) ?_
  simp [Tryz.ntmps184]
  refine StA.of ((Wdq l σ.length f fs cs _ (by simp) hl fun x hx g=>?_).mono ?_)
  ·have:=h x hx (.cells [.fn (.func f) fs cs]::g)
   simpa using this
  ·rintro v s ⟨rfl,g,rfl⟩
   simp
 refine StA.of (h2.mono ?_)
 rintro v s ⟨rfl,g,rfl⟩
 simp
 exact ⟨σ,g,rfl,rfl,fun r o h=>.inl h,.bool true,.bool _,rfl,rfl⟩
theorem Wcn (l:List Int) (hl:l.length≤2^40) (hs:l.Pairwise (·<·)):APure Tryz.prog 147 [.pl 1 (Ya l)] (.bool true):=by
 intro σ
 refine Yb Tryz.func147 rfl (Zb Tryz.func147 (by decide) rfl) ?_
 simp [Tryz.ntmps147]
 refine Wd (fun env σ'=>∃ (u:List AV) (i:Nat),env={ t:=u }∧u.length=24∧tg u 0=.pl 1 (Ya l)∧tg u 5=.int .i64 l.length∧tg u 6=.int .i64 i∧σ'=σ∧i≤l.length)
  (fun env _=>match tg env.t 6 with | .int _ i=>l.length - i.toNat | _=>0) ⟨_,0,rfl,by simp,by simp,by simp [Ya],by simp,rfl,by omega⟩ ?_
 rintro env σ' ⟨u,i,rfl,hl0,g0,g5,g6,rfl,hi⟩
 rcases Qzn i l.length with hlt | hge
 ·have hlt':(i:Int)<(l.length:Int):=by omega
  have hw1:=w64 (n:=(i:Int)+1) (by omega) (by omega)
  have hil:i<(Ya l).length:=by simpa [Ya] using hlt
  have hx':(Ya l)[i]=.int .i64 l[i]:=by simp [Ya]
  simp [hl0,g0,g5,g6,hlt',hlt]
  refine Yl mixed (by kernel_rfl) ?_
  rcases Nat.eq_zero_or_pos i with rfl | hpos
  ·have hw0:IntKind.i64.wrap 1=1:=by decide
   simp [hl0,g0,g5,g6,hlt',hlt,hw0]
   exact ⟨⟨1,by simp,by omega⟩,by omega⟩
  ·have hp':(0:Int)<(i:Int):=by omega
   have hw2:=w64 (n:=(i:Int) - 1) (by omega) (by omega)
   obtain ⟨k,rfl⟩:∃ k,i=k+1:=⟨i - 1,by omega⟩
   have e:((k+1:Nat):Int) - 1=(k:Int):=by omega
   have hkl:k<(Ya l).length:=by omega
   have hk':(Ya l)[k]=.int .i64 (l[k]'(by omega)):=by simp [Ya]
   have hlt2:=(List.pairwise_iff_getElem.1 hs) k (k+1) (by omega) hlt (by omega)
   rw [e] at hw2
   have e2:(k:Int)+1 - 1=(k:Int):=by omega
   have hn:¬ l[k+1]≤l[k]:=by omega
   have c1:(0:Int)≤(k:Int)+1:=by omega
   have c2:(k:Int)+1<((Ya l).length:Int):=by omega
   simp [hl0,g0,g5,g6,hil,hx',hw2,e2,hkl,hk',hn,c1,c2]
   simp at hw1
   simp [hl0,g0,g5,g6,hw1]
   exact ⟨⟨k+2,by simp;omega,by omega⟩,by omega⟩
 ·have hge':¬ (i:Int)<(l.length:Int):=by omega
  simp [hl0,g0,g5,g6,hge']
theorem Ntc.Ok.short {m:Int} {n:Ntc} (h:n.Ok m) (hm:m≤5):n.men.length≤5:=Wam h.srt fun x hx=>by have:=h.mem x hx;omega
theorem Yax (r:Rl) (h:r.Ok):APure Tryz.prog 64 [Ug r] (.int .i64 0):=by
 refine APure.of fun σ=>?_
 refine Yb Tryz.func64 rfl (Zb Tryz.func64 (by decide) rfl) ?_
 have:=h.m1
 have:=h.m5
 have:=h.few
 have hnf:¬ (6:Int)<(r.ntcs.length:Int):=by omega
 have hin:Xj r.men 1 5=true:=by simp [Xj];omega
 simp [Tryz.ntmps64,Ug]
 refine (Za9 _ _ _).use ?_
 simp [hin,hnf]
 refine Wd (fun env σ'=>∃ (u:List AV) (i:Nat) (g:Za),env={ t:=u }∧u.length=47∧tg u 1=.ptr σ.length 0∧tg u 16=.pl 2 (r.ntcs.map Ub)∧tg u 17=.int .i64 r.ntcs.length∧tg u 18=.int .i64 i∧σ'=σ++(.cells (Ug r).cells::g)∧i≤r.ntcs.length)
  (fun env _=>match tg env.t 18 with | .int _ i=>r.ntcs.length - i.toNat | _=>0) ⟨_,0,[],rfl,by simp,by simp,by simp,by simp,by simp,by simp [Ug],by omega⟩ ?_
 rintro env σ' ⟨u,i,g,rfl,hl0,g1,g16,g17,g18,rfl,hi⟩
 rcases Qzn i r.ntcs.length with hlt | hge
 ·have hlt':(i:Int)<(r.ntcs.length:Int):=by omega
  have hw1:=w64 (n:=(i:Int)+1) (by omega) (by omega)
  obtain ⟨n,hn⟩:∃ n,r.ntcs[i]=n:=⟨_,rfl⟩
  have ok:n.Ok r.men:=hn▸h.each _ (List.getElem_mem hlt)
  have hs:=ok.short h.m5
  have i1:Xj n.times 1 3=true:=by have:=ok.t1;have:=ok.t3;simp [Xj];omega
  have i4:¬ (n.men.length:Int)<n.times:=by have:=ok.le;omega
  have hev:∀ σ,ACalls Tryz.prog 108 [.pl 1 (Ya n.men),.fn (.func 76) [Ug r] []] σ fun v s=>v=.bool true∧s=σ:=fun σ=>Wbw n.men 76 [Ug r] [] σ (by omega) fun x hx g=>by
   have hxm:=ok.mem x hx
   have e:Xj x 0 (r.men - 1)=true:=by simp [Xj];omega
   have:=Wcj r x h (σ++g)
   rw [e] at this
   exact this.mono fun v s hh=>⟨hh.1,[],by rw [hh.2];simp⟩
  obtain ⟨T,hT⟩:∃ T,σ++.cells (Ug r).cells::g=T:=⟨_,rfl⟩
  have hnext:∀ X:Za,(T++X)[σ.length]? = some (.cells [.int .i64 r.men,.pl 2 (r.ntcs.map Ub)]):=fun X=>by rw [← hT];simp [Ug]
  have hx1:∀ (x:AObj) (Y:Za),(T++x::Y)[T.length]? = some x:=fun x Y=>by simp
  rw [hT]
  simp [hl0,g1,g16,g17,g18,hlt',hlt,hn,Ub]
  refine (Za9 _ _ _).use ?_
  simp [hl0,g1,g16,g17,g18,i1,hnext,hx1]
  refine StA.of ((hev _).mono ?_)
  rintro v s ⟨rfl,rfl⟩
  simp [hl0,g1,g16,g17,g18,i1,hnext,hx1]
  refine (Wcn n.men (by omega) ok.srt).use ?_
  have hil:(Ya n.men).length=n.men.length:=by simp [Ya]
  simp [hl0,g1,g16,g17,g18,i1,hnext,hx1,hil,i4,hw1]
  exact ⟨⟨i+1,by simp,⟨_,by rw [← hT];simp [Ug];rfl⟩,hlt⟩,by omega⟩
 ·have hge':¬ (i:Int)<(r.ntcs.length:Int):=by omega
  simp [hl0,g1,g16,g17,g18,hge']
theorem Yb9 (r:Rl) (S:List (List Int)) (h:r.Ok) (hs:ShOk r S):APure Tryz.prog 79 [Ug r,Uj S] (.int .i64 0):=by
 refine APure.of fun σ=>?_
 refine Yb Tryz.func79 rfl (Zb Tryz.func79 (by decide) rfl) ?_
 have:=h.few
 have hlen:=hs.len
 simp [Tryz.ntmps79,Ug,Uj]
 refine (Yax r h).use ?_
 simp [hlen]
 refine Wd (fun env σ'=>∃ (u:List AV) (i:Nat),env={ t:=u }∧u.length=53∧tg u 2=.ptr σ.length 0∧tg u 20=.pl 1 (S.map fun x=>.pl 1 (Ya x))∧tg u 21=.int .i64 r.ntcs.length∧tg u 22=.int .i64 i∧σ'=σ++[.cells [.int .i64 r.men,.pl 2 (r.ntcs.map Ub)]]∧i≤r.ntcs.length)
  (fun env _=>match tg env.t 22 with | .int _ i=>r.ntcs.length - i.toNat | _=>0) ⟨_,0,rfl,by simp,by simp,by simp,by simp,by simp,by simp,by omega⟩ ?_
 rintro env σ' ⟨u,i,rfl,hl0,g2,g20,g21,g22,rfl,hi⟩
 rcases Qzn i r.ntcs.length with hlt | hge
 ·have hlt':(i:Int)<(r.ntcs.length:Int):=by omega
  have hw1:=w64 (n:=(i:Int)+1) (by omega) (by omega)
  have hlS:i<S.length:=by omega
  obtain ⟨l,hl⟩:∃ l,S[i]=l:=⟨_,rfl⟩
  obtain ⟨n,hn,ok,h1,h2,h3⟩:=hs.mem h (show S[i]? = some l by rw [Qze hlS,hl])
  have hn':r.ntcs[i]=n:=Option.some.inj ((Qze hlt).symm.trans hn)
  have hsh:=ok.short h.m5
  have hls:l.length≤5:=Wam h2 fun x hx=>by have:=h3 x hx;have:=h.m5;omega
  have hev:∀ σ,ACalls Tryz.prog 108 [.pl 1 (Ya l),.fn (.func 160) [Ub n] []] σ fun v s=>v=.bool true∧s=σ:=fun σ=>Wbw l 160 [Ub n] [] σ (by omega) fun x hx g=>by
   have e:decide (x∈n.men)=true:=by simpa using (h3 x hx).1
   have:=Xcu n x (by omega) (σ++g)
   rw [e] at this
   exact this.mono fun v s hh=>⟨hh.1,[],by rw [hh.2];simp⟩
  have hil:(Ya l).length=l.length:=by simp [Ya]
  obtain ⟨T,hT⟩:∃ T,σ++[AObj.cells [.int .i64 r.men,.pl 2 (r.ntcs.map Ub)]]=T:=⟨_,rfl⟩
  have hTc:T[σ.length]? = some (.cells [.int .i64 r.men,.pl 2 (r.ntcs.map Ub)]):=by rw [← hT];simp
  rw [hT]
  simp [hl0,g2,g20,g21,g22,hlt',hlt,hl,hn',hlS,hTc,hil,h1,Ub]
  refine StA.of ((hev _).mono ?_)
  rintro v s ⟨rfl,rfl⟩
  simp [hl0,g2,g20,g21,g22,hlt',hlt,hl,hn',hlS,hTc]
  refine (Wcn l (by omega) h2).use ?_
  simp [hl0,g2,g20,g21,g22,hlt',hlt,hl,hn',hlS,hTc,hw1]
  exact ⟨⟨i+1,by simp,hlt⟩,by omega⟩
 ·have hge':¬ (i:Int)<(r.ntcs.length:Int):=by omega
  simp [hl0,g2,g20,g21,g22,hge']
end Ab

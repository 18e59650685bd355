/-
  Texts packed for a claim.
-/
import Derived.Test.YtdifgaapdnbliaaGreatDoorS00
import Derived.Test.YtdifgaapdnbliaaGreatDoorS43
set_option linter.all false
namespace Ab
open Go Go.RowKit Go.Proofs
theorem Xeq {P:Program} {rd:Option Nat} {c:Code} (I:Env→Za→Prop) {N:Env→Za→Prop} {Q:Exit→Env→Za→Prop} {env:Env} {σ:Za} (head:ACode P rd c (Zc I Q) env σ) (tail:∀ env σ,I env σ→N env σ):@StC _ P rd ⟨c⟩ ⟨Zc N Q⟩ env σ :=
 ACode.mono head fun e env s h=>by
  show Zc N Q e env s
  cases e with
  | normal=>exact tail _ _ h
  | _=>exact h
attribute [local irreducible] aws awp aw1 Og Om Oc Oa Ogd Ov Ot awd Ub awh Xc Ogh Ohd awl Ogl Ohl awv Ogv Ohv Zc Wc QFn Zd QRo QBe ACode AYield
theorem Lit.alloc {P:Program} {t ty:TypeId} {dst:Option Tmp} {pos:String} {after:Array Edge} {g:Option (Nat × Bool)} {env:Env} {z:AV} (hz:tz P t=some z) (h1:z.cells.all AV.one=true) (h2:z.known=true):Lit P ⟨dst,.alloc t,ty,pos,after,g⟩ .un env:=by
 intro s env' C a hav hI he ro next Q hn
 have hab:Wt z s=some (.ptr s.length 0,s++[.cells z.cells]):=by
  unfold Wt
  simp only [h1,h2,if_true]
 refine Uac hI he (K:=fun v' σ'=>v'=.ptr s.length 0∧σ'=s++[.cells z.cells]) ?_ ro next Q fun C1 c v1 σ1 hE1 hI1 hv1 ⟨e1,e2⟩=>?_
 ·rw [Wa8,hz,Option.bind_some,hab,Xap]
  exact ⟨rfl,rfl⟩
 ·subst e1;subst e2
  refine hn (C1.frz s.length (s++[.cells z.cells])) c (Ext.frz hI hE1) (hI.frz hE1 hI1) (.un c ?_)
  obtain ⟨b,hb,rfl⟩:=hv1.ptr_inv
  rfl
theorem Ve0 (l:List (List UInt8)) (hl:l.length≤2^30) {σ:Za} {p:Nat} (h:σ[p]? = some (.cells (strs l))):ACalls Tryz.prog 78 [.arr 1 p 0 l.length] σ fun v s=>v=.arr 1 σ.length 0 l.length∧s=σ++[.cells (strs l)]:=by
 refine Ua Tryz.func78 rfl (Wa Tryz.func78 (by decide) rfl) ?_
 have h1:(l.length:Int)*16≤281474976710656:=by omega
 have h2:(l.length:Int)≤9223372036854775807:=by omega
 have h3:∀ X:Za,(σ++X)[p]? = some (.cells (l.map AV.str)):=fun X=>Vf h
 have h4:List.take l.length (l.map AV.str)=l.map AV.str:=List.take_of_length_le (by simp)
 simp [Tryz.ntmps78,h1,h2,h3,h4,strs]
theorem Xa6 {τ:Za} {q:Nat} {k n:Int} {w:AV} {ws:List (List UInt8)} (h:τ[q]? = some (.cells [.int .i64 k,.int .i64 n,w])) (h1:w.one=true) (hw:Fz 0 τ w (Zb ws)):Fz 0 τ (.arr 3 q 0 1) (Xa [⟨k,n,ws⟩]) :=
 Ya9 [(⟨k,n,ws⟩,w)] (by simp [We,pvY,h];rfl) (by simp only [List.mem_singleton];rintro y rfl;exact ⟨h1,hw⟩)
theorem Xbb {τ:Za} {q:Nat} {k n:Int} {b c:Bool} {w x:AV} {ws xs:List (List UInt8)} (h:τ[q]? = some (.cells [.int .i64 k,.int .i64 n,.bool b,.bool c,w,x])) (hw:Fz 0 τ w (Zb ws)) (hx:Fz 0 τ x (Zb xs)):Fz 0 τ (.arr 6 q 0 1) (Wb [⟨k,n,b,c,ws,xs⟩]) :=
 Vbn [(⟨k,n,b,c,ws,xs⟩,w,x)] (by simp [Uo,h]) (by simp only [List.mem_singleton];rintro y rfl;exact ⟨hw,hx⟩)
theorem Yay {τ:Za} {k n:Int} {w:AV} {ws:List (List UInt8)} (hw:Fz 0 τ w (Zb ws)):Fz 0 τ (.agg [.int .i64 k,.int .i64 n,w]) (Yd ⟨k,n,ws⟩):=Fz.agg_iff.2 (FzL.cons_iff.2 ⟨.int _ _,FzL.cons_iff.2 ⟨.int _ _,FzL.cons_iff.2 ⟨hw,FzL.nil_iff.2 trivial⟩⟩⟩)
def noticeW:List (List UInt8):=[[110,111,116,105,99,101],[51],[116,105,100,101],[97,116],[115,105,120]]
def oddW:List (List UInt8):=[[],[120],[48,55],[48],[57,57,57],[49,48,48,48],[45,49],[43,49],[102,101,101],[112,108,101,97],[84,105,100,101],[116,119,101,108,118,101,98,121,116,101,115,49],[116,119,101,108,118,101,98,121,116,101,115,49,50],[97,9,98],[195,169],[10]]
theorem Vc6:∀ j:Fin 5,∀ k:Fin 16,(Uh (noticeW.set j (oddW[k.1]'(show k.1<oddW.length from k.2)))).length≤100:=by decide +kernel
theorem Zbr {α β:Type} (f:α→β) (l:List α) (i:Nat) (e:α) (h:i<l.length):List.take i (List.map f l)++f e::List.drop (i+1) (List.map f l)=List.map f (l.set i e):=by
 rw [List.map_set,List.set_eq_take_append_cons_drop,if_pos (by simpa using h)]
theorem Zc9:∀ ws:List (List UInt8),(∀ w∈ws,w.length≤20)→(Uh ws).length≤21*ws.length
 | [],_=>by simp [Uh,List.intercalate]
 | [a],h=>by have:=h a (by simp);simp [Uh,List.intercalate];omega
 | a::b::ws,h=>by
  have h1:=h a (by simp)
  have h2:=h b (by simp)
  have h3:∀ l:List (List UInt8),(∀ w∈l,w.length≤20)→(l.flatMap (fun w=>(32:UInt8)::w)).length≤21*l.length:=by
   intro l
   induction l with
   | nil=>intro _;simp
   | cons x l ih=>intro hl;have:=hl x (by simp);have:=ih fun w hw=>hl w (List.mem_cons_of_mem _ hw);simp only [List.flatMap_cons,List.length_append,List.length_cons];omega
  have:=h3 ws fun w hw=>h w (by simp [hw])
  rw [Zbj]
  simp only [List.length_append,List.length_cons,List.length_nil]
  omega
def Rows (lo:Nat) (τ:Za) (k:Nat) (va vb:AV) (F:List Oyez.Rec) (L:List Oyez.Chg):Prop :=
 F.length=k∧L.length=2*k∧(va=.nils∧vb=.nils∧k=0∨∃ p q:Nat,va=.arr 3 p 0 k∧vb=.arr 6 q 0 (2*k)∧lo≤p∧lo≤q∧p≠q∧τ[p]? = some (.cells (We ((F.map fun r=>(r,AV.nils)).map pvY)))∧τ[q]? = some (.cells (Uo (L.map fun c=>(c,AV.nils,AV.nils)))))∧(∀ r∈F,r.words=[])∧∀ c∈L,c.old=[]∧c.new=[]
theorem Wcj {τ S X:Za} (j:Nat):(τ++(S++X))[τ.length+S.length+j]? = X[j]?:=by
 rw [← List.append_assoc,Qzr (by simp)]
 congr 1
 simp
theorem Xbw (Y:List (Oyez.Chg × AV × AV)):(Uo Y).length=Y.length*6:=by
 unfold Uo
 induction Y with
 | nil=>rfl
 | cons y Y ih=>rw [List.flatMap_cons,List.length_append,ih];simp;omega
theorem Uc3 (Y Z:List (Oyez.Chg × AV × AV)):Uo (Y++Z)=Uo Y++Uo Z:=by unfold Uo;rw [List.flatMap_append]
theorem Wb4 {τ S:Za} {A B C D:AObj} {p q:Nat} (hq:q<S.length):(τ++(((S++[A]).set p .dead++[C,B]).set q .dead++[D]))[τ.length+S.length+1]? = some C∧(τ++(((S++[A]).set p .dead++[C,B]).set q .dead++[D]))[τ.length+(S.length+1)+1+1]? = some D:=by
 constructor
 ·rw [show τ.length+S.length+1=τ.length+(S.length+1) by omega,Qzr (by omega),Nat.add_sub_cancel_left,Qzl (by simp),List.getElem?_set_ne (by omega),Qzr (by simp)]
  simp
 ·rw [show τ.length+(S.length+1)+1+1=τ.length+(S.length+3) by omega,Qzr (by omega),Nat.add_sub_cancel_left,Qzr (by simp)]
  simp
theorem Zcj (i:Int):(Utf8.encode i).size≤4:=by
 unfold Utf8.encode
 simp only [apply_ite ByteArray.size]
 simp only [ByteArray.size,List.size_toArray,List.length_cons,List.length_nil]
 repeat' split
 all_goals omega
theorem Wdg {τ:Za} {q:Nat} (Y Z:List (Oyez.Chg × AV × AV)) (h:τ[q]? = some (.cells (Uo (Y++Z)))) (hw:∀ y∈Y,Fz 0 τ y.2.1 (Zb y.1.old)∧Fz 0 τ y.2.2 (Zb y.1.new)):Fz 0 τ (.arr 6 q 0 Y.length) (Wb (Y.map Prod.fst)):=by
 have hl:Y.length=((Y.map Prod.fst).map Ze).length:=by simp
 rw [hl]
 refine Fz.arr 6 q 0 (Uo (Y++Z)) ((Y.map Prod.fst).map Ze) (fun i j=>((Uo (Y++Z))[i*6+j]?).getD .any) (Nat.zero_le _) h (fun i x hx=>?_) (fun i x hx j y hy=>?_)
 ·rw [Qzp,Qzm] at hx
  obtain ⟨c,hc,rfl⟩:=hx
  rw [Qzp,Qzm] at hc
  obtain ⟨z,hz,rfl⟩:=hc
  obtain ⟨hi,rfl⟩:=Qzs.1 hz
  have hi':i<(Y++Z).length:=by rw [List.length_append];omega
  refine ⟨rfl,fun j y hy=>?_⟩
  have hj:j<6:=(Qzs.1 hy).1
  refine ⟨?_,?_⟩
  ·match j,hj,hy with
   | 0,_,hy=>simp [AV.cells] at hy;subst hy;rfl
   | 1,_,hy=>simp [AV.cells] at hy;subst hy;rfl
   | 2,_,hy=>simp [AV.cells] at hy;subst hy;rfl
   | 3,_,hy=>simp [AV.cells] at hy;subst hy;rfl
   | 4,_,hy=>simp [AV.cells] at hy;subst hy;rfl
   | 5,_,hy=>simp [AV.cells] at hy;subst hy;rfl
  ·rw [Nat.zero_add,Ya6 (Y++Z) hi' hj]
   match j,hj with
   | 0,_=>rfl
   | 1,_=>rfl
   | 2,_=>rfl
   | 3,_=>rfl
   | 4,_=>rfl
   | 5,_=>rfl
 ·rw [Qzp,Qzm] at hx
  obtain ⟨c,hc,rfl⟩:=hx
  rw [Qzp,Qzm] at hc
  obtain ⟨z,hz,rfl⟩:=hc
  obtain ⟨hi,rfl⟩:=Qzs.1 hz
  have hi':i<(Y++Z).length:=by rw [List.length_append];omega
  have hj:j<6:=(Qzs.1 hy).1
  have hwz:=hw _ (List.getElem_mem hi)
  rw [Ya6 (Y++Z) hi' hj]
  simp only [List.getElem_append_left hi]
  match j,hj,hy with
  | 0,_,hy=>simp [AV.cells] at hy;subst hy;exact .int _ _
  | 1,_,hy=>simp [AV.cells] at hy;subst hy;exact .int _ _
  | 2,_,hy=>simp [AV.cells] at hy;subst hy;exact .bool _
  | 3,_,hy=>simp [AV.cells] at hy;subst hy;exact .bool _
  | 4,_,hy=>simp [AV.cells] at hy;subst hy;exact hwz.1
  | 5,_,hy=>simp [AV.cells] at hy;subst hy;exact hwz.2
theorem Rows.fz {lo:Nat} {τ:Za} {k:Nat} {va vb:AV} {F:List Oyez.Rec} {L:List Oyez.Chg} (h:Rows lo τ k va vb F L) (hk:38≤k):∃ q,vb=.arr 6 q 0 (2*k)∧(∃ cs,τ[q]? = some (.cells cs)∧cs.length=2*k*6)∧∀ X:Za,Fz 0 (τ++X) va (Xa F)∧Fz 0 (τ++X) vb (Wb L)∧Fz 0 (τ++X) (.arr 6 q 0 2) (Wb (L.take 2)):=by
 obtain ⟨fk,lk,hab,fw,lw⟩:=h
 rcases hab with ⟨_,_,h0⟩ | ⟨p,q,rfl,rfl,_,_,_,hc,hd⟩
 ·omega
 ·refine ⟨q,rfl,⟨_,hd,by rw [Xbw];simp [lk]⟩,fun X=>⟨?_,?_,?_⟩⟩
  ·have:=Ya9 (τ:=τ++X) (q:=p) (F.map fun r=>(r,AV.nils)) (Vf hc) (fun y hy=>by
    obtain ⟨r,hr,rfl⟩:=List.mem_map.1 hy
    exact ⟨rfl,by rw [show ((r,AV.nils):Oyez.Rec × AV).1.words=[] from fw r hr];exact .nils_pl 1⟩)
   simpa [fk,Function.comp_def] using this
  ·have:=Vbn (τ:=τ++X) (q:=q) (L.map fun c=>(c,AV.nils,AV.nils)) (Vf hd) (fun y hy=>by
    obtain ⟨c,hc,rfl⟩:=List.mem_map.1 hy
    have:=lw c hc
    simp only [this.1,this.2]
    exact ⟨.nils_pl 1,.nils_pl 1⟩)
   simpa [lk,Function.comp_def] using this
  ·have:=Wdg (τ:=τ++X) (q:=q) ((L.take 2).map fun c=>(c,AV.nils,AV.nils)) ((L.drop 2).map fun c=>(c,AV.nils,AV.nils)) (by rw [← List.map_append,List.take_append_drop];exact Vf hd) (fun y hy=>by
    obtain ⟨c,hc,rfl⟩:=List.mem_map.1 hy
    have:=lw c (List.mem_of_mem_take hc)
    simp only [this.1,this.2]
    exact ⟨.nils_pl 1,.nils_pl 1⟩)
   rw [List.length_map,List.length_take,show min 2 L.length=2 by omega] at this
   simpa [Function.comp_def] using this
theorem Rows.ok {lo:Nat} {τ:Za} {k:Nat} {va vb:AV} {F:List Oyez.Rec} {L:List Oyez.Chg} (h:Rows lo τ k va vb F L) (hk:k≤41):okF F∧okC L∧okC (L.take 2):=by
 obtain ⟨fk,lk,_,fw,lw⟩:=h
 refine ⟨⟨by omega,fun r hr=>by rw [fw r hr];simp⟩,⟨by omega,fun c hc=>by rw [(lw c hc).1,(lw c hc).2];simp⟩,by rw [List.length_take];omega,fun c hc=>by rw [(lw c (List.mem_of_mem_take hc)).1,(lw c (List.mem_of_mem_take hc)).2];simp⟩
theorem Wdm {τ:Za} {q:Nat} {b:Bool} (h:τ[q]? = some (.cells [.bool b])):Fz 0 τ (.arr 1 q 0 1) (Uj [b]):=by
 refine Fz.arr 1 q 0 [.bool b] [.bool b] (fun _ _=>.bool b) (Nat.zero_le _) h (fun i x hx=>?_) (fun i x hx j y hy=>?_)
 ·match i,hx with
  | 0,hx =>
   simp at hx;subst hx
   refine ⟨rfl,fun j y hy=>?_⟩
   match j,hy with
   | 0,hy=>simp [AV.cells] at hy;subst hy;exact ⟨rfl,rfl⟩
 ·match i,hx with
  | 0,hx =>
   simp at hx;subst hx
   match j,hy with
   | 0,hy=>simp [AV.cells] at hy;subst hy;exact .bool _
set_option maxHeartbeats 40000000 in
theorem Wd1:APure Tryz.prog 15 [] (.bool true):=by
 refine APure.of fun σ=>?_
 suffices hh:∀ Post:AV→Za→Prop,(∀ g,Post (.bool true) (σ++g))→ACalls Tryz.prog 15 [] σ Post from hh _ fun g=>⟨g,rfl,.bool _⟩
 intro Post hPost
 refine Ua Tryz.func15 rfl (Wa Tryz.func15 (by decide) rfl) ?_
 simp [-Yf,Tryz.ntmps15]
 rw [Yf]
 simp [-Yf]
 rw [Yf]
 refine Xn (fun env s=>∃ u g,env={ t:=u }∧u.length=427∧s=σ++g) ?_ ?_
 ·rw [Yf]
  simp
  obtain ⟨V,hV,hVl⟩:∃ V:List Int,V.map (AV.int .i64)=[AV.int .i64 (-1),.int .i64 0,.int .i64 1,.int .i64 2,.int .i64 3,.int .i64 4,.int .i64 5,.int .i64 11,.int .i64 12,.int .i64 13,.int .i64 998,.int .i64 999,.int .i64 1000,.int .i64 9223372036854775807,.int .i64 (-9223372036854775808)]∧V.length=15:=⟨[-1,0,1,2,3,4,5,11,12,13,998,999,1000,9223372036854775807,-9223372036854775808],rfl,rfl⟩
  rw [← hV]
  refine Yc (fun env σ'=>∃ (u:List AV) (i:Nat) (g:Za),env={ t:=u }∧u.length=427∧tg u 35=.arr 1 σ.length 0 15∧tg u 36=.int .i64 15∧tg u 37=.int .i64 i∧σ'=σ++(AObj.cells (V.map (AV.int .i64))::g)∧i≤15)
   (fun env _=>match tg env.t 37 with | .int _ i=>15 - i.toNat | _=>0) ⟨_,0,[],rfl,by simp,by simp,by simp,by simp,by simp,by omega⟩ ?_
  rintro env _ ⟨u,i,g,rfl,hl,g35,g36,g37,rfl,hi⟩
  rcases Qzn i 15 with hlt | hge
  ·have hlt':(i:Int)<15:=by omega
   have hx:=w64 (n:=(i:Int)+1) (by omega) (by omega)
   have hle:i≤14:=by omega
   obtain ⟨v,hv⟩:∃ v,V[i]'(by omega)=v:=⟨_,rfl⟩
   have hVi:(V.map (AV.int .i64))[i]? = some (.int .i64 v):=by rw [Qzp,Qze (by omega),hv];rfl
   simp [hl,g35,g36,g37,hlt',hlt,hle,hVl,hv]
   clear hVi
   refine Yc (fun env σ'=>∃ (u:List AV) (j:Nat),env={ t:=u }∧u.length=427∧tg u 35=.arr 1 σ.length 0 15∧tg u 36=.int .i64 15∧tg u 37=.int .i64 i∧tg u 2=.int .i64 v∧tg u 41=.int .i64 j∧j≤8∧∃ g,σ'=σ++(AObj.cells (V.map (AV.int .i64))::g))
    (fun env _=>match tg env.t 41 with | .int _ i=>8 - i.toNat | _=>0) ⟨_,0,rfl,by simp [hl],by simp [hl,g35],by simp [hl,g36],by simp [hl,g37],by simp [hl],by simp [hl],by omega,g,rfl⟩ ?_
   clear hv hl g35 g36 g37 g u
   rintro env τ ⟨u,j,rfl,hl,g35,g36,g37,g2,g41,hj,g,hτ⟩
   rcases Qzn j 8 with hjl | hjg
   ·have hjl':(j:Int)<8:=by omega
    have hxj:=w64 (n:=(j:Int)+1) (by omega) (by omega)
    simp [hl,g35,g36,g37,g2,g41,hjl',hjl]
    refine StA.of ((Wdq _).mono ?_)
    rintro _ _ ⟨rfl,rfl⟩
    simp [-Yf,strs,hl,g35,g36,g37,g2,g41,hjl',hjl,Nat.add_assoc]
    refine Xeq (fun env s=>∃ (u:List AV) (x14 x15:AV) (Y:Za),env={ t:=u }∧u.length=427∧tg u 35=.arr 1 σ.length 0 15∧tg u 36=.int .i64 15∧tg u 37=.int .i64 i∧tg u 2=.int .i64 v∧tg u 41=.int .i64 j∧tg u 3=.int .i64 j∧tg u 4=.arr 3 (τ.length+1) 0 2∧tg u 5=.ptr (τ.length+3) 0∧tg u 6=.ptr (τ.length+4) 0∧tg u 7=.arr 6 (τ.length+6) 0 2 ∧
     tg u 8=.pl 1 [.ptr (τ.length+1) 1,.ptr (τ.length+1) 4,.ptr (τ.length+3) 1,.ptr (τ.length+4) 1,.ptr (τ.length+6) 1,.ptr (τ.length+6) 7,x14,x15]∧(j=6→x14=.ptr (τ.length+7) 0∧Y=[.cells [.int .i64 0]])∧(j=7→x15=.ptr (τ.length+7) 0∧Y=[.cells [.int .i64 0]]) ∧
     s=τ++([.cells [.str [116,105,100,101],.str [97,116],.str [115,105,120]],.cells [.int .i64 1,.int .i64 3,.arr 1 τ.length 0 3,.int .i64 3,.int .i64 12,.nils],.cells [.str [98,97,103]],.cells [.int .i64 2,.int .i64 7,.arr 1 (τ.length+2) 0 1],.cells [.int .i64 3,.int .i64 12],
      .cells [.str [116,105,100,101],.str [97,116],.str [115,105,120]],.cells [.int .i64 1,.int .i64 3,.bool true,.bool false,.arr 1 (τ.length+5) 0 3,.nils,.int .i64 4,.int .i64 9,.bool false,.bool true,.nils,.nils]]++Y)) ?_ ?_
    ·by_cases hj6:j=6
     ·subst hj6
      refine Xaw mixed [14] (fun q=>[.arr 3 (τ.length+1) 0 2,.ptr (τ.length+1) 0,.ptr (τ.length+1) 1,.arr 3 (τ.length+1) 0 2,.ptr (τ.length+1) 3,.ptr (τ.length+1) 4,.ptr (τ.length+3) 1,.ptr (τ.length+4) 1,.arr 6 (τ.length+6) 0 2,.ptr (τ.length+6) 0,.ptr (τ.length+6) 1,.arr 6 (τ.length+6) 0 2,.ptr (τ.length+6) 6,.ptr (τ.length+6) 7,.ptr (τ.length+7) 0,.un,.pl 1 [.ptr (τ.length+1) 1,.ptr (τ.length+1) 4,.ptr (τ.length+3) 1,.ptr (τ.length+4) 1,.ptr (τ.length+6) 1,.ptr (τ.length+6) 7,.ptr (τ.length+7) 0,.un],.pl 1 [.ptr (τ.length+1) 1,.ptr (τ.length+1) 4,.ptr (τ.length+3) 1,.ptr (τ.length+4) 1,.ptr (τ.length+6) 1,.ptr (τ.length+6) 7,.ptr (τ.length+7) 0,.un]].getD q .any) (fun m=>if m=0 then (τ++[AObj.cells [.str [116,105,100,101],.str [97,116],.str [115,105,120]],.cells [.int .i64 1,.int .i64 3,.arr 1 τ.length 0 3,.int .i64 3,.int .i64 12,.nils],.cells [.str [98,97,103]],.cells [.int .i64 2,.int .i64 7,.arr 1 (τ.length+2) 0 1],.cells [.int .i64 3,.int .i64 12],.cells [.str [116,105,100,101],.str [97,116],.str [115,105,120]],.cells [.int .i64 1,.int .i64 3,.bool true,.bool false,.arr 1 (τ.length+5) 0 3,.nils,.int .i64 4,.int .i64 9,.bool false,.bool true,.nils,.nils]]) else (τ++[AObj.cells [.str [116,105,100,101],.str [97,116],.str [115,105,120]],.cells [.int .i64 1,.int .i64 3,.arr 1 τ.length 0 3,.int .i64 3,.int .i64 12,.nils],.cells [.str [98,97,103]],.cells [.int .i64 2,.int .i64 7,.arr 1 (τ.length+2) 0 1],.cells [.int .i64 3,.int .i64 12],.cells [.str [116,105,100,101],.str [97,116],.str [115,105,120]],.cells [.int .i64 1,.int .i64 3,.bool true,.bool false,.arr 1 (τ.length+5) 0 3,.nils,.int .i64 4,.int .i64 9,.bool false,.bool true,.nils,.nils]])++[.cells [.int .i64 0]]) (by kernel_rfl) ⟨rfl,fun q o ho hqH=>.inl ?_,fun p q o hp ho=>?_⟩ ?_
      ·have hq:q<18:=by have:=(Qzs.1 ho).1;simpa using this
       have hqc:q=0∨q=1∨q=2∨q=3∨q=4∨q=5∨q=6∨q=7∨q=8∨q=9∨q=10∨q=11∨q=12∨q=13∨q=14∨q=15∨q=16∨q=17:=by omega
       rcases hqc with rfl | rfl | rfl | rfl | rfl | rfl | rfl | rfl | rfl | rfl | rfl | rfl | rfl | rfl | rfl | rfl | rfl | rfl
       case inr.inr.inr.inr.inr.inr.inr.inr.inr.inr.inr.inr.inr.inr.inl=>simp at ho;subst ho;simp at hqH
       case inr.inr.inr.inr.inr.inr.inr.inr.inr.inr.inr.inr.inr.inr.inr.inl=>simp at ho;subst ho;exact ⟨by simp [Zf],.inl (Lit.alloc (z:=.int .i64 0) (by simp) (by simp) (by simp))⟩
       case inr.inr.inr.inr.inr.inr.inr.inr.inr.inr.inr.inr.inr.inr.inr.inr.inl=>simp at ho;subst ho;exact ⟨by simp [Zf],.inl (Lit.of (by simp [Yb,tr,hl]))⟩
       all_goals (simp at ho;subst ho;exact ⟨by simp [Zf],.inr fun m hm _=>by rcases (show m=0∨m=1 by simp at hm;omega) with rfl | rfl<;>simp [Yb,tr,hl,g35,g36,g37,g2,g41,Nat.add_assoc]⟩)
      ·obtain rfl:p=0:=by have:=(Qzs.1 hp).1;simp at this;omega
       simp at hp
       subst hp
       simp at ho
       subst ho
       exact .inl ⟨by simp [Zf],by simp [Yb,tr,hl,Nat.add_assoc]⟩
      ·simp [Yb,tr,hl,g35,g36,g37,g2,g41,Nat.add_assoc]
     by_cases hj7:j=7
     ·subst hj7
      refine Xaw mixed [15] (fun q=>[.arr 3 (τ.length+1) 0 2,.ptr (τ.length+1) 0,.ptr (τ.length+1) 1,.arr 3 (τ.length+1) 0 2,.ptr (τ.length+1) 3,.ptr (τ.length+1) 4,.ptr (τ.length+3) 1,.ptr (τ.length+4) 1,.arr 6 (τ.length+6) 0 2,.ptr (τ.length+6) 0,.ptr (τ.length+6) 1,.arr 6 (τ.length+6) 0 2,.ptr (τ.length+6) 6,.ptr (τ.length+6) 7,.un,.ptr (τ.length+7) 0,.pl 1 [.ptr (τ.length+1) 1,.ptr (τ.length+1) 4,.ptr (τ.length+3) 1,.ptr (τ.length+4) 1,.ptr (τ.length+6) 1,.ptr (τ.length+6) 7,.un,.ptr (τ.length+7) 0],.pl 1 [.ptr (τ.length+1) 1,.ptr (τ.length+1) 4,.ptr (τ.length+3) 1,.ptr (τ.length+4) 1,.ptr (τ.length+6) 1,.ptr (τ.length+6) 7,.un,.ptr (τ.length+7) 0]].getD q .any) (fun m=>if m=0 then (τ++[AObj.cells [.str [116,105,100,101],.str [97,116],.str [115,105,120]],.cells [.int .i64 1,.int .i64 3,.arr 1 τ.length 0 3,.int .i64 3,.int .i64 12,.nils],.cells [.str [98,97,103]],.cells [.int .i64 2,.int .i64 7,.arr 1 (τ.length+2) 0 1],.cells [.int .i64 3,.int .i64 12],.cells [.str [116,105,100,101],.str [97,116],.str [115,105,120]],.cells [.int .i64 1,.int .i64 3,.bool true,.bool false,.arr 1 (τ.length+5) 0 3,.nils,.int .i64 4,.int .i64 9,.bool false,.bool true,.nils,.nils]]) else (τ++[AObj.cells [.str [116,105,100,101],.str [97,116],.str [115,105,120]],.cells [.int .i64 1,.int .i64 3,.arr 1 τ.length 0 3,.int .i64 3,.int .i64 12,.nils],.cells [.str [98,97,103]],.cells [.int .i64 2,.int .i64 7,.arr 1 (τ.length+2) 0 1],.cells [.int .i64 3,.int .i64 12],.cells [.str [116,105,100,101],.str [97,116],.str [115,105,120]],.cells [.int .i64 1,.int .i64 3,.bool true,.bool false,.arr 1 (τ.length+5) 0 3,.nils,.int .i64 4,.int .i64 9,.bool false,.bool true,.nils,.nils]])++[.cells [.int .i64 0]]) (by kernel_rfl) ⟨rfl,fun q o ho hqH=>.inl ?_,fun p q o hp ho=>?_⟩ ?_
      ·have hq:q<18:=by have:=(Qzs.1 ho).1;simpa using this
       have hqc:q=0∨q=1∨q=2∨q=3∨q=4∨q=5∨q=6∨q=7∨q=8∨q=9∨q=10∨q=11∨q=12∨q=13∨q=14∨q=15∨q=16∨q=17:=by omega
       rcases hqc with rfl | rfl | rfl | rfl | rfl | rfl | rfl | rfl | rfl | rfl | rfl | rfl | rfl | rfl | rfl | rfl | rfl | rfl
       case inr.inr.inr.inr.inr.inr.inr.inr.inr.inr.inr.inr.inr.inr.inl=>simp at ho;subst ho;exact ⟨by simp [Zf],.inl (Lit.alloc (z:=.int .i64 0) (by simp) (by simp) (by simp))⟩
       case inr.inr.inr.inr.inr.inr.inr.inr.inr.inr.inr.inr.inr.inr.inr.inl=>simp at ho;subst ho;simp at hqH
       case inr.inr.inr.inr.inr.inr.inr.inr.inr.inr.inr.inr.inr.inr.inr.inr.inl=>simp at ho;subst ho;exact ⟨by simp [Zf],.inl (Lit.of (by simp [Yb,tr,hl]))⟩
       all_goals (simp at ho;subst ho;exact ⟨by simp [Zf],.inr fun m hm _=>by rcases (show m=0∨m=1 by simp at hm;omega) with rfl | rfl<;>simp [Yb,tr,hl,g35,g36,g37,g2,g41,Nat.add_assoc]⟩)
      ·obtain rfl:p=0:=by have:=(Qzs.1 hp).1;simp at this;omega
       simp at hp
       subst hp
       simp at ho
       subst ho
       exact .inl ⟨by simp [Zf],by simp [Yb,tr,hl,Nat.add_assoc]⟩
      ·simp [Yb,tr,hl,g35,g36,g37,g2,g41,Nat.add_assoc]
     ·skip
      refine Xaw mixed [] (fun q=>[.arr 3 (τ.length+1) 0 2,.ptr (τ.length+1) 0,.ptr (τ.length+1) 1,.arr 3 (τ.length+1) 0 2,.ptr (τ.length+1) 3,.ptr (τ.length+1) 4,.ptr (τ.length+3) 1,.ptr (τ.length+4) 1,.arr 6 (τ.length+6) 0 2,.ptr (τ.length+6) 0,.ptr (τ.length+6) 1,.arr 6 (τ.length+6) 0 2,.ptr (τ.length+6) 6,.ptr (τ.length+6) 7,.un,.un,.pl 1 [.ptr (τ.length+1) 1,.ptr (τ.length+1) 4,.ptr (τ.length+3) 1,.ptr (τ.length+4) 1,.ptr (τ.length+6) 1,.ptr (τ.length+6) 7,.un,.un],.pl 1 [.ptr (τ.length+1) 1,.ptr (τ.length+1) 4,.ptr (τ.length+3) 1,.ptr (τ.length+4) 1,.ptr (τ.length+6) 1,.ptr (τ.length+6) 7,.un,.un]].getD q .any) (fun m=>_) (by kernel_rfl) ⟨rfl,fun q o ho hqH=>.inl ?_,fun p q o hp _=>by simp at hp⟩ ?_
      ·have hq:q<18:=by have:=(Qzs.1 ho).1;simpa using this
       have hqc:q=0∨q=1∨q=2∨q=3∨q=4∨q=5∨q=6∨q=7∨q=8∨q=9∨q=10∨q=11∨q=12∨q=13∨q=14∨q=15∨q=16∨q=17:=by omega
       rcases hqc with rfl | rfl | rfl | rfl | rfl | rfl | rfl | rfl | rfl | rfl | rfl | rfl | rfl | rfl | rfl | rfl | rfl | rfl
       case inr.inr.inr.inr.inr.inr.inr.inr.inr.inr.inr.inr.inr.inr.inl=>simp at ho;subst ho;exact ⟨by simp [Zf],.inl (Lit.alloc (z:=.int .i64 0) (by simp) (by simp) (by simp))⟩
       case inr.inr.inr.inr.inr.inr.inr.inr.inr.inr.inr.inr.inr.inr.inr.inl=>simp at ho;subst ho;exact ⟨by simp [Zf],.inl (Lit.alloc (z:=.int .i64 0) (by simp) (by simp) (by simp))⟩
       case inr.inr.inr.inr.inr.inr.inr.inr.inr.inr.inr.inr.inr.inr.inr.inr.inl=>simp at ho;subst ho;exact ⟨by simp [Zf],.inl (Lit.of (by simp [Yb,tr,hl]))⟩
       all_goals (simp at ho;subst ho;exact ⟨by simp [Zf],.inr fun m hm _=>by simp [Yb,tr,hl,g35,g36,g37,g2,g41,Nat.add_assoc]⟩)
      ·simp [Yb,tr,hl,g35,g36,g37,g2,g41,Nat.add_assoc]
       exact ⟨hj6,hj7⟩
    ·rintro env s ⟨u,x14,x15,Y,rfl,hl,g35,g36,g37,g2,g41,g3,g4,g5,g6,g7,g8,hY6,hY7,rfl⟩
     rw [Yf]
     refine Xn (fun env s=>∃ (u:List AV) (a0 a1 a2 b0 b1 c0 c1 d0 d1 d2:Int) (Y:Za),env={ t:=u }∧u.length=427∧tg u 35=.arr 1 σ.length 0 15∧tg u 36=.int .i64 15∧tg u 37=.int .i64 i∧tg u 2=.int .i64 v∧tg u 41=.int .i64 j∧tg u 4=.arr 3 (τ.length+1) 0 2∧tg u 5=.ptr (τ.length+3) 0∧tg u 6=.ptr (τ.length+4) 0∧tg u 7=.arr 6 (τ.length+6) 0 2 ∧
      s=τ++([.cells [.str [116,105,100,101],.str [97,116],.str [115,105,120]],.cells [.int .i64 1,.int .i64 a0,.arr 1 τ.length 0 3,.int .i64 a1,.int .i64 a2,.nils],.cells [.str [98,97,103]],.cells [.int .i64 b0,.int .i64 b1,.arr 1 (τ.length+2) 0 1],.cells [.int .i64 c0,.int .i64 c1],
       .cells [.str [116,105,100,101],.str [97,116],.str [115,105,120]],.cells [.int .i64 1,.int .i64 d0,.bool true,.bool false,.arr 1 (τ.length+5) 0 3,.nils,.int .i64 d1,.int .i64 d2,.bool false,.bool true,.nils,.nils]]++Y)) ?_ ?_
     ·have hj8:j=0∨j=1∨j=2∨j=3∨j=4∨j=5∨j=6∨j=7:=by omega
      rcases hj8 with rfl | rfl | rfl | rfl | rfl | rfl | rfl | rfl
      case inr.inr.inr.inr.inr.inr.inl =>
       obtain ⟨rfl,rfl⟩:=hY6 rfl
       simp [hl,g35,g36,g37,g2,g41,g3,g4,g5,g6,g7,g8,Nat.add_assoc]
      case inr.inr.inr.inr.inr.inr.inr =>
       obtain ⟨rfl,rfl⟩:=hY7 rfl
       simp [hl,g35,g36,g37,g2,g41,g3,g4,g5,g6,g7,g8,Nat.add_assoc]
      all_goals simp [hl,g35,g36,g37,g2,g41,g3,g4,g5,g6,g7,g8,Nat.add_assoc]
     ·clear hl g35 g36 g37 g2 g41 g3 g4 g5 g6 g7 g8 hY6 hY7 x14 x15 Y u
      rintro env s ⟨u,a0,a1,a2,b0,b1,c0,c1,d0,d1,d2,Y,rfl,hl,g35,g36,g37,g2,g41,g4,g5,g6,g7,rfl⟩
      have hT:∀ X:Za,∃ Z:Za,(τ++([.cells [.str [116,105,100,101],.str [97,116],.str [115,105,120]],.cells [.int .i64 1,.int .i64 a0,.arr 1 τ.length 0 3,.int .i64 a1,.int .i64 a2,.nils],.cells [.str [98,97,103]],.cells [.int .i64 b0,.int .i64 b1,.arr 1 (τ.length+2) 0 1],.cells [.int .i64 c0,.int .i64 c1],
       .cells [.str [116,105,100,101],.str [97,116],.str [115,105,120]],.cells [.int .i64 1,.int .i64 d0,.bool true,.bool false,.arr 1 (τ.length+5) 0 3,.nils,.int .i64 d1,.int .i64 d2,.bool false,.bool true,.nils,.nils]]++Y))++X=Z ∧
       Z[τ.length]? = some (.cells (strs [[116,105,100,101],[97,116],[115,105,120]]))∧Z[τ.length+1]? = some (.cells [.int .i64 1,.int .i64 a0,.arr 1 τ.length 0 3,.int .i64 a1,.int .i64 a2,.nils])∧Z[τ.length+2]? = some (.cells (strs [[98,97,103]]))∧Z[τ.length+3]? = some (.cells [.int .i64 b0,.int .i64 b1,.arr 1 (τ.length+2) 0 1])∧Z[τ.length+4]? = some (.cells [.int .i64 c0,.int .i64 c1]) ∧
       Z[τ.length+5]? = some (.cells (strs [[116,105,100,101],[97,116],[115,105,120]]))∧Z[τ.length+6]? = some (.cells [.int .i64 1,.int .i64 d0,.bool true,.bool false,.arr 1 (τ.length+5) 0 3,.nils,.int .i64 d1,.int .i64 d2,.bool false,.bool true,.nils,.nils]):=fun X=>⟨_,rfl,by simp [strs],by simp,by simp [strs],by simp,by simp,by simp [strs],by simp⟩
      have hpre:∃ g,τ++([AObj.cells [.str [116,105,100,101],.str [97,116],.str [115,105,120]],.cells [.int .i64 1,.int .i64 a0,.arr 1 τ.length 0 3,.int .i64 a1,.int .i64 a2,.nils],.cells [.str [98,97,103]],.cells [.int .i64 b0,.int .i64 b1,.arr 1 (τ.length+2) 0 1],.cells [.int .i64 c0,.int .i64 c1],
       .cells [.str [116,105,100,101],.str [97,116],.str [115,105,120]],.cells [.int .i64 1,.int .i64 d0,.bool true,.bool false,.arr 1 (τ.length+5) 0 3,.nils,.int .i64 d1,.int .i64 d2,.bool false,.bool true,.nils,.nils]]++Y)=σ++(AObj.cells (V.map (AV.int .i64))::g):=⟨_,by rw [hτ,List.append_assoc];rfl⟩
      obtain ⟨s0,hs0⟩:∃ s0,τ++([AObj.cells [.str [116,105,100,101],.str [97,116],.str [115,105,120]],.cells [.int .i64 1,.int .i64 a0,.arr 1 τ.length 0 3,.int .i64 a1,.int .i64 a2,.nils],.cells [.str [98,97,103]],.cells [.int .i64 b0,.int .i64 b1,.arr 1 (τ.length+2) 0 1],.cells [.int .i64 c0,.int .i64 c1],
       .cells [.str [116,105,100,101],.str [97,116],.str [115,105,120]],.cells [.int .i64 1,.int .i64 d0,.bool true,.bool false,.arr 1 (τ.length+5) 0 3,.nils,.int .i64 d1,.int .i64 d2,.bool false,.bool true,.nils,.nils]]++Y)=s0:=⟨_,rfl⟩
      rw [hs0] at hpre ⊢
      simp only [hs0] at hT
      clear hs0
      have fz:∀ X:Za,Fz 0 (s0++X) (.arr 3 (τ.length+1) 0 2) (Xa [⟨1,a0,[[116,105,100,101],[97,116],[115,105,120]]⟩,⟨a1,a2,[]⟩])∧Fz 0 (s0++X) (.arr 1 (τ.length+2) 0 1) (Zb [[98,97,103]])∧Fz 0 (s0++X) (.arr 6 (τ.length+6) 0 2) (Wb [⟨1,d0,true,false,[[116,105,100,101],[97,116],[115,105,120]],[]⟩,⟨d1,d2,false,true,[],[]⟩]):=by
       intro X
       obtain ⟨Z,rfl,t0,t1,t2,t3,t4,t5,t6⟩:=hT X
       refine ⟨Ya9 [(⟨1,a0,[[116,105,100,101],[97,116],[115,105,120]]⟩,.arr 1 τ.length 0 3),(⟨a1,a2,[]⟩,.nils)] t1 ?_,Uu [[98,97,103]] t2,Vbn [(⟨1,d0,true,false,[[116,105,100,101],[97,116],[115,105,120]],[]⟩,.arr 1 (τ.length+5) 0 3,.nils),(⟨d1,d2,false,true,[],[]⟩,.nils,.nils)] t6 ?_⟩
       ·simp only [List.mem_cons,List.not_mem_nil,or_false]
        rintro y (rfl | rfl)
        ·exact ⟨rfl,Uu [[116,105,100,101],[97,116],[115,105,120]] t0⟩
        ·exact ⟨rfl,.nils_pl 1⟩
       ·simp only [List.mem_cons,List.not_mem_nil,or_false]
        rintro y (rfl | rfl)
        ·exact ⟨Uu [[116,105,100,101],[97,116],[115,105,120]] t5,.nils_pl 1⟩
        ·exact ⟨.nils_pl 1,.nils_pl 1⟩
      obtain ⟨Z0,hZ0,_,_,_,t3,t4,_,_⟩:=hT []
      rw [List.append_nil] at hZ0
      subst hZ0
      have fz0:=fz []
      rw [List.append_nil] at fz0
      obtain ⟨fF,fW,fC⟩:=fz0
      obtain ⟨fF1,fW1,_⟩:=fz [.cells [.int .i64 b0,.int .i64 b1,.arr 1 (τ.length+2) 0 1]]
      have oF:okF [⟨1,a0,[[116,105,100,101],[97,116],[115,105,120]]⟩,⟨a1,a2,[]⟩]:=⟨by simp,by simp⟩
      have oC:okC [⟨1,d0,true,false,[[116,105,100,101],[97,116],[115,105,120]],[]⟩,⟨d1,d2,false,true,[],[]⟩]:=⟨by simp,by simp⟩
      have oT:okF Xaa:=⟨by decide,by decide⟩
      have oB:okF [⟨b0,b1,[[98,97,103]]⟩]:=⟨by simp,by simp⟩
      have fR:Fz 0 s0 (.agg [.int .i64 b0,.int .i64 b1,.arr 1 (τ.length+2) 0 1]) (Yd ⟨b0,b1,[[98,97,103]]⟩):=Fz.agg_iff.2 (FzL.cons_iff.2 ⟨.int _ _,FzL.cons_iff.2 ⟨.int _ _,FzL.cons_iff.2 ⟨fW,FzL.nil_iff.2 trivial⟩⟩⟩)
      have fB1:Fz 0 (s0++[.cells [.int .i64 b0,.int .i64 b1,.arr 1 (τ.length+2) 0 1]]) (.arr 3 s0.length 0 1) (Xa [⟨b0,b1,[[98,97,103]]⟩]):=Ya9 [(⟨b0,b1,[[98,97,103]]⟩,.arr 1 (τ.length+2) 0 1)] (by simp [We,pvY];rfl) (by simp only [List.mem_singleton];rintro y rfl;exact ⟨rfl,fW1⟩)
      simp [hl,g35,g36,g37,g2,g41,g4,g5,g6,g7,t3,t4]
      refine Ub8 [22] [(19,1),(20,1)] mixed (by kernel_rfl) (by kernel_rfl) ?_
      simp [hl,g35,g36,g37,g2,g41,g4,g5,g6,g7,t3,t4]
      refine Zai (Uat fF fR oF (by simp)) ?_
      simp [hl,g35,g36,g37,g2,g41,g4,g5,g6,g7,t3,t4]
      refine Vd two_calls ?_
      simp [hl,g35,g36,g37,g2,g41,g4,g5,g6,g7,t3,t4]
      refine Zai (Vau fF (Vag 0 s0 Xaa) fC oF oT oC) ?_
      simp [hl,g35,g36,g37,g2,g41,g4,g5,g6,g7,t3,t4]
      refine Zai (Ya8 fC fC oC oC) ?_
      simp [hl,g35,g36,g37,g2,g41,g4,g5,g6,g7,t3,t4]
      refine Vd two_calls ?_
      simp [hl,g35,g36,g37,g2,g41,g4,g5,g6,g7,t3,t4]
      refine Zai (Za3 (l:=[true]) (Vag 0 _ Xaa) fF1 fB1 (Xdr 0 _ [true]) oT oF oB (by simp)) ?_
      simp [hl,g35,g36,g37,g2,g41,g4,g5,g6,g7,t3,t4]
      obtain ⟨g1,hg1⟩:=hpre
      exact ⟨StA.of (two_calls _),⟨j+1,by rw [hxj];rfl,by omega,_,by rw [hg1,List.append_assoc];rfl⟩,by rw [hxj];omega⟩
   ·obtain rfl:j=8:=by omega
    simp [hl,g35,g36,g37,g2,g41,hx]
    exact ⟨⟨i+1,by simp,⟨g,hτ⟩,by omega⟩,by omega⟩
  ·obtain rfl:i=15:=by omega
   simp [hl,g35,g36,g37]
 ·rintro env s ⟨u,g,rfl,hl,hs⟩
  rw [Yf]
  simp [-Yf,hl]
  rw [Yf]
  refine Xn (fun env s=>∃ u g,env={ t:=u }∧u.length=427∧s=σ++g) ?_ ?_
  ·rw [Yf]
   simp [-Yf,hl]
   refine Yc (fun env σ'=>∃ (u:List AV) (i:Nat) (g:Za),env={ t:=u }∧u.length=427∧tg u 9=.arr 1 s.length 0 5∧tg u 123=.int .i64 5∧tg u 124=.int .i64 i∧σ'=s++(AObj.cells (strs noticeW)::g)∧i≤5)
    (fun env _=>match tg env.t 124 with | .int _ i=>5 - i.toNat | _=>0) ⟨_,0,[],rfl,by simp [hl],by simp [hl],by simp [hl],by simp [hl],by simp [strs,noticeW],by omega⟩ ?_
   rintro env _ ⟨u,i,g',rfl,hl,g9,g123,g124,rfl,hi⟩
   rcases Qzn i 5 with hlt | hge
   ·have hlt':(i:Int)<5:=by omega
    have hle:i≤4:=by omega
    have hx:=w64 (n:=(i:Int)+1) (by omega) (by omega)
    obtain ⟨τ,hτ⟩:∃ τ,s++(AObj.cells (strs noticeW)::g')=τ:=⟨_,rfl⟩
    have h9:∀ X:Za,(τ++X)[s.length]? = some (.cells (strs noticeW)):=fun X=>by rw [← hτ];simp
    rw [hτ]
    simp [hl,g9,g123,g124,hlt',hlt]
    refine Yc (fun env σ'=>∃ (u:List AV) (k:Nat) (g:Za),env={ t:=u }∧u.length=427∧tg u 9=.arr 1 s.length 0 5∧tg u 123=.int .i64 5∧tg u 124=.int .i64 i∧tg u 10=.int .i64 i∧tg u 127=.arr 1 τ.length 0 16∧tg u 128=.int .i64 16∧tg u 129=.int .i64 k∧σ'=τ++(AObj.cells (strs oddW)::g)∧k≤16)
     (fun env _=>match tg env.t 129 with | .int _ i=>16 - i.toNat | _=>0) ⟨_,0,[],rfl,by simp [hl],by simp [hl,g9],by simp [hl,g123],by simp [hl,g124],by simp [hl],by simp [hl],by simp [hl],by simp [hl],by simp [strs,oddW],by omega⟩ ?_
    clear hl g9 g123 g124 u
    rintro env _ ⟨u,k,gk,rfl,hl,g9,g123,g124,g10,g127,g128,g129,rfl,hk⟩
    rcases Qzn k 16 with hkl | hkg
    ·have hkl':(k:Int)<16:=by omega
     have hkle:k≤15:=by omega
     have hxk:=w64 (n:=(k:Int)+1) (by omega) (by omega)
     obtain ⟨e,he⟩:∃ e,oddW[k]'(by simp [oddW];omega)=e:=⟨_,rfl⟩
     have hlen:=Vc6 ⟨i,hlt⟩ ⟨k,hkl⟩
     simp only [Fin.getElem_fin,he] at hlen
     have hke:(strs oddW)[k]? = some (.str e):=by simp [strs,Qzp,Qze (show k<oddW.length by simp [oddW];omega),he]
     obtain ⟨S,hS⟩:∃ S,τ++(AObj.cells (strs oddW)::gk)=S:=⟨_,rfl⟩
     have h16:S[τ.length]? = some (.cells (strs oddW)):=by rw [← hS];simp
     have h5:S[s.length]? = some (.cells (strs noticeW)):=by rw [← hS];exact h9 _
     have hol:oddW.length=16:=rfl
     have hok:oddW[k]? = some e:=by rw [Qze (by rw [hol];exact hkl),he]
     have hnl:(strs noticeW).length=5:=by simp [strs,noticeW]
     rw [hS]
     simp [hl,g9,g123,g124,g10,g127,g128,g129,hkl',hkl,h16,hke,hol,hok,he,show k+1≤16 by omega]
     refine StA.of ((Ve0 noticeW (by decide) h5).mono ?_)
     rintro _ _ ⟨rfl,rfl⟩
     have hst:=Zbr AV.str noticeW i e (by simpa [noticeW] using hlt)
     simp [hl,g9,g123,g124,g10,g127,g128,g129,hkl',hkl,hlt,hle,he,hst,-List.map_set,show noticeW.length=5 from rfl]
     have hj:=Vbc (S++[.cells (List.map AV.str (noticeW.set i e))]) S.length (noticeW.set i e) (by simp) (by simp [noticeW]) (by omega)
     rw [show (noticeW.set i e).length=5 by simp [noticeW]] at hj
     refine StA.of (hj.mono ?_)
     rintro _ _ ⟨rfl,rfl⟩
     obtain ⟨T,hT⟩:∃ T,Uh (noticeW.set i e)=T:=⟨_,rfl⟩
     rw [hT] at hlen ⊢
     have t1:T.length≤9223372036854775806:=by omega
     have t2:T.length+20≤9223372036854775807:=by omega
     obtain ⟨S1,hS1⟩:∃ S1,S++[AObj.cells (List.map AV.str (noticeW.set i e))]=S1:=⟨_,rfl⟩
     have hpre:∀ X:Za,∃ g,S1++X=τ++(AObj.cells (strs oddW)::g):=fun X=>by rw [← hS1,← hS];exact ⟨gk++([AObj.cells (List.map AV.str (noticeW.set i e))]++X),by simp⟩
     rw [hS1]
     simp [hl,g9,g123,g124,g10,g127,g128,g129,hkl',hkl,hlt,t1,t2]
     refine (Yx _).use ?_
     simp [hl,show 8+T.length≤9223372036854775807 by omega,show T.length+8≤9223372036854775807 by omega,show T.length+15≤9223372036854775807 by omega,show T.length+7≤9223372036854775799 by omega,show 8+(T.length+7)≤9223372036854775807 by omega,show 8+T.length≤9223372036854775800 by omega,show T.length≤9223372036854775799 by omega,show T.length+8≤9223372036854775800 by omega]
     refine (Yx _).use ?_
     simp [hl]
     refine (Yx _).use ?_
     simp [hl,g9,g123,g124,g10,g127,g128,g129]
     refine StA.of ((Uat (F:=[⟨0,0,[e,[98]]⟩]) (r:=⟨0,0,[e]⟩) (Xa6 (w:=.arr 1 S1.length 0 2) (by simp) rfl (Uu [e,[98]] (by simp [strs]))) (Yay (Uu [e] (by simp [strs]))) ⟨by simp,by simp⟩ (by simp)).mono ?_)
     rintro _ _ ⟨rfl,rfl⟩
     simp [hl,g9,g123,g124,g10,g127,g128,g129]
     refine two_calls.use ?_
     simp [hl,g9,g123,g124,g10,g127,g128,g129]
     refine StA.of ((Vau (F:=[]) (G:=Xaa) (L:=[⟨0,0,false,true,[],[e]⟩]) (.nils_pl 3) (Vag 0 _ Xaa) (Xbb (w:=.nils) (x:=.arr 1 (S1.length+3) 0 1) (by simp) (.nils_pl 1) (Uu [e] (by simp [strs]))) ⟨by simp,by simp⟩ ⟨by decide,by decide⟩ ⟨by simp,by simp⟩).mono ?_)
     rintro _ _ ⟨rfl,rfl⟩
     simp [hl,g9,g123,g124,g10,g127,g128,g129]
     refine StA.of ((Ya8 (L:=[⟨0,0,true,false,[e],[]⟩]) (M:=[]) (Xbb (x:=.nils) (w:=.arr 1 (S1.length+5) 0 1) (by simp) (Uu [e] (by simp [strs])) (.nils_pl 1)) (.nils_pl 6) ⟨by simp,by simp⟩ ⟨by simp,by simp⟩).mono ?_)
     rintro _ _ ⟨rfl,rfl⟩
     simp [hl,g9,g123,g124,g10,g127,g128,g129]
     rw [hxk]
     exact ⟨⟨k+1,by simp,hpre _,by omega⟩,by omega⟩
    ·obtain rfl:k=16:=by omega
     simp [hl,g9,g123,g124,g10,g127,g128,g129,hx]
     exact ⟨⟨i+1,by simp,⟨g'++(AObj.cells (strs oddW)::gk),by rw [← hτ];simp⟩,by omega⟩,by omega⟩
   ·obtain rfl:i=5:=by omega
    simp [hl,g9,g123,g124]
    obtain ⟨g,rfl⟩:=hs
    exact ⟨_,List.append_assoc _ _ _⟩
  clear hl hs u g s
  rintro env s ⟨u,g,rfl,hl,hs⟩
  rw [Yf]
  refine Xn (fun env s=>∃ u g,env={ t:=u }∧u.length=427∧s=σ++g) ?_ ?_
  ·rw [Yf]
   simp [-Yf,hl]
   refine Yc (fun env σ'=>∃ (u:List AV) (i:Nat) (g:Za),env={ t:=u }∧u.length=427∧tg u 186=.int .i64 i∧σ'=σ++g∧i≤9)
    (fun env _=>match tg env.t 186 with | .int _ i=>9 - i.toNat | _=>0) ⟨_,0,g,rfl,by simp [hl],by simp [hl],hs,by omega⟩ ?_
   clear hl hs u g s
   rintro env s ⟨u,i,g',rfl,hl,g186,hs,hi⟩
   rcases Qzn i 9 with hlt | hge
   ·have hlt':(i:Int)<9:=by omega
    have hle:i≤8:=by omega
    have hx:=w64 (n:=(i:Int)+1) (by omega) (by omega)
    have h1:(i:Int)*16≤281474976710656:=by omega
    have h2:(i:Int)≤9223372036854775807:=by omega
    simp [hl,g186,hlt',hlt,h1,h2]
    refine Yc (fun env σ'=>∃ (u:List AV) (k:Nat) (ws:List (List UInt8)) (g:Za),env={ t:=u }∧u.length=427∧tg u 186=.int .i64 i∧tg u 15=.int .i64 i∧tg u 16=.arr 1 s.length 0 i∧tg u 192=.int .i64 i∧tg u 193=.int .i64 k∧σ'=s++[AObj.cells (strs ws)]∧ws.length=i∧(∀ w∈ws,w.length≤20)∧k≤i)
     (fun env _=>match tg env.t 193 with | .int _ k=>i - k.toNat | _=>0) ⟨_,0,List.replicate i [],[],rfl,by simp [hl],by simp [hl,g186],by simp [hl],by simp [hl],by simp [hl],by simp [hl],by simp [strs],by simp,by simp,by omega⟩ ?_
    clear hl g186 u
    rintro env _ ⟨u,k,ws,g,rfl,hl,g186,g15,g16,g192,g193,rfl,hws,hwl,hk⟩
    rcases Qzn k i with hkl | hkg
    ·have hkl':(k:Int)<i:=by omega
     have hxk:=w64 (n:=(k:Int)+1) (by omega) (by omega)
     simp [hl,g186,g15,g16,g192,g193,hkl',hkl]
     obtain ⟨n,hn,hnb⟩:∃ n:Nat,IntKind.i64.wrap (7+(i:Int).tmod 5)=n∧n≤11:=by
      refine ⟨7+i % 5,?_,by omega⟩
      rcases (show i=0∨i=1∨i=2∨i=3∨i=4∨i=5∨i=6∨i=7∨i=8 by omega) with rfl | rfl | rfl | rfl | rfl | rfl | rfl | rfl | rfl<;>rfl
     rw [hn]
     refine (Ych [97] n (by simp;omega) (by omega)).use ?_
     have hst:=Zbr AV.str ws k (Lib.repeatL [97] n) (by omega)
     simp [hl,g186,g15,g16,g192,g193,hkl',hkl,hws,hst,-List.map_set,show k+1≤i by omega]
     rw [hxk]
     refine ⟨⟨k+1,by simp,_,rfl,by simp [hws],fun w hw=>?_,by omega⟩,by omega⟩
     rcases List.mem_or_eq_of_mem_set hw with h | rfl
     ·exact hwl w h
     ·rw [Lib.repeatL_length]
      simp
      omega
    ·obtain rfl:k=i:=by omega
     subst hws
     simp [hl,g186,g15,g16,g192,g193]
     have hjb:=Zc9 ws hwl
     have h8:8+(Uh ws).length≤9223372036854775807:=by omega
     refine StA.of ((Uat (F:=[]) (r:=⟨0,_,ws⟩) (.nils_pl 3) (Yay (Uu ws (by simp [strs]))) ⟨by simp,by simp⟩ (by show ws.length≤1000;omega)).mono ?_)
     rintro _ _ ⟨rfl,rfl⟩
     simp [hl,g186,g15,g16,g192,g193]
     refine StA.of ((Vbc _ s.length ws (by simp) (by omega) (by omega)).mono ?_)
     rintro _ _ ⟨rfl,rfl⟩
     simp [hl,g186,g15,g16,g192,g193,h8,show 8+((Uh ws).length+1)≤9223372036854775807 by omega,show 8+(Uh ws).length+1≤9223372036854775807 by omega,show (Uh ws).length+9≤9223372036854775807 by omega,show (Uh ws).length+8≤9223372036854775806 by omega,show (Uh ws).length+8<9223372036854775807 by omega,show 8+(Uh ws).length<9223372036854775807 by omega,show (Uh ws).length+1+1+1+1+1+1+1+1<9223372036854775807 by omega]
     refine (Yx _).use ?_
     simp [hl,g186,g15,g16,g192,g193]
     refine StA.of ((Vau (F:=[]) (G:=[⟨0,IntKind.i64.wrap (10*(ws.length:Int)),ws⟩]) (L:=[⟨0,5,true,false,ws,[]⟩]) (.nils_pl 3) (Xa6 (w:=.arr 1 s.length 0 ws.length) (by simp) rfl (Uu ws (by simp [strs]))) (Xbb (x:=.nils) (w:=.arr 1 s.length 0 ws.length) (by simp) (Uu ws (by simp [strs])) (.nils_pl 1)) ⟨by simp,by simp⟩ ⟨by simp,by simp;omega⟩ ⟨by simp,by simp;omega⟩).mono ?_)
     rintro _ _ ⟨rfl,rfl⟩
     simp [hl,g186,g15,g16,g192,g193]
     rw [hx]
     exact ⟨⟨ws.length+1,by simp,⟨_,by rw [hs,List.append_assoc]⟩,by omega⟩,by omega⟩
   ·obtain rfl:i=9:=by omega
    simp [hl,g186]
    exact ⟨_,hs⟩
  clear hl hs u g s
  rintro env s ⟨u,g,rfl,hl,hs⟩
  rw [Yf]
  refine Xn (fun env s=>∃ u g,env={ t:=u }∧u.length=427∧s=σ++g) ?_ ?_
  ·rw [Yf]
   simp [-Yf,hl]
   obtain ⟨V,hV,hVl,hVb⟩:∃ V:List Int,V.map (AV.int .i64)=[AV.int .i64 38,.int .i64 39,.int .i64 40,.int .i64 41]∧V.length=4∧∀ x∈V,38≤x∧x≤41:=⟨[38,39,40,41],rfl,rfl,by decide⟩
   rw [← hV]
   refine Yc (fun env σ'=>∃ (u:List AV) (i:Nat) (g:Za),env={ t:=u }∧u.length=427∧tg u 230=.arr 1 s.length 0 4∧tg u 231=.int .i64 4∧tg u 232=.int .i64 i∧σ'=s++(AObj.cells (V.map (AV.int .i64))::g)∧i≤4)
    (fun env _=>match tg env.t 232 with | .int _ i=>4 - i.toNat | _=>0) ⟨_,0,[],rfl,by simp [hl],by simp [hl],by simp [hl],by simp [hl],by simp,by omega⟩ ?_
   rintro env _ ⟨u,i,g',rfl,hl,g230,g231,g232,rfl,hi⟩
   rcases Qzn i 4 with hlt | hge
   ·have hlt':(i:Int)<4:=by omega
    have hle:i≤3:=by omega
    have hx:=w64 (n:=(i:Int)+1) (by omega) (by omega)
    obtain ⟨v,hv⟩:∃ v,V[i]'(by omega)=v:=⟨_,rfl⟩
    have hvb:=hVb v (hv▸List.getElem_mem _)
    have hVi:V[i]? = some v:=by rw [Qze (by omega),hv]
    simp [hl,g230,g231,g232,hlt',hlt,hle,hVl,hv]
    obtain ⟨n,rfl⟩:∃ n:Nat,v=n:=⟨v.toNat,by omega⟩
    have hn:n≤41:=by omega
    clear hv hVi
    obtain ⟨τ,hτ⟩:∃ τ,s++(AObj.cells (V.map (AV.int .i64))::g')=τ:=⟨_,rfl⟩
    rw [hτ]
    have hpre:∀ X,∃ g,τ++X=s++(AObj.cells (V.map (AV.int .i64))::g):=fun X=>⟨g'++X,by rw [← hτ];simp⟩
    refine Yc (fun env σ'=>∃ (u:List AV) (k:Nat) (S:Za) (va vb:AV) (F:List Oyez.Rec) (L:List Oyez.Chg),env={ t:=u }∧u.length=427∧tg u 230=.arr 1 s.length 0 4∧tg u 231=.int .i64 4∧tg u 232=.int .i64 i∧tg u 20=.int .i64 n∧tg u 236=.int .i64 n∧tg u 237=.int .i64 k∧tg u 21=va∧tg u 22=vb∧σ'=τ++S∧k≤n∧Rows τ.length (τ++S) k va vb F L)
     (fun env _=>match tg env.t 237 with | .int _ k=>n - k.toNat | _=>0) ⟨_,0,[],.nils,.nils,[],[],rfl,by simp [hl],by simp [hl,g230],by simp [hl,g231],by simp [hl,g232],by simp [hl],by simp [hl],by simp [hl],by simp [hl],by simp [hl],by simp,by omega,rfl,rfl,.inl ⟨rfl,rfl,rfl⟩,by simp,by simp⟩ ?_
    clear hl g230 g231 g232 u
    rintro env _ ⟨u,k,S,va,vb,F,L,rfl,hl,g230,g231,g232,g20,g236,g237,g21,g22,rfl,hk,hR⟩
    rcases Qzn k n with hkl | hkg
    ·have hkl':(k:Int)<n:=by omega
     have hxk:=w64 (n:=(k:Int)+1) (by omega) (by omega)
     obtain ⟨fk,lk,hab,fw,lw⟩:=hR
     rcases hab with ⟨rfl,rfl,rfl⟩ | ⟨p,q,rfl,rfl,hp,hq,hpq,hc,hd⟩
     ·obtain rfl:=List.length_eq_zero_iff.1 fk
      obtain rfl:=List.length_eq_zero_iff.1 lk
      simp [hl,g230,g231,g232,g20,g236,g237,g21,g22,hkl',hkl]
      rw [show IntKind.i64.wrap 1=1 from rfl,show IntKind.i64.wrap 0=0 from rfl,show IntKind.i64.wrap (0+1)=1 from rfl]
      refine ⟨⟨1,rfl,by omega,[⟨0,0,[]⟩],[⟨2,0,false,true,[],[]⟩,⟨2,1,true,false,[],[]⟩],rfl,rfl,.inr ⟨_,_,rfl,rfl,?_,?_,?_,?_,?_⟩,by simp,by simp⟩,by simp;omega⟩
      ·omega
      ·omega
      ·omega
      ·rw [Wcj];rfl
      ·rw [Wcj];rfl
     ·have hc':∀ X:Za,(τ++(S++X))[p]? = some (.cells (We ((F.map fun r=>(r,AV.nils)).map pvY))):=fun X=>by rw [← List.append_assoc];exact Vf hc
      have hd':∀ X Y:Za,(List.set (τ++(S++X)) p .dead++Y)[q]? = some (.cells (Uo (L.map fun c=>(c,AV.nils,AV.nils)))):=fun X Y=>Vf (by rw [List.getElem?_set_ne hpq,← List.append_assoc];exact Vf hd)
      have hcl:(We ((F.map fun r=>(r,AV.nils)).map pvY)).length=k*3:=by rw [Zt];simp [fk]
      have hdl:(Uo (L.map fun c=>(c,AV.nils,AV.nils))).length=2*k*6:=by rw [Xbw];simp [lk]
      have ha:(k+1)*40≤140737488355328:=by omega
      have hb:(2*k+2)*72≤140737488355328:=by omega
      simp [-List.map_map,hl,g230,g231,g232,g20,g236,g237,g21,g22,hkl',hkl,hc',hd',hcl,hdl,ha,hb]
      have hql:q<τ.length+S.length:=by have:=(Qzs.1 hd).1;simpa using this
      rw [hxk,Us hp,List.append_assoc,Us hq,List.append_assoc]
      refine ⟨⟨k+1,by simp,_,rfl,by omega,F++[⟨0,IntKind.i64.wrap (3*(k:Int)),[]⟩],L++[⟨2,IntKind.i64.wrap (2*(k:Int)),false,true,[],[]⟩,⟨2,IntKind.i64.wrap (IntKind.i64.wrap (2*(k:Int))+1),true,false,[],[]⟩],by simp [fk],by simp [lk];omega,.inr ⟨_,_,rfl,rfl,by omega,by omega,by omega,?_,?_⟩,?_,?_⟩,by omega⟩
      ·rw [(Wb4 (by omega)).1,List.map_append,List.map_append,Vay];rfl
      ·rw [(Wb4 (by omega)).2,List.map_append,Uc3];rfl
      ·intro r hr
       rcases List.mem_append.1 hr with hr | hr
       ·exact fw r hr
       ·rw [List.mem_singleton.1 hr]
      ·intro c hc
       rcases List.mem_append.1 hc with hc | hc
       ·exact lw c hc
       ·simp only [List.mem_cons,List.not_mem_nil,or_false] at hc
        rcases hc with rfl | rfl<;>exact ⟨rfl,rfl⟩
    ·obtain rfl:k=n:=by omega
     simp [hl,g230,g231,g232,g20,g236,g237,g21,g22]
     refine Yc (fun env σ'=>∃ (u:List AV) (j:Nat) (x:List UInt8),env={ t:=u }∧u.length=427∧tg u 230=.arr 1 s.length 0 4∧tg u 231=.int .i64 4∧tg u 232=.int .i64 i∧tg u 257=.int .i64 k∧tg u 258=.int .i64 j∧tg u 21=va∧tg u 22=vb∧tg u 24=.str x∧σ'=τ++S∧x.length≤100*j∧j≤k)
      (fun env _=>match tg env.t 258 with | .int _ j=>k - j.toNat | _=>0) ⟨_,0,[],rfl,by simp [hl],by simp [hl,g230],by simp [hl,g231],by simp [hl,g232],by simp [hl],by simp [hl],by simp [hl,g21],by simp [hl,g22],by simp [hl],rfl,by simp,by omega⟩ ?_
     clear hl g230 g231 g232 g20 g236 g237 g21 g22 u
     rintro env _ ⟨u,j,x,rfl,hl,g230,g231,g232,g257,g258,g21,g22,g24,rfl,hxl,hj⟩
     rcases Qzn j k with hjl | hjg
     ·have hjl':(j:Int)<k:=by omega
      have hxj:=w64 (n:=(j:Int)+1) (by omega) (by omega)
      simp [hl,g230,g231,g232,g257,g258,g21,g22,g24,hjl',hjl]
      obtain ⟨A,hA,hA4⟩:∃ A,Utf8.encode (IntKind.i32.wrap (IntKind.i64.wrap (49+IntKind.i64.wrap ((j:Int) / 10))))=A∧A.size≤4:=⟨_,rfl,Zcj _⟩
      obtain ⟨B,hB,hB4⟩:∃ B,Utf8.encode (IntKind.i32.wrap (IntKind.i64.wrap (48+(j:Int).tmod 10)))=B∧B.size≤4:=⟨_,rfl,Zcj _⟩
      rw [hA,hB,hxj]
      rw [if_pos (by omega)]
      simp
      rw [if_pos (by omega)]
      simp
      rw [if_pos (by omega)]
      simp
      rw [if_pos (by omega)]
      simp
      exact ⟨⟨j+1,by simp,by omega,by omega⟩,by omega⟩
     ·obtain rfl:j=k:=by omega
      obtain ⟨oF,oL,oL2⟩:=hR.ok (by omega)
      obtain ⟨q,rfl,⟨cs,hcs,hcl⟩,hz⟩:=hR.fz (by omega)
      clear hR
      obtain ⟨H,hH⟩:∃ H,τ++S=H:=⟨_,rfl⟩
      have hpre':∀ X:Za,∃ g,H++X=s++(AObj.cells (V.map (AV.int .i64))::g):=fun X=>by rw [← hH,List.append_assoc];exact hpre _
      rw [hH] at hz hcs ⊢
      have z0:=hz []
      rw [List.append_nil] at z0
      obtain ⟨zF,zL,zL2⟩:=z0
      have e2:2≤2*j:=by omega
      simp [hl,g230,g231,g232,g257,g258,g21,g22,g24]
      refine StA.of ((Uat (r:=⟨4,0,[]⟩) zF (Yay (.nils_pl 1)) oF (by simp)).mono ?_)
      rintro _ _ ⟨rfl,rfl⟩
      simp [hl,g230,g231,g232,g257,g258,g21,g22,g24]
      refine StA.of ((Uat (r:=⟨0,3,[]⟩) zF (Yay (.nils_pl 1)) oF (by simp)).mono ?_)
      rintro _ _ ⟨rfl,rfl⟩
      simp [hl,g230,g231,g232,g257,g258,g21,g22,g24]
      refine StA.of ((Vau (G:=[]) zF (.nils_pl 3) zL oF ⟨by simp,by simp⟩ oL).mono ?_)
      rintro _ _ ⟨rfl,rfl⟩
      simp [hl,g230,g231,g232,g257,g258,g21,g22,g24,hcs,hcl,e2]
      refine StA.of ((Vau zF zF zL2 oF oF oL2).mono ?_)
      rintro _ _ ⟨rfl,rfl⟩
      simp [hl,g230,g231,g232,g257,g258,g21,g22,g24]
      refine StA.of ((Ya8 zL zL oL oL).mono ?_)
      rintro _ _ ⟨rfl,rfl⟩
      simp [hl,g230,g231,g232,g257,g258,g21,g22,g24]
      refine (Yb7 _).use ?_
      simp [hl,g230,g231,g232,g257,g258,g21,g22,g24]
      refine StA.of ((Za3 (F:=[]) (H:=[⟨3,0,[]⟩]) (l:=[]) (.nils_pl 3) (hz _).1 (Xa6 (w:=.nils) (by simp) rfl (.nils_pl 1)) (.nils_pl 1) ⟨by simp,by simp⟩ oF ⟨by simp,by simp⟩ (by simp)).mono ?_)
      rintro _ _ ⟨rfl,rfl⟩
      simp [hl,g230,g231,g232,g257,g258,g21,g22,g24]
      refine StA.of ((Za3 (G:=[]) (H:=[⟨0,3,[[97]]⟩]) (l:=[true]) (hz _).1 (.nils_pl 3) (Xa6 (w:=.arr 1 (_+1) 0 1) (by simp;rfl) rfl (Uu [[97]] (by simp [strs]))) (Wdm (by simp)) oF ⟨by simp,by simp⟩ ⟨by simp,by simp⟩ (by simp)).mono ?_)
      rintro _ _ ⟨rfl,rfl⟩
      simp [hl,g230,g231,g232,g257,g258,g21,g22,g24]
      rw [hx]
      exact ⟨⟨i+1,by simp,hpre' _,by omega⟩,by omega⟩
   ·obtain rfl:i=4:=by omega
    simp [hl,g230,g231,g232]
    obtain ⟨g,rfl⟩:=hs
    exact ⟨_,List.append_assoc _ _ _⟩
  clear hl hs u g s
  rintro env s ⟨u,g,rfl,hl,hs⟩
  rw [Yf]
  simp [-Yf,hl]
  refine (Zbl _).use ?_
  obtain ⟨b,hb,hb2⟩:∃ b:List UInt8,Oyez.sealOf [102,101,101,32,49,32,97,10,112,108,101,97,32,50,10]=(b,0)∧b.length≤60:=⟨(Oyez.sealOf [102,101,101,32,49,32,97,10,112,108,101,97,32,50,10]).1,by decide +kernel,by decide +kernel⟩
  have hbi:¬ (60:Int)<b.length:=by omega
  simp [-Yf,hl,hb]
  rw [Yf,Yf]
  simp [-Yf,hl,hbi]
  rw [Yf]
  refine Xn (fun env s=>∃ u g,env={ t:=u }∧u.length=427∧s=σ++g) ?_ ?_
  ·rw [Yf]
   simp [hl]
   refine Yc (fun env σ'=>∃ (u:List AV) (i:Nat) (g:Za),env={ t:=u }∧u.length=427∧tg u 26=.str b∧tg u 343=.int .i64 b.length∧tg u 344=.int .i64 i∧σ'=σ++g∧i≤b.length)
    (fun env _=>match tg env.t 344 with | .int _ i=>b.length - i.toNat | _=>0) ⟨_,0,g,rfl,by simp [hl],by simp [hl],by simp [hl],by simp [hl],hs,by omega⟩ ?_
   clear hl hs u g s
   rintro env s ⟨u,i,g',rfl,hl,g26,g343,g344,hs,hi⟩
   rcases Qzn i b.length with hlt | hge
   ·have hlt':(i:Int)<b.length:=by omega
    have hx:=w64 (n:=(i:Int)+1) (by omega) (by omega)
    simp [hl,g26,g343,g344,hlt',hlt]
    obtain ⟨V,hV,hVl⟩:∃ V:List UInt8,V.map (fun c=>AV.int .u8 c.toNat)=[AV.int .u8 48,.int .u8 97,.int .u8 10,.int .u8 32,.int .u8 255]∧V.length=5:=⟨[48,97,10,32,255],by simp,rfl⟩
    rw [← hV]
    refine Yc (fun env σ'=>∃ (u:List AV) (k:Nat) (g:Za),env={ t:=u }∧u.length=427∧tg u 26=.str b∧tg u 343=.int .i64 b.length∧tg u 344=.int .i64 i∧tg u 28=.int .i64 i∧tg u 347=.arr 1 s.length 0 5∧tg u 348=.int .i64 5∧tg u 349=.int .i64 k∧σ'=s++(AObj.cells (V.map (fun c=>AV.int .u8 c.toNat))::g)∧k≤5)
     (fun env _=>match tg env.t 349 with | .int _ i=>5 - i.toNat | _=>0) ⟨_,0,[],rfl,by simp [hl],by simp [hl,g26],by simp [hl,g343],by simp [hl,g344],by simp [hl],by simp [hl],by simp [hl],by simp [hl],by simp,by omega⟩ ?_
    clear hl g26 g343 g344 u
    rintro env _ ⟨u,k,gk,rfl,hl,g26,g343,g344,g28,g347,g348,g349,rfl,hk⟩
    rcases Qzn k 5 with hkl | hkg
    ·have hkl':(k:Int)<5:=by omega
     have hkle:k≤4:=by omega
     have hxk:=w64 (n:=(k:Int)+1) (by omega) (by omega)
     obtain ⟨v,hv⟩:∃ v,V[k]'(by omega)=v:=⟨_,rfl⟩
     have hVi:V[k]? = some v:=by rw [Qze (by omega),hv]
     obtain ⟨S,hS⟩:∃ S,s++(AObj.cells (V.map fun c=>AV.int .u8 c.toNat)::gk)=S:=⟨_,rfl⟩
     have hVS:S[s.length]? = some (.cells (V.map fun c=>AV.int .u8 c.toNat)):=by rw [← hS];simp
     have hst:=Zbr (fun c:UInt8=>AV.int .u8 c.toNat) b i v hlt
     have hab:=Wb2 (b.set i v)
     have htk:List.take b.length (List.map (fun c:UInt8=>AV.int .u8 c.toNat) (b.set i v))=List.map (fun c:UInt8=>AV.int .u8 c.toNat) (b.set i v):=List.take_of_length_le (by simp)
     rw [hS]
     simp [hl,g26,g343,g344,g28,g347,g348,g349,hkl',hkl,hkle,hVl,hVi,hv,hVS,hlt,hst,hab,htk,show i+1≤b.length by omega,-List.map_set]
     refine (Wa1 _).use ?_
     simp [hl,g26,g343,g344,g28,g347,g348,g349]
     rw [hxk]
     exact ⟨⟨k+1,by simp,⟨gk++[AObj.cells (List.map (fun c:UInt8=>AV.int .u8 c.toNat) (b.set i v))],by rw [← hS];simp⟩,by omega⟩,by omega⟩
    ·obtain rfl:k=5:=by omega
     simp [hl,g26,g343,g344,g28,g347,g348,g349,hx]
     exact ⟨⟨i+1,by simp,⟨g'++(AObj.cells (V.map (fun c=>AV.int .u8 c.toNat))::gk),by rw [hs];simp⟩,by omega⟩,by omega⟩
   ·obtain rfl:i=b.length:=by omega
    simp [hl,g26,g343,g344]
    exact ⟨_,hs⟩
  clear hl hs u g s
  rintro env s ⟨u,g,rfl,hl,hs⟩
  rw [Yf]
  refine Xn (fun env s=>∃ u g,env={ t:=u }∧u.length=427∧s=σ++g) ?_ ?_
  ·rw [Yf]
   simp [-Yf,hl]
   obtain ⟨V,hV,hVl,hVb⟩:∃ V:List Int,V.map (AV.int .i64)=[AV.int .i64 0,.int .i64 1,.int .i64 2,.int .i64 4095,.int .i64 4096,.int .i64 4097,.int .i64 4115,.int .i64 4116,.int .i64 4117]∧V.length=9∧∀ x∈V,0≤x∧x≤5000:=⟨[0,1,2,4095,4096,4097,4115,4116,4117],rfl,rfl,by decide⟩
   rw [← hV]
   refine Yc (fun env σ'=>∃ (u:List AV) (i:Nat) (g:Za),env={ t:=u }∧u.length=427∧tg u 365=.arr 1 s.length 0 9∧tg u 366=.int .i64 9∧tg u 367=.int .i64 i∧σ'=s++(AObj.cells (V.map (AV.int .i64))::g)∧i≤9)
    (fun env _=>match tg env.t 367 with | .int _ i=>9 - i.toNat | _=>0) ⟨_,0,[],rfl,by simp [hl],by simp [hl],by simp [hl],by simp [hl],by simp,by omega⟩ ?_
   rintro env _ ⟨u,i,g',rfl,hl,g365,g366,g367,rfl,hi⟩
   rcases Qzn i 9 with hlt | hge
   ·have hlt':(i:Int)<9:=by omega
    have hle:i≤8:=by omega
    have hx:=w64 (n:=(i:Int)+1) (by omega) (by omega)
    obtain ⟨v,hv⟩:∃ v,V[i]'(by omega)=v:=⟨_,rfl⟩
    have hvb:=hVb v (hv▸List.getElem_mem _)
    have hVi:V[i]? = some v:=by rw [Qze (by omega),hv]
    simp [hl,g365,g366,g367,hlt',hlt,hle,hVl,hv]
    obtain ⟨n,hn,hnv⟩:∃ n:Nat,(if 0<IntKind.i64.wrap (v - 1) then IntKind.i64.wrap (v - 1) else 0)=n∧n≤5000:=by
     have:=w64 (n:=v - 1) (by omega) (by omega)
     refine ⟨(v - 1).toNat,?_,by omega⟩
     rw [this]
     split<;>omega
    rw [hn]
    refine (Ych [97] n (by simp;omega) (by omega)).use ?_
    have hRl:(Lib.repeatL [97] n).length=n:=by rw [Lib.repeatL_length];simp
    obtain ⟨R,hR⟩:∃ R,Lib.repeatL [97] n=R:=⟨_,rfl⟩
    rw [hR] at hRl ⊢
    have k1:n≤9223372036854775806:=by omega
    obtain ⟨m,hm,hmb⟩:∃ m:Nat,(if (n:Int)+1<v then (n:Int)+1 else v)=m∧m≤n+1:=by
     refine ⟨(if (n:Int)+1<v then (n:Int)+1 else v).toNat,?_,?_⟩<;>split<;>omega
    simp [hl,g365,g366,g367,hRl,k1,hm,hmb]
    refine (Wa1 _).use ?_
    simp [hl,g365,g366,g367,hRl,k1,show n≤9223372036854775797 by omega]
    refine (Wa1 _).use ?_
    simp [hl,g365,g366,g367]
    rw [hx]
    exact ⟨⟨i+1,by simp,by omega⟩,by omega⟩
   ·obtain rfl:i=9:=by omega
    simp [hl,g365,g366,g367]
    obtain ⟨g,rfl⟩:=hs
    exact ⟨_,List.append_assoc _ _ _⟩
  clear hl hs u g s
  rintro env s ⟨u,g,rfl,hl,hs⟩
  simp [hl]
  refine (Yx _).use ?_
  simp [hl]
  refine (Yx _).use ?_
  simp [hl]
  refine (Yx _).use ?_
  simp [hl]
  refine (Yx _).use ?_
  simp [hl]
  refine (Yx _).use ?_
  simp [hl]
  refine (Yx _).use ?_
  simp [hl]
  refine (Yx _).use ?_
  simp [hl]
  refine (Yx _).use ?_
  simp [hl]
  refine StA.of ((Uat (F:=[]) (r:=⟨0,0,[]⟩) (.nils_pl 3) (Yay (.nils_pl 1)) ⟨by simp,by simp⟩ (by simp)).mono ?_)
  rintro _ _ ⟨rfl,rfl⟩
  simp [hl]
  refine StA.of ((Ya8 (L:=[]) (M:=[]) (.nils_pl 6) (.nils_pl 6) ⟨by simp,by simp⟩ ⟨by simp,by simp⟩).mono ?_)
  rintro _ _ ⟨rfl,rfl⟩
  simp [hl]
  refine StA.of ((Za3 (F:=[]) (G:=[]) (H:=[]) (l:=[]) (.nils_pl 3) (.nils_pl 3) (.nils_pl 3) (.nils_pl 1) ⟨by simp,by simp⟩ ⟨by simp,by simp⟩ ⟨by simp,by simp⟩ (by simp)).mono ?_)
  rintro _ _ ⟨rfl,rfl⟩
  simp [hl]
  refine awake_calls.use ?_
  simp [hl]
  rw [hs]
  exact hPost _
end Ab

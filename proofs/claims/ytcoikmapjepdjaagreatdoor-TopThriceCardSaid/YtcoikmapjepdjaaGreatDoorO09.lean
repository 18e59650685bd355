/-
  Texts packed for a claim.
-/
set_option linter.all false
namespace Oyez
abbrev S:=List UInt8
structure Place where
 kind:Int
 number:Int
 deriving DecidableEq
structure Rec where
 kind:Int
 number:Int
 words:List S
 deriving DecidableEq
structure Chg where
 kind:Int
 number:Int
 had:Bool
 has:Bool
 old:List S
 new:List S
 deriving DecidableEq
def Rec.place (r:Rec):Place:=⟨r.kind,r.number⟩
def Chg.place (c:Chg):Place:=⟨c.kind,c.number⟩
def Place.lt (p q:Place):Bool:=decide (p.kind<q.kind)||(p.kind == q.kind&&decide (p.number<q.number))
def isLow (c:UInt8):Bool:=97≤c&&c≤122
def isDig (c:UInt8):Bool:=48≤c&&c≤57
def isWordByte (c:UInt8):Bool:=isLow c||isDig c
def word (w:S):Bool:=w.all isWordByte&&(decide (1≤w.length)&&decide (w.length≤12))
def nameN:Nat→S
 | 0=>[115,116,97,110,100]
 | 1=>[110,111,116,105,99,101]
 | 2=>[102,105,110,100]
 | 3=>[102,101,101]
 | _=>[112,108,101,97]
def name (k:Int):S:=nameN k.toNat
def Vap:Nat→Nat→S
 | 0,_=>[]
 | f+1,n=>if n<10 then [UInt8.ofNat (48+n)] else Vap f (n / 10)++[UInt8.ofNat (48+n % 10)]
def digitsN (n:Nat):S:=Vap (n+1) n
theorem Yec:∀ (f g n:Nat),n<f→n<g→Vap f n=Vap g n:=by
 intro f
 induction f with
 | zero=>intro g n h;omega
 | succ f ih =>
  intro g n _ hg
  cases g with
  | zero=>omega
  | succ g =>
   simp only [Vap]
   split
   ·rfl
   ·rw [ih g (n / 10) (by omega) (by omega)]
theorem digitsN_lt {n:Nat} (h:n<10):digitsN n=[UInt8.ofNat (48+n)]:=by simp [digitsN,Vap,h]
theorem digitsN_ge {n:Nat} (h:10≤n):digitsN n=digitsN (n / 10)++[UInt8.ofNat (48+n % 10)]:=by
 rw [digitsN,Vap,if_neg (by omega),Yec n (n / 10+1) (n / 10) (by omega) (by omega)]
 rfl
def digits (n:Int):S:=digitsN n.toNat
def line (k n:Int) (ws:List S):S:=name k++[32]++digits n++ws.flatMap (fun w=>32::w)
def placeErr (k n:Int):Int:=if k<0∨4<k then 12 else if n<0∨999<n then 3 else 0
def wordsErr (k n:Int) (ws:List S):Int :=
 if 6<ws.length then 2 else if ws.all word=false then 11 else if 64<(line k n ws).length then 10 else 0
def oneErr (k n:Int) (ws:List S):Int:=if placeErr k n≠0 then placeErr k n else wordsErr k n ws
def recErr (r:Rec):Int:=oneErr r.kind r.number r.words
def checkFrom:Option Place→List Rec→Int
 | _,[]=>0
 | p,r::t=>if recErr r≠0 then recErr r else if p.all (fun q=>q.lt r.place)=false then 4 else checkFrom (some r.place) t
def check (f:List Rec):Int:=if 40<f.length then 2 else checkFrom none f
def print (f:List Rec):S:=f.flatMap (fun r=>line r.kind r.number r.words++[10])
def splitAt (c:UInt8):S→List S
 | []=>[[]]
 | b::t=>if b=c then []::splitAt c t else
  match splitAt c t with
  | []=>[[b]]
  | w::r=>(b::w)::r
def words (l:S):List S:=splitAt 32 l
def Vl:S→Nat→Option Nat
 | [],n=>some n
 | c::t,n=>if isDig c then Vl t (10*n+(c.toNat - 48)) else none
def value (w:S) (most:Nat):Option Nat :=
 if w.isEmpty then none else if 6<w.length then none else if w.head? = some 48∧1<w.length then none else
 match Vl w 0 with
 | some n=>if most<n then none else some n
 | none=>none
def kindOf (w:S):Option Int :=
 if w=nameN 0 then some 0 else if w=nameN 1 then some 1 else if w=nameN 2 then some 2 else if w=nameN 3 then some 3 else if w=nameN 4 then some 4 else none
def firstBad:List S→Nat→Option Nat
 | [],_=>none
 | w::t,i=>if word w then firstBad t (i+1) else some i
def readLine (own:S) (ended:Bool) (at_:Nat):Except (Nat × Int) Rec :=
 if 40≤at_ then .error (0,2) else if 64<own.length then .error (0,10) else if !ended then .error (0,11) else
 match words own with
 | []=>.error (0,12)
 | k::t =>
  match kindOf k with
  | none=>.error (0,12)
  | some kind =>
   match t with
   | []=>.error (1,11)
   | n::ws =>
    match value n 999 with
    | none=>.error (1,11)
    | some num =>
     if 6<ws.length then .error (8,2) else
     match firstBad ws 2 with
     | some i=>.error (i,11)
     | none=>.ok ⟨kind,num,ws⟩
def cutLine:S→S × Bool × S
 | []=>([],false,[])
 | b::t=>if b=10 then ([],true,t) else (b::(cutLine t).1,(cutLine t).2.1,(cutLine t).2.2)
structure Parsed where
 recs:List Rec
 line:Nat
 word:Nat
 err:Int
 deriving DecidableEq
def linesOf:S→List (S × Bool)
 | []=>[]
 | b::t=>if b=10 then ([],true)::linesOf t else
  match linesOf t with
  | []=>[([b],false)]
  | (w,e)::r=>(b::w,e)::r
theorem linesOf_cut:∀ (b:UInt8) (t:S),linesOf (b::t)=((cutLine (b::t)).1,(cutLine (b::t)).2.1)::linesOf (cutLine (b::t)).2.2:=by
 intro b t
 induction t generalizing b with
 | nil =>
  simp only [linesOf,cutLine]
  split<;>rfl
 | cons c t ih =>
  rw [linesOf,cutLine]
  split
  ·rfl
  ·rw [ih c]
def parseLines:List (S × Bool)→Option Place→Nat→Parsed
 | [],_,_=>⟨[],0,0,0⟩
 | (own,ended)::t,prev,line =>
  match readLine own ended line with
  | .error (w,e)=>⟨[],line,w,e⟩
  | .ok r =>
   if prev.all (fun q=>q.lt r.place)=false then ⟨[],line,1,4⟩ else
   let p:=parseLines t (some r.place) (line+1)
   if p.err=0 then ⟨r::p.recs,0,0,0⟩ else p
def parse (text:S):Parsed:=parseLines (linesOf text) none 0
def getIn (f:List Rec) (p:Place):Option (List S):=(f.find? (fun r=>decide (r.place=p))).map (·.words)
def Uaw (c:Chg):Int :=
 if placeErr c.kind c.number≠0 then placeErr c.kind c.number else
 if wordsErr c.kind c.number c.old≠0 then wordsErr c.kind c.number c.old else
 if wordsErr c.kind c.number c.new≠0 then wordsErr c.kind c.number c.new else
 if (!c.had&&!c.old.isEmpty)||(!c.has&&!c.new.isEmpty)||(c.had == c.has&&decide (c.old=c.new)) then 8 else 0
def Xcw:Option Place→List Chg→Int
 | _,[]=>0
 | p,c::t=>if Uaw c≠0 then Uaw c else if p.all (fun q=>q.lt c.place)=false then 4 else Xcw (some c.place) t
def Zjc (l:List Chg):Int:=if 80<l.length then 2 else Xcw none l
def sumsFrom:S→Nat→Nat→Nat→Nat × Nat
 | [],_,a,b=>(a,b)
 | c::t,i,a,b=>sumsFrom t (i+1) ((a+c.toNat) % 65537) ((b+(i+1)*c.toNat) % 65537)
def sums (t:S):Nat × Nat:=sumsFrom t 0 0 0
def sealed (t:S):S:=t++[115,101,97,108,32]++digitsN (sums t).1++[32]++digitsN (sums t).2++[10]
def sealOf (t:S):S × Int:=if 4096<t.length then ([],10) else if t.getLast?≠some 10 then ([],11) else (sealed t,0)
end Oyez
namespace Oyez
def lastLine (u:S):Nat:=u.length - (u.reverse.takeWhile (fun c=>c != 10)).length
def openedOf (t:S):Except Int (S × Nat × Nat) :=
 if 4116<t.length then .error 10 else
 if t.getLast?≠some 10 then .error 11 else
 match words (t.dropLast.drop (lastLine t.dropLast)) with
 | [k,a,b] =>
  if lastLine t.dropLast=0∨4096<lastLine t.dropLast∨k≠[115,101,97,108] then .error 11 else
  match value a 65536,value b 65536 with
  | some m,some n=>.ok (t.take (lastLine t.dropLast),m,n)
  | _,_=>.error 11
 | _=>.error 11
def openOf (t:S):S × Int :=
 match openedOf t with
 | .error e=>([],e)
 | .ok (b,m,n)=>if sums b=(m,n) then (b,0) else (b,8)
def Wa1 (t:S) (i c:Nat):S:=t.take i++[UInt8.ofNat c]++t.drop (i+1)
def mendAt (t:S) (i c:Nat):Option (S × Nat):=if Wa1 t i c=t then none else if (openOf (Wa1 t i c)).2=0 then some (Wa1 t i c,i) else none
def mendOf (t:S):S × Nat × Int :=
 match openOf t with
 | (b,e) =>
  if e=0 then ([],0,5) else if e≠8 then ([],0,e) else
  match (List.range b.length).findSome? fun i=>(List.range 256).findSome? fun c=>mendAt t i c with
  | some (m,i)=>(m,i,0)
  | none=>([],0,6)
abbrev St:=Option (List S)
def chg (p:Place) (x y:St):Chg:=⟨p.kind,p.number,x.isSome,y.isSome,x.getD [],y.getD []⟩
def Chg.was (c:Chg):St:=if c.had then some c.old else none
def Chg.now (c:Chg):St:=if c.has then some c.new else none
def allPlaces:List Place:=(List.range 5).flatMap fun (k:Nat)=>(List.range 1000).map fun (n:Nat)=>(⟨(k:Int),(n:Int)⟩:Place)
def Ucr (p:Place):List Place→List Place
 | []=>[p]
 | q::t=>if p.lt q then p::q::t else if q.lt p then q::Ucr p t else q::t
def placesOf (l:List Place):List Place:=l.foldl (fun a p=>Ucr p a) []
def Vha (a b:List Rec) (p:Place):Option Chg:=if getIn a p=getIn b p then none else some (chg p (getIn a p) (getIn b p))
def Wiq (a b:List Rec):List Chg:=(placesOf ((a++b).map Rec.place)).filterMap (Vha a b)
structure Jn where
 out:List Rec
 conf:List Chg
def Wby (base a b:List Rec) (second:List Bool) (s:Jn) (p:Place):Jn :=
 let x:=getIn base p
 let y:=getIn a p
 let z:=getIn b p
 let put (w:St):List Rec:=match w with
  | some ws=>s.out++[⟨p.kind,p.number,ws⟩]
  | none=>s.out
 if y=z∨z=x then ⟨put y,s.conf⟩ else if y=x then ⟨put z,s.conf⟩ else
 ⟨put (match second[s.conf.length]? with | none=>x | some c=>if c then z else y),s.conf++[chg p y z]⟩
def join (base a b:List Rec) (second:List Bool):Jn:=(placesOf ((base++a++b).map Rec.place)).foldl (Wby base a b second) ⟨[],[]⟩
def back (l:List Chg):List Chg:=l.map fun c=>⟨c.kind,c.number,c.has,c.had,c.new,c.old⟩
def drop (f:List Rec) (p:Place):List Rec:=f.filter fun r=>!decide (r.place=p)
def Ycv (r:Rec):List Rec→List Rec
 | []=>[r]
 | q::t=>if r.place.lt q.place then r::q::t else q::Ycv r t
def put (f:List Rec) (r:Rec):List Rec:=Ycv r (drop f r.place)
def Xhw (f:List Rec) (c:Chg):List Rec:=if c.has then put f ⟨c.kind,c.number,c.new⟩ else drop f c.place
def fits (f:List Rec) (l:List Chg):Bool:=l.all fun c=>decide (getIn f c.place=c.was)
def make (f:List Rec) (l:List Chg):List Rec:=l.foldl Xhw f
def Xb4 (l:List Chg) (p:Place):Option Chg:=l.find? fun c=>decide (c.place=p)
def Uds (x y:List Chg) (p:Place):Except Unit (Option Chg) :=
 match Xb4 x p,Xb4 y p with
 | none,none=>.ok none
 | some c,none=>.ok (some c)
 | none,some d=>.ok (some d)
 | some c,some d=>if c.now=d.was then .ok (if c.was=d.now then none else some (chg p c.was d.now)) else .error ()
def Zb0 (x y:List Chg):List Place→Except Unit (List Chg)
 | []=>.ok []
 | p::t=>match Uds x y p with
  | .error _=>.error ()
  | .ok none=>Zb0 x y t
  | .ok (some c)=>match Zb0 x y t with
   | .ok l=>.ok (c::l)
   | .error _=>.error ()
def after (x y:List Chg):Except Unit (List Chg):=Zb0 x y (placesOf ((x++y).map Chg.place))
end Oyez
namespace Oyez
theorem Place.lt_iff (p q:Place):p.lt q=true↔p.kind<q.kind∨(p.kind=q.kind∧p.number<q.number):=by simp [Place.lt]
theorem Place.ext' {p q:Place} (h:p.kind=q.kind) (h':p.number=q.number):p=q:=by cases p;cases q;simp_all
theorem Place.lt_irrefl (p:Place):p.lt p=false:=by rw [Bool.eq_false_iff];intro h;rw [Place.lt_iff] at h;omega
theorem Place.lt_trans {p q r:Place} (h:p.lt q=true) (h':q.lt r=true):p.lt r=true:=by rw [Place.lt_iff] at *;omega
theorem Place.lt_tri {p q:Place} (h:p.lt q=false) (h':q.lt p=false):p=q:=by
 rw [Bool.eq_false_iff,ne_eq,Place.lt_iff] at h h'
 exact Place.ext' (by omega) (by omega)
def Sorted (l:List Place):Prop:=l.Pairwise fun p q=>p.lt q=true
theorem Yid (p:Place):p∈allPlaces↔(0≤p.kind∧p.kind<5)∧0≤p.number∧p.number<1000:=by
 unfold allPlaces
 simp only [List.mem_flatMap,List.mem_range,List.mem_map]
 constructor
 ·rintro ⟨k,hk,n,hn,rfl⟩
  exact ⟨⟨Int.natCast_nonneg _,by show (k:Int)<5;omega⟩,Int.natCast_nonneg _,by show (n:Int)<1000;omega⟩
 ·rintro ⟨⟨h1,h2⟩,h3,h4⟩
  exact ⟨p.kind.toNat,by omega,p.number.toNat,by omega,Place.ext' (by show ((p.kind.toNat:Nat):Int)=p.kind;omega) (by show ((p.number.toNat:Nat):Int)=p.number;omega)⟩
end Oyez
namespace Oyez
def tot:S→Nat
 | []=>0
 | c::t=>c.toNat+tot t
def Wag:S→Nat→Nat
 | [],_=>0
 | c::t,i=>(i+1)*c.toNat+Wag t (i+1)
theorem Xd2:∀ (s:S) (i a b:Nat),a<65537→b<65537→sumsFrom s i a b=((a+tot s) % 65537,(b+Wag s i) % 65537):=by
 intro s
 induction s with
 | nil=>intro i a b ha hb;simp [sumsFrom,tot,Wag,Nat.mod_eq_of_lt,ha,hb]
 | cons c t ih =>
  intro i a b ha hb
  rw [sumsFrom,ih _ _ _ (Nat.mod_lt _ (by decide)) (Nat.mod_lt _ (by decide))]
  simp only [tot,Wag,Nat.mod_add_mod,Nat.add_assoc]
theorem sums_eq (s:S):sums s=(tot s % 65537,Wag s 0 % 65537):=by
 rw [sums,Xd2 s 0 0 0 (by decide) (by decide)];simp
theorem Ucm:∀ (s:S) (i:Nat) (h:i<s.length) (c:UInt8),tot (s.set i c)+s[i].toNat=tot s+c.toNat:=by
 intro s
 induction s with
 | nil=>intro i h;simp at h
 | cons x t ih =>
  intro i h c
  cases i with
  | zero=>simp [tot];omega
  | succ i =>
   have:=ih i (by simpa using h) c
   simp [tot];omega
theorem Udu:∀ (s:S) (i k:Nat) (h:i<s.length) (c:UInt8),Wag (s.set i c) k+(k+i+1)*s[i].toNat=Wag s k+(k+i+1)*c.toNat:=by
 intro s
 induction s with
 | nil=>intro i k h;simp at h
 | cons x t ih =>
  intro i k h c
  cases i with
  | zero=>simp [Wag];omega
  | succ i =>
   have:=ih i (k+1) (by simpa using h) c
   rw [show k+1+i+1=k+(i+1)+1 by omega] at this
   simp [Wag];omega
def inv (n:Nat):Nat:=n^65535 % 65537
set_option maxRecDepth 100000 in
theorem Xgj:∀ d<256,d≠0→d*inv d % 65537=1:=by decide +kernel
set_option maxRecDepth 100000 in
theorem Wev:∀ d<256,d≠0→(65537 - d)*inv (65537 - d) % 65537=1:=by decide +kernel
def Yy (x c:Nat):Nat:=(65537+x - c) % 65537
theorem Xfs {x c:Nat} (hx:x<256) (hc:c<256) (h:x≠c):Yy x c*inv (Yy x c) % 65537=1:=by
 unfold Yy
 rcases Nat.lt_or_gt_of_ne h with h1 | h1
 ·have e:(65537+x - c) % 65537=65537 - (c - x):=by omega
  rw [e];exact Wev (c - x) (by omega) (by omega)
 ·have e:(65537+x - c) % 65537=x - c:=by omega
  rw [e];exact Xgj (x - c) (by omega) (by omega)
theorem Ugx {x c i:Nat} (hx:x<256) (hc:c<256) (h:x≠c) (hi:i+1<65537):(((i+1)*Yy x c % 65537)*inv (Yy x c)) % 65537=i+1:=by
 rw [Nat.mod_mul_mod,Nat.mul_assoc,Nat.mul_mod,Xfs hx hc h,Nat.mul_one,Nat.mod_mod,Nat.mod_eq_of_lt hi]
theorem Wdp {A m A' x c:Nat} (hx:x<256) (hc:c<256) (hA:A'+x=A+c) (hm:A' % 65537=m):(A % 65537+65537 - m) % 65537=Yy x c:=by
 unfold Yy
 omega
theorem Ue9 {B n B' x c i:Nat} (hx:x<256) (hc:c<256) (hB:B'+(i+1)*x=B+(i+1)*c) (hn:B' % 65537=n):(B % 65537+65537 - n) % 65537=(i+1)*Yy x c % 65537:=by
 have e:(i+1)*Yy x c % 65537=((i+1)*(65537+x - c)) % 65537:=by unfold Yy;rw [Nat.mul_mod_mod]
 rw [e,show 65537+x - c=65537 - c+x by omega,Nat.mul_add,Nat.mul_sub]
 have h1:(i+1)*c≤(i+1)*65537:=Nat.mul_le_mul_left _ (by omega)
 generalize (i+1)*x=u at *
 generalize (i+1)*c=v at *
 have e2:(i+1)*65537=65537*(i+1):=Nat.mul_comm _ _
 generalize (i+1)=q at *
 rw [e2] at *
 omega
theorem Vbx (c:UInt8) (s:S):splitAt c s≠[]:=by
 cases s with
 | nil=>simp [splitAt]
 | cons b t =>
  unfold splitAt
  split
  ·simp
  ·split<;>simp
theorem Xfe (c:UInt8) (x y:S):(splitAt c (x++y)).length+1=(splitAt c x).length+(splitAt c y).length:=by
 induction x with
 | nil=>simp [splitAt];omega
 | cons b t ih =>
  simp only [List.cons_append,splitAt]
  split
  ·simp only [List.length_cons];omega
  ·have h1:=Vbx c (t++y)
   have h2:=Vbx c t
   revert ih
   cases hx:splitAt c (t++y) with
   | nil=>exact absurd hx h1
   | cons w r =>
    cases hy:splitAt c t with
    | nil=>exact absurd hy h2
    | cons w' r'=>intro ih;simpa using ih
theorem Ubw (c:UInt8):∀ (x:S),c∉x→∀ (y w:S) (r:List S),splitAt c y=w::r→splitAt c (x++y)=(x++w)::r:=by
 intro x
 induction x with
 | nil=>intro _ y w r h;exact h
 | cons b t ih =>
  intro hc y w r h
  simp only [List.mem_cons,not_or] at hc
  simp only [List.cons_append,splitAt,if_neg (Ne.symm hc.1),ih hc.2 y w r h]
theorem Zd6 (c:UInt8) (x:S) (h:c∈x):2≤(splitAt c x).length:=by
 induction x with
 | nil=>simp at h
 | cons b t ih =>
  unfold splitAt
  have h1:=List.length_pos_iff.2 (Vbx c t)
  split
  ·simp only [List.length_cons];omega
  ·rename_i hb
   have:=ih (by simpa [Ne.symm hb] using h)
   cases hx:splitAt c t with
   | nil=>rw [hx] at this;simp at this
   | cons w r=>rw [hx] at this;simpa using this
theorem Yb7 {line k a b:S} (h:words line=[k,a,b]) {q:S} {c:UInt8} {k' a' b':S} (h':words (q++c::line)=[k',a',b']):k'≠k:=by
 have e:q++c::line=(q++[c])++line:=by simp
 rw [e] at h'
 by_cases hb:(32:UInt8)∈q++[c]
 ·have h1:=Xfe 32 (q++[c]) line
  have h2:=Zd6 32 _ hb
  unfold words at h h'
  rw [h,h'] at h1
  simp at h1
  omega
 ·have h1:=Ubw 32 _ hb line k [a,b] h
  unfold words at h'
  rw [h'] at h1
  simp only [List.cons.injEq] at h1
  intro hk
  have:=congrArg List.length (h1.1.symm.trans hk)
  simp at this
  omega
theorem Vdg {line:S} (h:(10:UInt8)∉line) (body:S) (hb:body=[]∨body.getLast? = some 10):((body++line).reverse.takeWhile (fun c=>c != 10))=line.reverse:=by
 rw [List.reverse_append]
 have h1:∀ x∈line.reverse,(x != 10)=true:=fun x hx=>by
  simp at hx ⊢;exact fun e=>h (e▸hx)
 rw [List.takeWhile_append_of_pos h1]
 rcases hb with rfl | hb
 ·simp
 ·obtain ⟨ys,rfl⟩:=List.getLast?_eq_some_iff.1 hb
  simp
theorem Zb3 {line:S} (h:(10:UInt8)∉line) (body:S) (hb:body=[]∨body.getLast? = some 10):lastLine (body++line)=body.length:=by
 unfold lastLine
 rw [Vdg h body hb]
 simp
theorem lastLine_split:∀ n (u:S),u.length=n→(10:UInt8)∉u.drop (lastLine u)∧(u.take (lastLine u)=[]∨(u.take (lastLine u)).getLast? = some 10):=by
 have key:∀ u:S,∃ body line,u=body++line∧(10:UInt8)∉line∧(body=[]∨body.getLast? = some 10):=by
  intro u
  suffices h:∀ v:S,∃ body line,v.reverse=body++line∧(10:UInt8)∉line∧(body=[]∨body.getLast? = some 10) by
   have:=h u.reverse;rwa [List.reverse_reverse] at this
  intro v
  induction v with
  | nil=>exact ⟨[],[],rfl,by simp,.inl rfl⟩
  | cons b t ih =>
   by_cases hb:b=10
   ·subst hb
    exact ⟨t.reverse++[10],[],by simp,by simp,.inr (by simp)⟩
   ·obtain ⟨body,line,h1,h2,h3⟩:=ih
    exact ⟨body,line++[b],by simp [h1],by simp [h2];exact fun e=>hb e.symm,h3⟩
 intro n u _
 obtain ⟨body,line,rfl,h2,h3⟩:=key u
 rw [Zb3 h2 body h3]
 simpa using ⟨h2,h3⟩
abbrev Wbx:S:=[115,101,97,108]
structure Sealed (t b line a k:S) (m n:Nat):Prop where
 text:t=b++line++[10]
 noLf:(10:UInt8)∉line
 body:b.getLast? = some 10
 most:b.length≤4096
 ws:words line=[Wbx,a,k]
 one:value a 65536=some m
 two:value k 65536=some n
 len:t.length≤4116
theorem Sealed.opened {t b line a k:S} {m n:Nat} (h:Sealed t b line a k m n):openedOf t=.ok (b,m,n):=by
 obtain ⟨rfl,h1,h2,h3,h4,h5,h6,h7⟩:=h
 have hl:=Zb3 h1 b (.inr h2)
 have hb:b.length≠0:=fun e=>by rw [List.eq_nil_of_length_eq_zero e] at h2;cases h2
 unfold openedOf
 rw [if_neg (by omega),if_neg (by simp),List.dropLast_concat,hl,List.drop_left,h4]
 simp only
 rw [if_neg (by
  rintro (h | h | h)
  ·exact hb h
  ·omega
  ·exact h rfl),h5,h6]
 simp
theorem openedOf_inv {t b:S} {m n:Nat} (h:openedOf t=.ok (b,m,n)):∃ line a k,Sealed t b line a k m n:=by
 unfold openedOf at h
 split at h
 ·cases h
 ·rename_i h1
  split at h
  ·cases h
  ·rename_i h2
   have h2:t.getLast? = some 10:=by simpa using h2
   obtain ⟨u,rfl⟩:=List.getLast?_eq_some_iff.1 h2
   rw [List.dropLast_concat] at h
   obtain ⟨g1,g2⟩:=lastLine_split _ u rfl
   split at h
   ·rename_i k a b' hw
    split at h
    ·cases h
    ·rename_i h3
     simp only [not_or,Decidable.not_not,Nat.not_lt] at h3
     split at h
     ·rename_i m' n' hm hn
      simp only [Except.ok.injEq,Prod.mk.injEq] at h
      obtain ⟨rfl,rfl,rfl⟩:=h
      have hll:lastLine u≤u.length:=Nat.sub_le _ _
      have ht:(u++[10]).take (lastLine u)=u.take (lastLine u):=List.take_append_of_le_length hll
      refine ⟨u.drop (lastLine u),a,b',⟨?_,g1,?_,?_,?_,hm,hn,by omega⟩⟩
      ·rw [ht,List.take_append_drop]
      ·rw [ht]
       rcases g2 with e | e
       ·exact absurd (by have:=congrArg List.length e;rw [List.length_take,Nat.min_eq_left hll] at this;simpa using this) h3.1
       ·exact e
      ·rw [ht];simp;omega
      ·rw [hw,h3.2.2]
     ·cases h
   ·cases h
theorem openedOf_err {t:S} {e:Int} (h:openedOf t=.error e):e=10∨e=11:=by
 unfold openedOf at h
 split at h
 ·cases h;exact .inl rfl
 ·split at h
  ·cases h;exact .inr rfl
  ·split at h
   ·split at h
    ·cases h;exact .inr rfl
    ·split at h
     ·cases h
     ·cases h;exact .inr rfl
   ·cases h;exact .inr rfl
theorem Uei {t:S} (h:(openOf t).2=0):∃ b m n,openedOf t=.ok (b,m,n)∧sums b=(m,n):=by
 unfold openOf at h
 split at h
 ·rename_i e he
  have:=openedOf_err he
  simp at h
  omega
 ·rename_i b m n he
  split at h
  ·rename_i hs;exact ⟨b,m,n,he,hs⟩
  ·simp at h
theorem Sealed.other {t b line a k:S} {m n:Nat} (h:Sealed t b line a k m n) {i:Nat} (hi:i<b.length) {c:UInt8} {b':S} {m' n':Nat} (ho:openedOf (t.set i c)=.ok (b',m',n')):b'=b.set i c∧m'=m∧n'=n:=by
 have hset:t.set i c=b.set i c++line++[10]:=by
  rw [h.text,List.set_append_left _ _ (by simp;omega),List.set_append_left _ _ hi]
 by_cases hc:i+1<b.length∨c=10
 ·have:Sealed (t.set i c) (b.set i c) line a k m n:=by
   refine ⟨hset,h.noLf,?_,by simpa using h.most,h.ws,h.one,h.two,by simpa using h.len⟩
   rw [List.getLast?_eq_getElem?,List.length_set]
   have hb:=h.body
   rw [List.getLast?_eq_getElem?] at hb
   rw [List.getElem?_set]
   split
   ·rename_i e
    rcases hc with hc | hc
    ·omega
    ·simp [hi,hc]
   ·exact hb
  rw [this.opened] at ho
  simp only [Except.ok.injEq,Prod.mk.injEq] at ho
  exact ⟨ho.1.symm,ho.2.1.symm,ho.2.2.symm⟩
 ·exfalso
  simp only [not_or,Nat.not_lt] at hc
  obtain ⟨line',a',k',h'⟩:=openedOf_inv ho
  obtain ⟨q,hq⟩:=List.getLast?_eq_some_iff.1 h.body
  have hiq:i=q.length:=by rw [hq] at hi hc;simp at hi hc;omega
  have e1:b.set i c=q++[c]:=by rw [hq,hiq];simp
  have e2:b'++line'=q++(c::line):=by
   have:=h'.text
   rw [hset,e1] at this
   have:=List.append_cancel_right this
   simpa using this.symm
  obtain ⟨q',hq'⟩:=List.getLast?_eq_some_iff.1 h'.body
  rcases List.append_eq_append_iff.1 e2 with ⟨x,hx1,hx2⟩ | ⟨x,hx1,hx2⟩
  ·exact Yb7 h.ws (hx2▸h'.ws) rfl
  ·cases x with
   | nil =>
    have e3:line'=[]++c::line:=by simpa using hx2.symm
    exact Yb7 h.ws (e3▸h'.ws) rfl
   | cons y x =>
    simp only [List.cons_append,List.cons.injEq] at hx2
    have hmem:(10:UInt8)∈y::x:=by
     have hb':=h'.body
     rw [hx1,List.getLast?_append] at hb'
     have:(y::x).getLast? = some 10:=by
      cases hz:(y::x).getLast? with
      | none=>simp at hz
      | some z=>rw [hz] at hb';simpa using hb'
     exact List.mem_of_getLast? this
    rcases List.mem_cons.1 hmem with e | e
    ·exact hc.2 (hx2.1.trans e.symm)
    ·exact h.noLf (hx2.2▸List.mem_append_left _ e)
def sgn (more:Nat):Int:=if 32768<more then (more:Int) - 65537 else more
def mendC (t b:S) (m n:Nat):S × Nat × Int :=
 let more:=((sums b).1+65537 - m) % 65537
 let at1:=(((sums b).2+65537 - n) % 65537*inv more) % 65537
 if at1=0∨b.length<at1 then ([],0,6) else
 let v:Int:=((b.getD (at1 - 1) 0).toNat:Int) - sgn more
 if v<0∨255<v then ([],0,6) else
 if (openOf (t.set (at1 - 1) (UInt8.ofNat v.toNat))).2=0 then (t.set (at1 - 1) (UInt8.ofNat v.toNat),at1 - 1,0) else ([],0,6)
theorem Vbh {t:S} {i:Nat} (h:i<t.length) (c:Nat):Wa1 t i c=t.set i (UInt8.ofNat c):=by
 rw [Wa1,List.set_eq_take_append_cons_drop,if_pos h];simp
theorem Ycl {t b line a k:S} {m n:Nat} (h:Sealed t b line a k m n) {i c:Nat} (hi:i<b.length) (hc:c<256) {r:S × Nat} (hr:mendAt t i c=some r):mendC t b m n=(r.1,r.2,0):=by
 have hit:i<t.length:=by rw [h.text];simp;omega
 unfold mendAt at hr
 rw [Vbh hit] at hr
 split at hr
 ·cases hr
 ·rename_i hne
  split at hr
  ·rename_i ho
   obtain rfl:(t.set i (UInt8.ofNat c),i)=r:=by simpa using hr
   obtain ⟨b',m',n',h1,h2⟩:=Uei ho
   obtain ⟨rfl,rfl,rfl⟩:=h.other hi h1
   have hcb:(UInt8.ofNat c).toNat=c:=by simp;omega
   have hbi:t[i]'hit=b[i]:=by simp only [h.text];rw [List.getElem_append_left (by simp;omega),List.getElem_append_left hi]
   have hx:b[i].toNat≠c:=by
    intro e
    apply hne
    have:UInt8.ofNat c=t[i]'hit:=by rw [hbi,← e];simp
    rw [this,List.set_getElem_self]
   have hx2:b[i].toNat<256:=b[i].toNat_lt
   rw [sums_eq] at h2
   simp only [Prod.mk.injEq] at h2
   have t1:=Ucm b i hi (UInt8.ofNat c)
   have t2:=Udu b i 0 hi (UInt8.ofNat c)
   rw [hcb] at t1 t2
   have e1:=Wdp hx2 hc t1 h2.1
   have e2:=Ue9 hx2 hc (by simpa using t2) h2.2
   have hib:i<4096:=Nat.lt_of_lt_of_le hi h.most
   have e3:=Ugx hx2 hc hx (show i+1<65537 by omega)
   unfold mendC
   rw [sums_eq]
   simp only
   rw [e1,e2,e3]
   rw [if_neg (by omega)]
   have e4:b.getD i 0=b[i]:=by simp [List.getD_eq_getElem?_getD,hi]
   rw [Nat.add_sub_cancel,e4]
   have e5:(b[i].toNat:Int) - sgn (Yy b[i].toNat c)=c:=by
    unfold sgn Yy
    split<;>omega
   rw [e5,if_neg (by omega),Int.toNat_natCast,if_pos ho]
  ·cases hr
theorem Vd0 {t b line a k:S} {m n:Nat} (h:Sealed t b line a k m n) (h0:(mendC t b m n).2.2=0):∃ i c,i<b.length∧c<256∧(mendAt t i c).isSome=true:=by
 unfold mendC at h0
 simp only at h0
 generalize hmore:((sums b).1+65537 - m) % 65537=more at *
 generalize hat:((sums b).2+65537 - n) % 65537*inv more % 65537=at1 at *
 split at h0
 ·simp at h0
 ·rename_i h1
  split at h0
  ·simp at h0
  ·rename_i h2
   split at h0
   ·rename_i h3
    have hi:at1 - 1<b.length:=by omega
    have hit:at1 - 1<t.length:=by rw [h.text];simp;omega
    generalize hv:((b.getD (at1 - 1) 0).toNat:Int) - sgn more=v at *
    refine ⟨at1 - 1,v.toNat,hi,by omega,?_⟩
    unfold mendAt
    rw [Vbh hit,if_pos h3,if_neg]
    ·rfl
    ·intro e
     have e4:b.getD (at1 - 1) 0=b[at1 - 1]:=by simp [List.getD_eq_getElem?_getD,hi]
     have hbi:t[at1 - 1]'hit=b[at1 - 1]:=by simp only [h.text];rw [List.getElem_append_left (by simp;omega),List.getElem_append_left hi]
     have e5:t[at1 - 1]'hit=UInt8.ofNat v.toNat:=by
      have:=congrArg (fun l=>l[at1 - 1]?) e
      simp [hit] at this
      exact this.symm
     rw [hbi] at e5
     have e6:b[at1 - 1].toNat=v.toNat:=by rw [e5];simp;omega
     rw [e4,e6] at hv
     have hm0:more=0:=by
      have:more<65537:=by rw [← hmore];exact Nat.mod_lt _ (by decide)
      unfold sgn at hv
      split at hv<;>omega
     have hinv:inv more=0:=by rw [hm0];decide +kernel
     rw [hinv] at hat
     simp at hat
     omega
   ·simp at h0
theorem Xfq (t b:S) (m n:Nat):mendC t b m n=([],0,6)∨(mendC t b m n).2.2=0:=by
 unfold mendC
 simp only
 split
 ·exact .inl rfl
 ·split
  ·exact .inl rfl
  ·split
   ·exact .inr rfl
   ·exact .inl rfl
theorem mendOf_eq {t b:S} {m n:Nat} (h:openedOf t=.ok (b,m,n)) (hs:sums b≠(m,n)):mendOf t=mendC t b m n:=by
 obtain ⟨line,a,k,hS⟩:=openedOf_inv h
 have ho:openOf t=(b,8):=by unfold openOf;rw [h];simp [hs]
 unfold mendOf
 rw [ho]
 simp only
 rw [if_neg (by decide),if_neg (by decide)]
 cases hf:(List.range b.length).findSome? fun i=>(List.range 256).findSome? fun c=>mendAt t i c with
 | some r =>
  obtain ⟨i,hi,h1⟩:=List.exists_of_findSome?_eq_some hf
  obtain ⟨c,hc,h2⟩:=List.exists_of_findSome?_eq_some h1
  rw [Ycl hS (List.mem_range.1 hi) (List.mem_range.1 hc) h2]
 | none =>
  rcases Xfq t b m n with e | e
  ·rw [e]
  ·obtain ⟨i,c,hi,hc,h2⟩:=Vd0 hS e
   rw [List.findSome?_eq_none_iff] at hf
   have:=hf i (List.mem_range.2 hi)
   rw [List.findSome?_eq_none_iff] at this
   rw [this c (List.mem_range.2 hc)] at h2
   cases h2
end Oyez

/-
  Texts packed for a claim.
-/
set_option linter.all false
namespace Oyez
abbrev S:=List UInt8
structure Place where
 kind:Int
 number:Int
 deriving DecidableEq
structure Rec where
 kind:Int
 number:Int
 words:List S
 deriving DecidableEq
structure Chg where
 kind:Int
 number:Int
 had:Bool
 has:Bool
 old:List S
 new:List S
 deriving DecidableEq
def Rec.place (r:Rec):Place:=⟨r.kind,r.number⟩
def Chg.place (c:Chg):Place:=⟨c.kind,c.number⟩
def Place.lt (p q:Place):Bool:=decide (p.kind<q.kind)||(p.kind == q.kind&&decide (p.number<q.number))
def isLow (c:UInt8):Bool:=97≤c&&c≤122
def isDig (c:UInt8):Bool:=48≤c&&c≤57
def isWordByte (c:UInt8):Bool:=isLow c||isDig c
def word (w:S):Bool:=w.all isWordByte&&(decide (1≤w.length)&&decide (w.length≤12))
def nameN:Nat→S
 | 0=>[115,116,97,110,100]
 | 1=>[110,111,116,105,99,101]
 | 2=>[102,105,110,100]
 | 3=>[102,101,101]
 | _=>[112,108,101,97]
def name (k:Int):S:=nameN k.toNat
def Uak:Nat→Nat→S
 | 0,_=>[]
 | f+1,n=>if n<10 then [UInt8.ofNat (48+n)] else Uak f (n / 10)++[UInt8.ofNat (48+n % 10)]
def digitsN (n:Nat):S:=Uak (n+1) n
theorem Ugy:∀ (f g n:Nat),n<f→n<g→Uak f n=Uak g n:=by
 intro f
 induction f with
 | zero=>intro g n h;omega
 | succ f ih =>
  intro g n _ hg
  cases g with
  | zero=>omega
  | succ g =>
   simp only [Uak]
   split
   ·rfl
   ·rw [ih g (n / 10) (by omega) (by omega)]
theorem digitsN_lt {n:Nat} (h:n<10):digitsN n=[UInt8.ofNat (48+n)]:=by simp [digitsN,Uak,h]
theorem digitsN_ge {n:Nat} (h:10≤n):digitsN n=digitsN (n / 10)++[UInt8.ofNat (48+n % 10)]:=by
 rw [digitsN,Uak,if_neg (by omega),Ugy n (n / 10+1) (n / 10) (by omega) (by omega)]
 rfl
def digits (n:Int):S:=digitsN n.toNat
def line (k n:Int) (ws:List S):S:=name k++[32]++digits n++ws.flatMap (fun w=>32::w)
def placeErr (k n:Int):Int:=if k<0∨4<k then 12 else if n<0∨999<n then 3 else 0
def wordsErr (k n:Int) (ws:List S):Int :=
 if 6<ws.length then 2 else if ws.all word=false then 11 else if 64<(line k n ws).length then 10 else 0
def oneErr (k n:Int) (ws:List S):Int:=if placeErr k n≠0 then placeErr k n else wordsErr k n ws
def recErr (r:Rec):Int:=oneErr r.kind r.number r.words
def checkFrom:Option Place→List Rec→Int
 | _,[]=>0
 | p,r::t=>if recErr r≠0 then recErr r else if p.all (fun q=>q.lt r.place)=false then 4 else checkFrom (some r.place) t
def check (f:List Rec):Int:=if 40<f.length then 2 else checkFrom none f
def print (f:List Rec):S:=f.flatMap (fun r=>line r.kind r.number r.words++[10])
def Zo (c:UInt8):S→List S
 | []=>[[]]
 | b::t=>if b=c then []::Zo c t else
  match Zo c t with
  | []=>[[b]]
  | w::r=>(b::w)::r
def words (l:S):List S:=Zo 32 l
def Ybz:S→Nat→Option Nat
 | [],n=>some n
 | c::t,n=>if isDig c then Ybz t (10*n+(c.toNat - 48)) else none
def value (w:S) (most:Nat):Option Nat :=
 if w.isEmpty then none else if 6<w.length then none else if w.head? = some 48∧1<w.length then none else
 match Ybz w 0 with
 | some n=>if most<n then none else some n
 | none=>none
def kindOf (w:S):Option Int :=
 if w=nameN 0 then some 0 else if w=nameN 1 then some 1 else if w=nameN 2 then some 2 else if w=nameN 3 then some 3 else if w=nameN 4 then some 4 else none
def Ub3:List S→Nat→Option Nat
 | [],_=>none
 | w::t,i=>if word w then Ub3 t (i+1) else some i
def Ucw (own:S) (ended:Bool) (at_:Nat):Except (Nat × Int) Rec :=
 if 40≤at_ then .error (0,2) else if 64<own.length then .error (0,10) else if !ended then .error (0,11) else
 match words own with
 | []=>.error (0,12)
 | k::t =>
  match kindOf k with
  | none=>.error (0,12)
  | some kind =>
   match t with
   | []=>.error (1,11)
   | n::ws =>
    match value n 999 with
    | none=>.error (1,11)
    | some num =>
     if 6<ws.length then .error (8,2) else
     match Ub3 ws 2 with
     | some i=>.error (i,11)
     | none=>.ok ⟨kind,num,ws⟩
def cutLine:S→S × Bool × S
 | []=>([],false,[])
 | b::t=>if b=10 then ([],true,t) else (b::(cutLine t).1,(cutLine t).2.1,(cutLine t).2.2)
structure Parsed where
 recs:List Rec
 line:Nat
 word:Nat
 err:Int
 deriving DecidableEq
def linesOf:S→List (S × Bool)
 | []=>[]
 | b::t=>if b=10 then ([],true)::linesOf t else
  match linesOf t with
  | []=>[([b],false)]
  | (w,e)::r=>(b::w,e)::r
def parseLines:List (S × Bool)→Option Place→Nat→Parsed
 | [],_,_=>⟨[],0,0,0⟩
 | (own,ended)::t,prev,line =>
  match Ucw own ended line with
  | .error (w,e)=>⟨[],line,w,e⟩
  | .ok r =>
   if prev.all (fun q=>q.lt r.place)=false then ⟨[],line,1,4⟩ else
   let p:=parseLines t (some r.place) (line+1)
   if p.err=0 then ⟨r::p.recs,0,0,0⟩ else p
def parse (text:S):Parsed:=parseLines (linesOf text) none 0
def getIn (f:List Rec) (p:Place):Option (List S):=(f.find? (fun r=>decide (r.place=p))).map (·.words)
def Wb6 (c:Chg):Int :=
 if placeErr c.kind c.number≠0 then placeErr c.kind c.number else
 if wordsErr c.kind c.number c.old≠0 then wordsErr c.kind c.number c.old else
 if wordsErr c.kind c.number c.new≠0 then wordsErr c.kind c.number c.new else
 if (!c.had&&!c.old.isEmpty)||(!c.has&&!c.new.isEmpty)||(c.had == c.has&&decide (c.old=c.new)) then 8 else 0
def Vcd:Option Place→List Chg→Int
 | _,[]=>0
 | p,c::t=>if Wb6 c≠0 then Wb6 c else if p.all (fun q=>q.lt c.place)=false then 4 else Vcd (some c.place) t
def Zh9 (l:List Chg):Int:=if 80<l.length then 2 else Vcd none l
def Wce:S→Nat→Nat→Nat→Nat × Nat
 | [],_,a,b=>(a,b)
 | c::t,i,a,b=>Wce t (i+1) ((a+c.toNat) % 65537) ((b+(i+1)*c.toNat) % 65537)
def sums (t:S):Nat × Nat:=Wce t 0 0 0
def Zbb (t:S):S:=t++[115,101,97,108,32]++digitsN (sums t).1++[32]++digitsN (sums t).2++[10]
def sealOf (t:S):S × Int:=if 4096<t.length then ([],10) else if t.getLast?≠some 10 then ([],11) else (Zbb t,0)
end Oyez
namespace Oyez
def Yt (u:S):Nat:=u.length - (u.reverse.takeWhile (fun c=>c != 10)).length
def openedOf (t:S):Except Int (S × Nat × Nat) :=
 if 4116<t.length then .error 10 else
 if t.getLast?≠some 10 then .error 11 else
 match words (t.dropLast.drop (Yt t.dropLast)) with
 | [k,a,b] =>
  if Yt t.dropLast=0∨4096<Yt t.dropLast∨k≠[115,101,97,108] then .error 11 else
  match value a 65536,value b 65536 with
  | some m,some n=>.ok (t.take (Yt t.dropLast),m,n)
  | _,_=>.error 11
 | _=>.error 11
def Ybi (t:S):S × Int :=
 match openedOf t with
 | .error e=>([],e)
 | .ok (b,m,n)=>if sums b=(m,n) then (b,0) else (b,8)
def Wa8 (t:S) (i c:Nat):S:=t.take i++[UInt8.ofNat c]++t.drop (i+1)
def Uc9 (t:S) (i c:Nat):Option (S × Nat):=if Wa8 t i c=t then none else if (Ybi (Wa8 t i c)).2=0 then some (Wa8 t i c,i) else none
def Zip (t:S):S × Nat × Int :=
 match Ybi t with
 | (b,e) =>
  if e=0 then ([],0,5) else if e≠8 then ([],0,e) else
  match (List.range b.length).findSome? fun i=>(List.range 256).findSome? fun c=>Uc9 t i c with
  | some (m,i)=>(m,i,0)
  | none=>([],0,6)
abbrev St:=Option (List S)
def chg (p:Place) (x y:St):Chg:=⟨p.kind,p.number,x.isSome,y.isSome,x.getD [],y.getD []⟩
def Chg.was (c:Chg):St:=if c.had then some c.old else none
def Chg.now (c:Chg):St:=if c.has then some c.new else none
def allPlaces:List Place:=(List.range 5).flatMap fun (k:Nat)=>(List.range 1000).map fun (n:Nat)=>(⟨(k:Int),(n:Int)⟩:Place)
def Wcc (p:Place):List Place→List Place
 | []=>[p]
 | q::t=>if p.lt q then p::q::t else if q.lt p then q::Wcc p t else q::t
def placesOf (l:List Place):List Place:=l.foldl (fun a p=>Wcc p a) []
def Xcv (a b:List Rec) (p:Place):Option Chg:=if getIn a p=getIn b p then none else some (chg p (getIn a p) (getIn b p))
def Yiu (a b:List Rec):List Chg:=(placesOf ((a++b).map Rec.place)).filterMap (Xcv a b)
structure Jn where
 out:List Rec
 conf:List Chg
def Ycg (base a b:List Rec) (second:List Bool) (s:Jn) (p:Place):Jn :=
 let x:=getIn base p
 let y:=getIn a p
 let z:=getIn b p
 let put (w:St):List Rec:=match w with
  | some ws=>s.out++[⟨p.kind,p.number,ws⟩]
  | none=>s.out
 if y=z∨z=x then ⟨put y,s.conf⟩ else if y=x then ⟨put z,s.conf⟩ else
 ⟨put (match second[s.conf.length]? with | none=>x | some c=>if c then z else y),s.conf++[chg p y z]⟩
def join (base a b:List Rec) (second:List Bool):Jn:=(placesOf ((base++a++b).map Rec.place)).foldl (Ycg base a b second) ⟨[],[]⟩
def back (l:List Chg):List Chg:=l.map fun c=>⟨c.kind,c.number,c.has,c.had,c.new,c.old⟩
def drop (f:List Rec) (p:Place):List Rec:=f.filter fun r=>!decide (r.place=p)
def Vce (r:Rec):List Rec→List Rec
 | []=>[r]
 | q::t=>if r.place.lt q.place then r::q::t else q::Vce r t
def put (f:List Rec) (r:Rec):List Rec:=Vce r (drop f r.place)
def Xhb (f:List Rec) (c:Chg):List Rec:=if c.has then put f ⟨c.kind,c.number,c.new⟩ else drop f c.place
def fits (f:List Rec) (l:List Chg):Bool:=l.all fun c=>decide (getIn f c.place=c.was)
def make (f:List Rec) (l:List Chg):List Rec:=l.foldl Xhb f
def Ub4 (l:List Chg) (p:Place):Option Chg:=l.find? fun c=>decide (c.place=p)
def Vfd (x y:List Chg) (p:Place):Except Unit (Option Chg) :=
 match Ub4 x p,Ub4 y p with
 | none,none=>.ok none
 | some c,none=>.ok (some c)
 | none,some d=>.ok (some d)
 | some c,some d=>if c.now=d.was then .ok (if c.was=d.now then none else some (chg p c.was d.now)) else .error ()
def Ubg (x y:List Chg):List Place→Except Unit (List Chg)
 | []=>.ok []
 | p::t=>match Vfd x y p with
  | .error _=>.error ()
  | .ok none=>Ubg x y t
  | .ok (some c)=>match Ubg x y t with
   | .ok l=>.ok (c::l)
   | .error _=>.error ()
def after (x y:List Chg):Except Unit (List Chg):=Ubg x y (placesOf ((x++y).map Chg.place))
end Oyez
namespace Oyez
theorem Place.lt_iff (p q:Place):p.lt q=true↔p.kind<q.kind∨(p.kind=q.kind∧p.number<q.number):=by simp [Place.lt]
theorem Place.ext' {p q:Place} (h:p.kind=q.kind) (h':p.number=q.number):p=q:=by cases p;cases q;simp_all
theorem Place.lt_irrefl (p:Place):p.lt p=false:=by rw [Bool.eq_false_iff];intro h;rw [Place.lt_iff] at h;omega
theorem Place.lt_trans {p q r:Place} (h:p.lt q=true) (h':q.lt r=true):p.lt r=true:=by rw [Place.lt_iff] at *;omega
theorem Place.lt_tri {p q:Place} (h:p.lt q=false) (h':q.lt p=false):p=q:=by
 rw [Bool.eq_false_iff,ne_eq,Place.lt_iff] at h h'
 exact Place.ext' (by omega) (by omega)
def Sorted (l:List Place):Prop:=l.Pairwise fun p q=>p.lt q=true
theorem Ugc (p:Place):p∈allPlaces↔(0≤p.kind∧p.kind<5)∧0≤p.number∧p.number<1000:=by
 unfold allPlaces
 simp only [List.mem_flatMap,List.mem_range,List.mem_map]
 constructor
 ·rintro ⟨k,hk,n,hn,rfl⟩
  exact ⟨⟨Int.natCast_nonneg _,by show (k:Int)<5;omega⟩,Int.natCast_nonneg _,by show (n:Int)<1000;omega⟩
 ·rintro ⟨⟨h1,h2⟩,h3,h4⟩
  exact ⟨p.kind.toNat,by omega,p.number.toNat,by omega,Place.ext' (by show ((p.kind.toNat:Nat):Int)=p.kind;omega) (by show ((p.number.toNat:Nat):Int)=p.number;omega)⟩
end Oyez
namespace Oyez
def tot:S→Nat
 | []=>0
 | c::t=>c.toNat+tot t
def Yhc:S→Nat→Nat
 | [],_=>0
 | c::t,i=>(i+1)*c.toNat+Yhc t (i+1)
def inv (n:Nat):Nat:=n^65535 % 65537
def Zio (x c:Nat):Nat:=(65537+x - c) % 65537
theorem Wbe (c:UInt8) (s:S):Zo c s≠[]:=by
 cases s with
 | nil=>simp [Zo]
 | cons b t =>
  unfold Zo
  split
  ·simp
  ·split<;>simp
theorem Xea (c:UInt8) (x y:S):(Zo c (x++y)).length+1=(Zo c x).length+(Zo c y).length:=by
 induction x with
 | nil=>simp [Zo];omega
 | cons b t ih =>
  simp only [List.cons_append,Zo]
  split
  ·simp only [List.length_cons];omega
  ·have h1:=Wbe c (t++y)
   have h2:=Wbe c t
   revert ih
   cases hx:Zo c (t++y) with
   | nil=>exact absurd hx h1
   | cons w r =>
    cases hy:Zo c t with
    | nil=>exact absurd hy h2
    | cons w' r'=>intro ih;simpa using ih
theorem Zdm (c:UInt8):∀ (x:S),c∉x→∀ (y w:S) (r:List S),Zo c y=w::r→Zo c (x++y)=(x++w)::r:=by
 intro x
 induction x with
 | nil=>intro _ y w r h;exact h
 | cons b t ih =>
  intro hc y w r h
  simp only [List.mem_cons,not_or] at hc
  simp only [List.cons_append,Zo,if_neg (Ne.symm hc.1),ih hc.2 y w r h]
theorem Ycw (c:UInt8) (x:S) (h:c∈x):2≤(Zo c x).length:=by
 induction x with
 | nil=>simp at h
 | cons b t ih =>
  unfold Zo
  have h1:=List.length_pos_iff.2 (Wbe c t)
  split
  ·simp only [List.length_cons];omega
  ·rename_i hb
   have:=ih (by simpa [Ne.symm hb] using h)
   cases hx:Zo c t with
   | nil=>rw [hx] at this;simp at this
   | cons w r=>rw [hx] at this;simpa using this
theorem Yby {line k a b:S} (h:words line=[k,a,b]) {q:S} {c:UInt8} {k' a' b':S} (h':words (q++c::line)=[k',a',b']):k'≠k:=by
 have e:q++c::line=(q++[c])++line:=by simp
 rw [e] at h'
 by_cases hb:(32:UInt8)∈q++[c]
 ·have h1:=Xea 32 (q++[c]) line
  have h2:=Ycw 32 _ hb
  unfold words at h h'
  rw [h,h'] at h1
  simp at h1
  omega
 ·have h1:=Zdm 32 _ hb line k [a,b] h
  unfold words at h'
  rw [h'] at h1
  simp only [List.cons.injEq] at h1
  intro hk
  have:=congrArg List.length (h1.1.symm.trans hk)
  simp at this
  omega
theorem Wco {line:S} (h:(10:UInt8)∉line) (body:S) (hb:body=[]∨body.getLast? = some 10):((body++line).reverse.takeWhile (fun c=>c != 10))=line.reverse:=by
 rw [List.reverse_append]
 have h1:∀ x∈line.reverse,(x != 10)=true:=fun x hx=>by
  simp at hx ⊢;exact fun e=>h (e▸hx)
 rw [List.takeWhile_append_of_pos h1]
 rcases hb with rfl | hb
 ·simp
 ·obtain ⟨ys,rfl⟩:=List.getLast?_eq_some_iff.1 hb
  simp
theorem Zcf {line:S} (h:(10:UInt8)∉line) (body:S) (hb:body=[]∨body.getLast? = some 10):Yt (body++line)=body.length:=by
 unfold Yt
 rw [Wco h body hb]
 simp
theorem Yhr:∀ n (u:S),u.length=n→(10:UInt8)∉u.drop (Yt u)∧(u.take (Yt u)=[]∨(u.take (Yt u)).getLast? = some 10):=by
 have key:∀ u:S,∃ body line,u=body++line∧(10:UInt8)∉line∧(body=[]∨body.getLast? = some 10):=by
  intro u
  suffices h:∀ v:S,∃ body line,v.reverse=body++line∧(10:UInt8)∉line∧(body=[]∨body.getLast? = some 10) by
   have:=h u.reverse;rwa [List.reverse_reverse] at this
  intro v
  induction v with
  | nil=>exact ⟨[],[],rfl,by simp,.inl rfl⟩
  | cons b t ih =>
   by_cases hb:b=10
   ·subst hb
    exact ⟨t.reverse++[10],[],by simp,by simp,.inr (by simp)⟩
   ·obtain ⟨body,line,h1,h2,h3⟩:=ih
    exact ⟨body,line++[b],by simp [h1],by simp [h2];exact fun e=>hb e.symm,h3⟩
 intro n u _
 obtain ⟨body,line,rfl,h2,h3⟩:=key u
 rw [Zcf h2 body h3]
 simpa using ⟨h2,h3⟩
abbrev Zem:S:=[115,101,97,108]
structure Sealed (t b line a k:S) (m n:Nat):Prop where
 text:t=b++line++[10]
 noLf:(10:UInt8)∉line
 body:b.getLast? = some 10
 most:b.length≤4096
 ws:words line=[Zem,a,k]
 one:value a 65536=some m
 two:value k 65536=some n
 len:t.length≤4116
theorem Sealed.opened {t b line a k:S} {m n:Nat} (h:Sealed t b line a k m n):openedOf t=.ok (b,m,n):=by
 obtain ⟨rfl,h1,h2,h3,h4,h5,h6,h7⟩:=h
 have hl:=Zcf h1 b (.inr h2)
 have hb:b.length≠0:=fun e=>by rw [List.eq_nil_of_length_eq_zero e] at h2;cases h2
 unfold openedOf
 rw [if_neg (by omega),if_neg (by simp),List.dropLast_concat,hl,List.drop_left,h4]
 simp only
 rw [if_neg (by
  rintro (h | h | h)
  ·exact hb h
  ·omega
  ·exact h rfl),h5,h6]
 simp
theorem Wgo {t b:S} {m n:Nat} (h:openedOf t=.ok (b,m,n)):∃ line a k,Sealed t b line a k m n:=by
 unfold openedOf at h
 split at h
 ·cases h
 ·rename_i h1
  split at h
  ·cases h
  ·rename_i h2
   have h2:t.getLast? = some 10:=by simpa using h2
   obtain ⟨u,rfl⟩:=List.getLast?_eq_some_iff.1 h2
   rw [List.dropLast_concat] at h
   obtain ⟨g1,g2⟩:=Yhr _ u rfl
   split at h
   ·rename_i k a b' hw
    split at h
    ·cases h
    ·rename_i h3
     simp only [not_or,Decidable.not_not,Nat.not_lt] at h3
     split at h
     ·rename_i m' n' hm hn
      simp only [Except.ok.injEq,Prod.mk.injEq] at h
      obtain ⟨rfl,rfl,rfl⟩:=h
      have hll:Yt u≤u.length:=Nat.sub_le _ _
      have ht:(u++[10]).take (Yt u)=u.take (Yt u):=List.take_append_of_le_length hll
      refine ⟨u.drop (Yt u),a,b',⟨?_,g1,?_,?_,?_,hm,hn,by omega⟩⟩
      ·rw [ht,List.take_append_drop]
      ·rw [ht]
       rcases g2 with e | e
       ·exact absurd (by have:=congrArg List.length e;rw [List.length_take,Nat.min_eq_left hll] at this;simpa using this) h3.1
       ·exact e
      ·rw [ht];simp;omega
      ·rw [hw,h3.2.2]
     ·cases h
   ·cases h
theorem Sealed.other {t b line a k:S} {m n:Nat} (h:Sealed t b line a k m n) {i:Nat} (hi:i<b.length) {c:UInt8} {b':S} {m' n':Nat} (ho:openedOf (t.set i c)=.ok (b',m',n')):b'=b.set i c∧m'=m∧n'=n:=by
 have hset:t.set i c=b.set i c++line++[10]:=by
  rw [h.text,List.set_append_left _ _ (by simp;omega),List.set_append_left _ _ hi]
 by_cases hc:i+1<b.length∨c=10
 ·have:Sealed (t.set i c) (b.set i c) line a k m n:=by
   refine ⟨hset,h.noLf,?_,by simpa using h.most,h.ws,h.one,h.two,by simpa using h.len⟩
   rw [List.getLast?_eq_getElem?,List.length_set]
   have hb:=h.body
   rw [List.getLast?_eq_getElem?] at hb
   rw [List.getElem?_set]
   split
   ·rename_i e
    rcases hc with hc | hc
    ·omega
    ·simp [hi,hc]
   ·exact hb
  rw [this.opened] at ho
  simp only [Except.ok.injEq,Prod.mk.injEq] at ho
  exact ⟨ho.1.symm,ho.2.1.symm,ho.2.2.symm⟩
 ·exfalso
  simp only [not_or,Nat.not_lt] at hc
  obtain ⟨line',a',k',h'⟩:=Wgo ho
  obtain ⟨q,hq⟩:=List.getLast?_eq_some_iff.1 h.body
  have hiq:i=q.length:=by rw [hq] at hi hc;simp at hi hc;omega
  have e1:b.set i c=q++[c]:=by rw [hq,hiq];simp
  have e2:b'++line'=q++(c::line):=by
   have:=h'.text
   rw [hset,e1] at this
   have:=List.append_cancel_right this
   simpa using this.symm
  obtain ⟨q',hq'⟩:=List.getLast?_eq_some_iff.1 h'.body
  rcases List.append_eq_append_iff.1 e2 with ⟨x,hx1,hx2⟩ | ⟨x,hx1,hx2⟩
  ·exact Yby h.ws (hx2▸h'.ws) rfl
  ·cases x with
   | nil =>
    have e3:line'=[]++c::line:=by simpa using hx2.symm
    exact Yby h.ws (e3▸h'.ws) rfl
   | cons y x =>
    simp only [List.cons_append,List.cons.injEq] at hx2
    have hmem:(10:UInt8)∈y::x:=by
     have hb':=h'.body
     rw [hx1,List.getLast?_append] at hb'
     have:(y::x).getLast? = some 10:=by
      cases hz:(y::x).getLast? with
      | none=>simp at hz
      | some z=>rw [hz] at hb';simpa using hb'
     exact List.mem_of_getLast? this
    rcases List.mem_cons.1 hmem with e | e
    ·exact hc.2 (hx2.1.trans e.symm)
    ·exact h.noLf (hx2.2▸List.mem_append_left _ e)
def sgn (more:Nat):Int:=if 32768<more then (more:Int) - 65537 else more
def mendC (t b:S) (m n:Nat):S × Nat × Int :=
 let more:=((sums b).1+65537 - m) % 65537
 let at1:=(((sums b).2+65537 - n) % 65537*inv more) % 65537
 if at1=0∨b.length<at1 then ([],0,6) else
 let v:Int:=((b.getD (at1 - 1) 0).toNat:Int) - sgn more
 if v<0∨255<v then ([],0,6) else
 if (Ybi (t.set (at1 - 1) (UInt8.ofNat v.toNat))).2=0 then (t.set (at1 - 1) (UInt8.ofNat v.toNat),at1 - 1,0) else ([],0,6)
end Oyez

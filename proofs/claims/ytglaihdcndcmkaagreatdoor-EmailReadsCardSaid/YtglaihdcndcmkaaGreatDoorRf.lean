/- Texts of this proof, merged. -/
import Derived.Test.YtglaihdcndcmkaaGreatDoorRe
import Derived.WalkKit
import Derived.WalkSpells
import Derived.WalkLawsBesides
import Derived.Lib.Hide
import Derived.BigQuiet
import Derived.Lib.QuietBelow
import Derived.ShutString
import Derived.Deep.Light
import Derived.Lib.UnsafeStr
import Derived.Lib.Strings
import Derived.Lib.IndexBytes
import Derived.Lib.IndexMore
import Derived.Lib.SlTrimSet
import Derived.Shelf.Strings.Builder1
import Derived.Shelf.Strings.Builder2
import Derived.Shelf.Strings.Trim
import Derived.Shelf.Small.Utf8
import Derived.Shelf.Small.Strs
import Derived.Shelf.Small.Wraps
import Derived.Shelf.Strings.BuilderF
import Derived.Shelf.Strings.BuilderK
import Derived.Shelf.Utf8.RuneCount
import Derived.Shelf.Strings.Builder2Cap
import Derived.Shelf.Strings.Search1
import Derived.Shelf.Strings.Search2
import Derived.Shelf.Strings.Search3
import Derived.Shelf.Strings.Cut
import Derived.Shelf.Strings.Count
import Derived.Shelf.LaysM
import Derived.Shelf.Strings.Shaped
import Derived.Shelf.Strings.LastIndex
import Derived.Shelf.Strings.Prefix
import Derived.Shelf.Strings.Split
import Derived.Shelf.Strings.Replace
import Derived.Shelf.Strings.SplitShaped
import Derived.Shelf.Unicode.Decode
import Derived.Shelf.Strings.Runes
import Derived.Shelf.Strings.RuneCount
import Derived.Shelf.Strings.AsciiSet
import Derived.Shelf.Unicode.DecodeSlow
import Derived.Shelf.Unicode.DecodeAny
import Derived.Shelf.Unicode.DecodeLast
import Derived.Shelf.Strings.BuilderCap
import Derived.Shelf.Slices.Turned
import Derived.Ground.PaProg
import Derived.Shelf.Path.Small
import Derived.Test.YtglaihdcndcmkaaGreatDoorProg
import Derived.Test.YtglaihdcndcmkaaGreatDoorRows
import Derived.Lib.FrozenHead2
import Derived.Lib.OthersKept
import Derived.Lib.Builder
import Derived.Laws.Externs
import Derived.Lib.Replace
import Derived.Lib.Index
import Derived.Shelf.Strings.SlTrimAscii
import Derived.Laws.OwnMore
import Derived.Laws.IdiomStrings
import Derived.RangeFuncNested
import Derived.RangeFuncBound
import Derived.RangeFuncCalls
import Derived.RangeFuncLeaves
import Derived.RangeFuncBox
import Derived.Shelf.Abstract
import Derived.Shelf.RegionOpen
import Derived.OwnWalkIn
import Derived.TacticsInMore
import Derived.LoopNIn
import Derived.LoopIn
import Derived.ScopeJumps
import Derived.StillTail
import Derived.RegionTactic
import Derived.ChangeAlike
import Derived.Maps.AppendAt
import Derived.OwnWalk
set_option linter.all false
open Go wa Go.Proofs Go.RowKit Go.Proofs.YtglaihdcndcmkaaGreatDoor
set_option maxHeartbeats 4000000
namespace wa
instance ze4{p:UInt8->Prop}[DecidablePred p]:Decidable (∀c,p c):=
 decidable_of_iff (∀i:Fin 256,p ⟨⟨i⟩⟩) ⟨fun h c=>h c.toBitVec.toFin,fun h i=>h _⟩
def ud(v:Value)(w:World)(e:Ending)(w':World):Prop:=e=.returned v/\Below w.heap.size w w'
def Rb(v:Value)(w:World)(e:Ending)(w':World):Prop:=e=.returned v/\w=w'
def r1{v a}(h:v=a):Ending.returned v=.returned a:=by rw[h]
def t2{a b c d}(h:a=b)(e:c=d):Ending.returned (.tuple #[a,c])=.returned (.tuple #[b,d]):=by rw[h,e]
def t3{a b c d e f}(h:a=b)(i:c=d)(g:e=f):Ending.returned (.tuple #[a,c,e])=.returned (.tuple #[b,d,f]):=by rw[h,i,g]
def vi{k}{a b}(h:a=b):Value.int k a=.int k b:=by rw[h]
def vb{a b}(h:a=b):Value.bool a=.bool b:=by rw[h]
theorem vs{a b:List UInt8}(h:a=b):Value.string ⟨a.toArray⟩=.string ⟨b.toArray⟩:=by rw[h]
def vS{s}{b}(h:s.data.toList=b):Value.string s=.string ⟨b.toArray⟩:=by
 subst h;rfl
def Z_{P}{f}{args}{w}{v}(h:Calls P f args w (Rb v w)):Calls P f args w (ud v w):=
 h.mono fun _ _ ⟨a,b⟩=>⟨a,b▸Below.refl _ _⟩
def xS{P}{f}{args}{w}{d}{os}{v}(h:∀w,Calls P f args w (ud v w)):
 Calls P f args (Go.Sort.grow (redrawn w d) os) fun e a=>e=.returned v/\∃p:Regrown,a=Go.Sort.grow (redrawn w p.d) p.os:=Calls.regrown_of (h _)
def Y_{P}{f}{args}{w}{d}{os}{v}(h:∀w,Calls P f args w (Rb v w)):
 Calls P f args (Go.Sort.grow (redrawn w d) os) fun e a=>e=.returned v/\∃p:Regrown,a=Go.Sort.grow (redrawn w p.d) p.os:=xS fun w=>Z_ (h w)
def Kr(w)(n):Below w.heap.size w (w.drewN n):=⟨rfl,rfl,rfl,la _,fun _ _=>rfl⟩
def rx{w a b}(h:Below w.heap.size w a)(k:Below a.heap.size a b):Below w.heap.size w b:=h.trans (k.mono h.size)
theorem oY{P}{a dst e}(hs:P.underlying a=some (.slice e))(d:P.underlying e=some (.int .u8))(c:P.underlying dst=some .string)(w:World)(x y):
 (convert a dst (.slice (some ⟨w.heap.size,0,none⟩) 2 2)).run P (w.alloc (.cells #[.int .u8 x.toNat,.int .u8 y.toNat] e)).drew=.ok (.string ⟨#[x,y]⟩) (w.alloc (.cells #[.int .u8 x.toNat,.int .u8 y.toNat] e)).drew:=
 run_convert_bytes_back _ a dst e ⟨w.heap.size,0,none⟩ 2 [x,y] hs d c (by
  intro j b
  match j,b with
  |0,b=>simp[Addr.add]
  |1,b=>simp[Addr.add])
def Am{P}{ops}{rest}{o}{a}{Q}(A:o.guard=none)(s x)(t)
 (M:o.op=.call {callee:=.builtin .append,args:=#[s,x],argTypes:=#[t,t]})
 (e) (z) (size bytes) (ht:P.underlying t=some (.slice e)) (L:(P.info? e).map (fun i=>(i.zero,i.size,i.bytes))=some (some z,size,bytes))
 (G:z.cells.size=size) (l:0<size) (B) (w) (v) (n) (xs) (hs:a.eval s=v) (d:w.ownsRow B e size v n xs)
 (cells) (K:cells.length=size) (I:∀u∈cells,u.oneCell'=true) (N:a.eval x=.slice (some ⟨w.heap.size,0,none⟩) 1 1)
 (p:(n+1)* bytes<=140737488355328) (S:n+1<=140737488355328) (J:B<=w.heap.size)
 (h:∀g c w',B<=g->w'.ownsRow B e size (.slice (some ⟨g,0,none⟩) (n+1) c) (n+1) (xs++cells)->w.grownBy w' v.ownBlock->Below B w w'->w.heap.size<w'.heap.size->
   wpList P ops Q rest (a.put o.dst (.slice (some ⟨g,0,none⟩) (n+1) c)) w'):
 wpList P ops Q (o::rest) a (w.alloc (.cells cells.toArray e)):=by
 obtain⟨O,bl,D,E,F⟩:=info_parts L;refine wpList_append_own _ A s x t M B e O z size bytes ht bl D E F G l v n xs hs (d.alloc _) ⟨w.heap.size,0,none⟩ 1 1 cells N aa ?_ I (by unfold maxLen;omega) p Sa ?_
 ·intro j u q
  have:(w.alloc (.cells cells.toArray e)).heap[w.heap.size]?=some (.cells cells.toArray e (0,0)):=heap_alloc_new w _;have b:(⟨w.heap.size,0,none⟩:Addr).add j=⟨w.heap.size,j,none⟩:=by unfold Addr.add;split<;>simp_all
  rw[b,cell_of_row _ _ _ _ _ _ this];simpa using q
 ·intro T w' b j _
  have q:=(((Below.refl B w).alloc J _).grown j Sa (fun k C=>(d.lt k C).1));have l:=j.size;simp at l;rcases b.2 with⟨_,R⟩|⟨g,c,H,rfl,y,r⟩
  ·omega
  ·exact h g c w' y b ⟨j.os,j.tape,j.output,aa,fun k C ra=>(j.block k Sa ra).trans (Lib.alloc_old w _ k C)⟩ q aa
def sn{P}{a dst e}(hs:P.underlying a=some (.slice e))(d:P.underlying e=some (.int .u8))(c:P.underlying dst=some .string){w}{B}{v}{l}
 (h:w.ownsRow B e 1 v l.length (Lib.byteCells l)):(convert a dst v).run P w=.ok (.string ⟨l.toArray⟩) w:=by
 rcases h.2 with⟨rfl,k⟩|⟨g,b,i,rfl,r⟩
 ·have:l=[]:=by simpa using k
  subst this;exact run_convert_bytes_nil (w:=w) a e hs d 0 0 dst c
 ·refine run_convert_bytes_back _ a dst e ⟨g,0,none⟩ b l hs d c fun j n=>?_
  exact h.cells (g:=g) rfl j _ (by simp[Lib.byteCells,n])
def xe(B:Nat)(e:TypeId)(v:Value)(l:List UInt8)(w:World):Prop:=w.ownsRow B e 1 v l.length (Lib.byteCells l)
def xe.nil(B)(e)(w):xe B e (.slice none 0 0) [] w:=LA _ _ _ _
def xe.kept{B}{e}{v}{l}{w w'}(h:xe B e v l w)(k:Below w.heap.size w w'):xe B e v l w':=
 Ot (row:=none) h ⟨k.os,k.tape,k.output,k.size,fun i a _=>k.block i a⟩ (by cases v.ownBlock<;>simp)
def xe.made{B}{e}(w:World)(b:B<=w.heap.size)(a)(cs)(d:cs.size=a)(c:a<=maxLen):xe B e (.slice (some ⟨w.heap.size,0,none⟩) 0 a) [] (w.alloc (.cells cs e)):=
 Fw w cs a b c aa
def UV(l)(c):Lib.byteCells (l++[c])=Lib.byteCells l++[.int .u8 c.toNat]:=by simp[Lib.byteCells]
def ih{P}{ops}{rest}{o}{a}{Q}(j:o.guard=none)(s x)(t)
 (A:o.op=.call {callee:=.builtin .append,args:=#[s,x],argTypes:=#[t,t]})
 (e) (ht:P.underlying t=some (.slice e)) (z:(P.info? e).map (fun i=>(i.zero,i.size,i.bytes))=some (some (.int .u8 0),1,1))
 (B) (w) (v) (l) (hs:a.eval s=v) (d:xe B e v l w) (c)
 (C:a.eval x=.slice (some ⟨w.heap.size,0,none⟩) 1 1) (k:l.length+1<=140737488355328) (y:B<=w.heap.size)
 (h:∀g b w',B<=g->xe B e (.slice (some ⟨g,0,none⟩) (l.length+1) b) (l++[c]) w'->w.grownBy w' v.ownBlock->Below B w w'->w.heap.size<w'.heap.size->
   wpList P ops Q rest (a.put o.dst (.slice (some ⟨g,0,none⟩) (l.length+1) b)) w'):
 wpList P ops Q (o::rest) a (w.alloc (.cells #[.int .u8 c.toNat] e)):=
 Am j s x t A e (.int .u8 0) 1 1 ht z rfl ga B w v _ _ hs d [.int .u8 c.toNat] rfl (by simp[Value.oneCell']) C aa aa y
  fun g b w' n p q r u=>h g b w' n (by unfold xe;rw[UV,Ja];exact p) q r u
def ext1(s:ByteArray)(k)(h):(s.extract k (k+1)).data.toList=[s[k]]:=by
 have a:=h;rw[Lib.extract_data,ld a,oh];rfl
theorem mY{P}{a dst e}(hs:P.underlying a=some (.slice e))(d:P.underlying e=some (.int .u8))(c:P.underlying dst=some .string)(w:World)(x):
 (convert a dst (.slice (some ⟨w.heap.size,0,none⟩) 1 1)).run P (w.alloc (.cells #[.int .u8 x.toNat] e))=.ok (.string ⟨#[x]⟩) (w.alloc (.cells #[.int .u8 x.toNat] e)):=
 run_convert_bytes_back _ a dst e ⟨w.heap.size,0,none⟩ 1 [x] hs d c (by
  intro j b
  match j,b with
  |0,b=>simp[Addr.add])
def tm(l:List UInt8):(ByteArray.mk l.toArray).size=l.length:=rfl
def Ia(c:UInt8):Bool:=c==32||c==9
def lk(c:UInt8):Bool:=(65<=c&&c<=90)||(97<=c&&c<=122)||(48<=c&&c<=57)||c==45
def Ue(l:List UInt8):Bool:=!l.isEmpty&&decide (l.length<=32)&&l.all lk
def eg(c:UInt8):Bool:=c==9||(32<=c&&c<=126)
def Wk(c:UInt8):UInt8:=if 65<=c&&c<=90 then c+32 else c
def xa(l:List UInt8):List UInt8:=l.map Wk
def Xh(l:List UInt8):List UInt8:=(l.reverse.dropWhile Ia).reverse
def trimB(l:List UInt8):List UInt8:=Xh (l.dropWhile Ia)
def Zc:List UInt8->Option Nat
 |[]=>none
 |c::r=>if c=13/\r.head?=some 10 then some 0 else(Zc r).map (·+1)
theorem Vj:∀{l}{k},Zc l=some k->k+2<=l.length
 |c::r,k,h=>by
  rw[Zc]at h;split at h
  ·rename_i a
   cases h
   match r,a with
   |d::r,_=>simp
  ·rcases hr:Zc r with _|j
   ·grind
   ·rw[hr]at h
    have:=Vj hr
    grind
theorem Lx:∀{l}{k},Zc l=some k->l[k]?=some 13/\l[k+1]?=some 10
 |c::r,k,h=>by
  rw[Zc]at h;split at h
  ·rename_i a
   cases h
   match r,a with
   |d::r,a=>grind
  ·rcases hr:Zc r with _|j
   ·grind
   ·rw[hr]at h
    have:=Lx hr
    grind
theorem Kx:∀{l}{k},Zc l=some k->∀i,i<k->¬(l[i]?=some 13/\l[i+1]?=some 10)
 |c::r,k,h,i,b=>by
  rw[Zc]at h;split at h
  ·grind
  ·rename_i a
   rcases hr:Zc r with _|j
   ·grind
   ·rw[hr]at h
    obtain rfl:j+1=k:=ia
    match i with
    |0=>
     grind [List.head?_eq_getElem?]
    |i+1=>simpa using Kx hr i aa
theorem KC:∀{l},Zc l=none->∀i:Nat,¬(l[i]?=some 13/\l[i+1]?=some 10)
 |[],_,i=>by simp
 |c::r,h,i=>by
  rw[Zc]at h;split at h
  ·cases h
  ·rename_i a
   have hr:Zc r=none:=by simpa using h
   match i with
   |0=>
    grind [List.head?_eq_getElem?]
   |i+1=>simpa using KC hr i
def sY{l}{k}(h:l[k]?=some 13/\l[k+1]?=some 10)(b:∀i,i<k->¬(l[i]?=some 13/\l[i+1]?=some 10)):Zc l=some k:=by
 rcases a:Zc l with _|j<;>grind [KC,Lx,Kx,Nat.lt_trichotomy]
theorem ZO:∀l,Go.Lib.index l [13,10]=match Zc l with|some k=>(k:Int)|none=>-1
 |[]=>rfl
 |c::r=>by
  rw[Go.Lib.index,ZO r,Zc];have a:List.isPrefixOf [13,10] (c::r)=decide (c=13/\r.head?=some 10):=by
   match r with
   |[]=>grind
   |d::r=>grind
  grind
theorem UM(l):Go.Lib.cut l [13,10]=match Zc l with|some k=>(l.take k,l.drop (k+2),true)|none=>(l,[],false):=by
 grind [Go.Lib.cut,ZO]
def ff(b:UInt8):List UInt8->Option Nat
 |[]=>none
 |c::r=>if c=b then some 0 else(ff b r).map (·+1)
theorem vx{b}:∀{l}{k},ff b l=some k->k<l.length
 |c::r,k,h=>by
  rw[ff]at h;split at h
  ·grind
  ·rcases hr:ff b r with _|j
   ·grind
   ·rw[hr]at h
    have:=vx hr
    grind
theorem cK{b}:∀{l}{k},ff b l=some k->l[k]?=some b
 |c::r,k,h=>by
  rw[ff]at h;split at h
  ·grind
  ·rcases hr:ff b r with _|j
   ·grind
   ·rw[hr]at h
    have:=cK hr
    grind
theorem aK{b}:∀{l}{k},ff b l=some k->∀i,i<k->l[i]?≠some b
 |c::r,k,h,i,d=>by
  rw[ff]at h;split at h
  ·grind
  ·rename_i a
   rcases hr:ff b r with _|j
   ·grind
   ·rw[hr]at h
    obtain rfl:j+1=k:=ia
    match i with
    |0=>grind
    |i+1=>simpa using aK hr i aa
theorem bK{b}:∀{l},ff b l=none->∀i:Nat,l[i]?≠some b
 |[],_,i=>by simp
 |c::r,h,i=>by
  rw[ff]at h;split at h
  ·cases h
  ·rename_i a
   have hr:ff b r=none:=by simpa using h
   match i with
   |0=>grind
   |i+1=>simpa using bK hr i
theorem YO(b):∀l,Go.Lib.index l [b]=match ff b l with|some k=>(k:Int)|none=>-1
 |[]=>rfl
 |c::r=>by
  rw[Go.Lib.index,YO b r,ff]
  grind
theorem TM(b)(l):Go.Lib.cut l [b]=match ff b l with|some k=>(l.take k,l.drop (k+1),true)|none=>(l,[],false):=by
 grind [Go.Lib.cut,YO]
abbrev ec:=List UInt8×List UInt8
def ed(st:List ec×Bool)(l:List UInt8):Option (List ec×Bool):=
 if l.all eg=false then none
 else if(l.head?.map Ia).getD false then
  (match st.1.getLast? with
   |none=>none
   |some p=>some (st.1.dropLast++[(p.1,p.2++l)],st.2||decide (998<l.length)))
 else match ff 58 l with
  |none=>none
  |some k=>if Ue (l.take k)then some (st.1++[(l.take k,l.drop (k+1))],st.2||decide (998<l.length))else none
def Vd(l:List UInt8)(at_:Nat):List (List UInt8×Nat):=
 match h:Zc l with
 |none=>[]
 |some k=>(l.take k,at_+k+2)::if k=0 then[]else Vd (l.drop (k+2)) (at_+k+2)
termination_by l.length
decreasing_by have:=Vj h;grind
theorem ek{l}{a}(h:Zc l=none):Vd l a=[]:=by
 grind [Vd.eq_1]
def En{l}{a k}(h:Zc l=some k):Vd l a=(l.take k,a+k+2)::if k=0 then[]else Vd (l.drop (k+2)) (a+k+2):=by
 grind [Vd.eq_1]
def H2(n):∀(l)(a),l.length<=n->∀x∈Vd l a,2<=x.2:=by
 induction n with
 |zero=>
  intro l a h x b;rw[qz (l:=l) aa,ek rfl]at b;cases b
 |succ n d=>
  intro l a h x b;rcases c:Zc l with _|k
  ·grind [ek]
  ·have:=Vj c
   rw[En c]at b
   grind
def CD(n):∀(l)(a),l.length<=n->(Vd l a).length<=l.length:=by
 induction n with
 |zero=>
  intro l a h;rw[qz (l:=l) aa,ek rfl];simp
 |succ n c=>
  intro l a h;rcases b:Zc l with _|k
  ·grind [ek]
  ·have:=Vj b
   rw[En b,za]
   grind
def G2(n):∀(l)(a),l.length<=n->∀x∈Vd l a,x.1.length<=l.length:=by
 induction n with
 |zero=>
  intro l a h x b;rw[qz (l:=l) aa,ek rfl]at b;cases b
 |succ n d=>
  intro l a h x b;rcases c:Zc l with _|k
  ·grind [ek]
  ·have:=Vj c
   rw[En c]at b
   grind
def ve:List (List UInt8×Nat)->List ec×Bool->Option (List ec×Bool×Nat)
 |[],_=>none
 |(b,a)::r,st=>if b=[]then some (st.1,st.2,a)else match ed st b with|none=>none|some st'=>ve r st'
def Kd(a:List (List UInt8))(st:List ec×Bool):Option (List ec×Bool):=a.foldlM ed st
theorem MP(a)(l)(st):Kd (a++[l]) st=(Kd a st).bind fun s=>ed s l:=by
 unfold Kd;simp
theorem FS_:∀(xs r)(st st'),(∀x∈xs,x.1≠[])->Kd (xs.map (·.1)) st=some st'->ve (xs++r) st=ve r st'
 |[],r,st,st',_,h=>by grind [Kd]
 |(g,a)::xs,r,st,st',ra,h=>by
  have d:=ra (g,a) da;rw[kc,Kd,Gw]at h;obtain⟨s1,b,c⟩:=qb h;rw[ub,ve,if_neg d,b];exact FS_ xs r s1 st' (fun x e=>ra x (by simp[e])) c
inductive Split where
 | form
 | long
 | ok (l:List ec) (body:Nat)
def Pd(l:List UInt8):Split:=match ve (Vd l 0) ([],false)with
 |none=>.form
 |some (_,true,_)=>.long
 |some (f,false,b)=>.ok (f.map fun p=>(p.1,trimB p.2)) b
def bb:List ec->List PV
 |[]=>[]
 |(a,b)::l=>.flat (.string (S a))::.flat (.string (S b))::bb l
theorem je:∀F,gc (bb F)=true
 |[]=>rfl
 |(a,b)::l=>by show gc (.flat (.string (S a))::.flat (.string (S b))::bb l)=true;simp only[gc,PV.pl,je l,pc]
theorem cd{n}:∀F,La n (bb F)=true
 |[]=>rfl
 |(a,b)::l=>by show La n (.flat (.string (S a))::.flat (.string (S b))::bb l)=true;simp only[La,PV.low,cd l,pc]
variable {lib:Callee}
theorem Pu:∀F,(bb F).length=F.length* 2
 |[]=>rfl
 |(a,b)::l=>by simp only[bb,za,Pu l];omega
theorem Ou:∀{F:List ec}{k}{a b:ba}{r:List ec},F.drop k=(a,b)::r->(bb F).drop (k* 2)=.flat (.string (S a))::.flat (.string (S b))::bb r
 |(x,y)::l,0,a,b,r,h=>by
  simp only[Af,It,Fp]at h;obtain⟨⟨rfl,rfl⟩,rfl⟩:=h;rfl
 |(x,y)::l,k+1,a,b,r,h=>by
  rw[show(k+1)* 2=k* 2+1+1 by omega];simp only[bb,ir];exact Ou h
 |[],k,a,b,r,h=>by simp at h
def gu(lib:Callee):Prop:=∀s:ba,s.length<=1000000->lib 79 [.flat (.string (S s))] [] []=some ([.flat (.string (S (xa s)))],false,[],[])
def Pp(lib:Callee):Prop:=∀s t:ba,s.length<=1000000->t.length<=1000000->lib 140 [.flat (.string (S s)),.flat (.string (S t))] [] []=some ([.flat (.bool (xa s==xa t))],false,[],[])
def mD(H:gu lib)(s)(h:s.length<=1000000):fa code lib 79 [.flat (.string (S s))] [] []=some ([.flat (.string (S (xa s)))],false,[],[]):=Ud ga ca (H s h)
def aJ(H:Pp lib)(s t)(hs:s.length<=1000000)(ht:t.length<=1000000):fa code lib 140 [.flat (.string (S s)),.flat (.string (S t))] [] []=some ([.flat (.bool (xa s==xa t))],false,[],[]):=Ud ga ca (H s t hs ht)
def xh(e:Nat):fa code lib 76 [.flat (.bool true),.flat (.int .i64 (e:Nat))] [] []=some ([],false,[],[]):=by
 refine ma cX (qa rfl) ?_;exact ta
def Oq(c:UInt8):Bool:=!(((decide (c.toNat<48)||decide (57<c.toNat))&&(decide ((c.toNat|||32)<97)||decide (122<(c.toNat|||32))))&& !([45,95,61,46]:ba).contains c)
def ll(s:ba):Bool:=s.all Oq&&(!decide (s=[])&&decide (s.length<=70))
def H6(o:Cf lib)(s)(hs:s.length<=1000000000):fa code lib 82 [.flat (.string (S s))] [] []=some ([.flat (.bool (ll s))],false,[],[]):=by
 have a:=Nf (body:=pa (fa code lib) ka lB) (live:=[0,6,7]) (nb:=0) (fun(_:Unit) k=>⟨[(0,.flat (.string (S s))),(6,.flat (.int .i64 (s.length:Nat))),(7,.flat (.int .i64 (k:Nat)))],[],[],[]⟩) s (fun _ _=>True)
  (fun _ k x=>if Oq x then .inl ()else .inr (.ret,⟨[(2,.flat (.bool false))],[],[],[]⟩)) (fun _=>(.exit 0,⟨[(0,.flat (.string (S s)))],[],[],[]⟩)) (fun _ k c _ e b d=>?_) (fun _ _=>by simp only[go_sem,simprocAttr]) (fun _ _ _ _ _ _ _ _=>trivial) (fun _ _ x r h=>by split at h<;>simp at h;rw[<-h];simp) (fun _ _=>?_) (fun _=>by simp) () trivial Kh
 ·rw[Gt]at a
  simp only[n0]at a;unfold ll;refine ma aX (qa rfl) ?_;cases e:s.all Oq with
  |false=>
   simp only[e,Fa,if_false]at a;simp only[Wc];exact ta
  |true=>
   simp only[e,if_true]at a;simp only[pc];by_cases g:s=[]
   ·have b:=eq_true g
    simp only[b,decide_true,Ui,Wc];simp(maxSteps:=999999) (disch:=first|assumption|omega) only[go_sem,simprocAttr,au,a,b]
   ·have b:=eq_false g
    simp only[b,decide_false,Gj,pc];rcases Ka (s.length<=70)with d|d
    ·simp only[d,decide_true]
     exact ta
    ·simp only[d,decide_false]
     exact ta
 ·have g:=dl o [45,95,61,46] c ga
  have d:=pu c [45,95,61,46];have p:=c.toNat_lt;have l:Pk .u8 (c.toNat:Int) 32=((c.toNat|||32:Nat):Int):=u8_or c.toNat 32 aa aa;unfold Oq;rw[<-d];obtain⟨m,j⟩:∃m,c.toNat|||32=m:=⟨_,rfl⟩;obtain⟨n,q⟩:∃n,c.toNat=n:=⟨_,rfl⟩;rw[j]at l⊢;rw[q]at l g⊢;clear d j;cases b:Zb c [45,95,61,46]with
  |none=>
   simp only[b]at g;simp only[Tt];rcases Ka (n<48)with e|e<;>rcases Ka (57<n)with a2|a2<;>rcases Ka (m<97)with a3|a3<;>rcases Ka (122<m)with a4|a4
   all_goals first|(exfalso;omega)|skip
   all_goals
    exact va pG
  |some i=>
   simp only[b]at g;simp only[Nt];rcases Ka (n<48)with e|e<;>rcases Ka (57<n)with a2|a2<;>rcases Ka (m<97)with a3|a3<;>rcases Ka (122<m)with a4|a4
   all_goals first|(exfalso;omega)|skip
   all_goals
    exact va pG
 ·exact va pG
def kj(n:ba):List ec->ba×Nat->ba×Nat
 |[],q=>q
 |(a,b)::l,q=>if xa a==xa n then kj n l (if q.2=0 then b else q.1,q.2+1)else kj n l q
def mc(n:ba)(F:List ec):ba×Nat:=kj n F ([],0)
def Ck(F:List ec):Prop:=F.length<=1000000/\∀f∈F,f.1.length<=1000000/\f.2.length<=1000000
theorem EA{n:ba}{fin}:∀(L)(k)(q),jd (fun(q:ba×Nat) _(x:ec)=>(if xa x.1==xa n then .inl (if q.2=0 then x.2 else q.1,q.2+1)else .inl q:(ba×Nat) ⊕ (Out×St))) fin q k L=fin (kj n L q)
 |[],k,q=>rfl
 |(a,b)::t,k,q=>by
  rw[jd,kj];cases h:xa a==xa n with
  |true=>simp only[if_true];exact EA t _ _
  |false=>simp only[Fa,if_false];exact EA t _ _
def Wu(l:Pp lib)(F)(n)(hF:Ck F)(C:n.length<=1000000):fa code lib 78 [.ha F.length (bb F),.flat (.string (S n))] [] []=some ([.flat (.string (S (mc n F).1)),.flat (.int .i64 ((mc n F).2:Nat))],false,[],[]):=by
 have d:=Nf (body:=pa (fa code lib) ka kB) (live:=[1,6,7,10,11,12]) (nb:=0) (fun(q:ba×Nat) k=>⟨[(1,.flat (.string (S n))),(6,.flat (.string (S q.1))),(7,.flat (.int .i64 (q.2:Nat))),(10,.ha F.length (bb F)),(11,.flat (.int .i64 (F.length:Nat))),(12,.flat (.int .i64 (k:Nat)))],[],[],[]⟩) F (fun q k=>q.2<=k)
  (fun q k x=>if xa x.1==xa n then .inl (if q.2=0 then x.2 else q.1,q.2+1)else .inl q) (fun q=>(.exit 0,⟨[(6,.flat (.string (S q.1))),(7,.flat (.int .i64 (q.2:Nat)))],[],[],[]⟩)) (fun q k c y e p t=>?_) (fun _ _=>by simp only[go_sem,simprocAttr]) (fun q k x a' y _ _ h=>by split at h<;>cases h<;>first|omega|(dsimp only;omega)) (fun _ _ x r h=>by split at h<;>cases h) (fun q _=>?_) (fun _=>by simp) ([],0) (la _) (by have:=hF.1;unfold ka;omega)
 ·rw[EA]at d
  simp only[n0]at d;unfold mc;refine ma ZW (qa rfl) ?_;have j:=hF.1;generalize kj n F ([],0)=R at*;obtain⟨v,m⟩:=R;exact ta
 ·obtain⟨a,b⟩:=c
  obtain⟨v,m⟩:=q;have j:=hF.1;have g:=hF.2 (a,b) (Ah p);have o:=aJ l a n g.1 C;have z:=Ou t;have e:=Pu F;have A:((bb F).drop (k* 2)).length=(F.length - k)* 2:=by rw[Ya,e];omega
  dsimp only at y⊢;have u:=fun n=>cd (n:=n) F
  clear hF g e l t p;generalize F.drop (k+1)=fr at*;generalize bb fr=D at*;cases i:xa a==xa n with
  |true=>
   rw[i]at o;simp only[if_true];by_cases w:m=0
   ·subst w
    exact va Cz
   ·have B:((m:Int)=0)=False:=by apply eq_false;omega
    simp only[w,if_false];exact va Cz
  |false=>
   rw[i]at o;simp only[Fa,if_false];exact va Cz
 ·exact va Cz
end wa
namespace Go.Proofs
open Go.Shelf
def Tryz.DP:Go.Shelf.Ren:=⟨fun|169=>46|n=>n,fun|70=>98|9=>9|0=>0|72=>101|37=>99|127=>170|3=>3|5=>5|n=>n,fun|n=>n⟩
def Tryz.V5:Go.Proofs.Lays.n169 Tryz.prog Tryz.DP:={
 mixed:=ca
 f169:=Tryz.func46.trans (congrArg some ca)
 t0:=Tryz.underlying0
 a0:=Tryz.isAgg0
 z0:=Tryz.sizeOf0
 v0:=Tryz.zeroValue0
 t3:=Tryz.underlying3
 a3:=Tryz.isAgg3
 z3:=Tryz.sizeOf3
 v3:=Tryz.zeroValue3
 t9:=Tryz.underlying9
 a9:=Tryz.isAgg9
 z9:=Tryz.sizeOf9
 v9:=Tryz.zeroValue9
 t37:=Tryz.underlying99
 a37:=Tryz.isAgg99
 z37:=Tryz.sizeOf99
 v37:=Tryz.zeroValue99
 t70:=Tryz.underlying98
 a70:=Tryz.isAgg98
 z70:=Tryz.sizeOf98
 v70:=Tryz.zeroValue98
 t72:=Tryz.underlying101
 a72:=Tryz.isAgg101
 z72:=Tryz.sizeOf101
 v72:=Tryz.zeroValue101
 t127:=Tryz.underlying170
 a127:=Tryz.isAgg170
 z127:=Tryz.sizeOf170
 v127:=Tryz.zeroValue170}
def Tryz.zU:Builder.Extra Tryz.prog Tryz.DP:={
 sizeBuilder:=ca
 liesBuilder:=ca
 t5:=Tryz.underlying5
 a5:=Tryz.isAgg5
 z5:=Tryz.sizeOf5
 v5:=Tryz.zeroValue5
 infoByte:=ca
 cellsByte:=ca
 sizeByte:=ca
 neB5:=by decide}
def Tryz.U5:Go.Shelf.Ren:=⟨fun|161=>269|231=>262|227=>264|233=>265|235=>267|228=>288|197=>152|151=>289|260=>222|152=>293|137=>96|119=>295|224=>217|225=>216|217=>161|266=>228|n=>n,fun|9=>9|4=>4|3=>3|5=>5|117=>309|116=>308|0=>0|124=>312|105=>224|21=>21|119=>318|46=>269|139=>321|138=>320|n=>n,fun|3=>1|4=>2|n=>n⟩
def Tryz.T5:Go.Proofs.Lays.n161 Tryz.prog Tryz.U5:={
 mixed:=ca
 f119:=Tryz.func295.trans (congrArg some ca)
 f137:=Tryz.func96.trans (congrArg some ca)
 f151:=Tryz.func289.trans (congrArg some ca)
 f152:=Tryz.func293.trans (congrArg some ca)
 f161:=Tryz.func269.trans (congrArg some ca)
 f197:=Tryz.func152.trans (congrArg some ca)
 f217:=Tryz.func161.trans (congrArg some ca)
 f224:=Tryz.func217.trans (congrArg some ca)
 f225:=Tryz.func216.trans (congrArg some ca)
 f227:=Tryz.func264.trans (congrArg some ca)
 f228:=Tryz.func288.trans (congrArg some ca)
 f231:=Tryz.func262.trans (congrArg some ca)
 f233:=Tryz.func265.trans (congrArg some ca)
 f235:=Tryz.func267.trans (congrArg some ca)
 f260:=Tryz.func222.trans (congrArg some ca)
 f266:=Tryz.func228.trans (congrArg some ca)
 t0:=Tryz.underlying0
 a0:=Tryz.isAgg0
 z0:=Tryz.sizeOf0
 v0:=Tryz.zeroValue0
 t3:=Tryz.underlying3
 a3:=Tryz.isAgg3
 z3:=Tryz.sizeOf3
 v3:=Tryz.zeroValue3
 t4:=Tryz.underlying4
 a4:=Tryz.isAgg4
 z4:=Tryz.sizeOf4
 v4:=Tryz.zeroValue4
 t5:=Tryz.underlying5
 a5:=Tryz.isAgg5
 z5:=Tryz.sizeOf5
 v5:=Tryz.zeroValue5
 t9:=Tryz.underlying9
 a9:=Tryz.isAgg9
 z9:=Tryz.sizeOf9
 v9:=Tryz.zeroValue9
 t21:=Tryz.underlying21
 a21:=Tryz.isAgg21
 z21:=Tryz.sizeOf21
 v21:=Tryz.zeroValue21
 t46:=Tryz.underlying269
 a46:=Tryz.isAgg269
 z46:=Tryz.sizeOf269
 v46:=Tryz.zeroValue269
 t105:=Tryz.underlying224
 a105:=Tryz.isAgg224
 z105:=Tryz.sizeOf224
 v105:=Tryz.zeroValue224
 t116:=Tryz.underlying308
 a116:=Tryz.isAgg308
 z116:=Tryz.sizeOf308
 t117:=Tryz.underlying309
 a117:=Tryz.isAgg309
 z117:=Tryz.sizeOf309
 v117:=Tryz.zeroValue309
 t119:=Tryz.underlying318
 a119:=Tryz.isAgg318
 z119:=Tryz.sizeOf318
 t124:=Tryz.underlying312
 a124:=Tryz.isAgg312
 z124:=Tryz.sizeOf312
 v124:=Tryz.zeroValue312
 t138:=Tryz.underlying320
 a138:=Tryz.isAgg320
 z138:=Tryz.sizeOf320
 v138:=Tryz.zeroValue320
 t139:=Tryz.underlying321
 a139:=Tryz.isAgg321
 z139:=Tryz.sizeOf321
 v139:=Tryz.zeroValue321
 g3:=ca
 g4:=by kernel_rfl}
def Tryz.S5:Go.Shelf.Ren:=⟨fun|160=>206|232=>263|231=>262|227=>264|234=>266|233=>265|236=>268|235=>267|228=>288|271=>290|151=>289|197=>152|120=>294|152=>293|260=>222|137=>96|119=>295|224=>217|225=>216|217=>161|266=>228|n=>n,fun|9=>9|4=>4|3=>3|5=>5|117=>309|116=>308|0=>0|124=>312|21=>21|105=>224|46=>269|119=>318|139=>321|138=>320|n=>n,fun|3=>1|4=>2|n=>n⟩
def Tryz.R5:Go.Proofs.Lays.n160 Tryz.prog Tryz.S5:={
 mixed:=ca
 f119:=Tryz.func295.trans (congrArg some ca)
 f120:=Tryz.func294.trans (congrArg some ca)
 f137:=Tryz.func96.trans (congrArg some ca)
 f151:=Tryz.func289.trans (congrArg some ca)
 f152:=Tryz.func293.trans (congrArg some ca)
 f160:=Tryz.func206.trans (congrArg some ca)
 f197:=Tryz.func152.trans (congrArg some ca)
 f217:=Tryz.func161.trans (congrArg some ca)
 f224:=Tryz.func217.trans (congrArg some ca)
 f225:=Tryz.func216.trans (congrArg some ca)
 f227:=Tryz.func264.trans (congrArg some ca)
 f228:=Tryz.func288.trans (congrArg some ca)
 f231:=Tryz.func262.trans (congrArg some ca)
 f232:=Tryz.func263.trans (congrArg some ca)
 f233:=Tryz.func265.trans (congrArg some ca)
 f234:=Tryz.func266.trans (congrArg some ca)
 f235:=Tryz.func267.trans (congrArg some ca)
 f236:=Tryz.func268.trans (congrArg some ca)
 f260:=Tryz.func222.trans (congrArg some ca)
 f266:=Tryz.func228.trans (congrArg some ca)
 f271:=Tryz.func290.trans (congrArg some ca)
 t0:=Tryz.underlying0
 a0:=Tryz.isAgg0
 z0:=Tryz.sizeOf0
 v0:=Tryz.zeroValue0
 t3:=Tryz.underlying3
 a3:=Tryz.isAgg3
 z3:=Tryz.sizeOf3
 v3:=Tryz.zeroValue3
 t4:=Tryz.underlying4
 a4:=Tryz.isAgg4
 z4:=Tryz.sizeOf4
 v4:=Tryz.zeroValue4
 t5:=Tryz.underlying5
 a5:=Tryz.isAgg5
 z5:=Tryz.sizeOf5
 v5:=Tryz.zeroValue5
 t9:=Tryz.underlying9
 a9:=Tryz.isAgg9
 z9:=Tryz.sizeOf9
 v9:=Tryz.zeroValue9
 t21:=Tryz.underlying21
 a21:=Tryz.isAgg21
 z21:=Tryz.sizeOf21
 v21:=Tryz.zeroValue21
 t46:=Tryz.underlying269
 a46:=Tryz.isAgg269
 z46:=Tryz.sizeOf269
 v46:=Tryz.zeroValue269
 t105:=Tryz.underlying224
 a105:=Tryz.isAgg224
 z105:=Tryz.sizeOf224
 v105:=Tryz.zeroValue224
 t116:=Tryz.underlying308
 a116:=Tryz.isAgg308
 z116:=Tryz.sizeOf308
 t117:=Tryz.underlying309
 a117:=Tryz.isAgg309
 z117:=Tryz.sizeOf309
 v117:=Tryz.zeroValue309
 t119:=Tryz.underlying318
 a119:=Tryz.isAgg318
 z119:=Tryz.sizeOf318
 t124:=Tryz.underlying312
 a124:=Tryz.isAgg312
 z124:=Tryz.sizeOf312
 v124:=Tryz.zeroValue312
 t138:=Tryz.underlying320
 a138:=Tryz.isAgg320
 z138:=Tryz.sizeOf320
 v138:=Tryz.zeroValue320
 t139:=Tryz.underlying321
 a139:=Tryz.isAgg321
 z139:=Tryz.sizeOf321
 v139:=Tryz.zeroValue321
 g3:=ca
 g4:=by kernel_rfl}
def Tryz.H5:Go.Shelf.Ren:=⟨fun|137=>96|217=>161|266=>228|n=>n,fun|9=>9|5=>5|3=>3|n=>n,fun|n=>n⟩
def Tryz.G5:Go.Proofs.Lays.n137 Tryz.prog Tryz.H5:={
 mixed:=ca
 f137:=Tryz.func96.trans (congrArg some ca)
 f217:=Tryz.func161.trans (congrArg some ca)
 f266:=Tryz.func228.trans (congrArg some ca)
 t3:=Tryz.underlying3
 a3:=Tryz.isAgg3
 z3:=Tryz.sizeOf3
 v3:=Tryz.zeroValue3
 t5:=Tryz.underlying5
 a5:=Tryz.isAgg5
 z5:=Tryz.sizeOf5
 v5:=Tryz.zeroValue5
 t9:=Tryz.underlying9
 a9:=Tryz.isAgg9
 z9:=Tryz.sizeOf9
 v9:=Tryz.zeroValue9}
open Go.RowKit in
theorem Tryz.strings_IndexByte(s:ByteArray)(c:Int)(w:World):
 Calls Tryz.prog 96 #[.string s,.int .u8 c] w fun e w'=>e=.returned (.int .i64 (Lib.indexByte s.data.toList c.toNat.toUInt8))/\w'=w:=Any.strings_IndexByte Tryz.G5 s c w
def Tryz.D5:Go.Shelf.Ren:=⟨fun|103=>90|210=>153|206=>141|n=>n,fun|9=>9|4=>4|24=>86|3=>3|n=>n,fun|n=>n⟩
def Tryz.C5:Go.Proofs.Lays.n103 Tryz.prog Tryz.D5:={
 mixed:=ca
 f103:=Tryz.func90.trans (congrArg some ca)
 f206:=Tryz.func141.trans (congrArg some ca)
 f210:=Tryz.func153.trans (congrArg some ca)
 t3:=Tryz.underlying3
 a3:=Tryz.isAgg3
 z3:=Tryz.sizeOf3
 v3:=Tryz.zeroValue3
 t4:=Tryz.underlying4
 a4:=Tryz.isAgg4
 z4:=Tryz.sizeOf4
 v4:=Tryz.zeroValue4
 t9:=Tryz.underlying9
 a9:=Tryz.isAgg9
 z9:=Tryz.sizeOf9
 v9:=Tryz.zeroValue9
 t24:=Tryz.underlying86
 a24:=Tryz.isAgg86
 z24:=Tryz.sizeOf86
 v24:=Tryz.zeroValue86}
open Go.RowKit in
theorem Tryz.strings_CutPrefix(s p:ByteArray)(w:World):
 Calls Tryz.prog 90 #[.string s,.string p] w fun e w'=>e=.returned (.tuple #[.string ⟨(Lib.trimPrefix s.data.toList p.data.toList).toArray⟩,.bool (Lib.hasPrefix s.data.toList p.data.toList)])/\w'=w:=Any.strings_CutPrefix Tryz.C5 s p w
def Tryz.F5:Go.Shelf.Ren:=⟨fun|104=>84|211=>147|207=>215|n=>n,fun|9=>9|4=>4|24=>86|3=>3|n=>n,fun|n=>n⟩
def Tryz.E5:Go.Proofs.Lays.n104 Tryz.prog Tryz.F5:={
 mixed:=ca
 f104:=Tryz.func84.trans (congrArg some ca)
 f207:=Tryz.func215.trans (congrArg some ca)
 f211:=Tryz.func147.trans (congrArg some ca)
 t3:=Tryz.underlying3
 a3:=Tryz.isAgg3
 z3:=Tryz.sizeOf3
 v3:=Tryz.zeroValue3
 t4:=Tryz.underlying4
 a4:=Tryz.isAgg4
 z4:=Tryz.sizeOf4
 v4:=Tryz.zeroValue4
 t9:=Tryz.underlying9
 a9:=Tryz.isAgg9
 z9:=Tryz.sizeOf9
 v9:=Tryz.zeroValue9
 t24:=Tryz.underlying86
 a24:=Tryz.isAgg86
 z24:=Tryz.sizeOf86
 v24:=Tryz.zeroValue86}
open Go.RowKit in
theorem Tryz.strings_CutSuffix(s p:ByteArray)(w:World)(hs:s.size<=9223372036854775807):
 Calls Tryz.prog 84 #[.string s,.string p] w fun e w'=>e=.returned (.tuple #[.string ⟨(Lib.trimSuffix s.data.toList p.data.toList).toArray⟩,.bool (Lib.hasSuffix s.data.toList p.data.toList)])/\w'=w:=Any.strings_CutSuffix Tryz.E5 s p w hs
open Go.RowKit in
theorem Tryz.Builder_String_any_k(B b:Nat)(l:List UInt8)(w:World)(h:Lib.IsBuilderF 101 5 B b (Lib.byteCells l) w)(a:B<=w.heap.size):
 Calls Tryz.prog 46 #[.pointer (some ⟨b,0,none⟩)] w fun e w'=>e=.returned (.string ⟨l.toArray⟩)/\(Lib.IsBuilderF 101 5 B b (Lib.byteCells l) w'/\Below B w w'/\Lib.OthersKept 5 (some b) w w'):=Any.Builder_String_any_k Tryz.V5 Tryz.zU B b l w h a
def Tryz.J5:Go.Shelf.Ren:=⟨fun|143=>146|219=>148|217=>161|225=>216|224=>217|267=>218|266=>228|314=>273|n=>n,fun|9=>9|3=>3|4=>4|5=>5|46=>269|146=>315|51=>271|n=>n,fun|1=>0|n=>n⟩
def Tryz.I5:Go.Proofs.Lays.n143 Tryz.prog Tryz.J5:={
 mixed:=ca
 f143:=Tryz.func146.trans (congrArg some ca)
 f217:=Tryz.func161.trans (congrArg some ca)
 f219:=Tryz.func148.trans (congrArg some ca)
 f224:=Tryz.func217.trans (congrArg some ca)
 f225:=Tryz.func216.trans (congrArg some ca)
 f266:=Tryz.func228.trans (congrArg some ca)
 f267:=Tryz.func218.trans (congrArg some ca)
 f314:=Tryz.func273.trans (congrArg some ca)
 t3:=Tryz.underlying3
 a3:=Tryz.isAgg3
 z3:=Tryz.sizeOf3
 v3:=Tryz.zeroValue3
 t4:=Tryz.underlying4
 a4:=Tryz.isAgg4
 z4:=Tryz.sizeOf4
 v4:=Tryz.zeroValue4
 t5:=Tryz.underlying5
 a5:=Tryz.isAgg5
 z5:=Tryz.sizeOf5
 v5:=Tryz.zeroValue5
 t9:=Tryz.underlying9
 a9:=Tryz.isAgg9
 z9:=Tryz.sizeOf9
 v9:=Tryz.zeroValue9
 t46:=Tryz.underlying269
 a46:=Tryz.isAgg269
 z46:=Tryz.sizeOf269
 v46:=Tryz.zeroValue269
 t51:=Tryz.underlying271
 a51:=Tryz.isAgg271
 z51:=Tryz.sizeOf271
 v51:=Tryz.zeroValue271
 t146:=Tryz.underlying315
 a146:=Tryz.isAgg315
 z146:=Tryz.sizeOf315
 v146:=Tryz.zeroValue315
 g1:=by kernel_rfl}
open Go.RowKit Go.Lib in
theorem Tryz.strings_Index(s a:ByteArray)(m:Int)(w:World)(hs:s.size<4294967281)(b:w.cell? ⟨0,0,none⟩=some (.int .i64 m)):
 Calls Tryz.prog 146 #[.string s,.string a] w fun e w'=>e=.returned (.int .i64 (Lib.index s.data.toList a.data.toList))/\w'=w:=Any.strings_Index Tryz.I5 s a m w hs b
def Tryz.L5:Go.Shelf.Ren:=⟨fun|144=>158|143=>146|219=>148|217=>161|225=>216|224=>217|267=>218|266=>228|314=>273|n=>n,fun|9=>9|4=>4|3=>3|5=>5|46=>269|146=>315|51=>271|n=>n,fun|1=>0|n=>n⟩
def Tryz.K5:Go.Proofs.Lays.n144 Tryz.prog Tryz.L5:={
 mixed:=ca
 f143:=Tryz.func146.trans (congrArg some ca)
 f144:=Tryz.func158.trans (congrArg some ca)
 f217:=Tryz.func161.trans (congrArg some ca)
 f219:=Tryz.func148.trans (congrArg some ca)
 f224:=Tryz.func217.trans (congrArg some ca)
 f225:=Tryz.func216.trans (congrArg some ca)
 f266:=Tryz.func228.trans (congrArg some ca)
 f267:=Tryz.func218.trans (congrArg some ca)
 f314:=Tryz.func273.trans (congrArg some ca)
 t3:=Tryz.underlying3
 a3:=Tryz.isAgg3
 z3:=Tryz.sizeOf3
 v3:=Tryz.zeroValue3
 t4:=Tryz.underlying4
 a4:=Tryz.isAgg4
 z4:=Tryz.sizeOf4
 v4:=Tryz.zeroValue4
 t5:=Tryz.underlying5
 a5:=Tryz.isAgg5
 z5:=Tryz.sizeOf5
 v5:=Tryz.zeroValue5
 t9:=Tryz.underlying9
 a9:=Tryz.isAgg9
 z9:=Tryz.sizeOf9
 v9:=Tryz.zeroValue9
 t46:=Tryz.underlying269
 a46:=Tryz.isAgg269
 z46:=Tryz.sizeOf269
 v46:=Tryz.zeroValue269
 t51:=Tryz.underlying271
 a51:=Tryz.isAgg271
 z51:=Tryz.sizeOf271
 v51:=Tryz.zeroValue271
 t146:=Tryz.underlying315
 a146:=Tryz.isAgg315
 z146:=Tryz.sizeOf315
 v146:=Tryz.zeroValue315
 g1:=by kernel_rfl}
open Go.RowKit Go.Lib in
theorem Tryz.strings_Contains(s a:ByteArray)(m:Int)(w:World)(hs:s.size<4294967281)(b:w.cell? ⟨0,0,none⟩=some (.int .i64 m)):
 Calls Tryz.prog 158 #[.string s,.string a] w fun e w'=>e=.returned (.bool (Lib.contains s.data.toList a.data.toList))/\w'=w:=Any.strings_Contains Tryz.K5 s a m w hs b
def Tryz.N5:Go.Shelf.Ren:=⟨fun|145=>39|220=>87|219=>148|217=>161|225=>216|224=>217|267=>218|266=>228|314=>273|n=>n,fun|9=>9|4=>4|59=>96|3=>3|5=>5|46=>269|146=>315|51=>271|n=>n,fun|1=>0|n=>n⟩
def Tryz.M5:Go.Proofs.Lays.n145 Tryz.prog Tryz.N5:={
 mixed:=ca
 f145:=Tryz.func39.trans (congrArg some ca)
 f217:=Tryz.func161.trans (congrArg some ca)
 f219:=Tryz.func148.trans (congrArg some ca)
 f220:=Tryz.func87.trans (congrArg some ca)
 f224:=Tryz.func217.trans (congrArg some ca)
 f225:=Tryz.func216.trans (congrArg some ca)
 f266:=Tryz.func228.trans (congrArg some ca)
 f267:=Tryz.func218.trans (congrArg some ca)
 f314:=Tryz.func273.trans (congrArg some ca)
 t3:=Tryz.underlying3
 a3:=Tryz.isAgg3
 z3:=Tryz.sizeOf3
 v3:=Tryz.zeroValue3
 t4:=Tryz.underlying4
 a4:=Tryz.isAgg4
 z4:=Tryz.sizeOf4
 v4:=Tryz.zeroValue4
 t5:=Tryz.underlying5
 a5:=Tryz.isAgg5
 z5:=Tryz.sizeOf5
 v5:=Tryz.zeroValue5
 t9:=Tryz.underlying9
 a9:=Tryz.isAgg9
 z9:=Tryz.sizeOf9
 v9:=Tryz.zeroValue9
 t46:=Tryz.underlying269
 a46:=Tryz.isAgg269
 z46:=Tryz.sizeOf269
 v46:=Tryz.zeroValue269
 t51:=Tryz.underlying271
 a51:=Tryz.isAgg271
 z51:=Tryz.sizeOf271
 v51:=Tryz.zeroValue271
 t59:=Tryz.underlying96
 a59:=Tryz.isAgg96
 z59:=Tryz.sizeOf96
 v59:=Tryz.zeroValue96
 t146:=Tryz.underlying315
 a146:=Tryz.isAgg315
 z146:=Tryz.sizeOf315
 v146:=Tryz.zeroValue315
 g1:=by kernel_rfl}
open Go.RowKit Go.Lib in
theorem Tryz.strings_Cut(s sep:ByteArray)(m:Int)(w:World)(hs:s.size<4294967281)(a:w.cell? ⟨0,0,none⟩=some (.int .i64 m)):
 Calls Tryz.prog 39 #[.string s,.string sep] w fun e w'=>e=.returned (.tuple #[.string ⟨(Lib.cut s.data.toList sep.data.toList).1.toArray⟩,.string ⟨(Lib.cut s.data.toList sep.data.toList).2.1.toArray⟩,.bool (Lib.cut s.data.toList sep.data.toList).2.2])/\∃n,w'=w.drewN n:=Any.strings_Cut Tryz.M5 s sep m w hs a
def Tryz.P5:Go.Shelf.Ren:=⟨fun|149=>157|222=>226|n=>n,fun|9=>9|5=>5|3=>3|4=>4|n=>n,fun|n=>n⟩
def Tryz.O5:Go.Proofs.Lays.n149 Tryz.prog Tryz.P5:={
 mixed:=ca
 f149:=Tryz.func157.trans (congrArg some ca)
 f222:=Tryz.func226.trans (congrArg some ca)
 t3:=Tryz.underlying3
 a3:=Tryz.isAgg3
 z3:=Tryz.sizeOf3
 v3:=Tryz.zeroValue3
 t4:=Tryz.underlying4
 a4:=Tryz.isAgg4
 z4:=Tryz.sizeOf4
 v4:=Tryz.zeroValue4
 t5:=Tryz.underlying5
 a5:=Tryz.isAgg5
 z5:=Tryz.sizeOf5
 v5:=Tryz.zeroValue5
 t9:=Tryz.underlying9
 a9:=Tryz.isAgg9
 z9:=Tryz.sizeOf9
 v9:=Tryz.zeroValue9}
open Go.RowKit Go.Lib in
theorem Tryz.strings_LastIndexByte(s:ByteArray)(c:Int)(hs:s.size<4611686018427387904)(w:World):
 Calls Tryz.prog 157 #[.string s,.int .u8 c] w fun e w'=>e=.returned (.int .i64 (Lib.lastIndexByte s c))/\w'=w:=Any.strings_LastIndexByte Tryz.O5 s c hs w
def Tryz.X5:Go.Shelf.Ren:=⟨fun|99=>80|206=>141|n=>n,fun|9=>9|4=>4|3=>3|n=>n,fun|n=>n⟩
def Tryz.W5:Go.Proofs.Lays.n99 Tryz.prog Tryz.X5:={
 mixed:=ca
 f99:=Tryz.func80.trans (congrArg some ca)
 f206:=Tryz.func141.trans (congrArg some ca)
 t3:=Tryz.underlying3
 a3:=Tryz.isAgg3
 z3:=Tryz.sizeOf3
 v3:=Tryz.zeroValue3
 t4:=Tryz.underlying4
 a4:=Tryz.isAgg4
 z4:=Tryz.sizeOf4
 v4:=Tryz.zeroValue4
 t9:=Tryz.underlying9
 a9:=Tryz.isAgg9
 z9:=Tryz.sizeOf9
 v9:=Tryz.zeroValue9}
open Go.RowKit Go.Lib in
theorem Tryz.strings_HasPrefix(s p:ByteArray)(w:World):
 Calls Tryz.prog 80 #[.string s,.string p] w fun e w'=>e=.returned (.bool (Lib.hasPrefix s.data.toList p.data.toList))/\w'=w:=Any.strings_HasPrefix Tryz.W5 s p w
def Tryz.CP:Go.Shelf.Ren:=⟨fun|155=>42|154=>89|138=>150|165=>151|143=>146|166=>45|197=>152|169=>46|195=>219|218=>220|240=>93|241=>221|219=>148|260=>222|276=>156|277=>274|217=>161|225=>216|224=>217|267=>218|266=>228|314=>273|n=>n,fun|9=>9|3=>3|4=>4|72=>101|0=>0|76=>107|105=>224|21=>21|5=>5|70=>98|20=>20|37=>99|75=>105|127=>170|164=>230|46=>269|119=>318|139=>321|138=>320|146=>315|51=>271|80=>75|n=>n,fun|1=>0|3=>1|4=>2|n=>n⟩
def Tryz.Q5:Go.Proofs.Lays.n155 Tryz.prog Tryz.CP:={
 mixed:=ca
 f138:=Tryz.func150.trans (congrArg some ca)
 f143:=Tryz.func146.trans (congrArg some ca)
 f154:=Tryz.func89.trans (congrArg some ca)
 f155:=Tryz.func42.trans (congrArg some ca)
 f165:=Tryz.func151.trans (congrArg some ca)
 f166:=Tryz.func45.trans (congrArg some ca)
 f169:=Tryz.func46.trans (congrArg some ca)
 f195:=Tryz.func219.trans (congrArg some ca)
 f197:=Tryz.func152.trans (congrArg some ca)
 f217:=Tryz.func161.trans (congrArg some ca)
 f218:=Tryz.func220.trans (congrArg some ca)
 f219:=Tryz.func148.trans (congrArg some ca)
 f224:=Tryz.func217.trans (congrArg some ca)
 f225:=Tryz.func216.trans (congrArg some ca)
 f240:=Tryz.func93.trans (congrArg some ca)
 f241:=Tryz.func221.trans (congrArg some ca)
 f260:=Tryz.func222.trans (congrArg some ca)
 f266:=Tryz.func228.trans (congrArg some ca)
 f267:=Tryz.func218.trans (congrArg some ca)
 f276:=Tryz.func156.trans (congrArg some ca)
 f277:=Tryz.func274.trans (congrArg some ca)
 f314:=Tryz.func273.trans (congrArg some ca)
 t0:=Tryz.underlying0
 a0:=Tryz.isAgg0
 z0:=Tryz.sizeOf0
 v0:=Tryz.zeroValue0
 t3:=Tryz.underlying3
 a3:=Tryz.isAgg3
 z3:=Tryz.sizeOf3
 v3:=Tryz.zeroValue3
 t4:=Tryz.underlying4
 a4:=Tryz.isAgg4
 z4:=Tryz.sizeOf4
 v4:=Tryz.zeroValue4
 t5:=Tryz.underlying5
 a5:=Tryz.isAgg5
 z5:=Tryz.sizeOf5
 v5:=Tryz.zeroValue5
 t9:=Tryz.underlying9
 a9:=Tryz.isAgg9
 z9:=Tryz.sizeOf9
 v9:=Tryz.zeroValue9
 t20:=Tryz.underlying20
 a20:=Tryz.isAgg20
 z20:=Tryz.sizeOf20
 v20:=Tryz.zeroValue20
 t21:=Tryz.underlying21
 a21:=Tryz.isAgg21
 z21:=Tryz.sizeOf21
 v21:=Tryz.zeroValue21
 t37:=Tryz.underlying99
 a37:=Tryz.isAgg99
 z37:=Tryz.sizeOf99
 v37:=Tryz.zeroValue99
 t46:=Tryz.underlying269
 a46:=Tryz.isAgg269
 z46:=Tryz.sizeOf269
 v46:=Tryz.zeroValue269
 t51:=Tryz.underlying271
 a51:=Tryz.isAgg271
 z51:=Tryz.sizeOf271
 v51:=Tryz.zeroValue271
 t70:=Tryz.underlying98
 a70:=Tryz.isAgg98
 z70:=Tryz.sizeOf98
 v70:=Tryz.zeroValue98
 t72:=Tryz.underlying101
 a72:=Tryz.isAgg101
 z72:=Tryz.sizeOf101
 v72:=Tryz.zeroValue101
 t75:=Tryz.underlying105
 a75:=Tryz.isAgg105
 z75:=Tryz.sizeOf105
 v75:=Tryz.zeroValue105
 t76:=Tryz.underlying107
 a76:=Tryz.isAgg107
 z76:=Tryz.sizeOf107
 v76:=Tryz.zeroValue107
 t105:=Tryz.underlying224
 a105:=Tryz.isAgg224
 z105:=Tryz.sizeOf224
 v105:=Tryz.zeroValue224
 t119:=Tryz.underlying318
 a119:=Tryz.isAgg318
 z119:=Tryz.sizeOf318
 t127:=Tryz.underlying170
 a127:=Tryz.isAgg170
 z127:=Tryz.sizeOf170
 v127:=Tryz.zeroValue170
 t138:=Tryz.underlying320
 a138:=Tryz.isAgg320
 z138:=Tryz.sizeOf320
 v138:=Tryz.zeroValue320
 t139:=Tryz.underlying321
 a139:=Tryz.isAgg321
 z139:=Tryz.sizeOf321
 v139:=Tryz.zeroValue321
 t146:=Tryz.underlying315
 a146:=Tryz.isAgg315
 z146:=Tryz.sizeOf315
 v146:=Tryz.zeroValue315
 t164:=Tryz.underlying230
 a164:=Tryz.isAgg230
 z164:=Tryz.sizeOf230
 v164:=Tryz.zeroValue230
 g1:=ca
 g3:=ca
 g4:=by kernel_rfl}
def Tryz.yU:Builder.Extra Tryz.prog Tryz.CP:={
 sizeBuilder:=ca
 liesBuilder:=ca
 t5:=Tryz.underlying5
 a5:=Tryz.isAgg5
 z5:=Tryz.sizeOf5
 v5:=Tryz.zeroValue5
 infoByte:=ca
 cellsByte:=ca
 sizeByte:=ca
 neB5:=by decide}
open Go.RowKit Go.Lib in
theorem Tryz.strings_ReplaceAll(s old new:ByteArray)(m:Int)(w:World)(hs:s.size<4294967281)(c:w.cell? ⟨0,0,none⟩=some (.int .i64 m))(b:1<=old.size)(a:s.size+Lib.countB s old* new.size<=140737488355328):
 Calls Tryz.prog 42 #[.string s,.string old,.string new] w fun e w'=>
  e=.returned (.string ⟨(Lib.replaceAll s.data.toList old.data.toList new.data.toList).toArray⟩)/\Below w.heap.size w w':=Any.strings_ReplaceAll Tryz.Q5 Tryz.yU s old new m w hs c b a
end Go.Proofs
namespace Go.Proofs.YtglaihdcndcmkaaGreatDoor
def dT:(Tryz.prog.info? 101).map (·.size)=some 2:=ca
def nj:liesAt Tryz.prog Tryz.prog.depth 101 (2/Tryz.prog.cellsOf 101) 0 101 1=true:=ca
def infoByte:(Tryz.prog.info? 5).map (fun i=>(i.zero,i.size,i.bytes))=some (some (.int .u8 0),1,1):=ca
set_option maxRecDepth 100000 in
def qY(b)(w)(c:w.cell? ⟨b,0,none⟩=some (.pointer (some ⟨b,0,none⟩))):
 Calls Tryz.prog 93 #[.pointer (some ⟨b,0,none⟩)] w fun e w'=>e=.returned (.tuple #[])/\w'=w:=by
 obtain⟨j,a,_⟩:=qm dT
 go_enter Tryz.func93,Tryz.ntmps93
 go_wp2;rw[Lib.run_neq_ptr_same w _ Tryz.underlying98 a];go_wp2
 go_end0
 simp
set_option maxRecDepth 100000 in
def pY(b)(w)(i:w.cell? ⟨b,0,none⟩=some (.pointer none))(a:w.shape? b=some (101,2))(h:w.frozen? ⟨b,0,none⟩=false):
 Calls Tryz.prog 93 #[.pointer (some ⟨b,0,none⟩)] w fun e w'=>e=.returned (.tuple #[])/\w'=w.setCell ⟨b,0,none⟩ (.pointer (some ⟨b,0,none⟩)):=by
 obtain⟨j,d,c⟩:=qm dT;have g:(w.setCell ⟨b,0,none⟩ (.pointer (some ⟨b,0,none⟩))).cell? ⟨b,0,none⟩=some (.pointer (some ⟨b,0,none⟩)):=World.cell?_setCell_same' _ _ _ ia
 go_enter Tryz.func93,Tryz.ntmps93
 go_wp2;rw[Lib.run_to_unsafe w ⟨b,0,none⟩ Tryz.underlying98 Tryz.underlying230 d (by rw[c];decide) a (Nat.zero_lt_succ 1)];simp only[Result.andThen];rw[Qt];go_wp2;rw[run_callFunc_extern Tryz.func156 ca ca ca (e:=Extern.AbiNoEscape.same) ca];rw[Lib.run_noEscape];simp only[Result.andThen];rw[Qt];go_wp2;rw[Lib.run_from_unsafe w ⟨b,0,none⟩ Tryz.underlying230 Tryz.underlying98 d a nj];simp only[Result.andThen];rw[Qt];go_wp2
 go_end0
 simp
def OM(B b)(a)(w)(h:Lib.IsBuilderF 101 5 B b a w):
 Calls Tryz.prog 93 #[.pointer (some ⟨b,0,none⟩)] w fun e w'=>e=.returned (.tuple #[])/\(Lib.BuilderAtF 101 5 B b (.pointer (some ⟨b,0,none⟩)) a w'/\Below B w w'/\Lib.OthersKept 5 (some b) w w'):=by
 rcases h with h|h
 ·refine(pY b w h.cell0 h.shape h.frozen0).mono ?_
  rintro e w' ⟨rfl,rfl⟩;exact⟨rfl,h.used _,(Below.refl B w).setCell (p:=⟨b,0,none⟩) h.1 _,(Lib.OthersKept.refl _ _ w).setCell ⟨b,0,none⟩ rfl _⟩
 ·refine(qY b w h.cell0).mono ?_
  grind [Below.refl,Lib.OthersKept.refl]
set_option maxRecDepth 100000 in
theorem zet(B b)(r)(c)(w)(h:Lib.IsBuilderF 101 5 B b r w)(F:r.length+1<=140737488355328)(H:B<=w.heap.size):
 Calls Tryz.prog 44 #[.pointer (some ⟨b,0,none⟩),.int .u8 c] w fun e w'=>e=.returned .nilIface/\(Lib.IsBuilderF 101 5 B b (r++[.int .u8 c]) w'/\Below B w w'/\Lib.OthersKept 5 (some b) w w'):=by
 obtain⟨J,I,z,A,C⟩:=info_parts infoByte
 go_enter Tryz.func44,Tryz.ntmps44
 go_wp2_with(go_at_call 93;refine(OM B b r _ h).mono ?_)
 rintro e t ⟨rfl,G,o,y⟩;obtain⟨E,v,q,d,ra⟩:=G;have L:t.cell? ⟨b,0,none⟩=some (.pointer (some ⟨b,0,none⟩)):=by rw[Lib.cell_of_heap q];rfl
 have c1:t.cell? ⟨b,1,none⟩=some v:=by rw[Lib.cell_of_heap q];rfl
 go_wp2_with(at_builtin;refine wpList_append_ownF _ rfl _ _ 99 rfl B 5 J (.int .u8 0) 1 1 Tryz.underlying99 I z A C rfl ga _ _ _ rfl (d.alloc _) ⟨t.heap.size,0,none⟩ 1 1 [.int .u8 c] rfl rfl ?c1 ?c2 ?c3 ?c4 ?c5 ?_)
 case c1=>
  intro j u x
  match j,x with
  |0,x=>simp at x;subst x;simp[Addr.add]
 case c2=>intro u j;simp at j;subst j;rfl
 case c3=>grind [maxLen]
 case c4=>omega
 case c5=>have:=o.size;simp;omega
 intro K D i a _;have ea:b<t.heap.size:=by
  rcases ai b t.heap.size with j|j
  ·exact j
  ·grind
 have l:D.heap[b]?=some (.cells #[.pointer (some ⟨b,0,none⟩),v] 101 (0,0)):=by
  rw[a.block b Sa (fun e=>ra e.symm),Lib.alloc_old t _ b ea];exact q
 have M:D.cell? ⟨b,0,none⟩=some (.pointer (some ⟨b,0,none⟩)):=by rw[Lib.cell_of_heap l];rfl
 have N:D.cell? ⟨b,1,none⟩=some v:=by rw[Lib.cell_of_heap l];rfl
 have O:=Lib.frozen_of_heap l 1;obtain⟨g,n,rfl⟩:∃g n,K=.slice (some ⟨g,0,none⟩) (r.length+1) n:=by
  rcases i.2 with⟨_,P⟩|⟨g,n,j,x,Q,_⟩<;>grind
 go_wp2;go_ret;refine⟨rfl,.inr ?_,?_,((y.alloc _).grown a (Lib.ownsRowF_kind (d.alloc _))).setCell ⟨b,1,none⟩ rfl _⟩
 ·exact Lib.BuilderAtF.put (T:=101) (e:=5) E l (bs':=r++[.int .u8 c]) (by simpa using i) ga
 ·exact((o.alloc aa _).grown a (by have:=o.size;simp;omega) (fun k j=>(d.lt k j).1)).setCell (p:=⟨b,1,none⟩) E _
set_option maxRecDepth 100000 in
def writeString(B b)(n)(s)(w)(h:Lib.IsBuilderF 101 5 B b n w)(D:n.length+s.size<=140737488355328)(G:B<=w.heap.size):
 Calls Tryz.prog 45 #[.pointer (some ⟨b,0,none⟩),.string s] w fun e w'=>e=.returned (.tuple #[.int .i64 s.size,.nilIface])/\(Lib.IsBuilderF 101 5 B b (n++Lib.strCells s) w'/\Below B w w'/\Lib.OthersKept 5 (some b) w w'):=by
 obtain⟨J,H,t,u,x⟩:=info_parts infoByte
 go_enter Tryz.func45,Tryz.ntmps45
 go_wp2_with(go_at_call 93;refine(OM B b n _ h).mono ?_)
 rintro e o ⟨rfl,F,q,r⟩;obtain⟨C,v,l,c,ra⟩:=F;have L:o.cell? ⟨b,0,none⟩=some (.pointer (some ⟨b,0,none⟩)):=by rw[Lib.cell_of_heap l];rfl
 have c1:o.cell? ⟨b,1,none⟩=some v:=by rw[Lib.cell_of_heap l];rfl
 go_wp2_with(at_builtin;refine Lib.wpList_append_own_stringF _ rfl _ _ 99 9 rfl B 5 J Tryz.underlying99 Tryz.underlying9 H t u x _ _ _ rfl c s rfl ?c3 ?c4 ?c5 ?_)
 case c3=>grind [maxLen]
 case c4=>omega
 case c5=>grind
 intro K y d a _;have ea:b<o.heap.size:=by
  rcases ai b o.heap.size with A|A
  ·exact A
  ·grind
 have i:y.heap[b]?=some (.cells #[.pointer (some ⟨b,0,none⟩),v] 101 (0,0)):=by
  rw[a.block b ea (fun e=>ra e.symm)];exact l
 have M:y.cell? ⟨b,0,none⟩=some (.pointer (some ⟨b,0,none⟩)):=by rw[Lib.cell_of_heap i];rfl
 have N:y.cell? ⟨b,1,none⟩=some v:=by rw[Lib.cell_of_heap i];rfl
 have O:=Lib.frozen_of_heap i 1;obtain⟨z,E,j,rfl⟩:∃z E j,K=.slice z E j:=by
  rcases d.2 with⟨I,_⟩|⟨g,j,A,P,I,_⟩<;>grind
 go_wp2
 go_ret2
 refine⟨rfl,.inr ?_,?_,(r.grown a (Lib.ownsRowF_kind c)).setCell ⟨b,1,none⟩ rfl _⟩
 ·exact Lib.BuilderAtF.put (T:=101) (e:=5) C i (bs':=n++Lib.strCells s) (by simpa[Lib.strCells_length]using d) ga
 ·exact(q.grown a aa (fun k A=>(c.lt k A).1)).setCell (p:=⟨b,1,none⟩) C _
def Bd(B b:Nat)(l:List UInt8)(w:World):Prop:=Lib.IsBuilderF 101 5 B b (Lib.byteCells l) w
def Bd.fresh(w:World):Bd w.heap.size w.heap.size [] (w.alloc (.cells #[.pointer none,.slice none 0 0] 101)):=Lib.IsBuilderF.of (Lib.fresh_isBuilder _ _ w)
theorem Bd.drew{B b}{l}{w}(h:Bd B b l w):Bd B b l w.drew:=h
theorem Bd.alloc{B b}{l}{w}(h:Bd B b l w)(o):Bd B b l (w.alloc o):=by
 rcases h with h|h
 ·exact .inl (h.alloc o)
 ·exact .inr (h.alloc o)
theorem Bd.lt{B b}{l}{w}(h:Bd B b l w):B<=b/\b<w.heap.size:=by
 rcases h with h|h
 ·exact⟨h.1,h.lt⟩
 ·exact⟨h.1,h.lt⟩
theorem Bd.kept{B b}{l}{w w'}(h:Bd B b l w)(k:Below w.heap.size w w'):Bd B b l w':=by
 have c:∀p,Lib.BuilderAtF 101 5 B b p (Lib.byteCells l) w->Lib.BuilderAtF 101 5 B b p (Lib.byteCells l) w':=by
  rintro p h;have ea:=h.lt;obtain⟨d,v,e,a,ra⟩:=h;exact⟨d,v,(k.block b ea).trans e,a.kept (row:=none) ⟨k.os,k.tape,k.output,k.size,fun i g _=>k.block i g⟩ ia,ra⟩
 rcases h with h|h
 ·exact .inl (c _ h)
 ·exact .inr (c _ h)
def Jr(B b)(l)(c)(w)(h:Bd B b l w)(a:l.length+1<=140737488355328):
 Calls Tryz.prog 44 #[.pointer (some ⟨b,0,none⟩),.int .u8 c.toNat] w fun e w'=>e=.returned .nilIface/\Bd B b (l++[c]) w'/\Below B w w'/\Lib.OthersKept 5 (some b) w w':=by
 have i:=h.lt;refine(zet B b _ c.toNat w h (by grind [Lib.byteCells_length]) aa).mono ?_;rintro e w' ⟨rfl,d,g⟩;exact⟨rfl,by unfold Bd;rw[Lib.byteCells_append];exact d,g⟩
def qu(B b)(l)(s)(w)(h:Bd B b l w)(a:l.length+s.size<=140737488355328):
 Calls Tryz.prog 45 #[.pointer (some ⟨b,0,none⟩),.string s] w fun e w'=>e=.returned (.tuple #[.int .i64 s.size,.nilIface])/\Bd B b (l++s.data.toList) w'/\Below B w w'/\Lib.OthersKept 5 (some b) w w':=by
 have c:=h.lt;refine(writeString B b _ s w h (by grind [Lib.byteCells_length]) aa).mono ?_
 grind [Bd,Lib.byteCells_append,Lib.strCells_eq]
def YB(B b)(l)(w)(h:Bd B b l w):
 Calls Tryz.prog 46 #[.pointer (some ⟨b,0,none⟩)] w fun e w'=>e=.returned (.string ⟨l.toArray⟩)/\Bd B b l w'/\Below B w w'/\Lib.OthersKept 5 (some b) w w':=
 Tryz.Builder_String_any_k B b l w h (by have:=h.lt;omega)
end Go.Proofs.YtglaihdcndcmkaaGreatDoor
section
set_option synthInstance.maxSize 4000
namespace wa
def Wj:List UInt8:=[65,66,67,68,69,70,71,72,73,74,75,76,77,78,79,80,81,82,83,84,85,86,87,88,89,90,97,98,99,100,101,102,103,104,105,106,107,108,109,110,111,112,113,114,115,116,117,118,119,120,121,122,48,49,50,51,52,53,54,55,56,57,43,47]
def Pb(n:Nat):UInt8:=Wj.getD n 0
def Ed(c:UInt8):Option Nat:=if 65<=c/\c<=90 then some (c.toNat - 65)else if 97<=c/\c<=122 then some (c.toNat - 71)else if 48<=c/\c<=57 then some (c.toNat+4)else if c=43 then some 62 else if c=47 then some 63 else none
def zj(i:Nat):List UInt8:=(Wj.drop (16* i)).take 16
def Ol(w:Go.World):Prop:=∀i,i<4->w.cell? ⟨3,i,none⟩=some (.string ⟨(zj i).toArray⟩)
theorem Ol.lt{w}(h:Ol w):3<w.heap.size:=Go.World.block_lt_of_cell? w _ (h 0 ga)
def Ol.kept{w w'}(h:Ol w)(a:Go.RowKit.Below w.heap.size w w'):Ol w':=fun i b=>(a.cell (p:=⟨3,i,none⟩) h.lt).trans (h i b)
def SY:∀i:Fin 4,∀j:Fin 16,(zj i.1)[j.1]?=some (Pb (16* i.1+j.1)):=lc
end wa
namespace Go.Proofs.YtglaihdcndcmkaaGreatDoor
def PU(x:Nat)(h:x<4294967296):bits .and .u32 (x:Int) 3=((x % 4:Nat):Int):=by
 rw[show(3:Int)=((3:Nat):Int)from rfl,u32_and_nat x 3 h ga,Pt x 2]
def OU(x:Nat)(h:x<4294967296):bits .and .u32 (x:Int) 15=((x % 16:Nat):Int):=by
 rw[show(15:Int)=((15:Nat):Int)from rfl,u32_and_nat x 15 h ga,Pt x 4]
def UY(n:Nat)(e:n<64)(w)(c:Ol w):Calls Tryz.prog 276 #[.int .u32 n] w (Rb (.int .u8 (Pb n).toNat) w):=by
 have l:=c (n/16) aa;have hr:=SY ⟨n/16,aa⟩ ⟨n % 16,aa⟩;simp only[show 16* (n/16)+n % 16=n from Nat.div_add_mod n 16]at hr;have e1:bits .and .u32 ((n:Int)/16) 3=((n/16:Nat):Int):=by
  rw[show(n:Int)/16=((n/16:Nat):Int) by omega,PU _ aa];omega
 have e2:=OU n aa;generalize g:n/16=x at*;generalize a:n % 16=y at*;have h:(x:Int)<4:=aa
 have j:(y:Int)<16:=aa
 have b:(zj x).length=16:=by
  have:∀i:Fin 4,(zj i.1).length=16:=ga
  exact this ⟨x,aa⟩
 have k:=b;have H:=Lib.hid hr;clear hr g a e;have a:y<16:=aa
 go_enter Tryz.func276,Tryz.ntmps276
 go_wp2;go_ret;refine⟨r1 (vi ?_),rfl⟩;obtain⟨_,d⟩:=qg H.out;rw[<-d];rfl
def zeq(c)(w):Calls Tryz.prog 223 #[.int .u8 c.toNat] w (Rb (.tuple #[.int .u32 ((Ed c).getD 0),.bool (Ed c).isSome]) w):=by
 go_enter Tryz.func223,Tryz.ntmps223
 go_wp2
 all_goals (go_ret2;refine⟨t2 (vi ?_) (vb ?_),rfl⟩)
 all_goals (go_light;revert c;decide+kernel)
end Go.Proofs.YtglaihdcndcmkaaGreatDoor
end
section
set_option synthInstance.maxSize 4000
namespace wa
def num(l:List UInt8):Nat->Nat
 |0=>0
 |i+1=>num l i* 256+((l[i]?).getD 0).toNat
def gd(l:List UInt8):List UInt8:=[Pb (num l 3/262144 % 64),Pb (num l 3/4096 % 64),if l.length<2 then 61 else Pb (num l 3/64 % 64),if l.length<3 then 61 else Pb (num l 3 % 64)]
def rc:List UInt8->List UInt8
 |[]=>[]
 |[a]=>gd [a]
 |[a,b]=>gd [a,b]
 |a::b::c::l=>gd [a,b,c]++rc l
def eR(l)(i):num l i<256^i:=by
 induction i with
 |zero=>simp[num]
 |succ i a=>
  have:=((l[i]?).getD 0).toNat_lt
  grind [num]
def j7(l)(i)(h:i<=3):num l i<16777216:=Qf (eR l i) (Jp (n:=256) ga h)
def fR(l)(i)(h:i<3):num l i<65536:=Qf (eR l i) (Jp (n:=256) ga (Nat.le_of_lt_succ h))
def l7(l)(i)(h:i<3)(c)(a:l[i]?=some c):Go.bits .or .u32 ((num l i:Int)* 256) c.toNat=num l (i+1):=by
 have b:=fR l i h;have d:=c.toNat_lt;have e:(num l i:Int)* 256=((num l i* 256:Nat):Int):=aa
 rw[e,Go.u32_or_nat _ _ aa aa,Go.nat_join 8 _ _ aa aa,num,a];rfl
def m7(l)(i)(a:l[i]?=none):(num l (i+1):Int)=num l i* 256:=by rw[num,a];simp
theorem YC(l)(h:l≠[]):rc l=gd l++rc (l.drop 3):=by
 match l,h with
 |[a],_=>rfl
 |[a,b],_=>rfl
 |a::b::c::l,_=>
  rfl
end wa
namespace Go.Proofs.YtglaihdcndcmkaaGreatDoor
def Ul(x:Nat)(h:x<4294967296):bits .and .u32 (x:Int) 63=((x % 64:Nat):Int):=by
 rw[show(63:Int)=((63:Nat):Int)from rfl,u32_and_nat x 63 h ga,Pt x 6]
def Ux(m:Int)(n:Nat)(h:m=n)(b:n<64)(w)(a:Ol w):Calls Tryz.prog 276 #[.int .u32 m] w (Rb (.int .u8 (Pb n).toNat) w):=h▸UY n b w a
def uw(s:List UInt8)(k)(h):s.take (k+1)=s.take k++[s[k]]:=by
 simp
def yZ(s)(w)(O:Ol w)(hs:s.size<=1000000):Calls Tryz.prog 232 #[.string s] w (ud (.string ⟨(rc s.data.toList).toArray⟩) w):=by
 have d:s.data.toList.length=s.size:=rfl;have E:=Lib.hid d;clear d
 go_enter Tryz.func232,Tryz.ntmps232
 go_wp2
 go_loopw [0] (fun b wr=>∃(k:Nat)(t:ByteArray)(p:List UInt8),k<=s.size/\b=.string t/\t.size+k=s.size/\Bd w.heap.size w.heap.size p wr/\p.length<=4* k/\Below w.heap.size w wr/\Hid (t.data.toList=s.data.toList.drop k)/\Hid (rc s.data.toList=p++rc (s.data.toList.drop k)))
  (fun b _=>match b with| .string t=>t.size|_=>0)
 case atStart=>exact⟨0,s,[],Za _,rfl,rfl,Bd.fresh w,da,(Below.refl _ _).alloc (la _) _,Lib.hid rfl,Lib.hid rfl⟩
 case round=>
  obtain⟨k,t,p,hkZ,rfl,ht,o,X,a,y,u⟩:=hrel;have q:=O.kept a;by_cases ea:0<t.size
  ·go_wp2
   have L:min 3 ((t.size:Nat):Int)=((min 3 t.size:Nat):Int):=aa
   have T:1<=min 3 t.size:=aa
   have U:min 3 t.size<=3:=aa
   have V:min 3 t.size<=t.size:=aa
   have C:Hid (min 3 t.size=min 3 t.data.toList.length):=Lib.hid rfl;have G:min 3 t.size=3\/min 3 t.size=t.size:=aa
   rw[L];clear L;generalize min 3 t.size=K at*
   go_loopw [5,14] (fun n i jg=>∃j:Nat,j<=3/\i=.int .i64 j/\n=.int .u32 (num t.data.toList j)/\jg=wr) (fun _ i _=>3 - (intOf i).toNat)
   case atStart=>exact⟨0,aa,rfl,rfl,rfl⟩
   case round=>
    obtain⟨j,Y,rfl,rfl,rfl⟩:=hrel;by_cases D:j<3
    ·have B:=fR t.data.toList j D
     by_cases A:j<K
     ·have r:=l7 t.data.toList j D (t[j]' aa) (qe (l:=t.data.toList) (by show j<t.size;omega))
      have v:=Lib.hid r;clear r;have x:=(t[j]' aa).toNat_lt;go_wp2;go_roundw
      case rel=>exact⟨j+1,aa,by go_num,vi (by first|exact v.out|(rw[<-v.out];congr 1;omega)),trivial⟩
      case measure=>simp[intOf];omega
     ·have r:=m7 t.data.toList j (Ie (by show t.size<=j;omega))
      have v:=Lib.hid r;clear r;go_wp2;go_roundw
      case rel=>exact⟨j+1,aa,by go_num,vi (by first|exact v.out.symm|(rw[v.out];omega)),trivial⟩
      case measure=>simp[intOf];omega
    ·obtain rfl:j=3:=aa
     obtain⟨A,B,v,x,P,J,e1,e2,e3⟩:∃A B v x,gd t.data.toList=[A,B,v,x]/\A=Pb (num t.data.toList 3/262144 % 64)/\B=Pb (num t.data.toList 3/4096 % 64)/\v=(if K<2 then 61 else Pb (num t.data.toList 3/64 % 64))/\x=(if K<3 then 61 else Pb (num t.data.toList 3 % 64)):=by
      refine⟨_,_,_,_,rfl,rfl,rfl,?_,?_⟩
      ·have:=C.out;split<;>split<;>first|rfl|omega
      ·have:=C.out;split<;>split<;>first|rfl|omega
     have S:=Lib.hid P;clear P;generalize M:num t.data.toList 3=N at*;have W:=M▸j7 _ _ (la _);clear M;have Q:=Lib.hid J;have R:=Lib.hid e1;have H:=Lib.hid e2;have I:=Lib.hid e3;clear J e1 e2 e3;go_wp2;rw[show((3:Nat):Int)=3 from rfl]
     go_loopw [29] (fun i jg=>∃j:Nat,j<=4/\i=.int .i64 j/\Bd w.heap.size w.heap.size (p++[A,B,v,x].take j) jg/\Below w.heap.size w jg) (fun i _=>4 - (intOf i).toNat)
     case atStart=>exact⟨0,aa,rfl,by simpa using o,a⟩
     case round=>
      clear o a q;obtain⟨j,Y,rfl,o,a⟩:=hrel;have q:=O.kept a;by_cases Z:j<4
      ·have d:(p++[A,B,v,x].take j).length+1<=140737488355328:=Sa
       obtain rfl|rfl|rfl|rfl:j=0\/j=1\/j=2\/j=3:=aa
       ·have F:bits .and .u32 ((N:Int)/262144) 63=((N/262144 % 64:Nat):Int):=Ul (N/262144) aa
        obtain rfl:=Q.out
        go_wp2_with(first|(go_at_call 276;refine(Ux _ (N/262144 % 64) aa aa _ q).mono ?_;rintro e w' ⟨rfl,rfl⟩)|(go_at_call 44;refine(Jr _ _ _ _ _ o d).mono ?_;rintro e z ⟨rfl,c,g,_⟩))
        go_roundw
        case rel=>exact⟨1,aa,by go_num,by simpa using c,a.trans g⟩
        case measure=>simp[intOf]
       ·have F:bits .and .u32 ((N:Int)/4096) 63=((N/4096 % 64:Nat):Int):=Ul (N/4096) aa
        obtain rfl:=R.out
        go_wp2_with(first|(go_at_call 276;refine(Ux _ (N/4096 % 64) aa aa _ q).mono ?_;rintro e w' ⟨rfl,rfl⟩)|(go_at_call 44;refine(Jr _ _ _ _ _ o d).mono ?_;rintro e z ⟨rfl,c,g,_⟩))
        go_roundw
        case rel=>exact⟨2,aa,by go_num,by simpa using c,a.trans g⟩
        case measure=>simp[intOf]
       ·have F:bits .and .u32 ((N:Int)/64) 63=((N/64 % 64:Nat):Int):=Ul (N/64) aa
        by_cases r:K<2
        ·obtain rfl:v=61:=by rw[H.out,if_pos r]
         go_wp2_with(first|(go_at_call 44;refine(Jr _ _ _ 61 _ o d).mono ?_;rintro e z ⟨rfl,c,g,_⟩))
         go_roundw
         case rel=>exact⟨3,aa,by go_num,by simpa using c,a.trans g⟩
         case measure=>simp[intOf]
        ·obtain rfl:v=Pb (N/64 % 64):=by rw[H.out,if_neg r]
         go_wp2_with(first|(go_at_call 276;refine(Ux _ (N/64 % 64) aa aa _ q).mono ?_;rintro e w' ⟨rfl,rfl⟩)|(go_at_call 44;refine(Jr _ _ _ _ _ o d).mono ?_;rintro e z ⟨rfl,c,g,_⟩))
         go_roundw
         case rel=>exact⟨3,aa,by go_num,by simpa using c,a.trans g⟩
         case measure=>simp[intOf]
       ·have F:=Ul N aa
        by_cases r:K<3
        ·obtain rfl:x=61:=by rw[I.out,if_pos r]
         go_wp2_with(first|(go_at_call 44;refine(Jr _ _ _ 61 _ o d).mono ?_;rintro e z ⟨rfl,c,g,_⟩))
         go_roundw
         case rel=>exact⟨4,aa,by go_num,by simpa using c,a.trans g⟩
         case measure=>simp[intOf]
        ·obtain rfl:x=Pb (N % 64):=by rw[I.out,if_neg r]
         go_wp2_with(first|(go_at_call 276;refine(Ux _ (N % 64) aa aa _ q).mono ?_;rintro e w' ⟨rfl,rfl⟩)|(go_at_call 44;refine(Jr _ _ _ _ _ o d).mono ?_;rintro e z ⟨rfl,c,g,_⟩))
         go_roundw
         case rel=>exact⟨4,aa,by go_num,by simpa using c,a.trans g⟩
         case measure=>simp[intOf]
      ·obtain rfl:j=4:=aa
       go_wp2;go_roundw
       case rel=>
        have F:(t.extract K t.size).data.toList=s.data.toList.drop (k+K):=by
         rw[Lib.extract_data,Rf da,y.out,rf]
        refine⟨k+K,_,_,aa,rfl,?_,o,Sa,a,Lib.hid F,Lib.hid ?_⟩
        ·simp;omega
        ·rw[u.out,YC _ (by intro h;have:=congrArg List.length h;rw[Ya,E.out]at this;simp at this;omega),<-y.out,S.out]
         have r:List.drop 3 t.data.toList=s.data.toList.drop (k+K):=by
          rcases G with h|h
          ·rw[h,y.out,rf]
          ·rw[Ai ie,Ai (by rw[E.out];omega)]
         rw[r];simp
       case measure=>simp;omega
  ·have v:k=s.size:=aa
   have j:rc s.data.toList=p:=by
    rw[u.out,Ai (by rw[E.out];omega)];simp[rc]
   have r:=Lib.hid j;clear j
   go_wp2_with(go_at_call 46;refine(YB _ _ _ _ o).mono ?_;rintro e z ⟨rfl,c,g,_⟩)
   go_ret;rw[r.out];exact⟨rfl,a.trans g⟩
end Go.Proofs.YtglaihdcndcmkaaGreatDoor
end
section
set_option synthInstance.maxSize 4000
namespace wa
def Ig(l:List UInt8)(last:Bool):Nat:=if last=true/\l[3]?=some 61 then(if l[2]?=some 61 then 2 else 3)else 4
def ke(l:List UInt8)(k:Nat):Nat->Option Nat
 |0=>some 0
 |i+1=>match ke l k i with
  |none=>none
  |some n=>if k<=i then some (n* 64)else match Ed (l[i]?.getD 0)with
   |none=>none
   |some x=>some (n* 64+x)
def hf(l:List UInt8)(last:Bool):List UInt8×Bool:=match ke l (Ig l last) 4 with
 |none=>([],false)
 |some n=>([UInt8.ofNat (n/65536),UInt8.ofNat (n/256),UInt8.ofNat n].take (Ig l last - 1),n % 256^(4 - Ig l last)==0)
def go(c):∀x,Ed c=some x->x<64:=by
 have:∀c:UInt8,(Ed c).getD 0<64:=lc
 grind
def kO(l)(k i):∀n,ke l k i=some n->n<64^i:=by
 induction i with
 |zero=>grind [ke]
 |succ i c=>
  intro n h;rw[ke]at h;split at h
  ·cases h
  ·rename_i m a
   have:=c m a;rw[Nat.pow_succ];split at h
   ·grind
   ·split at h
    ·cases h
    ·rename_i x b
     have:=go _ _ b
     grind
def a1(l)(k i n)(a:i<4)(h:ke l k i=some n):n<262144:=Qf (kO l k i n h) (Jp (n:=64) ga (Nat.le_of_lt_succ a))
def b1(l)(k n)(h:ke l k 4=some n):n<16777216:=kO l k 4 n h
def d1{l}{k i}(h:ke l k i=none)(j)(a:i<=j):ke l k j=none:=by
 induction j<;>grind [ke.eq_2]
def k1(n x:Nat)(h:n<262144)(a:x<64):Go.bits .or .u32 ((n:Int)* 64) x=((n* 64+x:Nat):Int):=by
 have e:(n:Int)* 64=((n* 64:Nat):Int):=aa
 rw[e,Go.u32_or_nat _ _ aa aa,Go.nat_join 6 _ _ aa aa]
theorem oy(l)(last):Ig l last=2\/Ig l last=3\/Ig l last=4:=by grind [Ig]
end wa
namespace Go.Proofs.YtglaihdcndcmkaaGreatDoor
def yA(n:Nat):(UInt8.ofNat n).toNat=n % 256:=da
theorem nY{P}{a dst e}(hs:P.underlying a=some (.slice e))(d:P.underlying e=some (.int .u8))(c:P.underlying dst=some .string)(w:World)(x y z):
 (convert a dst (.slice (some ⟨w.heap.size,0,none⟩) 3 3)).run P (w.alloc (.cells #[.int .u8 x.toNat,.int .u8 y.toNat,.int .u8 z.toNat] e))=.ok (.string ⟨#[x,y,z]⟩) (w.alloc (.cells #[.int .u8 x.toNat,.int .u8 y.toNat,.int .u8 z.toNat] e)):=
 run_convert_bytes_back _ a dst e ⟨w.heap.size,0,none⟩ 3 [x,y,z] hs d c (by
  intro j b
  match j,b with
  |0,b=>simp[Addr.add]
  |1,b=>simp[Addr.add]
  |2,b=>simp[Addr.add])
def pU(c)(o)(h:Ed c=o)(w):Calls Tryz.prog 223 #[.int .u8 c.toNat] w (Rb (.tuple #[.int .u32 (o.getD 0),.bool o.isSome]) w):=h▸zeq c w
def j1(s)(last)(w)(hs:s.size=4):Calls Tryz.prog 154 #[.string s,.bool last] w (ud (.tuple #[.string ⟨(hf s.data.toList last).1.toArray⟩,.bool (hf s.data.toList last).2]) w):=by
 have o:s.data.toList.length=s.size:=rfl;have O:=Lib.hid o;clear o;have G:s.data.toList[2]?=some (s[2]' aa):=qe (l:=s.data.toList) ie;have H:s.data.toList[3]?=some (s[3]' aa):=qe (l:=s.data.toList) ie;obtain⟨K,F,J,p⟩:∃K,Ig s.data.toList last=K/\2<=K/\(last=false/\K=4\/last=true/\K=4/\(((s[3]' aa).toNat:Int)==61)=false\/last=true/\K=3/\(((s[3]' aa).toNat:Int)==61)=true/\(((s[2]' aa).toNat:Int)==61)=false\/last=true/\K=2/\(((s[3]' aa).toNat:Int)==61)=true/\(((s[2]' aa).toNat:Int)==61)=true):=by
  refine⟨_,rfl,by grind [oy],?_⟩;unfold Ig;rw[G,H];cases last
  ·simp
  ·by_cases a:s[3]' aa=61
   ·by_cases c:s[2]' aa=61
    ·simp_all
    ·exact .inr (.inr (.inl ⟨rfl,ia,ie,by simp[<-Yb]at c⊢;omega⟩))
   ·exact .inr (.inl ⟨rfl,by simp[a],by simp[<-Yb]at a⊢;omega⟩)
 clear G H;have B:hf s.data.toList last=match ke s.data.toList K 4 with
  |none=>([],false)
  |some n=>([UInt8.ofNat (n/65536),UInt8.ofNat (n/256),UInt8.ofNat n].take (K - 1),n % 256^(4 - K)==0):=by unfold hf;rw[F]
 generalize hf s.data.toList last=V at B⊢;have y:=Lib.hid B;clear B F;rcases p with⟨rfl,b⟩|⟨rfl,b,E⟩|⟨rfl,b,E,I⟩|⟨rfl,b,E,I⟩
 all_goals
  go_enter Tryz.func154,Tryz.ntmps154
  go_wp2
  go_loopw [6] (fun k wr=>∃j:Nat,k=.int .i64 j/\K<=j/\j<=4/\wr=w) (fun k _=>(intOf k).toNat)
  case atStart=>exact⟨4,rfl,aa,aa,rfl⟩
  case round=>
   obtain⟨j,rfl,L,M,rfl⟩:=hrel;by_cases u:j=K
   ·have z:=Lib.hid b
    rw[b]at u;subst u;clear b;go_wp2
    try rw[show((4:Nat):Int)=4 from rfl]
    try rw[show((3:Nat):Int)=3 from rfl]
    try rw[show((2:Nat):Int)=2 from rfl]
    go_loopw [7,26] (fun n D jg=>∃(i m:Nat),i<=4/\D=.int .i64 i/\n=.int .u32 m/\jg=wr/\Hid (ke s.data.toList K i=some m)) (fun _ D _=>4 - (intOf D).toNat)
    case atStart=>exact⟨0,0,aa,rfl,rfl,rfl,Lib.hid rfl⟩
    case round=>
     obtain⟨i,m,Q,rfl,rfl,rfl,h⟩:=hrel;by_cases C:i<4
     ·have v:=a1 _ _ _ _ C h.out
      by_cases c:K<=i
      ·have a:ke s.data.toList K (i+1)=some (m* 64):=by rw[ke,h.out];simp only[if_pos c]
       have r:=Lib.hid a;clear a;have d:=c;rw[z.out]at d;clear h
       first
        |(exfalso;omega)
        |(go_wp2
          go_roundw
          case rel=>exact⟨i+1,m* 64,aa,by go_num,by go_num,trivial,r⟩
          case measure=>simp[intOf];omega)
      ·have d:=Nat.lt_of_not_le c
       rw[z.out]at d;have g:s.data.toList[i]?.getD 0=s[i]' aa:=by
        rw[qe (l:=s.data.toList) ie];rfl
       rcases q:Ed (s[i]' aa)with _|x
       ·have a:ke s.data.toList K (i+1)=none:=by rw[ke,h.out];simp only[if_neg c,g,q]
        have t:V=([],false):=by rw[y.out,d1 a 4 aa]
        have r:=Lib.hid t;have A:=Lib.hid q;clear a t q g h
        go_wp2_with(go_at_call 223;refine(pU _ _ A.out _).mono ?_;rintro e w' ⟨rfl,rfl⟩)
        go_ret2
        rw[r.out];exact⟨rfl,Below.refl _ _⟩
       ·have a:ke s.data.toList K (i+1)=some (m* 64+x):=by rw[ke,h.out];simp only[if_neg c,g,q]
        have N:=go _ _ q;have t:=k1 m x v N;have r:=Lib.hid a;have A:=Lib.hid q;clear a q g h
        go_wp2_with(go_at_call 223;refine(pU _ _ A.out _).mono ?_;rintro e w' ⟨rfl,rfl⟩)
        go_roundw
        case rel=>exact⟨i+1,m* 64+x,aa,by go_num,by go_num,trivial,r⟩
        case measure=>simp[intOf];omega
     ·obtain rfl:i=4:=aa
      have v:=b1 _ _ _ h.out;rw[h.out]at y;simp only[]at y;have n1:=yA (m/65536);have n2:=yA (m/256);have n3:=yA m;have g:=nY (P:=Tryz.prog) Tryz.underlying99 Tryz.underlying5 Tryz.underlying9 wr (UInt8.ofNat (m/65536)) (UInt8.ofNat (m/256)) (UInt8.ofNat m);rw[n1,n2,n3,show(((m/65536 % 256:Nat)):Int)=(m:Int)/65536 by omega,show(((m/256 % 256:Nat)):Int)=(m:Int)/256 % 256 by omega,show(((m % 256:Nat)):Int)=(m:Int) % 256 by omega]at g;clear n1 n2 n3;have m0:bits .and .u32 (m:Int) 0=0:=by rw[show(0:Int)=((0:Nat):Int)from rfl,u32_and_nat m 0 aa ga,Nat.and_zero]
      have q:bits .and .u32 (m:Int) 255=((m % 256:Nat):Int):=by rw[show(255:Int)=((255:Nat):Int)from rfl,u32_and_nat m 255 aa ga,Pt m 8]
      have r:bits .and .u32 (m:Int) 65535=((m % 65536:Nat):Int):=by rw[show(65535:Int)=((65535:Nat):Int)from rfl,u32_and_nat m 65535 aa ga,Pt m 16]
      have d:(ByteArray.mk #[UInt8.ofNat (m/65536),UInt8.ofNat (m/256),UInt8.ofNat m]).size=3:=rfl;go_wp2
      (refine wp_region_quiet_below ca ca ?_;(repeat (first|go_big_quiet_skip|(go_big_quiet_want;go_big_quiet_op;first|go_big_quiet_on|(apply Exists.intro;refine⟨fun _=>?_,?_⟩;(· (fail));go_big_quiet_on))));refine wpQuiet_nil ?_;intro _ c;obtain⟨⟨dq,osq⟩,a⟩:=c;subst a)
      go_wp2
      go_ret2
      rw[y.out,z.out];refine⟨t2 (vS rfl) (vb ?_),((Below.refl _ _).alloc (la _) _).trans ((below_regrown _ _ _).mono da)⟩
      first|rfl|(rw[Gp];simp;omega)
   ·obtain rfl|rfl:j=3\/j=4:=aa
    all_goals first
     |(exfalso;omega)
     |(subst b
       go_wp2
       grind [intOf])
end Go.Proofs.YtglaihdcndcmkaaGreatDoor
end
section
set_option synthInstance.maxSize 4000
namespace wa
def jb:List UInt8->Option (List UInt8)
 |[]=>some []
 |[_]=>none
 |[_,_]=>none
 |[_,_,_]=>none
 |a::b::c::d::l=>if(hf [a,b,c,d] l.isEmpty).2 then(jb l).map ((hf [a,b,c,d] l.isEmpty).1++·)else none
def vn(o:Option (List UInt8)):Go.Value:=match o with|some l=>.tuple #[.string ⟨l.toArray⟩,.int .i64 0]|none=>.tuple #[.string ⟨#[]⟩,.int .i64 7]
@[simp] theorem cN:vn none=.tuple #[.string ⟨#[]⟩,.int .i64 7]:=rfl
@[simp] theorem dN (l):vn (some l)=.tuple #[.string ⟨l.toArray⟩,.int .i64 0]:=rfl
theorem eN(l)(h:4<=l.length):jb l=if(hf (l.take 4) (l.drop 4).isEmpty).2 then(jb (l.drop 4)).map ((hf (l.take 4) (l.drop 4).isEmpty).1++·)else none:=by
 match l,h with
 |a::b::c::d::l,_=>rfl
theorem fN(n):∀l,l.length<=n->l.length % 4≠0->jb l=none:=by
 induction n with
 |zero=>omega
 |succ n h=>
  intro l g e
  match l,g,e with
  |[],_,e=>grind
  |[_],_,_=>rfl
  |[_,_],_,_=>rfl
  |[_,_,_],_,_=>rfl
  |a::b::c::d::l,g,e=>
   grind [jb.eq_5]
theorem nD(l)(b):(hf l b).1.length<=3:=by
 unfold hf;grind
end wa
namespace Go.Proofs.YtglaihdcndcmkaaGreatDoor
def lO(s)(last:Bool)(x)(ok:Bool)(h:hf s.data.toList last=(x,ok))(w)(hs:s.size=4):Calls Tryz.prog 154 #[.string s,.bool last] w (ud (.tuple #[.string ⟨x.toArray⟩,.bool ok]) w):=by
 have:=j1 s last w hs;rw[h]at this;exact this
def hN(s)(w)(hs:s.size<=1000000):Calls Tryz.prog 91 #[.string s] w (ud (vn (jb s.data.toList)) w):=by
 have n:s.data.toList.length=s.size:=rfl;have z:=Lib.hid n;clear n;by_cases D:s.size % 4=0
 ·have o:(s.size:Int) % 4=0:=aa
  go_enter Tryz.func91,Tryz.ntmps91
  go_wp2
  try rw[o]
  clear o
  go_loopw [5,6,7] (fun i _ _ wr=>∃(k:Nat)(h:List UInt8),i=.int .i64 (4* k:Nat)/\4* k<=s.size/\Bd w.heap.size w.heap.size h wr/\h.length<=3* k/\Below w.heap.size w wr/\Hid (jb s.data.toList=(jb (s.data.toList.drop (4* k))).map (h++·)))
   (fun i _ _ _=>s.size - (intOf i).toNat)
  case atStart=>exact⟨0,[],rfl,aa,Bd.fresh w,da,(Below.refl _ _).alloc (la _) _,Lib.hid da⟩
  case round=>
   obtain⟨k,h,rfl,I,j,E,a,q⟩:=hrel;by_cases ea:4* k<s.size
   ·have t:(s.extract (4* k) (4* k+4)).size=4:=by rw[Kj];omega
    have r:(s.extract (4* k) (4* k+4)).data.toList=(s.data.toList.drop (4* k)).take 4:=by
     rw[Lib.extract_data,oh]
    have b:((s.data.toList.drop (4* k)).drop 4).isEmpty=decide ((4* k+4:Int)=s.size):=by
     rw[Gp];simp only[List.isEmpty_iff,decide_eq_true_iff,rf,List.drop_eq_nil_iff,z.out];omega
    have d:=eN (s.data.toList.drop (4* k)) (by grind [Hid.out]);rw[<-r,rf]at d;rw[rf]at b;have g:=nD (s.extract (4* k) (4* k+4)).data.toList ((s.data.toList.drop (4* k+4)).isEmpty);generalize v:(s.data.toList.drop (4* k+4)).isEmpty=B at d b g;rcases u:hf (s.extract (4* k) (4* k+4)).data.toList B with⟨x,ok⟩
    rw[u]at d g;simp only[]at d g;have A:=Lib.hid u;clear u v r;have F:(4* (k:Int)+4==(s.size:Int))=B:=by rw[b,Gp];simp
    clear b;have y:(ByteArray.mk x.toArray).size=x.length:=rfl;cases ok
    ·have c:jb s.data.toList=none:=by rw[q.out,d];rfl
     have C:=Lib.hid c;clear c d
     go_wp2_with(go_at_call 154;refine(lO _ _ _ _ A.out _ t).mono ?_;rintro e G ⟨rfl,l⟩)
     go_ret2
     rw[C.out];exact⟨rfl,a.trans (l.mono a.size)⟩
    ·have C:=Lib.hid d;clear d
     go_wp2_with(first|(go_at_call 154;refine(lO _ _ _ _ A.out _ t).mono ?_;rintro e G ⟨rfl,l⟩;have j:=Bd.kept j l;have a:=a.trans (l.mono a.size))|(go_at_call 45;refine(qu _ _ _ _ _ j (by rw[y];omega)).mono ?_;rintro e H ⟨rfl,j,p,_⟩;have a:=a.trans p))
     go_roundw
     case rel=>
      refine⟨k+1,h++x,by go_num,aa,j,ia,a,Lib.hid ?_⟩;rw[q.out,C.out,if_pos trivial,Option.map_map,show 4* (k+1)=4* k+4 from rfl];congr 1;grind
     case measure=>simp[intOf];omega
   ·have g:4* k=s.size:=aa
    have c:jb s.data.toList=some h:=by
     rw[q.out,Ai (by rw[z.out];omega)];simp[jb]
    have d:=Lib.hid c;clear c
    go_wp2_with(go_at_call 46;refine(YB _ _ _ _ j).mono ?_;rintro e H ⟨rfl,b,p,_⟩)
    go_ret2
    rw[d.out];exact⟨rfl,a.trans p⟩
 ·have a:=fN s.size s.data.toList (la _) D
  rw[a];clear a;have o:¬(s.size:Int) % 4=0:=aa
  go_enter Tryz.func91,Tryz.ntmps91
  go_wp2
  go_ret2
  exact⟨rfl,Below.refl _ _⟩
end Go.Proofs.YtglaihdcndcmkaaGreatDoor
end
section
set_option synthInstance.maxSize 4000
namespace wa
def soft(c:UInt8):Bool:=c==9||c==10||c==13||c==32
def bare(l:List UInt8):List UInt8:=l.filter fun c=>!soft c
def HJ(l)(c):bare (l++[c])=bare l++if soft c then[]else[c]:=by
 grind [bare]
def fV(l):(bare l).length<=l.length:=Ew _ _
def bH(l):(gd l).length=4:=rfl
end wa
namespace Go.Proofs.YtglaihdcndcmkaaGreatDoor
theorem Rx(t)(l)(V:Option (List UInt8))(ht:t.data.toList=l)(a:jb l=V)(w:World)(hs:t.size<=1000000):Calls Tryz.prog 91 #[.string t] w (ud (vn V) w):=by
 subst ht;subst a;exact hN t w hs
def jT(c):(soft c=true/\(((c.toNat:Int)==9)=true/\((c.toNat:Int) !=9)=false\/((c.toNat:Int)==9)=false/\((c.toNat:Int) !=9)=true/\(((c.toNat:Int)==10)=true/\((c.toNat:Int) !=10)=false\/((c.toNat:Int)==10)=false/\((c.toNat:Int) !=10)=true/\(((c.toNat:Int)==13)=true/\((c.toNat:Int) !=13)=false\/((c.toNat:Int)==13)=false/\((c.toNat:Int) !=13)=true/\((c.toNat:Int)==32)=true/\((c.toNat:Int) !=32)=false))))\/(soft c=false/\((c.toNat:Int)==9)=false/\((c.toNat:Int) !=9)=true/\((c.toNat:Int)==10)=false/\((c.toNat:Int) !=10)=true/\((c.toNat:Int)==13)=false/\((c.toNat:Int) !=13)=true/\((c.toNat:Int)==32)=false/\((c.toNat:Int) !=32)=true):=by
 revert c;decide+kernel
def zdJ(s)(w:World)(hs:s.size<=1000000):Calls Tryz.prog 144 #[.string s] w (ud (vn (jb (bare s.data.toList))) w):=by
 have n:s.data.toList.length=s.size:=rfl;have U:=Lib.hid n;clear n;generalize z:jb (bare s.data.toList)=V;have J:=Lib.hid z;clear z;obtain⟨O,A,t,u,x⟩:=info_parts infoByte;obtain⟨T,hr,a,y⟩:=run_make_own w w.heap.size 99 5 O (.int .u8 0) 1 Tryz.underlying99 A t u .i64 .i64 s.size (by rw[x];omega) (by unfold maxLen;omega) (la _);have r:=(Below.refl _ w).grown y (la _) (fun k B=>by cases B);have a:xe w.heap.size 5 (.slice (some ⟨w.heap.size,0,none⟩) 0 s.size) [] T:=a;clear A t u x y
 go_enter Tryz.func144,Tryz.ntmps144
 go_wp2;clear hr
 go_loopw [4,5,11] (fun v _ i wr=>∃(k:Nat)(b:List UInt8),k<=s.size/\i=.int .i64 k/\b.length<=k/\xe w.heap.size 5 v b wr/\Below w.heap.size w wr/\Hid (b=bare (s.data.toList.take k)))
  (fun _ _ i _=>s.size - (intOf i).toNat)
 case atStart=>exact⟨0,[],Za _,rfl,da,a,r,Lib.hid rfl⟩
 case round=>
  clear a r;obtain⟨k,b,B,rfl,M,a,c,j⟩:=hrel;by_cases ea:k<s.size
  ·have d:bare (s.data.toList.take (k+1))=b++if soft s[k]then[]else[s[k]]:=by
    rw[uw _ _ (by grind [Hid.out]),HJ,j.out];rfl
   rcases jT s[k]with⟨q,L⟩|⟨q,G,D,H,E,I,F,R,Q⟩
   ·rw[q,if_pos rfl,Ye]at d
    have h:=Lib.hid d;clear d q;rcases L with⟨G,D⟩|⟨G,D,⟨H,E⟩|⟨H,E,⟨I,F⟩|⟨I,F,R,Q⟩⟩⟩
    all_goals
     go_wp2;go_roundw
     case rel=>exact⟨k+1,b,aa,by go_num,aa,a,c,Lib.hid h.out.symm⟩
     case measure=>simp[intOf];omega
   ·rw[q,if_neg da]at d
    have h:=Lib.hid d;clear d q
    go_wp2_with(at_builtin;refine ih ja _ _ _ ja 5 Tryz.underlying99 infoByte w.heap.size wr _ _ ja a (s[k]) ja aa c.size ?_;intro g K S y p N o C)
    go_roundw
    case rel=>exact⟨k+1,b++[s[k]],aa,by go_num,ia,p,c.trans o,Lib.hid h.out.symm⟩
    grind [intOf]
  ·obtain rfl:k=s.size:=aa
   have d:b=bare s.data.toList:=by rw[j.out,Rf da]
   have p:=Lib.hid d;clear d;have q:=sn (P:=Tryz.prog) Tryz.underlying99 Tryz.underlying5 Tryz.underlying9 a;have h:(ByteArray.mk b.toArray).size<=1000000:=by show b.length<=_;omega
   rcases V with _|l
   all_goals
    go_wp2_with(go_at_call 91;refine(Rx _ _ _ p.out J.out _ h).mono ?_;rintro e S ⟨rfl,o⟩;simp only[cN,dN])
    go_ret2
    exact⟨rfl,c.trans (o.mono c.size)⟩
def zdK(x:∀(s:ByteArray)(w:World),s.size<=100000->Calls Tryz.prog 109 #[.string s] w (ud (vn (jb s.data.toList)) w))(s:ByteArray)(w:World)(hs:s.size<=100000):Calls Tryz.prog 175 #[.string s] w (ud (vn (jb (bare s.data.toList))) w):=by
 have n:s.data.toList.length=s.size:=rfl;have O:=Lib.hid n;clear n;have r:∀(t:ByteArray)(l:List UInt8)(V:Option (List UInt8))(ht:t.data.toList=l)(u:jb l=V)(w:World)(hs:t.size<=100000),Calls Tryz.prog 109 #[.string t] w (ud (vn V) w):=by
  intro t l V ht u w hs;subst ht;subst u;exact x t w hs
 have F:=Lib.hid r;clear x r;generalize u:jb (bare s.data.toList)=V;have G:=Lib.hid u;clear u
 go_enter Tryz.func175,Tryz.ntmps175
 go_wp2
 go_loopw [4,5] (fun v i wr=>∃(k:Nat)(a:List UInt8),k<=s.size/\i=.int .i64 k/\a.length<=k/\xe w.heap.size 5 v a wr/\Below w.heap.size w wr/\Hid (a=bare (s.data.toList.take k)))
  (fun _ i _=>s.size - (intOf i).toNat)
 case atStart=>exact⟨0,[],Za _,rfl,da,xe.made w (la _) _ _ rfl ga,(Below.refl _ _).alloc (la _) _,Lib.hid rfl⟩
 case round=>
  obtain⟨k,a,R,rfl,J,d,b,j⟩:=hrel;by_cases ea:k<s.size
  ·have c:bare (s.data.toList.take (k+1))=a++if soft s[k]then[]else[s[k]]:=by
    rw[uw _ _ (by grind [Hid.out]),HJ,j.out];rfl
   rcases jT s[k]with⟨q,I⟩|⟨q,C,z,D,A,E,B,M,L⟩
   ·rw[q,if_pos rfl,Ye]at c
    have h:=Lib.hid c;clear c q;rcases I with⟨C,z⟩|⟨C,z,⟨D,A⟩|⟨D,A,⟨E,B⟩|⟨E,B,M,L⟩⟩⟩
    all_goals
     go_wp2;go_roundw
     case rel=>exact⟨k+1,a,aa,by go_num,aa,d,b,Lib.hid h.out.symm⟩
     case measure=>simp[intOf];omega
   ·rw[q,if_neg da]at c
    have h:=Lib.hid c;clear c q
    go_wp2_with(at_builtin;refine ih ja _ _ _ ja 5 Tryz.underlying99 infoByte w.heap.size wr _ _ ja d (s[k]) ja aa b.size ?_;intro g H N Q p K o y)
    go_roundw
    case rel=>exact⟨k+1,a++[s[k]],aa,by go_num,ia,p,b.trans o,Lib.hid h.out.symm⟩
    grind [intOf]
  ·obtain rfl:k=s.size:=aa
   have c:a=bare s.data.toList:=by rw[j.out,Rf da]
   have p:=Lib.hid c;clear c;have q:=sn (P:=Tryz.prog) Tryz.underlying99 Tryz.underlying5 Tryz.underlying9 d;have h:(ByteArray.mk a.toArray).size<=100000:=by show a.length<=_;omega
   rcases V with _|l
   all_goals
    go_wp2_with(go_at_call 109;refine(F.out _ _ _ p.out G.out _ h).mono ?_;rintro e N ⟨rfl,o⟩;simp only[cN,dN])
    go_ret2
    exact⟨rfl,b.trans (o.mono b.size)⟩
end Go.Proofs.YtglaihdcndcmkaaGreatDoor
end
section
set_option synthInstance.maxSize 4000
set_option synthInstance.maxHeartbeats 400000
namespace wa
def free(c:UInt8):Bool:=(97<=c&&c<=122)||(65<=c&&c<=90)||(48<=c&&c<=57)||c==45||c==46||c==95||c==126
def Lj(c:UInt8):Option UInt8:=if 48<=c/\c<=57 then some (c - 48)else if 97<=c/\c<=102 then some (c - 87)else if 65<=c/\c<=70 then some (c - 55)else none
def DO(c:UInt8):UInt8:=if c<10 then 48+c else 55+c
def pair(c:UInt8):List UInt8:=[DO (c/16),DO (c % 16)]
def wy(a b:UInt8):Option UInt8:=match Lj a,Lj b with|some x,some y=>some (16* x+y)|_,_=>none
def mi(s:List UInt8)(at_:Int):Option UInt8:=
 if at_<0 then none else match s[at_.toNat]?,s[at_.toNat+1]? with|some a,some b=>wy a b|_,_=>none
theorem xy(s:ByteArray)(n)(h:n<0\/(s.size:Int) - 2<n):mi s.data.toList n=none:=by
 unfold mi;split
 ·rfl
 ·rename_i a
  have:s.data.toList[n.toNat+1]?=none:=by
   rw[Ie];simp;show s.size<=_;omega
  grind
def CO(s:ByteArray)(n:Int)(c:0<=n)(h:n+2<=s.size):mi s.data.toList n=wy (s[n.toNat]' aa) (s[(n+1).toNat]' aa):=by
 have e:(n+1).toNat=n.toNat+1:=aa
 have a:s.data.toList[n.toNat]?=some (s[n.toNat]' aa):=by
  rw[qe Sa];rfl
 have b:s.data.toList[n.toNat+1]?=some (s[(n+1).toNat]' aa):=by
  rw[qe Sa];simp only[e];rfl
 grind [mi]
theorem rI{c x}(h:Lj c=some x):x<16:=by
 grind [Lj]
theorem N7:∀x,x<16->∀y:UInt8,y<16->Go.bits .or .u8 (↑x.toNat* 16 % 256) ↑y.toNat=↑(16* x+y).toNat:=lc
end wa
namespace Go.Proofs.YtglaihdcndcmkaaGreatDoor
def zer(c)(w):Calls Tryz.prog 272 #[.int .u8 c.toNat] w (Rb (.tuple #[.int .u8 ((Lj c).getD 0).toNat,.bool (Lj c).isSome]) w):=by
 go_enter Tryz.func272,Tryz.ntmps272
 go_wp2
 all_goals (go_ret2;refine⟨t2 (vi ?_) (vb ?_),rfl⟩)
 all_goals (go_light;revert c;decide+kernel)
def WY(c)(w):Calls Tryz.prog 277 #[.int .u8 c.toNat] w (Rb (.int .i64 (((Lj c).getD 16).toNat)) w):=by
 go_enter Tryz.func277,Tryz.ntmps277
 go_wp2
 all_goals (go_ret;refine⟨r1 (vi ?_),rfl⟩)
 all_goals (go_light;revert c;decide+kernel)
def ct(c)(w):Calls Tryz.prog 234 #[.int .u8 c.toNat] w (ud (.string ⟨(pair c).toArray⟩) w):=by
 have h:(c.toNat:Int)<256:=by have:=c.toNat_lt;omega
 have b:(0:Int)<=c.toNat/16:=aa
 have d:(c.toNat:Int)/16<16:=aa
 have e:(0:Int)<=c.toNat % 16:=aa
 have g:(c.toNat:Int) % 16<16:=aa
 have a:=fun(w:World)(x y:UInt8)=>oY (P:=Tryz.prog) Tryz.underlying99 Tryz.underlying5 Tryz.underlying9 w x y
 go_enter Tryz.func234,Tryz.ntmps234
 go_wp2
 go_region
 go_wp2;go_ret;refine⟨r1 (vS ?_),((Below.refl _ _).alloc (la _) _).drew⟩;clear a
 (go_light;revert c;decide+kernel)
def Jv(c)(w):Calls Tryz.prog 204 #[.int .u8 c.toNat] w (ud (.string ⟨(pair c).toArray⟩) w):=by
 have d:(c.toNat:Int)<256:=by have:=c.toNat_lt;omega
 go_enter Tryz.func204,Tryz.ntmps204
 go_wp2
 (refine wp_region_quiet_below ca ca ?_;(repeat (first|go_big_quiet_skip|(go_big_quiet_want;go_big_quiet_op;first|go_big_quiet_on|(apply Exists.intro;refine⟨fun _=>?_,?_⟩;(· (fail));go_big_quiet_on))));refine wpQuiet_nil ?_;intro _ b;obtain⟨⟨dq,osq⟩,a⟩:=b;subst a)
 go_wp2;go_ret;refine⟨r1 (vS ?_),below_regrown _ _ _⟩
 (go_light;revert c;decide+kernel)
def zes(c)(o)(h:Lj c=o)(w:World):Calls Tryz.prog 272 #[.int .u8 c.toNat] w (Rb (.tuple #[.int .u8 (o.getD 0).toNat,.bool o.isSome]) w):=h▸zer c w
def VY(c)(o)(h:Lj c=o)(w:World):Calls Tryz.prog 277 #[.int .u8 c.toNat] w (Rb (.int .i64 (o.getD 16).toNat) w):=h▸WY c w
def VV(s)(n)(w)(hs:s.size<=1000000000):
 Calls Tryz.prog 213 #[.string s,.int .i64 n] w (Rb (.tuple #[.int .u8 ((mi s.data.toList n).getD 0).toNat,.bool (mi s.data.toList n).isSome]) w):=by
 by_cases i:0<=n/\n+2<=s.size
 ·obtain⟨g,h⟩:=i
  have j:¬(n<0):=aa
  have k:¬((s.size:Int) - 2<n):=aa
  have l:(0:Int)<=n+1:=aa
  have o:n+1<(s.size:Int):=aa
  have p:n<(s.size:Int):=aa
  rw[CO s n g h];unfold wy;generalize a:Lj s[n.toNat]=x;generalize b:Lj s[(n+1).toNat]=y;have c:=Lib.hid a;have d:=Lib.hid b;clear a b;cases x<;>cases y
  all_goals
   go_enter Tryz.func213,Tryz.ntmps213
   go_wp2_with(go_at_call 272;refine(zes _ _ (by first|exact c.out|exact d.out) _).mono ?_;rintro e w' ⟨rfl,rfl⟩)
   go_ret2
  all_goals go_light
  all_goals first|exact⟨rfl,rfl⟩|refine⟨t2 (vi ?_) rfl,rfl⟩
  grind [N7,rI,Hid.out]
 ·go_enter Tryz.func213,Tryz.ntmps213
  go_wp2
  all_goals (go_ret2;refine⟨t2 (vi ?_) (vb ?_),rfl⟩<;>rw[xy s n aa]<;>rfl)
def WV(s)(n)(w)(hs:s.size<=1000000000):
 Calls Tryz.prog 237 #[.string s,.int .i64 n] w (ud (.tuple #[.int .u8 ((mi s.data.toList n).getD 0).toNat,.bool (mi s.data.toList n).isSome]) w):=by
 by_cases o:0<=n/\n+2<=s.size
 ·obtain⟨k,l⟩:=o
  have p:¬(n<0):=aa
  have q:¬((s.size:Int) - 2<n):=aa
  have r:(0:Int)<=n+1:=aa
  have t:n+1<(s.size:Int):=aa
  have u:n<(s.size:Int):=aa
  rw[CO s n k l];unfold wy;generalize i:Lj s[n.toNat]=x;generalize j:Lj s[(n+1).toNat]=y;have c:=Lib.hid i;have d:=Lib.hid j;clear i j;have e:∀v,x=some v->(v.toNat:Int)<=15:=fun v h=>by have:=rI (c.out.trans h);grind [UInt8.lt_iff_toNat_lt]
  have g:∀v,y=some v->(v.toNat:Int)<=15:=fun v h=>by have:=rI (d.out.trans h);grind [UInt8.lt_iff_toNat_lt]
  rcases x with _|x<;>rcases y with _|y
  all_goals (try replace e:=e _ rfl)
  all_goals (try replace g:=g _ rfl)
  all_goals
   go_enter Tryz.func237,Tryz.ntmps237
   go_wp2
   (refine wp_region_quiet_below ca ca ?_;(repeat (first|go_big_quiet_skip|(go_big_quiet_want;go_big_quiet_op;first|go_big_quiet_on|(apply Exists.intro;refine⟨fun _=>?_,?_⟩;(· (exact Y_ (fun w=>VY _ _ (by first|exact c.out|exact d.out) w)));go_big_quiet_on))));refine wpQuiet_nil ?_;intro _ b;obtain⟨⟨dq,osq⟩,a⟩:=b;subst a)
   go_wp2
  all_goals (go_ret2;go_light)
  all_goals first|exact⟨rfl,below_regrown _ _ _⟩|refine⟨t2 (vi ?_) rfl,below_regrown _ _ _⟩
  grind [UInt8.toNat_add,UInt8.toNat_mul]
 ·go_enter Tryz.func237,Tryz.ntmps237
  go_wp2
  all_goals (go_ret2;refine⟨t2 (vi ?_) (vb ?_),Below.refl _ _⟩<;>rw[xy s n aa]<;>rfl)
end Go.Proofs.YtglaihdcndcmkaaGreatDoor
end
namespace wa
def wj{α:Type}(step:Nat->Option (List α×Nat))(len:Nat):Nat->Nat->Option (List α)
 |0,_=>some []
 |f+1,k=>if k<len then match step k with
  |none=>none
  |some (o,n)=>(wj step len f (k+n)).map (o++·)
  else some []
theorem K_{α}{step:Nat->Option (List α×Nat)}{len}(b:∀k o n,step k=some (o,n)->0<n):
 ∀f f' k,len - k<=f->len - k<=f'->wj step len f k=wj step len f' k:=by
 intro f
 induction f with
 |zero=>
  intro f' k h _;cases f' with
  |zero=>rfl
  |succ f'=>simp only[wj];rw[if_neg aa]
 |succ f c=>
  intro f' k h d;by_cases a:k<len
  ·cases f' with
   |zero=>omega
   |succ f'=>
    simp only[wj];rw[if_pos a];cases hs:step k with
    |none=>simp[a]
    |some p=>
     obtain⟨o,n⟩:=p;have:=b k o n hs;simp only;rw[c f' (k+n) aa aa,if_pos a]
  ·have e:wj step len (f+1) k=some []:=by simp only[wj];rw[if_neg a]
   rw[e];cases f' with
   |zero=>rfl
   |succ f'=>simp only[wj];rw[if_neg a]
def xj{α:Type}(step:Nat->Option (List α×Nat))(len k:Nat):Option (List α):=wj step len (len - k) k
def ES{α}{step:Nat->Option (List α×Nat)}{len k}(h:len<=k):xj step len k=some []:=by
 unfold xj;rw[Nat.sub_eq_zero_of_le h];rfl
def Zz{α}{step:Nat->Option (List α×Nat)}{len k}(h:k<len)(hs:step k=none):xj step len k=none:=by
 unfold xj;obtain⟨m,a⟩:∃m,len - k=m+1:=⟨len - k - 1,aa⟩;rw[a];simp only[wj];rw[if_pos h,hs]
def L_{α}{step}{len k n}{o:List α}(a:∀k o n,step k=some (o,n)->0<n)(h:k<len)(hs:step k=some (o,n)):
 xj step len k=(xj step len (k+n)).map (o++·):=by
 unfold xj;obtain⟨m,b⟩:∃m,len - k=m+1:=⟨len - k - 1,aa⟩;rw[b];simp only[wj];rw[if_pos h,hs];have:=a k o n hs;simp only;rw[K_ a m (len - (k+n)) (k+n) aa (la _)]
def zk{α}{step}{len k n}{o a}{r:Option (List α)}(c:∀k o n,step k=some (o,n)->0<n)(h:k<len)(hs:step k=some (o,n))
 (b:r=(xj step len k).map (a++·)):r=(xj step len (k+n)).map ((a++o)++·):=by
 rw[b,L_ c h hs];cases xj step len (k+n)<;>simp
def Gf(s w:List UInt8)(n:Int):Bool:=decide (0<=n)&&decide (n<=s.length)&&w.isPrefixOf (s.drop n.toNat)
def LJ(s w)(k:Nat)(h:k<=s.length):Gf s w k=w.isPrefixOf (s.drop k):=by
 unfold Gf;simp[h]
end wa
section
set_option synthInstance.maxSize 4000
namespace wa
def qi(c:UInt8):Bool:=33<=c&&c<=126&&c !=61
def Xo(s:List UInt8)(k:Nat):Option (List UInt8×Nat):=
 match s[k]? with
 |none=>none
 |some c=>if Gf s [13,10] k then some ([10],2)else if Gf s [61,13,10] k then some ([],3)
  else if c=61 then(mi s (k+1)).map fun b=>([b],3)else if qi c||c==32||c==9 then some ([c],1)else none
def Xj(s):∀k o n,Xo s k=some (o,n)->0<n:=by
 intro k o n h;unfold Xo at h;split at h
 ·cases h
 ·repeat' split at h
  all_goals first|(cases h;omega)|skip
  ·simp at h;omega
  grind
def Oh(s:ByteArray)(k)(g:k<s.size)(a c)(d:Gf s.data.toList [13,10] k=a)(e:Gf s.data.toList [61,13,10] k=c):Xo s.data.toList k=
 if a then some ([10],2)else if c then some ([],3)else if s[k]=61 then(mi s.data.toList (k+1)).map (fun b=>([b],3))else if qi s[k]||s[k]==32||s[k]==9 then some ([s[k]],1)else none:=by
 unfold Xo;rw[qe (show k<s.data.toList.length from g)];simp only[d,e];rfl
def Qe(s:List UInt8):Option (List UInt8):=xj (Xo s) s.length 0
def SC:Option (List UInt8)->Go.Value
 |none=>.tuple #[.string ⟨#[]⟩,.int .i64 7]
 |some l=>.tuple #[.string ⟨l.toArray⟩,.int .i64 0]
attribute [simp] SC
end wa
namespace Go.Proofs.YtglaihdcndcmkaaGreatDoor
def hV(s t)(n:Int)(w:World)(hs:s.size<=1000000000):Calls Tryz.prog 85 #[.string s,.string t,.int .i64 n] w (Rb (.bool (Gf s.data.toList t.data.toList n)) w):=by
 by_cases h:0<=n/\n<=s.size
 ·obtain⟨c,d⟩:=h
  obtain⟨k,rfl⟩:=Int.eq_ofNat_of_zero_le c;have a:Gf s.data.toList t.data.toList (k:Int)=Lib.hasPrefix (s.extract k s.size).data.toList t.data.toList:=by
   rw[LJ _ _ _ ie,Lib.extract_to_end];rfl
  have b:=Lib.hid a;clear a
  go_enter Tryz.func85,Tryz.ntmps85
  go_wp2_with(go_at_call 80;refine(Tryz.strings_HasPrefix _ _ _).mono ?_;rintro e w' ⟨rfl,rfl⟩)
  go_ret;exact⟨r1 (vb (by rw[b.out];simp)),rfl⟩
 ·have a:Gf s.data.toList t.data.toList n=false:=by
   unfold Gf;by_cases d:0<=n
   ·rw[decide_eq_false (p:=n<=(s.data.toList.length:Int)) ie];simp
   ·grind
  have b:=Lib.hid a;clear a;by_cases d:0<=n
  ·have c:decide (n<=(s.size:Int))=false:=Sa
   go_enter Tryz.func85,Tryz.ntmps85
   go_wp2;go_ret;exact⟨r1 (vb (by rw[b.out])),rfl⟩
  ·go_enter Tryz.func85,Tryz.ntmps85
   go_wp2;go_ret;exact⟨r1 (vb (by rw[b.out])),rfl⟩
def gV(s t)(n:Int)(w:World)(hs:s.size<=1000000000)(ht:t.size<=1000000000):Calls Tryz.prog 105 #[.string s,.string t,.int .i64 n] w (Rb (.bool (Gf s.data.toList t.data.toList n)) w):=by
 by_cases h:0<=n/\n<=s.size
 ·obtain⟨d,g⟩:=h
  obtain⟨k,rfl⟩:=Int.eq_ofNat_of_zero_le d;have b:Gf s.data.toList t.data.toList (k:Int)=t.data.toList.isPrefixOf (s.data.toList.drop k):=LJ _ _ _ ie;by_cases i:(t.size:Int)<=(s.size:Int) - k
  ·have a:Gf s.data.toList t.data.toList (k:Int)=((s.extract k (k+t.size)).data.toList==t.data.toList):=by
    rw[b,Lib.extract_data,oh];rw[Gp,Ij,beq_iff_eq,KA];exact eq_comm
   have c:=Lib.hid a;clear b a
   go_enter Tryz.func105,Tryz.ntmps105
   go_wp2;go_ret;exact⟨r1 (vb (by grind [Hid.out,Lib.toList_data])),rfl⟩
  ·have a:Gf s.data.toList t.data.toList (k:Int)=false:=by
    rw[b,mr];intro e;have:=(Ij.1 e).length_le;rw[Ya]at this;have e1:s.data.toList.length=s.size:=rfl;have e2:t.data.toList.length=t.size:=rfl;omega
   have c:=Lib.hid a;clear b a;have e:decide ((t.size:Int)<=(s.size:Int) - k)=false:=Sa
   go_enter Tryz.func105,Tryz.ntmps105
   go_wp2;go_ret;exact⟨r1 (vb (by rw[c.out])),rfl⟩
 ·have b:Gf s.data.toList t.data.toList n=false:=by
   unfold Gf;by_cases a:0<=n
   ·rw[decide_eq_false (p:=n<=(s.data.toList.length:Int)) ie];simp
   ·grind
  have c:=Lib.hid b;clear b;by_cases a:0<=n
  ·have d:decide (n<=(s.size:Int))=false:=Sa
   go_enter Tryz.func105,Tryz.ntmps105
   go_wp2;go_ret;exact⟨r1 (vb (by rw[c.out])),rfl⟩
  ·go_enter Tryz.func105,Tryz.ntmps105
   go_wp2;go_ret;exact⟨r1 (vb (by rw[c.out])),rfl⟩
set_option maxRecDepth 100000 in
def B9(c)(w):Calls Tryz.prog 214 #[.int .u8 c.toNat] w (Rb (.bool (qi c)) w):=by
 go_enter Tryz.func214,Tryz.ntmps214
 go_wp2
 all_goals (go_ret;refine⟨r1 (vb ?_),rfl⟩)
 all_goals (go_light;revert c;decide+kernel)
set_option maxRecDepth 100000 in
def C9(c)(w):Calls Tryz.prog 203 #[.int .u8 c.toNat] w (Rb (.bool (qi c)) w):=by
 go_enter Tryz.func203,Tryz.ntmps203
 go_wp2
 all_goals (go_ret;refine⟨r1 (vb ?_),rfl⟩)
 all_goals (go_light;revert c;decide+kernel)
end Go.Proofs.YtglaihdcndcmkaaGreatDoor
end
section
set_option synthInstance.maxSize 4000
namespace wa
def one(s:List UInt8)(n:Int):Option (UInt8×Nat):=
 if n<0 then none else match s[n.toNat]? with
 |none=>none
 |some c=>if free c then some (c,1)else if c=37 then(mi s (n+1)).map fun x=>(x,3)else none
def v7:Option (UInt8×Nat)->Go.Value
 |none=>.tuple #[.int .u8 0,.int .i64 0,.bool false]
 |some (c,k)=>.tuple #[.int .u8 c.toNat,.int .i64 k,.bool true]
attribute [simp] v7
end wa
namespace Go.Proofs.YtglaihdcndcmkaaGreatDoor
def eK(s)(n)(o)(h:mi s.data.toList n=o)(w)(hs:s.size<=1000000000):
 Calls Tryz.prog 213 #[.string s,.int .i64 n] w (Rb (.tuple #[.int .u8 (o.getD 0).toNat,.bool o.isSome]) w):=h▸VV s n w hs
def dK(s)(n)(o)(h:mi s.data.toList n=o)(w)(hs:s.size<=1000000000):
 Calls Tryz.prog 237 #[.string s,.int .i64 n] w (ud (.tuple #[.int .u8 (o.getD 0).toNat,.bool o.isSome]) w):=h▸WV s n w hs
end Go.Proofs.YtglaihdcndcmkaaGreatDoor
end
namespace Go.Proofs.YtglaihdcndcmkaaGreatDoor
def Io(s t)(n)(b:Bool)(h:Gf s.data.toList t.data.toList n=b)(w:World)(hs:s.size<=1000000000):Calls Tryz.prog 85 #[.string s,.string t,.int .i64 n] w (Rb (.bool b) w):=h▸hV s t n w hs
def Jo(s t)(n)(b)(h:Gf s.data.toList t.data.toList n=b)(w)(hs:s.size<=1000000000)(ht:t.size<=1000000000:=by decide):Calls Tryz.prog 105 #[.string s,.string t,.int .i64 n] w (Rb (.bool b) w):=h▸gV s t n w hs ht
def zm(c)(b)(h:qi c=b)(w:World):Calls Tryz.prog 214 #[.int .u8 c.toNat] w (Rb (.bool b) w):=h▸B9 c w
def Vn(c)(b)(h:qi c=b)(w:World):Calls Tryz.prog 203 #[.int .u8 c.toNat] w (Rb (.bool b) w):=h▸C9 c w
set_option maxRecDepth 100000 in
def KY(s)(w)(hs:s.size<=100000000):Calls Tryz.prog 143 #[.string s] w (ud (SC (Qe s.data.toList)) w):=by
 have C:s.data.toList.length=s.size:=rfl;have K:=Lib.hid C;clear C
 go_enter Tryz.func143,Tryz.ntmps143
 go_wp2
 go_loopw [4,5,6,7,8] (fun v i _ _ _ wr=>∃(k:Nat)(q:List UInt8),i=.int .i64 k/\k<=s.size+2/\q.length<=k/\xe w.heap.size 5 v q wr/\Below w.heap.size w wr/\Hid (Qe s.data.toList=(xj (Xo s.data.toList) s.data.toList.length k).map (q++·)))
  (fun _ i _ _ _ _=>s.size+2 - (intOf i).toNat)
 case atStart=>exact⟨0,[],rfl,aa,da,xe.nil _ _ _,Below.refl _ _,Lib.hid (by unfold Qe;simp)⟩
 case round=>
  obtain⟨k,q,rfl,R,N,t,a,d⟩:=hrel;by_cases ea:k<s.size
  ·generalize p:Gf s.data.toList (⟨#[13,10]⟩:ByteArray).data.toList (k:Int)=L
   generalize G:Gf s.data.toList (⟨#[61,13,10]⟩:ByteArray).data.toList (k:Int)=M;have j:=Lib.hid p;have l:=Lib.hid G;clear p G;cases L
   ·cases M
    ·by_cases u:s[k]=61
     ·have O:((s[k].toNat:Int)==61)=true:=by rw[u];rfl
      rcases r:mi s.data.toList ((k:Int)+1)with _|b
      ·have y:=Lib.hid (show Qe s.data.toList=none by rw[d.out,Zz (len:=s.data.toList.length) ea (by rw[Oh s k ea _ _ j.out l.out,if_neg da,if_neg da,if_pos u,r];rfl)];rfl)
       have D:=Lib.hid r;clear r d u
       go_wp2_with(first|(go_at_call 85;refine(Io _ _ _ _ (by first|exact j.out|exact l.out) _ aa).mono ?_;rintro e x ⟨rfl,rfl⟩)|(go_at_call 213;refine(eK _ _ _ D.out _ aa).mono ?_;rintro e x ⟨rfl,rfl⟩))
       go_ret2
       rw[y.out];exact⟨rfl,a⟩
      ·have y:=Lib.hid (zk (Xj _) ea (o:=[b]) (n:=3) (by rw[Oh s k ea _ _ j.out l.out,if_neg da,if_neg da,if_pos u,r];rfl) d.out)
       have F:k+3<=s.size:=by
        by_cases E:k+3<=s.size
        ·exact E
        ·grind [xy]
       have D:=Lib.hid r;clear r d u
       go_wp2_with(first|(go_at_call 85;refine(Io _ _ _ _ (by first|exact j.out|exact l.out) _ aa).mono ?_;rintro e x ⟨rfl,rfl⟩)|(go_at_call 213;refine(eK _ _ _ D.out _ aa).mono ?_;rintro e I ⟨rfl,rfl⟩;skip)|(at_builtin;refine ih ja _ _ _ ja 5 Tryz.underlying99 infoByte w.heap.size wr _ _ ja t b ja aa a.size ?_;intro g A x H c B p z))
       go_roundw
       case rel=>exact⟨k+3,q++[b],by go_num,aa,ia,c,a.trans p,y⟩
       grind [intOf]
     ·have O:((s[k].toNat:Int)==61)=false:=by simp[<-Yb]at u⊢;omega
      by_cases D:qi s[k]=true
      ·have y:=Lib.hid (zk (Xj _) ea (o:=[s[k]]) (n:=1) (by rw[Oh s k ea _ _ j.out l.out];grind) d.out)
       have E:=Lib.hid D;clear D d u
       go_wp2_with(first|(go_at_call 85;refine(Io _ _ _ _ (by first|exact j.out|exact l.out) _ aa).mono ?_;rintro e x ⟨rfl,rfl⟩)|(go_at_call 214;refine(zm _ _ E.out _).mono ?_;rintro e x ⟨rfl,rfl⟩)|(at_builtin;refine ih ja _ _ _ ja 5 Tryz.underlying99 infoByte w.heap.size wr _ _ ja t s[k] ja aa a.size ?_;intro g A x H c B p z))
       go_roundw
       case rel=>exact⟨k+1,q++[s[k]],by go_num,aa,ia,c,a.trans p,y⟩
       grind [intOf]
      ·replace D:qi s[k]=false:=by simpa using D
       by_cases r:s[k]=32\/s[k]=9
       ·have E:=Lib.hid D;clear D
        rcases r with r|r
        ·have y:=Lib.hid (zk (Xj _) ea (o:=[s[k]]) (n:=1) (by rw[Oh s k ea _ _ j.out l.out];grind) d.out)
         clear d u;have J:((s[k].toNat:Int)==32)=true:=by rw[r];rfl
         clear r
         go_wp2_with(first|(go_at_call 85;refine(Io _ _ _ _ (by first|exact j.out|exact l.out) _ aa).mono ?_;rintro e x ⟨rfl,rfl⟩)|(go_at_call 214;refine(zm _ _ E.out _).mono ?_;rintro e x ⟨rfl,rfl⟩)|(at_builtin;refine ih ja _ _ _ ja 5 Tryz.underlying99 infoByte w.heap.size wr _ _ ja t s[k] ja aa a.size ?_;intro g A x H c B p z))
         go_roundw
         case rel=>exact⟨k+1,q++[s[k]],by go_num,aa,ia,c,a.trans p,y⟩
         grind [intOf]
        ·have y:=Lib.hid (zk (Xj _) ea (o:=[s[k]]) (n:=1) (by rw[Oh s k ea _ _ j.out l.out];grind) d.out)
         clear d u;have J:((s[k].toNat:Int)==32)=false:=by rw[r];rfl
         have Q:((s[k].toNat:Int)==9)=true:=by rw[r];rfl
         clear r
         go_wp2_with(first|(go_at_call 85;refine(Io _ _ _ _ (by first|exact j.out|exact l.out) _ aa).mono ?_;rintro e x ⟨rfl,rfl⟩)|(go_at_call 214;refine(zm _ _ E.out _).mono ?_;rintro e x ⟨rfl,rfl⟩)|(at_builtin;refine ih ja _ _ _ ja 5 Tryz.underlying99 infoByte w.heap.size wr _ _ ja t s[k] ja aa a.size ?_;intro g A x H c B p z))
         go_roundw
         case rel=>exact⟨k+1,q++[s[k]],by go_num,aa,ia,c,a.trans p,y⟩
         grind [intOf]
       ·have F:=fun h=>r (.inl h)
        have I:=fun h=>r (.inr h)
        have y:=Lib.hid (show Qe s.data.toList=none by rw[d.out,Zz (len:=s.data.toList.length) ea (by rw[Oh s k ea _ _ j.out l.out];grind)];rfl);have J:((s[k].toNat:Int)==32)=false:=by simp[<-Yb]at F⊢;omega
        have Q:((s[k].toNat:Int)==9)=false:=by simp[<-Yb]at I⊢;omega
        have E:=Lib.hid D;clear D d u r F I
        go_wp2_with(first|(go_at_call 85;refine(Io _ _ _ _ (by first|exact j.out|exact l.out) _ aa).mono ?_;rintro e x ⟨rfl,rfl⟩)|(go_at_call 214;refine(zm _ _ E.out _).mono ?_;rintro e x ⟨rfl,rfl⟩))
        go_ret2
        rw[y.out];exact⟨rfl,a⟩
    ·have y:=Lib.hid (zk (Xj _) ea (o:=[]) (n:=3) (by rw[Oh s k ea _ _ j.out l.out];simp) d.out)
     clear d
     go_wp2_with(go_at_call 85;refine(Io _ _ _ _ (by first|exact j.out|exact l.out) _ aa).mono ?_;rintro e x ⟨rfl,rfl⟩)
     go_roundw
     case rel=>exact⟨k+3,q,by go_num,aa,aa,t,a,ie⟩
     grind [intOf]
   ·have y:=Lib.hid (zk (Xj _) ea (o:=[10]) (n:=2) (by rw[Oh s k ea _ _ j.out l.out];simp) d.out)
    clear d
    go_wp2_with(first|(go_at_call 85;refine(Io _ _ _ _ (by first|exact j.out|exact l.out) _ aa).mono ?_;rintro e x ⟨rfl,rfl⟩)|(at_builtin;refine ih ja _ _ _ ja 5 Tryz.underlying99 infoByte w.heap.size wr _ _ ja t 10 ja aa a.size ?_;intro g A x H c B p z))
    go_roundw
    case rel=>exact⟨k+2,q++[10],by go_num,aa,ia,c,a.trans p,y⟩
    grind [intOf]
  ·have c:Qe s.data.toList=some q:=by
    rw[d.out,ES (by rw[K.out];omega)];simp
   have j:=Lib.hid c;clear c;have l:=sn (P:=Tryz.prog) Tryz.underlying99 Tryz.underlying5 Tryz.underlying9 t;go_wp2
   go_ret2
   rw[j.out];exact⟨rfl,a⟩
set_option maxRecDepth 100000 in
def LY(s)(w)(hs:s.size<=100000000):Calls Tryz.prog 174 #[.string s] w (ud (SC (Qe s.data.toList)) w):=by
 have D:s.data.toList.length=s.size:=rfl;have K:=Lib.hid D;clear D
 go_enter Tryz.func174,Tryz.ntmps174
 go_wp2
 go_loopw [4,5,6,7,8] (fun v i _ _ _ wr=>∃(k:Nat)(q:List UInt8),i=.int .i64 k/\k<=s.size+2/\q.length<=k/\xe w.heap.size 5 v q wr/\Below w.heap.size w wr/\Hid (Qe s.data.toList=(xj (Xo s.data.toList) s.data.toList.length k).map (q++·)))
  (fun _ i _ _ _ _=>s.size+2 - (intOf i).toNat)
 case atStart=>exact⟨0,[],rfl,aa,da,xe.made w (la _) _ _ rfl ga,(Below.refl _ _).alloc (la _) _,Lib.hid (by unfold Qe;simp)⟩
 case round=>
  obtain⟨k,q,rfl,S,N,t,a,d⟩:=hrel;by_cases ea:k<s.size
  ·generalize p:Gf s.data.toList (⟨#[13,10]⟩:ByteArray).data.toList (k:Int)=L
   generalize G:Gf s.data.toList (⟨#[61,13,10]⟩:ByteArray).data.toList (k:Int)=M;have j:=Lib.hid p;have l:=Lib.hid G;clear p G;cases L
   ·cases M
    ·by_cases u:s[k]=61
     ·have Q:((s[k].toNat:Int)==61)=true:=by rw[u];rfl
      rcases F:mi s.data.toList ((k:Int)+1)with _|b
      ·have y:=Lib.hid (show Qe s.data.toList=none by rw[d.out,Zz (len:=s.data.toList.length) ea (by rw[Oh s k ea _ _ j.out l.out,if_neg da,if_neg da,if_pos u,F];rfl)];rfl)
       have I:=Lib.hid F;clear F d u
       go_wp2_with(first|(go_at_call 105;refine(Jo _ _ _ _ (by first|exact j.out|exact l.out) _ aa).mono ?_;rintro e x ⟨rfl,rfl⟩)|(go_at_call 237;refine(dK _ _ _ I.out _ aa).mono ?_;rintro e x ⟨rfl,B⟩))
       go_ret2
       rw[y.out];exact⟨rfl,a.trans (B.mono a.size)⟩
      ·have y:=Lib.hid (zk (Xj _) ea (o:=[b]) (n:=3) (by rw[Oh s k ea _ _ j.out l.out,if_neg da,if_neg da,if_pos u,F];rfl) d.out)
       have O:k+3<=s.size:=by
        by_cases J:k+3<=s.size
        ·exact J
        ·grind [xy]
       have I:=Lib.hid F;clear F d u
       go_wp2_with(first|(go_at_call 105;refine(Jo _ _ _ _ (by first|exact j.out|exact l.out) _ aa).mono ?_;rintro e x ⟨rfl,rfl⟩)|(go_at_call 237;refine(dK _ _ _ I.out _ aa).mono ?_;rintro e R ⟨rfl,B⟩;have E:=xe.kept t B;have r:=a.trans (B.mono a.size))|(at_builtin;refine ih ja _ _ _ ja 5 Tryz.underlying99 infoByte w.heap.size R _ _ ja E b ja aa r.size ?_;intro g A x H c C p z))
       go_roundw
       case rel=>exact⟨k+3,q++[b],by go_num,aa,ia,c,r.trans p,y⟩
       grind [intOf]
     ·have Q:((s[k].toNat:Int)==61)=false:=by simp[<-Yb]at u⊢;omega
      by_cases B:qi s[k]=true
      ·have y:=Lib.hid (zk (Xj _) ea (o:=[s[k]]) (n:=1) (by rw[Oh s k ea _ _ j.out l.out];grind) d.out)
       have E:=Lib.hid B;clear B d u
       go_wp2_with(first|(go_at_call 105;refine(Jo _ _ _ _ (by first|exact j.out|exact l.out) _ aa).mono ?_;rintro e x ⟨rfl,rfl⟩)|(go_at_call 203;refine(Vn _ _ E.out _).mono ?_;rintro e x ⟨rfl,rfl⟩)|(at_builtin;refine ih ja _ _ _ ja 5 Tryz.underlying99 infoByte w.heap.size wr _ _ ja t s[k] ja aa a.size ?_;intro g A x H c C p z))
       go_roundw
       case rel=>exact⟨k+1,q++[s[k]],by go_num,aa,ia,c,a.trans p,y⟩
       grind [intOf]
      ·replace B:qi s[k]=false:=by simpa using B
       by_cases r:s[k]=32\/s[k]=9
       ·have E:=Lib.hid B;clear B
        rcases r with r|r
        ·have y:=Lib.hid (zk (Xj _) ea (o:=[s[k]]) (n:=1) (by rw[Oh s k ea _ _ j.out l.out];grind) d.out)
         clear d u;have J:((s[k].toNat:Int)==32)=true:=by rw[r];rfl
         clear r
         go_wp2_with(first|(go_at_call 105;refine(Jo _ _ _ _ (by first|exact j.out|exact l.out) _ aa).mono ?_;rintro e x ⟨rfl,rfl⟩)|(go_at_call 203;refine(Vn _ _ E.out _).mono ?_;rintro e x ⟨rfl,rfl⟩)|(at_builtin;refine ih ja _ _ _ ja 5 Tryz.underlying99 infoByte w.heap.size wr _ _ ja t s[k] ja aa a.size ?_;intro g A x H c C p z))
         go_roundw
         case rel=>exact⟨k+1,q++[s[k]],by go_num,aa,ia,c,a.trans p,y⟩
         grind [intOf]
        ·have y:=Lib.hid (zk (Xj _) ea (o:=[s[k]]) (n:=1) (by rw[Oh s k ea _ _ j.out l.out];grind) d.out)
         clear d u;have J:((s[k].toNat:Int)==32)=false:=by rw[r];rfl
         have O:((s[k].toNat:Int)==9)=true:=by rw[r];rfl
         clear r
         go_wp2_with(first|(go_at_call 105;refine(Jo _ _ _ _ (by first|exact j.out|exact l.out) _ aa).mono ?_;rintro e x ⟨rfl,rfl⟩)|(go_at_call 203;refine(Vn _ _ E.out _).mono ?_;rintro e x ⟨rfl,rfl⟩)|(at_builtin;refine ih ja _ _ _ ja 5 Tryz.underlying99 infoByte w.heap.size wr _ _ ja t s[k] ja aa a.size ?_;intro g A x H c C p z))
         go_roundw
         case rel=>exact⟨k+1,q++[s[k]],by go_num,aa,ia,c,a.trans p,y⟩
         grind [intOf]
       ·have F:=fun h=>r (.inl h)
        have I:=fun h=>r (.inr h)
        have y:=Lib.hid (show Qe s.data.toList=none by rw[d.out,Zz (len:=s.data.toList.length) ea (by rw[Oh s k ea _ _ j.out l.out];grind)];rfl);have J:((s[k].toNat:Int)==32)=false:=by simp[<-Yb]at F⊢;omega
        have O:((s[k].toNat:Int)==9)=false:=by simp[<-Yb]at I⊢;omega
        have E:=Lib.hid B;clear B d u r F I
        go_wp2_with(first|(go_at_call 105;refine(Jo _ _ _ _ (by first|exact j.out|exact l.out) _ aa).mono ?_;rintro e x ⟨rfl,rfl⟩)|(go_at_call 203;refine(Vn _ _ E.out _).mono ?_;rintro e x ⟨rfl,rfl⟩))
        go_ret2
        rw[y.out];exact⟨rfl,a⟩
    ·have y:=Lib.hid (zk (Xj _) ea (o:=[]) (n:=3) (by rw[Oh s k ea _ _ j.out l.out];simp) d.out)
     clear d
     go_wp2_with(go_at_call 105;refine(Jo _ _ _ _ (by first|exact j.out|exact l.out) _ aa).mono ?_;rintro e x ⟨rfl,rfl⟩)
     go_roundw
     case rel=>exact⟨k+3,q,by go_num,aa,aa,t,a,ie⟩
     grind [intOf]
   ·have y:=Lib.hid (zk (Xj _) ea (o:=[10]) (n:=2) (by rw[Oh s k ea _ _ j.out l.out];simp) d.out)
    clear d
    go_wp2_with(first|(go_at_call 105;refine(Jo _ _ _ _ (by first|exact j.out|exact l.out) _ aa).mono ?_;rintro e x ⟨rfl,rfl⟩)|(at_builtin;refine ih ja _ _ _ ja 5 Tryz.underlying99 infoByte w.heap.size wr _ _ ja t 10 ja aa a.size ?_;intro g A x H c C p z))
    go_roundw
    case rel=>exact⟨k+2,q++[10],by go_num,aa,ia,c,a.trans p,y⟩
    grind [intOf]
  ·have c:Qe s.data.toList=some q:=by
    rw[d.out,ES (by rw[K.out];omega)];simp
   have j:=Lib.hid c;clear c;have l:=sn (P:=Tryz.prog) Tryz.underlying99 Tryz.underlying5 Tryz.underlying9 t;go_wp2
   go_ret2
   rw[j.out];exact⟨rfl,a⟩
end Go.Proofs.YtglaihdcndcmkaaGreatDoor
namespace wa
def Fb(c:UInt8):Bool:=33<=c&&c<=126&&c !=59&&c !=61&&c !=34&&c !=92
def Yd(c:UInt8):List UInt8->Option (List UInt8)
 |[]=>none
 |d::t=>if d=c then some t else none
def ri:Nat->List UInt8->Option (List UInt8×List UInt8)
 |0,_=>none
 |_+1,[]=>none
 |n+1,c::t=>
  if c=34 then some ([],t)
  else if c<32\/126<c then none
  else if c=92 then(match t with
   |[]=>none
   |d::u=>if d=34\/d=92 then(ri n u).map fun p=>(d::p.1,p.2)else none)
  else(ri n t).map fun p=>(c::p.1,p.2)
def vk(l:List UInt8):Option (ec×List UInt8):=
 if Ue ((l.dropWhile Ia).takeWhile Fb)=true then
  match Yd 61 ((l.dropWhile Ia).dropWhile Fb)with
  |none=>none
  |some a=>match Yd 34 a with
   |some b=>(ri (b.length+1) b).map fun p=>(((l.dropWhile Ia).takeWhile Fb,p.1),p.2)
   |none=>if a.takeWhile Fb=[]then none else some (((l.dropWhile Ia).takeWhile Fb,a.takeWhile Fb),a.dropWhile Fb)
 else none
def eh:Nat->List UInt8->List ec->Bool->Option (List ec×Bool)
 |0,_,_,_=>none
 |n+1,l,out,a=>
  if l.dropWhile Ia=[]then some (out,a)
  else match Yd 59 (l.dropWhile Ia)with
   |none=>none
   |some t=>match vk t with
    |none=>none
    |some (p,r)=>eh n r (out++[p]) (a||out.any fun q=>xa p.1==xa q.1)
inductive mu | form | zh | ok (main:List UInt8) (out:List ec)
def bg(l:List UInt8):mu:=
 match eh (l.length+1) ((l.dropWhile Ia).dropWhile Fb) [] false with
 |none=>.form
 |some (out,a)=>if(l.dropWhile Ia).takeWhile Fb=[]then .form else if a then .zh else .ok ((l.dropWhile Ia).takeWhile Fb) out
theorem gi(p):∀l:List UInt8,(l.dropWhile p).length<=l.length
 |[]=>la _
 |c::l=>by
  rw[MA];split
  ·exact Ob (gi p l) da
  omega
theorem tw(p):∀l:List UInt8,(l.takeWhile p).length<=l.length
 |[]=>la _
 |c::l=>by
  rw[NA];split
  ·simp;exact tw p l
  simp
theorem Vv{c}:∀{l t},Yd c l=some t->l=c::t
 |[],t,h=>by cases h
 |d::l,t,h=>by
  replace h:(if d=c then some l else none)=some t:=h
  grind
theorem cH:∀(n)(l)(p),ri n l=some p->p.1.length+p.2.length+1<=l.length
 |0,l,p,h=>by cases h
 |n+1,[],p,h=>by cases h
 |n+1,c::t,p,h=>by
  unfold ri at h;split at h
  ·grind
  ·split at h
   ·cases h
   ·split at h
    ·rcases t with _|⟨d,u⟩
     ·cases h
     ·dsimp only at h
      split at h
      ·obtain⟨q,a,rfl⟩:=qm h
       have:=cH n u q a
       grind
      grind
    ·obtain⟨q,a,rfl⟩:=qm h
     have:=cH n t q a
     grind
theorem Sz:∀(n m)(l),l.length<n->l.length<m->ri n l=ri m l
 |0,m,l,h,_=>absurd h (Nat.not_lt_zero _)
 |n+1,0,l,_,h=>absurd h (Nat.not_lt_zero _)
 |n+1,m+1,[],_,_=>rfl
 |n+1,m+1,c::t,a,b=>by
  simp only[za]at a b;unfold ri;rcases t with _|⟨d,u⟩
  ·rw[Sz n m [] aa aa]
  ·dsimp only
   simp only[za]at a b;rw[Sz n m u aa aa,Sz n m (d::u) ia ia]
def Lz{l}{q}(h:vk l=some q):q.2.length<l.length/\q.1.1.length<=l.length/\q.1.2.length<=l.length:=by
 unfold vk at h;split at h
 ·have g:=gi Ia l
  have i:=gi Fb (l.dropWhile Ia);have ht:=tw Fb (l.dropWhile Ia);rcases hs:Yd 61 ((l.dropWhile Ia).dropWhile Fb)with _|e
  ·grind
  ·rw[hs]at h
   dsimp only at h;have c:=congrArg List.length (Vv hs);rw[za]at c;rcases b:Yd 34 e with _|j
   ·grind [gi,tw]
   ·rw[b]at h
    dsimp only at h;have d:=congrArg List.length (Vv b);rw[za]at d;obtain⟨p,a,rfl⟩:=qm h;have:=cH _ _ _ a
    grind
 grind
def E9:∀c,Fb c=(decide ((c.toNat:Int)>32)&&decide ((c.toNat:Int)<127)&&decide (Go.Lib.indexByte [59,61,34,92] c<0)):=lc
theorem HT(p):∀(l:List UInt8)(k),(∀j(h),j<k->p l[j]=true)->(∀h,p l[k]=false)->k<=l.length->l.takeWhile p=l.take k/\l.dropWhile p=l.drop k
 |[],k,_,_,d=>by
  simp
 |c::l,0,_,h,_=>by
  grind [List.takeWhile_cons,List.dropWhile_cons]
 |c::l,k+1,a,e,d=>by
  have b:=a 0 da aa;rw[List.getElem_cons_zero]at b;have:=HT p l k (fun j h g=>by
   grind) (fun h=>by
   grind) ia
  grind [List.takeWhile_cons,List.dropWhile_cons]
variable {lib:Callee}
def Ll(lib:Callee):Prop:=∀s old new:ba,s.length<=1000000->1<=old.length->new.length<=10->lib 42 [.flat (.string (S s)),.flat (.string (S old)),.flat (.string (S new))] [] []=some ([.flat (.string (S (Lib.replaceAll s old new)))],false,[],[])
def Wz(H:Ll lib)(s old new)(hs:s.length<=1000000)(b:1<=old.length)(a:new.length<=10):fa code lib 42 [.flat (.string (S s)),.flat (.string (S old)),.flat (.string (S new))] [] []=some ([.flat (.string (S (Lib.replaceAll s old new)))],false,[],[]):=Ud ga ca (H s old new hs b a)
def gh(c:UInt8):Bool:=decide (0<c.toNat)&&decide (c.toNat<128)
def Ak(s:ba):Option ba:=if s.all gh=true then(if Zb 13 (Lib.replaceAll s [13,10] [0])=none/\Zb 10 (Lib.replaceAll s [13,10] [0])=none then some (Lib.replaceAll (Lib.replaceAll s [13,10] [0]) [0] [10])else none)else none
def WS(s)(hs:s.length<=1000000)(h:s.all gh=true):Fc (pa (fa code lib) ka cq) [0,6,7] 0 ka ⟨[(0,.flat (.string (S s))),(6,.flat (.int .i64 (s.length:Nat))),(7,.flat (.int .i64 0))],[],[],[]⟩=some (.exit 0,⟨[(0,.flat (.string (S s)))],[],[],[]⟩):=by
 have b:=Nf (body:=pa (fa code lib) ka cq) (live:=[0,6,7]) (nb:=0) (fun(_:Unit) k=>⟨[(0,.flat (.string (S s))),(6,.flat (.int .i64 (s.length:Nat))),(7,.flat (.int .i64 (k:Nat)))],[],[],[]⟩) s (fun _ _=>True)
  (fun _ k x=>.inl ()) (fun _=>(.exit 0,⟨[(0,.flat (.string (S s)))],[],[],[]⟩)) (fun _ k c _ d e a=>?_) (fun _ _=>by simp only[go_sem,simprocAttr]) (fun _ _ _ _ _ _ _ _=>trivial) (fun _ _ x r h=>by cases h) (fun _ _=>?_) (fun _=>by simp) () trivial Kh
 ·have a:∀(L:ba)(k:Nat),jd (fun(_:Unit) _(x:UInt8)=>(.inl ():Unit ⊕ (Out×St))) (fun _=>(.exit 0,⟨[(0,.flat (.string (S s)))],[],[],[]⟩)) () k L=(.exit 0,⟨[(0,.flat (.string (S s)))],[],[],[]⟩):=by
   intro L
   induction L with
   |nil=>intro k;rfl
   |cons x t d=>grind [jd.eq_2]
  grind
 ·have a:=Dj.1 h c (Ah e)
  unfold gh at a;simp only[Vc,decide_eq_true_eq]at a;have g:=xh (lib:=lib) 7;have d:((7:Nat):Int)=7:=rfl;rw[d]at g;obtain⟨n,i⟩:∃n,c.toNat=n:=⟨_,rfl⟩;rw[i]at a;clear h;exact va rG
 ·exact va rG
theorem sS(old new:ba)(h:new.length<=old.length):∀(n)(s:ba),(Lib.replaceK old new n s).length<=s.length
 |0,s=>la _
 |n+1,s=>by
  rw[Lib.replaceK];split
  ·omega
  ·rename_i ra
   have a:=Lib.index_ge s old;have b:Lib.index s old≠-1:=by simpa using ra
   have c:=Lib.index_room s old aa;have d:=sS old new h n (s.drop ((Lib.index s old).toNat+old.length))
   grind
def pt(s old new:ba)(h:new.length<=old.length):(Lib.replaceAll s old new).length<=s.length:=by
 grind [Lib.replaceAll,Lib.replace,sS]
def zah(j:Cf lib)(k:Ll lib)(s t)(hs:s.length<=1000000)(h:Ak s=some t):fa code lib 142 [.flat (.string (S s))] [] []=some ([.flat (.string (S t))],false,[],[]):=by
 unfold Ak at h;split at h
 case isFalse=>cases h
 rename_i a;split at h
 case isFalse=>cases h
 rename_i e;obtain⟨n,q⟩:=e;cases h;have o:=Ob (pt s [13,10] [0] ga) hs;have d:=WS (lib:=lib) s hs a;have r1:=Wz k s [13,10] [0] hs ga ga;have p:=xh (lib:=lib) 7;have l:((7:Nat):Int)=7:=rfl;rw[l]at p;generalize Lib.replaceAll s [13,10] [0]=u at*;have r:=Wz k u [0] [10] o ga ga;have g:=dl j u 13 aa;have i:=dl j u 10 aa;rw[n]at g;rw[q]at i;have c:((UInt8.toNat 13:Nat):Int)=13:=rfl;have b:((UInt8.toNat 10:Nat):Int)=10:=rfl;rw[c]at g;rw[b]at i;dsimp only at g i;refine ma DC (qa rfl) ?_;exact va @r1
def fu(lib:Callee):Prop:=∀s:ba,s.length<=1000000->lib 143 [.flat (.string (S s))] [] []=some ((match Qe s with|some t=>[.flat (.string (S t)),.flat (.int .i64 0)]|none=>[.flat (.string (S [])),.flat (.int .i64 7)]),false,[],[])
def lu(lib:Callee):Prop:=∀s:ba,s.length<=1000000->lib 144 [.flat (.string (S s))] [] []=some ((match jb (bare s)with|some t=>[.flat (.string (S t)),.flat (.int .i64 0)]|none=>[.flat (.string (S [])),.flat (.int .i64 7)]),false,[],[])
def pN(H:fu lib)(s)(h:s.length<=1000000):fa code lib 143 [.flat (.string (S s))] [] []=some ((match Qe s with|some t=>[.flat (.string (S t)),.flat (.int .i64 0)]|none=>[.flat (.string (S [])),.flat (.int .i64 7)]),false,[],[]):=Ud ga ca (H s h)
def cU(H:lu lib)(s)(h:s.length<=1000000):fa code lib 144 [.flat (.string (S s))] [] []=some ((match jb (bare s)with|some t=>[.flat (.string (S t)),.flat (.int .i64 0)]|none=>[.flat (.string (S [])),.flat (.int .i64 7)]),false,[],[]):=Ud ga ca (H s h)
def Ri:ba:=[55,98,105,116]
def hA:ba:=[113,117,111,116,101,100,45,112,114,105,110,116,97,98,108,101]
def eA:ba:=[98,97,115,101,54,52]
def si(s c:ba):Option ba:=if c=Ri then Ak s else if c=hA then Qe s else if c=eA then jb (bare s)else none
def V_(n:Cf lib)(o:Ll lib)(l:fu lib)(p:lu lib)(s c t)(hs:s.length<=1000000)(h:si s c=some t):fa code lib 81 [.flat (.string (S s)),.flat (.string (S c))] [] []=some ([.flat (.string (S t))],false,[],[]):=by
 have j:=xh (lib:=lib) 7;have q:((7:Nat):Int)=7:=rfl;rw[q]at j;unfold si at h;refine ma Gu (qa rfl) ?_;by_cases d:c=Ri
 ·rw[if_pos d]at h
  have e:=zah n o s t hs h;have a:(c=[55,98,105,116])=True:=eq_true d;simp(maxSteps:=999999) (disch:=first|assumption|omega) only[go_sem,simprocAttr,au,e,a]
 ·rw[if_neg d]at h
  have a:(c=[55,98,105,116])=False:=eq_false d;by_cases g:c=hA
  ·rw[if_pos g]at h
   have e:=pN l s hs;rw[h]at e;dsimp only at e;have b:(c=[113,117,111,116,101,100,45,112,114,105,110,116,97,98,108,101])=True:=eq_true g;simp(maxSteps:=999999) (disch:=first|assumption|omega) only[go_sem,simprocAttr,au,e,a,b,j]
  ·rw[if_neg g]at h
   have b:(c=[113,117,111,116,101,100,45,112,114,105,110,116,97,98,108,101])=False:=eq_false g;by_cases k:c=eA
   ·rw[if_pos k]at h
    have e:=cU p s hs;rw[h]at e;dsimp only at e;have i:(c=[98,97,115,101,54,52])=True:=eq_true k;simp(maxSteps:=999999) (disch:=first|assumption|omega) only[go_sem,simprocAttr,au,e,a,b,i,j]
   grind
def ku(lib:Callee):Prop:=∀s:ba,s.length<=10000->lib 139 [.flat (.string (S s))] [] []=some ((match bg s with| .form=>[.flat (.string (S [])),.ha 0 [],.flat (.int .i64 7)]| .zh=>[.flat (.string (S [])),.ha 0 [],.flat (.int .i64 9)]| .ok m l=>[.flat (.string (S m)),.ha l.length (bb l),.flat (.int .i64 0)]),false,[],[])
def FR(H:ku lib)(s)(h:s.length<=10000):fa code lib 139 [.flat (.string (S s))] [] []=some ((match bg s with| .form=>[.flat (.string (S [])),.ha 0 [],.flat (.int .i64 7)]| .zh=>[.flat (.string (S [])),.ha 0 [],.flat (.int .i64 9)]| .ok m l=>[.flat (.string (S m)),.ha l.length (bb l),.flat (.int .i64 0)]),false,[],[]):=Ud ga ca (H s h)
def vo(lib:Callee):Prop:=∀s w:ba,s.length<=1000000000->lib 39 [.flat (.string (S s)),.flat (.string (S w))] [] []=some ([.flat (.string (S (Lib.cut s w).1)),.flat (.string (S (Lib.cut s w).2.1)),.flat (.bool (Lib.cut s w).2.2)],false,[],[])
def Ox(H:vo lib)(s w)(h:s.length<=1000000000):fa code lib 39 [.flat (.string (S s)),.flat (.string (S w))] [] []=some ([.flat (.string (S (Lib.cut s w).1)),.flat (.string (S (Lib.cut s w).2.1)),.flat (.bool (Lib.cut s w).2.2)],false,[],[]):=Ud ga ca (H s w h)
def Qg:ba:=[99,111,110,116,101,110,116,45,116,121,112,101]
def Pf:ba:=[99,111,110,116,101,110,116,45,116,114,97,110,115,102,101,114,45,101,110,99,111,100,105,110,103]
def Cm:ba:=[98,111,117,110,100,97,114,121]
def vp:ba:=[116,101,120,116,47,112,108,97,105,110]
def jk:List ec->ba->ba
 |[],m=>m
 |(a,b)::l,m=>jk l (if xa a==xa Cm then b else m)
theorem gI{fin}:∀(L)(k)(m),jd (fun(m:ba) _(x:ec)=>(.inl (if xa x.1==xa Cm then x.2 else m):ba ⊕ (Out×St))) fin m k L=fin (jk L m)
 |[],k,q=>rfl
 |(a,b)::t,k,q=>by rw[jd,jk];exact gI t _ _
def tQ(j:Pp lib)(F)(m0)(hF:Ck F):Fc (pa (fa code lib) ka jx) [8,11,46,47,48] 0 ka ⟨[(8,.flat (.string (S m0))),(11,.flat (.string (S []))),(46,.ha F.length (bb F)),(47,.flat (.int .i64 (F.length:Nat))),(48,.flat (.int .i64 0))],[],[],[]⟩=some (.exit 0,⟨[(8,.flat (.string (S m0))),(11,.flat (.string (S (jk F []))))],[],[],[]⟩):=by
 have i:=mQ (body:=pa (fa code lib) ka jx) (live:=[8,11,46,47,48]) (nb:=0) (fun(m:ba) k=>⟨[(8,.flat (.string (S m0))),(11,.flat (.string (S m))),(46,.ha F.length (bb F)),(47,.flat (.int .i64 (F.length:Nat))),(48,.flat (.int .i64 (k:Nat)))],[],[],[]⟩) F (fun _ _=>True)
  (fun m k x=>.inl (if xa x.1==xa Cm then x.2 else m)) (fun m=>(.exit 0,⟨[(8,.flat (.string (S m0))),(11,.flat (.string (S m)))],[],[],[]⟩)) (fun m k c _ d l o=>.inl ?_) (fun m _=>⟨?_,da⟩) [] trivial (by have:=hF.1;grind [ka])
 ·grind [gI]
 ·obtain⟨a,b⟩:=c
  have q:=hF.1;have e:=hF.2 (a,b) (Ah l);have h:=aJ j a Cm e.1 ga;unfold Cm at h;have r:=Ou o;have d:=Pu F;have t:((bb F).drop (k* 2)).length=(F.length - k)* 2:=by rw[Ya,d];omega
  have p:=fun n=>cd (n:=n) F
  clear hF e d j o l;generalize F.drop (k+1)=fr at*;generalize bb fr=u at*;dsimp only;unfold Cm;cases g:xa a==xa [98,111,117,110,100,97,114,121]with
  |true=>
   rw[g]at h;refine⟨_,⟨[(8,.flat (.string (S m0))),(11,.flat (.string (S b))),(46,.ha F.length (bb F)),(47,.flat (.int .i64 (F.length:Nat))),(48,.flat (.int .i64 ((k+1:Nat):Nat)))],[],[],[]⟩,rfl,?_,?_,trivial⟩
   ·exact va qG
   ·exact ta
  |false=>
   rw[g]at h;refine⟨_,⟨[(8,.flat (.string (S m0))),(11,.flat (.string (S m))),(46,.ha F.length (bb F)),(47,.flat (.int .i64 (F.length:Nat))),(48,.flat (.int .i64 ((k+1:Nat):Nat)))],[],[],[(180,[.flat (.string (S a)),.flat (.string (S b))])]⟩,rfl,?_,?_,trivial⟩
   ·exact va qG
   ·exact ta
 ·exact va qG
def gl(F:List ec):Except Nat (ba×ba):=
 if(mc Qg F).2<2/\(mc Pf F).2<2 then
  if(mc Qg F).2=0 then .ok (vp,[])else
  match bg (mc Qg F).1 with
  | .form=>.error 7
  | .zh=>.error 9
  | .ok m l=>if(Lib.cut m [47]).2.2=true/\(Lib.cut m [47]).1≠[]/\(Lib.cut m [47]).2.1≠[]/\Zb 47 (Lib.cut m [47]).2.1=none then .ok (xa m,jk l [])else .error 7
 else .error 9
theorem m5(j:Pp lib)(E:gu lib)(H:ku lib)(D:vo lib)(G:Cf lib)(F)(ty mk)(hF:Ck F)(W:(mc Qg F).1.length<=10000)(d:∀m l,bg (mc Qg F).1=.ok m l->Ck l/\m.length<=10000)(h:gl F=.ok (ty,mk)):
 fa code lib 77 [.ha F.length (bb F)] [] []=some ([.flat (.string (S ty)),.flat (.string (S mk))],false,[],[]):=by
 have g1:=Wu j F Qg hF ga;have p:=Wu j F Pf hF ga;have r:=xh (lib:=lib) 0;have t:=xh (lib:=lib) 7;have w:=xh (lib:=lib) 9;have N:((7:Nat):Int)=7:=rfl;have O:((9:Nat):Int)=9:=rfl;rw[N]at t;rw[O]at w;rw[n0]at r;have V:=je F;have e:=FR H _ W;unfold gl at h;unfold Qg at g1 h e d;unfold Pf at p h;obtain⟨v,C⟩:∃v,mc [99,111,110,116,101,110,116,45,116,121,112,101] F=v:=⟨_,rfl⟩;obtain⟨u,B⟩:∃v,mc [99,111,110,116,101,110,116,45,116,114,97,110,115,102,101,114,45,101,110,99,111,100,105,110,103] F=v:=⟨_,rfl⟩;rw[C]at g1 h e d;rw[B]at p h;obtain⟨v,n⟩:=v;obtain⟨u,k⟩:=u;dsimp only at g1 p h e d;split at h
 case isFalse=>cases h
 rename_i A;obtain⟨Y,X⟩:=A;refine ma Fu (qa rfl) ?_;split at h
 ·rename_i i
  subst i;cases h;unfold vp;clear e d hF;exact ta
 ·rename_i i
  have I:((n:Int)=0)=False:=by apply eq_false;omega
  cases b:bg v with
  |form=>grind
  |zh=>grind
  |ok m l=>
   rw[b]at h e;dsimp only at h e;obtain⟨c,U⟩:=d m l b;have T:=tQ j l m c;have hcut:=Ox D m [47] aa;have Q:=mD E m aa;have J:=je l;have R:=c.1;split at h
   case isFalse=>cases h
   rename_i P;obtain⟨c1,c2,c3,c4⟩:=P;cases h;have g:(Lib.cut m [47]).2.1.length<=m.length:=by
    unfold Lib.cut;split
    ·simp
    ·simp
   obtain⟨q,K⟩:∃q,Lib.cut m [47]=q:=⟨_,rfl⟩;rw[K]at hcut c1 c2 c3 c4 g;obtain⟨x,y,z⟩:=q;dsimp only at hcut c1 c2 c3 c4 g;have a:=dl G y 47 aa;rw[c4]at a;have o:((UInt8.toNat 47:Nat):Int)=47:=rfl;rw[o]at a;dsimp only at a;subst c1;have L:=eq_false c2;have M:=eq_false c3;clear hF c d K b j E H D G;exact ta
def Rp(lib:Callee):Prop:=∀s w:ba,s.length<=1000000000->lib 146 [.flat (.string (S s)),.flat (.string (S w))] [] []=some ([.flat (.int .i64 (Lib.index s w))],false,[],[])
def AD(H:Rp lib)(s w)(h:s.length<=1000000000):fa code lib 146 [.flat (.string (S s)),.flat (.string (S w))] [] []=some ([.flat (.int .i64 (Lib.index s w))],false,[],[]):=Ud ga ca (H s w h)
def Kl(lib:Callee):Prop:=∀s w:ba,s.length<=1000000000->lib 90 [.flat (.string (S s)),.flat (.string (S w))] [] []=some ([.flat (.string (S (if w.isPrefixOf s then s.drop w.length else s))),.flat (.bool (w.isPrefixOf s))],false,[],[])
def QC(H:Kl lib)(s w)(h:s.length<=1000000000):fa code lib 90 [.flat (.string (S s)),.flat (.string (S w))] [] []=some ([.flat (.string (S (if w.isPrefixOf s then s.drop w.length else s))),.flat (.bool (w.isPrefixOf s))],false,[],[]):=Ud ga ca (H s w h)
def gt(H:sd lib)(s p)(hs:s.length<=1000000000)(a:p.length<=1000000000):fa code lib 80 [.flat (.string (S s)),.flat (.string (S p))] [] []=some ([.flat (.bool (p.isPrefixOf s))],false,[],[]):=Ud ga ca (H s p hs a)
def De(s line:ba)(q:List ba×Nat×Nat):(List ba×Nat×Nat) ⊕ Option (List ba):=
 if Lib.index (s.drop q.2.2) line=-1 then .inr none else
 let at_:=q.2.2+(Lib.index (s.drop q.2.2) line).toNat
 let a:=s.drop (at_+line.length)
 if([45,45,13,10]:ba).isPrefixOf a then(if a=[45,45,13,10]then .inr (some (q.1++[(s.take at_).drop q.2.1]))else .inr none)
 else if([13,10]:ba).isPrefixOf a then .inl (q.1++[(s.take at_).drop q.2.1],at_+line.length+2,at_+line.length+2)
 else .inl (q.1,q.2.1,at_+1)
def jc(mark:ba):ba:=[13,10,45,45]++mark
def Ei(s mark:ba):Option (List ba):=
 if(jc mark++[13,10]).isPrefixOf ([13,10]++s)then hc (De (([13,10]++s).drop (jc mark++[13,10]).length) (jc mark)) none (s.length+1) ([],0,0)else none
def yy{s w:ba}{n:Nat}(h:Lib.index s w≠-1):(Lib.index s w).toNat+w.length<=s.length/\Lib.index s w=((Lib.index s w).toNat:Int):=by
 have a:=Lib.index_ge s w;have b:=Lib.index_room s w aa;omega
theorem MV(U:Rp lib)(T:Kl lib)(N:sd lib)(s mark)(out)(hs:s.length<=100000000)(hmZ:mark.length<=1000000)(h:Ei s mark=some out)(BX:List ba->Ha)(oc)(b P Q nb)
 (V:∀a,(BX a)[P]?=some (9,[.flat (.string (S mark))])) (W:∀a,(BX a)[Q]?=some (9,[.flat (.string (S s))])) (e:∀a,(BX a).length=nb) (B:∀q∈oc,q.1<nb)
 (E:∀a x,a.length<=s.length->fa code lib hb [.Ma b,.flat (.string (S x))] (BX a) (cl oc)=some ([.flat (.bool true)],false,BX (a++[x]),cl oc)):
 fa code lib 145 [.Ma b,.ptr P 0,.ptr Q 0] (BX []) (cl oc)=some ([],false,BX out,cl oc):=by
 have Y:Da=4294967296:=rfl;unfold Ei at h;split at h
 case isFalse=>cases h
 rename_i o;have H:(jc mark).length=mark.length+4:=by unfold jc;simp
 have c1:=QC T ([13,10]++s) (jc mark++[13,10]) ia;rw[if_pos o,o]at c1;have I:=xk o;simp only[Ja,za,ya]at I;have K:(([13,10]++s).drop (jc mark++[13,10]).length).length<=s.length:=by simp only[Ya,Ja,za,ya];omega
 obtain⟨rest,w⟩:∃r,([13,10]++s).drop (jc mark++[13,10]).length=r:=⟨_,rfl⟩;rw[w]at h c1 K;simp only[ub,Gb]at c1;obtain⟨line,g⟩:∃l,jc mark=l:=⟨_,rfl⟩;have e1:S (13::10::45::45::mark)=S line:=by rw[<-g];rfl
 rw[g]at h c1 H;have k:=xh (lib:=lib) 7;have X:((7:Nat):Int)=7:=rfl;rw[X]at k
 have j:=wh (body:=pa (fa code lib) ka dn) (live:=[0,4,5,7,8]) (nb:=nb) (fun q:List ba×Nat×Nat=>(⟨[(0,.Ma b),(4,.flat (.string (S line))),(5,.flat (.string (S rest))),(7,.flat (.int .i64 (q.2.1:Nat))),(8,.flat (.int .i64 (q.2.2:Nat)))],cl oc,[],BX q.1⟩:St))
  (fun q=>q.2.1<=q.2.2/\q.2.2<=rest.length/\q.1.length<=q.2.2/\∃n,rest.length+1<=n+q.2.2/\hc (De rest line) none n q=some out) (fun q=>rest.length - q.2.2)
  (fun q=>(.ret,⟨[],cl oc,[],BX out⟩)) (fun q J=>?_) (n:=ka) (a:=([],0,0)) ⟨la _,Za _,la _,s.length+1,aa,h⟩ (by grind [ka])
 ·simp only[n0]at j
  have g1:=V [];have u:=W [];have g3:=e [];have g4:=e out;have y:=db oc B;refine ma BC (qa rfl) ?_;have e2:S (line++[13,10])=S (line++[13,10]):=rfl;clear h;simp(maxSteps:=999999) (disch:=first|assumption|omega) only[go_sem,simprocAttr,au,g1,u,g3,g4,e1,c1,k,Mc g3,Mc g4,y,j]
 ·obtain⟨a,fr,at_⟩:=q
  obtain⟨Z,k2Z,k3Z,n,G,d⟩:=J;dsimp only at Z k2Z k3Z G d⊢;cases n with
  |zero=>omega
  |succ n=>
   have F:=AD U (rest.drop at_) line ia;by_cases A:Lib.index (rest.drop at_) line=-1
   ·rw[Dd (r:=none) (by grind [De])]at d;cases d
   ·obtain⟨r1,R⟩:=yy (n:=0) A
    rw[Ya]at r1;obtain⟨i,O⟩:∃i,(Lib.index (rest.drop at_) line).toNat=i:=⟨_,rfl⟩;rw[O]at r1 R;rw[R]at F
    have c:De rest line (a,fr,at_)=(if([45,45,13,10]:ba).isPrefixOf (rest.drop (at_+i+line.length))then(if rest.drop (at_+i+line.length)=[45,45,13,10]then .inr (some (a++[(rest.take (at_+i)).drop fr]))else .inr none)
     else if([13,10]:ba).isPrefixOf (rest.drop (at_+i+line.length))then .inl (a++[(rest.take (at_+i)).drop fr],at_+i+line.length+2,at_+i+line.length+2)else .inl (a,fr,at_+i+1)):=by
     unfold De;dsimp only;rw[if_neg A,O]
    have M:((at_:Int)+(i:Int)+(line.length:Int)).toNat=at_+i+line.length:=aa
    have g1:=e a;have y:=db oc B;have p:=gt N (rest.drop (at_+i+line.length)) [45,45,13,10] (by rw[Ya];omega) ga;have t:=gt N (rest.drop (at_+i+line.length)) [13,10] (by rw[Ya];omega) ga;have L:rest.take rest.length=rest:=Eh;have D:=E a ((rest.take (at_+i)).drop fr) aa;have u:=e (a++[(rest.take (at_+i)).drop fr]);cases C:([45,45,13,10]:ba).isPrefixOf (rest.drop (at_+i+line.length))with
    |true=>
     rw[C]at c p;simp only[if_true]at c;by_cases v:rest.drop (at_+i+line.length)=[45,45,13,10]
     ·rw[if_pos v]at c
      rw[Dd c]at d;simp only[Xb]at d;left;refine⟨_,_,?_,da,rfl⟩;have J:=eq_true v;rw[<-d];clear c d G h E;simp(maxSteps:=999999) (disch:=first|assumption|omega) only[go_sem,simprocAttr,au,Fv,L,M,F,k,p,J,D,g1,u,wb,pb,Bb,Mc g1,Mc u,y,ic]
     ·rw[if_neg v]at c
      rw[Dd c]at d;cases d
    |false=>
     rw[C]at c p;simp only[Fa,if_false]at c;cases v:([13,10]:ba).isPrefixOf (rest.drop (at_+i+line.length))with
     |true=>
      rw[v]at c t;simp only[if_true]at c;rw[xf c]at d;right;have z:=xk v;rw[Ya]at z;simp only[za,ya]at z;refine⟨⟨[(0,.Ma b),(4,.flat (.string (S line))),(5,.flat (.string (S rest))),(7,.flat (.int .i64 ((at_+i+line.length+2:Nat):Nat))),(8,.flat (.int .i64 ((at_+i+line.length+2:Nat):Nat)))],cl oc,[],BX (a++[(rest.take (at_+i)).drop fr])⟩,(a++[(rest.take (at_+i)).drop fr],at_+i+line.length+2,at_+i+line.length+2),?_,?_,⟨la _,Fg,by simp only[Ja,za,ya];omega,n,ia,d⟩,Fg,rfl⟩
      ·clear c d G h E
       simp(maxSteps:=999999) (disch:=first|assumption|omega) only[go_sem,simprocAttr,au,Fv,L,M,F,k,p,t,D,g1,u,wb,pb,Bb,Mc g1,Mc u,y,ic]
      ·simp(maxSteps:=999999) (disch:=first|assumption|omega) only[go_sem,simprocAttr,au,u,xb,cb,wb,pb,Bb,Mc u,y]
     |false=>
      rw[v]at c t;simp only[Fa,if_false]at c;rw[xf c]at d;right;refine⟨⟨[(0,.Ma b),(4,.flat (.string (S line))),(5,.flat (.string (S rest))),(7,.flat (.int .i64 (fr:Nat))),(8,.flat (.int .i64 ((at_+i+1:Nat):Nat)))],cl oc,[],BX a⟩,(a,fr,at_+i+1),?_,?_,⟨ia,ia,ia,n,ia,d⟩,Fg,rfl⟩
      ·clear c d G h E
       simp(maxSteps:=999999) (disch:=first|assumption|omega) only[go_sem,simprocAttr,au,Fv,L,M,F,k,p,t,g1,pb,Bb,Mc g1,ic]
      ·simp(maxSteps:=999999) (disch:=first|assumption|omega) only[go_sem,simprocAttr,au,g1,xb,cb,wb,pb,Bb,Mc g1,y]
def XJ(s mark)(bx)(oc)(h:∀q∈oc,q.1<bx.length):fa code lib 83 [.flat (.string (S s)),.flat (.string (S mark))] bx (cl oc)=some ([.fb 145 [.ptr (bx.length+1) 0,.ptr bx.length 0]],false,bx++[(9,[.flat (.string (S s))]),(9,[.flat (.string (S mark))])],cl oc):=by
 refine ma bX (qa rfl) ?_;have a:¬(bx.length+1+1=bx.length):=aa
 have b:Nb (bx.length+1+1) (cl oc)=cl oc:=db _ fun q d=>by grind
 have c:bx.length+1+1=bx.length+2:=rfl;simp only[go_sem,simprocAttr,xb,cb,wb,pb,Ja,a,Nat.lt_irrefl,b,sf]
def PM{l}{k n}(h:Zc l=some k)(d:k+2<=n)(m):Zc (l.take n++m)=some k:=by
 have c:=Vj h;have e:∀i:Nat,i<k+2->(l.take n++m)[i]?=l[i]?:=fun i b=>by
  rw[Hk (by rw[Ac];omega),Lt aa]
 have a:=Lx h;refine sY ⟨by rw[e k aa];exact a.1,by rw[e (k+1) aa];exact a.2⟩ fun i b=>?_
 rw[e i aa,e (i+1) aa];exact Kx h i b
theorem N_(n):∀(l)(a)(st)(f)(t)(b),l.length<=n->ve (Vd l a) st=some (f,t,b)->
 a+2<=b/\b<=a+l.length/\∀m,ve (Vd (l.take (b - a)++m) a) st=some (f,t,b):=by
 induction n with
 |zero=>
  intro l a st f t b o h;rw[qz (l:=l) aa,ek rfl]at h;cases h
 |succ n p=>
  intro l a st f t b o h;rcases c:Zc l with _|k
  ·rw[ek c]at h;cases h
  ·have ea:=Vj c
   rw[En c,ve]at h;by_cases d:k=0
   ·subst d
    rw[if_pos da]at h;cases h;refine⟨aa,aa,fun m=>?_⟩;rw[En (PM c aa m),ve,if_pos da]
   ·have ra:l.take k≠[]:=by
     intro e;have:=congrArg List.length e;rw[Ac,ya]at this;omega
    rw[if_neg ra,if_neg d]at h;rcases hs:ed st (l.take k)with _|st'
    ·rw[hs]at h;cases h
    ·rw[hs]at h
     obtain⟨q,g,i⟩:=p (l.drop (k+2)) (a+k+2) st' f t b (by rw[Ya];omega) h;rw[Ya]at g;refine⟨aa,aa,fun m=>?_⟩;have j:(l.take (b - a)++m).drop (k+2)=(l.drop (k+2)).take (b - (a+k+2))++m:=by
      rw[List.drop_append_of_le_length (by rw[Ac];omega),Lp,show b - a - (k+2)=b - (a+k+2) by omega]
     have ht:(l.take (b - a)++m).take k=l.take k:=by
      rw[lI (by rw[Ac];omega),List.take_take,Nat.min_eq_left aa]
     rw[En (PM c aa m),ve,ht,if_neg ra,if_neg d,hs,j];exact i m
def zbm{l}{F}{b}(h:Pd l=.ok F b):b<=l.length/\∀m,Pd (l.take b++m)=.ok F b:=by
 unfold Pd at h⊢;rcases hr:ve (Vd l 0) ([],false)with _|⟨f,_|_,d⟩
 ·rw[hr]at h;cases h
 ·rw[hr]at h;cases h
  obtain⟨_,e,c⟩:=N_ _ l 0 _ _ _ _ (la _) hr;exact⟨aa,fun m=>by have a:=c m;rw[qo]at a;rw[a]⟩
 ·rw[hr]at h;cases h
theorem GS:∀(xs)(st)(f)(t)(b),ve xs st=some (f,t,b)->f.length<=st.1.length+xs.length
 |[],_,_,_,_,h=>by cases h
 |(d,a)::r,st,f,t,b,h=>by
  rw[ve]at h;by_cases c:d=[]
  ·rw[if_pos c]at h;cases h;exact Nat.le_add_right _ _
  ·rw[if_neg c]at h
   rcases hs:ed st d with _|st'
   ·rw[hs]at h;cases h
   ·rw[hs]at h
    have e:=GS r st' f t b h;have g:st'.1.length<=st.1.length+1:=by
     unfold ed at hs;split at hs
     ·cases hs
     ·split at hs
      ·split at hs
       ·cases hs
       ·cases hs
        simp
      ·split at hs
       ·cases hs
       ·split at hs
        ·cases hs;simp
        ·cases hs
    rw[za];omega
def zbi{l}{F}{b}(h:Pd l=.ok F b):F.length<=l.length:=by
 unfold Pd at h;rcases hr:ve (Vd l 0) ([],false)with _|⟨f,_|_,c⟩
 ·rw[hr]at h;cases h
 ·rw[hr]at h;cases h
  have a:=GS _ _ _ _ _ hr;have d:=CD _ l 0 (la _);rw[Hj];simp only[ya]at a;omega
 ·rw[hr]at h;cases h
def wF:List ec->Nat
 |[]=>0
 |f::l=>f.1.length+f.2.length+wF l
theorem ZH:∀a b,wF (a++b)=wF a+wF b
 |[],b=>by simp[wF]
 |f::a,b=>by simp only[ub,wF,ZH a b];omega
theorem fU:∀{F}{f},f∈F->f.1.length+f.2.length<=wF F
 |g::l,f,h=>by
  rcases Wb.1 h with rfl|h
  ·grind [wF]
  ·have:=fU h;grind [wF]
def zb2{st st'}{l}(h:ed st l=some st'):wF st'.1<=wF st.1+l.length:=by
 unfold ed at h;split at h
 ·cases h
 split at h
 ·split at h
  ·cases h
  ·rename_i p a
   cases h;have:st.1=st.1.dropLast++[p]:=by
    have ra:st.1≠[]:=by intro e;rw[e]at a;cases a
    have b:=List.dropLast_concat_getLast ra;rw[List.getLast?_eq_some_getLast ra]at a;cases a;exact b.symm
   grind [ZH,wF]
 grind [ZH,wF]
def wI:List (List UInt8×Nat)->Nat
 |[]=>0
 |x::l=>x.1.length+wI l
theorem JS:∀(xs)(st)(f)(t)(b),ve xs st=some (f,t,b)->wF f<=wF st.1+wI xs
 |[],st,f,t,b,h=>by cases h
 |(g,a)::r,st,f,t,b,h=>by
  rw[ve]at h;split at h
  ·grind
  ·split at h
   ·cases h
   ·rename_i s1 c
    have d:=JS r s1 f t b h;have e:=zb2 c
    grind [wI]
def I2(n):∀(l)(a),l.length<=n->wI (Vd l a)<=l.length:=by
 induction n with
 |zero=>
  intro l a h;rw[qz (l:=l) aa,ek rfl];simp[wI]
 |succ n c=>
  intro l a h;rcases b:Zc l with _|k
  ·grind [ek,wI]
  ·have:=Vj b
   rw[En b,wI,Ac]
   grind [wI]
theorem zdm(l):(trimB l).length<=l.length:=by
 grind [trimB,Xh,gi]
theorem gU:∀F,wF (F.map fun p=>(p.1,trimB p.2))<=wF F
 |[]=>la _
 |f::F=>by
  have a:=gU F
  grind [zdm,wF]
def zbo{l}{F}{b}(h:Pd l=.ok F b):wF F<=l.length:=by
 unfold Pd at h;split at h
 ·cases h
 ·cases h
 ·rename_i f a hr
  cases h;have c:=JS _ _ _ _ _ hr;have d:=I2 _ l 0 (la _)
  grind [gU,wF]
def AH{l}{F}{b}(h:Pd l=.ok F b)(e:l.length<=1000000):Ck F/\b<=l.length/\∀f∈F,f.1.length<=l.length/\f.2.length<=l.length:=by
 have c:=zbo h;have d:=zbi h;refine⟨⟨aa,fun f a=>?_⟩,(zbm h).1,fun f a=>?_⟩<;>(have:=fU a;omega)
theorem ss{n}{k}:∀(F)(q),q.1.length<=k->(∀f∈F,f.2.length<=k)->(kj n F q).1.length<=k
 |[],q,h,_=>h
 |(a,b)::F,q,h,hF=>by
  rw[kj];split
  ·refine ss F _ ?_ fun f c=>hF f (by simp[c])
   dsimp only;split
   ·simp_all
   omega
  ·exact ss F _ h fun f c=>hF f (by simp[c])
theorem lQ(k):∀(n)(l)(out)(d)(a)(b),eh n l out d=some (a,b)->l.length<=k->(∀f∈out,f.1.length<=k/\f.2.length<=k)->a.length<=out.length+l.length/\∀f∈a,f.1.length<=k/\f.2.length<=k
 |0,_,_,_,_,_,h,_,_=>by cases h
 |n+1,l,out,d,a,b,h,j,o=>by
  rw[eh]at h;split at h
  ·grind
  ·have e:=gi Ia l
   split at h
   ·cases h
   ·rename_i t hs
    have ht:t.length<(l.dropWhile Ia).length:=by
     unfold Yd at hs;split at hs
     ·cases hs
     ·grind
    split at h
    ·cases h
    ·rename_i p r g
     have c:=Lz g;dsimp only at c;obtain⟨q,u⟩:=lQ k n r (out++[p]) _ a b h aa (fun f i=>by
      grind)
     grind
theorem FT(p):∀l:List UInt8,(l.takeWhile p).length<=l.length
 |[]=>la _
 |c::l=>by
  rw[NA];split
  ·have:=FT p l;grind
  ·simp
def UG{v m}{l}(h:bg v=.ok m l)(g:v.length<=10000):Ck l/\m.length<=v.length:=by
 unfold bg at h;split at h
 ·cases h
 ·rename_i out k a
  split at h
  ·cases h
  split at h
  ·cases h
  cases h;have c:=gi Ia v;have d:=gi Fb (v.dropWhile Ia);obtain⟨i,j⟩:=lQ 10000 _ _ _ _ _ _ a aa (fun f b=>by cases b);have e:=FT Fb (v.dropWhile Ia);refine⟨⟨?_,fun f b=>?_⟩,aa⟩
  ·grind
  grind
theorem XQ:∀{a b},gc (a++b)=(gc a&&gc b)
 |[],b=>by rfl
 |v::a,b=>by simp only[ub,gc,XQ (a:=a),Bool.and_assoc]
theorem lz{n}:∀{a b},La n (a++b)=(La n a&&La n b)
 |[],b=>by rfl
 |v::a,b=>by simp only[ub,La,lz (a:=a),Bool.and_assoc]
inductive LP where
 | mk (F:List ec) (ty tx:ba) (ps:List LP)
mutual
def LP.cells:LP->List PV
 | .mk F ty a ps=>[.ha F.length (bb F),.flat (.string (S ty)),.flat (.string (S a)),.ha ps.length (Tc ps)]
def Tc:List LP->List PV
 |[]=>[]
 |p::r=>p.cells++Tc r
end
mutual
theorem LP.np:∀p:LP,gc p.cells=true
 | .mk F ty a ps=>by simp only[LP.cells,gc,PV.pl,je,jf ps,tf]
theorem jf:∀l:List LP,gc (Tc l)=true
 |[]=>rfl
 |p::r=>by rw[Tc,XQ,LP.np p,jf r];rfl
end
mutual
theorem LP.low{n:Nat}:∀p:LP,La n p.cells=true
 | .mk F ty a ps=>by simp only[LP.cells,La,PV.low,cd,dd ps,tf]
theorem dd{n:Nat}:∀l:List LP,La n (Tc l)=true
 |[]=>rfl
 |p::r=>by rw[Tc,lz,LP.low p,dd r];rfl
end
def LP.len(p:LP):p.cells.length=4:=by cases p;rfl
theorem sv:∀l,(Tc l).length=l.length* 4
 |[]=>rfl
 |p::r=>by rw[Tc,Ja,LP.len,sv r,za];omega
theorem GF:∀a b,Tc a++Tc b=Tc (a++b)
 |[],b=>rfl
 |p::a,b=>by rw[Tc,sf,GF a b];rfl
theorem dz:∀l,Ad (Tc l)=true
 |[]=>rfl
 | .mk F ty a ps::r=>by rw[Tc,YQ,dz r];rfl
def Mf(f:ba->Nat->Except Nat (LP×Nat)):List ba->Nat->Except Nat (List LP×Nat)
 |[],n=>.ok ([],n)
 |b::r,n=>match f b n with
  | .error e=>.error e
  | .ok (p,a)=>match Mf f r a with
    | .error e=>.error e
    | .ok (ps,m)=>.ok (p::ps,m)
def Zn:ba:=[109,117,108,116,105,112,97,114,116,47]
def dj(F:List ec):ba:=xa (if(mc Pf F).2=0 then Ri else(mc Pf F).1)
def ik(rec:Option (ba->Nat->Except Nat (LP×Nat)))(s:ba)(n:Nat):Except Nat (LP×Nat):=
 match Pd s with
 | .form=>.error 7
 | .long=>.error 6
 | .ok F at_=>match gl F with
   | .error e=>.error e
   | .ok (ty,mk)=>
     if Zn.isPrefixOf ty=false then(match si (s.drop at_) (dj F)with
      |none=>.error 7
      |some t=>.ok (.mk F ty t [],n))
     else if dj F=Ri/\ll mk=true then(match Ei (s.drop at_) mk with
      |none=>.error 7
      |some all=>match rec with
       |none=>.error 8
       |some f=>if n+all.length<=64 then(match Mf f all (n+all.length)with
        | .error e=>.error e
        | .ok (ps,m)=>.ok (.mk F ty [] ps,m))else .error 5)
     else .error 7
def Lg:Nat->ba->Nat->Except Nat (LP×Nat)
 |0=>ik none
 |d+1=>ik (some (Lg d))
variable {lib:Callee}
structure Db (B:Nat→Ha) (n b e:Nat) (c:Nat→List PV) (r:List (Nat × Nat)):Prop where
 len:∀ j,(B j).length=n
 get:∀ j,(B j)[b]? =some (e,c j)
 set:∀ i j,(B j).set b (e,c i)=B i
 lt:b<n
 low:∀ j,Cc n (B j)=true
 ea:∀ q∈r,q.1<n
 ra:∀ q∈r,q.1≠b
section
variable {B:Nat→Ha} {n b e:Nat} {c:Nat→List PV} {r:List (Nat × Nat)}
def Db.app(H:Db B n b e c r){m}(ys)(d:n+ys.length=m)(a:Cc m ys=true)(r')(hr:∀q∈r',q∈r\/(n<=q.1/\q.1<m)):Db (fun j=>B j++ys) m b e c r' where
 len j:=by rw[Ja,H.len];exact d
 get j:=by rw[Hk (by rw[H.len];exact H.lt),H.get]
 set i j:=by rw[OA _ _ (by rw[H.len];exact H.lt),H.set]
 lt:=by have:=H.lt;omega
 low j:=by rw[yv,vu aa _ (H.low j),a];rfl
 ea q hq:=by
  rcases hr q hq with h|h
  ·have:=H.ea q h;omega
  ·exact h.2
 ra q hq:=by
  rcases hr q hq with h|h
  ·exact H.ra q h
  ·have:=H.lt;omega
def Db.Ym(H:Db B n b e c r)(j)(ys):(B j++ys)[b]?=some (e,c j):=by rw[Hk (by rw[H.len];exact H.lt),H.get]
def Db.Xm(H:Db B n b e c r)(j)(ys):(B j++ys)[n]?=ys[0]?:=by rw[He (by rw[H.len];omega),H.len,Nat.sub_self]
def Db.aj(H:Db B n b e c r)(j i)(ys):(B j++ys)[n+i]?=ys[i]?:=by rw[He (by rw[H.len];omega),H.len,oh]
def Db.Pl(H:Db B n b e c r)(i j)(ys):(B j++ys).set b (e,c i)=B i++ys:=by rw[OA _ _ (by rw[H.len];exact H.lt),H.set]
def Db.Zm(H:Db B n b e c r)(j)(ys)(q):(B j++ys).set n q=B j++ys.set 0 q:=by rw[io _ _ (by rw[H.len];omega),H.len,Nat.sub_self]
def Db.an(H:Db B n b e c r)(j i)(ys)(q):(B j++ys).set (n+i) q=B j++ys.set i q:=by rw[io _ _ (by rw[H.len];omega),H.len,oh]
def Db.rh(H:Db B n b e c r)(j)(ys):(B j++ys).length=n+ys.length:=by rw[Ja,H.len]
def Db.Ql(H:Db B n b e c r)(j)(ys):(B j++ys).take n=B j:=by rw[lI (by rw[H.len];omega),Rf (by rw[H.len];omega)]
def Db.bn(H:Db B n b e c r)(j i)(ys):(B j++ys).take (n+i)=B j++ys.take i:=by
 rw[List.take_append,H.len,oh,Rf (by rw[H.len];omega)]
def Db.fm(H:Db B n b e c r)(o m):Qc n o m (cl r)=cl r:=Nr r H.ea
def Db.CY(H:Db B n b e c r)(o):Qc b o 1 (cl r)=cl r:=Hf r fun q a e=>H.ra q a (by rw[e])
def Db.tn(H:Db B n b e c r)(i o m):Qc (n+i) o m (cl r)=cl r:=Nr r fun q a=>by have:=H.ea q a;omega
def Db.Bj(H:Db B n b e c r):Nb n (cl r)=cl r:=db r H.ea
def Db.Fk(H:Db B n b e c r)(i):Nb (n+i) (cl r)=cl r:=db r fun q a=>by have:=H.ea q a;omega
def Db.Iq(H:Db B n b e c r):Rh n (cl r)=cl r:=Dx r H.ea
def Db.Jq(H:Db B n b e c r)(i):Rh (n+i) (cl r)=cl r:=Dx r fun q a=>by have:=H.ea q a;omega
def Db.Wx(H:Db B n b e c r)(i o):ad (.cell (n+i) o) (cl r)=cl r:=mn r fun q a e=>by have:=H.ea q a;rw[e]at this;dsimp only at this;omega
def Db.Vx(H:Db B n b e c r)(o):ad (.cell n o) (cl r)=cl r:=mn r fun q a e=>by have:=H.ea q a;rw[e]at this;dsimp only at this;omega
end
def XA(lib:Callee):Prop:=∀s:ba,s.length<=10000->lib 75 [.flat (.string (S s))] [] []=some ((match Pd s with| .form=>[.ha 0 [],.flat (.int .i64 0),.flat (.int .i64 7)]| .long=>[.ha 0 [],.flat (.int .i64 0),.flat (.int .i64 6)]| .ok F at_=>[.ha F.length (bb F),.flat (.int .i64 (at_:Nat)),.flat (.int .i64 0)]),false,[],[])
def zbg(H:XA lib)(s)(h:s.length<=10000):fa code lib 75 [.flat (.string (S s))] [] []=some ((match Pd s with| .form=>[.ha 0 [],.flat (.int .i64 0),.flat (.int .i64 7)]| .long=>[.ha 0 [],.flat (.int .i64 0),.flat (.int .i64 6)]| .ok F at_=>[.ha F.length (bb F),.flat (.int .i64 (at_:Nat)),.flat (.int .i64 0)]),false,[],[]):=Ud ga ca (H s h)
structure xr (lib:Callee):Prop where
 idx:Cf lib
 pre:sd lib
 fold:gu lib
 alike:Pp lib
 rep:Ll lib
 dq:fu lib
 um:lu lib
 tp:ku lib
 cut:vo lib
 Ku:Kl lib
 ind:Rp lib
 oA:XA lib
def lf(j:Nat):List PV:=[.flat (.int .i64 (j:Nat))]
abbrev RT:Nat:=93
def Rec(lib:Callee)(f:ba->Nat->Except Nat (LP×Nat))(a:Nat):Prop:=∀(B:Nat->Ha)(n b:Nat)(r:List (Nat×Nat)),Db B n b RT lf r->∀(s:ba)(j:Nat)(p:LP)(m:Nat),s.length<=10000->j<=64->f s j=.ok (p,m)->
 fa code lib 37 [.ptr b 0,.flat (.string (S s)),.flat (.int .i64 (a:Nat))] (B j) (cl r)=some ([.agg p.cells],false,B m,cl r)
variable {lib:Callee}
def cj(a b)(r):cl ((a,b)::r)=.cell a b::cl r:=rfl
def Xa:List PV:=[.ha 0 [],.flat (.string (S [])),.flat (.string (S [])),.ha 0 []]
def yh(k:Nat)(a:List PV)(ty:ba)(ps:List LP):List PV:=[.ha k a,.flat (.string (S ty)),.flat (.string (S [])),.ha ps.length (Tc ps)]
def No(n k:Nat)(a:List PV)(ty s mk:ba)(ps:List LP)(out:List ba):Ha:=[(52,Xa),(52,yh k a ty ps),(29,[.ha out.length (ua out)]),(9,[.flat (.string (S s))]),(9,[.flat (.string (S mk))]),(0,[.lp 37 0 .ready [14] [.ptr (n+2) 0]])]
theorem yu{i}:∀m,ad (.slot i) (cl m)=cl m
 |[]=>rfl
 |(a,b)::m=>by rw[cj,VC,yu m]
theorem Bu{d}:∀(m)(l),Ta d (cl m++l)=cl m++Ta d l
 |[],l=>rfl
 |(a,b)::m,l=>by rw[cj,ub,WC,Bu m];rfl
theorem zu{i}:∀(m)(l),ad (.slot i) (cl m++l)=cl m++ad (.slot i) l
 |[],l=>rfl
 |(a,b)::m,l=>by rw[cj,ub,VC,zu m];rfl
theorem Au{i}:∀(m)(l),owns (cl m++l) (.slot i)=owns l (.slot i)
 |[],l=>rfl
 |(a,b)::m,l=>by rw[cj,ub,NG,Au m]
def Db.Xp{B}{n b e}{c}{r}(H:Db B n b e c r)(j i)(ys):Cc (n+i) (B j++ys)=Cc (n+i) ys:=by rw[yv,vu aa _ (H.low j),pc]
def B8{B}{n b}{r}(H:Db B n b RT lf r)(j k)(i)(ty s mk x)(out)(G:out.length<=1000000):
 fa code lib hb [.Ma (n+5),.flat (.string (S x))] (B j++No n k i ty s mk [] out) (.cell (n+2) 0::.cell (n+1) 3::.cell n 0::.cell n 3::cl r)=some ([.flat (.bool true)],false,B j++No n k i ty s mk [] (out++[x]),.cell (n+2) 0::.cell (n+1) 3::.cell n 0::.cell n 3::cl r):=by
 have q:Da=4294967296:=rfl;have w:=H.Ym;have y:=H.Xm;have c:=H.aj;have z:=H.Pl;have A:=H.Zm;have e:=H.an;have g:=H.rh;have C:=H.Ql;have D:=H.bn;have E:=H.len;have o:=H.low;have t:=H.fm;have d:=H.tn;have F:=H.Bj;have h:=H.Fk;have u:=H.Iq;have v:=H.Jq;have a:=H.Wx;have l:=H.Vx;clear H;refine fs Rr ej rfl (c j 5 _) rfl ?_;have p:[PV.flat (.string (S x))]=ua [x]:=rfl;unfold No Xa yh;simp(maxSteps:=999999) (disch:=first|assumption|omega) only[go_sem,simprocAttr,au,yO,nO,bc,Xe,c,e,g,d,h,a];simp only[p,Al,Ja,za,ya]
theorem VP{f}:∀(l)(n)(ps)(m),Mf f l n=.ok (ps,m)->ps.length=l.length
 |[],n,ps,m,h=>by cases h;rfl
 |x::l,n,ps,m,h=>by
  unfold Mf at h;split at h
  ·cases h
  ·split at h
   ·cases h
   ·rename_i a
    cases h;simp only[za,VP l _ _ _ a]
theorem UP{f}(b:∀s n p m,f s n=.ok (p,m)->n<=64->m<=64):∀(l)(n)(ps)(m),Mf f l n=.ok (ps,m)->n<=64->m<=64
 |[],n,ps,m,h,a=>by cases h;exact a
 |x::l,n,ps,m,h,a=>by
  unfold Mf at h;split at h
  ·cases h
  ·rename_i c
   split at h
   ·cases h
   ·rename_i d
    cases h;exact UP b l _ _ _ d (b _ _ _ _ c a)
def HP{rec}(c:∀f,rec=some f->∀s n p m,f s n=.ok (p,m)->n<=64->m<=64)(s)(n)(p)(m)(h:ik rec s n=.ok (p,m))(d:n<=64):m<=64:=by
 unfold ik at h;split at h
 ·cases h
 ·cases h
 split at h
 ·cases h
 split at h
 ·split at h
  ·cases h
  ·cases h;exact d
 split at h
 ·split at h
  ·cases h
  split at h
  ·cases h
  rename_i f;split at h
  ·rename_i a
   split at h
   ·cases h
   ·rename_i b
    cases h;exact UP (c f rfl) _ _ _ _ b a
  ·cases h
 ·cases h
theorem JF:∀(d)(s)(n)(p)(m),Lg d s n=.ok (p,m)->n<=64->m<=64
 |0=>HP fun f h=>by cases h
 |d+1=>HP fun f h=>by cases h;exact JF d
def Gd(k:Nat)(a:List PV)(ty s mk:ba)(ps:List LP)(out:List ba):Ha:=[(52,Xa),(52,yh k a ty ps),(29,[.ha out.length (ua out)]),(9,[.flat (.string (S s))]),(9,[.flat (.string (S mk))])]
def sg(n:Nat)(r:List (Nat×Nat))(k:Nat):List Loc:=if k=0 then .cell (n+2) 0::.cell (n+1) 3::.cell n 0::.cell n 3::cl r else .cell (n+1) 3::.cell (n+2) 0::.cell n 0::.cell n 3::cl r
def KR{f}{B}{n b}{r}(H:Db B n b RT lf r){g}(hdp:g<4)(l:Rec lib f (g+1))(N)(F)(I:∀n,La n F=true)(ty s mk){all}{k j D}{x}{p}{ps}(hkZ:k<all.length)(hcZ:all[k]?=some x)(T:all.drop k=x::all.drop (k+1))(M:x.length<=10000)(hal:all.length<=64)(t:ps.length=k)(G:j<=64)(y:f x j=.ok (p,D)):
 pa (fa code lib) ka Sj ⟨[(0,.ptr b 0),(2,.flat (.int .i64 (g:Nat))),(6,.ptr n 0),(10,.ptr (n+1) 0),(91,.ha all.length (ua all)),(92,.flat (.int .i64 (all.length:Nat))),(93,.flat (.int .i64 (k:Nat)))],sg n r k,[],B j++Gd N F ty s mk ps all⟩
  =some (.normal,⟨[(0,.ptr b 0),(2,.flat (.int .i64 (g:Nat))),(6,.ptr n 0),(10,.ptr (n+1) 0),(91,.ha all.length (ua all)),(92,.flat (.int .i64 (all.length:Nat))),(93,.flat (.int .i64 ((k+1:Nat):Nat)))],sg n r (k+1),[],B D++Gd N F ty s mk (ps++[p]) all⟩):=by
 have hbv:Da=4294967296:=rfl;have C:Cc (n+5) (Gd N F ty s mk ps all)=true:=by
  have W:=I (n+5);have Y:=yf (n:=n+5) all;have Z:=dd (n:=n+5) ps;simp only[Gd,Xa,yh,Cc,La,PV.low,W,Y,Z,tf]
 have o:=fun r' hr=>H.app (m:=n+5) _ rfl C r' hr
 have d:∀a c,a<5->∀q:Nat×Nat,q=(n+a,c)->q∈r\/(n<=q.1/\q.1<n+5):=fun a c h q e=>by rw[e];right;dsimp only;omega
 have c1:=l _ (n+5) b ((n+2,0)::(n,0)::(n,3)::r) (o _ fun q v=>by
  simp only[Wb]at v;rcases v with h|h|h|h
  ·exact d 2 _ aa _ h
  ·exact d 0 _ aa _ h
  ·exact d 0 _ aa _ h
  ·exact .inl h) x j p D M G y
 have c2:=l _ (n+5) b ((n+2,0)::(n+1,3)::(n,0)::(n,3)::r) (o _ fun q v=>by
  simp only[Wb]at v;rcases v with h|h|h|h|h
  ·exact d 2 _ aa _ h
  ·exact d 1 _ aa _ h
  ·exact d 0 _ aa _ h
  ·exact d 0 _ aa _ h
  ·exact .inl h) x j p D M G y
 have c3:=l _ (n+5) b ((n+1,3)::(n+2,0)::(n,0)::(n,3)::r) (o _ fun q v=>by
  simp only[Wb]at v;rcases v with h|h|h|h|h
  ·exact d 1 _ aa _ h
  ·exact d 2 _ aa _ h
  ·exact d 0 _ aa _ h
  ·exact d 0 _ aa _ h
  ·exact .inl h) x j p D M G y
 have hsc:(ua all).drop k=.flat (.string (S x))::(ua all).drop (k+1):=by simp only[ua,<-Yi,T,kc]
 have hr1:=H.Ym;have hr2:=H.Xm;have hr3:=H.aj;have hr4:=H.Pl;have hr5:=H.Zm;have hr6:=H.an;have hr7:=H.rh;have hr8:=H.Ql;have hr9:=H.bn;have hrl:=H.len;have X:=H.low;have hd0:=H.fm;have hd1:=H.tn;have hu0:=H.Bj;have hu1:=H.Fk;have hl0:=H.Iq;have hl1:=H.Jq;have V:=H.Wx;have U:=H.Vx;have hlb:=H.Xp;have hbn:=H.lt;have R:∀i,decide (b<n+i)=true:=fun i=>decide_eq_true aa
 have J:(Tc ps).length=k* 4:=by rw[sv,t]
 have K:=dz ps;have L:=fun n=>dd (n:=n) ps
 have w:=GF ps [p];obtain⟨Q,P,O,E⟩:=p;have hl2:=fun n=>cd (n:=n) Q
 have hl3:=fun n=>dd (n:=n) E
 simp only[Tc,LP.cells,Ye]at w;simp only[LP.cells]at c1 c2 c3;have u:(ps++[LP.mk Q P O E]).length=k+1:=by rw[Ja,t];rfl
 simp only[Gd,Xa,yh,t,u,cj,Wi,Xi]at c1 c2 c3⊢;clear l T d o H C;rw[<-w];by_cases A:k=0
 ·subst A
  obtain rfl:ps=[]:=qz t;have z:¬(0+1=0):=aa
  simp only[Tc,Gb]at c1 c2 c3⊢;simp only[sg,if_true,z,if_false];clear w J K L u;exact Cn Dz @yu @Bu @zu @Au @bc @yf @Od
 ·have z:¬(k+1=0):=aa
  simp only[sg,A,z,if_false];have W:(0<k):=aa
  exact Cn Dz @yu @Bu @zu @Au @bc @yf @Od
def A8{f}(P:∀s n p m,f s n=.ok (p,m)->n<=64->m<=64){B}{n b}{r}(H:Db B n b RT lf r){d}(I:d<4)(l:Rec lib f (d+1))(t)(g)(D:∀n,La n g=true)(ty s mk){all}(S:∀x∈all,x.length<=10000)(G:all.length<=64){j m}{ps}(Q:j<=64)(h:Mf f all j=.ok (ps,m)):
 Fc (pa (fa code lib) ka Sj) [0,2,6,10,91,92,93] (n+5) ka ⟨[(0,.ptr b 0),(2,.flat (.int .i64 (d:Nat))),(6,.ptr n 0),(10,.ptr (n+1) 0),(91,.ha all.length (ua all)),(92,.flat (.int .i64 (all.length:Nat))),(93,.flat (.int .i64 0))],sg n r 0,[],B j++Gd t g ty s mk [] all⟩
  =some (.exit 2,⟨[(6,.ptr n 0),(10,.ptr (n+1) 0)],sg n r all.length,[],B m++Gd t g ty s mk ps all⟩):=by
 have w:∀(j:Nat)(ps:List LP),Cc (n+5) (B j++Gd t g ty s mk ps all)=true:=by
  intro j ps;have c:=D (n+5);have e:=yf (n:=n+5) all;have o:=dd (n:=n+5) ps;rw[H.Xp];simp only[Gd,Xa,yh,Cc,La,PV.low,c,e,o,tf]
 have i:=wh (body:=pa (fa code lib) ka Sj) (live:=[0,2,6,10,91,92,93]) (nb:=n+5) (fun q:Nat×Nat×List LP=>(⟨[(0,.ptr b 0),(2,.flat (.int .i64 (d:Nat))),(6,.ptr n 0),(10,.ptr (n+1) 0),(91,.ha all.length (ua all)),(92,.flat (.int .i64 (all.length:Nat))),(93,.flat (.int .i64 (q.1:Nat)))],sg n r q.1,[],B q.2.1++Gd t g ty s mk q.2.2 all⟩:St))
  (fun q=>q.1<=all.length/\q.2.1<=64/\q.2.2.length=q.1/\∃qs,Mf f (all.drop q.1) q.2.1=.ok (qs,m)/\q.2.2++qs=ps) (fun q=>all.length - q.1)
  (fun q=>(.exit 2,⟨[(6,.ptr n 0),(10,.ptr (n+1) 0)],sg n r all.length,[],B m++Gd t g ty s mk ps all⟩)) (fun q R=>?_) (n:=ka) (a:=(0,j,[])) ⟨Za _,Q,rfl,ps,h,rfl⟩ (by unfold ka;dsimp only;omega)
 ·simp only[n0]at i
  exact i
 ·obtain⟨k,j,qs⟩:=q
  obtain⟨T,J,K,rs,o,F⟩:=R;dsimp only at T J K o F⊢;by_cases C:k<all.length
  ·right
   have O:=qe C;have M:=ld C;rw[M]at o;unfold Mf at o;split at o
   ·cases o
   ·rename_i p E A
    split at o
    ·cases o
    ·rename_i L U N
     cases o;refine⟨_,(k+1,E,qs++[p]),KR H I l t g D ty s mk C O M (S _ (Qm C)) G K J A,?_,⟨C,P _ _ _ _ A J,by dsimp only;rw[Ja,K];rfl,L,N,by rw[sf];exact F⟩,Fg,rfl⟩;have c:(B E++Gd t g ty s mk (qs++[p]) all).length=n+5:=by rw[H.rh];rfl
     have e:=w E (qs++[p]);have u:=H.Iq;have v:=H.Jq;have y:=H.Bj;have z:=H.Fk;simp only[sg,Nat.succ_ne_zero,if_false];clear H l w N;generalize B E++Gd t g ty s mk (qs++[p]) all=X at*;simp(maxSteps:=999999) (disch:=first|assumption|omega) only[go_sem,simprocAttr,au,c,Mc c,u,v,y,z,e]
  ·left
   obtain rfl:k=all.length:=aa
   rw[Kp]at o;cases o;simp only[Ye]at F;subst F;refine⟨_,_,?_,da,rfl⟩;have c:(B j++Gd t g ty s mk qs all).length=n+5:=by rw[H.rh];rfl
   have e:=w j qs;have u:=H.Iq;have v:=H.Jq;have y:=H.Bj;have z:=H.Fk;clear H l w;generalize B j++Gd t g ty s mk qs all=X at*;unfold sg;split
   ·simp(maxSteps:=999999) (disch:=first|assumption|omega) only[go_sem,simprocAttr,au,Dz,c,Mc c,u,v,y,z,e,yf]
   ·simp(maxSteps:=999999) (disch:=first|assumption|omega) only[go_sem,simprocAttr,au,Dz,c,Mc c,u,v,y,z,e,yf]
theorem WJ(rest line)(k)(g:rest.length<=k):∀(n)(q)(out),hc (De rest line) none n q=some out->(∀x∈q.1,x.length<=k)->∀x∈out,x.length<=k
 |0,q,out,h,e=>by cases h
 |n+1,q,out,h,e=>by
  have d:∀a b:Nat,((rest.take a).drop b).length<=k:=fun a b=>by simp only[Ya,Ac];omega
  rw[hc]at h;split at h
  ·rename_i i hs
   refine WJ rest line k g n i out h ?_;unfold De at hs;split at hs
   ·cases hs
   ·dsimp only at hs
    split at hs
    ·split at hs<;>cases hs
    ·split at hs
     ·cases hs
      intro x c;rcases wg.1 c with c|c
      ·exact e x c
      ·simp at c;subst c;exact d _ _
     ·cases hs;exact e
  ·rename_i r' hs
   subst h;unfold De at hs;split at hs
   ·cases hs
   ·dsimp only at hs
    split at hs
    ·split at hs
     ·cases hs
      intro x c;rcases wg.1 c with c|c
      ·exact e x c
      ·simp at c;subst c;exact d _ _
     ·cases hs
    ·split at hs<;>cases hs
def jC{s mk}{all}(h:Ei s mk=some all)(hs:s.length<=10000):∀x∈all,x.length<=10000:=by
 unfold Ei at h;split at h
 ·rename_i a
  have a:=xk a;simp only[Ja,za,ya]at a;refine WJ _ _ 10000 ?_ _ _ _ h da;simp only[Ya,Ja,za,ya];omega
 ·cases h
theorem YF:∀(l)(m),(∀f∈l,f.2.length<=1000000)->m.length<=1000000->(jk l m).length<=1000000
 |[],m,_,h=>h
 |(a,b)::l,m,h,d=>by
  rw[jk];refine YF l _ (fun f c=>h f (by simp[c])) ?_;split
  ·exact h (a,b) da
  ·exact d
def Bt(t:List (FuncId×Callee)):Callee:=fun f=>match t.lookup f with
 |some c=>c f
 |none=>fun _ _ _=>none
def DT{t}{f}{c}(h:t.lookup f=some c):Bt t f=c f:=by grind [Bt]
def ET{P}{Γ}{t}(h:∀p∈t,dc P Γ p.2):dc P Γ (Bt t):=fun f args bx oc b os bx' oc' a=>by
 unfold Bt at a;cases d:t.lookup f with
 |some c=>rw[d]at a;exact h _ (QF d) f args bx oc b os bx' oc' a
 |none=>grind
structure Pc where
 pre:List Value
 row:Option (List Value × Nat × Nat × TypeId)
 ex:List Value
def Pc.vs(R:Pc)(v:Value):List Value:=match R.row with
 |none=>R.pre++R.ex
 |some _=>R.pre++v::R.ex
def Pc.Pg(R:Pc):List PV:=match R.row with
 |none=>(R.pre++R.ex).map .flat
 |some (c,n,_,_)=>R.pre.map .flat++.ha n (c.map .flat)::R.ex.map .flat
def xA:List Value->Value
 |[v]=>v
 |l=>.tuple l.toArray
def Ef(P:Program)(Γ:Ze)(f:FuncId)(spec:List Value->Option Pc):Prop:=ij P f=true/\∀vs R,spec vs=some R->((∀v∈R.pre++R.ex,Ab v=true)/\∀c n z ty,R.row=some (c,n,z,ty)->∀v∈c,Ab v=true/\v.oneCell'=true)/\
 ∀w,Γ.G w->Calls P f vs.toArray w fun e w'=>∃v,e=.returned (xA (R.vs v))/\(∀c n z ty,R.row=some (c,n,z,ty)->w'.ownsRow w.heap.size ty z v n c)/\Below w.heap.size w w'
def qf(k:FuncId)(spec:List Value->Option Pc):wa.Callee:=fun f args bx oc=>match bx,oc with
 |[],[]=>if f=k then((fp args).bind spec).map fun R=>(R.Pg,false,[],[])else none
 |_,_=>none
def mh{k}{spec}{args}{vs}{R}(a:fp args=some vs)(b:spec vs=some R):qf k spec k args [] []=some (R.Pg,false,[],[]):=by
 grind [qf]
theorem Uz{w}{Fr}{β}:∀{l},(∀v∈l,Ab v=true)->sa w Fr β (l.map .flat) l
 |[],_=>by rfl
 |v::l,h=>by
  simp only[kc,sa];exact⟨v,l,rfl,by grind [Rd],Uz fun x a=>h x (po _ a)⟩
theorem mS{w}{Fr}{β}:∀{a b}{u v},sa w Fr β a u->sa w Fr β b v->sa w Fr β (a++b) (u++v)
 |[],b,u,v,h,k=>by grind [sa]
 |p::a,b,u,v,h,k=>by
  simp only[sa]at h;obtain⟨x,r,rfl,c,d⟩:=h;simp only[ub,sa];exact⟨x,_,rfl,c,mS d k⟩
def lS{w}{Fr}{β}{ps}{vs}(h:sa w Fr β ps vs):Rd w Fr β (Nc ps) (xA vs):=by
 match ps,h with
 |[],h=>
  grind [sa,Nc,xA,Rd]
 |[p],h=>
  simp only[sa]at h;obtain⟨x,r,rfl,a,rfl⟩:=h;exact a
 |p::q::l,h=>
  have b:=h;simp only[sa]at h;obtain⟨x,r,rfl,a,y,r',rfl,c⟩:=h;show Rd w Fr β (.Mb (p::q::l)) (.tuple (x::y::r').toArray)
  grind [Rd]
def vg{P}{Γ}{k}{spec}(U:k≠hb)(h:Ef P Γ k spec):dc P Γ (qf k spec):=by
 intro f args bx oc W os bx' oc' i;unfold qf at i;split at i
 case h_2=>cases i
 split at i
 case isFalse=>cases i
 rename_i Q;subst Q;obtain⟨R,O,i⟩:=qm i;cases i;obtain⟨us,C,B⟩:=qb O;obtain⟨K,M⟩:=h;obtain⟨⟨t,p⟩,N⟩:=M us R B;intro w Fr β vs r;refine enters_of K U ?_;obtain rfl:=ky C r.args;refine(N w r.g).mono ?_;rintro e w' ⟨v,rfl,a,E⟩;cases b:R.row with
 |none=>
  obtain⟨Rl,y⟩:=r.rel.grow E (Fr':=Fr) fun _ _=>rfl
  refine⟨_,Fr,β,rfl,lS ?_,Rl,y,(fun L h=>by cases h),fun h=>by cases h⟩;unfold Pc.Pg Pc.vs;rw[b];exact Uz t
 |some q=>
  obtain⟨c,n,z,ty⟩:=q;have a:=a c n z ty b;have p:=p c n z ty b;obtain⟨Fr',d⟩:∃F:Nat->Nat,F=fun g=>if v.ownBlock=some g then c.length else Fr g:=⟨_,rfl⟩
  have o:∀g,g<w.heap.size->Fr' g=Fr g:=fun g S=>by
   rw[d];dsimp only;rw[if_neg];intro e;have:=(a.lt g e).1;omega
  obtain⟨Rl,y⟩:=r.rel.grow E (Fr':=Fr') o;have V:Rd w' Fr' β (.ha n (c.map .flat)) v:=by
   simp only[Rd];have I:=a.1;rcases a.2 with⟨rfl,X⟩|⟨g,l,J,rfl,S,G,A,_⟩
   ·simp_all
   ·refine⟨some ⟨g,0,none⟩,l,rfl,A,.inr ⟨g,0,c,rfl,fun j u H=>?_,Uz fun x D=>(p x D).1,fun x D=>(p x D).2⟩⟩
    have T:=(qg H).1;refine⟨?_,?_⟩
    ·rw[d];dsimp only
     rw[if_pos (show(Value.slice (some ⟨g,0,none⟩) n l).ownBlock=some g from rfl)];omega
    ·rw[sc,a.cellAt j aa,H]
  refine⟨_,Fr',β,rfl,lS ?_,Rl,y,(fun L h=>by cases h),fun h=>by cases h⟩
  grind [Pc.Pg,Pc.vs,mS,Uz,sa]
end wa
section
set_option synthInstance.maxSize 4000
namespace wa
def uA(p)(s:ByteArray)(k)(h):(s.data.toList.take (k+1)).all p=((s.data.toList.take k).all p&&p s[k]):=by
 have a:=h;rw[Km a,List.all_append];simp;rfl
def Vw(p)(s:ByteArray)(k)(h:k<s.size)(a:p s[k]=false):s.data.toList.all p=false:=by
 rw[List.all_eq_false]
 exact⟨s[k],by have:s.data.toList[k]'h=s[k]:=rfl
               grind,by simp[a]⟩
def Ww(p)(s:ByteArray):(s.data.toList.take s.size).all p=s.data.toList.all p:=by
 rw[Rf da]
end wa
namespace Go.Proofs.YtglaihdcndcmkaaGreatDoor
def zaq(s:ByteArray)(w:World)(hs:s.size<=maxLen):Calls Tryz.prog 136 #[.string s] w (Rb (.bool (s.data.toList.all eg)) w):=by
 unfold maxLen at hs;obtain⟨V,j⟩:∃V,s.data.toList.all eg=V:=⟨_,rfl⟩;rw[j];have l:=Lib.hid j;clear j
 go_enter Tryz.func136,Tryz.ntmps136
 go_wp2
 go_loop [3,4,7] (fun _ _ i=>∃k:Nat,k<=s.size/\i=.int .i64 k/\Hid ((s.data.toList.take k).all eg=true)) (fun _ _ i=>s.size - (intOf i).toNat)
 case atStart=>exact⟨0,Za _,rfl,Lib.hid rfl⟩
 case round=>
  obtain⟨k,o,rfl,a⟩:=hrel;by_cases ea:k<s.size
  ·have e:=uA eg s k ea
   have b:=Vw eg s k ea;rw[l.out]at b;generalize n:s[k]=c at*;have h:=Lib.hid e;have g:=Lib.hid b;clear e b;go_wp2
   all_goals (try (go_ret;exact⟨r1 (vb (g.out (by(clear n h g a);(go_light;revert c;decide+kernel))).symm),rfl⟩))
   all_goals
    have d:eg c=true:=by(clear n h g a);(go_light;revert c;decide+kernel)
    go_round
    case rel=>exact⟨k+1,aa,by go_num,Lib.hid (by rw[h.out,a.out,d];rfl)⟩
    case measure=>simp[intOf];omega
  ·obtain rfl:k=s.size:=aa
   have b:=a.out;rw[Ww,l.out]at b;subst b;go_wp2;go_ret;exact⟨rfl,rfl⟩
def F_(s:ByteArray)(w:World)(hs:s.size<=maxLen):Calls Tryz.prog 167 #[.string s] w (Rb (.bool (s.data.toList.all eg)) w):=by
 unfold maxLen at hs;obtain⟨V,j⟩:∃V,s.data.toList.all eg=V:=⟨_,rfl⟩;rw[j];have l:=Lib.hid j;clear j
 go_enter Tryz.func167,Tryz.ntmps167
 go_wp2
 go_loop [3] (fun i=>∃k:Nat,k<=s.size/\i=.int .i64 k/\Hid ((s.data.toList.take k).all eg=true)) (fun i=>s.size - (intOf i).toNat)
 case atStart=>exact⟨0,Za _,rfl,Lib.hid rfl⟩
 case round=>
  obtain⟨k,o,rfl,a⟩:=hrel;by_cases ea:k<s.size
  ·have e:=uA eg s k ea
   have b:=Vw eg s k ea;rw[l.out]at b;generalize n:s[k]=c at*;have h:=Lib.hid e;have g:=Lib.hid b;clear e b;go_wp2
   all_goals (try (go_ret;exact⟨r1 (vb (g.out (by(clear n h g a);(go_light;revert c;decide+kernel))).symm),rfl⟩))
   all_goals
    have d:eg c=true:=by(clear n h g a);(go_light;revert c;decide+kernel)
    go_round
    case rel=>exact⟨k+1,aa,by go_num,Lib.hid (by rw[h.out,a.out,d];rfl)⟩
    case measure=>simp[intOf];omega
  ·obtain rfl:k=s.size:=aa
   have b:=a.out;rw[Ww,l.out]at b;subst b;go_wp2;go_ret;exact⟨rfl,rfl⟩
def GQ(s)(w)(hs:s.size<=maxLen):Calls Tryz.prog 137 #[.string s] w (Rb (.bool (Ue s.data.toList)) w):=by
 unfold maxLen at hs;obtain⟨V,l⟩:∃V,Ue s.data.toList=V:=⟨_,rfl⟩;rw[l];have b:s.data.toList.all lk=false->V=false:=by intro h;rw[<-l,Ue,h,fg]
 have e:s.data.toList.all lk=true->V=(!s.data.toList.isEmpty&&decide (s.data.toList.length<=32)):=by intro h;rw[<-l,Ue,h,Ej]
 have r:=Lib.hid b;have q:=Lib.hid e;clear l b e
 go_enter Tryz.func137,Tryz.ntmps137
 go_wp2
 go_loop [3,4,7] (fun _ _ i=>∃k:Nat,k<=s.size/\i=.int .i64 k/\Hid ((s.data.toList.take k).all lk=true)) (fun _ _ i=>s.size - (intOf i).toNat)
 case atStart=>grind
 case round=>
  obtain⟨k,t,rfl,a⟩:=hrel;by_cases ea:k<s.size
  ·have j:=uA lk s k ea
   have d:=fun h=>r.out (Vw lk s k ea h)
   generalize p:s[k]=c at*;have o:=Lib.hid j;have n:=Lib.hid d;clear j d;go_wp2
   all_goals (try (go_ret;exact⟨r1 (vb (n.out (by(clear p o n a);(go_light;revert c;decide+kernel))).symm),rfl⟩))
   all_goals
    have g:lk c=true:=by(clear p o n a);(go_light;revert c;decide+kernel)
    go_round
    case rel=>exact⟨k+1,aa,by go_num,Lib.hid (by rw[o.out,a.out,g];rfl)⟩
    case measure=>simp[intOf];omega
  ·obtain rfl:k=s.size:=aa
   have d:=a.out;rw[Ww]at d;have g:=q.out d;have j:=Lib.hid g;clear d g;go_wp2
   all_goals go_ret
   all_goals refine⟨r1 (vb ?_),rfl⟩
   all_goals (rw[j.out,<-ByteArray.toList_eq])
   ·rename_i h _;rw[h];rfl
   ·rw[ByteArray.toList_eq,show s.data.toList.length=s.size from rfl]
    congr 1;rw[decide_eq_decide];omega
def FQ(s)(w)(hs:s.size<=maxLen):Calls Tryz.prog 53 #[.string s] w (Rb (.bool (Ue s.data.toList)) w):=by
 unfold maxLen at hs;obtain⟨V,g⟩:∃V,Ue s.data.toList=V:=⟨_,rfl⟩;rw[g];by_cases d:s.size<1\/32<s.size
 ·have a:V=false:=by
   rw[<-g,Ue];rcases d with h|h
   ·simp_all
   ·rw[show s.data.toList.length=s.size from rfl,show decide (s.size<=32)=false by grind];simp
  subst a;clear g;by_cases b:s.size<1
  ·have p:(s.size:Int)<1:=aa
   clear d
   go_enter Tryz.func53,Tryz.ntmps53
   go_wp2;go_ret;exact⟨rfl,rfl⟩
  ·have q:(32:Int)<s.size:=aa
   clear d
   go_enter Tryz.func53,Tryz.ntmps53
   go_wp2;go_ret;exact⟨rfl,rfl⟩
 ·have j:V=s.data.toList.all lk:=by
   rw[<-g,Ue,show s.data.toList.length=s.size from rfl,show decide (s.size<=32)=true by grind];have:s.data.toList.isEmpty=false:=by
    rcases h:s.data.toList with _|⟨c,r⟩
    ·have:s.size=0:=congrArg List.length h
     omega
    ·rfl
   rw[this];simp
  have t:=Lib.hid j.symm;clear g j;have p:¬(s.size:Int)<1:=aa
  have q:¬(32:Int)<s.size:=aa
  go_enter Tryz.func53,Tryz.ntmps53
  go_wp2
  go_loop [3,4] (fun i _=>∃k:Nat,k<=s.size/\i=.int .i64 k/\Hid ((s.data.toList.take k).all lk=true)) (fun i _=>s.size - (intOf i).toNat)
  case atStart=>grind [Lib.hid]
  case round=>
   obtain⟨k,v,rfl,a⟩:=hrel;by_cases ea:k<s.size
   ·have l:=uA lk s k ea
    have b:=Vw lk s k ea;rw[t.out]at b;generalize u:s[k]=c at*;have o:=Lib.hid l;have n:=Lib.hid b;clear l b;go_wp2
    all_goals (try (go_ret;exact⟨r1 (vb (n.out (by(clear u o n a);(go_light;revert c;decide+kernel))).symm),rfl⟩))
    all_goals
     have e:lk c=true:=by(clear u o n a);(go_light;revert c;decide+kernel)
     go_round
     case rel=>exact⟨k+1,aa,by go_num,Lib.hid (by rw[o.out,a.out,e];rfl)⟩
     case measure=>simp[intOf];omega
   ·obtain rfl:k=s.size:=aa
    have b:=a.out;rw[Ww,t.out]at b;subst b;go_wp2;go_ret;exact⟨rfl,rfl⟩
def T0(l)(c):xa (l++[c])=xa l++[Wk c]:=by simp[xa]
def zcE(s:ByteArray)(k)(h):s.data.toList.take (k+1)=s.data.toList.take k++[s[k]]:=by
 rw[Km ie];rfl
def fO(s)(w)(hs:s.size<=1000000):Calls Tryz.prog 103 #[.string s] w (ud (.string ⟨(xa s.data.toList).toArray⟩) w):=by
 have o:s.data.toList.length=s.size:=rfl;have I:=Lib.hid o;clear o
 go_enter Tryz.func103,Tryz.ntmps103
 go_wp2
 go_loopw [3,4,5] (fun v i _ wr=>∃(k:Nat)(b:List UInt8),k<=s.size/\i=.int .i64 k/\b.length=k/\xe w.heap.size 5 v b wr/\Below w.heap.size w wr/\Hid (b=xa (s.data.toList.take k)))
  (fun _ i _ _=>s.size - (intOf i).toNat)
 case atStart=>exact⟨0,[],Za _,rfl,rfl,xe.made w (la _) _ _ rfl ga,(Below.refl _ _).alloc (la _) _,Lib.hid rfl⟩
 case round=>
  obtain⟨k,b,J,rfl,t,j,a,n⟩:=hrel;by_cases ea:k<s.size
  ·have q:xa (s.data.toList.take (k+1))=b++[Wk s[k]]:=by rw[zcE s k ea,T0,n.out]
   generalize F:s[k]=c at*;obtain⟨d,r⟩:∃d,Wk c=d:=⟨_,rfl⟩;rw[r]at q;have y:=Lib.hid q;have C:b.length<=1000000:=aa
   have x:=Lib.hid t;clear t q;by_cases l:65<=c/\c<=90
   ·have D:(65:Int)<=c.toNat:=by have:=Hp.1 l.1;exact Kk.2 this
    have E:(c.toNat:Int)<=90:=by have:=Hp.1 l.2;exact Kk.2 this
    have B:(c.toNat:Int)+32=d.toNat:=by rw[<-r];clear r F y x n j a;revert c;decide+kernel
    clear r l
    go_wp2_with(at_builtin;refine ih ja _ _ _ ja 5 Tryz.underlying99 infoByte w.heap.size wr _ _ ja j d ja aa a.size ?_;intro g z H G e A p u)
    go_roundw
    case rel=>exact⟨k+1,b++[d],aa,by go_num,by grind [Hid.out],e,a.trans p,Lib.hid y.out.symm⟩
    grind [intOf]
   ·have D:¬((65:Int)<=c.toNat/\(c.toNat:Int)<=90):=by
     intro h;apply l;exact⟨Hp.2 (Kk.1 h.1),Hp.2 (Kk.1 h.2)⟩
    have B:d=c:=by rw[<-r,Wk];rw[if_neg];simpa using l
    subst B;clear r l;by_cases E:(65:Int)<=d.toNat
    all_goals
     go_wp2_with(at_builtin;refine ih ja _ _ _ ja 5 Tryz.underlying99 infoByte w.heap.size wr _ _ ja j d ja aa a.size ?_;intro g z H G e A p u)
     go_roundw
     case rel=>exact⟨k+1,b++[d],aa,by go_num,by grind [Hid.out],e,a.trans p,Lib.hid y.out.symm⟩
     case measure=>simp[intOf];omega
  ·obtain rfl:k=s.size:=aa
   have e:b=xa s.data.toList:=by rw[n.out,Rf da]
   have l:=Lib.hid e;clear e;have p:=sn (P:=Tryz.prog) Tryz.underlying99 Tryz.underlying5 Tryz.underlying9 j;go_wp2;go_ret;exact⟨r1 (by rw[l.out];rfl),a⟩
end Go.Proofs.YtglaihdcndcmkaaGreatDoor
end
namespace wa
def Il(g:Nat)(l:List UInt8)(w:World):Prop:=g<w.heap.size/\∀(j:Nat)(c:UInt8),l[j]?=some c->w.cell? ⟨g,j,none⟩=some (.int .u8 c.toNat)/\w.frozen? ⟨g,j,none⟩=false
def YV{P}(w)(g dst e)(s)(hs:P.underlying g=some .string)(o:P.underlying dst=some (.slice e))(p:P.underlying e=some (.int .u8)):
 ∃a l,(convert g dst (.string s)).run P w=.ok (.slice (some ⟨w.heap.size,0,none⟩) s.size a) l/\s.size<=a/\Il w.heap.size s.data.toList l/\Below w.heap.size w l:=by
 obtain⟨a,b⟩:∃a,grownCap w s.size 0 e=a:=⟨_,rfl⟩;have h:s.size<=a:=by rw[<-b];exact grownCap_ge _ _ _ _
 refine⟨a,_,by rw[run_bytes_of_string w g dst e s hs o p,b],h,⟨da,fun j c n=>?_⟩,?_⟩
 ·have i:j<s.size:=(qg n).1
  have d:(w.drew.alloc (.cells (bytesRow s a) e ((bytesRow s a).size,(bytesRow s a).size+1))).heap[w.heap.size]?=some (.cells (bytesRow s a) e ((bytesRow s a).size,(bytesRow s a).size+1)):=heap_alloc_new w.drew _;have k:(bytesRow s a).size=a:=by
   unfold bytesRow;rw[Array.size_append,Array.size_map,Array.size_replicate,show s.data.size=s.size from rfl];omega
  refine⟨?_,?_⟩
  ·rw[cell_of_row _ _ _ _ _ _ d]
   unfold bytesRow;rw[Array.getElem?_append_left (by rw[Array.size_map];exact i),Array.getElem?_map];have:s.data[j]?=some c:=by rw[<-IA];exact n
   rw[this];rfl
  ·unfold World.frozen?
   simp only[d];rw[k];simp;omega
 ·exact(Kr w 1).alloc (la _) _
def Il.kept{g}{l}{w w'}(h:Il g l w)(k:Below w.heap.size w w'):Il g l w':=
 ⟨Qf h.1 k.size,fun j c a=>⟨(k.cell (p:=⟨g,j,none⟩) h.1).trans (h.2 j c a).1,(k.frozen (p:=⟨g,j,none⟩) h.1).trans (h.2 j c a).2⟩⟩
theorem Il.put{g}{l}{w}(h:Il g l w)(k)(e:k<l.length)(d):Il g (l.set k d) (w.setCell ⟨g,k,none⟩ (.int .u8 d.toNat)):=by
 have o:=(h.2 k _ (qe e)).1;refine⟨by have:=h.1;simpa using this,fun j c b=>?_⟩;by_cases a:j=k
 ·subst a
  rw[yg e]at b;cases b;exact⟨World.cell?_setCell_same _ _ _ o,by rw[World.frozen?_setCell];exact(h.2 _ _ (qe e)).2⟩
 ·rw[HA aa]at b
  obtain⟨i,n⟩:=h.2 j c b;exact⟨by rw[World.cell?_setCell_other _ _ _ _ (by simp[yi a])];exact i,by rw[World.frozen?_setCell];exact n⟩
def Il.back{P}{a dst e}(hs:P.underlying a=some (.slice e))(d:P.underlying e=some (.int .u8))(c:P.underlying dst=some .string){g}{l}{w}(h:Il g l w)(b):
 (convert a dst (.slice (some ⟨g,0,none⟩) l.length b)).run P w=.ok (.string ⟨l.toArray⟩) w:=
 run_convert_bytes_back w a dst e ⟨g,0,none⟩ b l hs d c fun j i=>by
  have:(⟨g,0,none⟩:Addr).add j=⟨g,j,none⟩:=by unfold Addr.add;split<;>simp_all
  rw[this];exact(h.2 j _ (qe i)).1
end wa
section
set_option synthInstance.maxSize 4000
namespace Go.Proofs.YtglaihdcndcmkaaGreatDoor
def U0(s:List UInt8)(k)(h):xa (s.take (k+1))++s.drop (k+1)=(xa (s.take k)++s.drop k).set k (Wk s[k]):=by
 have e:(xa (s.take k)).length=k:=by simp[xa];omega
 rw[List.take_succ_eq_append_getElem h,List.set_append_right _ _ (by omega),e,Nat.sub_self,List.drop_eq_getElem_cons h,List.set_cons_zero];unfold xa;rw[List.map_append,List.append_assoc];rfl
def dO(s)(w:World)(hs:s.size<=1000000):Calls Tryz.prog 79 #[.string s] w (ud (.string ⟨(xa s.data.toList).toArray⟩) w):=by
 have o:s.data.toList.length=s.size:=rfl;have T:=Lib.hid o;clear o;obtain⟨G,S,e,Q,q,b⟩:=YV (P:=Tryz.prog) w 9 99 5 s Tryz.underlying9 Tryz.underlying99 Tryz.underlying5;obtain⟨B,H⟩:∃B,w.heap.size=B:=⟨_,rfl⟩;rw[H]at e q b;have K:=Lib.hid H;clear H;have E:=Lib.hid q;clear q;have I:Below w.heap.size w S:=by rw[K.out];exact b
 go_enter Tryz.func79,Tryz.ntmps79
 go_wp2
 go_loopw [4,5,10] (fun _ _ i wr=>∃(k:Nat)(l:List UInt8),k<=s.size/\i=.int .i64 k/\l.length=s.size/\Il B l wr/\Below B w wr/\Hid (l=xa (s.data.toList.take k)++s.data.toList.drop k))
  (fun _ _ i _=>s.size - (intOf i).toNat)
 case atStart=>exact⟨0,s.data.toList,Za _,rfl,rfl,E.out,b,Lib.hid rfl⟩
 case round=>
  obtain⟨k,l,U,rfl,u,A,p,C⟩:=hrel;by_cases ea:k<s.size
  ·have n:=U0 s.data.toList k ea
   rw[<-C.out]at n;have g:l[k]?=some s[k]:=by
    rw[C.out,He (by grind [xa])];simp[xa];rw[show min k s.size=k by omega];simp;exact Dw ea
   have t:k<l.length:=aa
   have y:s.data.toList[k]'ea=s[k]:=rfl;rw[y]at n;clear y;have x:l[k]'t=s[k]:=(qg g).2;generalize O:s[k]=c at*;obtain⟨d,v⟩:∃d,Wk c=d:=⟨_,rfl⟩;rw[v]at n;obtain⟨r,J⟩:=A.2 k c g;have M:=Lib.hid n;have F:=Lib.hid u;have L:=Lib.hid x;clear n g u x;by_cases a:65<=c/\c<=90
   ·have N:(65:Int)<=c.toNat:=by have:=Hp.1 a.1;exact Kk.2 this
    have R:(c.toNat:Int)<=90:=by have:=Hp.1 a.2;exact Kk.2 this
    have z:bits .or .u8 (c.toNat:Int) 32=d.toNat:=by rw[<-v];clear v O M F C A p r J L;revert c;decide+kernel
    have j:=A.put k t d;have D:=Lib.hid j;clear v a j;go_wp2;go_roundw
    case rel=>exact⟨k+1,l.set k d,aa,by go_num,by grind [Hid.out],D.out,p.setCell (la _) _,Lib.hid M.out.symm⟩
    grind [intOf]
   ·have N:¬((65:Int)<=c.toNat/\(c.toNat:Int)<=90):=by
     intro h;apply a;exact⟨Hp.2 (Kk.1 h.1),Hp.2 (Kk.1 h.2)⟩
    have z:d=c:=by rw[<-v,Wk];rw[if_neg];simpa using a
    have j:l.set k d=l:=by
     rw[z,<-L.out];exact List.set_getElem_self t
    have D:=Lib.hid j;subst z;clear v a j;by_cases R:(65:Int)<=d.toNat
    all_goals (try have z:(90:Int)<d.toNat:=by omega)
    all_goals clear N
    all_goals clear O e
    all_goals
     go_wp2
     grind [Hid.out,intOf]
  ·obtain rfl:k=s.size:=aa
   have a:l=xa s.data.toList:=by rw[C.out,Rf da,Ai da,Ye]
   have g:=Lib.hid a;clear a;have j:=A.back (P:=Tryz.prog) Tryz.underlying99 Tryz.underlying5 Tryz.underlying9 G;rw[u]at j;go_wp2;go_ret;exact⟨r1 (by rw[g.out];rfl),by rw[K.out];exact p⟩
def YN(l):(xa l).length=l.length:=by simp[xa]
def eO(s)(l)(h:xa s.data.toList=l)(w:World)(hs:s.size<=1000000):Calls Tryz.prog 79 #[.string s] w (ud (.string ⟨l.toArray⟩) w):=h▸dO s w hs
def ny(s)(l)(h:xa s.data.toList=l)(w:World)(hs:s.size<=1000000):Calls Tryz.prog 103 #[.string s] w (ud (.string ⟨l.toArray⟩) w):=h▸fO s w hs
def ZI(s t)(w)(hs:s.size<=1000000)(ht:t.size<=1000000):Calls Tryz.prog 140 #[.string s,.string t] w (ud (.bool (xa s.data.toList==xa t.data.toList)) w):=by
 have d:=YN s.data.toList;have g:=YN t.data.toList;obtain⟨x,l⟩:∃x,xa s.data.toList=x:=⟨_,rfl⟩;obtain⟨y,n⟩:∃y,xa t.data.toList=y:=⟨_,rfl⟩;rw[l]at d⊢;rw[n]at g⊢;have q:=Lib.hid l;have r:=Lib.hid n;clear l n;by_cases a:s.size=t.size
 ·obtain⟨b,i⟩:∃b,(x==y)=b:=⟨_,rfl⟩
  rw[i];have c:((⟨x.toArray⟩:ByteArray).toList==(⟨y.toArray⟩:ByteArray).toList)=b:=by rw[ByteArray.toList_eq,ByteArray.toList_eq];exact i
  have k:((s.size:Int)==(t.size:Int))=true:=by rw[a];simp
  clear a d g;have o:=Lib.hid i;have p:=Lib.hid c;clear i c
  go_enter Tryz.func140,Tryz.ntmps140
  go_wp2_with(go_at_call 79;first|((with_reducible refine(eO s x q.out _ hs).mono ?_);rintro e u ⟨rfl,j⟩)|((with_reducible refine(eO t y r.out _ ht).mono ?_);rintro e v ⟨rfl,c⟩))
  go_ret;exact⟨r1 (vb o.out),rx j c⟩
 ·have c:(x==y)=false:=by
   rw[beq_eq_false_iff_ne];intro h;have:=congrArg List.length h;rw[d,g]at this;exact a this
  rw[c];have k:((s.size:Int)==(t.size:Int))=false:=by rw[beq_eq_false_iff_ne];omega
  clear a d g c
  go_enter Tryz.func140,Tryz.ntmps140
  go_wp2;go_ret;exact⟨rfl,Below.refl _ _⟩
end Go.Proofs.YtglaihdcndcmkaaGreatDoor
namespace wa
def wA(l)(c):Xh (l++[c])=if Ia c then Xh l else l++[c]:=by
 grind [Xh,List.dropWhile_cons]
theorem dropWhile_nil(p):∀l:List UInt8,l.dropWhile p=[] ↔ l.all p=true
 |[]=>by simp
 |c::l=>by
  rw[MA,Mm,Vc];cases h:p c
  ·simp
  ·simpa using dropWhile_nil p l
theorem zdn(c)(l):Xh (c::l)=if l.all Ia&&Ia c then[]else c::Xh l:=by
 unfold Xh;rw[List.reverse_cons,List.dropWhile_append];have b:(l.reverse.dropWhile Ia).isEmpty=l.all Ia:=by
  rw[Gp,List.isEmpty_iff,dropWhile_nil,List.all_reverse]
 rw[b];cases h:l.all Ia
 ·simp
 ·have a:l.reverse.dropWhile Ia=[]:=(dropWhile_nil _ _).2 ia
  rw[a];cases d:Ia c<;>simp[d]
def zds(l):(Xh l).dropWhile Ia=Xh (l.dropWhile Ia):=by
 induction l<;>grind [zdn,List.dropWhile_cons,dropWhile_nil,Xh]
def TJ(c):([32,9]:List UInt8).contains c=Ia c:=by
 grind [Ia]
def zdr(l):Go.Lib.trimS l [32,9]=trimB l:=by
 unfold Go.Lib.trimS Go.Lib.trimLeftS Go.Lib.trimRightS trimB;simp only[TJ];exact zds l
def zdq(l):Go.Lib.trimLeftS l [32,9]=l.dropWhile Ia:=by
 unfold Go.Lib.trimLeftS;simp only[TJ]
theorem drop_one(t:ByteArray)(h):t.data.toList=t[0]::(t.extract 1 t.size).data.toList:=by
 have a:=h;have e:=ld a;rw[Af]at e;rw[Go.Lib.extract_data,Rf da];exact e
def tN(t:ByteArray)(h:0<t.size):t.data.toList=(t.extract 0 (t.size - 1)).data.toList++[t[t.size - 1]]:=by
 have a:t.size - 1<t.data.toList.length:=by show t.size - 1<t.size;omega
 have e:=Km a;rw[show t.size - 1+1=t.size by omega,Rf da]at e;rw[Go.Lib.extract_data,Af,qo];exact e
def Eg(s x:List UInt8)(k:Nat):Bool:=decide (k<=s.length)&&((s.drop k).take x.length==x)
end wa
namespace Go.Proofs.YtglaihdcndcmkaaGreatDoor
def zdt(s)(w:World)(hs:s.size<=1000000000):Calls Tryz.prog 138 #[.string s] w (ud (.string ⟨(trimB s.data.toList).toArray⟩) w):=by
 have h:=Any.strings_Trim_laid Tryz.R5 ca s ⟨#[32,9]⟩ w aa ga (ascii_of_all ga);rw[show(ByteArray.mk #[32,9]).data.toList=[32,9]from rfl,zdr]at h;have H:=Lib.hid h;clear h
 go_enter Tryz.func138,Tryz.ntmps138
 go_wp2_with(go_at_call 206;refine H.out.mono ?_;rintro e b ⟨rfl,a⟩)
 go_ret;exact⟨rfl,a⟩
def zdu(s)(w)(hs:s.size<=1000000000):Calls Tryz.prog 169 #[.string s] w (Rb (.string ⟨(trimB s.data.toList).toArray⟩) w):=by
 obtain⟨D,B⟩:∃D,s.data.toList.dropWhile Ia=D:=⟨_,rfl⟩;obtain⟨V,C⟩:∃V,Xh D=V:=⟨_,rfl⟩;have x:trimB s.data.toList=V:=by rw[trimB,B,C]
 rw[x];have M:=Lib.hid B;have H:=Lib.hid C;clear B C x
 go_enter Tryz.func169,Tryz.ntmps169
 go_wp2
 go_loop [0] (fun v=>∃t:ByteArray,v=.string t/\t.size<=1000000000/\Hid (t.data.toList.dropWhile Ia=D)) (fun v=>match v with| .string t=>t.size|_=>0)
 case atStart=>grind
 case round=>
  obtain⟨t,rfl,ht,i⟩:=hrel;have n:(∃h:0<t.size,Ia t[0]=true)\/((t.size=0\/∃h:0<t.size,Ia t[0]=false)/\t.data.toList=D):=by
   by_cases j:0<t.size
   ·grind [drop_one,Hid.out,List.dropWhile_cons]
   ·refine .inr ⟨.inl aa,?_⟩
    rw[<-i.out,qz (l:=t.data.toList) ie];rfl
  rcases n with⟨j,q⟩|⟨E,g⟩
  ·have a:=drop_one t j
   have b:(t.extract 1 t.size).data.toList.dropWhile Ia=D:=by rw[<-i.out,a,MA,q];rfl
   have r:=Lib.hid b;have e:((t[0].toNat:Int)==32)=true\/((t[0].toNat:Int)==32)=false/\((t[0].toNat:Int)==9)=true:=by
    clear a b r;revert q;generalize t[0]=c;clear i;revert c;decide+kernel
   have y:(t.extract 1 t.size).size=t.size - 1:=by rw[Kj];omega
   clear a q b;rcases e with G|⟨G,L⟩
   all_goals
    go_wp2
    grind
  ·have p:=Lib.hid g
   clear g i;rcases E with I|⟨j,q⟩
   case inr=>
    have e:((t[0].toNat:Int)==32)=false/\((t[0].toNat:Int)==9)=false:=by
     clear p;revert q;generalize t[0]=c;revert c;decide+kernel
    obtain⟨G,L⟩:=e;clear q;go_wp2
    go_loop [0] (fun v=>∃u:ByteArray,v=.string u/\u.size<=1000000000/\Hid (Xh u.data.toList=V)) (fun v=>match v with| .string t=>t.size|_=>0)
    case atStart=>grind [Hid.out]
    case round=>
     obtain⟨u,rfl,K,i⟩:=hrel;by_cases o:0<u.size
     ·have a:=tN u o
      by_cases d:Ia (u[u.size - 1]' aa)=true
      ·have b:Xh (u.extract 0 (u.size - 1)).data.toList=V:=by rw[<-i.out,a,wA,if_pos d]
       have r:=Lib.hid b;have e:(((u[u.size - 1]' aa).toNat:Int)==32)=true\/(((u[u.size - 1]' aa).toNat:Int)==32)=false/\(((u[u.size - 1]' aa).toNat:Int)==9)=true:=by
        clear a b r;revert d;generalize u[u.size - 1]' aa=c;clear i p;revert c;decide+kernel
       have y:(u.extract 0 (u.size - 1)).size=u.size - 1:=by rw[Kj];omega
       clear a d b;rcases e with z|⟨z,F⟩
       all_goals
        go_wp2
        grind
      ·have g:u.data.toList=V:=by
        rw[<-i.out];conv=>rhs;rw[a,wA,if_neg d]
        exact a
       have k:=Lib.hid g;have e:(((u[u.size - 1]' aa).toNat:Int)==32)=false/\(((u[u.size - 1]' aa).toNat:Int)==9)=false:=by
        clear a g k;revert d;generalize u[u.size - 1]' aa=c;clear i p;revert c;decide+kernel
       obtain⟨z,F⟩:=e;clear a d g;go_wp2;go_ret;exact⟨r1 (vS k.out),rfl⟩
     ·have g:u.data.toList=V:=by
       rw[<-i.out,qz (l:=u.data.toList) ie];rfl
      have k:=Lib.hid g;have A:¬(0:Int)<u.size:=aa
      clear g;go_wp2;go_ret;exact⟨r1 (vS k.out),rfl⟩
   case inl=>
    have J:¬(0:Int)<t.size:=aa
    clear I;go_wp2
    go_loop [0] (fun v=>∃u:ByteArray,v=.string u/\u.size<=1000000000/\Hid (Xh u.data.toList=V)) (fun v=>match v with| .string t=>t.size|_=>0)
    case atStart=>exact⟨t,rfl,ht,Lib.hid (by rw[p.out];exact H.out)⟩
    case round=>
     obtain⟨u,rfl,K,i⟩:=hrel;by_cases o:0<u.size
     ·have a:=tN u o
      by_cases d:Ia (u[u.size - 1]' aa)=true
      ·have b:Xh (u.extract 0 (u.size - 1)).data.toList=V:=by rw[<-i.out,a,wA,if_pos d]
       have r:=Lib.hid b;have e:(((u[u.size - 1]' aa).toNat:Int)==32)=true\/(((u[u.size - 1]' aa).toNat:Int)==32)=false/\(((u[u.size - 1]' aa).toNat:Int)==9)=true:=by
        clear a b r;revert d;generalize u[u.size - 1]' aa=c;clear i p;revert c;decide+kernel
       have y:(u.extract 0 (u.size - 1)).size=u.size - 1:=by rw[Kj];omega
       clear a d b;rcases e with z|⟨z,F⟩
       all_goals
        go_wp2
        grind
      ·have g:u.data.toList=V:=by
        rw[<-i.out];conv=>rhs;rw[a,wA,if_neg d]
        exact a
       have k:=Lib.hid g;have e:(((u[u.size - 1]' aa).toNat:Int)==32)=false/\(((u[u.size - 1]' aa).toNat:Int)==9)=false:=by
        clear a g k;revert d;generalize u[u.size - 1]' aa=c;clear i p;revert c;decide+kernel
       obtain⟨z,F⟩:=e;clear a d g;go_wp2;go_ret;exact⟨r1 (vS k.out),rfl⟩
     ·have g:u.data.toList=V:=by
       rw[<-i.out,qz (l:=u.data.toList) ie];rfl
      have k:=Lib.hid g;have A:¬(0:Int)<u.size:=aa
      clear g;go_wp2;go_ret;exact⟨r1 (vS k.out),rfl⟩
def iV(s x)(k:Nat)(w)(hs:s.size<=1000000000)(j:x.size<=1000000000)(i:k<=1000000000):Calls Tryz.prog 105 #[.string s,.string x,.int .i64 k] w (Rb (.bool (Eg s.data.toList x.data.toList k)) w):=by
 obtain⟨V,a⟩:∃V,Eg s.data.toList x.data.toList k=V:=⟨_,rfl⟩;rw[a];by_cases e:k<=s.size
 ·by_cases g:x.size<=s.size - k
  ·have c:(x.size:Int)<=s.size - k:=aa
   have b:V=((s.extract k (k+x.size)).toList==x.toList):=by
    rw[<-a,Eg,show decide (k<=s.data.toList.length)=true by simp_all,pc,ByteArray.toList_eq,ByteArray.toList_eq,Lib.extract_data,oh];rfl
   have d:=Lib.hid b;clear a b
   go_enter Tryz.func105,Tryz.ntmps105
   go_wp2;go_ret;exact⟨r1 (vb d.out.symm),rfl⟩
  ·have c:¬(x.size:Int)<=s.size - k:=aa
   have b:V=false:=by
    rw[<-a,Eg,PA];right;rw[beq_eq_false_iff_ne];intro h;have:=congrArg List.length h;rw[Ac,Ya,show s.data.toList.length=s.size from rfl,show x.data.toList.length=x.size from rfl]at this;omega
   subst b;clear a
   go_enter Tryz.func105,Tryz.ntmps105
   go_wp2;go_ret;exact⟨rfl,rfl⟩
 ·have c:¬(k:Int)<=s.size:=aa
  have b:V=false:=by
   rw[<-a,Eg,show decide (k<=s.data.toList.length)=false by simp_all];rfl
  subst b;clear a
  go_enter Tryz.func105,Tryz.ntmps105
  go_wp2;go_ret;exact⟨rfl,rfl⟩
end Go.Proofs.YtglaihdcndcmkaaGreatDoor
end
namespace wa
section
variable {F:Fence} {n:Nat} {P:Program} {b:Frame} {a:Act} {k:List Item} {cs:List Frame} {w:World} {Q:Exit→Act→World→Prop}
def vT{c}:step P (lone (b.atR a (.code (.scope c)::k)) cs w)=.next (lone (b.atR a (.code c::.inScope c::k)) cs w):=
 step_lone_go (by simp[Go.stepG,Go.stepG.exec,Frame.atR])
def zbY{c}:step P (lone (b.atR a (.inScope c::k)) cs w)=.next (lone (b.atR a k) cs w):=
 step_lone_go (by simp[Go.stepG,Go.stepG.exec,Frame.atR])
theorem sI{c rest}(l)(J)(B:findLabel c l=some rest)
 (D:∀l a w,¬Q (.goto l) a w)
 (first:c.wpIn F n P (Exit.jump l J Q) a w) (t:∀a w,J a w->rest.wpIn F n P Q a w):(Code.scope c).wpIn F n P Q a w:=by
 intro b k cs r v hr;have y:(lone (b.atR a (.code (.scope c)::k)) cs w).fenced P F:=fenced_calm v hr rfl;have C:gotoIn l (.inScope c::k)=some (.code rest::.inScope c::k):=by simp[gotoIn,B]
 have out:∀(m:Machine)(e:Exit)(g:Act)(h:World),Q e g h->ArrivesIn (Machine.fenced P F) P m b (.inScope c::k) cs e g h->ArrivesIn (Machine.fenced P F) P m b k cs e g h:=by
  intro m e g h i d;cases e with
  |normal=>exact StepsIn.trans d (.one (fenced_calm v hr rfl) zbY)
  |exit id=>exact⟨fun k' j=>d.1 k' (by simp[exitTo,j]),fun o j=>d.2 o (by simp[exitTo,j])⟩
  |goto x=>exact(D _ _ _ i).elim
  |ret=>exact d
  |panic j=>exact d
  |outgrown=>exact d
 obtain⟨e,g,h,q,d⟩:=first b (.inScope c::k) cs r v hr
 by_cases z:∃x,e=.goto x
 ·obtain⟨x,rfl⟩:=z
  obtain⟨rfl,A⟩:=q;obtain⟨p,o,u,j,i⟩:=t g h A b (.inScope c::k) cs r v hr;exact⟨p,o,u,j,.of_steps (.head y vT (d.1 _ C)) (out _ _ _ _ j i)⟩
 ·have i:Q e g h:=by cases e<;>first|exact q|exact(z ⟨_,rfl⟩).elim
  exact⟨e,g,h,i,.of_steps (.one y vT) (out _ _ _ _ i d)⟩
end
def Zy{w w'}(h:Below w.heap.size w w'):KeepsOthers w w':=by
 refine⟨h.size,fun k o a b=>?_⟩;exact(h.block k (xg.1 a).1).trans a
def rv{e b:Nat}{w w'}(hs:w.heap.size<=w'.heap.size)(h:Lib.OthersKept e (some b) w w')(l:∃o,w.heap[b]?=some o/\o.isCells=true):KeepsOthers w w':=by
 refine⟨hs,fun k o j i=>?_⟩;refine h k o j ?_ ?_
 ·intro g
  obtain⟨n,d,a⟩:=l;cases g;rw[j]at d;cases d;rw[i]at a;cases a
 ·intro c d a
  subst a;cases i
def Wm(b:Nat)(W a:World):Prop:=a.heap[b]?=W.heap[b]?
def FF{b}{A B C}(h:Wm b A B)(k:Wm b B C):Wm b A C:=Eq.trans k h
def DF{b}{w:World}(c:b<w.heap.size)(W)(l)(o a)(d:w.heap.size<=l)(h:W.heap[l]?=some o)(_:o.isCells=false)(_:o.isWalk=false):Wm b W (W.putObj l a):=
 World.putObj_heap_other aa
def yo{β}{B}{J}(h:AbidesFrom B J){s:β}{W a}(b:J s W)(k:Below W.heap.size W a):J s a:=
 h s W a none b ⟨k.os,k.tape,k.output,k.size,fun i c _=>k.block i c⟩ (fun r e=>by cases e)
def EF{b}{W a}(c:b<W.heap.size)(k:Below W.heap.size W a):Wm b W a:=k.block b c
abbrev we:={p:ByteArray×Nat//p.1.size<=10000/\p.2<=20000}
def we.pair(p:we):List UInt8×Nat:=(p.1.1.data.toList,p.1.2)
def Qj(b c:Nat)(W a:World):Prop:=Wm b W a/\Wm c W a
def Yy{b c}{A B C}(h:Qj b c A B)(k:Qj b c B C):Qj b c A C:=⟨FF h.1 k.1,FF h.2 k.2⟩
def l5{b c}{w:World}(i:b<w.heap.size)(j:c<w.heap.size)(W)(l)(o a)(g:w.heap.size<=l)(h:W.heap[l]?=some o)(d:o.isCells=false)(e:o.isWalk=false):Qj b c W (W.putObj l a):=
 ⟨DF i W l o a g h d e,DF j W l o a g h d e⟩
theorem sP{b c}{W a}(d:b<W.heap.size)(e:c<W.heap.size)(k:Below W.heap.size W a):Qj b c W a:=⟨EF d k,EF e k⟩
def af(W:World):Prop:=∃m,W.cell? ⟨0,0,none⟩=some (.int .i64 m)
def af.kept{W a}(h:af W)(k:Wm 0 W a):af a:=by
 obtain⟨m,b⟩:=h;exact⟨m,by unfold World.cell? at b⊢;rw[k];exact b⟩
theorem af.lt{W}(h:af W):0<W.heap.size:=by
 obtain⟨m,a⟩:=h;exact Et W _ a
def af.below{W a}(h:af W)(k:Below W.heap.size W a):af a:=h.kept (EF h.lt k)
def af.cC{B}{W a}(h:af W)(b:0<B)(k:Below B W a):af a:=h.kept (k.block _ b)
def EI(s:ByteArray)(k d:Nat)(w:World)(e:Ending)(w':World):Prop:=∃a b:ByteArray,e=.returned (.tuple #[.string a,.string b,.bool true])/\a.size=k/\b.size+(k+d)=s.size/\Hid (a.data.toList=s.data.toList.take k)/\Hid (b.data.toList=s.data.toList.drop (k+d))/\Below w.heap.size w w'
def DI(s:ByteArray)(w:World)(e:Ending)(w':World):Prop:=e=.returned (.tuple #[.string s,.string ⟨#[]⟩,.bool false])/\Below w.heap.size w w'
end wa
namespace Go.Proofs.YtglaihdcndcmkaaGreatDoor
def yY(s)(w)(a:af w)(hs:s.size<=1000000)(b:Zc s.data.toList=none):Calls Tryz.prog 39 #[.string s,.string ⟨#[13,10]⟩] w (DI s w):=by
 obtain⟨m,a⟩:=a;refine(Tryz.strings_Cut s ⟨#[13,10]⟩ m w aa a).mono ?_;rintro e w' ⟨rfl,n,rfl⟩;refine⟨?_,Kr w n⟩;rw[show(ByteArray.mk #[13,10]).data.toList=[13,10]from rfl,UM,b]
def zY(s)(w)(a:af w)(hs:s.size<=1000000)(k:Nat)(c:Zc s.data.toList=some k):Calls Tryz.prog 39 #[.string s,.string ⟨#[13,10]⟩] w (EI s k 2 w):=by
 obtain⟨m,a⟩:=a;refine(Tryz.strings_Cut s ⟨#[13,10]⟩ m w aa a).mono ?_;rintro e w' ⟨rfl,n,rfl⟩;have b:=Vj c;rw[show s.data.toList.length=s.size from rfl]at b;refine⟨⟨(s.data.toList.take k).toArray⟩,⟨(s.data.toList.drop (k+2)).toArray⟩,?_,?_,?_,Lib.hid rfl,Lib.hid rfl,Kr w n⟩
 ·grind [UM]
 ·rw[tm,Ac,show s.data.toList.length=s.size from rfl];omega
 ·rw[tm,Ya,show s.data.toList.length=s.size from rfl];omega
def xY(c)(s)(w:World)(a:af w)(hs:s.size<=1000000)(b:ff c s.data.toList=none):Calls Tryz.prog 39 #[.string s,.string ⟨#[c]⟩] w (DI s w):=by
 obtain⟨m,a⟩:=a;refine(Tryz.strings_Cut s ⟨#[c]⟩ m w aa a).mono ?_;rintro e w' ⟨rfl,n,rfl⟩;refine⟨?_,Kr w n⟩;rw[show(ByteArray.mk #[c]).data.toList=[c]from rfl,TM,b]
def PC(c)(s)(w:World)(a:af w)(hs:s.size<=1000000)(k:Nat)(d:ff c s.data.toList=some k):Calls Tryz.prog 39 #[.string s,.string ⟨#[c]⟩] w (EI s k 1 w):=by
 obtain⟨m,a⟩:=a;refine(Tryz.strings_Cut s ⟨#[c]⟩ m w aa a).mono ?_;rintro e w' ⟨rfl,n,rfl⟩;have b:=vx d;rw[show s.data.toList.length=s.size from rfl]at b;refine⟨⟨(s.data.toList.take k).toArray⟩,⟨(s.data.toList.drop (k+1)).toArray⟩,?_,?_,?_,Lib.hid rfl,Lib.hid rfl,Kr w n⟩
 ·grind [TM]
 ·rw[tm,Ac,show s.data.toList.length=s.size from rfl];omega
 ·rw[tm,Ya,show s.data.toList.length=s.size from rfl];omega
attribute [local go_sem] Oper.semAt_some
set_option maxRecDepth 100000 in
theorem q6(n:Nat)(hnZ:1<=n)(s)(hs:s.size<=10000)(A:Nat)(w)(u:Boxed w A 9 (.string s))(D:af w):
 SeqStopsK Fence.wide n Tryz.prog 205 #[.pointer (some ⟨A,0,none⟩)] (fun p:we=>#[.string p.1.1,.int .i64 p.1.2]) (Qj A 0)
  (fun xs=>xs.map we.pair=Vd s.data.toList 0) (fun xs=>∃r,xs.map we.pair++r=Vd s.data.toList 0) (s.size+1) w:=fun l J d W R Q c hYZ Z=>by
 have i:Boxed W A 9 (.string s):=(R.block _ u.lt).trans u;have O:=D.below R;have hc0:=i.cell;have X:=Lib.hid i;clear i;refine callsIn_of_wp Tryz.func205 rfl trivial ?_ rfl;simp only[Tryz.ntmps205,Ut,za,ya,Nat.reduceAdd,Nat.reduceSub,Vt,Wt,Xt,Yt,Gb,ub]
 gi_wp2
 gi_loopw [3,4,5,6,7] (fun v _ _ _ _ wr=>∃(k:Nat)(pre:List we),v=.int .i64 k/\k<=s.size/\pre.length<=k/\Hid (pre.map we.pair++Vd (s.data.toList.drop k) k=Vd s.data.toList 0)/\Hid (J pre wr)/\Hid (Boxed wr A 9 (.string s))/\Hid (af wr))
  (fun v _ _ _ _ _=>s.size+1 - (intOf v).toNat)
 case atStart=>exact⟨0,[],rfl,Za _,la _,Lib.hid rfl,Lib.hid Z,X,Lib.hid O⟩
 case round=>
  obtain⟨k,pre,rfl,hkZ,hpl,q,t,g,hmx⟩:=hrel;replace t:=t.out;replace g:=g.out;have hc2:=g.cell;have M:=g.lt;have z:(s.extract k s.size).data.toList=s.data.toList.drop k:=by rw[Lib.extract_data,Rf da]
  have hsz:(s.extract k s.size).size=s.size - k:=by rw[Kj];omega
  rcases F:Zc (s.data.toList.drop k)with _|j
  ·have G:=Lib.hid (show Zc (s.extract k s.size).data.toList=none by grind)
   have c:=Lib.hid (show pre.map we.pair=Vd s.data.toList 0 by grind [Hid.out,ek]);clear F z
   gi_wp2_with (refine⟨trivial,?_⟩;gi_at_call 39;refine(callsIn_wide.2 (yY _ _ hmx.out aa G.out)).mono ?_;rintro e V ⟨rfl,d⟩)
   refine bodyPost_ret (results_none rfl _ _ _) rfl ?_;exact⟨⟨_,rfl⟩,.inl ⟨pre,c.out,yo Q t d⟩⟩
  ·have ea:=Vj F
   rw[Ya,show s.data.toList.length=s.size from rfl]at ea;have G:=Lib.hid (show Zc (s.extract k s.size).data.toList=some j by grind);have hit:=En (a:=k) F;rw[rf]at hit;have y:=Lib.hid hit;have I:=Lib.hid z;clear F z hit
   gi_wp2_with (refine⟨trivial,?_⟩;gi_at_call 39;refine(callsIn_wide.2 (zY _ _ hmx.out aa j G.out)).mono ?_;rintro e V ⟨a,b,rfl,B,hbs,L,_,d⟩;have K:=yo Q t d;have x:=(d.block _ M).trans g;have E:=hmx.out.below d;have hc1:=Boxed.cell x;have c:=Lib.hid B;have ha1:a.size+2<=s.size - k:=aa;clear B;obtain⟨fn,tmps,assign,body,U,hRZ⟩:=hYZ pre ⟨(a,k+(a.size+2)),by constructor<;>dsimp only<;>omega⟩ V K aa;dsimp only at U;rw[show((k+(a.size+2):Nat):Int)=(k:Int)+((a.size:Int)+2) by omega]at U)
   have o:we.pair ⟨(a,k+(a.size+2)),by constructor<;>dsimp only<;>omega⟩=((s.data.toList.drop k).take j,k+j+2):=by
    unfold we.pair;dsimp only;rw[L.out,I.out,c.out,Dp]
   have H:=Lib.hid o;clear o;refine hRZ.mono ?_;rintro e Y (⟨rfl,hJ3,C⟩|⟨rfl,hx3⟩)
   ·have S:Boxed Y A 9 (.string s):=Eq.trans C.1 x
    have T:=E.kept C.2;rcases Ep j with N|N
    ·have hae:a.toList=[]:=by
      rw[Lib.toList_data];exact qz (c.out.trans N)
     have P:=Lib.hid (show(pre++[(⟨(a,k+(a.size+2)),by constructor<;>dsimp only<;>omega⟩:we)]).map we.pair=Vd s.data.toList 0 by
      rw[gg,ig,H.out,<-q.out,y.out,if_pos N])
     gi_wp2
     refine bodyPost_ret (results_none rfl _ _ _) rfl ?_
     grind [Hid.out]
    ·have e1:a.toList=[] ↔ False:=by
      rw[Lib.toList_data];exact iff_of_false (fun h=>by have:=c.out;have h2Z:a.size=0:=congrArg List.length h;omega) id
     have e2:a.toList.isEmpty=false:=by
      rw[Lib.toList_data];cases h:a.data.toList with
      |nil=>have:=c.out;have h2Z:a.size=0:=congrArg List.length h;omega
      |cons _ _=>rfl
     have P:=Lib.hid (show(pre++[(⟨(a,k+(a.size+2)),by constructor<;>dsimp only<;>omega⟩:we)]).map we.pair++Vd (s.data.toList.drop (k+(a.size+2))) (k+(a.size+2))=Vd s.data.toList 0 by
      rw[gg,ig,H.out,<-q.out,y.out,if_neg aa,c.out,sf];rfl)
     gi_wp2
     grind [Lib.hid,intOf]
   ·have P:=Lib.hid (show(pre++[(⟨(a,k+(a.size+2)),by constructor<;>dsimp only<;>omega⟩:we)]).map we.pair++(if j=0 then[]else Vd (s.data.toList.drop (k+(j+2))) (k+j+2))=Vd s.data.toList 0 by
     rw[gg,ig,H.out,<-q.out,y.out,sf];rfl)
    gi_wp2
    refine bodyPost_ret (results_none rfl _ _ _) rfl ?_
    grind [Hid.out]
end Go.Proofs.YtglaihdcndcmkaaGreatDoor
namespace wa
def Ua(l:List ec):List Value:=l.flatMap fun p=>[.string ⟨p.1.toArray⟩,.string ⟨p.2.toArray⟩]
theorem bk(l):(Ua l).length=l.length* 2:=by
 induction l<;>grind [Ua]
theorem An(l)(p):Ua (l++[p])=Ua l++[.string ⟨p.1.toArray⟩,.string ⟨p.2.toArray⟩]:=by simp[Ua]
def kp(pre:List we):List (List UInt8):=pre.map fun x=>x.1.1.data.toList
def Sb(pre:List we):List ec×Bool:=(Kd (kp pre) ([],false)).getD ([],false)
def Pj(pre:List we):Prop:=Kd (kp pre) ([],false)=some (Sb pre)/\∀x∈pre,x.1.1.data.toList≠[]
def F1:Pj []:=⟨rfl,da⟩
def uO{pre}{x}{st}(h:Pj pre)(b:x.1.1.data.toList≠[])(hs:ed (Sb pre) x.1.1.data.toList=some st):Pj (pre++[x])/\Sb (pre++[x])=st:=by
 have e:Kd (kp (pre++[x])) ([],false)=some st:=by
  unfold kp;rw[gg,ig,MP];show(Kd (kp pre) ([],false)).bind _=_;rw[h.1];exact hs
 refine⟨⟨by grind [Sb],?_⟩,by grind [Sb]⟩;intro y a;rcases wg.1 a with a|a
 ·exact h.2 y a
 grind
def pH{pre}(h:Pj pre)(r):ve (pre.map we.pair++r) ([],false)=ve r (Sb pre):=by
 refine FS_ _ _ _ _ ?_ ?_
 ·intro x a
  obtain⟨y,b,rfl⟩:=Ik.1 a;exact h.2 y b
 ·rw[List.map_map];exact h.1
def GH{st}{l}(h:l.all eg=false):ed st l=none:=by grind [ed]
def xT{st}{l}(a:(l.head?.map Ia).getD false=true)(h:st.1=[]):ed st l=none:=by
 grind [ed]
def wT{st}{l}{F}{q}(hs:l.all eg=true)(a:(l.head?.map Ia).getD false=true)(h:st.1=F++[q]):
 ed st l=some (F++[(q.1,q.2++l)],st.2||decide (998<l.length)):=by
 grind [ed]
def zT{st}{l}(a:(l.head?.map Ia).getD false=false)(h:ff 58 l=none):ed st l=none:=by
 grind [ed]
def AT{st}{l}{k}(a:(l.head?.map Ia).getD false=false)(h:ff 58 l=some k)(b:Ue (l.take k)=false):ed st l=none:=by
 grind [ed]
def yT{st}{l}{k}(hs:l.all eg=true)(a:(l.head?.map Ia).getD false=false)(h:ff 58 l=some k)(b:Ue (l.take k)=true):
 ed st l=some (st.1++[(l.take k,l.drop (k+1))],st.2||decide (998<l.length)):=by
 grind [ed]
def zbZ{st st'}{l}(h:ed st l=some st'):st'.1.length<=st.1.length+1:=by
 grind [ed]
theorem vv:∀(a)(st st'),Kd a st=some st'->st'.1.length<=st.1.length+a.length
 |[],st,st',h=>by grind [Kd]
 |l::a,st,st',h=>by
  rw[Kd,Gw]at h;obtain⟨s1,b,c⟩:=qb h;have:=zbZ b;have:=vv a s1 st' c
  grind
def zb1{st st'}{l}{C}(h:ed st l=some st')(a:∀f∈st.1,f.2.length<=C):∀f∈st'.1,f.2.length<=C+l.length:=by
 unfold ed at h;split at h
 ·cases h
 ·split at h<;>grind [List.dropLast_sublist]
theorem hz:∀(b)(st st')(C M),Kd b st=some st'->(∀f∈st.1,f.2.length<=C)->(∀l∈b,l.length<=M)->∀f∈st'.1,f.2.length<=C+M* b.length
 |[],st,st',C,M,h,c,_=>by grind [Kd]
 |l::b,st,st',C,M,h,c,d=>by
  rw[Kd,Gw]at h;obtain⟨s1,e,g⟩:=qb h;have a:=zb1 e c;have k:=d l da;have:=hz b s1 st' (C+M) M g (fun f j=>by grind) (fun x i=>d x (by simp[i]))
  grind [Nat.mul_succ]
def vO{pre}(h:Pj pre):∀f∈(Sb pre).1,f.2.length<=10000* pre.length:=by
 have:=hz _ _ _ 0 10000 h.1 da (by
  intro l a;unfold kp at a;obtain⟨x,_,rfl⟩:=Ik.1 a;exact x.2.1)
 grind [kp]
def tD{pre}(h:Pj pre):(Sb pre).1.length<=pre.length:=by
 have:=vv _ _ _ h.1
 grind [kp]
def BO(p:ByteArray)(h):(p.data.toList.head?.map Ia).getD false=Ia p[0]:=by
 rw[List.head?_eq_getElem?,qe (show 0<p.data.toList.length from h)];rfl
def vV:∀c,Ia c=true->((c.toNat:Int)==32)=true\/((c.toNat:Int)==32)=false/\((c.toNat:Int)==9)=true:=lc
def uV:∀c,Ia c=false->((c.toNat:Int)==32)=false/\((c.toNat:Int)==9)=false:=lc
theorem Qv{W}{B t e base size n:Nat}{u v}{xs}(h:Boxed W B t u)(a:t≠e)(hr:W.ownsRow base e size v n xs)(b):(W.setCell ⟨B,0,none⟩ b).ownsRow base e size v n xs:=
 hr.kept (grownBy_setCell' W B b) (.inr (h.not_row a hr).symm)
def tP{b c B}{W}(a:b≠B)(d:c≠B)(u)(o):Qj b c W (W.setCell ⟨B,o,none⟩ u):=
 ⟨Below.heap_setCell _ _ _ _ aa,Below.heap_setCell _ _ _ _ aa⟩
def Sn{w w'}{B e size n:Nat}{v}{xs}(h:w.ownsRow B e size v n xs)(k:Below w.heap.size w w'):w'.ownsRow B e size v n xs:=
 Ot (row:=none) h ⟨k.os,k.tape,k.output,k.size,fun i a _=>k.block i a⟩ ia
def cell_two_new(w:World)(x y)(t):∀(j) u,[x,y][j]?=some u->(w.alloc (.cells #[x,y] t)).cell? ((⟨w.heap.size,0,none⟩:Addr).add j)=some u:=by
 intro j u a
 match j,a with
 |0,a=>simp at a;subst a;simp[Addr.add]
 |1,a=>simp at a;subst a;simp[Addr.add]
theorem Xn{w:World}{B}{e size:Nat}{v}{n}{xs}(h:w.ownsRow B e size v n xs):(v=.slice none 0 0/\n=0)\/∃g a,v=.slice (some ⟨g,0,none⟩) n a/\B<=g/\g<w.heap.size/\n<=a:=by
 rcases h.2 with c|⟨g,a,b,rfl,d,j,i,_⟩<;>grind
end wa
namespace Go.Proofs.YtglaihdcndcmkaaGreatDoor
def jA(s)(b)(h:s.data.toList.all eg=b)(w)(hs:s.size<=maxLen):Calls Tryz.prog 136 #[.string s] w (Rb (.bool b) w):=h▸zaq s w hs
def bG(s)(b)(h:Ue s.data.toList=b)(w)(hs:s.size<=maxLen):Calls Tryz.prog 137 #[.string s] w (Rb (.bool b) w):=h▸GQ s w hs
attribute [local go_sem] Oper.semAt_some
def o6(s)(w):Calls Tryz.prog 135 #[.string s] w fun e w'=>e=.returned (.func (.func 205) #[] #[.pointer (some ⟨w.heap.size,0,none⟩)])/\w'=w.alloc (.cells #[.string s] 9):=by
 go_enter Tryz.func135,Tryz.ntmps135
 go_wp2;go_ret;simp
def zbk:Split->World->Ending->World->Prop
 | .form,w,e,w'=>e=.returned (.tuple #[.slice none 0 0,.int .i64 0,.int .i64 7])/\Below w.heap.size w w'
 | .long,w,e,w'=>e=.returned (.tuple #[.slice none 0 0,.int .i64 0,.int .i64 6])/\Below w.heap.size w w'
 | .ok l b,w,e,w'=>∃v,e=.returned (.tuple #[v,.int .i64 b,.int .i64 0])/\w'.ownsRow w.heap.size 60 2 v l.length (Ua l)/\Below w.heap.size w w'
def Pw(n0:Nat)(w:World)(s:ByteArray)(pre:List we)(W:World):Prop:=
 (((∃v,Boxed W n0 49 v/\W.ownsRow n0 60 2 v (Sb pre).1.length (Ua (Sb pre).1)/\True)/\Boxed W (n0+1) 3 (.int .i64 0)/\Boxed W (n0+1+1) 24 (.int .i64 (if(Sb pre).2 then 6 else 0))/\Boxed W (n0+1+1+1) 9 (.string s))/\Pj pre)/\Below n0 w W
def Out(n0:Nat)(w:World)(c:Code)(pre:List we)(W:World):Prop:=
 (((Boxed W n0 49 (.slice none 0 0)/\Boxed W (n0+1) 3 (.int .i64 0)/\Boxed W (n0+1+1) 24 (.int .i64 7))/\(c=.ret/\∃a x,pre=a++[x]/\Pj a/\x.1.1.data.toList≠[]/\ed (Sb a) x.1.1.data.toList=none))/\Below n0 w W)\/
 (((∃v,Boxed W n0 49 v/\W.ownsRow n0 60 2 v (Sb pre.dropLast).1.length (Ua (Sb pre.dropLast).1)/\True)/\Boxed W (n0+1) 3 (.int .i64 ((pre.getLast?.map fun x=>x.1.2).getD 0:Nat))/\Boxed W (n0+1+1) 24 (.int .i64 (if(Sb pre.dropLast).2 then 6 else 0)))/\(c=.exit 0/\∃a x,pre=a++[x]/\Pj a/\x.1.1.data.toList=[]))/\Below n0 w W
def OwnFrom.or{β}{B}{I J:β->World->Prop}(h:OwnFrom B I)(k:OwnFrom B J):OwnFrom B (fun s W=>I s W\/J s W):=fun s W b row hs c hr=>hs.elim (fun a=>.inl (h s W b row a c hr)) (fun a=>.inr (k s W b row a c hr))
def K6(n0)(w)(s)(B)(b:n0<=w.heap.size)(a:n0<=B):OwnFrom B (Pw n0 w s):=
 OwnFrom.and (OwnFrom.and (OwnFrom.and (Own.from (holdsRow_own n0 n0 49 60 2 (fun pre:List we=>(Sb pre).1.length) (fun pre=>Ua (Sb pre).1) (fun _ _=>True)) _) (OwnFrom.and (Own.from (boxed_own _ _ _) _) (OwnFrom.and (Own.from (boxed_own _ _ _) _) (Own.from (boxed_own _ _ _) _)))) (ownFrom_pure _ _)) (ownFrom_below b a)
def T7(n0)(w)(c)(B)(b:n0<=w.heap.size)(a:n0<=B):OwnFrom B (Out n0 w c):=
 OwnFrom.or (OwnFrom.and (OwnFrom.and (OwnFrom.and (Own.from (boxed_own _ _ _) _) (OwnFrom.and (Own.from (boxed_own _ _ _) _) (Own.from (boxed_own _ _ _) _))) (ownFrom_pure _ _)) (ownFrom_below b a))
  (OwnFrom.and (OwnFrom.and (OwnFrom.and (Own.from (holdsRow_own n0 n0 49 60 2 (fun pre:List we=>(Sb pre.dropLast).1.length) (fun pre=>Ua (Sb pre.dropLast).1) (fun _ _=>True)) _) (OwnFrom.and (Own.from (boxed_own _ _ _) _) (Own.from (boxed_own _ _ _) _))) (ownFrom_pure _ _)) (ownFrom_below b a))
end Go.Proofs.YtglaihdcndcmkaaGreatDoor
namespace wa
open Go.Sort
section
variable {P:Program} {ops:Array Oper} {md:Region.Mode} {C:World→Prop}
def ou(P:Program)(md:Region.Mode)(ops:Array Oper)(C:World->Prop)(n:Nat)(L:Array Bool->Act->Prop):Nat->Array Bool->Act->Prop
 |0,b,a=>L b a
 |f+1,b,a=>
  Region.ready md ops b≠[]/\∀i∈Region.ready md ops b,i<n/\qOp P ops C i (ou P md ops C n L f (b.setIfInBounds i true)) a
theorem dJ{n g}{L}{Q'}(e:∀b a w,C w->L b a->wpAny P md ops Q' g b a w):
 ∀(f)(b)(a)(w),C w->ou P md ops C n L f b a->wpAny P md ops Q' (f+g) b a w
 |0,b,a,w,c,h=>by rw[sc];exact e _ _ _ c h
 |f+1,b,a,w,c,h=>by
  rw[show f+1+g=(f+g)+1 by omega];exact⟨fun k=>absurd k h.1,fun i l=>wpOp_of_qOp c (fun a' w' d j=>dJ e f _ a' w' d j) (h.2 i l).2⟩
theorem QU{n i}{A}{v}{L}(K:ops[i]?=some A)(u:∀(j:Nat)(o) cs b,ops[j]?=some o->o.op≠.select cs b)
 (hs:Region.sinkB md ops n=true) (Q:Region.chainB md ops n=true) (R:n<ops.size) (D:i<n)
 (w:∀c a,L c a->∀j∈Region.ready md ops c,n<=j):
 ∀(f)(c)(a),HeadInv md ops n c->
  (∀j z,ops[j]?=some z->j≠i->c.getD j true=false->(∀e∈z.after,Region.binds md e=true->e.on≠i)->A.apart ops z=true)->
  i∈Region.ready md ops c->YieldsIn P ops C A v a->
  ou P md ops C n L f (c.setIfInBounds i true) (a.put A.dst v)->ou P md ops C n L (f+1) c a:=by
 intro f
 induction f with
 |zero=>
  intro c a r _ hr I H;have g:=(mem_ready.1 hr).1;refine⟨fun h=>(by rw[h]at hr;cases hr),fun j x=>?_⟩;have q:j<n:=by
   rcases ai j n with h|h
   ·exact h
   ·exact absurd x (tail_waits hs Q R r _ i rfl D g j h)
  refine⟨q,?_⟩;by_cases d:j=i
  ·subst d;exact I.qOp K H
  ·have:=w _ _ H j (ready_mono x d)
   omega
 |succ f W=>
  intro c a r l hr I H;have g:=(mem_ready.1 hr).1;refine⟨fun h=>(by rw[h]at hr;cases hr),fun j x=>?_⟩;have q:j<n:=by
   rcases ai j n with h|h
   ·exact h
   ·exact absurd x (tail_waits hs Q R r _ i rfl D g j h)
  refine⟨q,?_⟩;by_cases d:j=i
  ·subst d;exact I.qOp K H
  ·have G:=(H.2 j (ready_mono x d)).2
   obtain⟨t,z,y,B⟩:=mem_ready.1 x;have F:∀e∈z.after,Region.binds md e=true->e.on≠i:=fun e U T J=>by
    have G:=B e U T;rw[J,getD_both g]at G;cases G
   have S:=qOp_put y (l j z y d t F) (fun cs b=>u i A cs b K) (fun cs b=>u j z cs b y) I G
   have p:∀k ok,ops[k]?=some ok->k≠i->(c.setIfInBounds j true).getD k true=false->
    (∀e∈ok.after,Region.binds md e=true->e.on≠i)->A.apart ops ok=true:=fun k ok V M g N=>by
    refine l k ok V M ?_ N;by_cases E:j=k
    ·subst E;exact t
    ·rw[getD_set_ne true E]at g;exact g
   refine qOp_mono (fun a' O=>W (c.setIfInBounds j true) a' (r.set x q) p (ready_mono hr (yi d)) O.1 ?_) S;rw[Array.setIfInBounds_comm _ _ d];exact O.2
theorem cJ{n g}{u}(d:Region.noSelect ops=true)(hs:Region.sinkB md ops n=true)(y:Region.chainB md ops n=true)(A:n<ops.size):
 ∀(l)(k)(b)(a),(∀j,j<l.length->l[j]?=ops[k+j]?)->k+l.length=n->HeadInv md ops n b->
 Region.lexHead md ops g l.length k b=true->wpQuiet P ops C u l a->
 ou P md ops C n (fun c a'=>Region.seqB md ops g n c=true/\u a') l.length b a
 |[],k,b,a,_,t,_,r,h=>by
  have:k=n:=by simpa using t
  subst this;exact⟨by simpa[Region.lexHead]using r,h⟩
 |o::l,k,b,a,z,t,p,r,h=>by
  have q:ops[k]?=some o:=by simpa using(z 0 da).symm
  simp only[za,Region.lexHead,Vc]at r;obtain⟨⟨hr,E⟩,w⟩:=r;have e:k<n:=by simp only[za]at t;omega
  have i:k∈Region.ready md ops b:=by simpa using hr
  have x:qOp P ops C k (wpQuiet P ops C u l) a:=by unfold qOp;simp only[q];exact h
  obtain⟨v,F,B⟩:=yieldsIn_of_qOp q x
  exact QU q (Region.noSelect_spec d) hs y A e (fun c a' D=>seqB_ready D.1) l.length b a p (Region.free_spec q E) i F
   (cJ d hs y A l (k+1) _ _ (fun j G=>by have:=z (j+1) Sa;simpa[Dp,Nat.add_comm 1 j]using this) (by simp only[za]at t;omega) (p.set i e) w B)
def x_{id}{Q}{a}{w}{l:List Oper}(n)(z:P.follows .mixedOrders=true)(q:Region.lexTailB .any l.toArray n=true)
 (x:C {w with drawn:=w.drawn+1})
 (h:wpQuiet P l.toArray C (fun a'=>∀w',C w'->wpList P l.toArray Q (l.drop n) a' w') (l.take n) a):(Code.region id l.toArray true).wp P Q a w:=by
 simp only[Region.lexTailB,Vc,decide_eq_true_eq]at q;obtain⟨⟨⟨⟨i,v⟩,hs⟩,y⟩,e⟩:=q;have A:n<l.length:=by simpa using v
 have b:(l.take n).length=n:=Sa
 have d:(l.drop n).length=l.toArray.size - n:=da
 have k:HeadInv .any l.toArray n (Array.replicate l.toArray.size false):=
  ⟨da,fun j B _ o=>(by rw[getD_replicate_false]at o;cases o),fun t _ ht=>getD_in (by simpa using ht) (getD_replicate_false _ _)⟩
 have H:=cJ (md:=.any) (g:=l.toArray.size - n) i hs y v (l.take n) 0 _ a (fun j u=>by
  have o:j<n:=by rw[b]at u;exact u
  simp[o]) (by simpa using b) k (by rw[b];exact e) h
 refine wp_region_any z ?_;have:=dJ (Q':=Q) (g:=l.toArray.size - n) (fun c a' w' p r=>by
  have:=wpAny_of_seq (md:=.any) (Q':=Q) (l.drop n) n c a' w' (fun j=>by simp[Fj]) (by rw[d];exact r.1) (r.2 w' p);rwa[d]at this) _ _ _ _ x H
 rw[b,show n+(l.toArray.size - n)=l.toArray.size by omega]at this;exact this
theorem rS{id}{Q}{a}{w}{l:List Oper}(n)(i:P.follows .mixedOrders=true)(g:Region.lexTailB .any l.toArray n=true)
 (h:wpQuiet P l.toArray (fun w'=>∃p:Regrown,w'=grow (redrawn w p.d) p.os) (fun a'=>∀w',Below w.heap.size w w'->wpList P l.toArray Q (l.drop n) a' w') (l.take n) a):(Code.region id l.toArray true).wp P Q a w:=
 x_ (C:=fun w'=>∃p:Regrown,w'=grow (redrawn w p.d) p.os) n i g ⟨⟨w.drawn+1,#[]⟩,by rw[grow_empty];rfl⟩ (by
  have mono:∀(b:List Oper)(a:Act),wpQuiet P l.toArray (fun w'=>∃p:Regrown,w'=grow (redrawn w p.d) p.os) (fun a'=>∀w',Below w.heap.size w w'->wpList P l.toArray Q (l.drop n) a' w') b a->
   wpQuiet P l.toArray (fun w'=>∃p:Regrown,w'=grow (redrawn w p.d) p.os) (fun a'=>∀w',(∃p:Regrown,w'=grow (redrawn w p.d) p.os)->wpList P l.toArray Q (l.drop n) a' w') b a:=by
   intro b
   induction b with
   |nil=>intro a h w' ⟨p,c⟩;exact h w' (c▸below_regrown w p.d p.os)
   |cons o b d=>
    intro a h;unfold wpQuiet at h⊢;split
    ·rename_i c;rw[if_pos c]at h;exact Oper.quiet_mono (fun a' e=>d a' e) h
    ·rename_i c;rw[if_neg c]at h;exact d _ h
  exact mono _ _ h)
end
end wa
namespace Go.Proofs.YtglaihdcndcmkaaGreatDoor
attribute [local go_sem] Oper.semAt_some
def yk{W}{D B t:Nat}{v}(h:D≠B)(a:Boxed W B t v)(o):Boxed (W.putObj D o) B t v:=(World.putObj_heap_other (yi h)).trans a
def Yz{w}{tmps}{n0}{v b e}(c1:w.cell? ⟨n0,0,none⟩=some v)(c2:w.cell? ⟨n0+1,0,none⟩=some b)(c3:w.cell? ⟨n0+1+1,0,none⟩=some e)
 (a:tmps.getD 2 undef=.pointer (some ⟨n0,0,none⟩):=by rfl) (c:tmps.getD 3 undef=.pointer (some ⟨n0+1,0,none⟩):=by rfl) (d:tmps.getD 4 undef=.pointer (some ⟨n0+1+1,0,none⟩):=by rfl):
 (results Tryz.f75 tmps).run Tryz.prog w=.ok (.tuple #[v,b,e]) w:=by
 rw[Im]at a c d;simp[results,Tryz.results75,go_sem,c1,c2,c3,a,c,d]
def yS(n0:Nat)(s:ByteArray)(x:we):Act:={tmps:=#[.string s,undef,.pointer (some ⟨n0,0,none⟩),.pointer (some ⟨n0+1,0,none⟩),.pointer (some ⟨n0+1+1,0,none⟩),.string x.1.1,.int .i64 x.1.2,undef,undef,undef,undef,.string s,.func (.func 205) #[] #[.pointer (some ⟨n0+1+1+1,0,none⟩)],.string x.1.1,.int .i64 x.1.2,undef,undef,undef,undef,undef,undef,undef,undef,undef,undef,undef,undef,undef,undef,undef,undef,undef,undef,undef,undef,undef,undef,undef,undef,undef,undef,undef,undef,undef,undef,undef,undef,undef,undef,undef,undef,undef,undef,undef,undef,undef,undef,undef,undef,undef,undef,undef,undef,undef,undef,undef,undef,undef,undef,undef,undef,undef,undef,undef,undef,undef,undef,undef,undef,undef,undef,undef,undef,undef,undef,undef,undef,undef,undef,undef,undef,undef,undef,undef,undef],defers:=[]}
def M0{n0 k}{w W c e}{s p a b}{at_}{pre}{v v3}{L:Bool}{n}(D:p.size<=10000/\at_<=20000)
 (N:Boxed c n0 49 v) (J:Boxed c (n0+1) 3 (.int .i64 0)) (S:Boxed c (n0+1+1) 24 (.int .i64 (if L then 6 else 0))) (hs:Boxed c (n0+1+1+1) 9 (.string s))
 (I:Below n0 w c) (M:KeepsOthers W c) (y:Qj (n0+1+1+1) 0 W c) (K:Pj pre) (ra:¬p.data.toList=[])
 (z:ed (Sb pre) p.data.toList=some ((Sb pre).1++[(p.data.toList.take k,p.data.toList.drop (k+1))],L)) (o:a.data.toList=p.data.toList.take k) (q:b.data.toList=p.data.toList.drop (k+1))
 (d:c.ownsRow n0 60 2 v (Sb pre).1.length (Ua (Sb pre).1)) (A:n0<=c.heap.size) (i:0<n0)
 (j:e.ownsRow n0 60 2 v3 ((Sb pre).1.length+1) (Ua (Sb pre).1++[.string a,.string b])) (g:(c.alloc n).grownBy e v.ownBlock):
 KeepsOthers W (e.setCell ⟨n0,0,none⟩ v3)/\Qj (n0+1+1+1) 0 W (e.setCell ⟨n0,0,none⟩ v3)/\Pw n0 w s (pre++[⟨(p,at_),D⟩]) (e.setCell ⟨n0,0,none⟩ v3):=by
 obtain⟨r,E⟩:=uO (x:=⟨(p,at_),D⟩) K ra z;obtain⟨_,G,R,H,C⟩:=Boxed.appended N ga d A (la _) j g;have F:∀{B t:Nat}{u:Value},Boxed c B t u->t≠60->B≠n0->Boxed (e.setCell ⟨n0,0,none⟩ v3) B t u:=fun h ht O=>((h.alloc n).kept g (h.not_row ht d)).other O _
 have l:=F hs ga aa;have P:(⟨(p.data.toList.take k).toArray⟩:ByteArray)=a:=by apply Jk;apply Sg;rw[o]
 have Q:(⟨(p.data.toList.drop (k+1)).toArray⟩:ByteArray)=b:=by apply Jk;apply Sg;rw[q]
 refine⟨M.trans H,Yy y ⟨Eq.trans l (Eq.symm hs),C.block _ i⟩,⟨⟨⟨_,G,?_,trivial⟩,F J ga aa,?_,l⟩,r⟩,I.trans C⟩
 ·grind [An]
 grind
def B5{n0 g c m}{w W a}{s p}{at_}{pre}{F0:List ec}{q:ec}{L:Bool}(A:p.size<=10000/\at_<=20000)
 (v:Boxed a n0 49 (.slice (some ⟨g,0,none⟩) (m+1) c)) (r:Boxed a (n0+1) 3 (.int .i64 0)) (D:Boxed a (n0+1+1) 24 (.int .i64 (if L then 6 else 0))) (hs:Boxed a (n0+1+1+1) 9 (.string s))
 (C:Below n0 w a) (F:KeepsOthers W a) (l:Qj (n0+1+1+1) 0 W a) (E:Pj pre) (ra:¬p.data.toList=[])
 (n:ed (Sb pre) p.data.toList=some (F0++[(q.1,q.2++p.data.toList)],L)) (y:F0.length=m) (j:n0<=g)
 (b:a.ownsRow n0 60 2 (.slice (some ⟨g,0,none⟩) (m+1) c) (m+1) (Ua F0++[.string ⟨q.1.toArray⟩,.string ⟨q.2.toArray⟩])) (z:0<n0):
 KeepsOthers W (a.setCell ⟨g,m* 2+1,none⟩ (.string (⟨q.2.toArray⟩++p)))/\Qj (n0+1+1+1) 0 W (a.setCell ⟨g,m* 2+1,none⟩ (.string (⟨q.2.toArray⟩++p)))/\Pw n0 w s (pre++[⟨(p,at_),A⟩]) (a.setCell ⟨g,m* 2+1,none⟩ (.string (⟨q.2.toArray⟩++p))):=by
 obtain⟨k,d⟩:=uO (x:=⟨(p,at_),A⟩) E ra n;have i:∀{B t:Nat}{u:Value},Boxed a B t u->t≠60->B≠g:=fun h ht e=>h.not_row ht b (by rw[e];rfl)
 have n1:=i v ga;have n2:=i r ga;have n3:=i D ga;have n4:=i hs ga;have o:∀{B t:Nat}{u:Value},Boxed a B t u->B≠g->Boxed (a.setCell ⟨g,m* 2+1,none⟩ (.string (⟨q.2.toArray⟩++p))) B t u:=fun h G=>(Below.heap_setCell _ _ _ _ G).trans h
 refine⟨F.trans (KeepsOthers.setCell _ _ _),Yy l (tP n4 aa _ _),⟨⟨⟨_,o v n1,?_,trivial⟩,o r n2,?_,o hs n4⟩,k⟩,C.setCell (p:=⟨g,m* 2+1,none⟩) j _⟩
 ·have:=(b.stored (m* 2+1) (.string (⟨q.2.toArray⟩++p))).1
  rw[d,An];dsimp only;rw[Ja,y,List.length_singleton];rw[io _ _ (by grind [bk]),bk,y,show m* 2+1 - m* 2=1 by omega]at this;have e:(ByteArray.mk q.2.toArray++p)=⟨(q.2++p.data.toList).toArray⟩:=by
   apply Jk;apply Sg;simp
  grind
 grind
def O1:(Tryz.prog.info? 60).map (fun i=>(i.zero,i.size,i.bytes))=some (some (.agg #[.string ⟨#[]⟩,.string ⟨#[]⟩]),2,32):=ca
def Tu{n0}{w W a}{v}{b e}{pre}{x}(j:Boxed a n0 49 v)(d:Boxed a (n0+1) 3 (.int .i64 b))(g:Boxed a (n0+1+1) 24 (.int .i64 e))
 (c:Below n0 w a) (i:KeepsOthers W a) (h:Pj pre) (k:x.1.1.data.toList≠[]) (hs:ed (Sb pre) x.1.1.data.toList=none):
 KeepsOthers W (((a.setCell ⟨n0,0,none⟩ (.slice none 0 0)).setCell ⟨n0+1,0,none⟩ (.int .i64 0)).setCell ⟨n0+1+1,0,none⟩ (.int .i64 7))/\
 Out n0 w .ret (pre++[x]) (((a.setCell ⟨n0,0,none⟩ (.slice none 0 0)).setCell ⟨n0+1,0,none⟩ (.int .i64 0)).setCell ⟨n0+1+1,0,none⟩ (.int .i64 7)):=
 ⟨((i.trans (KeepsOthers.setCell _ _ _)).trans (KeepsOthers.setCell _ _ _)).trans (KeepsOthers.setCell _ _ _),
   .inl ⟨⟨⟨((j.set _).other aa _).other aa _,((d.other aa _).set _).other aa _,((g.other aa _).other aa _).set _⟩,rfl,pre,x,rfl,h,k,hs⟩,
    ((c.setCell (p:=⟨n0,0,none⟩) (la _) _).setCell (p:=⟨n0+1,0,none⟩) da _).setCell (p:=⟨n0+1+1,0,none⟩) ia _⟩⟩
set_option maxRecDepth 100000 in
def zbl(s)(w)(hmZ:af w)(hs:s.size<=10000):Calls Tryz.prog 75 #[.string s] w (zbk (Pd s.data.toList) w):=by
 refine(callsIn_wide (n:=3)).1 ?_;refine callsIn_of_wp_marks Tryz.func75 rfl trivial ?_ rfl;simp only[Tryz.ntmps75,Ut,za,ya,Nat.reduceAdd,Nat.reduceSub,Vt,Wt,Xt,Yt,Gb,ub];refine wpIn_wide.2 ?_
 go_wp2_with(go_at_call 135;refine(o6 _ _).mono ?_;rintro e w' ⟨rfl,rfl⟩)
 obtain⟨n0,T⟩:∃n0,w.heap.size=n0:=⟨_,rfl⟩;have hB0:Below n0 w ((((w.alloc (.cells #[.slice none 0 0] 49)).alloc (.cells #[.int .i64 0] 3)).alloc (.cells #[.int .i64 0] 24)).alloc (.cells #[.string s] 9)):=by
  rw[<-T];exact((((Below.refl _ w).alloc (la _) _).alloc da _).alloc Sa _).alloc Sa _
 have hl0:Boxed ((((w.alloc (.cells #[.slice none 0 0] 49)).alloc (.cells #[.int .i64 0] 3)).alloc (.cells #[.int .i64 0] 24)).alloc (.cells #[.string s] 9)) n0 49 (.slice none 0 0):=by
  rw[<-T];exact(((Boxed.new w _ _).alloc _).alloc _).alloc _
 have hb0:Boxed ((((w.alloc (.cells #[.slice none 0 0] 49)).alloc (.cells #[.int .i64 0] 3)).alloc (.cells #[.int .i64 0] 24)).alloc (.cells #[.string s] 9)) (n0+1) 3 (.int .i64 0):=by
  have:=Boxed.new (w.alloc (.cells #[.slice none 0 0] 49)) 3 (.int .i64 0);rw[Lm,T]at this;exact(this.alloc _).alloc _
 have he0:Boxed ((((w.alloc (.cells #[.slice none 0 0] 49)).alloc (.cells #[.int .i64 0] 3)).alloc (.cells #[.int .i64 0] 24)).alloc (.cells #[.string s] 9)) (n0+1+1) 24 (.int .i64 0):=by
  have:=Boxed.new ((w.alloc (.cells #[.slice none 0 0] 49)).alloc (.cells #[.int .i64 0] 3)) 24 (.int .i64 0);rw[Lm,Lm,T]at this;exact this.alloc _
 have hs0:Boxed ((((w.alloc (.cells #[.slice none 0 0] 49)).alloc (.cells #[.int .i64 0] 3)).alloc (.cells #[.int .i64 0] 24)).alloc (.cells #[.string s] 9)) (n0+1+1+1) 9 (.string s):=by
  have:=Boxed.new (((w.alloc (.cells #[.slice none 0 0] 49)).alloc (.cells #[.int .i64 0] 3)).alloc (.cells #[.int .i64 0] 24)) 9 (.string s);rw[Lm,Lm,Lm,T]at this;exact this
 have hsz:((((w.alloc (.cells #[.slice none 0 0] 49)).alloc (.cells #[.int .i64 0] 3)).alloc (.cells #[.int .i64 0] 24)).alloc (.cells #[.string s] 9)).heap.size=n0+1+1+1+1:=by
  simp only[Lm,T]
 have hr0:((((w.alloc (.cells #[.slice none 0 0] 49)).alloc (.cells #[.int .i64 0] 3)).alloc (.cells #[.int .i64 0] 24)).alloc (.cells #[.string s] 9)).ownsRow n0 60 2 (.slice none 0 0) 0 []:=LA _ _ _ _;have hm0:af ((((w.alloc (.cells #[.slice none 0 0] 49)).alloc (.cells #[.int .i64 0] 3)).alloc (.cells #[.int .i64 0] 24)).alloc (.cells #[.string s] 9)):=hmZ.cC (by rw[<-T];exact hmZ.lt) hB0;have hmlt:0<n0:=by rw[<-T];exact hmZ.lt
 have hwn:n0<=w.heap.size:=aa
 rw[T];generalize ((((w.alloc (.cells #[.slice none 0 0] 49)).alloc (.cells #[.int .i64 0] 3)).alloc (.cells #[.int .i64 0] 24)).alloc (.cells #[.string s] 9))=W0Z at*;refine(wpIn_wide (n:=3)).1 ?_
 refine wpIn_rangeFunc_ownF rfl aa (gf:=205) (lb:=#[.pointer (some ⟨n0+1+1+1,0,none⟩)]) rfl trivial (enters_of Tryz.func205 ca rfl)
  (q6 _ aa s hs (n0+1+1+1) _ hs0 hm0) Yy (l5 aa aa) (Below.refl _ _) (fun _=>rfl)
  (Pw n0 w s) (Out n0 w) (K6 n0 w s _ hwn aa) (fun c=>T7 n0 w c _ hwn aa)
  ⟨⟨⟨⟨_,hl0,hr0,trivial⟩,hb0,he0,hs0⟩,F1⟩,hB0⟩ (yS n0 s) ?assign ?body ?done ?stop
 case assign=>
  intro l x W K hKZ
  gi_wp2
  exact hKZ
 case body=>
  rintro l pre x W ⟨⟨⟨⟨v,y,J,_⟩,E,t,hbs⟩,A⟩,hBZ⟩ hlen;have hcl:=y.cell;have hcb:=E.cell;have hce:=t.cell;have hfl:=y.frozen;have hfb:=E.frozen;have hfe:=t.frozen;have P:=Lib.hid y;have u:=Lib.hid E;have O:=Lib.hid t;have HSZ:=Lib.hid hbs;clear y E t hbs;obtain⟨⟨p,at_⟩,hpZ⟩:=x;dsimp only at hpZ;unfold yS;dsimp only;by_cases heZ:p.data.toList=[]
  ·obtain rfl:p=⟨#[]⟩:=by cases p with|mk d=>simp_all
   clear heZ
   gi_wp2
   refine⟨KeepsOthers.setCell _ _ _,.inr ⟨⟨⟨⟨v,P.out.other aa _,?_,trivial⟩,?_,?_⟩,rfl,pre,_,rfl,A,rfl⟩,hBZ.setCell (p:=⟨n0+1,0,none⟩) da _⟩⟩
   ·grind [Qv,Hid.out]
   ·rw[List.getLast?_concat];exact u.out.set _
   ·rw[List.dropLast_concat];exact O.out.other aa _
  ·have HNE:=Lib.hid heZ;clear heZ
   have e1:p.toList=[] ↔ False:=by rw[Lib.toList_data];exact iff_of_false HNE.out id
   have e2:p.toList.isEmpty=false:=by
    rw[Lib.toList_data];cases h:p.data.toList with
    |nil=>grind [Hid.out]
    |cons _ _=>rfl
   have hpos:0<p.size:=by
    rcases Ep p.size with h|h
    ·simp_all
    ·exact h
   obtain⟨W1Z,H,I,hl1,hb1,he1,hs1,B,hB1,hk1,hkp1⟩:∃W1Z:World,(998<p.size->W.setCell ⟨n0+1+1,0,none⟩ (.int .i64 6)=W1Z)/\(¬998<p.size->W=W1Z)/\Boxed W1Z n0 49 v/\Boxed W1Z (n0+1) 3 (.int .i64 0)/\
    Boxed W1Z (n0+1+1) 24 (.int .i64 (if(Sb pre).2||decide (998<p.data.toList.length)then 6 else 0))/\Boxed W1Z (n0+1+1+1) 9 (.string s)/\W1Z.ownsRow n0 60 2 v (Sb pre).1.length (Ua (Sb pre).1)/\Below n0 w W1Z/\KeepsOthers W W1Z/\Qj (n0+1+1+1) 0 W W1Z:=by
    rw[show p.data.toList.length=p.size from rfl];by_cases j:998<p.size
    ·refine⟨_,fun _=>rfl,fun h=>absurd j h,P.out.other aa _,u.out.other aa _,?_,HSZ.out.other aa _,Qv O.out ga J _,hBZ.setCell (p:=⟨n0+1+1,0,none⟩) ia _,KeepsOthers.setCell _ _ _,tP aa aa _ _⟩
     rw[show decide (998<p.size)=true by grind,Ip];exact O.out.set _
    grind [Hid.out,KeepsOthers.refl,sP,Boxed.lt,Below.refl]
   clear P u O HSZ;have hcl1:=hl1.cell;have hcb1:=hb1.cell;have hce1:=he1.cell;have hfl1:=hl1.frozen;have hfb1:=hb1.frozen;have hfe1:=he1.frozen;have P:=Lib.hid hl1;have u:=Lib.hid hb1;have O:=Lib.hid he1;have HSZ:=Lib.hid hs1;clear hl1 hb1 he1 hs1;have hpm:p.size<=maxLen:=by unfold maxLen;omega
   have z:=BO p hpos;rcases y:Ia p[0]with _|_
   ·rw[y]at z
    obtain⟨q1Z,q2Z⟩:=uV _ y;clear y;have hm1:=hmZ.cC aa hB1;have hBs:=hB1.size;rcases R:ff 58 p.data.toList with _|k
    ·have U:=Lib.hid (zT (st:=Sb pre) z R)
     have HCO:=Lib.hid R;clear R z;by_cases j:998<p.size
     all_goals first|(replace H:=H j;clear I)|(obtain rfl:=I j;clear H I)
     all_goals
      gi_wp2_with (refine⟨trivial,?_⟩;gi_at_call 39;refine(CallsIn.inRound l (callsIn_wide.2 (xY 58 p _ hm1 aa HCO.out))).mono ?_;rintro e X ⟨rfl,o⟩;have N:Boxed X n0 49 v:=(o.block _ P.out.lt).trans P.out;have C:Boxed X (n0+1) 3 (.int .i64 0):=(o.block _ u.out.lt).trans u.out;have M:Boxed X (n0+1+1) 24 (.int .i64 (if((Sb pre).2||decide (998<p.data.toList.length))=true then 6 else 0)):=(o.block _ O.out.lt).trans O.out;have hcl2:=Boxed.cell N;have hfl2:=Boxed.frozen N;have hcb2:=Boxed.cell C;have hfb2:=Boxed.frozen C;have hce2:=Boxed.cell M;have hfe2:=Boxed.frozen M;have HL2:=Lib.hid N;have HB2:=Lib.hid C;have HE2:=Lib.hid M;clear N C M)
      refine⟨trivial,?_⟩
      gi_wp2
      refine⟨trivial,?_⟩
      gi_wp2
      exact Tu (x:=⟨(p,at_),hpZ⟩) HL2.out HB2.out HE2.out (hB1.trans (o.mono (Ob hwn hBs))) (hk1.trans (Zy o)) A HNE.out U.out
    ·have hkl:=vx R
     rw[show p.data.toList.length=p.size from rfl]at hkl;rcases hna:Ue (p.data.toList.take k)with _|_
     ·have U:=Lib.hid (AT (st:=Sb pre) z R hna)
      have HCO:=Lib.hid R;have HNA:=Lib.hid hna;clear R z hna;by_cases j:998<p.size
      all_goals first|(replace H:=H j;clear I)|(obtain rfl:=I j;clear H I)
      all_goals
       gi_wp2_with (first|(refine⟨trivial,?_⟩;gi_at_call 39;refine(CallsIn.inRound l (callsIn_wide.2 (PC 58 p _ hm1 aa k HCO.out))).mono ?_;rintro e X ⟨a,b,rfl,hak,hbk,hal,y,o⟩;have haz:a.size<=maxLen:=(by unfold maxLen;omega);have HAK:=Lib.hid hak;clear hak;have N:Boxed X n0 49 v:=(o.block _ P.out.lt).trans P.out;have C:Boxed X (n0+1) 3 (.int .i64 0):=(o.block _ u.out.lt).trans u.out;have M:Boxed X (n0+1+1) 24 (.int .i64 (if((Sb pre).2||decide (998<p.data.toList.length))=true then 6 else 0)):=(o.block _ O.out.lt).trans O.out;have hcl2:=Boxed.cell N;have hfl2:=Boxed.frozen N;have hcb2:=Boxed.cell C;have hfb2:=Boxed.frozen C;have hce2:=Boxed.cell M;have hfe2:=Boxed.frozen M;have HL2:=Lib.hid N;have HB2:=Lib.hid C;have HE2:=Lib.hid M;clear N C M;have Z:=Sn B o;have hs2:Boxed X (n0+1+1+1) 9 (.string s):=(o.block _ HSZ.out.lt).trans HSZ.out;have HS2:=Lib.hid hs2;clear hs2;have hw2n:n0<=X.heap.size:=(by have:=o.size;omega))|(refine⟨trivial,?_⟩;gi_at_call 137;refine(CallsIn.inRound l (callsIn_wide.2 (bG a false (by rw[hal.out];exact HNA.out) _ haz))).mono ?_;rintro e w3Z ⟨rfl,rfl⟩))
       refine⟨trivial,?_⟩
       gi_wp2
       exact Tu (x:=⟨(p,at_),hpZ⟩) HL2.out HB2.out HE2.out (hB1.trans (o.mono (Ob hwn hBs))) (hk1.trans (Zy o)) A HNE.out U.out
     ·rcases V:p.data.toList.all eg with _|_
      ·have U:=Lib.hid (GH (st:=Sb pre) V)
       have HSH:=Lib.hid V;have HCO:=Lib.hid R;have HNA:=Lib.hid hna;clear R z hna V;by_cases j:998<p.size
       all_goals first|(replace H:=H j;clear I)|(obtain rfl:=I j;clear H I)
       all_goals
        gi_wp2_with (first|(refine⟨trivial,?_⟩;gi_at_call 39;refine(CallsIn.inRound l (callsIn_wide.2 (PC 58 p _ hm1 aa k HCO.out))).mono ?_;rintro e X ⟨a,b,rfl,hak,hbk,hal,y,o⟩;have haz:a.size<=maxLen:=(by unfold maxLen;omega);have HAK:=Lib.hid hak;clear hak;have N:Boxed X n0 49 v:=(o.block _ P.out.lt).trans P.out;have C:Boxed X (n0+1) 3 (.int .i64 0):=(o.block _ u.out.lt).trans u.out;have M:Boxed X (n0+1+1) 24 (.int .i64 (if((Sb pre).2||decide (998<p.data.toList.length))=true then 6 else 0)):=(o.block _ O.out.lt).trans O.out;have hcl2:=Boxed.cell N;have hfl2:=Boxed.frozen N;have hcb2:=Boxed.cell C;have hfb2:=Boxed.frozen C;have hce2:=Boxed.cell M;have hfe2:=Boxed.frozen M;have HL2:=Lib.hid N;have HB2:=Lib.hid C;have HE2:=Lib.hid M;clear N C M;have Z:=Sn B o;have hs2:Boxed X (n0+1+1+1) 9 (.string s):=(o.block _ HSZ.out.lt).trans HSZ.out;have HS2:=Lib.hid hs2;clear hs2;have hw2n:n0<=X.heap.size:=(by have:=o.size;omega))|(refine⟨trivial,?_⟩;gi_at_call 137;refine(CallsIn.inRound l (callsIn_wide.2 (bG a true (by rw[hal.out];exact HNA.out) _ haz))).mono ?_;rintro e w3Z ⟨rfl,rfl⟩)|(refine⟨trivial,?_⟩;gi_at_call 136;refine(CallsIn.inRound l (callsIn_wide.2 (jA p false HSH.out _ hpm))).mono ?_;rintro e w3Z ⟨rfl,rfl⟩))
        exact Tu (x:=⟨(p,at_),hpZ⟩) HL2.out HB2.out HE2.out (hB1.trans (o.mono (Ob hwn hBs))) (hk1.trans (Zy o)) A HNE.out U.out
      ·obtain⟨i0Z,bl,hz0,hz1,hz2⟩:=info_parts O1
       have hgl:=tD A;have hstep:=yT (st:=Sb pre) V z R hna;have U:=Lib.hid hstep;have HSH:=Lib.hid V;have HCO:=Lib.hid R;have HNA:=Lib.hid hna;clear R z hna V hstep;by_cases j:998<p.size
       all_goals first|(replace H:=H j;clear I)|(obtain rfl:=I j;clear H I)
       all_goals
        gi_wp2_with (first|(refine⟨trivial,?_⟩;gi_at_call 39;refine(CallsIn.inRound l (callsIn_wide.2 (PC 58 p _ hm1 aa k HCO.out))).mono ?_;rintro e X ⟨a,b,rfl,hak,hbk,hal,y,o⟩;have haz:a.size<=maxLen:=(by unfold maxLen;omega);have HAK:=Lib.hid hak;clear hak;have N:Boxed X n0 49 v:=(o.block _ P.out.lt).trans P.out;have C:Boxed X (n0+1) 3 (.int .i64 0):=(o.block _ u.out.lt).trans u.out;have M:Boxed X (n0+1+1) 24 (.int .i64 (if((Sb pre).2||decide (998<p.data.toList.length))=true then 6 else 0)):=(o.block _ O.out.lt).trans O.out;have hcl2:=Boxed.cell N;have hfl2:=Boxed.frozen N;have hcb2:=Boxed.cell C;have hfb2:=Boxed.frozen C;have hce2:=Boxed.cell M;have hfe2:=Boxed.frozen M;have HL2:=Lib.hid N;have HB2:=Lib.hid C;have HE2:=Lib.hid M;clear N C M;have Z:=Sn B o;have hs2:Boxed X (n0+1+1+1) 9 (.string s):=(o.block _ HSZ.out.lt).trans HSZ.out;have HS2:=Lib.hid hs2;clear hs2;have hw2n:n0<=X.heap.size:=(by have:=o.size;omega))|(refine⟨trivial,?_⟩;gi_at_call 137;refine(CallsIn.inRound l (callsIn_wide.2 (bG a true (by rw[hal.out];exact HNA.out) _ haz))).mono ?_;rintro e w3Z ⟨rfl,rfl⟩)|(refine⟨trivial,?_⟩;gi_at_call 136;refine(CallsIn.inRound l (callsIn_wide.2 (jA p true HSH.out _ hpm))).mono ?_;rintro e w3Z ⟨rfl,rfl⟩)|(gi_at_builtin;refine wpListIn_append_own _ rfl _ _ 49 rfl n0 60 i0Z _ 2 32 Tryz.underlying49 bl hz0 hz1 hz2 rfl ga _ _ _ rfl (Z.alloc _) ⟨X.heap.size,0,none⟩ 1 1 [.string a,.string b] rfl rfl (cell_two_new _ _ _ _) (by simp[Value.oneCell']) (by unfold maxLen;omega) aa Sa ?_;intro v3 w3Z hown3 hgr3 _;obtain⟨g3,cap3,rfl⟩:=ownsRow_succ hown3;have hap:=Boxed.appended HL2.out ga Z hw2n (la _) hown3 hgr3;have hc3:=hap.1.cell;have hf3:=hap.1.frozen;clear hap))
        exact M0 hpZ HL2.out HB2.out HE2.out HS2.out (hB1.trans (o.mono (Ob hwn hBs))) (hk1.trans (Zy o)) (Yy hkp1 (sP HSZ.out.lt hm1.lt o)) A HNE.out U.out hal.out y.out Z hw2n hmlt hown3 hgr3
   ·rw[y]at z
    have C:=vV _ y;clear y;rcases N:(Sb pre).1.reverse with _|⟨q,R⟩
    ·have hF:(Sb pre).1=[]:=by simpa using N
     have U:=Lib.hid (xT (l:=p.data.toList) z hF);have M:(Sb pre).1.length=0:=by rw[hF];rfl
     clear N hF z;rw[M]at B;clear M;have Z:∃a o,v=.slice a 0 o:=by
      rcases Xn B with⟨h,_⟩|⟨g,o,h,_⟩
      ·exact⟨_,_,h⟩
      ·exact⟨_,_,h⟩
     obtain⟨a,o,rfl⟩:=Z;clear B;by_cases j:998<p.size
     all_goals first|(replace H:=H j;clear I)|(obtain rfl:=I j;clear H I)
     all_goals rcases C with q1Z|⟨q1Z,q2Z⟩
     all_goals
      gi_wp2
      refine⟨trivial,?_⟩
      gi_wp2
      exact Tu (x:=⟨(p,at_),hpZ⟩) P.out u.out O.out hB1 hk1 A HNE.out U.out
    ·have hF:(Sb pre).1=R.reverse++[q]:=by rw[<-List.reverse_reverse (Sb pre).1,N,List.reverse_cons]
     obtain⟨F0,Z⟩:∃F0,R.reverse=F0:=⟨_,rfl⟩;rw[Z]at hF;have M:(Sb pre).1.length=F0.length+1:=by rw[hF];simp
     rw[M,hF,An]at B;obtain⟨m,hm0⟩:∃m,F0.length=m:=⟨_,rfl⟩;rw[hm0]at B;obtain⟨g,o,rfl,hg0,hglt,hcap⟩:∃g o,v=.slice (some ⟨g,0,none⟩) (m+1) o/\n0<=g/\g<W1Z.heap.size/\m+1<=o:=by
      grind [Xn]
     have Q:=B.cellAt (m* 2+1) aa;rw[He (by rw[bk];omega),bk,hm0,show m* 2+1 - m* 2=1 by omega]at Q;have hfro:=B.frozenAt (m* 2+1);have S:W1Z.cell? ⟨g,m* 2+1,none⟩=some (.string ⟨q.2.toArray⟩):=Q;have Y:=Lib.hid B;have HFZ:=Lib.hid hF;have hml:m<=1000001:=by have:=tD A;omega
     have HMZ:=Lib.hid hm0;have hqs:(ByteArray.mk q.2.toArray).size<=200000000:=by
      have:=vO A q (by rw[hF];simp);show q.2.length<=_;omega
     clear Q hF N Z M B hm0;rcases V:p.data.toList.all eg with _|_
     ·have U:=Lib.hid (GH (st:=Sb pre) V)
      have HSH:=Lib.hid V;clear V z;by_cases j:998<p.size
      all_goals first|(replace H:=H j;clear I)|(obtain rfl:=I j;clear H I)
      all_goals rcases C with q1Z|⟨q1Z,q2Z⟩
      all_goals
       gi_wp2_with (refine⟨trivial,?_⟩;gi_at_call 136;refine(CallsIn.inRound l (callsIn_wide.2 (jA p false HSH.out _ hpm))).mono ?_;rintro e X ⟨rfl,rfl⟩)
       exact Tu (x:=⟨(p,at_),hpZ⟩) P.out u.out O.out hB1 hk1 A HNE.out U.out
     ·have hstep:=wT (st:=Sb pre) (l:=p.data.toList) V z HFZ.out
      have U:=Lib.hid hstep;have HSH:=Lib.hid V;clear V z hstep;by_cases j:998<p.size
      all_goals first|(replace H:=H j;clear I)|(obtain rfl:=I j;clear H I)
      all_goals rcases C with q1Z|⟨q1Z,q2Z⟩
      all_goals
       gi_wp2_with (refine⟨trivial,?_⟩;gi_at_call 136;refine(CallsIn.inRound l (callsIn_wide.2 (jA p true HSH.out _ hpm))).mono ?_;rintro e X ⟨rfl,rfl⟩)
       exact B5 hpZ P.out u.out O.out HSZ.out hB1 hk1 hkp1 A HNE.out U.out HMZ.out hg0 Y.out hmlt
 case done=>
  rintro D xs W hDZ j ⟨⟨⟨⟨v,y,J,_⟩,E,t,hbs⟩,A⟩,hBZ⟩ hKZ;have G:Pd s.data.toList=.form:=by
   unfold Pd;rw[<-j,<-Ye (xs.map we.pair),pH A];rfl
  have hcl:=y.cell;have hcb:=E.cell;have hce:=t.cell;have hfl:=y.frozen;have hfb:=E.frozen;have hfe:=t.frozen;have HKZ:=Lib.hid hKZ;have HFo:=Lib.hid G;have P:=Lib.hid y;have u:=Lib.hid E;have O:=Lib.hid t;clear y E t hbs hKZ G j;go_wp2;rw[HFo.out];have hK2:=(((KeepsOthers.setCell W ⟨n0,0,none⟩ (.slice none 0 0)).trans (KeepsOthers.setCell _ ⟨n0+1,0,none⟩ (.int .i64 0))).trans (KeepsOthers.setCell _ ⟨n0+1+1,0,none⟩ (.int .i64 7))).same D _ HKZ.out rfl;have h1Z:=(((P.out.set (.slice none 0 0)).other (show n0≠n0+1 by omega) (.int .i64 0)).other (show n0≠n0+1+1 by omega) (.int .i64 7));have h2Z:=(((u.out.other (show n0+1≠n0 by omega) (.slice none 0 0)).set (.int .i64 0)).other (show n0+1≠n0+1+1 by omega) (.int .i64 7));have h3Z:=(((O.out.other (show n0+1+1≠n0 by omega) (.slice none 0 0)).other (show n0+1+1≠n0+1 by omega) (.int .i64 0)).set (.int .i64 7));have h4Z:=((hBZ.setCell (p:=⟨n0,0,none⟩) (la _) (.slice none 0 0)).setCell (p:=⟨n0+1,0,none⟩) da (.int .i64 0)).setCell (p:=⟨n0+1+1,0,none⟩) ia (.int .i64 7);refine⟨da,.inl ⟨_,_,rfl,run_takeDeferred hK2,?_⟩⟩;have hd0:D≠n0:=aa
  have hd1:D≠n0+1:=aa
  have hd2:D≠n0+1+1:=aa
  have c1:=(yk hd0 h1Z (.deferred none)).cell;have c2:=(yk hd1 h2Z (.deferred none)).cell;have c3:=(yk hd2 h3Z (.deferred none)).cell;exact⟨_,Yz c1 c2 c3,rfl,by rw[T];exact h4Z.trans (belowK_b (w:=w) hwn _ D _ _ aa hK2 rfl rfl)⟩
 case stop=>
  rintro D c pre W hDZ B hout hKZ;rcases hout with⟨⟨⟨y,E,t⟩,rfl,z,x,rfl,U,hxZ,R⟩,hBZ⟩|⟨⟨⟨⟨v,y,J,_⟩,E,t⟩,rfl,z,x,rfl,U,hxZ⟩,hBZ⟩
  ·have G:Pd s.data.toList=.form:=by
    obtain⟨r,hr⟩:=B;unfold Pd;rw[<-hr,gg,sf,pH U,ig];show(match ve ((x.1.1.data.toList,x.1.2)::r) _ with|none=>Split.form|some (_,true,_)=>.long|some (f,false,b)=>.ok (f.map fun p:ec=>(p.1,trimB p.2)) b)=_;rw[ve,if_neg hxZ,R]
   have hcl:=y.cell;have hcb:=E.cell;have hce:=t.cell;have hfl:=y.frozen;have hfb:=E.frozen;have hfe:=t.frozen;have HKZ:=Lib.hid hKZ;have HFo:=Lib.hid G;have P:=Lib.hid y;have u:=Lib.hid E;have O:=Lib.hid t;clear y E t hKZ G
   gi_wp2
   rw[HFo.out];refine⟨da,.inl ⟨_,_,rfl,run_takeDeferred HKZ.out,?_⟩⟩;have hd0:D≠n0:=aa
   have hd1:D≠n0+1:=aa
   have hd2:D≠n0+1+1:=aa
   have c1:=(yk hd0 P.out (.deferred none)).cell;have c2:=(yk hd1 u.out (.deferred none)).cell;have c3:=(yk hd2 O.out (.deferred none)).cell;exact⟨_,Yz c1 c2 c3,rfl,by rw[T];exact hBZ.trans (belowK_b (w:=w) hwn _ D _ _ aa HKZ.out rfl rfl)⟩
  ·rw[List.dropLast_concat]at J t
   rw[List.getLast?_concat]at E;have C:ve (Vd s.data.toList 0) ([],false)=some ((Sb z).1,(Sb z).2,x.1.2):=by
    obtain⟨r,hr⟩:=B;rw[<-hr,gg,sf,pH U,ig];show ve ((x.1.1.data.toList,x.1.2)::r) _=_;rw[ve,if_pos hxZ]
   have hat:2<=x.1.2:=by
    obtain⟨r,hr⟩:=B;exact H2 _ _ _ (la _) (x.1.1.data.toList,x.1.2) (by rw[<-hr,gg,ig];simp[we.pair])
   have hgl:=tD U;have hgv:=vO U;have hpl:z.length<=10000:=by
    obtain⟨r,hr⟩:=B;have h1Z:=CD _ s.data.toList 0 (la _);rw[<-hr,Ja,Hj,Ja,show s.data.toList.length=s.size from rfl]at h1Z;omega
   generalize R:Sb z=st at*;obtain⟨F,L⟩:=st;obtain⟨⟨p,at_⟩,hpZ⟩:=x;dsimp only at J t E C hat hgl hgv hpZ;replace E:Boxed W (n0+1) 3 (.int .i64 at_):=E;have hcl:=y.cell;have hcb:=E.cell;have hce:=t.cell;have hfl:=y.frozen;have hfb:=E.frozen;have hfe:=t.frozen;have HKZ:=Lib.hid hKZ;have P:=Lib.hid y;have u:=Lib.hid E;have HRZ:=Lib.hid C;clear y E hKZ C R hxZ U B hce hfe;cases L
   ·replace t:Boxed W (n0+1+1) 24 (.int .i64 0):=t
    have hce:=t.cell;have hfe:=t.frozen;have O:=Lib.hid t;clear t;have G:Pd s.data.toList=.ok (F.map fun p=>(p.1,trimB p.2)) at_:=by unfold Pd;rw[HRZ.out]
    have HFo:=Lib.hid G;clear G;obtain⟨a0,j,rfl,N⟩:∃a0 j,v=.slice a0 F.length j/\(F.length=0\/∃g,a0=some ⟨g,0,none⟩/\n0<=g/\F.length<=j):=by
     grind [Xn]
    obtain⟨n,hnZ⟩:∃n,F.length=n:=⟨_,rfl⟩;rw[hnZ]at P hcl J N hgl;have HNZ:=Lib.hid hnZ;have HAZ:=Lib.hid N;clear hnZ N
    gi_wp2
    go_wp2
    go_loopw [10,79] (fun _ i wr=>∃k:Nat,i=.int .i64 k/\k<=n/\Hid (Boxed wr n0 49 (.slice a0 n j))/\Hid (Boxed wr (n0+1) 3 (.int .i64 at_))/\Hid (Boxed wr (n0+1+1) 24 (.int .i64 0))/\Hid (wr.ownsRow n0 60 2 (.slice a0 n j) n (Ua ((F.take k).map (fun p=>(p.1,trimB p.2))++F.drop k)))/\Below n0 w wr/\Hid (wr.heap[D]?=some (.deferred (some []))))
     (fun _ i _=>n - (intOf i).toNat)
    case atStart=>grind [Lib.hid]
    case round=>
     clear hcl hcb hce hfl hfb hfe J P u O hBZ;obtain⟨k,rfl,hkZ,P,u,O,Y,hBZ,H⟩:=hrel;have hcl:=P.out.cell;have hcb:=u.out.cell;have hce:=O.out.cell;have hfl:=P.out.frozen;have hfb:=u.out.frozen;have hfe:=O.out.frozen;by_cases ea:k<n
     ·obtain⟨g,rfl,hg0,hcap⟩:∃g,a0=some ⟨g,0,none⟩/\n0<=g/\n<=j:=HAZ.out.resolve_left aa
      have hkF:k<F.length:=by rw[HNZ.out];exact ea
      obtain⟨q,hqZ⟩:∃q,F[k]=q:=⟨_,rfl⟩;have M:Ua ((F.take k).map (fun p=>(p.1,trimB p.2))++F.drop k)=Ua ((F.take k).map (fun p=>(p.1,trimB p.2)))++([.string ⟨q.1.toArray⟩,.string ⟨q.2.toArray⟩]++Ua (F.drop (k+1))):=by
       rw[ld hkF,hqZ];simp[Ua]
      have hml:(Ua ((F.take k).map (fun p=>(p.1,trimB p.2)))).length=k* 2:=by rw[bk,Hj,Ac];omega
      have J:=Y.out;rw[M]at J;have Q:=J.cellAt (k* 2+1) aa;rw[He aa,hml,show k* 2+1 - k* 2=1 by omega]at Q;have S:=Q;have hfro:=J.frozenAt (k* 2+1);have Z:=Lib.hid J;have hqv:=hgv q ia;have hqs:(ByteArray.mk q.2.toArray).size<=1000000000:=by show q.2.length<=_;omega
      have hne1:n0≠g:=fun e=>P.out.not_row ga Y.out (by rw[e];rfl)
      have hne2:n0+1≠g:=fun e=>u.out.not_row ga Y.out (by rw[e];rfl)
      have hne3:n0+1+1≠g:=fun e=>O.out.not_row ga Y.out (by rw[e];rfl)
      have X:=Lib.hid hml;have HKF:=Lib.hid hkF;have HQZ:=Lib.hid hqZ;clear Q J M hml hqZ;have hki:(k:Int)<(n:Int):=aa
      go_wp2;have hglt:=Et wr _ S;have hclq:=fun d os=>cell_regrown hcl d os
      have hcgq:=fun d os=>cell_regrown S d os
      (refine rS 8 ca ca ?_;simp only[Ft,List.take_zero];(repeat (first|go_big_quiet_skip|(go_big_quiet_want;go_big_quiet_op;first|go_big_quiet_on|(apply Exists.intro;refine⟨fun _=>?_,?_⟩;(· (go_at_call 138;exact xS (zdt _ · hqs)));go_big_quiet_on))));refine wpQuiet_nil ?_;intro wqZ o;simp only[ir,Af])
      have hcg5:=(o.cell (p:=⟨g,k* 2+1,none⟩) hglt).trans S;have hfg5:=(o.frozen (p:=⟨g,k* 2+1,none⟩) hglt).trans hfro;have hL5:=(o.block _ P.out.lt).trans P.out;have hB5:=(o.block _ u.out.lt).trans u.out;have hE5:=(o.block _ O.out.lt).trans O.out;have hK5:=(o.block D (xg.1 H.out).1).trans H.out;have hR5:=(Sn Z.out o).stored (k* 2+1) (.string ⟨(trimB q.2).toArray⟩);have hR6:=Lib.hid hR5.1;have HL5:=Lib.hid hL5;have HB5:=Lib.hid hB5;have HE5:=Lib.hid hE5;have HK5:=Lib.hid hK5;have I:=(hBZ.trans (o.mono (Ob hwn hBZ.size))).setCell (p:=⟨g,k* 2+1,none⟩) hg0 (.string ⟨(trimB q.2).toArray⟩);have V:=Lib.hid I;clear hclq hcgq hL5 hB5 hE5 hK5 hR5 I hcl hcb hce hfl hfb hfe S hfro;go_wp2;go_roundw
      case rel=>
       refine⟨k+1,by go_num,aa,Lib.hid ((Below.heap_setCell _ _ _ _ hne1).trans HL5.out),Lib.hid ((Below.heap_setCell _ _ _ _ hne2).trans HB5.out),Lib.hid ((Below.heap_setCell _ _ _ _ hne3).trans HE5.out),Lib.hid ?_,V.out,Lib.hid ((Below.heap_setCell _ _ _ _ ?_).trans HK5.out)⟩
       ·have h:=hR6.out
        have e:(Ua ((F.take k).map (fun p:ec=>(p.1,trimB p.2)))++([Value.string ⟨q.1.toArray⟩,Value.string ⟨q.2.toArray⟩]++Ua (F.drop (k+1)))).set (k* 2+1) (Value.string ⟨(trimB q.2).toArray⟩)=Ua ((F.take (k+1)).map (fun p:ec=>(p.1,trimB p.2))++F.drop (k+1)):=by
         rw[io _ _ (by rw[X.out];omega),X.out,show k* 2+1 - k* 2=1 by omega,Km HKF.out,HQZ.out];simp[Ua]
        grind
       ·intro e
        subst e;have h:=H.out;have h2Z:=Z.out;rcases h2Z.2 with⟨h'Z,_⟩|⟨g'Z,cap',cur,h'Z,_,hhZ,_⟩<;>grind
      case measure=>simp[intOf];omega
     ·obtain rfl:k=n:=aa
      go_wp2
      go_region
      all_goals
       go_wp2;rw[HFo.out];have hK2:=(((KeepsOthers.setCell wr ⟨n0,0,none⟩ (.slice a0 k j)).trans (KeepsOthers.setCell _ ⟨n0+1,0,none⟩ (.int .i64 at_))).trans (KeepsOthers.setCell _ ⟨n0+1+1,0,none⟩ (.int .i64 0))).same D _ H.out rfl;have h1Z:=(((P.out.set (.slice a0 k j)).other (show n0≠n0+1 by omega) (.int .i64 at_)).other (show n0≠n0+1+1 by omega) (.int .i64 0));have h2Z:=(((u.out.other (show n0+1≠n0 by omega) (.slice a0 k j)).set (.int .i64 at_)).other (show n0+1≠n0+1+1 by omega) (.int .i64 0));have h3Z:=(((O.out.other (show n0+1+1≠n0 by omega) (.slice a0 k j)).other (show n0+1+1≠n0+1 by omega) (.int .i64 at_)).set (.int .i64 0));have h4Z:=((hBZ.setCell (p:=⟨n0,0,none⟩) (la _) (.slice a0 k j)).setCell (p:=⟨n0+1,0,none⟩) da (.int .i64 at_)).setCell (p:=⟨n0+1+1,0,none⟩) Sa (.int .i64 0);have I:=Qv P.out ga Y.out (.slice a0 k j);have M:=Qv (u.out.other (show n0+1≠n0 by omega) (.slice a0 k j)) ga I (.int .i64 at_);have V:=Qv ((O.out.other (show n0+1+1≠n0 by omega) (.slice a0 k j)).other (show n0+1+1≠n0+1 by omega) (.int .i64 at_)) ga M (.int .i64 0);have o:=ownsRow_putObj V (.deferred none) hK2 rfl;rw[Rf (by rw[HNZ.out];omega),Ai (by rw[HNZ.out];omega),Ye]at o;refine⟨da,.inl ⟨_,_,rfl,run_takeDeferred hK2,?_⟩⟩;have hd0:D≠n0:=aa
       have hd1:D≠n0+1:=aa
       have hd2:D≠n0+1+1:=aa
       have c1:=(yk hd0 h1Z (.deferred none)).cell;have c2:=(yk hd1 h2Z (.deferred none)).cell;have c3:=(yk hd2 h3Z (.deferred none)).cell;exact⟨_,Yz c1 c2 c3,_,rfl,by rw[T,Hj,HNZ.out];exact o,by rw[T];exact(h4Z.drew).trans (belowK_b (w:=w) hwn _ D _ _ aa hK2 rfl rfl)⟩
   ·replace t:Boxed W (n0+1+1) 24 (.int .i64 6):=t
    have hce:=t.cell;have hfe:=t.frozen;have O:=Lib.hid t;clear t;have G:Pd s.data.toList=.long:=by unfold Pd;rw[HRZ.out]
    have HFo:=Lib.hid G;clear G
    gi_wp2
    go_wp2
    go_region
    all_goals
     go_wp2;rw[HFo.out];have hK2:=(((KeepsOthers.setCell W ⟨n0,0,none⟩ (.slice none 0 0)).trans (KeepsOthers.setCell _ ⟨n0+1,0,none⟩ (.int .i64 0))).trans (KeepsOthers.setCell _ ⟨n0+1+1,0,none⟩ (.int .i64 6))).same D _ HKZ.out rfl;have h1Z:=(((P.out.set (.slice none 0 0)).other (show n0≠n0+1 by omega) (.int .i64 0)).other (show n0≠n0+1+1 by omega) (.int .i64 6));have h2Z:=(((u.out.other (show n0+1≠n0 by omega) (.slice none 0 0)).set (.int .i64 0)).other (show n0+1≠n0+1+1 by omega) (.int .i64 6));have h3Z:=(((O.out.other (show n0+1+1≠n0 by omega) (.slice none 0 0)).other (show n0+1+1≠n0+1 by omega) (.int .i64 0)).set (.int .i64 6));have h4Z:=((hBZ.setCell (p:=⟨n0,0,none⟩) (la _) (.slice none 0 0)).setCell (p:=⟨n0+1,0,none⟩) da (.int .i64 0)).setCell (p:=⟨n0+1+1,0,none⟩) ia (.int .i64 6);refine⟨da,.inl ⟨_,_,rfl,run_takeDeferred hK2,?_⟩⟩;have hd0:D≠n0:=aa
     have hd1:D≠n0+1:=aa
     have hd2:D≠n0+1+1:=aa
     have c1:=(yk hd0 h1Z (.deferred none)).cell;have c2:=(yk hd1 h2Z (.deferred none)).cell;have c3:=(yk hd2 h3Z (.deferred none)).cell;exact⟨_,Yz c1 c2 c3,rfl,by rw[T];exact(h4Z.drew).trans (belowK_b (w:=w) hwn _ D _ _ aa hK2 rfl rfl)⟩
end Go.Proofs.YtglaihdcndcmkaaGreatDoor

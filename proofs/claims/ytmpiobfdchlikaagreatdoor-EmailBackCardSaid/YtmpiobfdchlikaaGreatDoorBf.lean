/- Texts of this proof, merged. -/
import Derived.Test.YtmpiobfdchlikaaGreatDoorBe
import Derived.WalkKit
import Derived.WalkSpells
import Derived.WalkLawsBesides
import Derived.Lib.Hide
import Derived.BigQuiet
import Derived.Lib.QuietBelow
import Derived.ShutString
import Derived.Deep.Light
import Derived.Lib.UnsafeStr
import Derived.Lib.Strings
import Derived.Lib.IndexBytes
import Derived.Lib.IndexMore
import Derived.Lib.SlTrimSet
import Derived.Shelf.Strings.Builder1
import Derived.Shelf.Strings.Builder2
import Derived.Shelf.Strings.Trim
import Derived.Shelf.Small.Utf8
import Derived.Shelf.Small.Strs
import Derived.Shelf.Small.Wraps
import Derived.Shelf.Strings.BuilderF
import Derived.Shelf.Strings.BuilderK
import Derived.Shelf.Utf8.RuneCount
import Derived.Shelf.Strings.Builder2Cap
import Derived.Shelf.Strings.Search1
import Derived.Shelf.Strings.Search2
import Derived.Shelf.Strings.Search3
import Derived.Shelf.Strings.Cut
import Derived.Shelf.Strings.Count
import Derived.Shelf.LaysM
import Derived.Shelf.Strings.Shaped
import Derived.Shelf.Strings.LastIndex
import Derived.Shelf.Strings.Prefix
import Derived.Shelf.Strings.Split
import Derived.Shelf.Strings.Replace
import Derived.Shelf.Strings.SplitShaped
import Derived.Shelf.Unicode.Decode
import Derived.Shelf.Strings.Runes
import Derived.Shelf.Strings.RuneCount
import Derived.Shelf.Strings.AsciiSet
import Derived.Shelf.Unicode.DecodeSlow
import Derived.Shelf.Unicode.DecodeAny
import Derived.Shelf.Unicode.DecodeLast
import Derived.Shelf.Strings.BuilderCap
import Derived.Shelf.Slices.Turned
import Derived.Ground.PaProg
import Derived.Shelf.Path.Small
import Derived.Test.YtmpiobfdchlikaaGreatDoorProg
import Derived.Test.YtmpiobfdchlikaaGreatDoorRows
import Derived.Lib.FrozenHead2
import Derived.Lib.OthersKept
import Derived.Lib.Builder
import Derived.Laws.Externs
import Derived.Shelf.Strings.SlTrimAscii
import Derived.Laws.OwnMore
import Derived.Laws.IdiomStrings
import Derived.RangeFuncNested
import Derived.RangeFuncBound
import Derived.RangeFuncCalls
import Derived.RangeFuncLeaves
import Derived.RangeFuncBox
import Derived.Shelf.Abstract
import Derived.Shelf.RegionOpen
import Derived.OwnWalkIn
import Derived.TacticsInMore
import Derived.LoopNIn
import Derived.LoopIn
import Derived.ScopeJumps
import Derived.StillTail
import Derived.OwnWalk
set_option linter.all false
set_option maxHeartbeats 4000000
namespace Nun
open Go Go.RowKit
instance decU8{p:UInt8->Prop}[DecidablePred p]:Decidable (∀c,p c):=
 decidable_of_iff (∀i:Fin 256,p ⟨⟨i⟩⟩) ⟨fun h c=>h c.toBitVec.toFin,fun h i=>h _⟩
def Ret(v:Value)(w:World)(e:Ending)(w':World):Prop:=e=.returned v/\Below w.heap.size w w'
def Same(v:Value)(w:World)(e:Ending)(w':World):Prop:=e=.returned v/\w=w'
theorem r1{v v':Value}(h:v=v'):Ending.returned v=.returned v':=by rw[h]
theorem t2{a b c d:Value}(h:a=b)(h':c=d):Ending.returned (.tuple #[a,c])=.returned (.tuple #[b,d]):=by rw[h,h']
theorem t3{a b c d e f:Value}(h:a=b)(h':c=d)(h'':e=f):Ending.returned (.tuple #[a,c,e])=.returned (.tuple #[b,d,f]):=by rw[h,h',h'']
theorem vi{k:IntKind}{a b:Int}(h:a=b):Value.int k a=.int k b:=by rw[h]
theorem vb{a b:Bool}(h:a=b):Value.bool a=.bool b:=by rw[h]
theorem vs{a b:List UInt8}(h:a=b):Value.string ⟨a.toArray⟩=.string ⟨b.toArray⟩:=by rw[h]
theorem vS{s:ByteArray}{b:List UInt8}(h:s.data.toList=b):Value.string s=.string ⟨b.toArray⟩:=by
 subst h;rfl
theorem yhy{P:Program}{f:FuncId}{args:Array Value}{w:World}{d:Nat}{os:Array Obj}{v:Value}(h:∀w,Calls P f args w (Ret v w)):
 Calls P f args (Go.Sort.grow (redrawn w d) os) fun e w''=>e=.returned v/\∃p:Regrown,w''=Go.Sort.grow (redrawn w p.d) p.os:=Calls.regrown_of (h _)
theorem below_drewN'(w:World)(n:Nat):Below w.heap.size w (w.drewN n):=⟨rfl,rfl,rfl,wab _,fun _ _=>rfl⟩
theorem yn8{w w1 w2:World}(h:Below w.heap.size w w1)(k:Below w1.heap.size w1 w2):Below w.heap.size w w2:=h.trans (k.mono h.size)
theorem yn9{P:Program}{src dst e:TypeId}(hs:P.underlying src=some (.slice e))(he:P.underlying e=some (.int .u8))(hd:P.underlying dst=some .string)(w:World)(x y:UInt8):
 (convert src dst (.slice (some ⟨w.heap.size,0,none⟩) 2 2)).run P (w.alloc (.cells #[.int .u8 x.toNat,.int .u8 y.toNat] e)).drew=.ok (.string ⟨#[x,y]⟩) (w.alloc (.cells #[.int .u8 x.toNat,.int .u8 y.toNat] e)).drew:=
 run_convert_bytes_back _ src dst e ⟨w.heap.size,0,none⟩ 2 [x,y] hs he hd (by
  intro j hj
  match j,hj with
  |0,hj=>simp[Addr.add]
  |1,hj=>simp[Addr.add])
theorem yhz{P:Program}{ops:Array Oper}{rest:List Oper}{o:Oper}{a:Act}{Q:Exit->Act->World->Prop}(hgd:o.guard=none)(s x:Operand)(t:TypeId)
 (ho:o.op=.call {callee:=.builtin .append,args:=#[s,x],argTypes:=#[t,t]})
 (e:TypeId) (z:Value) (size bytes:Nat) (ht:P.underlying t=some (.slice e)) (hi:(P.info? e).map (fun i=>(i.zero,i.size,i.bytes))=some (some z,size,bytes))
 (hzs:z.cells.size=size) (hsz:0<size) (B:Nat) (w:World) (v:Value) (n:Nat) (xs:List Value) (hs:a.eval s=v) (hown:w.ownsRow B e size v n xs)
 (cells:List Value) (hcs:cells.length=size) (h1:∀u∈cells,u.oneCell'=true) (hx:a.eval x=.slice (some ⟨w.heap.size,0,none⟩) 1 1)
 (hmax:(n+1)* bytes<=140737488355328) (hn:n+1<=140737488355328) (hB:B<=w.heap.size)
 (h:∀g cap w',B<=g->w'.ownsRow B e size (.slice (some ⟨g,0,none⟩) (n+1) cap) (n+1) (xs++cells)->w.grownBy w' v.ownBlock->Below B w w'->w.heap.size<w'.heap.size->
   wpList P ops Q rest (a.put o.dst (.slice (some ⟨g,0,none⟩) (n+1) cap)) w'):
 wpList P ops Q (o::rest) a (w.alloc (.cells cells.toArray e)):=by
 obtain⟨i0,hi0,hz0,hz1,hz2⟩:=info_parts hi;refine wpList_append_own _ hgd s x t ho B e i0 z size bytes ht hi0 hz0 hz1 hz2 hzs hsz v n xs hs (hown.alloc _) ⟨w.heap.size,0,none⟩ 1 1 cells hx (by omega) ?_ h1 (by unfold maxLen;omega) hmax (by simp;omega) ?_
 ·intro j u hu
  have:(w.alloc (.cells cells.toArray e)).heap[w.heap.size]?=some (.cells cells.toArray e (0,0)):=heap_alloc_new w _;have hadd:(⟨w.heap.size,0,none⟩:Addr).add j=⟨w.heap.size,j,none⟩:=by unfold Addr.add;split<;>simp_all
  rw[hadd,cell_of_row _ _ _ _ _ _ this];simpa using hu
 ·intro v' w' hown' hg _
  have hB2:Below B w w':=(((Below.refl B w).alloc hB _).grown hg (by simp;omega) (fun k hk=>(hown.lt k hk).1));have hsz:=hg.size;simp at hsz;rcases hown'.2 with⟨_,h0⟩|⟨g,cap,cur,rfl,hg0,r⟩
  ·omega
  ·exact h g cap w' hg0 hown' ⟨hg.os,hg.tape,hg.output,by omega,fun k hk hne=>(hg.block k (by simp;omega) hne).trans (Lib.alloc_old w _ k hk)⟩ hB2 (by omega)
theorem yoa{P:Program}{src dst e:TypeId}(hs:P.underlying src=some (.slice e))(he:P.underlying e=some (.int .u8))(hd:P.underlying dst=some .string){w:World}{B:Nat}{v:Value}{l:List UInt8}
 (h:w.ownsRow B e 1 v l.length (Lib.byteCells l)):(convert src dst v).run P w=.ok (.string ⟨l.toArray⟩) w:=by
 rcases h.2 with⟨rfl,h0⟩|⟨g,cap,cur,rfl,r⟩
 ·have:l=[]:=by simpa using h0
  subst this;exact run_convert_bytes_nil (w:=w) src e hs he 0 0 dst hd
 ·refine run_convert_bytes_back _ src dst e ⟨g,0,none⟩ cap l hs he hd fun j hj=>?_
  exact h.cells (g:=g) rfl j _ (by simp[Lib.byteCells,hj])
def OwnB(B:Nat)(e:TypeId)(v:Value)(l:List UInt8)(w:World):Prop:=w.ownsRow B e 1 v l.length (Lib.byteCells l)
theorem OwnB.nil(B:Nat)(e:TypeId)(w:World):OwnB B e (.slice none 0 0) [] w:=wec _ _ _ _
theorem OwnB.kept{B:Nat}{e:TypeId}{v:Value}{l:List UInt8}{w w':World}(h:OwnB B e v l w)(k:Below w.heap.size w w'):OwnB B e v l w':=
 World.ownsRow.kept (row:=none) h ⟨k.os,k.tape,k.output,k.size,fun i hi _=>k.block i hi⟩ (by cases v.ownBlock<;>simp)
theorem byteCells_snoc(l:List UInt8)(c:UInt8):Lib.byteCells (l++[c])=Lib.byteCells l++[.int .u8 c.toNat]:=by simp[Lib.byteCells]
theorem yh0{P:Program}{ops:Array Oper}{rest:List Oper}{o:Oper}{a:Act}{Q:Exit->Act->World->Prop}(hgd:o.guard=none)(s x:Operand)(t:TypeId)
 (ho:o.op=.call {callee:=.builtin .append,args:=#[s,x],argTypes:=#[t,t]})
 (e:TypeId) (ht:P.underlying t=some (.slice e)) (hi:(P.info? e).map (fun i=>(i.zero,i.size,i.bytes))=some (some (.int .u8 0),1,1))
 (B:Nat) (w:World) (v:Value) (l:List UInt8) (hs:a.eval s=v) (hown:OwnB B e v l w) (c:UInt8)
 (hx:a.eval x=.slice (some ⟨w.heap.size,0,none⟩) 1 1) (hmax:l.length+1<=140737488355328) (hB:B<=w.heap.size)
 (h:∀g cap w',B<=g->OwnB B e (.slice (some ⟨g,0,none⟩) (l.length+1) cap) (l++[c]) w'->w.grownBy w' v.ownBlock->Below B w w'->w.heap.size<w'.heap.size->
   wpList P ops Q rest (a.put o.dst (.slice (some ⟨g,0,none⟩) (l.length+1) cap)) w'):
 wpList P ops Q (o::rest) a (w.alloc (.cells #[.int .u8 c.toNat] e)):=
 yhz hgd s x t ho e (.int .u8 0) 1 1 ht hi rfl (by decide) B w v _ _ hs hown [.int .u8 c.toNat] rfl (by simp[Value.oneCell']) hx (by omega) (by omega) hB
  fun g cap w' h1 h2 h3 h4 h5=>h g cap w' h1 (by unfold OwnB;rw[byteCells_snoc,wb0];exact h2) h3 h4 h5
theorem ext1(s:ByteArray)(k:Nat)(h:k<s.size):(s.extract k (k+1)).data.toList=[s[k]]:=by
 have h':k<s.data.toList.length:=h;rw[Lib.extract_data,wcm h',wbs];rfl
theorem zkj(l:List UInt8):(ByteArray.mk l.toArray).size=l.length:=rfl
end Nun
namespace Nun
def za2(c:UInt8):Bool:=c==32||c==9
def zqk(c:UInt8):Bool:=(65<=c&&c<=90)||(97<=c&&c<=122)||(48<=c&&c<=57)||c==45
def zji(l:List UInt8):Bool:=!l.isEmpty&&decide (l.length<=32)&&l.all zqk
def zeb(c:UInt8):Bool:=c==9||(32<=c&&c<=126)
def yh1(c:UInt8):UInt8:=if 65<=c&&c<=90 then c+32 else c
def zc0(l:List UInt8):List UInt8:=l.map yh1
def zdp(l:List UInt8):List UInt8:=(l.reverse.dropWhile za2).reverse
def trimB(l:List UInt8):List UInt8:=zdp (l.dropWhile za2)
def crAt:List UInt8->Option Nat
 |[]=>none
 |c::r=>if c=13/\r.head?=some 10 then some 0 else(crAt r).map (·+1)
theorem zh0:∀{l:List UInt8}{k:Nat},crAt l=some k->k+2<=l.length
 |c::r,k,h=>by
  rw[crAt]at h;split at h
  ·rename_i hc
   cases h
   match r,hc with
   |d::r,_=>simp
  ·rcases hr:crAt r with _|j
   ·rw[hr]at h;cases h
   ·rw[hr]at h
    have:=zh0 hr;cases h;simp;omega
theorem zr0:∀{l:List UInt8}{k:Nat},crAt l=some k->l[k]?=some 13/\l[k+1]?=some 10
 |c::r,k,h=>by
  rw[crAt]at h;split at h
  ·rename_i hc
   cases h
   match r,hc with
   |d::r,hc=>simp at hc⊢;exact hc
  ·rcases hr:crAt r with _|j
   ·rw[hr]at h;cases h
   ·rw[hr]at h
    have:=zr0 hr;cases h;simpa using this
theorem zop:∀{l:List UInt8}{k:Nat},crAt l=some k->∀i:Nat,i<k->¬(l[i]?=some 13/\l[i+1]?=some 10)
 |c::r,k,h,i,hi=>by
  rw[crAt]at h;split at h
  ·cases h;omega
  ·rename_i hc
   rcases hr:crAt r with _|j
   ·rw[hr]at h;cases h
   ·rw[hr]at h
    obtain rfl:j+1=k:=by simpa using h
    match i with
    |0=>
     intro hh;apply hc;simp at hh;exact⟨hh.1,by rw[List.head?_eq_getElem?];exact hh.2⟩
    |i+1=>simpa using zop hr i (by omega)
theorem zxl:∀{l:List UInt8},crAt l=none->∀i:Nat,¬(l[i]?=some 13/\l[i+1]?=some 10)
 |[],_,i=>by simp
 |c::r,h,i=>by
  rw[crAt]at h;split at h
  ·cases h
  ·rename_i hc
   have hr:crAt r=none:=by simpa using h
   match i with
   |0=>
    intro hh;apply hc;simp at hh;exact⟨hh.1,by rw[List.head?_eq_getElem?];exact hh.2⟩
   |i+1=>simpa using zxl hr i
theorem yu3{l:List UInt8}{k:Nat}(h:l[k]?=some 13/\l[k+1]?=some 10)(hf:∀i:Nat,i<k->¬(l[i]?=some 13/\l[i+1]?=some 10)):crAt l=some k:=by
 rcases hc:crAt l with _|j
 ·exact absurd h (zxl hc k)
 ·have h1:=zr0 hc
  have h2:=zop hc;congr 1;rcases Nat.lt_trichotomy j k with hlt|rfl|hlt
  ·exact absurd h1 (hf j hlt)
  ·rfl
  ·exact absurd h (h2 k hlt)
theorem z0a:∀l:List UInt8,Go.Lib.index l [13,10]=match crAt l with|some k=>(k:Int)|none=>-1
 |[]=>rfl
 |c::r=>by
  rw[Go.Lib.index,z0a r,crAt];have hp:List.isPrefixOf [13,10] (c::r)=decide (c=13/\r.head?=some 10):=by
   match r with
   |[]=>simp[List.isPrefixOf]
   |d::r=>rw[wdm];simp[List.isPrefixOf];constructor<;>(rintro⟨rfl,rfl⟩;exact⟨rfl,rfl⟩)
  rw[hp];by_cases h:c=13/\r.head?=some 10
  ·simp[h]
  ·rw[if_neg (by simpa using h),if_neg h]
   rcases crAt r with _|j
   ·simp
   ·simp
theorem yao(l:List UInt8):Go.Lib.cut l [13,10]=match crAt l with|some k=>(l.take k,l.drop (k+2),true)|none=>(l,[],false):=by
 unfold Go.Lib.cut;rw[z0a];rcases h:crAt l with _|k
 ·simp
 ·simp
def zdb(b:UInt8):List UInt8->Option Nat
 |[]=>none
 |c::r=>if c=b then some 0 else(zdb b r).map (·+1)
theorem zr1{b:UInt8}:∀{l:List UInt8}{k:Nat},zdb b l=some k->k<l.length
 |c::r,k,h=>by
  rw[zdb]at h;split at h
  ·cases h;simp
  ·rcases hr:zdb b r with _|j
   ·rw[hr]at h;cases h
   ·rw[hr]at h
    have:=zr1 hr;cases h;simp;omega
theorem zxm{b:UInt8}:∀{l:List UInt8}{k:Nat},zdb b l=some k->l[k]?=some b
 |c::r,k,h=>by
  rw[zdb]at h;split at h
  ·rename_i hc;cases h;simp[hc]
  ·rcases hr:zdb b r with _|j
   ·rw[hr]at h;cases h
   ·rw[hr]at h
    have:=zxm hr;cases h;simpa using this
theorem zt6{b:UInt8}:∀{l:List UInt8}{k:Nat},zdb b l=some k->∀i:Nat,i<k->l[i]?≠some b
 |c::r,k,h,i,hi=>by
  rw[zdb]at h;split at h
  ·cases h;omega
  ·rename_i hc
   rcases hr:zdb b r with _|j
   ·rw[hr]at h;cases h
   ·rw[hr]at h
    obtain rfl:j+1=k:=by simpa using h
    match i with
    |0=>simpa using hc
    |i+1=>simpa using zt6 hr i (by omega)
theorem zxn{b:UInt8}:∀{l:List UInt8},zdb b l=none->∀i:Nat,l[i]?≠some b
 |[],_,i=>by simp
 |c::r,h,i=>by
  rw[zdb]at h;split at h
  ·cases h
  ·rename_i hc
   have hr:zdb b r=none:=by simpa using h
   match i with
   |0=>simpa using hc
   |i+1=>simpa using zxn hr i
theorem z0b(b:UInt8):∀l:List UInt8,Go.Lib.index l [b]=match zdb b l with|some k=>(k:Int)|none=>-1
 |[]=>rfl
 |c::r=>by
  rw[Go.Lib.index,z0b b r,zdb];have hp:List.isPrefixOf [b] (c::r)=decide (c=b):=by
   rw[wdm];simp[List.isPrefixOf];exact⟨fun h=>h.symm,fun h=>h.symm⟩
  rw[hp];by_cases h:c=b
  ·simp[h]
  ·rw[if_neg (by simpa using h),if_neg h]
   rcases zdb b r with _|j
   ·simp
   ·simp
theorem z2t(b:UInt8)(l:List UInt8):Go.Lib.cut l [b]=match zdb b l with|some k=>(l.take k,l.drop (k+1),true)|none=>(l,[],false):=by
 unfold Go.Lib.cut;rw[z0b];rcases h:zdb b l with _|k
 ·simp
 ·simp
abbrev Fld:=List UInt8×List UInt8
def za0(st:List Fld×Bool)(l:List UInt8):Option (List Fld×Bool):=
 if l.all zeb=false then none
 else if(l.head?.map za2).getD false then
  (match st.1.getLast? with
   |none=>none
   |some p=>some (st.1.dropLast++[(p.1,p.2++l)],st.2||decide (998<l.length)))
 else match zdb 58 l with
  |none=>none
  |some k=>if zji (l.take k)then some (st.1++[(l.take k,l.drop (k+1))],st.2||decide (998<l.length))else none
def itL(l:List UInt8)(at_:Nat):List (List UInt8×Nat):=
 match h:crAt l with
 |none=>[]
 |some k=>(l.take k,at_+k+2)::if k=0 then[]else itL (l.drop (k+2)) (at_+k+2)
termination_by l.length
decreasing_by have:=zh0 h;simp;omega
theorem zfo{l:List UInt8}{a:Nat}(h:crAt l=none):itL l a=[]:=by
 rw[itL];split
 ·rfl
 ·rename_i h';rw[h]at h';cases h'
theorem zhg{l:List UInt8}{a k:Nat}(h:crAt l=some k):itL l a=(l.take k,a+k+2)::if k=0 then[]else itL (l.drop (k+2)) (a+k+2):=by
 rw[itL];split
 ·rename_i h';rw[h]at h';cases h'
 ·rename_i h';rw[h]at h';cases h';rfl
theorem yu4(n:Nat):∀(l:List UInt8)(a:Nat),l.length<=n->∀x∈itL l a,2<=x.2:=by
 induction n with
 |zero=>
  intro l a h x hx;rw[qz (l:=l) (by omega),zfo rfl]at hx;cases hx
 |succ n ih=>
  intro l a h x hx;rcases hc:crAt l with _|k
  ·rw[zfo hc]at hx;cases hx
  ·have:=zh0 hc
   rw[zhg hc]at hx;rcases waq.1 hx with rfl|hx
   ·show 2<=a+k+2;omega
   ·by_cases hk:k=0
    ·rw[if_pos hk]at hx;cases hx
    ·rw[if_neg hk]at hx;exact ih _ _ (by rw[wbc];omega) x hx
theorem zxo(n:Nat):∀(l:List UInt8)(a:Nat),l.length<=n->(itL l a).length<=l.length:=by
 induction n with
 |zero=>
  intro l a h;rw[qz (l:=l) (by omega),zfo rfl];simp
 |succ n ih=>
  intro l a h;rcases hc:crAt l with _|k
  ·rw[zfo hc];simp
  ·have:=zh0 hc
   rw[zhg hc,waf];by_cases hk:k=0
   ·rw[if_pos hk];simp;omega
   ·rw[if_neg hk]
    have h2:=ih (l.drop (k+2)) (a+k+2) (by rw[wbc];omega);rw[wbc]at h2;omega
theorem yh2(n:Nat):∀(l:List UInt8)(a:Nat),l.length<=n->∀x∈itL l a,x.1.length<=l.length:=by
 induction n with
 |zero=>
  intro l a h x hx;rw[qz (l:=l) (by omega),zfo rfl]at hx;cases hx
 |succ n ih=>
  intro l a h x hx;rcases hc:crAt l with _|k
  ·rw[zfo hc]at hx;cases hx
  ·have:=zh0 hc
   rw[zhg hc]at hx;rcases waq.1 hx with rfl|hx
   ·show(l.take k).length<=l.length;rw[wa2];omega
   ·by_cases hk:k=0
    ·rw[if_pos hk]at hx;cases hx
    ·rw[if_neg hk]at hx
     have h2:=ih _ _ (by rw[wbc];omega) x hx;rw[wbc]at h2;omega
def zb7:List (List UInt8×Nat)->List Fld×Bool->Option (List Fld×Bool×Nat)
 |[],_=>none
 |(ln,a)::r,st=>if ln=[]then some (st.1,st.2,a)else match za0 st ln with|none=>none|some st'=>zb7 r st'
def zbn(ls:List (List UInt8))(st:List Fld×Bool):Option (List Fld×Bool):=ls.foldlM za0 st
theorem zql(ls:List (List UInt8))(l:List UInt8)(st:List Fld×Bool):zbn (ls++[l]) st=(zbn ls st).bind fun s=>za0 s l:=by
 unfold zbn;rw[List.foldlM_append];simp[wed,List.foldlM_nil]
theorem zxp:∀(xs r:List (List UInt8×Nat))(st st':List Fld×Bool),(∀x∈xs,x.1≠[])->zbn (xs.map (·.1)) st=some st'->zb7 (xs++r) st=zb7 r st'
 |[],r,st,st',_,h=>by simp[zbn]at h;rw[h];rfl
 |(ln,a)::xs,r,st,st',hne,h=>by
  have hn:ln≠[]:=hne (ln,a) (by simp);rw[wax,zbn,wed]at h;obtain⟨s1,h1,h2⟩:=qb h;rw[wai,zb7,if_neg hn,h1];exact zxp xs r s1 st' (fun x hx=>hne x (by simp[hx])) h2
inductive Split where
 | form
 | long
 | ok (l:List Fld) (body:Nat)
def zbu(l:List UInt8):Split:=match zb7 (itL l 0) ([],false)with
 |none=>.form
 |some (_,true,_)=>.long
 |some (f,false,b)=>.ok (f.map fun p=>(p.1,trimB p.2)) b
end Nun
namespace Go.Proofs
open Go.Shelf
def Tryz.lays169_ren:Go.Shelf.Ren:=⟨fun|169=>28|n=>n,fun|70=>57|9=>9|0=>0|72=>59|37=>44|127=>93|3=>3|5=>5|n=>n,fun|n=>n⟩
theorem Tryz.lays169:Go.Proofs.Lays.n169 Tryz.prog Tryz.lays169_ren:={
 mixed:=by kernel_rfl
 f169:=Tryz.func28.trans (congrArg some (by kernel_rfl))
 t0:=Tryz.underlying0
 a0:=Tryz.isAgg0
 z0:=Tryz.sizeOf0
 v0:=Tryz.zeroValue0
 t3:=Tryz.underlying3
 a3:=Tryz.isAgg3
 z3:=Tryz.sizeOf3
 v3:=Tryz.zeroValue3
 t9:=Tryz.underlying9
 a9:=Tryz.isAgg9
 z9:=Tryz.sizeOf9
 v9:=Tryz.zeroValue9
 t37:=Tryz.underlying44
 a37:=Tryz.isAgg44
 z37:=Tryz.sizeOf44
 v37:=Tryz.zeroValue44
 t70:=Tryz.underlying57
 a70:=Tryz.isAgg57
 z70:=Tryz.sizeOf57
 v70:=Tryz.zeroValue57
 t72:=Tryz.underlying59
 a72:=Tryz.isAgg59
 z72:=Tryz.sizeOf59
 v72:=Tryz.zeroValue59
 t127:=Tryz.underlying93
 a127:=Tryz.isAgg93
 z127:=Tryz.sizeOf93
 v127:=Tryz.zeroValue93}
theorem Tryz.Builder_Extra_169:Builder.Extra Tryz.prog Tryz.lays169_ren:={
 sizeBuilder:=by kernel_rfl
 liesBuilder:=by kernel_rfl
 t5:=Tryz.underlying5
 a5:=Tryz.isAgg5
 z5:=Tryz.sizeOf5
 v5:=Tryz.zeroValue5
 infoByte:=by kernel_rfl
 cellsByte:=by kernel_rfl
 sizeByte:=by kernel_rfl
 neB5:=by decide}
def Tryz.lays161_ren:Go.Shelf.Ren:=⟨fun|161=>209|231=>202|227=>204|233=>205|235=>207|228=>225|197=>185|151=>226|260=>217|152=>230|137=>32|119=>232|224=>166|225=>165|217=>55|266=>105|n=>n,fun|9=>9|4=>4|3=>3|5=>5|117=>225|116=>224|0=>0|124=>228|105=>151|21=>21|119=>241|46=>155|139=>244|138=>243|n=>n,fun|3=>2|4=>3|n=>n⟩
theorem Tryz.lays161:Go.Proofs.Lays.n161 Tryz.prog Tryz.lays161_ren:={
 mixed:=by kernel_rfl
 f119:=Tryz.func232.trans (congrArg some (by kernel_rfl))
 f137:=Tryz.func32.trans (congrArg some (by kernel_rfl))
 f151:=Tryz.func226.trans (congrArg some (by kernel_rfl))
 f152:=Tryz.func230.trans (congrArg some (by kernel_rfl))
 f161:=Tryz.func209.trans (congrArg some (by kernel_rfl))
 f197:=Tryz.func185.trans (congrArg some (by kernel_rfl))
 f217:=Tryz.func55.trans (congrArg some (by kernel_rfl))
 f224:=Tryz.func166.trans (congrArg some (by kernel_rfl))
 f225:=Tryz.func165.trans (congrArg some (by kernel_rfl))
 f227:=Tryz.func204.trans (congrArg some (by kernel_rfl))
 f228:=Tryz.func225.trans (congrArg some (by kernel_rfl))
 f231:=Tryz.func202.trans (congrArg some (by kernel_rfl))
 f233:=Tryz.func205.trans (congrArg some (by kernel_rfl))
 f235:=Tryz.func207.trans (congrArg some (by kernel_rfl))
 f260:=Tryz.func217.trans (congrArg some (by kernel_rfl))
 f266:=Tryz.func105.trans (congrArg some (by kernel_rfl))
 t0:=Tryz.underlying0
 a0:=Tryz.isAgg0
 z0:=Tryz.sizeOf0
 v0:=Tryz.zeroValue0
 t3:=Tryz.underlying3
 a3:=Tryz.isAgg3
 z3:=Tryz.sizeOf3
 v3:=Tryz.zeroValue3
 t4:=Tryz.underlying4
 a4:=Tryz.isAgg4
 z4:=Tryz.sizeOf4
 v4:=Tryz.zeroValue4
 t5:=Tryz.underlying5
 a5:=Tryz.isAgg5
 z5:=Tryz.sizeOf5
 v5:=Tryz.zeroValue5
 t9:=Tryz.underlying9
 a9:=Tryz.isAgg9
 z9:=Tryz.sizeOf9
 v9:=Tryz.zeroValue9
 t21:=Tryz.underlying21
 a21:=Tryz.isAgg21
 z21:=Tryz.sizeOf21
 v21:=Tryz.zeroValue21
 t46:=Tryz.underlying155
 a46:=Tryz.isAgg155
 z46:=Tryz.sizeOf155
 v46:=Tryz.zeroValue155
 t105:=Tryz.underlying151
 a105:=Tryz.isAgg151
 z105:=Tryz.sizeOf151
 v105:=Tryz.zeroValue151
 t116:=Tryz.underlying224
 a116:=Tryz.isAgg224
 z116:=Tryz.sizeOf224
 t117:=Tryz.underlying225
 a117:=Tryz.isAgg225
 z117:=Tryz.sizeOf225
 v117:=Tryz.zeroValue225
 t119:=Tryz.underlying241
 a119:=Tryz.isAgg241
 z119:=Tryz.sizeOf241
 t124:=Tryz.underlying228
 a124:=Tryz.isAgg228
 z124:=Tryz.sizeOf228
 v124:=Tryz.zeroValue228
 t138:=Tryz.underlying243
 a138:=Tryz.isAgg243
 z138:=Tryz.sizeOf243
 v138:=Tryz.zeroValue243
 t139:=Tryz.underlying244
 a139:=Tryz.isAgg244
 z139:=Tryz.sizeOf244
 v139:=Tryz.zeroValue244
 g3:=by kernel_rfl
 g4:=by kernel_rfl}
def Tryz.lays160_ren:Go.Shelf.Ren:=⟨fun|160=>172|232=>203|231=>202|227=>204|234=>206|233=>205|236=>208|235=>207|228=>225|271=>227|151=>226|197=>185|120=>231|152=>230|260=>217|137=>32|119=>232|224=>166|225=>165|217=>55|266=>105|n=>n,fun|9=>9|4=>4|3=>3|5=>5|117=>225|116=>224|0=>0|124=>228|21=>21|105=>151|46=>155|119=>241|139=>244|138=>243|n=>n,fun|3=>2|4=>3|n=>n⟩
theorem Tryz.lays160:Go.Proofs.Lays.n160 Tryz.prog Tryz.lays160_ren:={
 mixed:=by kernel_rfl
 f119:=Tryz.func232.trans (congrArg some (by kernel_rfl))
 f120:=Tryz.func231.trans (congrArg some (by kernel_rfl))
 f137:=Tryz.func32.trans (congrArg some (by kernel_rfl))
 f151:=Tryz.func226.trans (congrArg some (by kernel_rfl))
 f152:=Tryz.func230.trans (congrArg some (by kernel_rfl))
 f160:=Tryz.func172.trans (congrArg some (by kernel_rfl))
 f197:=Tryz.func185.trans (congrArg some (by kernel_rfl))
 f217:=Tryz.func55.trans (congrArg some (by kernel_rfl))
 f224:=Tryz.func166.trans (congrArg some (by kernel_rfl))
 f225:=Tryz.func165.trans (congrArg some (by kernel_rfl))
 f227:=Tryz.func204.trans (congrArg some (by kernel_rfl))
 f228:=Tryz.func225.trans (congrArg some (by kernel_rfl))
 f231:=Tryz.func202.trans (congrArg some (by kernel_rfl))
 f232:=Tryz.func203.trans (congrArg some (by kernel_rfl))
 f233:=Tryz.func205.trans (congrArg some (by kernel_rfl))
 f234:=Tryz.func206.trans (congrArg some (by kernel_rfl))
 f235:=Tryz.func207.trans (congrArg some (by kernel_rfl))
 f236:=Tryz.func208.trans (congrArg some (by kernel_rfl))
 f260:=Tryz.func217.trans (congrArg some (by kernel_rfl))
 f266:=Tryz.func105.trans (congrArg some (by kernel_rfl))
 f271:=Tryz.func227.trans (congrArg some (by kernel_rfl))
 t0:=Tryz.underlying0
 a0:=Tryz.isAgg0
 z0:=Tryz.sizeOf0
 v0:=Tryz.zeroValue0
 t3:=Tryz.underlying3
 a3:=Tryz.isAgg3
 z3:=Tryz.sizeOf3
 v3:=Tryz.zeroValue3
 t4:=Tryz.underlying4
 a4:=Tryz.isAgg4
 z4:=Tryz.sizeOf4
 v4:=Tryz.zeroValue4
 t5:=Tryz.underlying5
 a5:=Tryz.isAgg5
 z5:=Tryz.sizeOf5
 v5:=Tryz.zeroValue5
 t9:=Tryz.underlying9
 a9:=Tryz.isAgg9
 z9:=Tryz.sizeOf9
 v9:=Tryz.zeroValue9
 t21:=Tryz.underlying21
 a21:=Tryz.isAgg21
 z21:=Tryz.sizeOf21
 v21:=Tryz.zeroValue21
 t46:=Tryz.underlying155
 a46:=Tryz.isAgg155
 z46:=Tryz.sizeOf155
 v46:=Tryz.zeroValue155
 t105:=Tryz.underlying151
 a105:=Tryz.isAgg151
 z105:=Tryz.sizeOf151
 v105:=Tryz.zeroValue151
 t116:=Tryz.underlying224
 a116:=Tryz.isAgg224
 z116:=Tryz.sizeOf224
 t117:=Tryz.underlying225
 a117:=Tryz.isAgg225
 z117:=Tryz.sizeOf225
 v117:=Tryz.zeroValue225
 t119:=Tryz.underlying241
 a119:=Tryz.isAgg241
 z119:=Tryz.sizeOf241
 t124:=Tryz.underlying228
 a124:=Tryz.isAgg228
 z124:=Tryz.sizeOf228
 v124:=Tryz.zeroValue228
 t138:=Tryz.underlying243
 a138:=Tryz.isAgg243
 z138:=Tryz.sizeOf243
 v138:=Tryz.zeroValue243
 t139:=Tryz.underlying244
 a139:=Tryz.isAgg244
 z139:=Tryz.sizeOf244
 v139:=Tryz.zeroValue244
 g3:=by kernel_rfl
 g4:=by kernel_rfl}
def Tryz.lays137_ren:Go.Shelf.Ren:=⟨fun|137=>32|217=>55|266=>105|n=>n,fun|9=>9|5=>5|3=>3|n=>n,fun|n=>n⟩
theorem Tryz.lays137:Go.Proofs.Lays.n137 Tryz.prog Tryz.lays137_ren:={
 mixed:=by kernel_rfl
 f137:=Tryz.func32.trans (congrArg some (by kernel_rfl))
 f217:=Tryz.func55.trans (congrArg some (by kernel_rfl))
 f266:=Tryz.func105.trans (congrArg some (by kernel_rfl))
 t3:=Tryz.underlying3
 a3:=Tryz.isAgg3
 z3:=Tryz.sizeOf3
 v3:=Tryz.zeroValue3
 t5:=Tryz.underlying5
 a5:=Tryz.isAgg5
 z5:=Tryz.sizeOf5
 v5:=Tryz.zeroValue5
 t9:=Tryz.underlying9
 a9:=Tryz.isAgg9
 z9:=Tryz.sizeOf9
 v9:=Tryz.zeroValue9}
open Go.RowKit in
theorem Tryz.strings_IndexByte(s:ByteArray)(c:Int)(w:World):
 Calls Tryz.prog 32 #[.string s,.int .u8 c] w fun e w'=>e=.returned (.int .i64 (Lib.indexByte s.data.toList c.toNat.toUInt8))/\w'=w:=Any.strings_IndexByte Tryz.lays137 s c w
def Tryz.lays103_ren:Go.Shelf.Ren:=⟨fun|103=>132|210=>180|206=>127|n=>n,fun|9=>9|4=>4|24=>115|3=>3|n=>n,fun|n=>n⟩
theorem Tryz.lays103:Go.Proofs.Lays.n103 Tryz.prog Tryz.lays103_ren:={
 mixed:=by kernel_rfl
 f103:=Tryz.func132.trans (congrArg some (by kernel_rfl))
 f206:=Tryz.func127.trans (congrArg some (by kernel_rfl))
 f210:=Tryz.func180.trans (congrArg some (by kernel_rfl))
 t3:=Tryz.underlying3
 a3:=Tryz.isAgg3
 z3:=Tryz.sizeOf3
 v3:=Tryz.zeroValue3
 t4:=Tryz.underlying4
 a4:=Tryz.isAgg4
 z4:=Tryz.sizeOf4
 v4:=Tryz.zeroValue4
 t9:=Tryz.underlying9
 a9:=Tryz.isAgg9
 z9:=Tryz.sizeOf9
 v9:=Tryz.zeroValue9
 t24:=Tryz.underlying115
 a24:=Tryz.isAgg115
 z24:=Tryz.sizeOf115
 v24:=Tryz.zeroValue115}
open Go.RowKit in
theorem Tryz.strings_CutPrefix(s p:ByteArray)(w:World):
 Calls Tryz.prog 132 #[.string s,.string p] w fun e w'=>e=.returned (.tuple #[.string ⟨(Lib.trimPrefix s.data.toList p.data.toList).toArray⟩,.bool (Lib.hasPrefix s.data.toList p.data.toList)])/\w'=w:=Any.strings_CutPrefix Tryz.lays103 s p w
def Tryz.lays104_ren:Go.Shelf.Ren:=⟨fun|104=>133|211=>181|207=>213|n=>n,fun|9=>9|4=>4|24=>115|3=>3|n=>n,fun|n=>n⟩
theorem Tryz.lays104:Go.Proofs.Lays.n104 Tryz.prog Tryz.lays104_ren:={
 mixed:=by kernel_rfl
 f104:=Tryz.func133.trans (congrArg some (by kernel_rfl))
 f207:=Tryz.func213.trans (congrArg some (by kernel_rfl))
 f211:=Tryz.func181.trans (congrArg some (by kernel_rfl))
 t3:=Tryz.underlying3
 a3:=Tryz.isAgg3
 z3:=Tryz.sizeOf3
 v3:=Tryz.zeroValue3
 t4:=Tryz.underlying4
 a4:=Tryz.isAgg4
 z4:=Tryz.sizeOf4
 v4:=Tryz.zeroValue4
 t9:=Tryz.underlying9
 a9:=Tryz.isAgg9
 z9:=Tryz.sizeOf9
 v9:=Tryz.zeroValue9
 t24:=Tryz.underlying115
 a24:=Tryz.isAgg115
 z24:=Tryz.sizeOf115
 v24:=Tryz.zeroValue115}
open Go.RowKit in
theorem Tryz.strings_CutSuffix(s p:ByteArray)(w:World)(hs:s.size<=9223372036854775807):
 Calls Tryz.prog 133 #[.string s,.string p] w fun e w'=>e=.returned (.tuple #[.string ⟨(Lib.trimSuffix s.data.toList p.data.toList).toArray⟩,.bool (Lib.hasSuffix s.data.toList p.data.toList)])/\w'=w:=Any.strings_CutSuffix Tryz.lays104 s p w hs
open Go.RowKit in
theorem Tryz.Builder_String_any_k(B b:Nat)(l:List UInt8)(w:World)(h:Lib.IsBuilderF 59 5 B b (Lib.byteCells l) w)(hBw:B<=w.heap.size):
 Calls Tryz.prog 28 #[.pointer (some ⟨b,0,none⟩)] w fun e w'=>e=.returned (.string ⟨l.toArray⟩)/\(Lib.IsBuilderF 59 5 B b (Lib.byteCells l) w'/\Below B w w'/\Lib.OthersKept 5 (some b) w w'):=Any.Builder_String_any_k Tryz.lays169 Tryz.Builder_Extra_169 B b l w h hBw
def Tryz.lays143_ren:Go.Shelf.Ren:=⟨fun|143=>59|219=>110|217=>55|225=>165|224=>166|267=>167|266=>105|314=>200|n=>n,fun|9=>9|3=>3|4=>4|5=>5|46=>155|146=>220|51=>211|n=>n,fun|1=>0|n=>n⟩
theorem Tryz.lays143:Go.Proofs.Lays.n143 Tryz.prog Tryz.lays143_ren:={
 mixed:=by kernel_rfl
 f143:=Tryz.func59.trans (congrArg some (by kernel_rfl))
 f217:=Tryz.func55.trans (congrArg some (by kernel_rfl))
 f219:=Tryz.func110.trans (congrArg some (by kernel_rfl))
 f224:=Tryz.func166.trans (congrArg some (by kernel_rfl))
 f225:=Tryz.func165.trans (congrArg some (by kernel_rfl))
 f266:=Tryz.func105.trans (congrArg some (by kernel_rfl))
 f267:=Tryz.func167.trans (congrArg some (by kernel_rfl))
 f314:=Tryz.func200.trans (congrArg some (by kernel_rfl))
 t3:=Tryz.underlying3
 a3:=Tryz.isAgg3
 z3:=Tryz.sizeOf3
 v3:=Tryz.zeroValue3
 t4:=Tryz.underlying4
 a4:=Tryz.isAgg4
 z4:=Tryz.sizeOf4
 v4:=Tryz.zeroValue4
 t5:=Tryz.underlying5
 a5:=Tryz.isAgg5
 z5:=Tryz.sizeOf5
 v5:=Tryz.zeroValue5
 t9:=Tryz.underlying9
 a9:=Tryz.isAgg9
 z9:=Tryz.sizeOf9
 v9:=Tryz.zeroValue9
 t46:=Tryz.underlying155
 a46:=Tryz.isAgg155
 z46:=Tryz.sizeOf155
 v46:=Tryz.zeroValue155
 t51:=Tryz.underlying211
 a51:=Tryz.isAgg211
 z51:=Tryz.sizeOf211
 v51:=Tryz.zeroValue211
 t146:=Tryz.underlying220
 a146:=Tryz.isAgg220
 z146:=Tryz.sizeOf220
 v146:=Tryz.zeroValue220
 g1:=by kernel_rfl}
open Go.RowKit Go.Lib in
theorem Tryz.strings_Index(s sub:ByteArray)(m:Int)(w:World)(hs:s.size<4294967281)(hm:w.cell? ⟨0,0,none⟩=some (.int .i64 m)):
 Calls Tryz.prog 59 #[.string s,.string sub] w fun e w'=>e=.returned (.int .i64 (Lib.index s.data.toList sub.data.toList))/\w'=w:=Any.strings_Index Tryz.lays143 s sub m w hs hm
def Tryz.lays144_ren:Go.Shelf.Ren:=⟨fun|144=>35|143=>59|219=>110|217=>55|225=>165|224=>166|267=>167|266=>105|314=>200|n=>n,fun|9=>9|4=>4|3=>3|5=>5|46=>155|146=>220|51=>211|n=>n,fun|1=>0|n=>n⟩
theorem Tryz.lays144:Go.Proofs.Lays.n144 Tryz.prog Tryz.lays144_ren:={
 mixed:=by kernel_rfl
 f143:=Tryz.func59.trans (congrArg some (by kernel_rfl))
 f144:=Tryz.func35.trans (congrArg some (by kernel_rfl))
 f217:=Tryz.func55.trans (congrArg some (by kernel_rfl))
 f219:=Tryz.func110.trans (congrArg some (by kernel_rfl))
 f224:=Tryz.func166.trans (congrArg some (by kernel_rfl))
 f225:=Tryz.func165.trans (congrArg some (by kernel_rfl))
 f266:=Tryz.func105.trans (congrArg some (by kernel_rfl))
 f267:=Tryz.func167.trans (congrArg some (by kernel_rfl))
 f314:=Tryz.func200.trans (congrArg some (by kernel_rfl))
 t3:=Tryz.underlying3
 a3:=Tryz.isAgg3
 z3:=Tryz.sizeOf3
 v3:=Tryz.zeroValue3
 t4:=Tryz.underlying4
 a4:=Tryz.isAgg4
 z4:=Tryz.sizeOf4
 v4:=Tryz.zeroValue4
 t5:=Tryz.underlying5
 a5:=Tryz.isAgg5
 z5:=Tryz.sizeOf5
 v5:=Tryz.zeroValue5
 t9:=Tryz.underlying9
 a9:=Tryz.isAgg9
 z9:=Tryz.sizeOf9
 v9:=Tryz.zeroValue9
 t46:=Tryz.underlying155
 a46:=Tryz.isAgg155
 z46:=Tryz.sizeOf155
 v46:=Tryz.zeroValue155
 t51:=Tryz.underlying211
 a51:=Tryz.isAgg211
 z51:=Tryz.sizeOf211
 v51:=Tryz.zeroValue211
 t146:=Tryz.underlying220
 a146:=Tryz.isAgg220
 z146:=Tryz.sizeOf220
 v146:=Tryz.zeroValue220
 g1:=by kernel_rfl}
open Go.RowKit Go.Lib in
theorem Tryz.strings_Contains(s sub:ByteArray)(m:Int)(w:World)(hs:s.size<4294967281)(hm:w.cell? ⟨0,0,none⟩=some (.int .i64 m)):
 Calls Tryz.prog 35 #[.string s,.string sub] w fun e w'=>e=.returned (.bool (Lib.contains s.data.toList sub.data.toList))/\w'=w:=Any.strings_Contains Tryz.lays144 s sub m w hs hm
def Tryz.lays145_ren:Go.Shelf.Ren:=⟨fun|145=>79|220=>136|219=>110|217=>55|225=>165|224=>166|267=>167|266=>105|314=>200|n=>n,fun|9=>9|4=>4|59=>129|3=>3|5=>5|46=>155|146=>220|51=>211|n=>n,fun|1=>0|n=>n⟩
theorem Tryz.lays145:Go.Proofs.Lays.n145 Tryz.prog Tryz.lays145_ren:={
 mixed:=by kernel_rfl
 f145:=Tryz.func79.trans (congrArg some (by kernel_rfl))
 f217:=Tryz.func55.trans (congrArg some (by kernel_rfl))
 f219:=Tryz.func110.trans (congrArg some (by kernel_rfl))
 f220:=Tryz.func136.trans (congrArg some (by kernel_rfl))
 f224:=Tryz.func166.trans (congrArg some (by kernel_rfl))
 f225:=Tryz.func165.trans (congrArg some (by kernel_rfl))
 f266:=Tryz.func105.trans (congrArg some (by kernel_rfl))
 f267:=Tryz.func167.trans (congrArg some (by kernel_rfl))
 f314:=Tryz.func200.trans (congrArg some (by kernel_rfl))
 t3:=Tryz.underlying3
 a3:=Tryz.isAgg3
 z3:=Tryz.sizeOf3
 v3:=Tryz.zeroValue3
 t4:=Tryz.underlying4
 a4:=Tryz.isAgg4
 z4:=Tryz.sizeOf4
 v4:=Tryz.zeroValue4
 t5:=Tryz.underlying5
 a5:=Tryz.isAgg5
 z5:=Tryz.sizeOf5
 v5:=Tryz.zeroValue5
 t9:=Tryz.underlying9
 a9:=Tryz.isAgg9
 z9:=Tryz.sizeOf9
 v9:=Tryz.zeroValue9
 t46:=Tryz.underlying155
 a46:=Tryz.isAgg155
 z46:=Tryz.sizeOf155
 v46:=Tryz.zeroValue155
 t51:=Tryz.underlying211
 a51:=Tryz.isAgg211
 z51:=Tryz.sizeOf211
 v51:=Tryz.zeroValue211
 t59:=Tryz.underlying129
 a59:=Tryz.isAgg129
 z59:=Tryz.sizeOf129
 v59:=Tryz.zeroValue129
 t146:=Tryz.underlying220
 a146:=Tryz.isAgg220
 z146:=Tryz.sizeOf220
 v146:=Tryz.zeroValue220
 g1:=by kernel_rfl}
open Go.RowKit Go.Lib in
theorem Tryz.strings_Cut(s sep:ByteArray)(m:Int)(w:World)(hs:s.size<4294967281)(hm:w.cell? ⟨0,0,none⟩=some (.int .i64 m)):
 Calls Tryz.prog 79 #[.string s,.string sep] w fun e w'=>e=.returned (.tuple #[.string ⟨(Lib.cut s.data.toList sep.data.toList).1.toArray⟩,.string ⟨(Lib.cut s.data.toList sep.data.toList).2.1.toArray⟩,.bool (Lib.cut s.data.toList sep.data.toList).2.2])/\∃n,w'=w.drewN n:=Any.strings_Cut Tryz.lays145 s sep m w hs hm
def Tryz.lays149_ren:Go.Shelf.Ren:=⟨fun|149=>34|222=>58|n=>n,fun|9=>9|5=>5|3=>3|4=>4|n=>n,fun|n=>n⟩
theorem Tryz.lays149:Go.Proofs.Lays.n149 Tryz.prog Tryz.lays149_ren:={
 mixed:=by kernel_rfl
 f149:=Tryz.func34.trans (congrArg some (by kernel_rfl))
 f222:=Tryz.func58.trans (congrArg some (by kernel_rfl))
 t3:=Tryz.underlying3
 a3:=Tryz.isAgg3
 z3:=Tryz.sizeOf3
 v3:=Tryz.zeroValue3
 t4:=Tryz.underlying4
 a4:=Tryz.isAgg4
 z4:=Tryz.sizeOf4
 v4:=Tryz.zeroValue4
 t5:=Tryz.underlying5
 a5:=Tryz.isAgg5
 z5:=Tryz.sizeOf5
 v5:=Tryz.zeroValue5
 t9:=Tryz.underlying9
 a9:=Tryz.isAgg9
 z9:=Tryz.sizeOf9
 v9:=Tryz.zeroValue9}
open Go.RowKit Go.Lib in
theorem Tryz.strings_LastIndexByte(s:ByteArray)(c:Int)(hs:s.size<4611686018427387904)(w:World):
 Calls Tryz.prog 34 #[.string s,.int .u8 c] w fun e w'=>e=.returned (.int .i64 (Lib.lastIndexByte s c))/\w'=w:=Any.strings_LastIndexByte Tryz.lays149 s c hs w
def Tryz.lays99_ren:Go.Shelf.Ren:=⟨fun|99=>74|206=>127|n=>n,fun|9=>9|4=>4|3=>3|n=>n,fun|n=>n⟩
theorem Tryz.lays99:Go.Proofs.Lays.n99 Tryz.prog Tryz.lays99_ren:={
 mixed:=by kernel_rfl
 f99:=Tryz.func74.trans (congrArg some (by kernel_rfl))
 f206:=Tryz.func127.trans (congrArg some (by kernel_rfl))
 t3:=Tryz.underlying3
 a3:=Tryz.isAgg3
 z3:=Tryz.sizeOf3
 v3:=Tryz.zeroValue3
 t4:=Tryz.underlying4
 a4:=Tryz.isAgg4
 z4:=Tryz.sizeOf4
 v4:=Tryz.zeroValue4
 t9:=Tryz.underlying9
 a9:=Tryz.isAgg9
 z9:=Tryz.sizeOf9
 v9:=Tryz.zeroValue9}
open Go.RowKit Go.Lib in
theorem Tryz.strings_HasPrefix(s p:ByteArray)(w:World):
 Calls Tryz.prog 74 #[.string s,.string p] w fun e w'=>e=.returned (.bool (Lib.hasPrefix s.data.toList p.data.toList))/\w'=w:=Any.strings_HasPrefix Tryz.lays99 s p w
def Tryz.lays155_ren:Go.Shelf.Ren:=⟨fun|155=>82|154=>138|138=>183|165=>184|143=>59|166=>47|197=>185|169=>28|195=>214|218=>215|240=>95|241=>216|219=>110|260=>217|276=>151|277=>228|217=>55|225=>165|224=>166|267=>167|266=>105|314=>200|n=>n,fun|9=>9|3=>3|4=>4|72=>59|0=>0|76=>91|105=>151|21=>21|5=>5|70=>57|20=>20|37=>44|75=>90|127=>93|164=>184|46=>155|119=>241|139=>244|138=>243|146=>220|51=>211|80=>64|n=>n,fun|1=>0|3=>2|4=>3|n=>n⟩
theorem Tryz.lays155:Go.Proofs.Lays.n155 Tryz.prog Tryz.lays155_ren:={
 mixed:=by kernel_rfl
 f138:=Tryz.func183.trans (congrArg some (by kernel_rfl))
 f143:=Tryz.func59.trans (congrArg some (by kernel_rfl))
 f154:=Tryz.func138.trans (congrArg some (by kernel_rfl))
 f155:=Tryz.func82.trans (congrArg some (by kernel_rfl))
 f165:=Tryz.func184.trans (congrArg some (by kernel_rfl))
 f166:=Tryz.func47.trans (congrArg some (by kernel_rfl))
 f169:=Tryz.func28.trans (congrArg some (by kernel_rfl))
 f195:=Tryz.func214.trans (congrArg some (by kernel_rfl))
 f197:=Tryz.func185.trans (congrArg some (by kernel_rfl))
 f217:=Tryz.func55.trans (congrArg some (by kernel_rfl))
 f218:=Tryz.func215.trans (congrArg some (by kernel_rfl))
 f219:=Tryz.func110.trans (congrArg some (by kernel_rfl))
 f224:=Tryz.func166.trans (congrArg some (by kernel_rfl))
 f225:=Tryz.func165.trans (congrArg some (by kernel_rfl))
 f240:=Tryz.func95.trans (congrArg some (by kernel_rfl))
 f241:=Tryz.func216.trans (congrArg some (by kernel_rfl))
 f260:=Tryz.func217.trans (congrArg some (by kernel_rfl))
 f266:=Tryz.func105.trans (congrArg some (by kernel_rfl))
 f267:=Tryz.func167.trans (congrArg some (by kernel_rfl))
 f276:=Tryz.func151.trans (congrArg some (by kernel_rfl))
 f277:=Tryz.func228.trans (congrArg some (by kernel_rfl))
 f314:=Tryz.func200.trans (congrArg some (by kernel_rfl))
 t0:=Tryz.underlying0
 a0:=Tryz.isAgg0
 z0:=Tryz.sizeOf0
 v0:=Tryz.zeroValue0
 t3:=Tryz.underlying3
 a3:=Tryz.isAgg3
 z3:=Tryz.sizeOf3
 v3:=Tryz.zeroValue3
 t4:=Tryz.underlying4
 a4:=Tryz.isAgg4
 z4:=Tryz.sizeOf4
 v4:=Tryz.zeroValue4
 t5:=Tryz.underlying5
 a5:=Tryz.isAgg5
 z5:=Tryz.sizeOf5
 v5:=Tryz.zeroValue5
 t9:=Tryz.underlying9
 a9:=Tryz.isAgg9
 z9:=Tryz.sizeOf9
 v9:=Tryz.zeroValue9
 t20:=Tryz.underlying20
 a20:=Tryz.isAgg20
 z20:=Tryz.sizeOf20
 v20:=Tryz.zeroValue20
 t21:=Tryz.underlying21
 a21:=Tryz.isAgg21
 z21:=Tryz.sizeOf21
 v21:=Tryz.zeroValue21
 t37:=Tryz.underlying44
 a37:=Tryz.isAgg44
 z37:=Tryz.sizeOf44
 v37:=Tryz.zeroValue44
 t46:=Tryz.underlying155
 a46:=Tryz.isAgg155
 z46:=Tryz.sizeOf155
 v46:=Tryz.zeroValue155
 t51:=Tryz.underlying211
 a51:=Tryz.isAgg211
 z51:=Tryz.sizeOf211
 v51:=Tryz.zeroValue211
 t70:=Tryz.underlying57
 a70:=Tryz.isAgg57
 z70:=Tryz.sizeOf57
 v70:=Tryz.zeroValue57
 t72:=Tryz.underlying59
 a72:=Tryz.isAgg59
 z72:=Tryz.sizeOf59
 v72:=Tryz.zeroValue59
 t75:=Tryz.underlying90
 a75:=Tryz.isAgg90
 z75:=Tryz.sizeOf90
 v75:=Tryz.zeroValue90
 t76:=Tryz.underlying91
 a76:=Tryz.isAgg91
 z76:=Tryz.sizeOf91
 v76:=Tryz.zeroValue91
 t105:=Tryz.underlying151
 a105:=Tryz.isAgg151
 z105:=Tryz.sizeOf151
 v105:=Tryz.zeroValue151
 t119:=Tryz.underlying241
 a119:=Tryz.isAgg241
 z119:=Tryz.sizeOf241
 t127:=Tryz.underlying93
 a127:=Tryz.isAgg93
 z127:=Tryz.sizeOf93
 v127:=Tryz.zeroValue93
 t138:=Tryz.underlying243
 a138:=Tryz.isAgg243
 z138:=Tryz.sizeOf243
 v138:=Tryz.zeroValue243
 t139:=Tryz.underlying244
 a139:=Tryz.isAgg244
 z139:=Tryz.sizeOf244
 v139:=Tryz.zeroValue244
 t146:=Tryz.underlying220
 a146:=Tryz.isAgg220
 z146:=Tryz.sizeOf220
 v146:=Tryz.zeroValue220
 t164:=Tryz.underlying184
 a164:=Tryz.isAgg184
 z164:=Tryz.sizeOf184
 v164:=Tryz.zeroValue184
 g1:=by kernel_rfl
 g3:=by kernel_rfl
 g4:=by kernel_rfl}
theorem Tryz.Builder_Extra_155:Builder.Extra Tryz.prog Tryz.lays155_ren:={
 sizeBuilder:=by kernel_rfl
 liesBuilder:=by kernel_rfl
 t5:=Tryz.underlying5
 a5:=Tryz.isAgg5
 z5:=Tryz.sizeOf5
 v5:=Tryz.zeroValue5
 infoByte:=by kernel_rfl
 cellsByte:=by kernel_rfl
 sizeByte:=by kernel_rfl
 neB5:=by decide}
open Go.RowKit Go.Lib in
theorem Tryz.strings_ReplaceAll(s old new:ByteArray)(m:Int)(w:World)(hs:s.size<4294967281)(hm:w.cell? ⟨0,0,none⟩=some (.int .i64 m))(h1:1<=old.size)(hlen:s.size+Lib.countB s old* new.size<=140737488355328):
 Calls Tryz.prog 82 #[.string s,.string old,.string new] w fun e w'=>
  e=.returned (.string ⟨(Lib.replaceAll s.data.toList old.data.toList new.data.toList).toArray⟩)/\Below w.heap.size w w':=Any.strings_ReplaceAll Tryz.lays155 Tryz.Builder_Extra_155 s old new m w hs hm h1 hlen
end Go.Proofs
section
set_option synthInstance.maxSize 4000
set_option synthInstance.maxHeartbeats 400000
namespace Nun
def free(c:UInt8):Bool:=(97<=c&&c<=122)||(65<=c&&c<=90)||(48<=c&&c<=57)||c==45||c==46||c==95||c==126
def z2u(c:UInt8):Option UInt8:=if 48<=c/\c<=57 then some (c - 48)else if 97<=c/\c<=102 then some (c - 87)else if 65<=c/\c<=70 then some (c - 55)else none
def hexd(c:UInt8):UInt8:=if c<10 then 48+c else 55+c
def pair(c:UInt8):List UInt8:=[hexd (c/16),hexd (c % 16)]
def hex2(a b:UInt8):Option UInt8:=match z2u a,z2u b with|some x,some y=>some (16* x+y)|_,_=>none
def zo6(s:List UInt8)(at_:Int):Option UInt8:=
 if at_<0 then none else match s[at_.toNat]?,s[at_.toNat+1]? with|some a,some b=>hex2 a b|_,_=>none
theorem z5q(s:ByteArray)(n:Int)(h:n<0\/(s.size:Int) - 2<n):zo6 s.data.toList n=none:=by
 unfold zo6;split
 ·rfl
 ·rename_i h0
  have:s.data.toList[n.toNat+1]?=none:=by
   rw[wb8];simp;show s.size<=_;omega
  rw[this];split<;>simp_all
theorem yob(s:ByteArray)(n:Int)(h0:0<=n)(h:n+2<=s.size):zo6 s.data.toList n=hex2 (s[n.toNat]'(by omega)) (s[(n+1).toNat]'(by omega)):=by
 have e:(n+1).toNat=n.toNat+1:=by omega
 have a:s.data.toList[n.toNat]?=some (s[n.toNat]'(by omega)):=by
  rw[qe (by simp;show _<s.size;omega)];rfl
 have b:s.data.toList[n.toNat+1]?=some (s[(n+1).toNat]'(by omega)):=by
  rw[qe (by simp;show _<s.size;omega)];simp only[e];rfl
 unfold zo6;rw[if_neg (by omega),a,b]
theorem yap{c x:UInt8}(h:z2u c=some x):x<16:=by
 have:∀c:UInt8,(z2u c).getD 0<16:=by decide+kernel
 have:=this c;rw[h]at this;exact this
theorem y06:∀x:UInt8,x<16->∀y:UInt8,y<16->Go.bits .or .u8 (↑x.toNat* 16 % 256) ↑y.toNat=↑(16* x+y).toNat:=by decide+kernel
end Nun
namespace Go.Proofs.YtmpiobfdchlikaaGreatDoor
open Go.RowKit Nun
theorem yh3(c:UInt8)(w:World):Calls Tryz.prog 212 #[.int .u8 c.toNat] w (Same (.tuple #[.int .u8 ((z2u c).getD 0).toNat,.bool (z2u c).isSome]) w):=by
 go_enter Tryz.func212,Tryz.ntmps212
 go_wp2
 all_goals (go_ret2;refine⟨t2 (vi ?_) (vb ?_),rfl⟩)
 all_goals (go_light;revert c;decide+kernel)
theorem zoq(c:UInt8)(w:World):Calls Tryz.prog 153 #[.int .u8 c.toNat] w (Ret (.string ⟨(pair c).toArray⟩) w):=by
 have hc:(c.toNat:Int)<256:=by have:=c.toNat_lt;omega
 have h1:(0:Int)<=c.toNat/16:=by omega
 have h2:(c.toNat:Int)/16<16:=by omega
 have h3:(0:Int)<=c.toNat % 16:=by omega
 have h4:(c.toNat:Int) % 16<16:=by omega
 have kc:=fun(w:World)(x y:UInt8)=>yn9 (P:=Tryz.prog) Tryz.underlying44 Tryz.underlying5 Tryz.underlying9 w x y
 go_enter Tryz.func153,Tryz.ntmps153
 go_wp2
 go_region
 go_wp2;go_ret;refine⟨r1 (vS ?_),((Below.refl _ _).alloc (wab _) _).drew⟩;clear kc
 (go_light;revert c;decide+kernel)
theorem yoc(c:UInt8)(o:Option UInt8)(h:z2u c=o)(w:World):Calls Tryz.prog 212 #[.int .u8 c.toNat] w (Same (.tuple #[.int .u8 (o.getD 0).toNat,.bool o.isSome]) w):=h▸yh3 c w
theorem yod(s:ByteArray)(n:Int)(w:World)(hs:s.size<=1000000000):
 Calls Tryz.prog 179 #[.string s,.int .i64 n] w (Same (.tuple #[.int .u8 ((zo6 s.data.toList n).getD 0).toNat,.bool (zo6 s.data.toList n).isSome]) w):=by
 by_cases hn:0<=n/\n+2<=s.size
 ·obtain⟨h1,h2⟩:=hn
  have h3:¬(n<0):=by omega
  have h4:¬((s.size:Int) - 2<n):=by omega
  have h5:(0:Int)<=n+1:=by omega
  have h6:n+1<(s.size:Int):=by omega
  have h7:n<(s.size:Int):=by omega
  rw[yob s n h1 h2];unfold hex2;generalize hx:z2u s[n.toNat]=x;generalize hy:z2u s[(n+1).toNat]=y;have HX:=Lib.hid hx;have HY:=Lib.hid hy;clear hx hy;cases x<;>cases y
  all_goals
   go_enter Tryz.func179,Tryz.ntmps179
   go_wp2_with(go_at_call 212;refine(yoc _ _ (by first|exact HX.out|exact HY.out) _).mono ?_;rintro e w' ⟨rfl,rfl⟩)
   go_ret2
  all_goals go_light
  all_goals first|exact⟨rfl,rfl⟩|refine⟨t2 (vi ?_) rfl,rfl⟩
  rw[y06 _ (yap HX.out) _ (yap HY.out)];rfl
 ·go_enter Tryz.func179,Tryz.ntmps179
  go_wp2
  all_goals (go_ret2;refine⟨t2 (vi ?_) (vb ?_),rfl⟩<;>rw[z5q s n (by omega)]<;>rfl)
end Go.Proofs.YtmpiobfdchlikaaGreatDoor
end
namespace Go.Proofs.YtmpiobfdchlikaaGreatDoor
open Go.RowKit Nun
theorem y07:(Tryz.prog.info? 59).map (·.size)=some 2:=by kernel_rfl
theorem liesB:liesAt Tryz.prog Tryz.prog.depth 59 (2/Tryz.prog.cellsOf 59) 0 59 1=true:=by kernel_rfl
theorem infoByte:(Tryz.prog.info? 5).map (fun i=>(i.zero,i.size,i.bytes))=some (some (.int .u8 0),1,1):=by kernel_rfl
set_option maxRecDepth 100000 in
theorem yh4(b:Nat)(w:World)(h0:w.cell? ⟨b,0,none⟩=some (.pointer (some ⟨b,0,none⟩))):
 Calls Tryz.prog 95 #[.pointer (some ⟨b,0,none⟩)] w fun e w'=>e=.returned (.tuple #[])/\w'=w:=by
 obtain⟨j,hj,_⟩:=qm y07
 go_enter Tryz.func95,Tryz.ntmps95
 go_wp2;rw[Lib.run_neq_ptr_same w _ Tryz.underlying57 hj];go_wp2
 go_end0
 exact⟨rfl,rfl⟩
set_option maxRecDepth 100000 in
theorem yc3(b:Nat)(w:World)(h0:w.cell? ⟨b,0,none⟩=some (.pointer none))(hsh:w.shape? b=some (59,2))(hfz:w.frozen? ⟨b,0,none⟩=false):
 Calls Tryz.prog 95 #[.pointer (some ⟨b,0,none⟩)] w fun e w'=>e=.returned (.tuple #[])/\w'=w.setCell ⟨b,0,none⟩ (.pointer (some ⟨b,0,none⟩)):=by
 obtain⟨j,hj,hjs⟩:=qm y07;have hc0:(w.setCell ⟨b,0,none⟩ (.pointer (some ⟨b,0,none⟩))).cell? ⟨b,0,none⟩=some (.pointer (some ⟨b,0,none⟩)):=World.cell?_setCell_same' _ _ _ (by rw[h0];rfl)
 go_enter Tryz.func95,Tryz.ntmps95
 go_wp2;rw[Lib.run_to_unsafe w ⟨b,0,none⟩ Tryz.underlying57 Tryz.underlying184 hj (by rw[hjs];decide) hsh (Nat.zero_lt_succ 1)];simp only[Result.andThen];rw[wdu];go_wp2;rw[run_callFunc_extern Tryz.func151 (by kernel_rfl) (by kernel_rfl) (by kernel_rfl) (e:=Extern.AbiNoEscape.same) (by kernel_rfl)];rw[Lib.run_noEscape];simp only[Result.andThen];rw[wdu];go_wp2;rw[Lib.run_from_unsafe w ⟨b,0,none⟩ Tryz.underlying184 Tryz.underlying57 hj hsh liesB];simp only[Result.andThen];rw[wdu];go_wp2
 go_end0
 exact⟨rfl,rfl⟩
theorem yaq(B b:Nat)(bs:List Value)(w:World)(h:Lib.IsBuilderF 59 5 B b bs w):
 Calls Tryz.prog 95 #[.pointer (some ⟨b,0,none⟩)] w fun e w'=>e=.returned (.tuple #[])/\(Lib.BuilderAtF 59 5 B b (.pointer (some ⟨b,0,none⟩)) bs w'/\Below B w w'/\Lib.OthersKept 5 (some b) w w'):=by
 rcases h with h|h
 ·refine(yc3 b w h.cell0 h.shape h.frozen0).mono ?_
  rintro e w' ⟨rfl,rfl⟩;exact⟨rfl,h.used _,(Below.refl B w).setCell (p:=⟨b,0,none⟩) h.1 _,(Lib.OthersKept.refl _ _ w).setCell ⟨b,0,none⟩ rfl _⟩
 ·refine(yh4 b w h.cell0).mono ?_
  rintro e w' ⟨rfl,rfl⟩;exact⟨rfl,h,Below.refl B _,Lib.OthersKept.refl _ _ _⟩
set_option maxRecDepth 100000 in
theorem yh5(B b:Nat)(bs:List Value)(c:Int)(w:World)(h:Lib.IsBuilderF 59 5 B b bs w)(hlen:bs.length+1<=140737488355328)(hBw:B<=w.heap.size):
 Calls Tryz.prog 84 #[.pointer (some ⟨b,0,none⟩),.int .u8 c] w fun e w'=>e=.returned .nilIface/\(Lib.IsBuilderF 59 5 B b (bs++[.int .u8 c]) w'/\Below B w w'/\Lib.OthersKept 5 (some b) w w'):=by
 obtain⟨i0,hi,hz0,hz1,hz2⟩:=info_parts infoByte
 go_enter Tryz.func84,Tryz.ntmps84
 go_wp2_with(go_at_call 95;refine(yaq B b bs _ h).mono ?_)
 rintro e w1 ⟨rfl,h1,hb1,hk1⟩;obtain⟨hB,v,hbk,hown,hne⟩:=h1;have c0:w1.cell? ⟨b,0,none⟩=some (.pointer (some ⟨b,0,none⟩)):=by rw[Lib.cell_of_heap hbk];rfl
 have c1:w1.cell? ⟨b,1,none⟩=some v:=by rw[Lib.cell_of_heap hbk];rfl
 go_wp2_with(at_builtin;refine wpList_append_ownF _ rfl _ _ 44 rfl B 5 i0 (.int .u8 0) 1 1 Tryz.underlying44 hi hz0 hz1 hz2 rfl (by decide) _ _ _ rfl (hown.alloc _) ⟨w1.heap.size,0,none⟩ 1 1 [.int .u8 c] rfl rfl ?c1 ?c2 ?c3 ?c4 ?c5 ?_)
 case c1=>
  intro j u hj
  match j,hj with
  |0,hj=>simp at hj;subst hj;simp[Addr.add]
 case c2=>intro u hu;simp at hu;subst hu;rfl
 case c3=>unfold maxLen;omega
 case c4=>omega
 case c5=>have:=hb1.size;simp;omega
 intro v' w2 hown' hgrow _;have hlt:b<w1.heap.size:=by
  rcases wcn b w1.heap.size with h'|h'
  ·exact h'
  ·simp[wcr h']at hbk
 have hb2:w2.heap[b]?=some (.cells #[.pointer (some ⟨b,0,none⟩),v] 59 (0,0)):=by
  rw[hgrow.block b (by simp;omega) (fun e=>hne e.symm),Lib.alloc_old w1 _ b hlt];exact hbk
 have d0:w2.cell? ⟨b,0,none⟩=some (.pointer (some ⟨b,0,none⟩)):=by rw[Lib.cell_of_heap hb2];rfl
 have d1:w2.cell? ⟨b,1,none⟩=some v:=by rw[Lib.cell_of_heap hb2];rfl
 have f1:w2.frozen? ⟨b,1,none⟩=false:=Lib.frozen_of_heap hb2 1;obtain⟨g,cap,rfl⟩:∃g cap,v'=.slice (some ⟨g,0,none⟩) (bs.length+1) cap:=by
  rcases hown'.2 with⟨_,h0⟩|⟨g,cap,cur,fz,hv,_⟩
  ·omega
  ·exact⟨g,cap,hv⟩
 go_wp2;go_ret;refine⟨rfl,.inr ?_,?_,((hk1.alloc _).grown hgrow (Lib.ownsRowF_kind (hown.alloc _))).setCell ⟨b,1,none⟩ rfl _⟩
 ·exact Lib.BuilderAtF.put (T:=59) (e:=5) hB hb2 (bs':=bs++[.int .u8 c]) (by simpa using hown') (by decide)
 ·exact((hb1.alloc (by have:=hb1.size;omega) _).grown hgrow (by have:=hb1.size;simp;omega) (fun k hk=>(hown.lt k hk).1)).setCell (p:=⟨b,1,none⟩) hB _
set_option maxRecDepth 100000 in
theorem z8d(B b:Nat)(bs:List Value)(s:ByteArray)(w:World)(h:Lib.IsBuilderF 59 5 B b bs w)(hlen:bs.length+s.size<=140737488355328)(hBw:B<=w.heap.size):
 Calls Tryz.prog 47 #[.pointer (some ⟨b,0,none⟩),.string s] w fun e w'=>e=.returned (.tuple #[.int .i64 s.size,.nilIface])/\(Lib.IsBuilderF 59 5 B b (bs++Lib.strCells s) w'/\Below B w w'/\Lib.OthersKept 5 (some b) w w'):=by
 obtain⟨i0,hi,hz0,hz1,hz2⟩:=info_parts infoByte
 go_enter Tryz.func47,Tryz.ntmps47
 go_wp2_with(go_at_call 95;refine(yaq B b bs _ h).mono ?_)
 rintro e w1 ⟨rfl,h1,hb1,hk1⟩;obtain⟨hB,v,hbk,hown,hne⟩:=h1;have c0:w1.cell? ⟨b,0,none⟩=some (.pointer (some ⟨b,0,none⟩)):=by rw[Lib.cell_of_heap hbk];rfl
 have c1:w1.cell? ⟨b,1,none⟩=some v:=by rw[Lib.cell_of_heap hbk];rfl
 go_wp2_with(at_builtin;refine Lib.wpList_append_own_stringF _ rfl _ _ 44 9 rfl B 5 i0 Tryz.underlying44 Tryz.underlying9 hi hz0 hz1 hz2 _ _ _ rfl hown s rfl ?c3 ?c4 ?c5 ?_)
 case c3=>unfold maxLen;omega
 case c4=>omega
 case c5=>have:=hb1.size;omega
 intro v' w2 hown' hgrow _;have hlt:b<w1.heap.size:=by
  rcases wcn b w1.heap.size with h'|h'
  ·exact h'
  ·simp[wcr h']at hbk
 have hb2:w2.heap[b]?=some (.cells #[.pointer (some ⟨b,0,none⟩),v] 59 (0,0)):=by
  rw[hgrow.block b hlt (fun e=>hne e.symm)];exact hbk
 have d0:w2.cell? ⟨b,0,none⟩=some (.pointer (some ⟨b,0,none⟩)):=by rw[Lib.cell_of_heap hb2];rfl
 have d1:w2.cell? ⟨b,1,none⟩=some v:=by rw[Lib.cell_of_heap hb2];rfl
 have f1:w2.frozen? ⟨b,1,none⟩=false:=Lib.frozen_of_heap hb2 1;obtain⟨ao,n',cap,rfl⟩:∃ao n' cap,v'=.slice ao n' cap:=by
  rcases hown'.2 with⟨hv,_⟩|⟨g,cap,cur,fz,hv,_⟩
  ·exact⟨_,_,_,hv⟩
  ·exact⟨_,_,_,hv⟩
 go_wp2
 go_ret2
 refine⟨rfl,.inr ?_,?_,(hk1.grown hgrow (Lib.ownsRowF_kind hown)).setCell ⟨b,1,none⟩ rfl _⟩
 ·exact Lib.BuilderAtF.put (T:=59) (e:=5) hB hb2 (bs':=bs++Lib.strCells s) (by simpa[Lib.strCells_length]using hown') (by decide)
 ·exact(hb1.grown hgrow (by have:=hb1.size;omega) (fun k hk=>(hown.lt k hk).1)).setCell (p:=⟨b,1,none⟩) hB _
def Bd(B b:Nat)(l:List UInt8)(w:World):Prop:=Lib.IsBuilderF 59 5 B b (Lib.byteCells l) w
theorem Bd.fresh(w:World):Bd w.heap.size w.heap.size [] (w.alloc (.cells #[.pointer none,.slice none 0 0] 59)):=Lib.IsBuilderF.of (Lib.fresh_isBuilder _ _ w)
theorem Bd.drew{B b:Nat}{l:List UInt8}{w:World}(h:Bd B b l w):Bd B b l w.drew:=h
theorem Bd.alloc{B b:Nat}{l:List UInt8}{w:World}(h:Bd B b l w)(o:Obj):Bd B b l (w.alloc o):=by
 rcases h with h|h
 ·exact .inl (h.alloc o)
 ·exact .inr (h.alloc o)
theorem Bd.lt{B b:Nat}{l:List UInt8}{w:World}(h:Bd B b l w):B<=b/\b<w.heap.size:=by
 rcases h with h|h
 ·exact⟨h.1,h.lt⟩
 ·exact⟨h.1,h.lt⟩
theorem Bd.kept{B b:Nat}{l:List UInt8}{w w':World}(h:Bd B b l w)(k:Below w.heap.size w w'):Bd B b l w':=by
 have kk:∀p,Lib.BuilderAtF 59 5 B b p (Lib.byteCells l) w->Lib.BuilderAtF 59 5 B b p (Lib.byteCells l) w':=by
  rintro p h;have hlt:=h.lt;obtain⟨hB,v,hb,hown,hne⟩:=h;exact⟨hB,v,(k.block b hlt).trans hb,hown.kept (row:=none) ⟨k.os,k.tape,k.output,k.size,fun i hi _=>k.block i hi⟩ (by cases v.ownBlock<;>simp),hne⟩
 rcases h with h|h
 ·exact .inl (kk _ h)
 ·exact .inr (kk _ h)
theorem zs5(B b:Nat)(l:List UInt8)(c:UInt8)(w:World)(h:Bd B b l w)(hlen:l.length+1<=140737488355328):
 Calls Tryz.prog 84 #[.pointer (some ⟨b,0,none⟩),.int .u8 c.toNat] w fun e w'=>e=.returned .nilIface/\Bd B b (l++[c]) w'/\Below B w w'/\Lib.OthersKept 5 (some b) w w':=by
 have hl:=h.lt;refine(yh5 B b _ c.toNat w h (by rw[Lib.byteCells_length];exact hlen) (by omega)).mono ?_;rintro e w' ⟨rfl,h1,h2⟩;exact⟨rfl,by unfold Bd;rw[Lib.byteCells_append];exact h1,h2⟩
theorem zn0(B b:Nat)(l:List UInt8)(s:ByteArray)(w:World)(h:Bd B b l w)(hlen:l.length+s.size<=140737488355328):
 Calls Tryz.prog 47 #[.pointer (some ⟨b,0,none⟩),.string s] w fun e w'=>e=.returned (.tuple #[.int .i64 s.size,.nilIface])/\Bd B b (l++s.data.toList) w'/\Below B w w'/\Lib.OthersKept 5 (some b) w w':=by
 have hl:=h.lt;refine(z8d B b _ s w h (by rw[Lib.byteCells_length];exact hlen) (by omega)).mono ?_;rintro e w' ⟨rfl,h1,h2⟩;exact⟨rfl,by unfold Bd;rw[Lib.byteCells_append,<-Lib.strCells_eq];exact h1,h2⟩
theorem z8e(B b:Nat)(l:List UInt8)(w:World)(h:Bd B b l w):
 Calls Tryz.prog 28 #[.pointer (some ⟨b,0,none⟩)] w fun e w'=>e=.returned (.string ⟨l.toArray⟩)/\Bd B b l w'/\Below B w w'/\Lib.OthersKept 5 (some b) w w':=
 Tryz.Builder_String_any_k B b l w h (by have:=h.lt;omega)
end Go.Proofs.YtmpiobfdchlikaaGreatDoor
namespace Nun
def zr2{α:Type}(step:Nat->Option (List α×Nat))(len:Nat):Nat->Nat->Option (List α)
 |0,_=>some []
 |f+1,k=>if k<len then match step k with
  |none=>none
  |some (o,n)=>(zr2 step len f (k+n)).map (o++·)
  else some []
theorem z5r{α:Type}{step:Nat->Option (List α×Nat)}{len:Nat}(hn:∀k o n,step k=some (o,n)->0<n):
 ∀f f' k,len - k<=f->len - k<=f'->zr2 step len f k=zr2 step len f' k:=by
 intro f
 induction f with
 |zero=>
  intro f' k h _;cases f' with
  |zero=>rfl
  |succ f'=>simp only[zr2];rw[if_neg (by omega)]
 |succ f ih=>
  intro f' k h h';by_cases hk:k<len
  ·cases f' with
   |zero=>omega
   |succ f'=>
    simp only[zr2];rw[if_pos hk];cases hs:step k with
    |none=>simp[hk]
    |some p=>
     obtain⟨o,n⟩:=p;have:=hn k o n hs;simp only;rw[ih f' (k+n) (by omega) (by omega),if_pos hk]
  ·have e:zr2 step len (f+1) k=some []:=by simp only[zr2];rw[if_neg hk]
   rw[e];cases f' with
   |zero=>rfl
   |succ f'=>simp only[zr2];rw[if_neg hk]
def zfw{α:Type}(step:Nat->Option (List α×Nat))(len k:Nat):Option (List α):=zr2 step len (len - k) k
theorem z5s{α:Type}{step:Nat->Option (List α×Nat)}{len k:Nat}(h:len<=k):zfw step len k=some []:=by
 unfold zfw;rw[Nat.sub_eq_zero_of_le h];rfl
theorem zt7{α:Type}{step:Nat->Option (List α×Nat)}{len k:Nat}(h:k<len)(hs:step k=none):zfw step len k=none:=by
 unfold zfw;obtain⟨m,hm⟩:∃m,len - k=m+1:=⟨len - k - 1,by omega⟩;rw[hm];simp only[zr2];rw[if_pos h,hs]
theorem zt8{α:Type}{step:Nat->Option (List α×Nat)}{len k n:Nat}{o:List α}(hn:∀k o n,step k=some (o,n)->0<n)(h:k<len)(hs:step k=some (o,n)):
 zfw step len k=(zfw step len (k+n)).map (o++·):=by
 unfold zfw;obtain⟨m,hm⟩:∃m,len - k=m+1:=⟨len - k - 1,by omega⟩;rw[hm];simp only[zr2];rw[if_pos h,hs];have:=hn k o n hs;simp only;rw[z5r hn m (len - (k+n)) (k+n) (by omega) (wab _)]
theorem zf4{α:Type}{step:Nat->Option (List α×Nat)}{len k n:Nat}{o acc:List α}{r:Option (List α)}(hn:∀k o n,step k=some (o,n)->0<n)(h:k<len)(hs:step k=some (o,n))
 (ha:r=(zfw step len k).map (acc++·)):r=(zfw step len (k+n)).map ((acc++o)++·):=by
 rw[ha,zt8 hn h hs];cases zfw step len (k+n)<;>simp
theorem z2v{α:Type}{step step':Nat->Option (List α×Nat)}{len d:Nat}(hs:∀k,step' (d+k)=step k):∀f k,zr2 step' (d+len) f (d+k)=zr2 step len f k:=by
 intro f
 induction f with
 |zero=>intro k;rfl
 |succ f ih=>
  intro k;simp only[zr2];rw[hs];by_cases hk:k<len
  ·rw[if_pos hk,if_pos (by omega)]
   cases step k with
   |none=>rfl
   |some p=>simp only;rw[wam,ih]
  ·rw[if_neg hk,if_neg (by omega)]
theorem zyw{α:Type}{step step':Nat->Option (List α×Nat)}{len d:Nat}(hs:∀k,step' (d+k)=step k)(k:Nat):zfw step' (d+len) (d+k)=zfw step len k:=by
 unfold zfw;rw[show d+len - (d+k)=len - k by omega];exact z2v hs _ _
def zhm(s w:List UInt8)(n:Int):Bool:=decide (0<=n)&&decide (n<=s.length)&&w.isPrefixOf (s.drop n.toNat)
theorem z0c(s w:List UInt8)(k:Nat)(h:k<=s.length):zhm s w k=w.isPrefixOf (s.drop k):=by
 unfold zhm;simp[h]
theorem zt9(a l w:List UInt8)(k:Nat):zhm (a++l) w ((a.length+k:Nat):Int)=zhm l w k:=by
 unfold zhm;have e1:(((a.length+k:Nat):Int)).toNat=a.length+k:=by omega
 have e3:((k:Int)).toNat=k:=by omega
 have e4:(a++l).drop (a.length+k)=l.drop k:=by rw[<-wbd];simp
 rw[e1,e3,e4];have e5:decide (((a.length+k:Nat):Int)<=((a++l).length:Int))=decide ((k:Int)<=(l.length:Int)):=by
  rw[wb0];by_cases h:k<=l.length
  ·rw[decide_eq_true (by omega),decide_eq_true (by omega)]
  ·rw[decide_eq_false (by omega),decide_eq_false (by omega)]
 have e6:decide ((0:Int)<=((a.length+k:Nat):Int))=decide ((0:Int)<=(k:Int)):=by
  rw[decide_eq_true (by omega),decide_eq_true (by omega)]
 rw[e5,e6]
end Nun
section
set_option synthInstance.maxSize 4000
namespace Nun
def zjw(c:UInt8):Bool:=33<=c&&c<=126&&c !=61
def zr3(s:List UInt8)(k:Nat):Option (List UInt8×Nat):=
 match s[k]? with
 |none=>none
 |some c=>if zhm s [13,10] k then some ([10],2)else if zhm s [61,13,10] k then some ([],3)
  else if c=61 then(zo6 s (k+1)).map fun b=>([b],3)else if zjw c||c==32||c==9 then some ([c],1)else none
theorem zjc(s:List UInt8):∀k o n,zr3 s k=some (o,n)->0<n:=by
 intro k o n h;unfold zr3 at h;split at h
 ·cases h
 ·repeat' split at h
  all_goals first|(cases h;omega)|skip
  ·simp at h;omega
  ·cases h
theorem zjx(s:ByteArray)(k:Nat)(hk:k<s.size)(b1 b2:Bool)(h1:zhm s.data.toList [13,10] k=b1)(h2:zhm s.data.toList [61,13,10] k=b2):zr3 s.data.toList k=
 if b1 then some ([10],2)else if b2 then some ([],3)else if s[k]=61 then(zo6 s.data.toList (k+1)).map (fun b=>([b],3))else if zjw s[k]||s[k]==32||s[k]==9 then some ([s[k]],1)else none:=by
 unfold zr3;rw[qe (show k<s.data.toList.length from hk)];simp only[h1,h2];rfl
def decL(s:List UInt8):Option (List UInt8):=zfw (zr3 s) s.length 0
def decV:Option (List UInt8)->Go.Value
 |none=>.tuple #[.string ⟨#[]⟩,.int .i64 7]
 |some l=>.tuple #[.string ⟨l.toArray⟩,.int .i64 0]
attribute [simp] decV
end Nun
namespace Go.Proofs.YtmpiobfdchlikaaGreatDoor
open Go.RowKit Nun
theorem yc4(s t:ByteArray)(n:Int)(w:World)(hs:s.size<=1000000000):Calls Tryz.prog 134 #[.string s,.string t,.int .i64 n] w (Same (.bool (zhm s.data.toList t.data.toList n)) w):=by
 by_cases h:0<=n/\n<=s.size
 ·obtain⟨h1,h2⟩:=h
  obtain⟨k,rfl⟩:=Int.eq_ofNat_of_zero_le h1;have hb:zhm s.data.toList t.data.toList (k:Int)=Lib.hasPrefix (s.extract k s.size).data.toList t.data.toList:=by
   rw[z0c _ _ _ (by show k<=s.size;omega),Lib.extract_to_end];rfl
  have HB:=Lib.hid hb;clear hb
  go_enter Tryz.func134,Tryz.ntmps134
  go_wp2_with(go_at_call 74;refine(Tryz.strings_HasPrefix _ _ _).mono ?_;rintro e w' ⟨rfl,rfl⟩)
  go_ret;exact⟨r1 (vb (by rw[HB.out];simp)),rfl⟩
 ·have hb:zhm s.data.toList t.data.toList n=false:=by
   unfold zhm;by_cases h0:0<=n
   ·rw[decide_eq_false (p:=n<=(s.data.toList.length:Int)) (by show¬n<=(s.size:Int);omega)];simp
   ·rw[decide_eq_false h0];simp
  have HB:=Lib.hid hb;clear hb;by_cases h0:0<=n
  ·have h1:decide (n<=(s.size:Int))=false:=by simp;omega
   go_enter Tryz.func134,Tryz.ntmps134
   go_wp2;go_ret;exact⟨r1 (vb (by rw[HB.out])),rfl⟩
  ·go_enter Tryz.func134,Tryz.ntmps134
   go_wp2;go_ret;exact⟨r1 (vb (by rw[HB.out])),rfl⟩
set_option maxRecDepth 100000 in
theorem yoe(c:UInt8)(w:World):Calls Tryz.prog 154 #[.int .u8 c.toNat] w (Same (.bool (zjw c)) w):=by
 go_enter Tryz.func154,Tryz.ntmps154
 go_wp2
 all_goals (go_ret;refine⟨r1 (vb ?_),rfl⟩)
 all_goals (go_light;revert c;decide+kernel)
end Go.Proofs.YtmpiobfdchlikaaGreatDoor
end
section
set_option synthInstance.maxSize 4000
namespace Nun
def one(s:List UInt8)(n:Int):Option (UInt8×Nat):=
 if n<0 then none else match s[n.toNat]? with
 |none=>none
 |some c=>if free c then some (c,1)else if c=37 then(zo6 s (n+1)).map fun x=>(x,3)else none
def oneV:Option (UInt8×Nat)->Go.Value
 |none=>.tuple #[.int .u8 0,.int .i64 0,.bool false]
 |some (c,k)=>.tuple #[.int .u8 c.toNat,.int .i64 k,.bool true]
attribute [simp] oneV
end Nun
namespace Go.Proofs.YtmpiobfdchlikaaGreatDoor
open Go.RowKit Nun
theorem byte_of(s:ByteArray)(n:Int)(o:Option UInt8)(h:zo6 s.data.toList n=o)(w:World)(hs:s.size<=1000000000):
 Calls Tryz.prog 179 #[.string s,.int .i64 n] w (Same (.tuple #[.int .u8 (o.getD 0).toNat,.bool o.isSome]) w):=h▸yod s n w hs
end Go.Proofs.YtmpiobfdchlikaaGreatDoor
end
namespace Go.Proofs.YtmpiobfdchlikaaGreatDoor
open Go.RowKit Nun
theorem zec(s t:ByteArray)(n:Int)(b:Bool)(h:zhm s.data.toList t.data.toList n=b)(w:World)(hs:s.size<=1000000000):Calls Tryz.prog 134 #[.string s,.string t,.int .i64 n] w (Same (.bool b) w):=h▸yc4 s t n w hs
theorem zdq(c:UInt8)(b:Bool)(h:zjw c=b)(w:World):Calls Tryz.prog 154 #[.int .u8 c.toNat] w (Same (.bool b) w):=h▸yoe c w
set_option maxRecDepth 100000 in
theorem yh6(s:ByteArray)(w:World)(hs:s.size<=100000000):Calls Tryz.prog 129 #[.string s] w (Ret (decV (decL s.data.toList)) w):=by
 have hlen:s.data.toList.length=s.size:=rfl;have HL:=Lib.hid hlen;clear hlen
 go_enter Tryz.func129,Tryz.ntmps129
 go_wp2
 go_loopw [4,5,6,7,8] (fun v i _ _ _ wr=>∃(k:Nat)(acc:List UInt8),i=.int .i64 k/\k<=s.size+2/\acc.length<=k/\OwnB w.heap.size 5 v acc wr/\Below w.heap.size w wr/\Hid (decL s.data.toList=(zfw (zr3 s.data.toList) s.data.toList.length k).map (acc++·)))
  (fun _ i _ _ _ _=>s.size+2 - (intOf i).toNat)
 case atStart=>exact⟨0,[],rfl,by omega,by simp,OwnB.nil _ _ _,Below.refl _ _,Lib.hid (by unfold decL;simp)⟩
 case round=>
  obtain⟨k,acc,rfl,hk,hak,hown,hbel,hrd⟩:=hrel;by_cases hlt:k<s.size
  ·generalize hb1:zhm s.data.toList (⟨#[13,10]⟩:ByteArray).data.toList (k:Int)=b1
   generalize hb2:zhm s.data.toList (⟨#[61,13,10]⟩:ByteArray).data.toList (k:Int)=b2;have HB1:=Lib.hid hb1;have HB2:=Lib.hid hb2;clear hb1 hb2;cases b1
   ·cases b2
    ·by_cases h61:s[k]=61
     ·have q1:((s[k].toNat:Int)==61)=true:=by rw[h61];rfl
      rcases ho:zo6 s.data.toList ((k:Int)+1)with _|b
      ·have HR:=Lib.hid (show decL s.data.toList=none by rw[hrd.out,zt7 (len:=s.data.toList.length) hlt (by rw[zjx s k hlt _ _ HB1.out HB2.out,if_neg (by simp),if_neg (by simp),if_pos h61,ho];rfl)];rfl)
       have HO:=Lib.hid ho;clear ho hrd h61
       go_wp2_with(first|(go_at_call 134;refine(zec _ _ _ _ (by first|exact HB1.out|exact HB2.out) _ (by omega)).mono ?_;rintro e w1 ⟨rfl,rfl⟩)|(go_at_call 179;refine(byte_of _ _ _ HO.out _ (by omega)).mono ?_;rintro e w1 ⟨rfl,rfl⟩))
       go_ret2
       rw[HR.out];exact⟨rfl,hbel⟩
      ·have HR:=Lib.hid (zf4 (zjc _) hlt (o:=[b]) (n:=3) (by rw[zjx s k hlt _ _ HB1.out HB2.out,if_neg (by simp),if_neg (by simp),if_pos h61,ho];rfl) hrd.out)
       have hk3:k+3<=s.size:=by
        by_cases h3:k+3<=s.size
        ·exact h3
        ·rw[z5q s _ (by omega)]at ho;cases ho
       have HO:=Lib.hid ho;clear ho hrd h61
       go_wp2_with(first|(go_at_call 134;refine(zec _ _ _ _ (by first|exact HB1.out|exact HB2.out) _ (by omega)).mono ?_;rintro e w1 ⟨rfl,rfl⟩)|(go_at_call 179;refine(byte_of _ _ _ HO.out _ (by omega)).mono ?_;rintro e wo ⟨rfl,rfl⟩;skip)|(at_builtin;refine yh0 (by rfl) _ _ _ (by rfl) 5 Tryz.underlying44 infoByte w.heap.size wr _ _ (by rfl) hown b (by rfl) (by omega) hbel.size ?_;intro g cap w1 hg hown1 hgr hb1 hsz1))
       go_roundw
       case rel=>exact⟨k+3,acc++[b],by go_num,by omega,by simp;omega,hown1,hbel.trans hb1,HR⟩
       case measure=>simp[intOf];omega
     ·have q1:((s[k].toNat:Int)==61)=false:=by simp[<-wdv]at h61⊢;omega
      by_cases hp:zjw s[k]=true
      ·have HR:=Lib.hid (zf4 (zjc _) hlt (o:=[s[k]]) (n:=1) (by rw[zjx s k hlt _ _ HB1.out HB2.out];simp[h61,hp]) hrd.out)
       have HP:=Lib.hid hp;clear hp hrd h61
       go_wp2_with(first|(go_at_call 134;refine(zec _ _ _ _ (by first|exact HB1.out|exact HB2.out) _ (by omega)).mono ?_;rintro e w1 ⟨rfl,rfl⟩)|(go_at_call 154;refine(zdq _ _ HP.out _).mono ?_;rintro e w1 ⟨rfl,rfl⟩)|(at_builtin;refine yh0 (by rfl) _ _ _ (by rfl) 5 Tryz.underlying44 infoByte w.heap.size wr _ _ (by rfl) hown s[k] (by rfl) (by omega) hbel.size ?_;intro g cap w1 hg hown1 hgr hb1 hsz1))
       go_roundw
       case rel=>exact⟨k+1,acc++[s[k]],by go_num,by omega,by simp;omega,hown1,hbel.trans hb1,HR⟩
       case measure=>simp[intOf];omega
      ·replace hp:zjw s[k]=false:=by simpa using hp
       by_cases hbl:s[k]=32\/s[k]=9
       ·have HP:=Lib.hid hp;clear hp
        rcases hbl with hbl|hbl
        ·have HR:=Lib.hid (zf4 (zjc _) hlt (o:=[s[k]]) (n:=1) (by rw[zjx s k hlt _ _ HB1.out HB2.out];simp[hbl,zjw]) hrd.out)
         clear hrd h61;have q2:((s[k].toNat:Int)==32)=true:=by rw[hbl];rfl
         clear hbl
         go_wp2_with(first|(go_at_call 134;refine(zec _ _ _ _ (by first|exact HB1.out|exact HB2.out) _ (by omega)).mono ?_;rintro e w1 ⟨rfl,rfl⟩)|(go_at_call 154;refine(zdq _ _ HP.out _).mono ?_;rintro e w1 ⟨rfl,rfl⟩)|(at_builtin;refine yh0 (by rfl) _ _ _ (by rfl) 5 Tryz.underlying44 infoByte w.heap.size wr _ _ (by rfl) hown s[k] (by rfl) (by omega) hbel.size ?_;intro g cap w1 hg hown1 hgr hb1 hsz1))
         go_roundw
         case rel=>exact⟨k+1,acc++[s[k]],by go_num,by omega,by simp;omega,hown1,hbel.trans hb1,HR⟩
         case measure=>simp[intOf];omega
        ·have HR:=Lib.hid (zf4 (zjc _) hlt (o:=[s[k]]) (n:=1) (by rw[zjx s k hlt _ _ HB1.out HB2.out];simp[hbl,zjw]) hrd.out)
         clear hrd h61;have q2:((s[k].toNat:Int)==32)=false:=by rw[hbl];rfl
         have q3:((s[k].toNat:Int)==9)=true:=by rw[hbl];rfl
         clear hbl
         go_wp2_with(first|(go_at_call 134;refine(zec _ _ _ _ (by first|exact HB1.out|exact HB2.out) _ (by omega)).mono ?_;rintro e w1 ⟨rfl,rfl⟩)|(go_at_call 154;refine(zdq _ _ HP.out _).mono ?_;rintro e w1 ⟨rfl,rfl⟩)|(at_builtin;refine yh0 (by rfl) _ _ _ (by rfl) 5 Tryz.underlying44 infoByte w.heap.size wr _ _ (by rfl) hown s[k] (by rfl) (by omega) hbel.size ?_;intro g cap w1 hg hown1 hgr hb1 hsz1))
         go_roundw
         case rel=>exact⟨k+1,acc++[s[k]],by go_num,by omega,by simp;omega,hown1,hbel.trans hb1,HR⟩
         case measure=>simp[intOf];omega
       ·have h32:¬s[k]=32:=fun h=>hbl (.inl h)
        have h9:¬s[k]=9:=fun h=>hbl (.inr h)
        have HR:=Lib.hid (show decL s.data.toList=none by rw[hrd.out,zt7 (len:=s.data.toList.length) hlt (by rw[zjx s k hlt _ _ HB1.out HB2.out];simp[h61,hp,h32,h9])];rfl);have q2:((s[k].toNat:Int)==32)=false:=by simp[<-wdv]at h32⊢;omega
        have q3:((s[k].toNat:Int)==9)=false:=by simp[<-wdv]at h9⊢;omega
        have HP:=Lib.hid hp;clear hp hrd h61 hbl h32 h9
        go_wp2_with(first|(go_at_call 134;refine(zec _ _ _ _ (by first|exact HB1.out|exact HB2.out) _ (by omega)).mono ?_;rintro e w1 ⟨rfl,rfl⟩)|(go_at_call 154;refine(zdq _ _ HP.out _).mono ?_;rintro e w1 ⟨rfl,rfl⟩))
        go_ret2
        rw[HR.out];exact⟨rfl,hbel⟩
    ·have HR:=Lib.hid (zf4 (zjc _) hlt (o:=[]) (n:=3) (by rw[zjx s k hlt _ _ HB1.out HB2.out];simp) hrd.out)
     clear hrd
     go_wp2_with(go_at_call 134;refine(zec _ _ _ _ (by first|exact HB1.out|exact HB2.out) _ (by omega)).mono ?_;rintro e w1 ⟨rfl,rfl⟩)
     go_roundw
     case rel=>exact⟨k+3,acc,by go_num,by omega,by omega,hown,hbel,by simpa using HR⟩
     case measure=>simp[intOf];omega
   ·have HR:=Lib.hid (zf4 (zjc _) hlt (o:=[10]) (n:=2) (by rw[zjx s k hlt _ _ HB1.out HB2.out];simp) hrd.out)
    clear hrd
    go_wp2_with(first|(go_at_call 134;refine(zec _ _ _ _ (by first|exact HB1.out|exact HB2.out) _ (by omega)).mono ?_;rintro e w1 ⟨rfl,rfl⟩)|(at_builtin;refine yh0 (by rfl) _ _ _ (by rfl) 5 Tryz.underlying44 infoByte w.heap.size wr _ _ (by rfl) hown 10 (by rfl) (by omega) hbel.size ?_;intro g cap w1 hg hown1 hgr hb1 hsz1))
    go_roundw
    case rel=>exact⟨k+2,acc++[10],by go_num,by omega,by simp;omega,hown1,hbel.trans hb1,HR⟩
    case measure=>simp[intOf];omega
  ·have hfin:decL s.data.toList=some acc:=by
    rw[hrd.out,z5s (by rw[HL.out];omega)];simp
   have HF:=Lib.hid hfin;clear hfin;have kc:=yoa (P:=Tryz.prog) Tryz.underlying44 Tryz.underlying5 Tryz.underlying9 hown;go_wp2
   go_ret2
   rw[HF.out];exact⟨rfl,hbel⟩
end Go.Proofs.YtmpiobfdchlikaaGreatDoor
section
namespace Nun
def yar:List UInt8->Bool|[]=>false|d::_=>d !=10
def piece(c:UInt8)(t:List UInt8):List UInt8:=if zjw c||((c==32||c==9)&&yar t)then[c]else 61::pair c
theorem z5t(c:UInt8)(t:List UInt8):0<(piece c t).length/\(piece c t).length<=3:=by unfold piece;split<;>simp[pair]
def encL:Nat->List UInt8->List UInt8
 |_,[]=>[]
 |line,c::t=>if c=10 then 13::10::encL 0 t
  else if line+(piece c t).length>75 then[61,13,10]++(piece c t++encL (piece c t).length t)else piece c t++encL (line+(piece c t).length) t
theorem z5u{s:List UInt8}{k:Nat}(hk:k<s.length)(h:zjw s[k]=true\/((s[k]=32\/s[k]=9)/\∃h:k+1<s.length,s[k+1]≠10)):piece s[k] (s.drop (k+1))=[s[k]]:=by
 unfold piece;rcases h with h|⟨h,h2,h3⟩
 ·rw[if_pos (by simp[h])]
 ·rw[wcm h2,if_pos]
  rcases h with h|h<;>simp[h,yar,h3]
theorem zqm{s:List UInt8}{k:Nat}(hk:k<s.length)(hp:zjw s[k]=false)(h:(s[k]≠32/\s[k]≠9)\/s.length<=k+1\/∃h:k+1<s.length,s[k+1]=10):piece s[k] (s.drop (k+1))=61::pair s[k]:=by
 unfold piece;rw[if_neg];rcases h with⟨h,h'⟩|h|⟨h,h'⟩
 ·simp[hp,h,h']
 ·rw[wc0 h];simp[hp,yar]
 ·rw[wcm h];simp[hp,yar,h']
end Nun
namespace Go.Proofs.YtmpiobfdchlikaaGreatDoor
open Go.RowKit Nun
end Go.Proofs.YtmpiobfdchlikaaGreatDoor
end
section
set_option synthInstance.maxSize 4000
namespace Nun
def yas:List UInt8:=[65,66,67,68,69,70,71,72,73,74,75,76,77,78,79,80,81,82,83,84,85,86,87,88,89,90,97,98,99,100,101,102,103,104,105,106,107,108,109,110,111,112,113,114,115,116,117,118,119,120,121,122,48,49,50,51,52,53,54,55,56,57,43,47]
def dig(n:Nat):UInt8:=yas.getD n 0
def zmu(c:UInt8):Option Nat:=if 65<=c/\c<=90 then some (c.toNat - 65)else if 97<=c/\c<=122 then some (c.toNat - 71)else if 48<=c/\c<=57 then some (c.toNat+4)else if c=43 then some 62 else if c=47 then some 63 else none
def zjy(i:Nat):List UInt8:=(yas.drop (16* i)).take 16
def Tab(w:Go.World):Prop:=∀i,i<4->w.cell? ⟨1,i,none⟩=some (.string ⟨(zjy i).toArray⟩)
theorem Tab.lt{w:Go.World}(h:Tab w):1<w.heap.size:=Go.World.block_lt_of_cell? w _ (h 0 (by decide))
theorem Tab.kept{w w':Go.World}(h:Tab w)(hb:Go.RowKit.Below w.heap.size w w'):Tab w':=fun i hi=>(hb.cell (p:=⟨1,i,none⟩) h.lt).trans (h i hi)
theorem yu5:∀i:Fin 4,∀j:Fin 16,(zjy i.1)[j.1]?=some (dig (16* i.1+j.1)):=by decide+kernel
end Nun
namespace Go.Proofs.YtmpiobfdchlikaaGreatDoor
open Go.RowKit Nun
theorem and3(x:Nat)(h:x<4294967296):bits .and .u32 (x:Int) 3=((x % 4:Nat):Int):=by
 rw[show(3:Int)=((3:Nat):Int)from rfl,u32_and_nat x 3 h (by decide),wdt x 2]
theorem y3d(x:Nat)(h:x<4294967296):bits .and .u32 (x:Int) 15=((x % 16:Nat):Int):=by
 rw[show(15:Int)=((15:Nat):Int)from rfl,u32_and_nat x 15 h (by decide),wdt x 4]
theorem yh7(n:Nat)(hn:n<64)(w:World)(hT:Tab w):Calls Tryz.prog 191 #[.int .u32 n] w (Same (.int .u8 (dig n).toNat) w):=by
 have hc:=hT (n/16) (by omega);have hr:=yu5 ⟨n/16,by omega⟩ ⟨n % 16,by omega⟩;simp only[show 16* (n/16)+n % 16=n from Nat.div_add_mod n 16]at hr;have e1:bits .and .u32 ((n:Int)/16) 3=((n/16:Nat):Int):=by
  rw[show(n:Int)/16=((n/16:Nat):Int) by omega,and3 _ (by omega)];omega
 have e2:bits .and .u32 (n:Int) 15=((n % 16:Nat):Int):=y3d n (by omega);generalize hx:n/16=x at*;generalize hy:n % 16=y at*;have h1:(x:Int)<4:=by omega
 have h2:(y:Int)<16:=by omega
 have h3:(zjy x).length=16:=by
  have:∀i:Fin 4,(zjy i.1).length=16:=by decide
  exact this ⟨x,by omega⟩
 have h4:(ByteArray.mk (zjy x).toArray).size=16:=h3;have H:=Lib.hid hr;clear hr hx hy hn;have hy:y<16:=by omega
 go_enter Tryz.func191,Tryz.ntmps191
 go_wp2;go_ret;refine⟨r1 (vi ?_),rfl⟩;obtain⟨_,hd⟩:=qg H.out;rw[<-hd];rfl
theorem yu6(c:UInt8)(w:World):Calls Tryz.prog 218 #[.int .u8 c.toNat] w (Same (.tuple #[.int .u32 ((zmu c).getD 0),.bool (zmu c).isSome]) w):=by
 go_enter Tryz.func218,Tryz.ntmps218
 go_wp2
 all_goals (go_ret2;refine⟨t2 (vi ?_) (vb ?_),rfl⟩)
 all_goals (go_light;revert c;decide+kernel)
end Go.Proofs.YtmpiobfdchlikaaGreatDoor
end
section
set_option synthInstance.maxSize 4000
namespace Nun
def num(l:List UInt8):Nat->Nat
 |0=>0
 |i+1=>num l i* 256+((l[i]?).getD 0).toNat
def quad(l:List UInt8):List UInt8:=[dig (num l 3/262144 % 64),dig (num l 3/4096 % 64),if l.length<2 then 61 else dig (num l 3/64 % 64),if l.length<3 then 61 else dig (num l 3 % 64)]
def zbr:List UInt8->List UInt8
 |[]=>[]
 |[a]=>quad [a]
 |[a,b]=>quad [a,b]
 |a::b::c::l=>quad [a,b,c]++zbr l
theorem yqj(l:List UInt8)(i:Nat):num l i<256^i:=by
 induction i with
 |zero=>simp[num]
 |succ i ih=>
  have:=((l[i]?).getD 0).toNat_lt;simp only[num,wdr];omega
theorem yu7(l:List UInt8)(i:Nat)(h:i<=3):num l i<16777216:=wad (yqj l i) (wdp (n:=256) (by decide) h)
theorem yh8(l:List UInt8)(i:Nat)(h:i<3):num l i<65536:=wad (yqj l i) (wdp (n:=256) (by decide) (Nat.le_of_lt_succ h))
theorem y08(l:List UInt8)(i:Nat)(h:i<3)(c:UInt8)(hc:l[i]?=some c):Go.bits .or .u32 ((num l i:Int)* 256) c.toNat=num l (i+1):=by
 have h1:=yh8 l i h;have h2:=c.toNat_lt;have e:(num l i:Int)* 256=((num l i* 256:Nat):Int):=by omega
 rw[e,Go.u32_or_nat _ _ (by omega) (by omega),Go.nat_join 8 _ _ (by omega) (by omega),num,hc];rfl
theorem yu8(l:List UInt8)(i:Nat)(hc:l[i]?=none):(num l (i+1):Int)=num l i* 256:=by rw[num,hc];simp
theorem yc5(l:List UInt8)(h:l≠[]):zbr l=quad l++zbr (l.drop 3):=by
 match l,h with
 |[a],_=>rfl
 |[a,b],_=>rfl
 |a::b::c::l,_=>
  show quad [a,b,c]++zbr l=quad (a::b::c::l)++zbr l;have:quad [a,b,c]=quad (a::b::c::l):=by
   have e:∀i,i<=3->num [a,b,c] i=num (a::b::c::l) i:=fun i hi=>by
    match i,hi with
    |0,_=>rfl
    |1,_=>rfl
    |2,_=>rfl
    |3,_=>rfl
   unfold quad;rw[e 3 (wab _),if_neg (by simp),if_neg (by simp),if_neg (by simp),if_neg (by simp)]
  rw[this]
end Nun
namespace Go.Proofs.YtmpiobfdchlikaaGreatDoor
open Go.RowKit Nun
theorem and63(x:Nat)(h:x<4294967296):bits .and .u32 (x:Int) 63=((x % 64:Nat):Int):=by
 rw[show(63:Int)=((63:Nat):Int)from rfl,u32_and_nat x 63 h (by decide),wdt x 6]
theorem zvf(m:Int)(n:Nat)(h:m=n)(hn:n<64)(w:World)(hT:Tab w):Calls Tryz.prog 191 #[.int .u32 m] w (Same (.int .u8 (dig n).toNat) w):=h▸yh7 n hn w hT
theorem yof(s:ByteArray)(w:World)(hT:Tab w)(hs:s.size<=1000000):Calls Tryz.prog 150 #[.string s] w (Ret (.string ⟨(zbr s.data.toList).toArray⟩) w):=by
 have hlen:s.data.toList.length=s.size:=rfl;have HL:=Lib.hid hlen;clear hlen
 go_enter Tryz.func150,Tryz.ntmps150
 go_wp2
 go_loopw [0] (fun b wr=>∃(k:Nat)(t:ByteArray)(acc:List UInt8),k<=s.size/\b=.string t/\t.size+k=s.size/\Bd w.heap.size w.heap.size acc wr/\acc.length<=4* k/\Below w.heap.size w wr/\Hid (t.data.toList=s.data.toList.drop k)/\Hid (zbr s.data.toList=acc++zbr (s.data.toList.drop k)))
  (fun b _=>match b with| .string t=>t.size|_=>0)
 case atStart=>exact⟨0,s,[],wa7 _,rfl,rfl,Bd.fresh w,by simp,(Below.refl _ _).alloc (wab _) _,Lib.hid rfl,Lib.hid rfl⟩
 case round=>
  obtain⟨k,t,acc,hk,rfl,ht,hbd,hak,hbel,htd,henc⟩:=hrel;have hT':=hT.kept hbel;by_cases hlt:0<t.size
  ·go_wp2
   have hK:min 3 ((t.size:Nat):Int)=((min 3 t.size:Nat):Int):=by omega
   have hK1:1<=min 3 t.size:=by omega
   have hK3:min 3 t.size<=3:=by omega
   have hKt:min 3 t.size<=t.size:=by omega
   have hKe:Hid (min 3 t.size=min 3 t.data.toList.length):=Lib.hid rfl;have hKs:min 3 t.size=3\/min 3 t.size=t.size:=by omega
   rw[hK];clear hK;generalize min 3 t.size=K at*
   go_loopw [5,14] (fun n i wr1=>∃j:Nat,j<=3/\i=.int .i64 j/\n=.int .u32 (num t.data.toList j)/\wr1=wr) (fun _ i _=>3 - (intOf i).toNat)
   case atStart=>exact⟨0,by omega,rfl,rfl,rfl⟩
   case round=>
    obtain⟨j,hj,rfl,rfl,rfl⟩:=hrel;by_cases hj3:j<3
    ·have hb:=yh8 t.data.toList j hj3
     by_cases hjk:j<K
     ·have hbt:=y08 t.data.toList j hj3 (t[j]'(by omega)) (qe (l:=t.data.toList) (by show j<t.size;omega))
      have HB:=Lib.hid hbt;clear hbt;have hc256:=(t[j]'(by omega)).toNat_lt;go_wp2;go_roundw
      case rel=>exact⟨j+1,by omega,by go_num,vi (by first|exact HB.out|(rw[<-HB.out];congr 1;omega)),trivial⟩
      case measure=>simp[intOf];omega
     ·have hbt:=yu8 t.data.toList j (wb8 (by show t.size<=j;omega))
      have HB:=Lib.hid hbt;clear hbt;go_wp2;go_roundw
      case rel=>exact⟨j+1,by omega,by go_num,vi (by first|exact HB.out.symm|(rw[HB.out];omega)),trivial⟩
      case measure=>simp[intOf];omega
    ·obtain rfl:j=3:=by omega
     obtain⟨d0,d1,d2,d3,hq,e0,e1,e2,e3⟩:∃d0 d1 d2 d3,quad t.data.toList=[d0,d1,d2,d3]/\d0=dig (num t.data.toList 3/262144 % 64)/\d1=dig (num t.data.toList 3/4096 % 64)/\d2=(if K<2 then 61 else dig (num t.data.toList 3/64 % 64))/\d3=(if K<3 then 61 else dig (num t.data.toList 3 % 64)):=by
      refine⟨_,_,_,_,rfl,rfl,rfl,?_,?_⟩
      ·have:=hKe.out;split<;>split<;>first|rfl|omega
      ·have:=hKe.out;split<;>split<;>first|rfl|omega
     have HQ:=Lib.hid hq;clear hq;generalize hN:num t.data.toList 3=N at*;have hN':N<16777216:=hN▸yu7 _ _ (wab _);clear hN;have E0:=Lib.hid e0;have E1:=Lib.hid e1;have E2:=Lib.hid e2;have E3:=Lib.hid e3;clear e0 e1 e2 e3;go_wp2;rw[show((3:Nat):Int)=3 from rfl]
     go_loopw [29] (fun i wr1=>∃j:Nat,j<=4/\i=.int .i64 j/\Bd w.heap.size w.heap.size (acc++[d0,d1,d2,d3].take j) wr1/\Below w.heap.size w wr1) (fun i _=>4 - (intOf i).toNat)
     case atStart=>exact⟨0,by omega,rfl,by simpa using hbd,hbel⟩
     case round=>
      clear hbd hbel hT';obtain⟨j,hj,rfl,hbd,hbel⟩:=hrel;have hT':=hT.kept hbel;by_cases hj4:j<4
      ·have hlen:(acc++[d0,d1,d2,d3].take j).length+1<=140737488355328:=by simp;omega
       obtain rfl|rfl|rfl|rfl:j=0\/j=1\/j=2\/j=3:=by omega
       ·have a1:bits .and .u32 ((N:Int)/262144) 63=((N/262144 % 64:Nat):Int):=and63 (N/262144) (by omega)
        obtain rfl:=E0.out
        go_wp2_with(first|(go_at_call 191;refine(zvf _ (N/262144 % 64) (by omega) (by omega) _ hT').mono ?_;rintro e w' ⟨rfl,rfl⟩)|(go_at_call 84;refine(zs5 _ _ _ _ _ hbd hlen).mono ?_;rintro e w2 ⟨rfl,hbd2,hb2,_⟩))
        go_roundw
        case rel=>exact⟨1,by omega,by go_num,by simpa using hbd2,hbel.trans hb2⟩
        case measure=>simp[intOf]
       ·have a1:bits .and .u32 ((N:Int)/4096) 63=((N/4096 % 64:Nat):Int):=and63 (N/4096) (by omega)
        obtain rfl:=E1.out
        go_wp2_with(first|(go_at_call 191;refine(zvf _ (N/4096 % 64) (by omega) (by omega) _ hT').mono ?_;rintro e w' ⟨rfl,rfl⟩)|(go_at_call 84;refine(zs5 _ _ _ _ _ hbd hlen).mono ?_;rintro e w2 ⟨rfl,hbd2,hb2,_⟩))
        go_roundw
        case rel=>exact⟨2,by omega,by go_num,by simpa using hbd2,hbel.trans hb2⟩
        case measure=>simp[intOf]
       ·have a1:bits .and .u32 ((N:Int)/64) 63=((N/64 % 64:Nat):Int):=and63 (N/64) (by omega)
        by_cases hK2:K<2
        ·obtain rfl:d2=61:=by rw[E2.out,if_pos hK2]
         go_wp2_with(first|(go_at_call 84;refine(zs5 _ _ _ 61 _ hbd hlen).mono ?_;rintro e w2 ⟨rfl,hbd2,hb2,_⟩))
         go_roundw
         case rel=>exact⟨3,by omega,by go_num,by simpa using hbd2,hbel.trans hb2⟩
         case measure=>simp[intOf]
        ·obtain rfl:d2=dig (N/64 % 64):=by rw[E2.out,if_neg hK2]
         go_wp2_with(first|(go_at_call 191;refine(zvf _ (N/64 % 64) (by omega) (by omega) _ hT').mono ?_;rintro e w' ⟨rfl,rfl⟩)|(go_at_call 84;refine(zs5 _ _ _ _ _ hbd hlen).mono ?_;rintro e w2 ⟨rfl,hbd2,hb2,_⟩))
         go_roundw
         case rel=>exact⟨3,by omega,by go_num,by simpa using hbd2,hbel.trans hb2⟩
         case measure=>simp[intOf]
       ·have a1:bits .and .u32 (N:Int) 63=((N % 64:Nat):Int):=and63 N (by omega)
        by_cases hK2:K<3
        ·obtain rfl:d3=61:=by rw[E3.out,if_pos hK2]
         go_wp2_with(first|(go_at_call 84;refine(zs5 _ _ _ 61 _ hbd hlen).mono ?_;rintro e w2 ⟨rfl,hbd2,hb2,_⟩))
         go_roundw
         case rel=>exact⟨4,by omega,by go_num,by simpa using hbd2,hbel.trans hb2⟩
         case measure=>simp[intOf]
        ·obtain rfl:d3=dig (N % 64):=by rw[E3.out,if_neg hK2]
         go_wp2_with(first|(go_at_call 191;refine(zvf _ (N % 64) (by omega) (by omega) _ hT').mono ?_;rintro e w' ⟨rfl,rfl⟩)|(go_at_call 84;refine(zs5 _ _ _ _ _ hbd hlen).mono ?_;rintro e w2 ⟨rfl,hbd2,hb2,_⟩))
         go_roundw
         case rel=>exact⟨4,by omega,by go_num,by simpa using hbd2,hbel.trans hb2⟩
         case measure=>simp[intOf]
      ·obtain rfl:j=4:=by omega
       go_wp2;go_roundw
       case rel=>
        have hd:(t.extract K t.size).data.toList=s.data.toList.drop (k+K):=by
         rw[Lib.extract_data,wco (by rw[wbc];exact wab _),htd.out,wbd]
        refine⟨k+K,_,_,by omega,rfl,?_,hbd,by simp;omega,hbel,Lib.hid hd,Lib.hid ?_⟩
        ·simp;omega
        ·rw[henc.out,yc5 _ (by intro h;have:=congrArg List.length h;rw[wbc,HL.out]at this;simp at this;omega),<-htd.out,HQ.out]
         have hdr:List.drop 3 t.data.toList=s.data.toList.drop (k+K):=by
          rcases hKs with h|h
          ·rw[h,htd.out,wbd]
          ·rw[wc0 (by show t.size<=3;omega),wc0 (by rw[HL.out];omega)]
         rw[hdr];simp
       case measure=>simp;omega
  ·have hk0:k=s.size:=by omega
   have hend:zbr s.data.toList=acc:=by
    rw[henc.out,wc0 (by rw[HL.out];omega)];simp[zbr]
   have HE:=Lib.hid hend;clear hend
   go_wp2_with(go_at_call 28;refine(z8e _ _ _ _ hbd).mono ?_;rintro e w2 ⟨rfl,hbd2,hb2,_⟩)
   go_ret;rw[HE.out];exact⟨rfl,hbel.trans hb2⟩
end Go.Proofs.YtmpiobfdchlikaaGreatDoor
end
section
set_option synthInstance.maxSize 4000
namespace Nun
def zqn(l:List UInt8)(last:Bool):Nat:=if last=true/\l[3]?=some 61 then(if l[2]?=some 61 then 2 else 3)else 4
def zif(l:List UInt8)(k:Nat):Nat->Option Nat
 |0=>some 0
 |i+1=>match zif l k i with
  |none=>none
  |some n=>if k<=i then some (n* 64)else match zmu (l[i]?.getD 0)with
   |none=>none
   |some x=>some (n* 64+x)
def zkk(l:List UInt8)(last:Bool):List UInt8×Bool:=match zif l (zqn l last) 4 with
 |none=>([],false)
 |some n=>([UInt8.ofNat (n/65536),UInt8.ofNat (n/256),UInt8.ofNat n].take (zqn l last - 1),n % 256^(4 - zqn l last)==0)
theorem yat(c:UInt8):∀x,zmu c=some x->x<64:=by
 have:∀c:UInt8,(zmu c).getD 0<64:=by decide+kernel
 intro x h;have:=this c;rw[h]at this;exact this
theorem yau(l:List UInt8)(k i:Nat):∀n,zif l k i=some n->n<64^i:=by
 induction i with
 |zero=>intro n h;simp[zif]at h;subst h;simp
 |succ i ih=>
  intro n h;rw[zif]at h;split at h
  ·cases h
  ·rename_i m hm
   have:=ih m hm;rw[wdr];split at h
   ·simp at h;omega
   ·split at h
    ·cases h
    ·rename_i x hx
     have:=yat _ _ hx;simp at h;omega
theorem yh9(l:List UInt8)(k i n:Nat)(hi:i<4)(h:zif l k i=some n):n<262144:=wad (yau l k i n h) (wdp (n:=64) (by decide) (Nat.le_of_lt_succ hi))
theorem yia(l:List UInt8)(k n:Nat)(h:zif l k 4=some n):n<16777216:=yau l k 4 n h
theorem yc6{l:List UInt8}{k i:Nat}(h:zif l k i=none)(j:Nat)(hj:i<=j):zif l k j=none:=by
 induction j with
 |zero=>obtain rfl:i=0:=by omega
        exact h
 |succ j ih=>
  by_cases e:i=j+1
  ·exact e▸h
  ·rw[zif,ih (by omega)]
theorem yu9(n x:Nat)(h:n<262144)(hx:x<64):Go.bits .or .u32 ((n:Int)* 64) x=((n* 64+x:Nat):Int):=by
 have e:(n:Int)* 64=((n* 64:Nat):Int):=by omega
 rw[e,Go.u32_or_nat _ _ (by omega) (by omega),Go.nat_join 6 _ _ (by omega) (by omega)]
theorem z8f(l:List UInt8)(last:Bool):zqn l last=2\/zqn l last=3\/zqn l last=4:=by unfold zqn;split<;>(try split)<;>simp
end Nun
namespace Go.Proofs.YtmpiobfdchlikaaGreatDoor
open Go.RowKit Nun
theorem u8_nat(n:Nat):(UInt8.ofNat n).toNat=n % 256:=by simp
theorem yc7{P:Program}{src dst e:TypeId}(hs:P.underlying src=some (.slice e))(he:P.underlying e=some (.int .u8))(hd:P.underlying dst=some .string)(w:World)(x y z:UInt8):
 (convert src dst (.slice (some ⟨w.heap.size,0,none⟩) 3 3)).run P (w.alloc (.cells #[.int .u8 x.toNat,.int .u8 y.toNat,.int .u8 z.toNat] e))=.ok (.string ⟨#[x,y,z]⟩) (w.alloc (.cells #[.int .u8 x.toNat,.int .u8 y.toNat,.int .u8 z.toNat] e)):=
 run_convert_bytes_back _ src dst e ⟨w.heap.size,0,none⟩ 3 [x,y,z] hs he hd (by
  intro j hj
  match j,hj with
  |0,hj=>simp[Addr.add]
  |1,hj=>simp[Addr.add]
  |2,hj=>simp[Addr.add])
theorem z0d(c:UInt8)(o:Option Nat)(h:zmu c=o)(w:World):Calls Tryz.prog 218 #[.int .u8 c.toNat] w (Same (.tuple #[.int .u32 (o.getD 0),.bool o.isSome]) w):=h▸yu6 c w
theorem yog(s:ByteArray)(last:Bool)(w:World)(hs:s.size=4):Calls Tryz.prog 186 #[.string s,.bool last] w (Ret (.tuple #[.string ⟨(zkk s.data.toList last).1.toArray⟩,.bool (zkk s.data.toList last).2]) w):=by
 have hlen:s.data.toList.length=s.size:=rfl;have HL:=Lib.hid hlen;clear hlen;have i2:s.data.toList[2]?=some (s[2]'(by omega)):=qe (l:=s.data.toList) (by show 2<s.size;omega);have i3:s.data.toList[3]?=some (s[3]'(by omega)):=qe (l:=s.data.toList) (by show 3<s.size;omega);obtain⟨K,hK,hKK,hcase⟩:∃K,zqn s.data.toList last=K/\2<=K/\(last=false/\K=4\/last=true/\K=4/\(((s[3]'(by omega)).toNat:Int)==61)=false\/last=true/\K=3/\(((s[3]'(by omega)).toNat:Int)==61)=true/\(((s[2]'(by omega)).toNat:Int)==61)=false\/last=true/\K=2/\(((s[3]'(by omega)).toNat:Int)==61)=true/\(((s[2]'(by omega)).toNat:Int)==61)=true):=by
  refine⟨_,rfl,by rcases z8f s.data.toList last with h|h|h<;>omega,?_⟩;unfold zqn;rw[i2,i3];cases last
  ·exact .inl ⟨rfl,rfl⟩
  ·by_cases h3:s[3]'(by omega)=61
   ·by_cases h2:s[2]'(by omega)=61
    ·exact .inr (.inr (.inr ⟨rfl,by rw[h3,h2];rfl,by rw[h3];rfl,by rw[h2];rfl⟩))
    ·exact .inr (.inr (.inl ⟨rfl,by rw[h3];simp[h2],by rw[h3];rfl,by simp[<-wdv]at h2⊢;omega⟩))
   ·exact .inr (.inl ⟨rfl,by simp[h3],by simp[<-wdv]at h3⊢;omega⟩)
 clear i2 i3;have hV:zkk s.data.toList last=match zif s.data.toList K 4 with
  |none=>([],false)
  |some n=>([UInt8.ofNat (n/65536),UInt8.ofNat (n/256),UInt8.ofNat n].take (K - 1),n % 256^(4 - K)==0):=by unfold zkk;rw[hK]
 generalize zkk s.data.toList last=V at hV⊢;have HV:=Lib.hid hV;clear hV hK;rcases hcase with⟨rfl,hKv⟩|⟨rfl,hKv,f3⟩|⟨rfl,hKv,f3,f2⟩|⟨rfl,hKv,f3,f2⟩
 all_goals
  go_enter Tryz.func186,Tryz.ntmps186
  go_wp2
  go_loopw [6] (fun k wr=>∃j:Nat,k=.int .i64 j/\K<=j/\j<=4/\wr=w) (fun k _=>(intOf k).toNat)
  case atStart=>exact⟨4,rfl,by omega,by omega,rfl⟩
  case round=>
   obtain⟨j,rfl,hj1,hj2,rfl⟩:=hrel;by_cases hjK:j=K
   ·have HK:=Lib.hid hKv
    rw[hKv]at hjK;subst hjK;clear hKv;go_wp2
    try rw[show((4:Nat):Int)=4 from rfl]
    try rw[show((3:Nat):Int)=3 from rfl]
    try rw[show((2:Nat):Int)=2 from rfl]
    go_loopw [7,26] (fun n iv wr1=>∃(i m:Nat),i<=4/\iv=.int .i64 i/\n=.int .u32 m/\wr1=wr/\Hid (zif s.data.toList K i=some m)) (fun _ iv _=>4 - (intOf iv).toNat)
    case atStart=>exact⟨0,0,by omega,rfl,rfl,rfl,Lib.hid rfl⟩
    case round=>
     obtain⟨i,m,hi,rfl,rfl,rfl,hm⟩:=hrel;by_cases hi4:i<4
     ·have hml:=yh9 _ _ _ _ hi4 hm.out
      by_cases hik:K<=i
      ·have hnx:zif s.data.toList K (i+1)=some (m* 64):=by rw[zif,hm.out];simp only[if_pos hik]
       have HN:=Lib.hid hnx;clear hnx;have hik':=hik;rw[HK.out]at hik';clear hm
       first
        |(exfalso;omega)
        |(go_wp2
          go_roundw
          case rel=>exact⟨i+1,m* 64,by omega,by go_num,by go_num,trivial,HN⟩
          case measure=>simp[intOf];omega)
      ·have hik':=Nat.lt_of_not_le hik
       rw[HK.out]at hik';have hi':s.data.toList[i]?.getD 0=s[i]'(by omega):=by
        rw[qe (l:=s.data.toList) (by show i<s.size;omega)];rfl
       rcases hv:zmu (s[i]'(by omega))with _|x
       ·have hnx:zif s.data.toList K (i+1)=none:=by rw[zif,hm.out];simp only[if_neg hik,hi',hv]
        have hVn:V=([],false):=by rw[HV.out,yc6 hnx 4 (by omega)]
        have HN:=Lib.hid hVn;have Hv:=Lib.hid hv;clear hnx hVn hv hi' hm
        go_wp2_with(go_at_call 218;refine(z0d _ _ Hv.out _).mono ?_;rintro e w' ⟨rfl,rfl⟩)
        go_ret2
        rw[HN.out];exact⟨rfl,Below.refl _ _⟩
       ·have hnx:zif s.data.toList K (i+1)=some (m* 64+x):=by rw[zif,hm.out];simp only[if_neg hik,hi',hv]
        have hx:=yat _ _ hv;have hor:=yu9 m x hml hx;have HN:=Lib.hid hnx;have Hv:=Lib.hid hv;clear hnx hv hi' hm
        go_wp2_with(go_at_call 218;refine(z0d _ _ Hv.out _).mono ?_;rintro e w' ⟨rfl,rfl⟩)
        go_roundw
        case rel=>exact⟨i+1,m* 64+x,by omega,by go_num,by go_num,trivial,HN⟩
        case measure=>simp[intOf];omega
     ·obtain rfl:i=4:=by omega
      have hml:=yia _ _ _ hm.out;rw[hm.out]at HV;simp only[]at HV;have n1:=u8_nat (m/65536);have n2:=u8_nat (m/256);have n3:=u8_nat m;have kc:=yc7 (P:=Tryz.prog) Tryz.underlying44 Tryz.underlying5 Tryz.underlying9 wr (UInt8.ofNat (m/65536)) (UInt8.ofNat (m/256)) (UInt8.ofNat m);rw[n1,n2,n3,show(((m/65536 % 256:Nat)):Int)=(m:Int)/65536 by omega,show(((m/256 % 256:Nat)):Int)=(m:Int)/256 % 256 by omega,show(((m % 256:Nat)):Int)=(m:Int) % 256 by omega]at kc;clear n1 n2 n3;have m0:bits .and .u32 (m:Int) 0=0:=by rw[show(0:Int)=((0:Nat):Int)from rfl,u32_and_nat m 0 (by omega) (by decide),Nat.and_zero]
      have m1:bits .and .u32 (m:Int) 255=((m % 256:Nat):Int):=by rw[show(255:Int)=((255:Nat):Int)from rfl,u32_and_nat m 255 (by omega) (by decide),wdt m 8]
      have m2:bits .and .u32 (m:Int) 65535=((m % 65536:Nat):Int):=by rw[show(65535:Int)=((65535:Nat):Int)from rfl,u32_and_nat m 65535 (by omega) (by decide),wdt m 16]
      have hsz:(ByteArray.mk #[UInt8.ofNat (m/65536),UInt8.ofNat (m/256),UInt8.ofNat m]).size=3:=rfl;go_wp2
      (refine wp_region_quiet_below (by kernel_rfl) (by kernel_rfl) ?_;(repeat (first|go_big_quiet_skip|(go_big_quiet_want;go_big_quiet_op;first|go_big_quiet_on|(apply Exists.intro;refine⟨fun _=>?_,?_⟩;(·(fail));go_big_quiet_on))));refine wpQuiet_nil ?_;intro _ hw';obtain⟨⟨dq,osq⟩,hw''⟩:=hw';subst hw'')
      go_wp2
      go_ret2
      rw[HV.out,HK.out];refine⟨t2 (vS rfl) (vb ?_),((Below.refl _ _).alloc (wab _) _).trans ((below_regrown _ _ _).mono (by simp))⟩
      first|rfl|(rw[wdm];simp;omega)
   ·obtain rfl|rfl:j=3\/j=4:=by omega
    all_goals first
     |(exfalso;omega)
     |(subst hKv
       go_wp2;go_roundw
       case rel=>first|exact⟨2,by go_num,by omega,by omega,trivial⟩|exact⟨3,by go_num,by omega,by omega,trivial⟩
       case measure=>simp[intOf])
end Go.Proofs.YtmpiobfdchlikaaGreatDoor
end
section
set_option synthInstance.maxSize 4000
namespace Nun
def zhn:List UInt8->Option (List UInt8)
 |[]=>some []
 |[_]=>none
 |[_,_]=>none
 |[_,_,_]=>none
 |a::b::c::d::l=>if(zkk [a,b,c,d] l.isEmpty).2 then(zhn l).map ((zkk [a,b,c,d] l.isEmpty).1++·)else none
def yav(o:Option (List UInt8)):Go.Value:=match o with|some l=>.tuple #[.string ⟨l.toArray⟩,.int .i64 0]|none=>.tuple #[.string ⟨#[]⟩,.int .i64 7]
@[simp] theorem yva:yav none=.tuple #[.string ⟨#[]⟩,.int .i64 7]:=rfl
@[simp] theorem yvb (l:List UInt8):yav (some l)=.tuple #[.string ⟨l.toArray⟩,.int .i64 0]:=rfl
theorem z0e(l:List UInt8)(h:4<=l.length):zhn l=if(zkk (l.take 4) (l.drop 4).isEmpty).2 then(zhn (l.drop 4)).map ((zkk (l.take 4) (l.drop 4).isEmpty).1++·)else none:=by
 match l,h with
 |a::b::c::d::l,_=>rfl
theorem z5v(n:Nat):∀l:List UInt8,l.length<=n->l.length % 4≠0->zhn l=none:=by
 induction n with
 |zero=>intro l h1 h2;omega
 |succ n ih=>
  intro l h1 h2
  match l,h1,h2 with
  |[],_,h2=>exact absurd rfl h2
  |[_],_,_=>rfl
  |[_,_],_,_=>rfl
  |[_,_,_],_,_=>rfl
  |a::b::c::d::l,h1,h2=>
   rw[zhn];split
   ·rw[ih l (by simp at h1;omega) (by simp at h2;omega)];rfl
   ·rfl
theorem z5w(l:List UInt8)(b:Bool):(zkk l b).1.length<=3:=by
 unfold zkk;split<;>simp;omega
end Nun
namespace Go.Proofs.YtmpiobfdchlikaaGreatDoor
open Go.RowKit Nun
theorem yib(s:ByteArray)(last:Bool)(x:List UInt8)(ok:Bool)(h:zkk s.data.toList last=(x,ok))(w:World)(hs:s.size=4):Calls Tryz.prog 186 #[.string s,.bool last] w (Ret (.tuple #[.string ⟨x.toArray⟩,.bool ok]) w):=by
 have:=yog s last w hs;rw[h]at this;exact this
theorem yaw(s:ByteArray)(w:World)(hs:s.size<=1000000):Calls Tryz.prog 139 #[.string s] w (Ret (yav (zhn s.data.toList)) w):=by
 have hlen:s.data.toList.length=s.size:=rfl;have HL:=Lib.hid hlen;clear hlen;by_cases h4:s.size % 4=0
 ·have h4':(s.size:Int) % 4=0:=by omega
  go_enter Tryz.func139,Tryz.ntmps139
  go_wp2
  try rw[h4']
  clear h4'
  go_loopw [5,6,7] (fun i _ _ wr=>∃(k:Nat)(acc:List UInt8),i=.int .i64 (4* k:Nat)/\4* k<=s.size/\Bd w.heap.size w.heap.size acc wr/\acc.length<=3* k/\Below w.heap.size w wr/\Hid (zhn s.data.toList=(zhn (s.data.toList.drop (4* k))).map (acc++·)))
   (fun i _ _ _=>s.size - (intOf i).toNat)
  case atStart=>exact⟨0,[],rfl,by omega,Bd.fresh w,by simp,(Below.refl _ _).alloc (wab _) _,Lib.hid (by simp)⟩
  case round=>
   obtain⟨k,acc,rfl,hk,hbd,hak,hbel,hrd⟩:=hrel;by_cases hlt:4* k<s.size
   ·have hxs:(s.extract (4* k) (4* k+4)).size=4:=by rw[wee];omega
    have hxl:(s.extract (4* k) (4* k+4)).data.toList=(s.data.toList.drop (4* k)).take 4:=by
     rw[Lib.extract_data,wbs]
    have hlast:((s.data.toList.drop (4* k)).drop 4).isEmpty=decide ((4* k+4:Int)=s.size):=by
     rw[wdm];simp only[List.isEmpty_iff,decide_eq_true_iff,wbd,List.drop_eq_nil_iff,HL.out];omega
    have hst:=z0e (s.data.toList.drop (4* k)) (by rw[wbc,HL.out];omega);rw[<-hxl,wbd]at hst;rw[wbd]at hlast;have hlen3:=z5w (s.extract (4* k) (4* k+4)).data.toList ((s.data.toList.drop (4* k+4)).isEmpty);generalize hla:(s.data.toList.drop (4* k+4)).isEmpty=la at hst hlast hlen3;rcases hV:zkk (s.extract (4* k) (4* k+4)).data.toList la with⟨x,ok⟩
    rw[hV]at hst hlen3;simp only[]at hst hlen3;have HV:=Lib.hid hV;clear hV hla hxl;have hbl:(4* (k:Int)+4==(s.size:Int))=la:=by rw[hlast,wdm];simp
    clear hlast;have hx2:(ByteArray.mk x.toArray).size=x.length:=rfl;cases ok
    ·have hfin:zhn s.data.toList=none:=by rw[hrd.out,hst];rfl
     have HF:=Lib.hid hfin;clear hfin hst
     go_wp2_with(go_at_call 186;refine(yib _ _ _ _ HV.out _ hxs).mono ?_;rintro e w1 ⟨rfl,hb1⟩)
     go_ret2
     rw[HF.out];exact⟨rfl,hbel.trans (hb1.mono hbel.size)⟩
    ·have HS:=Lib.hid hst;clear hst
     go_wp2_with(first|(go_at_call 186;refine(yib _ _ _ _ HV.out _ hxs).mono ?_;rintro e w1 ⟨rfl,hb1⟩;have hbd:=Bd.kept hbd hb1;have hbel:=hbel.trans (hb1.mono hbel.size))|(go_at_call 47;refine(zn0 _ _ _ _ _ hbd (by rw[hx2];omega)).mono ?_;rintro e w2 ⟨rfl,hbd,hb2,_⟩;have hbel:=hbel.trans hb2))
     go_roundw
     case rel=>
      refine⟨k+1,acc++x,by go_num,by omega,hbd,by simp;omega,hbel,Lib.hid ?_⟩;rw[hrd.out,HS.out,if_pos trivial,Option.map_map,show 4* (k+1)=4* k+4 from rfl];congr 1;funext y;simp
     case measure=>simp[intOf];omega
   ·have hks:4* k=s.size:=by omega
    have hfin:zhn s.data.toList=some acc:=by
     rw[hrd.out,wc0 (by rw[HL.out];omega)];simp[zhn]
    have HE:=Lib.hid hfin;clear hfin
    go_wp2_with(go_at_call 28;refine(z8e _ _ _ _ hbd).mono ?_;rintro e w2 ⟨rfl,hbd2,hb2,_⟩)
    go_ret2
    rw[HE.out];exact⟨rfl,hbel.trans hb2⟩
 ·have hod:=z5v s.size s.data.toList (wab _) h4
  rw[hod];clear hod;have h4':¬(s.size:Int) % 4=0:=by omega
  go_enter Tryz.func139,Tryz.ntmps139
  go_wp2
  go_ret2
  exact⟨rfl,Below.refl _ _⟩
end Go.Proofs.YtmpiobfdchlikaaGreatDoor
end
section
set_option synthInstance.maxSize 4000
namespace Nun
def soft(c:UInt8):Bool:=c==9||c==10||c==13||c==32
def bare(l:List UInt8):List UInt8:=l.filter fun c=>!soft c
theorem z2w(l:List UInt8):(quad l).length=4:=rfl
end Nun
namespace Go.Proofs.YtmpiobfdchlikaaGreatDoor
open Go.RowKit Nun
theorem dec_of(t:ByteArray)(l:List UInt8)(V:Option (List UInt8))(ht:t.data.toList=l)(hV:zhn l=V)(w:World)(hs:t.size<=1000000):Calls Tryz.prog 139 #[.string t] w (Ret (yav V) w):=by
 subst ht;subst hV;exact yaw t w hs
end Go.Proofs.YtmpiobfdchlikaaGreatDoor
end
namespace Nun
open Go
def crlf:Str:=[13,10]
def zaz:List Str->Str
 |[]=>[]
 |x::L=>x++crlf++zaz L
theorem z5x:∀(x r:Str),(∀c∈x,c≠13)->crAt (x++13::10::r)=some x.length
 |[],r,_=>by simp[crAt]
 |c::x,r,h=>by
  rw[wai,crAt,if_neg (fun hc=>h c (by simp) hc.1),z5x x r fun d hd=>h d (by simp[hd])];rfl
theorem yax(x r:Str)(a:Nat)(h:∀c∈x,c≠13):itL (x++13::10::r) a=(x,a+x.length+2)::if x=[]then[]else itL r (a+x.length+2):=by
 rw[zhg (z5x x r h)];have h1:(x++13::10::r).take x.length=x:=by simp
 have h2:(x++13::10::r).drop (x.length+2)=r:=by rw[List.drop_append];simp
 rw[h1,h2];by_cases hx:x=[]
 ·subst hx;rfl
 ·rw[if_neg (fun e=>hx (qz e)),if_neg hx]
theorem z5y:∀(L:List Str)(r:Str)(a:Nat)(st st':List Fld×Bool),(∀x∈L,x≠[]/\∀c∈x,c≠13)->zbn L st=some st'->
 zb7 (itL (zaz L++13::10::r) a) st=some (st'.1,st'.2,a+(zaz L).length+2)
 |[],r,a,st,st',_,h=>by
  simp[zbn]at h;subst h;have:=yax [] r a (by simp);simp only[wa5]at this;rw[show zaz []++13::10::r=13::10::r from rfl,this];rfl
 |x::L,r,a,st,st',hx,h=>by
  obtain⟨hn,h13⟩:=hx x (by simp);rw[zbn,wed]at h;obtain⟨s1,h1,h2⟩:=qb h;have e:zaz (x::L)++13::10::r=x++13::10::(zaz L++13::10::r):=by
   rw[zaz,crlf,wa4,wa4];rfl
  rw[e,yax _ _ _ h13,if_neg hn,zb7,if_neg hn,h1];dsimp only;rw[z5y L r _ s1 st' (fun y hy=>hx y (by simp[hy])) h2];have:(zaz (x::L)).length=x.length+2+(zaz L).length:=by rw[zaz,crlf];simp only[wb0,waf,wdb]
  rw[this];congr 3;omega
theorem zha(L:List Str)(r:Str)(F:List Fld)(h:∀x∈L,x≠[]/\∀c∈x,c≠13)(hl:zbn L ([],false)=some (F,false)):
 zbu (zaz L++13::10::r)=.ok (F.map fun p=>(p.1,trimB p.2)) ((zaz L).length+2):=by
 unfold zbu;rw[z5y L r 0 _ _ h hl];simp
theorem yoh:∀c:UInt8,zjw c=true->c≠61:=by decide+kernel
theorem yvc:∀c:UInt8,∀d∈pair c,d≠61/\d≠95:=by decide+kernel
def noEq:Str->Bool
 |[]=>true
 |c::t=>!(c==61&&t.head?==some 95)&&noEq t
theorem zl7{c:UInt8}{t:Str}(h:c≠61):noEq (c::t)=noEq t:=by
 have:(c==61)=false:=by simpa using h
 rw[noEq,this];rfl
theorem yay:∀(a b:Str),noEq a=true->noEq b=true->(a.getLast?≠some 61\/b.head?≠some 95)->noEq (a++b)=true
 |[],b,_,h,_=>h
 |[c],b,ha,h,hl=>by
  rw[List.singleton_append,noEq,h,wbi];rcases hl with hl|hl
  ·have:(c==61)=false:=by simpa using hl
   rw[this];rfl
  ·have:(b.head?==some 95)=false:=by simpa using hl
   rw[this,wdc];rfl
 |c::d::a,b,ha,h,hl=>by
  rw[noEq,wb1]at ha;rw[wai,noEq,wb1];exact⟨ha.1,yay (d::a) b ha.2 h (by simpa[List.getLast?_cons]using hl)⟩
theorem z0f(c:UInt8)(t r:Str):noEq (piece c t++r)=noEq r:=by
 unfold piece;split
 ·rename_i h
  simp only[wcc,wb1,beq_iff_eq]at h;refine zl7 ?_;rcases h with h|⟨h|h,_⟩
  ·exact yoh c h
  ·rw[h];decide
  ·rw[h];decide
 ·have hp:=yvc c
  have e:pair c=[hexd (c/16),hexd (c % 16)]:=rfl;rw[e]at hp⊢;have h1:=hp (hexd (c/16)) (by simp);have h2:=hp (hexd (c % 16)) (by simp);have h3:(some (hexd (c/16))==some (95:UInt8))=false:=by simpa using h1.2
  show noEq (61::hexd (c/16)::hexd (c % 16)::r)=_;rw[noEq,List.head?_cons,h3,zl7 h1.1,zl7 h2.1];rfl
theorem zvg:∀(s:Str)(line:Nat),noEq (encL line s)=true
 |[],line=>rfl
 |c::t,line=>by
  rw[encL];split
  ·rw[zl7 (by decide),zl7 (by decide)];exact zvg t 0
  ·split
   ·show noEq (61::13::10::(piece c t++encL _ t))=true
    rw[noEq,zl7 (by decide),zl7 (by decide),z0f,zvg t];rfl
   ·rw[z0f];exact zvg t _
theorem z5z:∀(x:Str)(i:Nat),noEq x=true->noEq (x.drop i)=true
 |[],i,_=>by simp[noEq]
 |c::x,0,h=>h
 |c::x,i+1,h=>by
  rw[noEq,wb1]at h;exact z5z x i h.2
theorem yvd{x r w:Str}(hx:x≠[])(h:noEq x=true):([13,10,45,45,61,95]++w).isPrefixOf (x++13::r)=false:=by
 rw[wdn];intro hp;rw[wdj]at hp;obtain⟨z,hz⟩:=hp
 match x,hx,h with
 |[a],_,_=>simp at hz
 |[a,b],_,_=>simp at hz
 |[a,b,c],_,_=>simp at hz
 |[a,b,c,d],_,_=>simp at hz
 |[a,b,c,d,e],_,_=>simp at hz
 |a::b::c::d::e::f::x,_,h=>
  simp at hz;obtain⟨rfl,rfl,rfl,rfl,rfl,rfl,_⟩:=hz;simp[noEq]at h
end Nun
namespace Nun
open Go Go.RowKit Go.Proofs Go.Proofs.YtmpiobfdchlikaaGreatDoor
variable {lib:Callee}
theorem yve:liesB 61 2:=by unfold liesB;kernel_rfl
def z8g(lib:Callee)(qp:Str->Str):Prop:=∀s:Str,s.length<=10000->(qp s).length<=100000/\lib 48 [.flat (.string (S s))] [] []=some ([.flat (.string (S (qp s)))],false,[],[])
theorem yoi{enc:Str->Str}(HE:zju lib enc)(HI:zf2 lib)(HP:zcz lib)(HB:zgp lib){bx:zae}{r:List (Nat×Nat)}{b:Nat}{u:Bool}{l f v:Str}(hb:bx[b]?=some (61,bld u b l []))(hv:v.length<=10000)(hf:f.length<=10000)(hn:zo5 f=true)(hlen:l.length+(zk5 enc f v).length<=bound)(hr:∀q∈r,q≠(b,1))(hlt:∀q∈r,q.1<bx.length):
 evW code lib 25 [.ptr b 0,.flat (.string (S f)),.flat (.string (S v))] bx (.cell b 1::cl r)=some ([],false,bx.set b (61,bld true b (l++zk5 enc f v) []),.cell b 1::cl r):=by
 have hw:=ynq HE HI HP HB f v hv hf;simp only[hn,if_true]at hw;have ws:=zxd (lib:=lib) (r:=r) (m:=zk5 enc f v) HB hb yve hlen hr hlt;have hblt:b<bx.length:=(qg hb).1;obtain⟨r',hr'⟩:∃r',r'=(b,1)::r:=⟨_,rfl⟩;have hcl:Loc.cell b 1::cl r=cl r':=by rw[hr'];rfl
 rw[hcl]at ws⊢;have hlt':∀q∈r',q.1<bx.length:=by
  rw[hr'];intro q hq;rcases waq.1 hq with rfl|hq
  ·exact hblt
  ·exact hlt q hq
 refine zab zl1 (qa rfl) ?_;simp(maxSteps:=999999) (disch:=first|assumption|omega) only[go_sem,simprocAttr,au,hw,ws]
theorem yaz(HB:zgp lib){bx:zae}{r:List (Nat×Nat)}{b:Nat}(L:List Str){u:Bool}{l:Str}(hb:bx[b]?=some (61,bld u b l []))(hL:L.length<=1000000)(hlen:l.length+(zaz L).length<=bound)(hr:∀q∈r,q≠(b,1))(hlt:∀q∈r,q.1<bx.length)(h1:1<=L.length):
 evW code lib 26 [.ptr b 0,.slc L.length (zaq L)] bx (.cell b 1::cl r)=some ([],false,bx.set b (61,bld true b (l++zaz L) []),.cell b 1::cl r):=by
 have hblt:b<bx.length:=(qg hb).1;obtain⟨r',hr'⟩:∃r',r'=(b,1)::r:=⟨_,rfl⟩;have hcl:Loc.cell b 1::cl r=cl r':=by rw[hr'];rfl
 have hlt':∀q∈r',q.1<bx.length:=by
  rw[hr'];intro q hq;rcases waq.1 hq with rfl|hq
  ·exact hblt
  ·exact hlt q hq
 have hgen:∀(t:List Str)(k:Nat)(u:Bool)(x:Str)(n:Nat),k+t.length=L.length->L.drop k=t->x.length+(zaz t).length<=bound->t.length<n->
  ∃u',(1<=t.length->u'=true)/\(t=[]->u'=u)/\zcn (evC (evW code lib) big zel) [0,6,7,8] bx.length n ⟨[(0,.ptr b 0),(6,.slc L.length (zaq L)),(7,.flat (.int .i64 (L.length:Nat))),(8,.flat (.int .i64 (k:Nat)))],cl r',[],bx.set b (61,bld u b x [])⟩=some (.exit 0,⟨[],cl r',[],bx.set b (61,bld u' b (x++zaz t) [])⟩):=by
  intro t
  induction t with
  |nil=>
   intro k u x n hk hd hx hn;obtain⟨m,rfl⟩:∃m,n=m+1:=⟨n - 1,by simp only[wdb]at hn;omega⟩;have hk2:k=L.length:=by simp only[wdb]at hk;omega
   subst hk2;refine⟨u,by simp,fun _=>rfl,?_⟩;rw[zbv];simp only[zaz,wcf];simp(maxSteps:=999999) (disch:=first|assumption|omega) only[go_sem,simprocAttr,au,zgd,zb9]
  |cons y t ih=>
   intro k u x n hk hd hx hn;simp only[waf]at hk hn;obtain⟨m,rfl⟩:∃m,n=m+1:=⟨n - 1,by omega⟩;have hk2:k<L.length:=by omega
   have hsd:(zaq L).drop k=.flat (.string (S y))::(zaq L).drop (k+1):=by
    have:(zaq L).drop k=zaq (y::t):=by rw[zaq,<-wd6,hd];rfl
    rw[this];have h2:L.drop (k+1)=t:=by
     have:=congrArg (List.drop 1) hd;rwa[wbd]at this
    show .flat (.string (S y))::zaq t=_;rw[zaq,zaq,<-wd6,h2]
   have hd2:L.drop (k+1)=t:=by
    have:=congrArg (List.drop 1) hd;rwa[wbd]at this
   have hl2:(zaz (y::t)).length=y.length+2+(zaz t).length:=by simp only[zaz,crlf,wb0,waf,wdb]
   rw[hl2]at hx;have hset:∀q,(bx.set b (61,bld u b x [])).set b q=bx.set b q:=fun q=>wcb ..
   have w1:=zxd (lib:=lib) (bx:=bx.set b (61,bld u b x [])) (r:=r) (b:=b) (u:=u) (l:=x) (m:=y) (rest:=[]) HB (wbp hblt) yve (by omega) hr (by rw[wbo];exact hlt);have w2:=zxd (lib:=lib) (bx:=bx.set b (61,bld true b (x++y) [])) (r:=r) (b:=b) (u:=true) (l:=x++y) (m:=[13,10]) (rest:=[]) HB (wbp hblt) yve (by simp only[wb0,waf,wdb];omega) hr (by rw[wbo];exact hlt);rw[hcl,wcb]at w1 w2;obtain⟨u',h3,h4,h5⟩:=ih (k+1) true (x++y++crlf) m (by omega) hd2 (by simp only[crlf,wb0,waf,wdb];omega) (by omega);have hxl:x++zaz (y::t)=x++y++crlf++zaz t:=by simp only[zaz,wa4]
   rw[hxl];refine⟨u',fun _=>?_,fun h=>(List.cons_ne_nil _ _ h).elim,?_⟩
   ·cases t with
    |nil=>exact h4 rfl
    |cons z t'=>exact h3 (by simp)
   have hassoc:x++(y++[13,10])=x++y++crlf:=by rw[wa4];rfl
   rw[zbv];simp only[crlf]at h5⊢;simp only[wd1,wd2,wa4]at h5;simp only[wa4]at w2⊢;simp(maxSteps:=999999) (disch:=first|assumption|omega) only[go_sem,simprocAttr,au,zgd,zbz,hsd,w1,w2,h5,zam]
 obtain⟨u',h2,_,h3⟩:=hgen L 0 u l big (by omega) rfl hlen (by unfold big;omega);rw[h2 h1]at h3;rw[zjt hb]at h3;simp only[n0]at h3;rw[hcl];refine zab zl0 (qa rfl) ?_;simp(maxSteps:=999999) (disch:=first|assumption|omega) only[go_sem,simprocAttr,au,h3,zam]
end Nun
section
namespace Nun
open Go Go.RowKit Go.Proofs Go.Proofs.YtmpiobfdchlikaaGreatDoor
variable {lib:Callee}
theorem z50{d:Nat}{a b:List Loc}:zac d (a++b)=zac d a++zac d b:=by unfold zac;rw[List.filter_append]
def yoj:Str:=[45,45,61,95,110,117,110,99,105,111]
def ctS:Str:=[67,111,110,116,101,110,116,45,84,121,112,101,58,32,116,101,120,116,47]
def csS:Str:=[59,32,99,104,97,114,115,101,116,61,117,116,102,45,56]
def cteS:Str:=[67,111,110,116,101,110,116,45,84,114,97,110,115,102,101,114,45,69,110,99,111,100,105,110,103,58,32,113,117,111,116,101,100,45,112,114,105,110,116,97,98,108,101]
def z52:Str:=[77,73,77,69,45,86,101,114,115,105,111,110,58,32,49,46,48]
def zua:Str:=[67,111,110,116,101,110,116,45,84,121,112,101,58,32,109,117,108,116,105,112,97,114,116,47,97,108,116,101,114,110,97,116,105,118,101,59,32,98,111,117,110,100,97,114,121,61,34,61,95,110,117,110,99,105,111,34]
def endS:Str:=[45,45,61,95,110,117,110,99,105,111,45,45]
def zbb:Str:=[112,108,97,105,110]
def zci:Str:=[104,116,109,108]
def zkl:Str:=[70,114,111,109]
def toS:Str:=[84,111]
def zn1:Str:=[83,117,98,106,101,99,116]
def zo7(qp:Str->Str)(kind s:Str):List Str:=[yoj,ctS++kind++csS,cteS,[],qp s]
def zn2(enc qp:Str->Str)(m:Mail):Str:=zk5 enc zkl m.fr++zk5 enc toS m.to++zk5 enc zn1 m.su++zaz [z52,zua,[]]++zaz (zo7 qp zbb m.te)++zaz (zo7 qp zci m.ht)++zaz [endS]
theorem yvf:zo5 zkl=true:=by decide+kernel
theorem yvg:zo5 toS=true:=by decide+kernel
theorem yvh:zo5 zn1=true:=by decide+kernel
theorem zxq{enc:Str->Str}(HE:zju lib enc)(f v:Str)(hf:f.length<=10000)(hv:v.length<=10000):(zk5 enc f v).length<=200000002:=by
 have:=z2e (zd3 enc v) 0 (f++[58],f.length+1) ⟨by simp only[wb0,waf,wdb];omega,by dsimp only;omega⟩ (zz3 HE v hv);unfold zk5;simp only[wb0,waf,wdb];omega
theorem ya0{qp:Str->Str}(HQ:z8g lib qp)(kind s:Str)(hk:kind.length<=100)(hs:s.length<=10000):(zaz (zo7 qp kind s)).length<=100300:=by
 have:=(HQ s hs).1;simp only[zo7,zaz,crlf,yoj,ctS,csS,cteS,wb0,waf,wdb];omega
theorem yvi{qp:Str->Str}(HB:zgp lib)(HQ:z8g lib qp){bx:zae}{r:List (Nat×Nat)}{b:Nat}{u:Bool}{l kind s:Str}(hb:bx[b]?=some (61,bld u b l []))(hk:kind.length<=100)(hs:s.length<=10000)(hlen:l.length+(zaz (zo7 qp kind s)).length<=bound)(hr:∀q∈r,q≠(b,1))(hlt:∀q∈r,q.1<bx.length):
 evW code lib 27 [.ptr b 0,.flat (.string (S kind)),.flat (.string (S s))] bx (.cell b 1::cl r)=some ([],false,bx.set b (61,bld true b (l++zaz (zo7 qp kind s)) []),.cell b 1::cl r):=by
 have hq:evW code lib 48 [.flat (.string (S s))] [] []=some ([.flat (.string (S (qp s)))],false,[],[]):=zde (by decide) (by kernel_rfl) (HQ s hs).2;have hL:=yaz (lib:=lib) HB (r:=r) (zo7 qp kind s) hb (by simp[zo7]) hlen hr hlt (by simp[zo7]);have hblt:b<bx.length:=(qg hb).1;obtain⟨z,hz⟩:∃z,zaz (zo7 qp kind s)=z:=⟨_,rfl⟩;rw[hz]at hL⊢;simp only[zo7,zaq,wax,wc7,waf,wdb,wbx,Nat.reduceAdd,yoj,ctS,csS,cteS,wa4,wai,wa5]at hL;obtain⟨r',hr'⟩:∃r',r'=(b,1)::r:=⟨_,rfl⟩;have hcl:Loc.cell b 1::cl r=cl r':=by rw[hr'];rfl
 rw[hcl]at hL⊢;have hlt':∀q∈r',q.1<bx.length:=by
  rw[hr'];intro q hq;rcases waq.1 hq with rfl|hq
  ·exact hblt
  ·exact hlt q hq
 have hz0:(⟨#[]⟩:ByteArray)=S []:=rfl;have hbv:bound=4294967296:=rfl;refine zab zmt (qa rfl) ?_;simp(maxSteps:=999999) (disch:=first|assumption|omega) only[go_sem,simprocAttr,au,hz0,hq,hL,hbv,wb0,z50]end Nun
end
namespace Nun
open Go Go.RowKit Go.Proofs Go.Proofs.YtmpiobfdchlikaaGreatDoor
variable {lib:Callee}
def resB(enc qp:Str->Str)(m:Mail):Str:=if zja m=0 then zn2 enc qp m else[]
theorem yic(m:Mail):zja m<=7:=by unfold zja;split<;>(try split)<;>omega
theorem z2x{enc qp:Str->Str}(HE:zju lib enc)(HQ:z8g lib qp)(HI:zf2 lib)(HL:zqh lib)(HC:zxk lib)(HP:zcz lib)(HB:zgp lib)(HN:zqi lib)(m:Mail)(hm:m.small):evW code lib 10 [.agg (zie m)] [] []=some ([.flat (.string (S (resB enc qp m))),.flat (.int .i64 (zja m:Nat))],false,[],[]):=by
 have hck:=yn4 HI HL HC HP HB HN m hm;have hz0:(⟨#[]⟩:ByteArray)=S []:=rfl;unfold resB;have hle:=yic m;by_cases hc:zja m=0
 ·rw[if_pos hc]
  rw[hc,n0]at hck;rw[hc];obtain⟨hm1,hm2,hm3,hm4,hm5⟩:=hm;have l1:=zxq HE zkl m.fr (by decide) hm1;have l2:=zxq HE toS m.to (by decide) hm2;have l3:=zxq HE zn1 m.su (by decide) hm3;have l4:=ya0 HQ zbb m.te (by decide) hm4;have l5:=ya0 HQ zci m.ht (by decide) hm5;have hbv:bound=4294967296:=rfl;have hF:∀(u:Bool)(l f v:Str),v.length<=10000->f.length<=10000->zo5 f=true->l.length+(zk5 enc f v).length<=bound->evW code lib 25 [.ptr 1 0,.flat (.string (S f)),.flat (.string (S v))] [(23,zie m),(61,bld u 1 l [])] [.cell 1 1]=some ([],false,[(23,zie m),(61,bld true 1 (l++zk5 enc f v) [])],[.cell 1 1]):=fun u l f v h1 h2 h3 h4=>yoi (r:=[]) HE HI HP HB rfl h1 h2 h3 h4 (fun q h=>by cases h) (fun q h=>by cases h)
  have hLn:∀(l:Str)(L:List Str),1<=L.length->L.length<=100->l.length+(zaz L).length<=bound->evW code lib 26 [.ptr 1 0,.slc L.length (zaq L)] [(23,zie m),(61,bld true 1 l [])] [.cell 1 1]=some ([],false,[(23,zie m),(61,bld true 1 (l++zaz L) [])],[.cell 1 1]):=fun l L h1 h2 h3=>yaz (r:=[]) HB L rfl (by omega) h3 (fun q h=>by cases h) (fun q h=>by cases h) h1
  have hPt:∀(l kind s:Str),kind.length<=100->s.length<=10000->l.length+(zaz (zo7 qp kind s)).length<=bound->evW code lib 27 [.ptr 1 0,.flat (.string (S kind)),.flat (.string (S s))] [(23,zie m),(61,bld true 1 l [])] [.cell 1 1]=some ([],false,[(23,zie m),(61,bld true 1 (l++zaz (zo7 qp kind s)) [])],[.cell 1 1]):=fun l kind s h1 h2 h3=>yvi (r:=[]) HB HQ rfl h1 h2 h3 (fun q h=>by cases h) (fun q h=>by cases h)
  have hm6:(zaz [z52,zua,[]]).length<=100:=by decide
  have hm7:(zaz [endS]).length<=100:=by decide
  unfold zn2;obtain⟨x1,hx1⟩:∃x,zk5 enc zkl m.fr=x:=⟨_,rfl⟩;obtain⟨x2,hx2⟩:∃x,zk5 enc toS m.to=x:=⟨_,rfl⟩;obtain⟨x3,hx3⟩:∃x,zk5 enc zn1 m.su=x:=⟨_,rfl⟩;obtain⟨x4,hx4⟩:∃x,zaz (zo7 qp zbb m.te)=x:=⟨_,rfl⟩;obtain⟨x5,hx5⟩:∃x,zaz (zo7 qp zci m.ht)=x:=⟨_,rfl⟩;obtain⟨x6,hx6⟩:∃x,zaz [z52,zua,[]]=x:=⟨_,rfl⟩;obtain⟨x7,hx7⟩:∃x,zaz [endS]=x:=⟨_,rfl⟩;have f1:=hF false [] zkl m.fr hm1 (by decide) yvf (by rw[hbv];simp only[wdb];omega);rw[hx1,wa5]at f1;rw[hx1]at l1;have f2:=hF true x1 toS m.to hm2 (by decide) yvg (by rw[hbv];omega);rw[hx2]at f2 l2;have f3:=hF true (x1++x2) zn1 m.su hm3 (by decide) yvh (by rw[hbv,wb0];omega);rw[hx3]at f3 l3;have f4:=hLn (x1++x2++x3) [z52,zua,[]] (by decide) (by decide) (by rw[hbv,wb0,wb0];omega);rw[hx6]at f4 hm6;have f5:=hPt (x1++x2++x3++x6) zbb m.te (by decide) hm4 (by rw[hbv];simp only[wb0];omega);rw[hx4]at f5 l4;have f6:=hPt (x1++x2++x3++x6++x4) zci m.ht (by decide) hm5 (by rw[hbv];simp only[wb0];omega);rw[hx5]at f6 l5;have f7:=hLn (x1++x2++x3++x6++x4++x5) [endS] (by decide) (by decide) (by rw[hbv];simp only[wb0];omega);rw[hx7]at f7 hm7;have f8:=ycv (lib:=lib) (bx:=[(23,zie m),(61,bld true 1 (x1++x2++x3++x6++x4++x5++x7) [])]) (oc:=[.cell 1 1]) (b:=1) (u:=true) (rest:=[]) HB rfl (by simp);rw[hx1,hx2,hx3,hx4,hx5,hx6,hx7];clear hF hLn hPt hx1 hx2 hx3 hx4 hx5 hx6 hx7 HE HQ HI HL HC HP HB HN;simp only[zie,ynt,zaq,wax,wc7,waf,wdb,wbx,Nat.reduceAdd,z52,zua,endS,zkl,toS,zn1,zbb,zci,wa4]at hck f1 f2 f3 f4 f5 f6 f7 f8⊢;refine zab zmq (qa rfl) ?_;simp(maxSteps:=999999) (disch:=first|assumption|omega) only[go_sem,simprocAttr,au,hz0,hck,f1,f2,f3,f4,f5,f6,f7,f8]
 ·rw[if_neg hc]
  simp only[zie]at hck⊢;have hc':=eq_false hc;refine zab zmq (qa rfl) ?_;simp(maxSteps:=999999) (disch:=first|assumption|omega) only[go_sem,simprocAttr,au,hz0,hck,hc']
end Nun
namespace Nun
open Go
def zbi:List Fld->List PV
 |[]=>[]
 |(a,b)::l=>.flat (.string (S a))::.flat (.string (S b))::zbi l
theorem zcu:∀F:List Fld,zcd (zbi F)=true
 |[]=>rfl
 |(a,b)::l=>by show zcd (.flat (.string (S a))::.flat (.string (S b))::zbi l)=true;simp only[zcd,PV.noPtr,zcu l,wbh]
theorem zb5{n:Nat}:∀F:List Fld,lows n (zbi F)=true
 |[]=>rfl
 |(a,b)::l=>by show lows n (.flat (.string (S a))::.flat (.string (S b))::zbi l)=true;simp only[lows,PV.low,zb5 l,wbh]
end Nun
namespace Nun
open Go Go.RowKit Go.Proofs Go.Proofs.YtmpiobfdchlikaaGreatDoor
variable {lib:Callee}
theorem kev{f:FuncId}{args:List PV}{r:Ans}(h:evF yud lib 1000 f args [] []=some r):evW code lib f args [] []=some r:=zp3.2 ⟨1000,by rw[ygr];exact h⟩
def zor(lib:Callee):Prop:=∀(s:Str)(F:List Fld)(b:Nat),s.length<=10000->zbu s=.ok F b->lib 61 [.flat (.string (S s))] [] []=some ([.slc F.length (zbi F),.flat (.int .i64 (b:Nat)),.flat (.int .i64 0)],false,[],[])
def ctN:Str:=[67,111,110,116,101,110,116,45,84,121,112,101]
def cteN:Str:=[67,111,110,116,101,110,116,45,84,114,97,110,115,102,101,114,45,69,110,99,111,100,105,110,103]
def qpN:Str:=[113,117,111,116,101,100,45,112,114,105,110,116,97,98,108,101]
def zfe(kind:Str):Str:=[116,101,120,116,47]++kind
def valU(kind:Str):Str:=[116,101,120,116,47]++kind++[59,32,99,104,97,114,115,101,116,61,117,116,102,45,56]
def zjz:Str:=[109,117,108,116,105,112,97,114,116,47,97,108,116,101,114,110,97,116,105,118,101]
def zk8:Str:=[109,117,108,116,105,112,97,114,116,47,97,108,116,101,114,110,97,116,105,118,101,59,32,98,111,117,110,100,97,114,121,61,34,61,95,110,117,110,99,105,111,34]
def zh7:Str:=[61,95,110,117,110,99,105,111]
theorem ya1(HS:zor lib)(s:Str)(F:List Fld)(b:Nat)(hs:s.length<=10000)(h:zbu s=.ok F b):evW code lib 61 [.flat (.string (S s))] [] []=some ([.slc F.length (zbi F),.flat (.int .i64 (b:Nat)),.flat (.int .i64 0)],false,[],[]):=
 zde (by decide) (by kernel_rfl) (HS s F b hs h)
theorem y3e:evW code lib 63 [.flat (.string (S (valU zbb)))] [] []=some ([.flat (.string (S (zfe zbb))),.slc 1 [.flat (.string (S [99,104,97,114,115,101,116])),.flat (.string (S [117,116,102,45,56]))],.flat (.int .i64 0)],false,[],[]):=kev (by kernel_rfl)
theorem y3f:evW code lib 63 [.flat (.string (S (valU zci)))] [] []=some ([.flat (.string (S (zfe zci))),.slc 1 [.flat (.string (S [99,104,97,114,115,101,116])),.flat (.string (S [117,116,102,45,56]))],.flat (.int .i64 0)],false,[],[]):=kev (by kernel_rfl)
theorem y3g:evW code lib 63 [.flat (.string (S zk8))] [] []=some ([.flat (.string (S zjz)),.slc 1 [.flat (.string (S [98,111,117,110,100,97,114,121])),.flat (.string (S zh7))],.flat (.int .i64 0)],false,[],[]):=kev (by kernel_rfl)
theorem fo_p:evW code lib 64 [.flat (.string (S (zfe zbb)))] [] []=some ([.flat (.string (S (zfe zbb)))],false,[],[]):=kev (by kernel_rfl)
theorem fo_h:evW code lib 64 [.flat (.string (S (zfe zci)))] [] []=some ([.flat (.string (S (zfe zci)))],false,[],[]):=kev (by kernel_rfl)
theorem fo_m:evW code lib 64 [.flat (.string (S zjz))] [] []=some ([.flat (.string (S zjz))],false,[],[]):=kev (by kernel_rfl)
theorem fo_c:evW code lib 64 [.flat (.string (S [99,104,97,114,115,101,116]))] [] []=some ([.flat (.string (S [99,104,97,114,115,101,116]))],false,[],[]):=kev (by kernel_rfl)
theorem fo_b:evW code lib 64 [.flat (.string (S [98,111,117,110,100,97,114,121]))] [] []=some ([.flat (.string (S [98,111,117,110,100,97,114,121]))],false,[],[]):=kev (by kernel_rfl)
theorem fo_q:evW code lib 64 [.flat (.string (S qpN))] [] []=some ([.flat (.string (S qpN))],false,[],[]):=kev (by kernel_rfl)
theorem fo_0:evW code lib 64 [.flat (.string (S []))] [] []=some ([.flat (.string (S []))],false,[],[]):=kev (by kernel_rfl)
theorem ty_p:evW code lib 65 [.flat (.string (S (zfe zbb)))] [] []=some ([.flat (.bool true)],false,[],[]):=kev (by kernel_rfl)
theorem ty_h:evW code lib 65 [.flat (.string (S (zfe zci)))] [] []=some ([.flat (.bool true)],false,[],[]):=kev (by kernel_rfl)
theorem ty_m:evW code lib 65 [.flat (.string (S zjz))] [] []=some ([.flat (.bool true)],false,[],[]):=kev (by kernel_rfl)
theorem be_p:evW code lib 60 [.flat (.string (S (zfe zbb))),.flat (.string (S [109,117,108,116,105,112,97,114,116,47])),.flat (.int .i64 0)] [] []=some ([.flat (.bool false)],false,[],[]):=kev (by kernel_rfl)
theorem be_h:evW code lib 60 [.flat (.string (S (zfe zci))),.flat (.string (S [109,117,108,116,105,112,97,114,116,47])),.flat (.int .i64 0)] [] []=some ([.flat (.bool false)],false,[],[]):=kev (by kernel_rfl)
theorem be_m:evW code lib 60 [.flat (.string (S zjz)),.flat (.string (S [109,117,108,116,105,112,97,114,116,47])),.flat (.int .i64 0)] [] []=some ([.flat (.bool true)],false,[],[]):=kev (by kernel_rfl)
theorem ma_b:evW code lib 68 [.flat (.string (S zh7))] [] []=some ([.flat (.bool true)],false,[],[]):=kev (by kernel_rfl)
def zda(kind:Str):List Fld:=[(ctN,valU kind),(cteN,qpN)]
def zk9(a b c:Str):List Fld:=[(zkl,a),(toS,b),(zn1,c),([77,73,77,69,45,86,101,114,115,105,111,110],[49,46,48]),(ctN,zk8)]
theorem gp_t(kind:Str):evW code lib 62 [.slc 2 (zbi (zda kind)),.flat (.string (S ctN))] [] []=some ([.flat (.string (S (valU kind))),.flat (.int .i64 1)],false,[],[]):=kev (by kernel_rfl)
theorem gp_c(kind:Str):evW code lib 62 [.slc 2 (zbi (zda kind)),.flat (.string (S cteN))] [] []=some ([.flat (.string (S qpN)),.flat (.int .i64 1)],false,[],[]):=kev (by kernel_rfl)
theorem gm_t(a b c:Str):evW code lib 62 [.slc 5 (zbi (zk9 a b c)),.flat (.string (S ctN))] [] []=some ([.flat (.string (S zk8)),.flat (.int .i64 1)],false,[],[]):=kev (by kernel_rfl)
theorem gm_c(a b c:Str):evW code lib 62 [.slc 5 (zbi (zk9 a b c)),.flat (.string (S cteN))] [] []=some ([.flat (.string (S [])),.flat (.int .i64 0)],false,[],[]):=kev (by kernel_rfl)
def zuz(F:List Fld)(ty tx:Str)(n:Nat)(ps:List PV):List PV:=[.slc F.length (zbi F),.flat (.string (S ty)),.flat (.string (S tx)),.slc n ps]
theorem y09:(([99,104,97,114,115,101,116]:Str)=[98,111,117,110,100,97,114,121])=False:=eq_false (by decide)
theorem z53{kind:Str}(HS:zor lib)(hk:kind=zbb\/kind=zci)(s t:Str)(at_ deep parts:Nat)(hs:s.length<=10000)(h1:zbu s=.ok (zda kind) at_)(hat:at_<=s.length)
 (hd:evW code lib 66 [.flat (.string (S (s.drop at_))),.flat (.string (S qpN))] [] []=some ([.flat (.string (S t)),.flat (.bool true)],false,[],[])):
 evW code lib 37 [.flat (.string (S s)),.flat (.int .i64 (deep:Nat)),.flat (.int .i64 (parts:Nat))] [] []=some ([.agg (zuz (zda kind) (zfe kind) t 0 []),.flat (.int .i64 (parts:Nat)),.flat (.int .i64 0)],false,[],[]):=by
 have f1:=ya1 HS s _ _ hs h1;have f2:=gp_t (lib:=lib) kind;have f3:=gp_c (lib:=lib) kind;have hl:(zda kind).length=2:=rfl;unfold ctN at f2;unfold cteN qpN at f3;unfold qpN at hd;rw[hl]at f1;have hnp:=zcu (zda kind);have tk:(s.take s.length).drop at_=s.drop at_:=by rw[wds]
 refine zab zrr (qa rfl) ?_;simp only[zuz,hl];rcases hk with rfl|rfl
 ·have f4:=y3e (lib:=lib);have f5:=fo_p (lib:=lib);have f6:=ty_p (lib:=lib);have f7:=be_p (lib:=lib);have f8:=fo_c (lib:=lib);have f9:=fo_q (lib:=lib);unfold qpN at f9
  generalize zfe zbb=ty at*;generalize valU zbb=va at*;simp(maxSteps:=999999) (disch:=first|assumption|omega) only[go_sem,simprocAttr,au,f1,f2,f3,f4,f5,f6,f7,f8,f9,hd,hnp,zb5,tk,y09,zdr,zbv,zbz,zb9,zlz]
 ·have f4:=y3f (lib:=lib);have f5:=fo_h (lib:=lib);have f6:=ty_h (lib:=lib);have f7:=be_h (lib:=lib);have f8:=fo_c (lib:=lib);have f9:=fo_q (lib:=lib);unfold qpN at f9
  generalize zfe zci=ty at*;generalize valU zci=va at*;simp(maxSteps:=999999) (disch:=first|assumption|omega) only[go_sem,simprocAttr,au,f1,f2,f3,f4,f5,f6,f7,f8,f9,hd,hnp,zb5,tk,y09,zdr,zbv,zbz,zb9,zlz]
def z0g(F:List Fld)(ty:Str)(a b:List PV):List PV:=[.slc F.length (zbi F),.flat (.string (S ty)),.flat (.string (S [])),.slc 2 (a++b)]
theorem yid(HS:zor lib)(s b1 b2 t1 t2 x1 x2 x3:Str)(at_:Nat)(hs:s.length<=10000)(h1:zbu s=.ok (zk9 x1 x2 x3) at_)(hat:at_<=s.length)
 (hb:evW code lib 67 [.flat (.string (S (s.drop at_))),.flat (.string (S zh7))] [] []=some ([.slc 2 [.flat (.string (S b1)),.flat (.string (S b2))],.flat (.bool true)],false,[],[]))
 (p1:evW code lib 37 [.flat (.string (S b1)),.flat (.int .i64 1),.flat (.int .i64 2)] [] []=some ([.agg (zuz (zda zbb) (zfe zbb) t1 0 []),.flat (.int .i64 2),.flat (.int .i64 0)],false,[],[]))
 (p2:evW code lib 37 [.flat (.string (S b2)),.flat (.int .i64 1),.flat (.int .i64 2)] [] []=some ([.agg (zuz (zda zci) (zfe zci) t2 0 []),.flat (.int .i64 2),.flat (.int .i64 0)],false,[],[])):
 evW code lib 37 [.flat (.string (S s)),.flat (.int .i64 0),.flat (.int .i64 0)] [] []=some ([.agg (z0g (zk9 x1 x2 x3) zjz (zuz (zda zbb) (zfe zbb) t1 0 []) (zuz (zda zci) (zfe zci) t2 0 [])),.flat (.int .i64 2),.flat (.int .i64 0)],false,[],[]):=by
 have f1:=ya1 HS s _ _ hs h1;have f2:=gm_t (lib:=lib) x1 x2 x3;have f3:=gm_c (lib:=lib) x1 x2 x3;have hl:(zk9 x1 x2 x3).length=5:=rfl;have hl2:(zda zbb).length=2:=rfl;have hl3:(zda zci).length=2:=rfl;unfold ctN at f2;unfold cteN at f3;rw[hl]at f1;have hnp:=zcu (zk9 x1 x2 x3);have hnp2:=zcu (zda zbb);have hnp3:=zcu (zda zci);have hlo:=fun n=>zb5 (n:=n) (zk9 x1 x2 x3)
 have hlo2:=fun n=>zb5 (n:=n) (zda zbb)
 have hlo3:=fun n=>zb5 (n:=n) (zda zci)
 have hbv:bound=4294967296:=rfl;have tk:(s.take s.length).drop at_=s.drop at_:=by rw[wds]
 have f4:=y3g (lib:=lib);have f5:=fo_m (lib:=lib);have f6:=ty_m (lib:=lib);have f7:=be_m (lib:=lib);have f8:=fo_b (lib:=lib);have f9:=fo_0 (lib:=lib);have f10:=ma_b (lib:=lib);refine zab zrr (qa rfl) ?_;simp only[zuz,z0g,hl,hl2,hl3]at p1 p2⊢;generalize zfe zbb=ty1 at*;generalize zfe zci=ty2 at*;generalize zjz=ty at*;generalize zk8=va at*;generalize zh7=bo at*;generalize zbi (zk9 x1 x2 x3)=fm at*;generalize zbi (zda zbb)=fp at*;generalize zbi (zda zci)=fh at*;simp(maxSteps:=999999) (disch:=first|assumption|omega) only[go_sem,simprocAttr,au,f1,f2,f3,f4,f5,f6,f7,f8,f9,f10,hb,p1,p2,hnp,hnp2,hnp3,hlo,hlo2,hlo3,tk,zdr,zbv,zbz,zb9,zlz,z10]
end Nun
section
set_option synthInstance.maxSize 4000
namespace Nun
open Go Go.RowKit
theorem zvh(p:UInt8->Bool)(s:ByteArray)(k:Nat)(h:k<s.size):(s.data.toList.take (k+1)).all p=((s.data.toList.take k).all p&&p s[k]):=by
 have h':k<s.data.toList.length:=h;rw[wa0 h',wef];simp;rfl
theorem z2y(p:UInt8->Bool)(s:ByteArray)(k:Nat)(h:k<s.size)(hb:p s[k]=false):s.data.toList.all p=false:=by
 rw[List.all_eq_false]
 exact⟨s[k],by have:s.data.toList[k]'h=s[k]:=rfl
               rw[<-this];exact wd5 _,by simp[hb]⟩
theorem z2z(p:UInt8->Bool)(s:ByteArray):(s.data.toList.take s.size).all p=s.data.toList.all p:=by
 rw[wco (by show s.size<=s.size;omega)]
end Nun
namespace Go.Proofs.YtmpiobfdchlikaaGreatDoor
open Go.RowKit Nun
theorem yie(s:ByteArray)(w:World)(hs:s.size<=maxLen):Calls Tryz.prog 122 #[.string s] w (Same (.bool (s.data.toList.all zeb)) w):=by
 unfold maxLen at hs;obtain⟨V,hV⟩:∃V,s.data.toList.all zeb=V:=⟨_,rfl⟩;rw[hV];have HV:=Lib.hid hV;clear hV
 go_enter Tryz.func122,Tryz.ntmps122
 go_wp2
 go_loop [3,4,7] (fun _ _ i=>∃k:Nat,k<=s.size/\i=.int .i64 k/\Hid ((s.data.toList.take k).all zeb=true)) (fun _ _ i=>s.size - (intOf i).toNat)
 case atStart=>exact⟨0,wa7 _,rfl,Lib.hid rfl⟩
 case round=>
  obtain⟨k,hk,rfl,hall⟩:=hrel;by_cases hlt:k<s.size
  ·have hst:=zvh zeb s k hlt
   have hbad:=z2y zeb s k hlt;rw[HV.out]at hbad;generalize hc:s[k]=c at*;have HS:=Lib.hid hst;have HB:=Lib.hid hbad;clear hst hbad;go_wp2
   all_goals (try (go_ret;exact⟨r1 (vb (HB.out (by(clear hc HS HB hall);(go_light;revert c;decide+kernel))).symm),rfl⟩))
   all_goals
    have hstep:zeb c=true:=by(clear hc HS HB hall);(go_light;revert c;decide+kernel)
    go_round
    case rel=>exact⟨k+1,by omega,by go_num,Lib.hid (by rw[HS.out,hall.out,hstep];rfl)⟩
    case measure=>simp[intOf];omega
  ·obtain rfl:k=s.size:=by omega
   have hend:=hall.out;rw[z2z,HV.out]at hend;subst hend;go_wp2;go_ret;exact⟨rfl,rfl⟩
theorem yif(s:ByteArray)(w:World)(hs:s.size<=maxLen):Calls Tryz.prog 112 #[.string s] w (Same (.bool (s.data.toList.all zeb)) w):=by
 unfold maxLen at hs;obtain⟨V,hV⟩:∃V,s.data.toList.all zeb=V:=⟨_,rfl⟩;rw[hV];have HV:=Lib.hid hV;clear hV
 go_enter Tryz.func112,Tryz.ntmps112
 go_wp2
 go_loop [3] (fun i=>∃k:Nat,k<=s.size/\i=.int .i64 k/\Hid ((s.data.toList.take k).all zeb=true)) (fun i=>s.size - (intOf i).toNat)
 case atStart=>exact⟨0,wa7 _,rfl,Lib.hid rfl⟩
 case round=>
  obtain⟨k,hk,rfl,hall⟩:=hrel;by_cases hlt:k<s.size
  ·have hst:=zvh zeb s k hlt
   have hbad:=z2y zeb s k hlt;rw[HV.out]at hbad;generalize hc:s[k]=c at*;have HS:=Lib.hid hst;have HB:=Lib.hid hbad;clear hst hbad;go_wp2
   all_goals (try (go_ret;exact⟨r1 (vb (HB.out (by(clear hc HS HB hall);(go_light;revert c;decide+kernel))).symm),rfl⟩))
   all_goals
    have hstep:zeb c=true:=by(clear hc HS HB hall);(go_light;revert c;decide+kernel)
    go_round
    case rel=>exact⟨k+1,by omega,by go_num,Lib.hid (by rw[HS.out,hall.out,hstep];rfl)⟩
    case measure=>simp[intOf];omega
  ·obtain rfl:k=s.size:=by omega
   have hend:=hall.out;rw[z2z,HV.out]at hend;subst hend;go_wp2;go_ret;exact⟨rfl,rfl⟩
theorem yig(s:ByteArray)(w:World)(hs:s.size<=maxLen):Calls Tryz.prog 123 #[.string s] w (Same (.bool (zji s.data.toList)) w):=by
 unfold maxLen at hs;obtain⟨V,hV⟩:∃V,zji s.data.toList=V:=⟨_,rfl⟩;rw[hV];have hbadV:s.data.toList.all zqk=false->V=false:=by intro h;rw[<-hV,zji,h,wdc]
 have hendV:s.data.toList.all zqk=true->V=(!s.data.toList.isEmpty&&decide (s.data.toList.length<=32)):=by intro h;rw[<-hV,zji,h,wbi]
 have HV:=Lib.hid hbadV;have HE:=Lib.hid hendV;clear hV hbadV hendV
 go_enter Tryz.func123,Tryz.ntmps123
 go_wp2
 go_loop [3,4,7] (fun _ _ i=>∃k:Nat,k<=s.size/\i=.int .i64 k/\Hid ((s.data.toList.take k).all zqk=true)) (fun _ _ i=>s.size - (intOf i).toNat)
 case atStart=>exact⟨0,wa7 _,rfl,Lib.hid rfl⟩
 case round=>
  obtain⟨k,hk,rfl,hall⟩:=hrel;by_cases hlt:k<s.size
  ·have hst:=zvh zqk s k hlt
   have hbad:=fun h=>HV.out (z2y zqk s k hlt h)
   generalize hc:s[k]=c at*;have HS:=Lib.hid hst;have HB:=Lib.hid hbad;clear hst hbad;go_wp2
   all_goals (try (go_ret;exact⟨r1 (vb (HB.out (by(clear hc HS HB hall);(go_light;revert c;decide+kernel))).symm),rfl⟩))
   all_goals
    have hstep:zqk c=true:=by(clear hc HS HB hall);(go_light;revert c;decide+kernel)
    go_round
    case rel=>exact⟨k+1,by omega,by go_num,Lib.hid (by rw[HS.out,hall.out,hstep];rfl)⟩
    case measure=>simp[intOf];omega
  ·obtain rfl:k=s.size:=by omega
   have hend:=hall.out;rw[z2z]at hend;have hVe:=HE.out hend;have HVE:=Lib.hid hVe;clear hend hVe;go_wp2
   all_goals go_ret
   all_goals refine⟨r1 (vb ?_),rfl⟩
   all_goals (rw[HVE.out,<-ByteArray.toList_eq])
   ·rename_i h _;rw[h];rfl
   ·rw[ByteArray.toList_eq,show s.data.toList.length=s.size from rfl]
    congr 1;rw[decide_eq_decide];omega
theorem yok(s:ByteArray)(w:World)(hs:s.size<=maxLen):Calls Tryz.prog 49 #[.string s] w (Same (.bool (zji s.data.toList)) w):=by
 unfold maxLen at hs;obtain⟨V,hV⟩:∃V,zji s.data.toList=V:=⟨_,rfl⟩;rw[hV];by_cases hlen:s.size<1\/32<s.size
 ·have hv0:V=false:=by
   rw[<-hV,zji];rcases hlen with h|h
   ·have:s.data.toList=[]:=qz (by show s.size=0;omega)
    rw[this];rfl
   ·rw[show s.data.toList.length=s.size from rfl,show decide (s.size<=32)=false by simp;omega];simp
  subst hv0;clear hV;by_cases h1:s.size<1
  ·have h1':(s.size:Int)<1:=by omega
   clear hlen
   go_enter Tryz.func49,Tryz.ntmps49
   go_wp2;go_ret;exact⟨rfl,rfl⟩
  ·have h2':(32:Int)<s.size:=by omega
   clear hlen
   go_enter Tryz.func49,Tryz.ntmps49
   go_wp2;go_ret;exact⟨rfl,rfl⟩
 ·have hVa:V=s.data.toList.all zqk:=by
   rw[<-hV,zji,show s.data.toList.length=s.size from rfl,show decide (s.size<=32)=true by simp;omega];have:s.data.toList.isEmpty=false:=by
    rcases h:s.data.toList with _|⟨c,r⟩
    ·have:s.size=0:=congrArg List.length h
     omega
    ·rfl
   rw[this];simp
  have HV:=Lib.hid hVa.symm;clear hV hVa;have h1':¬(s.size:Int)<1:=by omega
  have h2':¬(32:Int)<s.size:=by omega
  go_enter Tryz.func49,Tryz.ntmps49
  go_wp2
  go_loop [3,4] (fun i _=>∃k:Nat,k<=s.size/\i=.int .i64 k/\Hid ((s.data.toList.take k).all zqk=true)) (fun i _=>s.size - (intOf i).toNat)
  case atStart=>exact⟨0,wa7 _,rfl,Lib.hid rfl⟩
  case round=>
   obtain⟨k,hk,rfl,hall⟩:=hrel;by_cases hlt:k<s.size
   ·have hst:=zvh zqk s k hlt
    have hbad:=z2y zqk s k hlt;rw[HV.out]at hbad;generalize hc:s[k]=c at*;have HS:=Lib.hid hst;have HB:=Lib.hid hbad;clear hst hbad;go_wp2
    all_goals (try (go_ret;exact⟨r1 (vb (HB.out (by(clear hc HS HB hall);(go_light;revert c;decide+kernel))).symm),rfl⟩))
    all_goals
     have hstep:zqk c=true:=by(clear hc HS HB hall);(go_light;revert c;decide+kernel)
     go_round
     case rel=>exact⟨k+1,by omega,by go_num,Lib.hid (by rw[HS.out,hall.out,hstep];rfl)⟩
     case measure=>simp[intOf];omega
   ·obtain rfl:k=s.size:=by omega
    have hend:=hall.out;rw[z2z,HV.out]at hend;subst hend;go_wp2;go_ret;exact⟨rfl,rfl⟩
theorem yc8(l:List UInt8)(c:UInt8):zc0 (l++[c])=zc0 l++[yh1 c]:=by simp[zc0]
end Go.Proofs.YtmpiobfdchlikaaGreatDoor
end
namespace Nun
open Go Go.RowKit
def BytesAt(g:Nat)(l:List UInt8)(w:World):Prop:=g<w.heap.size/\∀(j:Nat)(c:UInt8),l[j]?=some c->w.cell? ⟨g,j,none⟩=some (.int .u8 c.toNat)/\w.frozen? ⟨g,j,none⟩=false
theorem yc9{P:Program}(w:World)(src dst e:TypeId)(s:ByteArray)(hs:P.underlying src=some .string)(hd:P.underlying dst=some (.slice e))(he:P.underlying e=some (.int .u8)):
 ∃cap w1,(convert src dst (.string s)).run P w=.ok (.slice (some ⟨w.heap.size,0,none⟩) s.size cap) w1/\s.size<=cap/\BytesAt w.heap.size s.data.toList w1/\Below w.heap.size w w1:=by
 obtain⟨cap,hcap⟩:∃cap,grownCap w s.size 0 e=cap:=⟨_,rfl⟩;have hge:s.size<=cap:=by rw[<-hcap];exact grownCap_ge _ _ _ _
 refine⟨cap,_,by rw[run_bytes_of_string w src dst e s hs hd he,hcap],hge,⟨by simp,fun j c hj=>?_⟩,?_⟩
 ·have hjs:j<s.size:=(qg hj).1
  have hrow:(w.drew.alloc (.cells (bytesRow s cap) e ((bytesRow s cap).size,(bytesRow s cap).size+1))).heap[w.heap.size]?=some (.cells (bytesRow s cap) e ((bytesRow s cap).size,(bytesRow s cap).size+1)):=heap_alloc_new w.drew _;have hsz:(bytesRow s cap).size=cap:=by
   unfold bytesRow;rw[Array.size_append,Array.size_map,Array.size_replicate,show s.data.size=s.size from rfl];omega
  refine⟨?_,?_⟩
  ·rw[cell_of_row _ _ _ _ _ _ hrow]
   unfold bytesRow;rw[Array.getElem?_append_left (by rw[Array.size_map];exact hjs),Array.getElem?_map];have:s.data[j]?=some c:=by rw[<-wb6];exact hj
   rw[this];rfl
  ·unfold World.frozen?
   simp only[hrow];rw[hsz];simp;omega
 ·exact(below_drewN' w 1).alloc (wab _) _
theorem BytesAt.kept{g:Nat}{l:List UInt8}{w w':World}(h:BytesAt g l w)(k:Below w.heap.size w w'):BytesAt g l w':=
 ⟨wad h.1 k.size,fun j c hj=>⟨(k.cell (p:=⟨g,j,none⟩) h.1).trans (h.2 j c hj).1,(k.frozen (p:=⟨g,j,none⟩) h.1).trans (h.2 j c hj).2⟩⟩
theorem BytesAt.put{g:Nat}{l:List UInt8}{w:World}(h:BytesAt g l w)(k:Nat)(hk:k<l.length)(d:UInt8):BytesAt g (l.set k d) (w.setCell ⟨g,k,none⟩ (.int .u8 d.toNat)):=by
 have hc:=(h.2 k _ (qe hk)).1;refine⟨by have:=h.1;simpa using this,fun j c hj=>?_⟩;by_cases hjk:j=k
 ·subst hjk
  rw[wbp hk]at hj;cases hj;exact⟨World.cell?_setCell_same _ _ _ hc,by rw[World.frozen?_setCell];exact(h.2 _ _ (qe hk)).2⟩
 ·rw[wbq (by omega)]at hj
  obtain⟨h1,h2⟩:=h.2 j c hj;exact⟨by rw[World.cell?_setCell_other _ _ _ _ (by simp[was hjk])];exact h1,by rw[World.frozen?_setCell];exact h2⟩
theorem BytesAt.back{P:Program}{src dst e:TypeId}(hs:P.underlying src=some (.slice e))(he:P.underlying e=some (.int .u8))(hd:P.underlying dst=some .string){g:Nat}{l:List UInt8}{w:World}(h:BytesAt g l w)(cap:Nat):
 (convert src dst (.slice (some ⟨g,0,none⟩) l.length cap)).run P w=.ok (.string ⟨l.toArray⟩) w:=
 run_convert_bytes_back w src dst e ⟨g,0,none⟩ cap l hs he hd fun j hj=>by
  have:(⟨g,0,none⟩:Addr).add j=⟨g,j,none⟩:=by unfold Addr.add;split<;>simp_all
  rw[this];exact(h.2 j _ (qe hj)).1
end Nun
section
set_option synthInstance.maxSize 4000
namespace Go.Proofs.YtmpiobfdchlikaaGreatDoor
open Go.RowKit Nun
theorem yol(s:List UInt8)(k:Nat)(h:k<s.length):zc0 (s.take (k+1))++s.drop (k+1)=(zc0 (s.take k)++s.drop k).set k (yh1 s[k]):=by
 have hl:(zc0 (s.take k)).length=k:=by simp[zc0];omega
 rw[wa0 h,yc8,wcm h,wa4,wa1 _ _ (by omega),hl];simp only[wch,wa3,List.singleton_append]
theorem z0h(s:ByteArray)(w:World)(hs:s.size<=1000000):Calls Tryz.prog 73 #[.string s] w (Ret (.string ⟨(zc0 s.data.toList).toArray⟩) w):=by
 have hlen:s.data.toList.length=s.size:=rfl;have HL:=Lib.hid hlen;clear hlen;obtain⟨cap,w1,hconv,hcap,hby,hbel⟩:=yc9 (P:=Tryz.prog) w 9 44 5 s Tryz.underlying9 Tryz.underlying44 Tryz.underlying5;obtain⟨B,hB⟩:∃B,w.heap.size=B:=⟨_,rfl⟩;rw[hB]at hconv hby hbel;have HB:=Lib.hid hB;clear hB;have HBy:=Lib.hid hby;clear hby;have hbel':Below w.heap.size w w1:=by rw[HB.out];exact hbel
 go_enter Tryz.func73,Tryz.ntmps73
 go_wp2
 go_loopw [4,5,10] (fun _ _ i wr=>∃(k:Nat)(l:List UInt8),k<=s.size/\i=.int .i64 k/\l.length=s.size/\BytesAt B l wr/\Below B w wr/\Hid (l=zc0 (s.data.toList.take k)++s.data.toList.drop k))
  (fun _ _ i _=>s.size - (intOf i).toNat)
 case atStart=>exact⟨0,s.data.toList,wa7 _,rfl,rfl,HBy.out,hbel,Lib.hid rfl⟩
 case round=>
  obtain⟨k,l,hk,rfl,hll,hb,hbl,hl⟩:=hrel;by_cases hlt:k<s.size
  ·have hst:=yol s.data.toList k hlt
   rw[<-hl.out]at hst;have hget:l[k]?=some s[k]:=by
    rw[hl.out,wbr (by simp[zc0];omega)];simp[zc0];rw[show min k s.size=k by omega];simp;exact wcp hlt
   have hkl:k<l.length:=by omega
   have hsk:s.data.toList[k]'hlt=s[k]:=rfl;rw[hsk]at hst;clear hsk;have hlk:l[k]'hkl=s[k]:=(qg hget).2;generalize hc:s[k]=c at*;obtain⟨d,hd⟩:∃d,yh1 c=d:=⟨_,rfl⟩;rw[hd]at hst;obtain⟨hcell,hfr⟩:=hb.2 k c hget;have HS:=Lib.hid hst;have HLL:=Lib.hid hll;have HK:=Lib.hid hlk;clear hst hget hll hlk;by_cases hup:65<=c/\c<=90
   ·have f1:(65:Int)<=c.toNat:=by have:=weg.1 hup.1;exact wdz.2 this
    have f2:(c.toNat:Int)<=90:=by have:=weg.1 hup.2;exact wdz.2 this
    have f3:bits .or .u8 (c.toNat:Int) 32=d.toNat:=by rw[<-hd];clear hd hc HS HLL hl hb hbl hcell hfr HK;revert c;decide+kernel
    have hb2:=hb.put k hkl d;have HB2:=Lib.hid hb2;clear hd hup hb2;go_wp2;go_roundw
    case rel=>exact⟨k+1,l.set k d,by omega,by go_num,by have:=HLL.out;simp;omega,HB2.out,hbl.setCell (wab _) _,Lib.hid HS.out.symm⟩
    case measure=>simp[intOf];omega
   ·have f1:¬((65:Int)<=c.toNat/\(c.toNat:Int)<=90):=by
     intro h;apply hup;exact⟨weg.2 (wdz.1 h.1),weg.2 (wdz.1 h.2)⟩
    have f3:d=c:=by rw[<-hd,yh1];rw[if_neg];simpa using hup
    have hsame:l.set k d=l:=by
     rw[f3,<-HK.out];exact List.set_getElem_self hkl
    have HSame:=Lib.hid hsame;subst f3;clear hd hup hsame;by_cases f2:(65:Int)<=d.toNat
    all_goals (try have f3:(90:Int)<d.toNat:=by omega)
    all_goals clear f1
    all_goals clear hc hconv
    all_goals
     go_wp2;go_roundw
     case rel=>exact⟨k+1,l,by omega,by go_num,HLL.out,hb,hbl,Lib.hid (by rw[HS.out,HSame.out])⟩
     case measure=>simp[intOf];omega
  ·obtain rfl:k=s.size:=by omega
   have hfin:l=zc0 s.data.toList:=by rw[hl.out,wco (by rw[HL.out];exact wab _),wc0 (by rw[HL.out];exact wab _),wcf]
   have HF:=Lib.hid hfin;clear hfin;have kc:=hb.back (P:=Tryz.prog) Tryz.underlying44 Tryz.underlying5 Tryz.underlying9 cap;rw[hll]at kc;go_wp2;go_ret;exact⟨r1 (by rw[HF.out];rfl),by rw[HB.out];exact hbl⟩
theorem z54(l:List UInt8):(zc0 l).length=l.length:=by simp[zc0]
theorem yih(s:ByteArray)(l:List UInt8)(h:zc0 s.data.toList=l)(w:World)(hs:s.size<=1000000):Calls Tryz.prog 73 #[.string s] w (Ret (.string ⟨l.toArray⟩) w):=h▸z0h s w hs
theorem yii(s t:ByteArray)(w:World)(hs:s.size<=1000000)(ht:t.size<=1000000):Calls Tryz.prog 126 #[.string s,.string t] w (Ret (.bool (zc0 s.data.toList==zc0 t.data.toList)) w):=by
 have hl1:=z54 s.data.toList;have hl2:=z54 t.data.toList;obtain⟨x,hx⟩:∃x,zc0 s.data.toList=x:=⟨_,rfl⟩;obtain⟨y,hy⟩:∃y,zc0 t.data.toList=y:=⟨_,rfl⟩;rw[hx]at hl1⊢;rw[hy]at hl2⊢;have hX:=Lib.hid hx;have hY:=Lib.hid hy;clear hx hy;by_cases hlen:s.size=t.size
 ·obtain⟨b,hb⟩:∃b,(x==y)=b:=⟨_,rfl⟩
  rw[hb];have hb2:((⟨x.toArray⟩:ByteArray).toList==(⟨y.toArray⟩:ByteArray).toList)=b:=by rw[ByteArray.toList_eq,ByteArray.toList_eq];exact hb
  have hse:((s.size:Int)==(t.size:Int))=true:=by rw[hlen];simp
  clear hlen hl1 hl2;have HB:=Lib.hid hb;have HB2:=Lib.hid hb2;clear hb hb2
  go_enter Tryz.func126,Tryz.ntmps126
  go_wp2_with(go_at_call 73;first|((with_reducible refine(yih s x hX.out _ hs).mono ?_);rintro e w1 ⟨rfl,hb1⟩)|((with_reducible refine(yih t y hY.out _ ht).mono ?_);rintro e w2 ⟨rfl,hb2⟩))
  go_ret;exact⟨r1 (vb HB.out),yn8 hb1 hb2⟩
 ·have hf:(x==y)=false:=by
   rw[beq_eq_false_iff_ne];intro h;have:=congrArg List.length h;rw[hl1,hl2]at this;exact hlen this
  rw[hf];have hse:((s.size:Int)==(t.size:Int))=false:=by rw[beq_eq_false_iff_ne];omega
  clear hlen hl1 hl2 hf
  go_enter Tryz.func126,Tryz.ntmps126
  go_wp2;go_ret;exact⟨rfl,Below.refl _ _⟩
end Go.Proofs.YtmpiobfdchlikaaGreatDoor
namespace Nun
theorem zj0(l:List UInt8)(c:UInt8):zdp (l++[c])=if za2 c then zdp l else l++[c]:=by
 unfold zdp;rw[List.reverse_append,List.reverse_singleton,List.singleton_append,weh];cases za2 c<;>simp
theorem zig(p:UInt8->Bool):∀l:List UInt8,l.dropWhile p=[] ↔ l.all p=true
 |[]=>by simp
 |c::l=>by
  rw[weh,wcg,wb1];cases h:p c
  ·simp
  ·simpa using zig p l
theorem zub(c:UInt8)(l:List UInt8):zdp (c::l)=if l.all za2&&za2 c then[]else c::zdp l:=by
 unfold zdp;rw[List.reverse_cons,List.dropWhile_append];have ha:(l.reverse.dropWhile za2).isEmpty=l.all za2:=by
  rw[wdm,List.isEmpty_iff,zig,List.all_reverse]
 rw[ha];cases h:l.all za2
 ·simp
 ·have h0:l.reverse.dropWhile za2=[]:=(zig _ _).2 (by rw[List.all_reverse];exact h)
  rw[h0];cases hb:za2 c<;>simp[hb]
theorem yij(l:List UInt8):(zdp l).dropWhile za2=zdp (l.dropWhile za2):=by
 induction l with
 |nil=>rfl
 |cons c l ih=>
  rw[zub,weh];cases hb:za2 c
  ·simp[hb,zub]
  ·cases ha:l.all za2
   ·simp[hb,ih]
   ·have:l.dropWhile za2=[]:=(zig _ _).2 ha
    simp[this,zdp]
theorem z55(c:UInt8):([32,9]:List UInt8).contains c=za2 c:=by
 rw[wdm];simp[za2]
theorem z8h(l:List UInt8):Go.Lib.trimS l [32,9]=trimB l:=by
 unfold Go.Lib.trimS Go.Lib.trimLeftS Go.Lib.trimRightS trimB;simp only[z55];exact yij l
theorem zxr(l:List UInt8):Go.Lib.trimLeftS l [32,9]=l.dropWhile za2:=by
 unfold Go.Lib.trimLeftS;simp only[z55]
theorem ya2(t:ByteArray)(h:0<t.size):t.data.toList=t[0]::(t.extract 1 t.size).data.toList:=by
 have h':0<t.data.toList.length:=h;have e:=wcm h';rw[wc8]at e;rw[Go.Lib.extract_data,wco (by rw[wbc];show t.size - 1<=t.size - 1;omega)];exact e
theorem z56(t:ByteArray)(h:0<t.size):t.data.toList=(t.extract 0 (t.size - 1)).data.toList++[t[t.size - 1]]:=by
 have h':t.size - 1<t.data.toList.length:=by show t.size - 1<t.size;omega
 have e:=wa0 h';rw[show t.size - 1+1=t.size by omega,wco (by show t.size<=t.size;omega)]at e;rw[Go.Lib.extract_data,wc8,wc2];exact e
def begL(s x:List UInt8)(k:Nat):Bool:=decide (k<=s.length)&&((s.drop k).take x.length==x)
end Nun
namespace Go.Proofs.YtmpiobfdchlikaaGreatDoor
open Go.RowKit Nun
theorem yda(s:ByteArray)(w:World)(hs:s.size<=1000000000):Calls Tryz.prog 124 #[.string s] w (Ret (.string ⟨(trimB s.data.toList).toArray⟩) w):=by
 have h:=Any.strings_Trim_laid Tryz.lays160 (by kernel_rfl) s ⟨#[32,9]⟩ w (by omega) (by decide) (ascii_of_all (by decide));rw[show(ByteArray.mk #[32,9]).data.toList=[32,9]from rfl,z8h]at h;have H:=Lib.hid h;clear h
 go_enter Tryz.func124,Tryz.ntmps124
 go_wp2_with(go_at_call 172;refine H.out.mono ?_;rintro e w1 ⟨rfl,hb1⟩)
 go_ret;exact⟨rfl,hb1⟩
theorem yom(s:ByteArray)(w:World)(hs:s.size<=1000000000):Calls Tryz.prog 114 #[.string s] w (Same (.string ⟨(trimB s.data.toList).toArray⟩) w):=by
 obtain⟨D,hD⟩:∃D,s.data.toList.dropWhile za2=D:=⟨_,rfl⟩;obtain⟨V,hV⟩:∃V,zdp D=V:=⟨_,rfl⟩;have hVV:trimB s.data.toList=V:=by rw[trimB,hD,hV]
 rw[hVV];have HD:=Lib.hid hD;have HV:=Lib.hid hV;clear hD hV hVV
 go_enter Tryz.func114,Tryz.ntmps114
 go_wp2
 go_loop [0] (fun v=>∃t:ByteArray,v=.string t/\t.size<=1000000000/\Hid (t.data.toList.dropWhile za2=D)) (fun v=>match v with| .string t=>t.size|_=>0)
 case atStart=>exact⟨s,rfl,hs,HD⟩
 case round=>
  obtain⟨t,rfl,ht,hd⟩:=hrel;have hcase:(∃h:0<t.size,za2 t[0]=true)\/((t.size=0\/∃h:0<t.size,za2 t[0]=false)/\t.data.toList=D):=by
   by_cases hpos:0<t.size
   ·have hcons:=ya2 t hpos
    by_cases hb:za2 t[0]=true
    ·exact .inl ⟨hpos,hb⟩
    ·refine .inr ⟨.inr ⟨hpos,by simpa using hb⟩,?_⟩
     rw[<-hd.out];conv=>rhs;rw[hcons,weh,if_neg hb]
     exact hcons
   ·refine .inr ⟨.inl (by omega),?_⟩
    rw[<-hd.out,qz (l:=t.data.toList) (by show t.size=0;omega)];rfl
  rcases hcase with⟨hpos,hb⟩|⟨hor,hT⟩
  ·have hcons:=ya2 t hpos
   have hstep:(t.extract 1 t.size).data.toList.dropWhile za2=D:=by rw[<-hd.out,hcons,weh,hb];rfl
   have HS:=Lib.hid hstep;have hb2:((t[0].toNat:Int)==32)=true\/((t[0].toNat:Int)==32)=false/\((t[0].toNat:Int)==9)=true:=by
    clear hcons hstep HS;revert hb;generalize t[0]=c;clear hd;revert c;decide+kernel
   have hxs:(t.extract 1 t.size).size=t.size - 1:=by rw[wee];omega
   clear hcons hb hstep;rcases hb2 with q1|⟨q1,q2⟩
   all_goals
    go_wp2
    go_round
    case rel=>exact⟨_,rfl,by omega,HS⟩
    case measure=>simp;omega
  ·have HT:=Lib.hid hT
   clear hT hd;rcases hor with h0|⟨hpos,hb⟩
   case inr=>
    have hb2:((t[0].toNat:Int)==32)=false/\((t[0].toNat:Int)==9)=false:=by
     clear HT;revert hb;generalize t[0]=c;revert c;decide+kernel
    obtain⟨q1,q2⟩:=hb2;clear hb;go_wp2
    go_loop [0] (fun v=>∃u:ByteArray,v=.string u/\u.size<=1000000000/\Hid (zdp u.data.toList=V)) (fun v=>match v with| .string t=>t.size|_=>0)
    case atStart=>exact⟨t,rfl,ht,Lib.hid (by rw[HT.out];exact HV.out)⟩
    case round=>
     obtain⟨u,rfl,hu,hd⟩:=hrel;by_cases hup:0<u.size
     ·have hlast:=z56 u hup
      by_cases hbu:za2 (u[u.size - 1]'(by omega))=true
      ·have hstep:zdp (u.extract 0 (u.size - 1)).data.toList=V:=by rw[<-hd.out,hlast,zj0,if_pos hbu]
       have HS:=Lib.hid hstep;have hb2:(((u[u.size - 1]'(by omega)).toNat:Int)==32)=true\/(((u[u.size - 1]'(by omega)).toNat:Int)==32)=false/\(((u[u.size - 1]'(by omega)).toNat:Int)==9)=true:=by
        clear hlast hstep HS;revert hbu;generalize u[u.size - 1]'(by omega)=c;clear hd HT;revert c;decide+kernel
       have hxs:(u.extract 0 (u.size - 1)).size=u.size - 1:=by rw[wee];omega
       clear hlast hbu hstep;rcases hb2 with q3|⟨q3,q4⟩
       all_goals
        go_wp2
        go_round
        case rel=>exact⟨_,rfl,by omega,HS⟩
        case measure=>simp;omega
      ·have hT:u.data.toList=V:=by
        rw[<-hd.out];conv=>rhs;rw[hlast,zj0,if_neg hbu]
        exact hlast
       have HU:=Lib.hid hT;have hb2:(((u[u.size - 1]'(by omega)).toNat:Int)==32)=false/\(((u[u.size - 1]'(by omega)).toNat:Int)==9)=false:=by
        clear hlast hT HU;revert hbu;generalize u[u.size - 1]'(by omega)=c;clear hd HT;revert c;decide+kernel
       obtain⟨q3,q4⟩:=hb2;clear hlast hbu hT;go_wp2;go_ret;exact⟨r1 (vS HU.out),rfl⟩
     ·have hT:u.data.toList=V:=by
       rw[<-hd.out,qz (l:=u.data.toList) (by show u.size=0;omega)];rfl
      have HU:=Lib.hid hT;have h1':¬(0:Int)<u.size:=by omega
      clear hT;go_wp2;go_ret;exact⟨r1 (vS HU.out),rfl⟩
   case inl=>
    have h0':¬(0:Int)<t.size:=by omega
    clear h0;go_wp2
    go_loop [0] (fun v=>∃u:ByteArray,v=.string u/\u.size<=1000000000/\Hid (zdp u.data.toList=V)) (fun v=>match v with| .string t=>t.size|_=>0)
    case atStart=>exact⟨t,rfl,ht,Lib.hid (by rw[HT.out];exact HV.out)⟩
    case round=>
     obtain⟨u,rfl,hu,hd⟩:=hrel;by_cases hup:0<u.size
     ·have hlast:=z56 u hup
      by_cases hbu:za2 (u[u.size - 1]'(by omega))=true
      ·have hstep:zdp (u.extract 0 (u.size - 1)).data.toList=V:=by rw[<-hd.out,hlast,zj0,if_pos hbu]
       have HS:=Lib.hid hstep;have hb2:(((u[u.size - 1]'(by omega)).toNat:Int)==32)=true\/(((u[u.size - 1]'(by omega)).toNat:Int)==32)=false/\(((u[u.size - 1]'(by omega)).toNat:Int)==9)=true:=by
        clear hlast hstep HS;revert hbu;generalize u[u.size - 1]'(by omega)=c;clear hd HT;revert c;decide+kernel
       have hxs:(u.extract 0 (u.size - 1)).size=u.size - 1:=by rw[wee];omega
       clear hlast hbu hstep;rcases hb2 with q3|⟨q3,q4⟩
       all_goals
        go_wp2
        go_round
        case rel=>exact⟨_,rfl,by omega,HS⟩
        case measure=>simp;omega
      ·have hT:u.data.toList=V:=by
        rw[<-hd.out];conv=>rhs;rw[hlast,zj0,if_neg hbu]
        exact hlast
       have HU:=Lib.hid hT;have hb2:(((u[u.size - 1]'(by omega)).toNat:Int)==32)=false/\(((u[u.size - 1]'(by omega)).toNat:Int)==9)=false:=by
        clear hlast hT HU;revert hbu;generalize u[u.size - 1]'(by omega)=c;clear hd HT;revert c;decide+kernel
       obtain⟨q3,q4⟩:=hb2;clear hlast hbu hT;go_wp2;go_ret;exact⟨r1 (vS HU.out),rfl⟩
     ·have hT:u.data.toList=V:=by
       rw[<-hd.out,qz (l:=u.data.toList) (by show u.size=0;omega)];rfl
      have HU:=Lib.hid hT;have h1':¬(0:Int)<u.size:=by omega
      clear hT;go_wp2;go_ret;exact⟨r1 (vS HU.out),rfl⟩
theorem ydb(s x:ByteArray)(k:Nat)(w:World)(hs:s.size<=1000000000)(hx:x.size<=1000000000)(hk:k<=1000000000):Calls Tryz.prog 60 #[.string s,.string x,.int .i64 k] w (Same (.bool (begL s.data.toList x.data.toList k)) w):=by
 obtain⟨V,hV⟩:∃V,begL s.data.toList x.data.toList k=V:=⟨_,rfl⟩;rw[hV];by_cases h1:k<=s.size
 ·by_cases h2:x.size<=s.size - k
  ·have h2':(x.size:Int)<=s.size - k:=by omega
   have hv:V=((s.extract k (k+x.size)).toList==x.toList):=by
    rw[<-hV,begL,show decide (k<=s.data.toList.length)=true by simp;exact h1,wbh,ByteArray.toList_eq,ByteArray.toList_eq,Lib.extract_data,wbs];rfl
   have HV:=Lib.hid hv;clear hV hv
   go_enter Tryz.func60,Tryz.ntmps60
   go_wp2;go_ret;exact⟨r1 (vb HV.out.symm),rfl⟩
  ·have h2':¬(x.size:Int)<=s.size - k:=by omega
   have hv:V=false:=by
    rw[<-hV,begL,Bool.and_eq_false_iff];right;rw[beq_eq_false_iff_ne];intro h;have:=congrArg List.length h;rw[wa2,wbc,show s.data.toList.length=s.size from rfl,show x.data.toList.length=x.size from rfl]at this;omega
   subst hv;clear hV
   go_enter Tryz.func60,Tryz.ntmps60
   go_wp2;go_ret;exact⟨rfl,rfl⟩
 ·have h1':¬(k:Int)<=s.size:=by omega
  have hv:V=false:=by
   rw[<-hV,begL,show decide (k<=s.data.toList.length)=false by simp;exact Nat.lt_of_not_le h1];rfl
  subst hv;clear hV
  go_enter Tryz.func60,Tryz.ntmps60
  go_wp2;go_ret;exact⟨rfl,rfl⟩
end Go.Proofs.YtmpiobfdchlikaaGreatDoor
end
section
namespace Nun
open Go Go.RowKit
section
variable {F:Fence} {n:Nat} {P:Program} {b:Frame} {a:Act} {k:List Item} {cs:List Frame} {w:World} {Q:Exit→Act→World→Prop}
theorem zxs{c:Code}:step P (lone (b.atR a (.code (.scope c)::k)) cs w)=.next (lone (b.atR a (.code c::.inScope c::k)) cs w):=
 step_lone_go (by simp[Go.stepG,Go.stepG.exec,Frame.atR])
theorem z22{c:Code}:step P (lone (b.atR a (.inScope c::k)) cs w)=.next (lone (b.atR a k) cs w):=
 step_lone_go (by simp[Go.stepG,Go.stepG.exec,Frame.atR])
theorem zjd{c rest:Code}(l:Nat)(J:Act->World->Prop)(hf:findLabel c l=some rest)
 (hq:∀l a w,¬Q (.goto l) a w)
 (first:c.wpIn F n P (Exit.jump l J Q) a w) (pass:∀a w,J a w->rest.wpIn F n P Q a w):(Code.scope c).wpIn F n P Q a w:=by
 intro b k cs hro hb hr;have h0:(lone (b.atR a (.code (.scope c)::k)) cs w).fenced P F:=fenced_calm hb hr rfl;have hg:gotoIn l (.inScope c::k)=some (.code rest::.inScope c::k):=by simp[gotoIn,hf]
 have out:∀(m:Machine)(e:Exit)(a₁:Act)(w₁:World),Q e a₁ w₁->ArrivesIn (Machine.fenced P F) P m b (.inScope c::k) cs e a₁ w₁->ArrivesIn (Machine.fenced P F) P m b k cs e a₁ w₁:=by
  intro m e a₁ w₁ hq₁ harr;cases e with
  |normal=>exact StepsIn.trans harr (.one (fenced_calm hb hr rfl) z22)
  |exit id=>exact⟨fun k' hk=>harr.1 k' (by simp[exitTo,hk]),fun hr' hk=>harr.2 hr' (by simp[exitTo,hk])⟩
  |goto l'=>exact(hq _ _ _ hq₁).elim
  |ret=>exact harr
  |panic ch=>exact harr
  |outgrown=>exact harr
 obtain⟨e,a₁,w₁,hq1,harr⟩:=first b (.inScope c::k) cs hro hb hr
 by_cases he:∃l',e=.goto l'
 ·obtain⟨l',rfl⟩:=he
  obtain⟨rfl,hJ⟩:=hq1;obtain⟨e₂,a₂,w₂,hq₂,harr₂⟩:=pass a₁ w₁ hJ b (.inScope c::k) cs hro hb hr;exact⟨e₂,a₂,w₂,hq₂,.of_steps (.head h0 zxs (harr.1 _ hg)) (out _ _ _ _ hq₂ harr₂)⟩
 ·have hq':Q e a₁ w₁:=by cases e<;>first|exact hq1|exact(he ⟨_,rfl⟩).elim
  exact⟨e,a₁,w₁,hq',.of_steps (.one h0 zxs) (out _ _ _ _ hq' harr)⟩
end
theorem zl8{w w':World}(h:Below w.heap.size w w'):KeepsOthers w w':=by
 refine⟨h.size,fun k o hk hc=>?_⟩;exact(h.block k (wan.1 hk).1).trans hk
theorem zla{e b:Nat}{w w':World}(hs:w.heap.size<=w'.heap.size)(h:Lib.OthersKept e (some b) w w')(hb:∃o:Obj,w.heap[b]?=some o/\o.isCells=true):KeepsOthers w w':=by
 refine⟨hs,fun k o hk hc=>?_⟩;refine h k o hk ?_ ?_
 ·intro hkb
  obtain⟨o',ho',hc'⟩:=hb;cases hkb;rw[hk]at ho';cases ho';rw[hc]at hc';cases hc'
 ·intro c fz ho
  subst ho;cases hc
def zl9(b:Nat)(W W':World):Prop:=W'.heap[b]?=W.heap[b]?
theorem zxt{b:Nat}{A B C:World}(h:zl9 b A B)(k:zl9 b B C):zl9 b A C:=Eq.trans k h
theorem zxu{b:Nat}{w:World}(hb:b<w.heap.size)(W:World)(l:Nat)(o o':Obj)(hl:w.heap.size<=l)(h:W.heap[l]?=some o)(_:o.isCells=false)(_:o.isWalk=false):zl9 b W (W.putObj l o'):=
 World.putObj_heap_other (by omega)
theorem zed{β:Type}{B:Nat}{J:β->World->Prop}(h:AbidesFrom B J){s:β}{W W':World}(hJ:J s W)(k:Below W.heap.size W W'):J s W':=
 h s W W' none hJ ⟨k.os,k.tape,k.output,k.size,fun i hi _=>k.block i hi⟩ (fun r e=>by cases e)
theorem zma{b:Nat}{W W':World}(hb:b<W.heap.size)(k:Below W.heap.size W W'):zl9 b W W':=k.block b hb
end Nun
end
section
namespace Nun
open Go Go.RowKit
abbrev zck:={p:ByteArray×Nat//p.1.size<=10000/\p.2<=20000}
def zck.pair(p:zck):List UInt8×Nat:=(p.1.1.data.toList,p.1.2)
def zfp(b c:Nat)(W W':World):Prop:=zl9 b W W'/\zl9 c W W'
theorem zos{b c:Nat}{A B C:World}(h:zfp b c A B)(k:zfp b c B C):zfp b c A C:=⟨zxt h.1 k.1,zxt h.2 k.2⟩
theorem ydc{b c:Nat}{w:World}(hb:b<w.heap.size)(hc:c<w.heap.size)(W:World)(l:Nat)(o o':Obj)(hl:w.heap.size<=l)(h:W.heap[l]?=some o)(h1:o.isCells=false)(h2:o.isWalk=false):zfp b c W (W.putObj l o'):=
 ⟨zxu hb W l o o' hl h h1 h2,zxu hc W l o o' hl h h1 h2⟩
theorem zps{b c:Nat}{W W':World}(hb:b<W.heap.size)(hc:c<W.heap.size)(k:Below W.heap.size W W'):zfp b c W W':=⟨zma hb k,zma hc k⟩
def zho(W:World):Prop:=∃m,W.cell? ⟨0,0,none⟩=some (.int .i64 m)
theorem zho.kept{W W':World}(h:zho W)(k:zl9 0 W W'):zho W':=by
 obtain⟨m,hm⟩:=h;exact⟨m,by unfold World.cell? at hm⊢;rw[k];exact hm⟩
theorem zho.lt{W:World}(h:zho W):0<W.heap.size:=by
 obtain⟨m,hm⟩:=h;exact wae W _ hm
theorem zho.below{W W':World}(h:zho W)(k:Below W.heap.size W W'):zho W':=h.kept (zma h.lt k)
theorem zho.below'{B:Nat}{W W':World}(h:zho W)(hB:0<B)(k:Below B W W'):zho W':=h.kept (k.block _ hB)
def yqk(s:ByteArray)(k d:Nat)(w:World)(e:Ending)(w':World):Prop:=∃a b:ByteArray,e=.returned (.tuple #[.string a,.string b,.bool true])/\a.size=k/\b.size+(k+d)=s.size/\Hid (a.data.toList=s.data.toList.take k)/\Hid (b.data.toList=s.data.toList.drop (k+d))/\Below w.heap.size w w'
def y1a(s:ByteArray)(w:World)(e:Ending)(w':World):Prop:=e=.returned (.tuple #[.string s,.string ⟨#[]⟩,.bool false])/\Below w.heap.size w w'
end Nun
namespace Go.Proofs.YtmpiobfdchlikaaGreatDoor
open Go Go.RowKit Nun
theorem z8i(s:ByteArray)(w:World)(hm:zho w)(hs:s.size<=1000000)(ho:crAt s.data.toList=none):Calls Tryz.prog 79 #[.string s,.string ⟨#[13,10]⟩] w (y1a s w):=by
 obtain⟨m,hm⟩:=hm;refine(Tryz.strings_Cut s ⟨#[13,10]⟩ m w (by omega) hm).mono ?_;rintro e w' ⟨rfl,n,rfl⟩;refine⟨?_,below_drewN' w n⟩;rw[show(ByteArray.mk #[13,10]).data.toList=[13,10]from rfl,yao,ho]
theorem z57(s:ByteArray)(w:World)(hm:zho w)(hs:s.size<=1000000)(k:Nat)(ho:crAt s.data.toList=some k):Calls Tryz.prog 79 #[.string s,.string ⟨#[13,10]⟩] w (yqk s k 2 w):=by
 obtain⟨m,hm⟩:=hm;refine(Tryz.strings_Cut s ⟨#[13,10]⟩ m w (by omega) hm).mono ?_;rintro e w' ⟨rfl,n,rfl⟩;have hl:=zh0 ho;rw[show s.data.toList.length=s.size from rfl]at hl;refine⟨⟨(s.data.toList.take k).toArray⟩,⟨(s.data.toList.drop (k+2)).toArray⟩,?_,?_,?_,Lib.hid rfl,Lib.hid rfl,below_drewN' w n⟩
 ·rw[show(ByteArray.mk #[13,10]).data.toList=[13,10]from rfl,yao,ho]
 ·rw[zkj,wa2,show s.data.toList.length=s.size from rfl];omega
 ·rw[zkj,wbc,show s.data.toList.length=s.size from rfl];omega
theorem z8j(c:UInt8)(s:ByteArray)(w:World)(hm:zho w)(hs:s.size<=1000000)(ho:zdb c s.data.toList=none):Calls Tryz.prog 79 #[.string s,.string ⟨#[c]⟩] w (y1a s w):=by
 obtain⟨m,hm⟩:=hm;refine(Tryz.strings_Cut s ⟨#[c]⟩ m w (by omega) hm).mono ?_;rintro e w' ⟨rfl,n,rfl⟩;refine⟨?_,below_drewN' w n⟩;rw[show(ByteArray.mk #[c]).data.toList=[c]from rfl,z2t,ho]
theorem zn3(c:UInt8)(s:ByteArray)(w:World)(hm:zho w)(hs:s.size<=1000000)(k:Nat)(ho:zdb c s.data.toList=some k):Calls Tryz.prog 79 #[.string s,.string ⟨#[c]⟩] w (yqk s k 1 w):=by
 obtain⟨m,hm⟩:=hm;refine(Tryz.strings_Cut s ⟨#[c]⟩ m w (by omega) hm).mono ?_;rintro e w' ⟨rfl,n,rfl⟩;have hl:=zr1 ho;rw[show s.data.toList.length=s.size from rfl]at hl;refine⟨⟨(s.data.toList.take k).toArray⟩,⟨(s.data.toList.drop (k+1)).toArray⟩,?_,?_,?_,Lib.hid rfl,Lib.hid rfl,below_drewN' w n⟩
 ·rw[show(ByteArray.mk #[c]).data.toList=[c]from rfl,z2t,ho]
 ·rw[zkj,wa2,show s.data.toList.length=s.size from rfl];omega
 ·rw[zkj,wbc,show s.data.toList.length=s.size from rfl];omega
attribute [local go_sem] Oper.semAt_some
set_option maxRecDepth 100000 in
theorem z8k(n:Nat)(hn:1<=n)(s:ByteArray)(hs:s.size<=10000)(Bn:Nat)(w:World)(hbox:Boxed w Bn 9 (.string s))(hmax:zho w):
 SeqStopsK Fence.wide n Tryz.prog 171 #[.pointer (some ⟨Bn,0,none⟩)] (fun p:zck=>#[.string p.1.1,.int .i64 p.1.2]) (zfp Bn 0)
  (fun xs=>xs.map zck.pair=itL s.data.toList 0) (fun xs=>∃r,xs.map zck.pair++r=itL s.data.toList 0) (s.size+1) w:=fun l J Jx W hW hJ hJx hY h0=>by
 have hbx0:Boxed W Bn 9 (.string s):=(hW.block _ hbox.lt).trans hbox;have hm0:zho W:=hmax.below hW;have hc0:=hbx0.cell;have HX:=Lib.hid hbx0;clear hbx0;refine callsIn_of_wp Tryz.func171 rfl trivial ?_ rfl;simp only[Tryz.ntmps171,wei,waf,wdb,Nat.reduceAdd,Nat.reduceSub,wej,wek,wel,wem,wa5,wai]
 gi_wp2
 gi_loopw [3,4,5,6,7] (fun v _ _ _ _ wr=>∃(k:Nat)(pre:List zck),v=.int .i64 k/\k<=s.size/\pre.length<=k/\Hid (pre.map zck.pair++itL (s.data.toList.drop k) k=itL s.data.toList 0)/\Hid (J pre wr)/\Hid (Boxed wr Bn 9 (.string s))/\Hid (zho wr))
  (fun v _ _ _ _ _=>s.size+1 - (intOf v).toNat)
 case atStart=>exact⟨0,[],rfl,wa7 _,wab _,Lib.hid rfl,Lib.hid h0,HX,Lib.hid hm0⟩
 case round=>
  obtain⟨k,pre,rfl,hk,hpl,hpre,hJs,hbx,hmx⟩:=hrel;replace hJs:=hJs.out;replace hbx:=hbx.out;have hc2:=hbx.cell;have hbl:=hbx.lt;have hsx:(s.extract k s.size).data.toList=s.data.toList.drop k:=by rw[Lib.extract_data,wco (by rw[wbc];exact wab _)]
  have hsz:(s.extract k s.size).size=s.size - k:=by rw[wee];omega
  rcases ho:crAt (s.data.toList.drop k)with _|j
  ·have HO:=Lib.hid (show crAt (s.extract k s.size).data.toList=none by rw[hsx];exact ho)
   have HE:=Lib.hid (show pre.map zck.pair=itL s.data.toList 0 by rw[<-hpre.out,zfo ho,wcf]);clear ho hsx
   gi_wp2_with (refine⟨trivial,?_⟩;gi_at_call 79;refine(callsIn_wide.2 (z8i _ _ hmx.out (by omega) HO.out)).mono ?_;rintro e w1 ⟨rfl,hb1⟩)
   refine bodyPost_ret (results_none rfl _ _ _) rfl ?_;exact⟨⟨_,rfl⟩,.inl ⟨pre,HE.out,zed hJ hJs hb1⟩⟩
  ·have hlt:=zh0 ho
   rw[wbc,show s.data.toList.length=s.size from rfl]at hlt;have HO:=Lib.hid (show crAt (s.extract k s.size).data.toList=some j by rw[hsx];exact ho);have hit:=zhg (a:=k) ho;rw[wbd]at hit;have HIT:=Lib.hid hit;have HSX:=Lib.hid hsx;clear ho hsx hit
   gi_wp2_with (refine⟨trivial,?_⟩;gi_at_call 79;refine(callsIn_wide.2 (z57 _ _ hmx.out (by omega) j HO.out)).mono ?_;rintro e w1 ⟨a,b,rfl,haj,hbs,hal,_,hb1⟩;have hJ1:=zed hJ hJs hb1;have hbx1:=(hb1.block _ hbl).trans hbx;have hmx1:=hmx.out.below hb1;have hc1:=Boxed.cell hbx1;have haL:=Lib.hid haj;have ha1:a.size+2<=s.size - k:=(by omega);clear haj;obtain⟨fn,tmps,assign,body,hy,hR⟩:=hY pre ⟨(a,k+(a.size+2)),by constructor<;>dsimp only<;>omega⟩ w1 hJ1 (by omega);dsimp only at hy;rw[show((k+(a.size+2):Nat):Int)=(k:Int)+((a.size:Int)+2) by omega]at hy)
   have hpair:zck.pair ⟨(a,k+(a.size+2)),by constructor<;>dsimp only<;>omega⟩=((s.data.toList.drop k).take j,k+j+2):=by
    unfold zck.pair;dsimp only;rw[hal.out,HSX.out,haL.out,wam]
   have HP:=Lib.hid hpair;clear hpair;refine hR.mono ?_;rintro e W3 (⟨rfl,hJ3,hk3⟩|⟨rfl,hx3⟩)
   ·have hbx3:Boxed W3 Bn 9 (.string s):=Eq.trans hk3.1 hbx1
    have hmx3:=hmx1.kept hk3.2;rcases wb7 j with hj|hj
    ·have hae:a.toList=[]:=by
      rw[Lib.toList_data];exact qz (haL.out.trans hj)
     have HF:=Lib.hid (show(pre++[(⟨(a,k+(a.size+2)),by constructor<;>dsimp only<;>omega⟩:zck)]).map zck.pair=itL s.data.toList 0 by
      rw[wen,weo,HP.out,<-hpre.out,HIT.out,if_pos hj])
     gi_wp2
     refine bodyPost_ret (results_none rfl _ _ _) rfl ?_;exact⟨⟨_,rfl⟩,.inl ⟨_,HF.out,hJ3⟩⟩
    ·have e1:a.toList=[] ↔ False:=by
      rw[Lib.toList_data];exact iff_of_false (fun h=>by have:=haL.out;have h2:a.size=0:=congrArg List.length h;omega) id
     have e2:a.toList.isEmpty=false:=by
      rw[Lib.toList_data];cases h:a.data.toList with
      |nil=>have:=haL.out;have h2:a.size=0:=congrArg List.length h;omega
      |cons _ _=>rfl
     have HF:=Lib.hid (show(pre++[(⟨(a,k+(a.size+2)),by constructor<;>dsimp only<;>omega⟩:zck)]).map zck.pair++itL (s.data.toList.drop (k+(a.size+2))) (k+(a.size+2))=itL s.data.toList 0 by
      rw[wen,weo,HP.out,<-hpre.out,HIT.out,if_neg (by omega),haL.out,wa4];rfl)
     gi_wp2
     go_roundw
     case rel=>exact⟨k+(a.size+2),_,by go_num,by omega,by simp;omega,HF,Lib.hid hJ3,Lib.hid hbx3,Lib.hid hmx3⟩
     case measure=>simp[intOf];omega
   ·have HF:=Lib.hid (show(pre++[(⟨(a,k+(a.size+2)),by constructor<;>dsimp only<;>omega⟩:zck)]).map zck.pair++(if j=0 then[]else itL (s.data.toList.drop (k+(j+2))) (k+j+2))=itL s.data.toList 0 by
     rw[wen,weo,HP.out,<-hpre.out,HIT.out,wa4];rfl)
    gi_wp2
    refine bodyPost_ret (results_none rfl _ _ _) rfl ?_;exact⟨⟨_,rfl⟩,.inr ⟨_,⟨_,HF.out⟩,hx3⟩⟩
end Go.Proofs.YtmpiobfdchlikaaGreatDoor
end
section
namespace Nun
open Go Go.RowKit
def zan(l:List Fld):List Value:=l.flatMap fun p=>[.string ⟨p.1.toArray⟩,.string ⟨p.2.toArray⟩]
theorem zcv(l:List Fld):(zan l).length=l.length* 2:=by
 induction l with
 |nil=>rfl
 |cons p l ih=>show(([.string ⟨p.1.toArray⟩,.string ⟨p.2.toArray⟩]:List Value)++zan l).length=_;rw[wb0,ih];simp;omega
theorem ze6(l:List Fld)(p:Fld):zan (l++[p])=zan l++[.string ⟨p.1.toArray⟩,.string ⟨p.2.toArray⟩]:=by simp[zan]
def z58(pre:List zck):List (List UInt8):=pre.map fun x=>x.1.1.data.toList
def stOf(pre:List zck):List Fld×Bool:=(zbn (z58 pre) ([],false)).getD ([],false)
def zu0(pre:List zck):Prop:=zbn (z58 pre) ([],false)=some (stOf pre)/\∀x∈pre,x.1.1.data.toList≠[]
theorem yon:zu0 []:=⟨rfl,by simp⟩
theorem z6a{pre:List zck}{x:zck}{st:List Fld×Bool}(h:zu0 pre)(hx:x.1.1.data.toList≠[])(hs:za0 (stOf pre) x.1.1.data.toList=some st):zu0 (pre++[x])/\stOf (pre++[x])=st:=by
 have e:zbn (z58 (pre++[x])) ([],false)=some st:=by
  unfold z58;rw[wen,weo,zql];show(zbn (z58 pre) ([],false)).bind _=_;rw[h.1];exact hs
 refine⟨⟨by unfold stOf;rw[e];rfl,?_⟩,by unfold stOf;rw[e];rfl⟩;intro y hy;rcases wak.1 hy with hy|hy
 ·exact h.2 y hy
 ·rw[wbn.1 hy];exact hx
theorem z23{pre:List zck}(h:zu0 pre)(r:List (List UInt8×Nat)):zb7 (pre.map zck.pair++r) ([],false)=zb7 r (stOf pre):=by
 refine zxp _ _ _ _ ?_ ?_
 ·intro x hx
  obtain⟨y,hy,rfl⟩:=wbv.1 hx;exact h.2 y hy
 ·rw[List.map_map];exact h.1
theorem zot{st:List Fld×Bool}{l:List UInt8}(h:l.all zeb=false):za0 st l=none:=by unfold za0;rw[if_pos h]
theorem zpt{st:List Fld×Bool}{l:List UInt8}(hb:(l.head?.map za2).getD false=true)(h:st.1=[]):za0 st l=none:=by
 by_cases hs:l.all zeb=false
 ·exact zot hs
 ·unfold za0;rw[if_neg hs,if_pos hb,h];rfl
theorem zs6{st:List Fld×Bool}{l:List UInt8}{F:List Fld}{q:Fld}(hs:l.all zeb=true)(hb:(l.head?.map za2).getD false=true)(h:st.1=F++[q]):
 za0 st l=some (F++[(q.1,q.2++l)],st.2||decide (998<l.length)):=by
 unfold za0;rw[if_neg (by simp[hs]),if_pos hb,h,List.getLast?_concat];simp
theorem zuc{st:List Fld×Bool}{l:List UInt8}(hb:(l.head?.map za2).getD false=false)(h:zdb 58 l=none):za0 st l=none:=by
 by_cases hs:l.all zeb=false
 ·exact zot hs
 ·unfold za0;rw[if_neg hs,if_neg (by simp[hb]),h]
theorem zxv{st:List Fld×Bool}{l:List UInt8}{k:Nat}(hb:(l.head?.map za2).getD false=false)(h:zdb 58 l=some k)(hn:zji (l.take k)=false):za0 st l=none:=by
 by_cases hs:l.all zeb=false
 ·exact zot hs
 ·unfold za0;rw[if_neg hs,if_neg (by simp[hb]),h];simp[hn]
theorem zs7{st:List Fld×Bool}{l:List UInt8}{k:Nat}(hs:l.all zeb=true)(hb:(l.head?.map za2).getD false=false)(h:zdb 58 l=some k)(hn:zji (l.take k)=true):
 za0 st l=some (st.1++[(l.take k,l.drop (k+1))],st.2||decide (998<l.length)):=by
 unfold za0;rw[if_neg (by simp[hs]),if_neg (by simp[hb]),h];simp[hn]
theorem yoo{st st':List Fld×Bool}{l:List UInt8}(h:za0 st l=some st'):st'.1.length<=st.1.length+1:=by
 unfold za0 at h;split at h
 ·cases h
 ·split at h
  ·split at h
   ·cases h
   ·cases h;simp
  ·split at h
   ·cases h
   ·split at h
    ·cases h;simp
    ·cases h
theorem zn4:∀(ls:List (List UInt8))(st st':List Fld×Bool),zbn ls st=some st'->st'.1.length<=st.1.length+ls.length
 |[],st,st',h=>by simp[zbn]at h;rw[h];simp
 |l::ls,st,st',h=>by
  rw[zbn,wed]at h;obtain⟨s1,h1,h2⟩:=qb h;have:=yoo h1;have:=zn4 ls s1 st' h2;rw[waf];omega
theorem yik{st st':List Fld×Bool}{l:List UInt8}{C:Nat}(h:za0 st l=some st')(hC:∀f∈st.1,f.2.length<=C):∀f∈st'.1,f.2.length<=C+l.length:=by
 unfold za0 at h;split at h
 ·cases h
 ·split at h
  ·split at h
   ·cases h
   ·rename_i q hq
    cases h;intro f hf;rcases wak.1 hf with hf|hf
    ·have:=hC f ((List.dropLast_sublist _).subset hf);omega
    ·rw[wbn.1 hf,wb0]
     have:=hC q (List.mem_of_getLast? hq);omega
  ·split at h
   ·cases h
   ·split at h
    ·cases h
     intro f hf;rcases wak.1 hf with hf|hf
     ·have:=hC f hf;omega
     ·rw[wbn.1 hf,wbc];omega
    ·cases h
theorem zou:∀(ls:List (List UInt8))(st st':List Fld×Bool)(C M:Nat),zbn ls st=some st'->(∀f∈st.1,f.2.length<=C)->(∀l∈ls,l.length<=M)->∀f∈st'.1,f.2.length<=C+M* ls.length
 |[],st,st',C,M,h,hC,_=>by simp[zbn]at h;rw[<-h];simpa using hC
 |l::ls,st,st',C,M,h,hC,hM=>by
  rw[zbn,wed]at h;obtain⟨s1,h1,h2⟩:=qb h;have a:=yik h1 hC;have hl:=hM l (by simp);have:=zou ls s1 st' (C+M) M h2 (fun f hf=>by have:=a f hf;omega) (fun x hx=>hM x (by simp[hx]));intro f hf;have:=this f hf;rw[waf,Nat.mul_succ];omega
theorem z6b{pre:List zck}(h:zu0 pre):∀f∈(stOf pre).1,f.2.length<=10000* pre.length:=by
 have:=zou _ _ _ 0 10000 h.1 (by simp) (by
  intro l hl;unfold z58 at hl;obtain⟨x,_,rfl⟩:=wbv.1 hl;exact x.2.1)
 simpa[z58]using this
theorem z25{pre:List zck}(h:zu0 pre):(stOf pre).1.length<=pre.length:=by
 have:=zn4 _ _ _ h.1;simpa[z58]using this
theorem z0i(p:ByteArray)(h:0<p.size):(p.data.toList.head?.map za2).getD false=za2 p[0]:=by
 rw[List.head?_eq_getElem?,qe (show 0<p.data.toList.length from h)];rfl
theorem yil:∀c:UInt8,za2 c=true->((c.toNat:Int)==32)=true\/((c.toNat:Int)==32)=false/\((c.toNat:Int)==9)=true:=by decide+kernel
theorem yop:∀c:UInt8,za2 c=false->((c.toNat:Int)==32)=false/\((c.toNat:Int)==9)=false:=by decide+kernel
theorem zxw{W:World}{B t e base size n:Nat}{u v:Value}{xs:List Value}(h:Boxed W B t u)(hte:t≠e)(hr:W.ownsRow base e size v n xs)(u':Value):(W.setCell ⟨B,0,none⟩ u').ownsRow base e size v n xs:=
 hr.kept (grownBy_setCell' W B u') (.inr (h.not_row hte hr).symm)
theorem zud{b c B:Nat}{W:World}(hb:b≠B)(hc:c≠B)(u:Value)(o:Nat):zfp b c W (W.setCell ⟨B,o,none⟩ u):=
 ⟨Below.heap_setCell _ _ _ _ (by simpa using hb),Below.heap_setCell _ _ _ _ (by simpa using hc)⟩
theorem own_below{w w':World}{B e size n:Nat}{v:Value}{xs:List Value}(h:w.ownsRow B e size v n xs)(k:Below w.heap.size w w'):w'.ownsRow B e size v n xs:=
 World.ownsRow.kept (row:=none) h ⟨k.os,k.tape,k.output,k.size,fun i hi _=>k.block i hi⟩ (by cases v.ownBlock<;>simp)
theorem cell_two_new(w:World)(x y:Value)(t:TypeId):∀(j:Nat) u,[x,y][j]?=some u->(w.alloc (.cells #[x,y] t)).cell? ((⟨w.heap.size,0,none⟩:Addr).add j)=some u:=by
 intro j u hj
 match j,hj with
 |0,hj=>simp at hj;subst hj;simp[Addr.add]
 |1,hj=>simp at hj;subst hj;simp[Addr.add]
theorem zov{w:World}{B:Nat}{e size:Nat}{v:Value}{n:Nat}{xs:List Value}(h:w.ownsRow B e size v n xs):(v=.slice none 0 0/\n=0)\/∃g cap,v=.slice (some ⟨g,0,none⟩) n cap/\B<=g/\g<w.heap.size/\n<=cap:=by
 rcases h.2 with h0|⟨g,cap,cur,rfl,hb,hh,hc,_⟩
 ·exact .inl h0
 ·exact .inr ⟨g,cap,rfl,hb,(wan.1 hh).1,hc⟩
end Nun
namespace Go.Proofs.YtmpiobfdchlikaaGreatDoor
open Go Go.RowKit Nun
theorem zvi(s:ByteArray)(b:Bool)(h:s.data.toList.all zeb=b)(w:World)(hs:s.size<=maxLen):Calls Tryz.prog 122 #[.string s] w (Same (.bool b) w):=h▸yie s w hs
theorem z26(s:ByteArray)(b:Bool)(h:zji s.data.toList=b)(w:World)(hs:s.size<=maxLen):Calls Tryz.prog 123 #[.string s] w (Same (.bool b) w):=h▸yig s w hs
attribute [local go_sem] Oper.semAt_some
theorem yim(s:ByteArray)(w:World):Calls Tryz.prog 121 #[.string s] w fun e w'=>e=.returned (.func (.func 171) #[] #[.pointer (some ⟨w.heap.size,0,none⟩)])/\w'=w.alloc (.cells #[.string s] 9):=by
 go_enter Tryz.func121,Tryz.ntmps121
 go_wp2;go_ret;exact⟨rfl,rfl⟩
def splitV:Split->World->Ending->World->Prop
 | .form,w,e,w'=>e=.returned (.tuple #[.slice none 0 0,.int .i64 0,.int .i64 7])/\Below w.heap.size w w'
 | .long,w,e,w'=>e=.returned (.tuple #[.slice none 0 0,.int .i64 0,.int .i64 6])/\Below w.heap.size w w'
 | .ok l b,w,e,w'=>∃v,e=.returned (.tuple #[v,.int .i64 b,.int .i64 0])/\w'.ownsRow w.heap.size 80 2 v l.length (zan l)/\Below w.heap.size w w'
def Mid(n0:Nat)(w:World)(s:ByteArray)(pre:List zck)(W:World):Prop:=
 (((∃v,Boxed W n0 45 v/\W.ownsRow n0 80 2 v (stOf pre).1.length (zan (stOf pre).1)/\True)/\Boxed W (n0+1) 3 (.int .i64 0)/\Boxed W (n0+1+1) 26 (.int .i64 (if(stOf pre).2 then 6 else 0))/\Boxed W (n0+1+1+1) 9 (.string s))/\zu0 pre)/\Below n0 w W
def Out(n0:Nat)(w:World)(c:Code)(pre:List zck)(W:World):Prop:=
 (((Boxed W n0 45 (.slice none 0 0)/\Boxed W (n0+1) 3 (.int .i64 0)/\Boxed W (n0+1+1) 26 (.int .i64 7))/\(c=.ret/\∃pre0 x,pre=pre0++[x]/\zu0 pre0/\x.1.1.data.toList≠[]/\za0 (stOf pre0) x.1.1.data.toList=none))/\Below n0 w W)\/
 (((∃v,Boxed W n0 45 v/\W.ownsRow n0 80 2 v (stOf pre.dropLast).1.length (zan (stOf pre.dropLast).1)/\True)/\Boxed W (n0+1) 3 (.int .i64 ((pre.getLast?.map fun x=>x.1.2).getD 0:Nat))/\Boxed W (n0+1+1) 26 (.int .i64 (if(stOf pre.dropLast).2 then 6 else 0)))/\(c=.exit 0/\∃pre0 x,pre=pre0++[x]/\zu0 pre0/\x.1.1.data.toList=[]))/\Below n0 w W
theorem OwnFrom.or{β:Type}{B:Nat}{I J:β->World->Prop}(h:OwnFrom B I)(k:OwnFrom B J):OwnFrom B (fun s W=>I s W\/J s W):=fun s W W' row hs hg hr=>hs.elim (fun a=>.inl (h s W W' row a hg hr)) (fun a=>.inr (k s W W' row a hg hr))
theorem yvj(n0:Nat)(w:World)(s:ByteArray)(B:Nat)(hn:n0<=w.heap.size)(hB:n0<=B):OwnFrom B (Mid n0 w s):=
 OwnFrom.and (OwnFrom.and (OwnFrom.and (Own.from (holdsRow_own n0 n0 45 80 2 (fun pre:List zck=>(stOf pre).1.length) (fun pre=>zan (stOf pre).1) (fun _ _=>True)) _) (OwnFrom.and (Own.from (boxed_own _ _ _) _) (OwnFrom.and (Own.from (boxed_own _ _ _) _) (Own.from (boxed_own _ _ _) _)))) (ownFrom_pure _ _)) (ownFrom_below hn hB)
theorem yvk(n0:Nat)(w:World)(c:Code)(B:Nat)(hn:n0<=w.heap.size)(hB:n0<=B):OwnFrom B (Out n0 w c):=
 OwnFrom.or (OwnFrom.and (OwnFrom.and (OwnFrom.and (Own.from (boxed_own _ _ _) _) (OwnFrom.and (Own.from (boxed_own _ _ _) _) (Own.from (boxed_own _ _ _) _))) (ownFrom_pure _ _)) (ownFrom_below hn hB))
  (OwnFrom.and (OwnFrom.and (OwnFrom.and (Own.from (holdsRow_own n0 n0 45 80 2 (fun pre:List zck=>(stOf pre.dropLast).1.length) (fun pre=>zan (stOf pre.dropLast).1) (fun _ _=>True)) _) (OwnFrom.and (Own.from (boxed_own _ _ _) _) (Own.from (boxed_own _ _ _) _))) (ownFrom_pure _ _)) (ownFrom_below hn hB))
end Go.Proofs.YtmpiobfdchlikaaGreatDoor
end
namespace Nun
open Go Go.RowKit Go.Proofs Go.Proofs.YtmpiobfdchlikaaGreatDoor
theorem zhb:∀(L M:List Str),zaz (L++M)=zaz L++zaz M
 |[],M=>rfl
 |x::L,M=>by rw[wai,zaz,zaz,zhb L M,wa4,wa4,wa4]
theorem z0j(x:Str):zaz [x]=x++[13,10]:=by simp[zaz,crlf]
def zu1(q:List Str×Str)(x:Str):List Str×Str:=if longer x q.2.length then(q.1++[q.2],32::x)else(q.1,q.2++32::x)
theorem yoq(q:List Str×Str)(x:Str):stepW (zaz q.1++q.2,q.2.length) x=(zaz (zu1 q x).1++(zu1 q x).2,(zu1 q x).2.length):=by
 unfold stepW putT putL zu1;dsimp only;split
 ·rw[zhb,z0j]
  simp only[wa4,waf,wbx,Nat.add_comm]
 ·simp only[wa4,wb0,waf,Prod.mk.injEq,true_and]
  omega
theorem ya3:∀(ws:List Str)(q:List Str×Str),ws.foldl stepW (zaz q.1++q.2,q.2.length)=(zaz (ws.foldl zu1 q).1++(ws.foldl zu1 q).2,(ws.foldl zu1 q).2.length)
 |[],q=>rfl
 |x::ws,q=>by rw[waz,yoq,ya3 ws (zu1 q x),waz]
def ydd(enc:Str->Str)(f v:Str):List Str×Str:=(zd3 enc v).foldl zu1 ([],f++[58])
def z8l(enc:Str->Str)(f v:Str):List Str:=(ydd enc f v).1++[(ydd enc f v).2]
theorem zmb(enc:Str->Str)(f v:Str):zk5 enc f v=zaz (z8l enc f v):=by
 unfold zk5 z8l;have h:=ya3 (zd3 enc v) ([],f++[58]);simp only[zaz,wa5,wb0,waf,wdb,wbx]at h;rw[zhb,z0j,<-wa4,h];rfl
def shB(c:UInt8):Bool:=decide (32<=c.toNat)&&decide (c.toNat<=126)
theorem yin:∀c:UInt8,shB c=true->zeb c=true:=by decide+kernel
theorem y1b:∀c:UInt8,shB c=true->c≠13:=by decide+kernel
def okLn(x:Str):Prop:=x.length<=76/\x.all shB=true
theorem z0k{x:Str}(h:okLn x):x.all zeb=true:=by
 rw[wa9];intro c hc;exact yin c (wa9.1 h.2 c hc)
structure InvK (f:Str) (F:List Fld) (q:List Str × Str) (r:Str):Prop where
 one:∀ x∈q.1,okLn x∧x≠[]
 two:okLn q.2
 way:(q.1=[]∧q.2=f++58::r)∨∃ v y,zbn q.1 (F,false)=some (F++[(f,v)],false)∧q.2=32::y∧r=v++32::y
def spcW(ws:List Str):Str:=ws.flatMap (32::·)
theorem zlb(w:Str)(ws:List Str):spcW (w::ws)=32::(w++spcW ws):=by simp[spcW]
theorem yor:∀c:UInt8,zqk c=true->c≠58:=by decide+kernel
theorem z8m:∀c:UInt8,zqk c=true->za2 c=false:=by decide+kernel
theorem zqo:∀(f r:Str),f.all zqk=true->zdb 58 (f++58::r)=some f.length
 |[],r,_=>by simp[zdb]
 |c::f,r,h=>by
  rw[wcg,wb1]at h;rw[wai,zdb,if_neg (yor c h.1),zqo f r h.2];rfl
theorem zs8{f r:Str}{F:List Fld}(hf:zji f=true)(ho:okLn (f++58::r)):za0 (F,false) (f++58::r)=some (F++[(f,r)],false):=by
 have hf':=hf;unfold zji at hf;simp only[wb1]at hf;obtain⟨⟨hne,_⟩,ha⟩:=hf;have ht:(f++58::r).take f.length=f:=by simp
 have hd:(f++58::r).drop (f.length+1)=r:=by rw[List.drop_append];simp
 have hb:((f++58::r).head?.map za2).getD false=false:=by
  cases f with
  |nil=>simp at hne
  |cons c f=>rw[wcg,wb1]at ha;exact z8m c ha.1
 have h:=zs7 (st:=(F,false)) (z0k ho) hb (zqo f r ha) (by rw[ht];exact hf');rw[h,ht,hd];have:decide (998<(f++58::r).length)=false:=decide_eq_false (by have:=ho.1;omega);rw[this];rfl
theorem yio{f r v:Str}{F:List Fld}(ho:okLn (32::r)):za0 (F++[(f,v)],false) (32::r)=some (F++[(f,v++32::r)],false):=by
 have h:=zs6 (st:=(F++[(f,v)],false)) (F:=F) (q:=(f,v)) (z0k ho) rfl rfl;rw[h];have:decide (998<(32::r).length)=false:=decide_eq_false (by have:=ho.1;omega);rw[this];rfl
theorem InvK.done{f r:Str}{F:List Fld}{q:List Str×Str}(hf:zji f=true)(h:InvK f F q r):zbn (q.1++[q.2]) (F,false)=some (F++[(f,r)],false):=by
 have ho:=h.two;rw[zql];rcases h.way with⟨h1,h2⟩|⟨v,y,h1,h2,rfl⟩
 ·rw[h2]at ho
  rw[h1,h2];exact zs8 hf ho
 ·rw[h2]at ho
  rw[h2,h1];exact yio ho
theorem InvK.step{f r:Str}{F:List Fld}{q:List Str×Str}(hf:zji f=true)(h:InvK f F q r){x:Str}(hl:x.length<=75)(hx:x.all shB=true):InvK f F (zu1 q x) (r++32::x):=by
 have hd:=h.done hf;have hc:(32::x:Str).all shB=true:=by rw[wcg,hx];rfl
 have hne:q.2≠[]:=by
  rcases h.way with⟨_,h2⟩|⟨_,_,_,h2,_⟩
  ·rw[h2];simp
  ·rw[h2];simp
 unfold zu1 longer;by_cases hlo:76<=x.length+q.2.length
 ·rw[if_pos (decide_eq_true hlo)]
  refine⟨fun y hy=>?_,⟨by simp only[waf];omega,hc⟩,.inr ⟨r,x,hd,rfl,rfl⟩⟩;rcases wak.1 hy with hy|hy
  ·exact h.one y hy
  ·rw[wbn.1 hy];exact⟨h.two,hne⟩
 ·rw[if_neg (by simpa using hlo)]
  refine⟨h.one,⟨by simp only[wb0,waf];omega,by rw[wef,h.two.2,hc];rfl⟩,?_⟩;rcases h.way with⟨h1,h2⟩|⟨v,y,h1,h2,rfl⟩
  ·exact .inl ⟨h1,by dsimp only;rw[h2];simp⟩
  ·exact .inr ⟨v,y++32::x,h1,by dsimp only;rw[h2];simp,by simp⟩
theorem InvK.fold{f:Str}{F:List Fld}(hf:zji f=true):∀(ws:List Str)(q:List Str×Str)(r:Str),InvK f F q r->(∀x∈ws,x.length<=75/\x.all shB=true)->InvK f F (ws.foldl zu1 q) (r++spcW ws)
 |[],q,r,h,_=>by
  have e:r++spcW []=r:=by simp[spcW]
  rw[e];exact h
 |x::ws,q,r,h,hw=>by
  have e:r++spcW (x::ws)=(r++32::x)++spcW ws:=by rw[zlb];simp
  rw[waz,e];exact InvK.fold hf ws _ _ (h.step hf (hw x (by simp)).1 (hw x (by simp)).2) fun y hy=>hw y (by simp[hy])
theorem z27{enc:Str->Str}{f v:Str}(F:List Fld)(hf:zji f=true)(hs:f.all shB=true)(hw:∀x∈zd3 enc v,x.length<=75/\x.all shB=true):
 (∀x∈z8l enc f v,okLn x/\x≠[])/\zbn (z8l enc f v) (F,false)=some (F++[(f,spcW (zd3 enc v))],false):=by
 have hl:f.length<=32:=by
  have h:=hf;unfold zji at h;simp only[wb1,decide_eq_true_eq]at h;exact h.1.2
 have h0:InvK f F ([],f++[58]) []:=⟨by simp,⟨by simp only[wb0,waf,wdb];omega,by rw[wef,hs];rfl⟩,.inl ⟨rfl,rfl⟩⟩;have h:=InvK.fold hf (zd3 enc v) _ _ h0 hw;refine⟨fun x hx=>?_,h.done hf⟩;rcases wak.1 hx with hx|hx
 ·exact h.one x hx
 ·rw[wbn.1 hx]
  refine⟨h.two,?_⟩;rcases h.way with⟨_,h2⟩|⟨_,_,_,h2,_⟩
  ·show(ydd enc f v).2≠[];unfold ydd;rw[h2];simp
  ·show(ydd enc f v).2≠[];unfold ydd;rw[h2];simp
end Nun
section
namespace Nun
open Go Go.Sort Go.RowKit
section
variable {P:Program} {ops:Array Oper} {md:Region.Mode} {C:World→Prop}
def yip(P:Program)(md:Region.Mode)(ops:Array Oper)(C:World->Prop)(n:Nat)(L:Array Bool->Act->Prop):Nat->Array Bool->Act->Prop
 |0,listed,a=>L listed a
 |f+1,listed,a=>
  Region.ready md ops listed≠[]/\∀i∈Region.ready md ops listed,i<n/\qOp P ops C i (yip P md ops C n L f (listed.setIfInBounds i true)) a
theorem zue{n g:Nat}{L:Array Bool->Act->Prop}{Q':Exit->Act->World->Prop}(hL:∀listed a w,C w->L listed a->wpAny P md ops Q' g listed a w):
 ∀(f:Nat)(listed:Array Bool)(a:Act)(w:World),C w->yip P md ops C n L f listed a->wpAny P md ops Q' (f+g) listed a w
 |0,listed,a,w,hw,h=>by rw[wbx];exact hL _ _ _ hw h
 |f+1,listed,a,w,hw,h=>by
  rw[show f+1+g=(f+g)+1 by omega];exact⟨fun h0=>absurd h0 h.1,fun i hi=>wpOp_of_qOp hw (fun a' w' hw' h'=>zue hL f _ a' w' hw' h') (h.2 i hi).2⟩
theorem z8n{n i:Nat}{oi:Oper}{v:Value}{L:Array Bool->Act->Prop}(hi:ops[i]?=some oi)(hsel:∀(j:Nat)(o:Oper) cs b,ops[j]?=some o->o.op≠.select cs b)
 (hs:Region.sinkB md ops n=true) (hc:Region.chainB md ops n=true) (hn:n<ops.size) (hin:i<n)
 (hdone:∀listed a,L listed a->∀j∈Region.ready md ops listed,n<=j):
 ∀(f:Nat)(listed:Array Bool)(a:Act),HeadInv md ops n listed->
  (∀j oj,ops[j]?=some oj->j≠i->listed.getD j true=false->(∀e∈oj.after,Region.binds md e=true->e.on≠i)->oi.apart ops oj=true)->
  i∈Region.ready md ops listed->YieldsIn P ops C oi v a->
  yip P md ops C n L f (listed.setIfInBounds i true) (a.put oi.dst v)->yip P md ops C n L (f+1) listed a:=by
 intro f
 induction f with
 |zero=>
  intro listed a inv _ hr hy H;have hun:=(mem_ready.1 hr).1;refine⟨fun h=>(by rw[h]at hr;cases hr),fun j hj=>?_⟩;have hjn:j<n:=by
   rcases wcn j n with h|h
   ·exact h
   ·exact absurd hj (tail_waits hs hc hn inv _ i rfl hin hun j h)
  refine⟨hjn,?_⟩;by_cases hji:j=i
  ·subst hji;exact hy.qOp hi H
  ·have:=hdone _ _ H j (ready_mono hj hji)
   omega
 |succ f ih=>
  intro listed a inv hfree hr hy H;have hun:=(mem_ready.1 hr).1;refine⟨fun h=>(by rw[h]at hr;cases hr),fun j hj=>?_⟩;have hjn:j<n:=by
   rcases wcn j n with h|h
   ·exact h
   ·exact absurd hj (tail_waits hs hc hn inv _ i rfl hin hun j h)
  refine⟨hjn,?_⟩;by_cases hji:j=i
  ·subst hji;exact hy.qOp hi H
  ·have h1:=(H.2 j (ready_mono hj hji)).2
   obtain⟨hjun,oj,hoj,hall⟩:=mem_ready.1 hj;have hnot:∀e∈oj.after,Region.binds md e=true->e.on≠i:=fun e he hb heq=>by
    have h1:=hall e he hb;rw[heq,getD_both hun]at h1;cases h1
   have h2:=qOp_put hoj (hfree j oj hoj hji hjun hnot) (fun cs b=>hsel i oi cs b hi) (fun cs b=>hsel j oj cs b hoj) hy h1
   have hfree':∀k ok,ops[k]?=some ok->k≠i->(listed.setIfInBounds j true).getD k true=false->
    (∀e∈ok.after,Region.binds md e=true->e.on≠i)->oi.apart ops ok=true:=fun k ok hk hki hun hno=>by
    refine hfree k ok hk hki ?_ hno;by_cases hjk:j=k
    ·subst hjk;exact hjun
    ·rw[getD_set_ne true hjk]at hun;exact hun
   refine qOp_mono (fun a' h3=>ih (listed.setIfInBounds j true) a' (inv.set hj hjn) hfree' (ready_mono hr (was hji)) h3.1 ?_) h2;rw[Array.setIfInBounds_comm _ _ hji];exact h3.2
theorem z6c{n g:Nat}{Lq:Act->Prop}(hsel:Region.noSelect ops=true)(hs:Region.sinkB md ops n=true)(hc:Region.chainB md ops n=true)(hn:n<ops.size):
 ∀(l:List Oper)(k:Nat)(listed:Array Bool)(a:Act),(∀j,j<l.length->l[j]?=ops[k+j]?)->k+l.length=n->HeadInv md ops n listed->
 Region.lexHead md ops g l.length k listed=true->wpQuiet P ops C Lq l a->
 yip P md ops C n (fun listed' a'=>Region.seqB md ops g n listed'=true/\Lq a') l.length listed a
 |[],k,listed,a,_,hk,_,hB,h=>by
  have:k=n:=by simpa using hk
  subst this;exact⟨by simpa[Region.lexHead]using hB,h⟩
 |o::l,k,listed,a,hl,hk,inv,hB,h=>by
  have h0:ops[k]?=some o:=by simpa using(hl 0 (by simp)).symm
  simp only[waf,Region.lexHead,wb1]at hB;obtain⟨⟨hr,hf⟩,hB'⟩:=hB;have hkn:k<n:=by simp only[waf]at hk;omega
  have hr':k∈Region.ready md ops listed:=by simpa using hr
  have hst:qOp P ops C k (wpQuiet P ops C Lq l) a:=by unfold qOp;simp only[h0];exact h
  obtain⟨v,hy,hK⟩:=yieldsIn_of_qOp h0 hst
  exact z8n h0 (Region.noSelect_spec hsel) hs hc hn hkn (fun listed' a' hL=>seqB_ready hL.1) l.length listed a inv (Region.free_spec h0 hf) hr' hy
   (z6c hsel hs hc hn l (k+1) _ _ (fun j hj=>by have:=hl (j+1) (by simp;omega);simpa[wam,Nat.add_comm 1 j]using this) (by simp only[waf]at hk;omega) (inv.set hr' hkn) hB' hK)
theorem zs9{id:Nat}{Q:Exit->Act->World->Prop}{a:Act}{w:World}{l:List Oper}(n:Nat)(hm:P.follows .mixedOrders=true)(hB:Region.lexTailB .any l.toArray n=true)
 (hC:C {w with drawn:=w.drawn+1})
 (h:wpQuiet P l.toArray C (fun a'=>∀w',C w'->wpList P l.toArray Q (l.drop n) a' w') (l.take n) a):(Code.region id l.toArray true).wp P Q a w:=by
 simp only[Region.lexTailB,wb1,decide_eq_true_eq]at hB;obtain⟨⟨⟨⟨hsel,hn⟩,hs⟩,hc⟩,hlex⟩:=hB;have hn':n<l.length:=by simpa using hn
 have htl:(l.take n).length=n:=by simp;omega
 have hdl:(l.drop n).length=l.toArray.size - n:=by simp
 have inv0:HeadInv .any l.toArray n (Array.replicate l.toArray.size false):=
  ⟨by simp,fun j oj _ hl=>(by rw[getD_replicate_false]at hl;cases hl),fun t _ ht=>getD_in (by simpa using ht) (getD_replicate_false _ _)⟩
 have H:=z6c (md:=.any) (g:=l.toArray.size - n) hsel hs hc hn (l.take n) 0 _ a (fun j hj=>by
  have hj':j<n:=by rw[htl]at hj;exact hj
  simp[hj']) (by simpa using htl) inv0 (by rw[htl];exact hlex) h
 refine wp_region_any hm ?_;have:=zue (Q':=Q) (g:=l.toArray.size - n) (fun listed a' w' hw' hL=>by
  have:=wpAny_of_seq (md:=.any) (Q':=Q) (l.drop n) n listed a' w' (fun j=>by simp[wal]) (by rw[hdl];exact hL.1) (hL.2 w' hw');rwa[hdl]at this) _ _ _ _ hC H
 rw[htl,show n+(l.toArray.size - n)=l.toArray.size by omega]at this;exact this
theorem zgr{id:Nat}{Q:Exit->Act->World->Prop}{a:Act}{w:World}{l:List Oper}(n:Nat)(hm:P.follows .mixedOrders=true)(hB:Region.lexTailB .any l.toArray n=true)
 (h:wpQuiet P l.toArray (fun w'=>∃p:Regrown,w'=grow (redrawn w p.d) p.os) (fun a'=>∀w',Below w.heap.size w w'->wpList P l.toArray Q (l.drop n) a' w') (l.take n) a):(Code.region id l.toArray true).wp P Q a w:=
 zs9 (C:=fun w'=>∃p:Regrown,w'=grow (redrawn w p.d) p.os) n hm hB ⟨⟨w.drawn+1,#[]⟩,by rw[grow_empty];rfl⟩ (by
  have mono:∀(l':List Oper)(a:Act),wpQuiet P l.toArray (fun w'=>∃p:Regrown,w'=grow (redrawn w p.d) p.os) (fun a'=>∀w',Below w.heap.size w w'->wpList P l.toArray Q (l.drop n) a' w') l' a->
   wpQuiet P l.toArray (fun w'=>∃p:Regrown,w'=grow (redrawn w p.d) p.os) (fun a'=>∀w',(∃p:Regrown,w'=grow (redrawn w p.d) p.os)->wpList P l.toArray Q (l.drop n) a' w') l' a:=by
   intro l'
   induction l' with
   |nil=>intro a h w' ⟨p,hp⟩;exact h w' (hp▸below_regrown w p.d p.os)
   |cons o l' ih=>
    intro a h;unfold wpQuiet at h⊢;split
    ·rename_i hw;rw[if_pos hw]at h;exact Oper.quiet_mono (fun a' h'=>ih a' h') h
    ·rename_i hw;rw[if_neg hw]at h;exact ih _ h
  exact mono _ _ h)
end
end Nun
end
namespace Go.Proofs.YtmpiobfdchlikaaGreatDoor
open Go.RowKit Nun
theorem vE(s:ByteArray):zqg s.data.toList=(s.toList==[98,114]||(s.toList==[104,114]||s.toList==[105,109,103])):=by
 rw[zm4];unfold zqg;have:∀l:List UInt8,decide (s.data.toList=l)=(s.data.toList==l):=fun l=>by rw[wdm,decide_eq_true_eq,beq_iff_eq]
 rw[this,this,this]
theorem zn5(s:ByteArray)(b:Bool)(h:zqg s.data.toList=b)(w:World):Calls Tryz.prog 109 #[.string s] w fun e w'=>e=.returned (.bool b)/\w'=w:=by
 subst h;rw[vE]
 go_enter Tryz.func109,Tryz.ntmps109
 go_wp2
 all_goals (go_ret;refine⟨?_,rfl⟩;simp[*,Bool.or_assoc])
def TokC(w:World)(g o:Nat)(t:Tok):Prop:=∃a3 n3 c3,w.cell? ⟨g,o,none⟩=some (.int .u8 t.kind.toNat)/\w.cell? ⟨g,o+1,none⟩=some (.string (S t.name))/\w.cell? ⟨g,o+2,none⟩=some (.string (S t.text))/\w.cell? ⟨g,o+3,none⟩=some (.slice a3 n3 c3)/\w.cell? ⟨g,o+4,none⟩=some (.int .i64 (t.fr:Nat))/\w.cell? ⟨g,o+5,none⟩=some (.int .i64 (t.to:Nat))
def yql(w:World)(a:Option Addr)(L:List Tok):Prop:=L=[]\/∃g o,a=some ⟨g,o,none⟩/\g<w.heap.size/\∀k t,L[k]?=some t->TokC w g (o+k* 6) t
def z28(l:List Str):List Value:=l.map fun x=>.string (S x)
theorem zn6:(Tryz.prog.info? 9).map (fun i=>(i.zero,i.size,i.bytes))=some (some (.string ⟨#[]⟩),1,16):=by kernel_rfl
def zxx(L:List Tok)(q:List Str×Nat):Option (List Str):=runS (zs3 L) none (L.length - q.2+1) q
theorem z8o{L:List Tok}{op op':List Str}{k:Nat}{t:Tok}(hc:L[k]?=some t)(h:zry t op=some op'):zxx L (op,k)=zxx L (op',k+1):=by
 have hk:=(qg hc).1;have e:L.length - k+1=(L.length - (k+1)+1)+1:=by omega
 unfold zxx;dsimp only;rw[e,zep (show zs3 L (op,k)=.inl (op',k+1) by unfold zs3;dsimp only;rw[hc];dsimp only;rw[h])]
theorem ya4{L:List Tok}{op:List Str}{k:Nat}{t:Tok}(hc:L[k]?=some t)(h:zry t op=none):zxx L (op,k)=none:=by
 unfold zxx;dsimp only;rw[zca (show zs3 L (op,k)=.inr none by unfold zs3;dsimp only;rw[hc];dsimp only;rw[h])]
theorem y1c{L:List Tok}{op:List Str}:zxx L (op,L.length)=some op:=by
 have hn:L[L.length]?=none:=wb8 (wab _);unfold zxx;dsimp only;rw[zca (show zs3 L (op,L.length)=.inr (some op) by unfold zs3;dsimp only;rw[hn])]
theorem z8p{w:World}{base:Nat}{e:TypeId}{g cap n:Nat}{op:List Str}(hn:op.length=n+1)(h:w.ownsRow base e 1 (.slice (some ⟨g,0,none⟩) (n+1) cap) (n+1) (z28 op)):w.ownsRow base e 1 (.slice (some ⟨g,0,none⟩) n cap) n (z28 (op.take n)):=by
 obtain⟨h1,h2⟩:=h;rcases h2 with⟨h0,_⟩|⟨g',cap',cur,hv,hg,hh,hnn,hcap,hsz,htake⟩
 ·cases h0
 ·cases hv
  refine⟨by simp only[z28,wbt,wa2];omega,.inr ⟨g,cap,cur,rfl,hg,hh,by omega,hcap,hsz,?_⟩⟩;have h3:(cur.toList.take ((n+1)* 1)).take (n* 1)=(z28 op).take (n* 1):=by rw[htake]
  rw[List.take_take,Nat.min_eq_left (by omega)]at h3;rw[h3];simp only[z28,List.map_take,Nat.mul_one]
theorem ownsRow_below{w w':World}{base:Nat}{e:TypeId}{size:Nat}{v:Value}{n:Nat}{xs:List Value}(h:w.ownsRow base e size v n xs)(k:Below w.heap.size w w'):w'.ownsRow base e size v n xs:=
 World.ownsRow.kept (row:=none) h ⟨k.os,k.tape,k.output,k.size,fun i hi _=>k.block i hi⟩ (by cases v.ownBlock<;>simp)
theorem z8q{t:Tok}{op:List Str}(h:t.kind.toNat=111)(hv:zqg t.name=false):zry t op=if 32<op.length+1 then none else some (op++[t.name]):=by unfold zry;rw[if_pos ⟨h,hv⟩]
theorem z29{t:Tok}{op:List Str}(h:t.kind.toNat=99):zry t op=if op.getLast?=some t.name then some op.dropLast else none:=by unfold zry;rw[if_neg (fun k=>by have:=k.1;omega),if_pos h]
theorem z3a{t:Tok}{op:List Str}(h:¬(t.kind.toNat=111/\zqg t.name=false))(h2:¬t.kind.toNat=99):zry t op=some op:=by unfold zry;rw[if_neg h,if_neg h2]
set_option maxRecDepth 100000 in
theorem yde(L:List Tok)(a:Option Addr)(cap:Nat)(w:World)(hr:yql w a L)(hL:L.length<=1000000000)(b:Bool)(hb:z2p L=b):Calls Tryz.prog 57 #[.slice a L.length cap] w fun e w'=>e=.returned (.bool b)/\Below w.heap.size w w':=by
 have hb':decide (zxx L ([],0)=some [])=b:=hb;have HR:=Lib.hid hr;have HB:=Lib.hid hb';clear hr hb hb'
 go_enter Tryz.func57,Tryz.ntmps57
 go_wp2
 go_loopw [3,9] (fun v i wr=>∃(k:Nat)(op:List Str),i=.int .i64 k/\k<=L.length/\op.length<=32/\wr.ownsRow w.heap.size 9 1 v op.length (z28 op)/\Below w.heap.size w wr/\Hid (zxx L ([],0)=zxx L (op,k)))
  (fun _ i _=>L.length - (intOf i).toNat)
 case atStart=>exact⟨0,[],rfl,wa7 _,by simp,wec _ _ _ _,Below.refl _ _,Lib.hid rfl⟩
 case round=>
  obtain⟨k,op,rfl,hk,h32,hown,hbel,hst⟩:=hrel;by_cases hlt:k<L.length
  ·obtain⟨g,o,rfl,hg,hrow⟩:=HR.out.resolve_left (by intro h;rw[h]at hlt;simp at hlt)
   have hc:L[k]?=some L[k]:=qe hlt;obtain⟨t,ht⟩:∃t,L[k]=t:=⟨_,rfl⟩;rw[ht]at hc;obtain⟨a3,n3,cp3,c0,c1,c2,c3,c4,c5⟩:=hrow k t hc;have q0:=(hbel.cell (p:=⟨g,o+k* 6,none⟩) hg).trans c0;have q1:=(hbel.cell (p:=⟨g,o+k* 6+1,none⟩) hg).trans c1;have q2:=(hbel.cell (p:=⟨g,o+k* 6+2,none⟩) hg).trans c2;have q3:=(hbel.cell (p:=⟨g,o+k* 6+3,none⟩) hg).trans c3;have q4:=(hbel.cell (p:=⟨g,o+k* 6+4,none⟩) hg).trans c4;have q5:=(hbel.cell (p:=⟨g,o+k* 6+5,none⟩) hg).trans c5;have hgwr:g<wr.heap.size:=wad hg hbel.size;have hwi:w.heap.size<=wr.heap.size:=hbel.size;have HC:=Lib.hid hc;have HRW:=Lib.hid hrow;clear c0 c1 c2 c3 c4 c5 hrow hc ht;have c6:Tryz.prog.cellsOf 163=6:=by kernel_rfl
   obtain⟨n,hn⟩:∃n,t.kind.toNat=n:=⟨_,rfl⟩;rw[hn]at q0;have HN:=Lib.hid hn;clear hn;have HOW:=Lib.hid hown;obtain⟨vo,hvo⟩:∃vo,zqg t.name=vo:=⟨_,rfl⟩;have HV:=Lib.hid hvo;clear hvo;rcases hown.2 with⟨rfl,hn0⟩|⟨gs,caps,cur,rfl,hgs,hcur,hnc,hcm,hcsz,htk⟩
   ·have hop:op=[]:=qz hn0
    subst hop;clear hown;by_cases h1:n=111
    ·subst h1
     cases vo with
     |true=>
      go_wp2_with(go_at_call 109;refine(zn5 _ _ HV.out _).mono ?_;rintro e w2 ⟨rfl,rfl⟩)
      all_goals
       go_roundw
       case rel=>exact⟨k+1,[],by go_num,hlt,by simp,HOW.out.alloc _,hbel.alloc hwi _,Lib.hid (hst.out.trans (z8o HC.out (z3a (by rw[HV.out];simp) (by rw[HN.out];decide))))⟩
       case measure=>simp[intOf];omega
     |false=>
      go_wp2_with(first|(go_at_call 109;refine(zn5 _ _ HV.out _).mono ?_;rintro e w2 ⟨rfl,rfl⟩)|(at_builtin;refine yhz (by rfl) _ _ _ (by rfl) 9 _ 1 16 Tryz.underlying39 zn6 (by rfl) (by omega) w.heap.size _ _ _ _ (by rfl) (HOW.out.alloc _) [.string (S t.name)] (by rfl) (by simp[Value.oneCell']) (by show Value.slice (some ⟨wr.heap.size+1,0,none⟩) 1 1=_;simp) (by simp) (by simp) (by simp;omega) ?_;intro gg cap8 w8 hgg hown8 hgr8 hb8 hsz8;have HO8:=Lib.hid hown8;have HB8:=Lib.hid hb8;clear hown8 hb8 hgr8))
      all_goals
       refine⟨⟨k+1,[t.name],by go_num,hlt,by simp,HO8.out,(hbel.alloc hwi _).trans (HB8.out.mono (by first|(simp;done)|(simp;omega))),?_⟩,by first|(simp[intOf];done)|(simp[intOf];omega)⟩;exact Lib.hid (hst.out.trans (z8o HC.out (by rw[z8q HN.out HV.out];rfl)))
    ·by_cases h9:n=99
     ·subst h9
      have HF:=Lib.hid (show false=b by rw[<-HB.out,hst.out,ya4 HC.out (by rw[z29 HN.out];rfl)];rfl);go_wp2
      (refine wp_region_quiet_below (by kernel_rfl) (by kernel_rfl) ?_;(repeat (first|go_big_quiet_skip|(go_big_quiet_want;go_big_quiet_op;first|go_big_quiet_on|(apply Exists.intro;refine⟨fun _=>?_,?_⟩;(·(fail));go_big_quiet_on))));refine wpQuiet_nil ?_;intro _ hw';obtain⟨⟨dq,osq⟩,hw''⟩:=hw';subst hw'')
      go_wp2
      all_goals (go_ret;exact⟨congrArg (fun x=>Ending.returned (Value.bool x)) HF.out,(hbel.alloc hwi _).trans ((below_regrown _ _ _).mono (by simp;omega))⟩)
     ·have e1:((n:Int)==111)=false:=by simp;omega
      have e9:((n:Int)==99)=false:=by simp;omega
      go_wp2
      all_goals
       first
        |exact⟨⟨k+1,[],by go_num,hlt,by simp,HOW.out.alloc _,hbel.alloc hwi _,Lib.hid (hst.out.trans (z8o HC.out (z3a (fun h=>h1 (HN.out.symm.trans h.1)) (fun h=>h9 (HN.out.symm.trans h)))))⟩,by first|(simp[intOf];done)|(simp[intOf];omega)⟩
        |skip
   ·have hfz:op.length=0\/∃m x,op.length=m+1/\op[m]?=some x/\op.getLast?=some x/\op.dropLast=op.take m:=by
     cases ho:op.length with
     |zero=>exact .inl rfl
     |succ m=>obtain⟨x,h1,h2,h3,_⟩:=yhq ho;exact .inr ⟨m,x,rfl,h1,h2,h3⟩
    have HFZ:=Lib.hid hfz;clear hown hfz;by_cases h1:n=111
    ·subst h1
     cases vo with
     |true=>
      go_wp2_with(go_at_call 109;refine(zn5 _ _ HV.out _).mono ?_;rintro e w2 ⟨rfl,rfl⟩)
      all_goals
       go_roundw
       case rel=>exact⟨k+1,op,by go_num,hlt,h32,HOW.out.alloc _,hbel.alloc hwi _,Lib.hid (hst.out.trans (z8o HC.out (z3a (by rw[HV.out];simp) (by rw[HN.out];decide))))⟩
       case measure=>simp[intOf];omega
     |false=>
      by_cases h33:op.length+1<=32
      ·have hgt:¬(32:Int)<(op.length:Int)+1:=by omega
       go_wp2_with(first|(go_at_call 109;refine(zn5 _ _ HV.out _).mono ?_;rintro e w2 ⟨rfl,rfl⟩)|(at_builtin;refine yhz (by rfl) _ _ _ (by rfl) 9 _ 1 16 Tryz.underlying39 zn6 (by rfl) (by omega) w.heap.size _ _ _ _ (by rfl) (HOW.out.alloc _) [.string (S t.name)] (by rfl) (by simp[Value.oneCell']) (by show Value.slice (some ⟨wr.heap.size+1,0,none⟩) 1 1=_;simp) (by omega) (by omega) (by simp;omega) ?_;intro gg cap8 w8 hgg hown8 hgr8 hb8 hsz8;have HO8:=Lib.hid hown8;have HB8:=Lib.hid hb8;clear hown8 hb8 hgr8))
       all_goals
        refine⟨⟨k+1,op++[t.name],by go_num,hlt,by simp;omega,?_,(hbel.alloc hwi _).trans (HB8.out.mono (by first|(simp;done)|(simp;omega))),?_⟩,by first|(simp[intOf];done)|(simp[intOf];omega)⟩
        ·have:=HO8.out
         simpa[z28]using this
        ·exact Lib.hid (hst.out.trans (z8o HC.out (by rw[z8q HN.out HV.out,if_neg (by omega)])))
      ·have hgt:(32:Int)<(op.length:Int)+1:=by omega
       have HF:=Lib.hid (show false=b by rw[<-HB.out,hst.out,ya4 HC.out (by rw[z8q HN.out HV.out,if_pos (by omega)])];rfl)
       go_wp2_with(first|(go_at_call 109;refine(zn5 _ _ HV.out _).mono ?_;rintro e w2 ⟨rfl,rfl⟩)|(at_builtin;refine yhz (by rfl) _ _ _ (by rfl) 9 _ 1 16 Tryz.underlying39 zn6 (by rfl) (by omega) w.heap.size _ _ _ _ (by rfl) (HOW.out.alloc _) [.string (S t.name)] (by rfl) (by simp[Value.oneCell']) (by show Value.slice (some ⟨wr.heap.size+1,0,none⟩) 1 1=_;simp) (by omega) (by omega) (by simp;omega) ?_;intro gg cap8 w8 hgg hown8 hgr8 hb8 hsz8;have HO8:=Lib.hid hown8;have HB8:=Lib.hid hb8;clear hown8 hb8 hgr8))
       all_goals (go_ret;exact⟨congrArg (fun x=>Ending.returned (Value.bool x)) HF.out,(hbel.alloc hwi _).trans (HB8.out.mono (by first|(simp;done)|(simp;omega)))⟩)
    ·by_cases h9:n=99
     ·subst h9
      rcases HFZ.out with hz|⟨m,x,hm,hx1,hx2,hx3⟩
      ·have hop:op=[]:=qz hz
       subst hop;have HF:=Lib.hid (show false=b by rw[<-HB.out,hst.out,ya4 HC.out (by rw[z29 HN.out];rfl)];rfl);simp only[wdb];go_wp2
       (refine wp_region_quiet_below (by kernel_rfl) (by kernel_rfl) ?_;(repeat (first|go_big_quiet_skip|(go_big_quiet_want;go_big_quiet_op;first|go_big_quiet_on|(apply Exists.intro;refine⟨fun _=>?_,?_⟩;(·(fail));go_big_quiet_on))));refine wpQuiet_nil ?_;intro _ hw';obtain⟨⟨dq,osq⟩,hw''⟩:=hw';subst hw'')
       go_wp2
       all_goals (go_ret;exact⟨congrArg (fun x=>Ending.returned (Value.bool x)) HF.out,(hbel.alloc hwi _).trans ((below_regrown _ _ _).mono (by simp;omega))⟩)
      ·have hown':wr.ownsRow w.heap.size 9 1 (.slice (some ⟨gs,0,none⟩) (m+1) caps) (m+1) (z28 op):=hm▸HOW.out
       have HOW2:=Lib.hid hown';have hcx:wr.cell? ⟨gs,m,none⟩=some (.string (S x)):=(hown'.cellAt m (by omega)).trans (by simp only[z28,wbu,hx1,wau]);have hgsl:gs<wr.heap.size:=(wan.1 hcur).1;have hm32:m<=31:=by omega
       have hwr:IntKind.i64.wrap (m:Int)=(m:Int):=by rw[IntKind.wrap_i64];omega
       have hix1:(m:Int)<(m:Int)+1:=by omega
       have hix2:(m:Int)<((m+1:Nat):Int):=by omega
       have hix3:m<m+1:=by omega
       have hix0:(0:Int)<=(m:Int):=by omega
       have c1:Tryz.prog.cellsOf 9=1:=by kernel_rfl
       have hn0:¬((m:Int)<0):=by omega
       have hd0:decide ((m:Int)<0)=false:=by simp
       have hcx5:=fun o=>(((Below.refl wr.heap.size wr).alloc (wab _) o).cell (p:=⟨gs,m,none⟩) hgsl).trans hcx
       have hcx6:=fun o d os=>cell_regrown (hcx5 o) d os
       have hty:(wr.alloc (.cells #[.int .u8 99,.string (S t.name),.string (S t.text),.slice a3 n3 cp3,.int .i64 (t.fr:Nat),.int .i64 (t.to:Nat)] 163)).cell? ⟨wr.heap.size,1,none⟩=some (.string (S t.name)):=by simp
       have hty2:=fun d os=>cell_regrown hty d os
       have HX2:=Lib.hid hx2;have HX3:=Lib.hid hx3;have HM:=Lib.hid hm;rw[hm];rw[hm]at hnc;clear hown' hx1 hx2 hx3 hcur htk;by_cases hx:x=t.name
       ·have hcp:zry t op=some (op.take m):=by rw[z29 HN.out,HX2.out,hx,if_pos rfl,HX3.out]
        have HCP:=Lib.hid hcp;clear hcp;subst hx;clear hm;go_wp2
        (refine wp_region_quiet_below (by kernel_rfl) (by kernel_rfl) ?_;(repeat (first|go_big_quiet_skip|(go_big_quiet_want;go_big_quiet_op;first|go_big_quiet_on|(apply Exists.intro;refine⟨fun _=>?_,?_⟩;(·(fail));go_big_quiet_on))));refine wpQuiet_nil ?_;intro _ hw';obtain⟨⟨dq,osq⟩,hw''⟩:=hw';subst hw'')
        go_wp2
        all_goals
         refine⟨⟨k+1,op.take m,by go_num,hlt,by rw[wa2];omega,?_,(hbel.alloc hwi _).trans ((below_regrown _ _ _).mono (by simp;omega)),Lib.hid (hst.out.trans (z8o HC.out HCP.out))⟩,by first|(simp[intOf];done)|(simp[intOf];omega)⟩;have hl:(op.take m).length=m:=by rw[wa2,HM.out];omega
         rw[hl];exact ownsRow_below ((z8p HM.out HOW2.out).alloc _) (below_regrown _ _ _)
       ·have hcp:zry t op=none:=by rw[z29 HN.out,HX2.out,if_neg (fun h=>hx (by simpa using h))]
        have HF:=Lib.hid (show false=b by rw[<-HB.out,hst.out,ya4 HC.out hcp];rfl);clear hcp hm;have hne:((S x).toList==(S t.name).toList)=false:=by
         rw[zm4,zm4];exact beq_false_of_ne hx
        go_wp2
        (refine wp_region_quiet_below (by kernel_rfl) (by kernel_rfl) ?_;(repeat (first|go_big_quiet_skip|(go_big_quiet_want;go_big_quiet_op;first|go_big_quiet_on|(apply Exists.intro;refine⟨fun _=>?_,?_⟩;(·(fail));go_big_quiet_on))));refine wpQuiet_nil ?_;intro _ hw';obtain⟨⟨dq,osq⟩,hw''⟩:=hw';subst hw'')
        go_wp2
        all_goals (go_ret;exact⟨congrArg (fun x=>Ending.returned (Value.bool x)) HF.out,(hbel.alloc hwi _).trans ((below_regrown _ _ _).mono (by simp;omega))⟩)
     ·have e1:((n:Int)==111)=false:=by simp;omega
      have e9:((n:Int)==99)=false:=by simp;omega
      go_wp2
      all_goals
       exact⟨⟨k+1,op,by go_num,hlt,h32,HOW.out.alloc _,hbel.alloc hwi _,Lib.hid (hst.out.trans (z8o HC.out (z3a (fun h=>h1 (HN.out.symm.trans h.1)) (fun h=>h9 (HN.out.symm.trans h)))))⟩,by first|(simp[intOf];done)|(simp[intOf];omega)⟩
  ·obtain rfl:k=L.length:=by omega
   have hfin:zxx L ([],0)=some op:=by rw[hst.out,y1c]
   have hbv:b=decide (op=[]):=by rw[<-HB.out,hfin];simp
   rcases hown.2 with⟨rfl,hn0⟩|⟨gs,caps,cur,rfl,hgs,hcur,hnc,hcm,hcsz,htk⟩
   ·have hop:op=[]:=qz hn0
    subst hop;have H2:=Lib.hid (show true=b by rw[hbv];decide);clear hbv hfin;go_wp2
    all_goals (go_ret;exact⟨congrArg (fun x=>Ending.returned (Value.bool x)) H2.out,hbel⟩)
   ·have h2:((op.length:Int)==0)=b:=by
     rw[hbv];by_cases hop:op=[]
     ·subst hop;rfl
     ·simp[hop]
    have H2:=Lib.hid h2;clear h2 hbv hfin;go_wp2
    all_goals (go_ret;exact⟨congrArg (fun x=>Ending.returned (Value.bool x)) H2.out,hbel⟩)
end Go.Proofs.YtmpiobfdchlikaaGreatDoor
namespace Nun
open Go Go.RowKit Go.Proofs Go.Proofs.YtmpiobfdchlikaaGreatDoor
theorem yiq{a b:Att}(h:zbx a=zbx b):a=b:=by
 obtain⟨a1,a2,a3,a4⟩:=a;obtain⟨b1,b2,b3,b4⟩:=b;simp only[zbx,wby,PV.flat.injEq,Value.string.injEq,Value.int.injEq,true_and,and_true,yue,wd0]at h;obtain⟨rfl,rfl,rfl,rfl⟩:=h;rfl
theorem z0l:∀{l l':List Att},zbp l=zbp l'->l=l'
 |[],[],_=>rfl
 |[],b::l',h=>by have:=congrArg List.length h;rw[zbe,zbe]at this;simp at this
 |a::l,[],h=>by have:=congrArg List.length h;rw[zbe,zbe]at this;simp at this
 |a::l,b::l',h=>by
  have h':zbx a++zbp l=zbx b++zbp l':=h;obtain⟨h1,h2⟩:=List.append_inj h' rfl;rw[yiq h1,z0l h2]
theorem yir{a b:Tok}(h:zas a=zas b):a=b:=by
 obtain⟨a1,a2,a3,a4,a5,a6⟩:=a;obtain⟨b1,b2,b3,b4,b5,b6⟩:=b;simp only[zas,wby,PV.flat.injEq,PV.slc.injEq,Value.string.injEq,Value.int.injEq,true_and,and_true,yue,wd0]at h;obtain⟨h1,rfl,rfl,⟨_,h4⟩,rfl,rfl⟩:=h;rw[wdv.1 h1,z0l h4]
theorem z0m:∀{l l':List Tok},zb4 l=zb4 l'->l=l'
 |[],[],_=>rfl
 |[],b::l',h=>by have:=congrArg List.length h;rw[zba,zba]at this;simp at this
 |a::l,[],h=>by have:=congrArg List.length h;rw[zba,zba]at this;simp at this
 |a::l,b::l',h=>by
  have h':zas a++zb4 l=zas b++zb4 l':=h;obtain⟨h1,h2⟩:=List.append_inj h' rfl;rw[yir h1,z0m h2]
open Classical in
noncomputable def zxy:Callee:=fun f args bx oc=>if h:f=57/\bx=[]/\oc=[]/\∃L:List Tok,L.length<=1000000000/\args=[.slc L.length (zb4 L)]then some ([.flat (.bool (z2p (choose h.2.2.2)))],false,[],[])else none
theorem ydf(L:List Tok)(hL:L.length<=1000000000):zxy 57 [.slc L.length (zb4 L)] [] []=some ([.flat (.bool (z2p L))],false,[],[]):=by
 unfold zxy;have h:57=57/\([]:zae)=[]/\([]:List Loc)=[]/\∃L':List Tok,L'.length<=1000000000/\[PV.slc L.length (zb4 L)]=[.slc L'.length (zb4 L')]:=⟨rfl,rfl,rfl,L,hL,rfl⟩;rw[dif_pos h];have hc:=(wep h.2.2.2).2;obtain⟨L',hL'⟩:∃L',Classical.choose h.2.2.2=L':=⟨_,rfl⟩;rw[hL']at hc;rw[hL'];simp only[wby,PV.slc.injEq,and_true]at hc;rw[<-z0m hc.2]
theorem ydg{Γ:Glob}:zcj Tryz.prog Γ zxy:=by
 intro f args bx oc vs' os bx' oc' he;unfold zxy at he;split at he
 case isFalse=>cases he
 rename_i h;cases he;have hc:=wep h.2.2.2;obtain⟨L,hL⟩:∃L,Classical.choose h.2.2.2=L:=⟨_,rfl⟩;rw[hL]at hc;rw[hL];obtain⟨rfl,rfl,rfl,_⟩:=h;obtain⟨hlen,rfl⟩:=hc;intro w Fr β vs hp;refine enters_of (by kernel_rfl) (by decide) ?_;have ha:=hp.args;simp only[Rds]at ha;obtain⟨v,r,rfl,hv,rfl⟩:=ha;simp only[Rd]at hv;obtain⟨a,cap,rfl,hcap,hrow⟩:=hv;have hT:yql w a L:=by
  rcases hrow with⟨h1,h2⟩|⟨g,o,us,rfl,hR,hS,hO⟩
  ·exact .inl (qz h2)
  ·by_cases hn:L=[]
   ·exact .inl hn
   ·refine .inr ⟨g,o,rfl,?_,fun k t ht=>?_⟩
    ·obtain⟨t,L',rfl⟩:=List.exists_cons_of_ne_nil hn
     obtain⟨v0,h3,_⟩:=hS.get 0 _ (by rfl);exact wae w _ (hR 0 v0 h3).2
    ·have hg:∀j p,(zas t)[j]?=some p->∃v,w.cell? ⟨g,o+k* 6+j,none⟩=some v/\Rd w Fr β p v:=fun j p hj=>by
      have hd:=z5m ht;have:(zb4 L)[k* 6+j]?=some p:=by
       rw[<-wal,hd,waa (qg hj).1,hj]
      obtain⟨v,h3,h4⟩:=hS.get _ _ this;exact⟨v,by rw[wam];exact(hR _ v h3).2,h4⟩
     obtain⟨v0,c0,d0⟩:=hg 0 _ rfl;obtain⟨v1,c1,d1⟩:=hg 1 _ rfl;obtain⟨v2,c2,d2⟩:=hg 2 _ rfl;obtain⟨v3,c3,d3⟩:=hg 3 _ rfl;obtain⟨v4,c4,d4⟩:=hg 4 _ rfl;obtain⟨v5,c5,d5⟩:=hg 5 _ rfl;simp only[Rd]at d0 d1 d2 d3 d4 d5;obtain⟨rfl,_⟩:=d0;obtain⟨rfl,_⟩:=d1;obtain⟨rfl,_⟩:=d2;obtain⟨a3,cp3,rfl,_⟩:=d3;obtain⟨rfl,_⟩:=d4;obtain⟨rfl,_⟩:=d5;exact⟨_,_,_,c0,c1,c2,c3,c4,c5⟩
 refine(yde L a cap w hT hlen _ rfl).mono ?_;rintro e w' ⟨rfl,hb⟩;obtain⟨R,hl⟩:=hp.rel.grow hb (Fr':=Fr) fun _ _=>rfl
 exact⟨_,Fr,β,rfl,by simp[zef,Rd,zdi],R,hl,(fun L h=>by cases h),fun h=>by cases h⟩
end Nun
section
set_option synthInstance.maxSize 4000
namespace Nun
open Go Go.RowKit
def yos(l:List Nat):List Value:=l.map fun(n:Nat)=>.int .i64 (n:Int)
def OwnN(B:Nat)(e:TypeId)(v:Value)(l:List Nat)(w:World):Prop:=w.ownsRow B e 1 v l.length (yos l)
theorem OwnN.kept{B:Nat}{e:TypeId}{v:Value}{l:List Nat}{w w':World}(h:OwnN B e v l w)(k:Below w.heap.size w w'):OwnN B e v l w':=
 World.ownsRow.kept (row:=none) h ⟨k.os,k.tape,k.output,k.size,fun i hi _=>k.block i hi⟩ (by cases v.ownBlock<;>simp)
def RowN(v:Value)(l:List Nat)(w:World):Prop:=∃g o cap,v=.slice (some ⟨g,o,none⟩) l.length cap/\l.length<=cap/\g<w.heap.size/\∀(j x:Nat),l[j]?=some x->w.cell? ⟨g,o+j,none⟩=some (.int .i64 x)
theorem RowN.kept{v:Value}{l:List Nat}{w w':World}(h:RowN v l w)(k:Below w.heap.size w w'):RowN v l w':=by
 obtain⟨g,o,cap,rfl,hc,hg,hr⟩:=h;exact⟨g,o,cap,rfl,hc,wad hg k.size,fun j x hj=>(k.cell (p:=⟨g,o+j,none⟩) hg).trans (hr j x hj)⟩
end Nun
namespace Go.Proofs.YtmpiobfdchlikaaGreatDoor
open Go.RowKit Nun
end Go.Proofs.YtmpiobfdchlikaaGreatDoor
end
namespace Nun
theorem num3(a b c:UInt8)(l:List UInt8):num (a::b::c::l) 3=(a.toNat* 256+b.toNat)* 256+c.toNat:=by simp[num]
theorem num2(a b:UInt8):num [a,b] 3=(a.toNat* 256+b.toNat)* 256:=by simp[num]
theorem num1(a:UInt8):num [a] 3=a.toNat* 256* 256:=by simp[num]
end Nun
section
set_option synthInstance.maxSize 4000
namespace Nun
def y3h:Option (List UInt8)->Go.Value
 |none=>.tuple #[.string ⟨#[]⟩,.int .i64 7]
 |some l=>.tuple #[.string ⟨l.toArray⟩,.int .i64 0]
attribute [simp] y3h
end Nun
namespace Go.Proofs.YtmpiobfdchlikaaGreatDoor
open Go.RowKit Nun
end Go.Proofs.YtmpiobfdchlikaaGreatDoor
end
section
namespace Nun
theorem yvl{s:List UInt8}{k line:Nat}(hk:k<s.length)(h:s[k]=10):encL line (s.drop k)=[13,10]++encL 0 (s.drop (k+1)):=by
 rw[wcm hk,encL,if_pos h];rfl
theorem yis{s:List UInt8}{k line:Nat}(hk:k<s.length)(h:s[k]≠10){p:List UInt8}(hp:piece s[k] (s.drop (k+1))=p)(hl:line+p.length>75):encL line (s.drop k)=[61,13,10]++p++encL p.length (s.drop (k+1)):=by
 rw[wcm hk,encL,if_neg h,hp,if_pos hl];simp
theorem yvm{s:List UInt8}{k line:Nat}(hk:k<s.length)(h:s[k]≠10){p:List UInt8}(hp:piece s[k] (s.drop (k+1))=p)(hl:¬line+p.length>75):encL line (s.drop k)=p++encL (line+p.length) (s.drop (k+1)):=by
 rw[wcm hk,encL,if_neg h,hp,if_neg hl]
end Nun
namespace Go.Proofs.YtmpiobfdchlikaaGreatDoor
open Go.RowKit Nun
end Go.Proofs.YtmpiobfdchlikaaGreatDoor
end
section
namespace Nun
def pcAt(s:List UInt8)(k:Nat):List UInt8:=match s[k]? with|none=>[]|some c=>if c=10 then[]else piece c (s.drop (k+1))
abbrev zmv:={p:ByteArray//p.size<=3}
def zmv.bytes(p:zmv):List UInt8:=p.1.data.toList
end Nun
namespace Go.Proofs.YtmpiobfdchlikaaGreatDoor
open Go.RowKit Nun
attribute [local go_sem] Oper.semAt_some
set_option maxRecDepth 100000 in
theorem z6d(n:Nat)(hn:1<=n)(s:ByteArray)(hs:s.size<=1000000)(Bn:Nat)(w:World)(hbox:Boxed w Bn 9 (.string s)):
 SeqStopsK Fence.wide n Tryz.prog 152 #[.pointer (some ⟨Bn,0,none⟩)] (fun p:zmv=>#[.string p.1]) (zl9 Bn)
  (fun xs=>xs.map zmv.bytes=(List.range s.size).map (pcAt s.data.toList)) (fun _=>True) s.size w:=fun l J Jx W hW hJ hJx hY h0=>by
 have hbx0:Boxed W Bn 9 (.string s):=(hW.block _ hbox.lt).trans hbox;have hc0:=hbx0.cell;have HX:=Lib.hid hbx0;clear hbx0;refine callsIn_of_wp Tryz.func152 rfl trivial ?_ rfl;simp only[Tryz.ntmps152,wei,waf,wdb,Nat.reduceAdd,Nat.reduceSub,wej,wek,wel,wem,wa5,wai]
 gi_wp2
 gi_loopw [8] (fun v wr=>∃(k:Nat)(pre:List zmv),v=.int .i64 k/\k<=s.size/\Hid (pre.map zmv.bytes=(List.range k).map (pcAt s.data.toList))/\Hid (J pre wr)/\Hid (Boxed wr Bn 9 (.string s)))
  (fun v _=>s.size - (intOf v).toNat)
 case atStart=>exact⟨0,[],rfl,wa7 _,Lib.hid rfl,Lib.hid h0,HX⟩
 case round=>
  obtain⟨k,pre,rfl,hk,hpre,hJs,hbx⟩:=hrel;replace hJs:=hJs.out;replace hbx:=hbx.out;have hc2:=hbx.cell;have hbl:=hbx.lt;have hplen:pre.length=k:=by have:=congrArg List.length hpre.out;simpa using this
  by_cases hlt:k<s.size
  ·have hpl:(pair s[k]).length<=2:=by simp[pair]
   have hget:s.data.toList[k]?=some s[k]:=by rw[qe (show k<s.data.toList.length from hlt)];rfl
   by_cases hnl:s[k]=10
   ·have HE:=Lib.hid (show pcAt s.data.toList k=[] by unfold pcAt;rw[hget];simp[hnl])
    have q0:((s[k].toNat:Int)==10)=true:=by rw[hnl];rfl
    clear hget hnl
    gi_wp2_with (first|(refine⟨trivial,?_⟩;gi_at_call 153;refine(callsIn_wide.2 (zoq _ _)).mono ?_;rintro e w1 ⟨rfl,hb1⟩;have hJ1:=zed hJ hJs hb1;have hbx1:=(hb1.block _ hbl).trans hbx;have hc1:=Boxed.cell hbx1;obtain⟨fn,tmps,assign,body,hy,hR⟩:=hY pre ⟨⟨#[]⟩,by decide⟩ w1 hJ1 (by omega);dsimp only at hy)|(refine⟨trivial,?_⟩;gi_at_call 154;refine(callsIn_wide.2 (zdq _ _ HP.out _)).mono ?_;rintro e w2 ⟨rfl,rfl⟩))
    refine hR.mono ?_;rintro e W3 (⟨rfl,hJ3,hk3⟩|⟨rfl,hx3⟩)
    ·gi_wp2
     go_roundw
     case rel=>exact⟨k+1,pre++[⟨⟨#[]⟩,by decide⟩],by go_num,by omega,Lib.hid (by rw[wen,hpre.out,weq,wen,weo,weo,HE.out];rfl),Lib.hid hJ3,Lib.hid (Eq.trans hk3 hbx1)⟩
     case measure=>simp[intOf];omega
    ·gi_wp2
     refine bodyPost_ret (results_none rfl _ _ _) rfl ?_;exact⟨⟨_,rfl⟩,.inr ⟨_,trivial,hx3⟩⟩
   ·have hpc:pcAt s.data.toList k=piece s[k] (s.data.toList.drop (k+1)):=by unfold pcAt;rw[hget];simp[hnl]
    have q0:((s[k].toNat:Int)==10)=false:=by simp[<-wdv]at hnl⊢;omega
    clear hget hnl;generalize hp:zjw s[k]=bp;have HP:=Lib.hid hp;clear hp;cases bp
    ·by_cases hbk:s[k]=32\/s[k]=9
     ·have q:∃b,((s[k].toNat:Int)==32)=b/\(b=false->((s[k].toNat:Int)==9)=true):=by
       refine⟨_,rfl,fun h=>?_⟩;rcases hbk with h'|h'
       ·rw[h']at h;cases h
       ·rw[h'];rfl
      obtain⟨b,q1,q2⟩:=q;by_cases hnx:k+1<s.size
      ·have i2:(k:Int)+1<(s.size:Int):=by omega
       by_cases h10:s[k+1]=10
       ·have HE:=Lib.hid (hpc.trans (zqm (s:=s.data.toList) hlt HP.out (.inr (.inr ⟨hnx,h10⟩))))
        have q3:((s[k+1].toNat:Int)==10)=true:=by rw[h10];rfl
        have q4:((s[k+1].toNat:Int) !=10)=false:=by rw[h10];rfl
        clear h10 hbk hpc;cases b
        all_goals (try replace q2:=q2 rfl)
        all_goals
         gi_wp2_with (first|(refine⟨trivial,?_⟩;gi_at_call 153;refine(callsIn_wide.2 (zoq _ _)).mono ?_;rintro e w1 ⟨rfl,hb1⟩;have hJ1:=zed hJ hJs hb1;have hbx1:=(hb1.block _ hbl).trans hbx;have hc1:=Boxed.cell hbx1;obtain⟨fn,tmps,assign,body,hy,hR⟩:=hY pre ⟨⟨#[61]⟩++⟨(pair s[k]).toArray⟩,by simp[wer,zkj,pair]⟩ w1 hJ1 (by omega);dsimp only at hy)|(refine⟨trivial,?_⟩;gi_at_call 154;refine(callsIn_wide.2 (zdq _ _ HP.out _)).mono ?_;rintro e w2 ⟨rfl,rfl⟩))
         refine hR.mono ?_;rintro e W3 (⟨rfl,hJ3,hk3⟩|⟨rfl,hx3⟩)
         ·gi_wp2
          go_roundw
          case rel=>exact⟨k+1,pre++[⟨⟨#[61]⟩++⟨(pair s[k]).toArray⟩,by simp[wer,zkj,pair]⟩],by go_num,by omega,Lib.hid (by rw[wen,hpre.out,weq,wen,weo,weo,HE.out];exact congrArg (fun z=>List.map (pcAt s.data.toList) (List.range k)++[z]) ((wes).trans rfl)),Lib.hid hJ3,Lib.hid (Eq.trans hk3 hbx1)⟩
          case measure=>simp[intOf];omega
         ·gi_wp2
          refine bodyPost_ret (results_none rfl _ _ _) rfl ?_;exact⟨⟨_,rfl⟩,.inr ⟨_,trivial,hx3⟩⟩
       ·have HE:=Lib.hid (hpc.trans (z5u (s:=s.data.toList) hlt (.inr ⟨hbk,hnx,h10⟩)))
        have q3:((s[k+1].toNat:Int)==10)=false:=by simp[<-wdv]at h10⊢;omega
        have q4:((s[k+1].toNat:Int) !=10)=true:=by simp[<-wdv]at h10⊢;omega
        clear h10 hbk hpc;cases b
        all_goals (try replace q2:=q2 rfl)
        all_goals
         gi_wp2_with (first|(refine⟨trivial,?_⟩;gi_at_call 153;refine(callsIn_wide.2 (zoq _ _)).mono ?_;rintro e w1 ⟨rfl,hb1⟩;have hJ1:=zed hJ hJs hb1;have hbx1:=(hb1.block _ hbl).trans hbx;have hc1:=Boxed.cell hbx1;obtain⟨fn,tmps,assign,body,hy,hR⟩:=hY pre ⟨s.extract k (k+1),by simp[wee];omega⟩ w1 hJ1 (by omega);dsimp only at hy)|(refine⟨trivial,?_⟩;gi_at_call 154;refine(callsIn_wide.2 (zdq _ _ HP.out _)).mono ?_;rintro e w2 ⟨rfl,rfl⟩))
         refine hR.mono ?_;rintro e W3 (⟨rfl,hJ3,hk3⟩|⟨rfl,hx3⟩)
         ·gi_wp2
          go_roundw
          case rel=>exact⟨k+1,pre++[⟨s.extract k (k+1),by simp[wee];omega⟩],by go_num,by omega,Lib.hid (by rw[wen,hpre.out,weq,wen,weo,weo,HE.out];exact congrArg (fun z=>List.map (pcAt s.data.toList) (List.range k)++[z]) ((ext1 s k hlt).trans rfl)),Lib.hid hJ3,Lib.hid (Eq.trans hk3 hbx1)⟩
          case measure=>simp[intOf];omega
         ·gi_wp2
          refine bodyPost_ret (results_none rfl _ _ _) rfl ?_;exact⟨⟨_,rfl⟩,.inr ⟨_,trivial,hx3⟩⟩
      ·have HE:=Lib.hid (hpc.trans (zqm (s:=s.data.toList) hlt HP.out (.inr (.inl (by show s.size<=_;omega)))))
       have i1:¬(k:Int)+1<(s.size:Int):=by omega
       clear hbk hpc;cases b
       all_goals (try replace q2:=q2 rfl)
       all_goals
        gi_wp2_with (first|(refine⟨trivial,?_⟩;gi_at_call 153;refine(callsIn_wide.2 (zoq _ _)).mono ?_;rintro e w1 ⟨rfl,hb1⟩;have hJ1:=zed hJ hJs hb1;have hbx1:=(hb1.block _ hbl).trans hbx;have hc1:=Boxed.cell hbx1;obtain⟨fn,tmps,assign,body,hy,hR⟩:=hY pre ⟨⟨#[61]⟩++⟨(pair s[k]).toArray⟩,by simp[wer,zkj,pair]⟩ w1 hJ1 (by omega);dsimp only at hy)|(refine⟨trivial,?_⟩;gi_at_call 154;refine(callsIn_wide.2 (zdq _ _ HP.out _)).mono ?_;rintro e w2 ⟨rfl,rfl⟩))
        refine hR.mono ?_;rintro e W3 (⟨rfl,hJ3,hk3⟩|⟨rfl,hx3⟩)
        ·gi_wp2
         go_roundw
         case rel=>exact⟨k+1,pre++[⟨⟨#[61]⟩++⟨(pair s[k]).toArray⟩,by simp[wer,zkj,pair]⟩],by go_num,by omega,Lib.hid (by rw[wen,hpre.out,weq,wen,weo,weo,HE.out];exact congrArg (fun z=>List.map (pcAt s.data.toList) (List.range k)++[z]) ((wes).trans rfl)),Lib.hid hJ3,Lib.hid (Eq.trans hk3 hbx1)⟩
         case measure=>simp[intOf];omega
        ·gi_wp2
         refine bodyPost_ret (results_none rfl _ _ _) rfl ?_;exact⟨⟨_,rfl⟩,.inr ⟨_,trivial,hx3⟩⟩
     ·have h32:¬s[k]=32:=fun h=>hbk (.inl h)
      have h9:¬s[k]=9:=fun h=>hbk (.inr h)
      have HE:=Lib.hid (hpc.trans (zqm (s:=s.data.toList) hlt HP.out (.inl ⟨h32,h9⟩)));have q1:((s[k].toNat:Int)==32)=false:=by simp[<-wdv]at h32⊢;omega
      have q2:((s[k].toNat:Int)==9)=false:=by simp[<-wdv]at h9⊢;omega
      clear hbk h32 h9 hpc
      gi_wp2_with (first|(refine⟨trivial,?_⟩;gi_at_call 153;refine(callsIn_wide.2 (zoq _ _)).mono ?_;rintro e w1 ⟨rfl,hb1⟩;have hJ1:=zed hJ hJs hb1;have hbx1:=(hb1.block _ hbl).trans hbx;have hc1:=Boxed.cell hbx1;obtain⟨fn,tmps,assign,body,hy,hR⟩:=hY pre ⟨⟨#[61]⟩++⟨(pair s[k]).toArray⟩,by simp[wer,zkj,pair]⟩ w1 hJ1 (by omega);dsimp only at hy)|(refine⟨trivial,?_⟩;gi_at_call 154;refine(callsIn_wide.2 (zdq _ _ HP.out _)).mono ?_;rintro e w2 ⟨rfl,rfl⟩))
      refine hR.mono ?_;rintro e W3 (⟨rfl,hJ3,hk3⟩|⟨rfl,hx3⟩)
      ·gi_wp2
       go_roundw
       case rel=>exact⟨k+1,pre++[⟨⟨#[61]⟩++⟨(pair s[k]).toArray⟩,by simp[wer,zkj,pair]⟩],by go_num,by omega,Lib.hid (by rw[wen,hpre.out,weq,wen,weo,weo,HE.out];exact congrArg (fun z=>List.map (pcAt s.data.toList) (List.range k)++[z]) ((wes).trans rfl)),Lib.hid hJ3,Lib.hid (Eq.trans hk3 hbx1)⟩
       case measure=>simp[intOf];omega
      ·gi_wp2
       refine bodyPost_ret (results_none rfl _ _ _) rfl ?_;exact⟨⟨_,rfl⟩,.inr ⟨_,trivial,hx3⟩⟩
    ·have HE:=Lib.hid (hpc.trans (z5u (s:=s.data.toList) hlt (.inl HP.out)))
     clear hpc
     gi_wp2_with (first|(refine⟨trivial,?_⟩;gi_at_call 153;refine(callsIn_wide.2 (zoq _ _)).mono ?_;rintro e w1 ⟨rfl,hb1⟩;have hJ1:=zed hJ hJs hb1;have hbx1:=(hb1.block _ hbl).trans hbx;have hc1:=Boxed.cell hbx1;obtain⟨fn,tmps,assign,body,hy,hR⟩:=hY pre ⟨s.extract k (k+1),by simp[wee];omega⟩ w1 hJ1 (by omega);dsimp only at hy)|(refine⟨trivial,?_⟩;gi_at_call 154;refine(callsIn_wide.2 (zdq _ _ HP.out _)).mono ?_;rintro e w2 ⟨rfl,rfl⟩))
     refine hR.mono ?_;rintro e W3 (⟨rfl,hJ3,hk3⟩|⟨rfl,hx3⟩)
     ·gi_wp2
      go_roundw
      case rel=>exact⟨k+1,pre++[⟨s.extract k (k+1),by simp[wee];omega⟩],by go_num,by omega,Lib.hid (by rw[wen,hpre.out,weq,wen,weo,weo,HE.out];exact congrArg (fun z=>List.map (pcAt s.data.toList) (List.range k)++[z]) ((ext1 s k hlt).trans rfl)),Lib.hid hJ3,Lib.hid (Eq.trans hk3 hbx1)⟩
      case measure=>simp[intOf];omega
     ·gi_wp2
      refine bodyPost_ret (results_none rfl _ _ _) rfl ?_;exact⟨⟨_,rfl⟩,.inr ⟨_,trivial,hx3⟩⟩
  ·obtain rfl:k=s.size:=by omega
   gi_wp2
   go_end0
   exact⟨⟨_,rfl⟩,.inl ⟨pre,hpre.out,hJs⟩⟩
end Go.Proofs.YtmpiobfdchlikaaGreatDoor
end
section
namespace Nun
def est(st:Nat×List UInt8)(p:List UInt8):Nat×List UInt8:=
 if p=[]then(0,st.2++[13,10])else if p.length<=75 - st.1 then(st.1+p.length,st.2++p)else(p.length,st.2++[61,13,10]++p)
def estL(ps:List (List UInt8)):Nat×List UInt8:=ps.foldl est (0,[])
theorem z6e(ps:List (List UInt8))(p:List UInt8):estL (ps++[p])=est (estL ps) p:=by simp[estL]
theorem y1d{st:Nat×List UInt8}{p:List UInt8}{n:Nat}(hp:p.length<=3)(h:st.1<=75/\st.2.length<=6* n):(est st p).1<=75/\(est st p).2.length<=6* (n+1):=by
 unfold est;split
 ·simp;omega
 ·split
  ·simp;omega
  ·simp;omega
theorem yot(ps:List zmv):∀(st:Nat×List UInt8)(n:Nat),(st.1<=75/\st.2.length<=6* n)->((ps.map zmv.bytes).foldl est st).1<=75/\((ps.map zmv.bytes).foldl est st).2.length<=6* (n+ps.length):=by
 induction ps with
 |nil=>intro st n h;simpa using h
 |cons x l ih=>
  intro st n h;have:=ih (est st x.bytes) (n+1) (y1d x.2 h);simp only[wax,waz,waf];rw[show n+(l.length+1)=n+1+l.length by omega];exact this
theorem yvn(ps:List zmv):(estL (ps.map zmv.bytes)).1<=75/\(estL (ps.map zmv.bytes)).2.length<=6* ps.length:=by
 have:=yot ps (0,[]) 0 (by simp);simpa[estL]using this
theorem you(s:List UInt8):∀k,k<=s.length->encL 0 s=(estL ((List.range k).map (pcAt s))).2++encL (estL ((List.range k).map (pcAt s))).1 (s.drop k)/\(estL ((List.range k).map (pcAt s))).1<=75:=by
 intro k
 induction k with
 |zero=>intro _;simp[estL]
 |succ k ih=>
  intro hk;obtain⟨h1,h2⟩:=ih (by omega);rw[weq,wen,weo,z6e];generalize estL ((List.range k).map (pcAt s))=st at h1 h2;have hlt:k<s.length:=by omega
  unfold pcAt;rw[qe hlt];simp only;by_cases h10:s[k]=10
  ·rw[if_pos h10]
   unfold est;rw[if_pos rfl,h1,yvl hlt h10];simp
  ·rw[if_neg h10]
   have hp:=z5t s[k] (s.drop (k+1));generalize hpp:piece s[k] (s.drop (k+1))=p at hp;unfold est;rw[if_neg (by intro h;rw[h]at hp;simp at hp)];by_cases hl:p.length<=75 - st.1
   ·rw[if_pos hl,h1,yvm hlt h10 hpp (by omega)];simp;omega
   ·rw[if_neg hl,h1,yis hlt h10 hpp (by omega)];simp;omega
theorem yov(s:List UInt8):(estL ((List.range s.length).map (pcAt s))).2=encL 0 s:=by
 have:=(you s s.length (wab _)).1;rw[wc0 (wab _)]at this;simpa[encL]using this.symm
end Nun
namespace Go.Proofs.YtmpiobfdchlikaaGreatDoor
open Go.RowKit Nun
attribute [local go_sem] Oper.semAt_some
theorem Bd.own{β:Type}(B b:Nat)(f:β->List UInt8):Own (fun(s:β) W=>Bd B b (f s) W):=by
 intro s W W' row h hg hr;have kk:∀p,Lib.BuilderAtF 59 5 B b p (Lib.byteCells (f s)) W->Lib.BuilderAtF 59 5 B b p (Lib.byteCells (f s)) W':=by
  rintro p ⟨hB,v,hb,hown,hne⟩;have ne:∀g o,W.heap[g]?=some o->o.isCells=true->some g≠row:=by
   intro g o hgo hoc e;obtain⟨o',ho',hc'⟩:=hr g e.symm;rw[hgo]at ho';cases ho';rw[hoc]at hc';cases hc'
  refine⟨hB,v,(hg.block b (wan.1 hb).1 (ne b _ hb rfl)).trans hb,hown.kept hg ?_,hne⟩;rcases hv:v.ownBlock with _|g
  ·exact .inl rfl
  ·obtain⟨c,fz,hgg⟩:=Lib.ownsRowF_kind hown g hv
   exact .inr (ne g _ hgg rfl)
 rcases h with h|h
 ·exact .inl (kk _ h)
 ·exact .inr (kk _ h)
theorem Bd.set{B b k:Nat}{l:List UInt8}{w:World}{t:TypeId}{v:Value}(v':Value)(h:Bd B b l w)(hbx:Boxed w k t v)(hkb:k≠b)(ht:t≠5):Bd B b l (w.setCell ⟨k,0,none⟩ v'):=by
 have kk:∀p,Lib.BuilderAtF 59 5 B b p (Lib.byteCells l) w->Lib.BuilderAtF 59 5 B b p (Lib.byteCells l) (w.setCell ⟨k,0,none⟩ v'):=by
  rintro p ⟨hB,v,hb,hown,hne⟩;exact⟨hB,v,(Below.heap_setCell _ _ _ _ (fun e=>hkb e.symm)).trans hb,hown.kept (row:=some k) ⟨rfl,rfl,rfl,by simp[World.setCell],fun i _ hi=>Below.heap_setCell _ _ _ _ (fun e=>hi (by simp[e]))⟩ (.inr (Lib.ownBlock_neF hown hbx ht)),hne⟩
 rcases h with h|h
 ·exact .inl (kk _ h)
 ·exact .inr (kk _ h)
theorem ze7{e b k:Nat}{t:TypeId}{v:Value}{w w':World}(h:Lib.OthersKept e (some b) w w')(hb:Boxed w k t v)(hkb:k≠b)(ht:t≠e):Boxed w' k t v:=
 h k _ hb (fun e=>hkb (by cases e;rfl)) (fun c fz e=>by cases e;exact ht rfl)
theorem Bd.isCells{B b:Nat}{l:List UInt8}{w:World}(h:Bd B b l w):∃o:Obj,w.heap[b]?=some o/\o.isCells=true:=by
 rcases h with⟨_,v,hb,_⟩|⟨_,v,hb,_⟩<;>exact⟨_,hb,rfl⟩
theorem ydh(s:ByteArray)(w:World):Calls Tryz.prog 96 #[.string s] w fun e w'=>e=.returned (.func (.func 152) #[] #[.pointer (some ⟨w.heap.size,0,none⟩)])/\w'=w.alloc (.cells #[.string s] 9):=by
 go_enter Tryz.func96,Tryz.ntmps96
 go_wp2;go_ret;exact⟨rfl,rfl⟩
set_option maxRecDepth 100000 in
theorem y1e(s:ByteArray)(w:World)(hs:s.size<=1000000):Calls Tryz.prog 48 #[.string s] w (Ret (.string ⟨(encL 0 s.data.toList).toArray⟩) w):=by
 refine(callsIn_wide (n:=3)).1 ?_;refine callsIn_of_wp_marks Tryz.func48 rfl trivial ?_ rfl;simp only[Tryz.ntmps48,wei,waf,wdb,Nat.reduceAdd,Nat.reduceSub,wej,wek,wel,wem,wa5,wai]
 gi_wp2_with (refine⟨trivial,?_⟩;gi_at_call 96;refine(callsIn_wide.2 (ydh _ _)).mono ?_;rintro e w' ⟨rfl,rfl⟩)
 have hB0:Below w.heap.size w (((w.alloc (.cells #[.pointer none,.slice none 0 0] 59)).alloc (.cells #[.int .i64 0] 3)).alloc (.cells #[.string s] 9)):=(((Below.refl _ w).alloc (wab _) _).alloc (by simp) _).alloc (by simp;omega) _;have hbd0:Bd w.heap.size w.heap.size [] (((w.alloc (.cells #[.pointer none,.slice none 0 0] 59)).alloc (.cells #[.int .i64 0] 3)).alloc (.cells #[.string s] 9)):=((Bd.fresh w).alloc _).alloc _;have hl0:Boxed (((w.alloc (.cells #[.pointer none,.slice none 0 0] 59)).alloc (.cells #[.int .i64 0] 3)).alloc (.cells #[.string s] 9)) (w.heap.size+1) 3 (.int .i64 0):=by
  have:=Boxed.new (w.alloc (.cells #[.pointer none,.slice none 0 0] 59)) 3 (.int .i64 0);rw[wc1]at this;exact this.alloc _
 have hs0:Boxed (((w.alloc (.cells #[.pointer none,.slice none 0 0] 59)).alloc (.cells #[.int .i64 0] 3)).alloc (.cells #[.string s] 9)) (w.heap.size+1+1) 9 (.string s):=by
  have:=Boxed.new ((w.alloc (.cells #[.pointer none,.slice none 0 0] 59)).alloc (.cells #[.int .i64 0] 3)) 9 (.string s);rw[wc1,wc1]at this;exact this
 refine wpIn_rangeFunc_ownF rfl (by omega) (gf:=152) (lb:=#[.pointer (some ⟨w.heap.size+1+1,0,none⟩)]) rfl trivial (enters_of Tryz.func152 (by kernel_rfl) rfl)
  (z6d _ (by omega) s hs (w.heap.size+1+1) _ hs0) zxt (zxu (by simp)) (Below.refl _ _) (fun _=>rfl)
  (fun pre W=>(Bd w.heap.size w.heap.size (estL (pre.map zmv.bytes)).2 W/\Boxed W (w.heap.size+1) 3 (.int .i64 (estL (pre.map zmv.bytes)).1)/\Boxed W (w.heap.size+1+1) 9 (.string s))/\Below w.heap.size w W)
  (fun _ _ _=>False)
  (OwnFrom.and (OwnFrom.and (Own.from (Bd.own _ _ _) _) (OwnFrom.and (Own.from (boxed_own _ _ _) _) (Own.from (boxed_own _ _ _) _))) (ownFrom_below (wab _) (by simp;omega)))
  (fun _ _ _ _ _ hs _ _=>hs)
  ⟨⟨hbd0,hl0,hs0⟩,hB0⟩
  (fun x=>{tmps:=#[.string s,undef,.string ⟨#[]⟩,.pointer (some ⟨w.heap.size,0,none⟩),.pointer (some ⟨w.heap.size+1,0,none⟩),.string x.1,.string s,
    .func (.func 152) #[] #[.pointer (some ⟨w.heap.size+1+1,0,none⟩)],.string x.1,undef,undef,undef,undef,undef,undef,undef,undef,undef,undef,undef,undef,undef,undef,undef,undef],defers:=[]}) ?assign ?body ?done ?stop
 case assign=>
  intro l x W K hK
  gi_wp2
  exact hK
 case body=>
  rintro l pre x W ⟨⟨hbd,hbx,hsx⟩,hB⟩ hlen;have hbnd:=yvn pre;have hc:=hbx.cell;have hf:=hbx.frozen;have hst:estL ((pre++[x]).map zmv.bytes)=est (estL (pre.map zmv.bytes)) x.bytes:=by rw[wen,weo,z6e]
  generalize hst0:estL (pre.map zmv.bytes)=st at hbd hbx hbnd hc hst;obtain⟨line,out⟩:=st;obtain⟨hb1,hb2⟩:=hbnd;dsimp only at hbd hbx hb1 hb2 hc;have HBX:=Lib.hid hbx;have HSX:=Lib.hid hsx;have HST:=Lib.hid hst;clear hbx hsx hst hst0;obtain⟨p,hp⟩:=x;simp only[zmv.bytes]at HST;have hcl:=hbd.isCells;have HCL:=Lib.hid hcl;clear hcl;have hlen2:p.data.toList.length=p.size:=rfl;have HL:=Lib.hid hlen2;clear hlen2;dsimp only;by_cases he:p.data.toList=[]
  ·obtain rfl:p=⟨#[]⟩:=by cases p with|mk d=>cases d with|mk l=>simp at he;subst he;rfl
   clear he
   gi_wp2
   refine zjd 0 (fun _ _=>False) rfl (fun l a w h=>h.2.elim) ?_ (fun _ _ h=>h.elim)
   gi_wp2_with (first|(refine⟨trivial,?_⟩;gi_at_call 47;refine(CallsIn.inRound l (callsIn_wide.2 (zn0 _ _ _ _ _ hbd (by show out.length+2<=_;omega)))).mono ?_;rintro e w2 ⟨rfl,hbd2,hbw2,hkw2⟩;have hxw2:=ze7 hkw2 HBX.out (by simp) (by decide);have hcw2:=Boxed.cell hxw2;have hfw2:=Boxed.frozen hxw2;have HXw2:=Lib.hid hxw2;clear hxw2))
   exact⟨(zla hbw2.size hkw2 HCL.out).trans (KeepsOthers.setCell _ _ _),(Below.heap_setCell _ _ _ _ (by simp<;>omega)).trans ((ze7 hkw2 HSX.out (by simp<;>omega) (by decide)).trans HSX.out.symm),⟨by rw[HST.out];exact hbd2.set _ HXw2.out (by simp<;>omega) (by decide),by rw[HST.out];exact HXw2.out.set _,(Below.heap_setCell _ _ _ _ (by simp<;>omega)).trans (ze7 hkw2 HSX.out (by simp<;>omega) (by decide))⟩,(hB.trans hbw2).setCell (p:=⟨w.heap.size+1,0,none⟩) (by simp) _⟩
  ·have HE:=Lib.hid he;clear he
   have e1:p.toList=[] ↔ False:=by rw[Lib.toList_data];exact iff_of_false HE.out id
   have e2:p.toList.isEmpty=false:=by
    rw[Lib.toList_data];cases h:p.data.toList with
    |nil=>exact absurd h HE.out
    |cons _ _=>rfl
   by_cases hfit:p.size<=75 - line
   ·have i1:(p.size:Int)<=75 - (line:Int):=by omega
    gi_wp2
    refine zjd 0 (fun _ _=>False) rfl (fun l a w h=>h.2.elim) ?_ (fun _ _ h=>h.elim)
    gi_wp2
    refine wpIn_label ?_
    gi_wp2_with (first|(refine⟨trivial,?_⟩;gi_at_call 47;refine(CallsIn.inRound l (callsIn_wide.2 (zn0 _ _ _ _ _ hbd (by omega)))).mono ?_;rintro e w2 ⟨rfl,hbd2,hbw2,hkw2⟩;have hxw2:=ze7 hkw2 HBX.out (by simp) (by decide);have hcw2:=Boxed.cell hxw2;have hfw2:=Boxed.frozen hxw2;have HXw2:=Lib.hid hxw2;clear hxw2))
    have HI:est (line,out) p.data.toList=(line+p.size,out++p.data.toList):=by
     unfold est;rw[if_neg HE.out,if_pos (by rw[HL.out];exact hfit),HL.out]
    have hs2:=ze7 hkw2 HSX.out (by omega) (by decide);exact⟨(zla hbw2.size hkw2 HCL.out).trans (KeepsOthers.setCell _ _ _),(Below.heap_setCell _ _ _ _ (by simp<;>omega)).trans (hs2.trans HSX.out.symm),⟨by rw[HST.out,HI];exact hbd2.set _ HXw2.out (by simp) (by decide),by rw[HST.out,HI];exact HXw2.out.set _,(Below.heap_setCell _ _ _ _ (by simp<;>omega)).trans hs2⟩,(hB.trans hbw2).setCell (p:=⟨w.heap.size+1,0,none⟩) (by simp) _⟩
   ·have i1:decide ((p.size:Int)<=75 - (line:Int))=false:=by simp;omega
    have HI:est (line,out) p.data.toList=(p.size,out++[61,13,10]++p.data.toList):=by
     unfold est;rw[if_neg HE.out,if_neg (by rw[HL.out];exact hfit),HL.out]
    have HII:=Lib.hid HI;clear HI
    gi_wp2
    refine zjd 0 (fun a' W'=>a'={tmps:=#[.string s,undef,.string ⟨#[]⟩,.pointer (some ⟨w.heap.size,0,none⟩),.pointer (some ⟨w.heap.size+1,0,none⟩),.string p,.string s,
     .func (.func 152) #[] #[.pointer (some ⟨w.heap.size+1+1,0,none⟩)],.string p,.string p,.bool false,undef,.string p,.int .i64 p.size,.int .i64 line,.int .i64 (75 - line),.bool false,undef,undef,undef,undef,undef,undef,.tuple #[.int .i64 3,.nilIface],undef],defers:=[]}/\
     Bd w.heap.size w.heap.size (out++[61,13,10]) W'/\Boxed W' (w.heap.size+1) 3 (.int .i64 0)/\Boxed W' (w.heap.size+1+1) 9 (.string s)/\KeepsOthers W W'/\Below w.heap.size w W') rfl (fun l a w h=>h.2.elim) ?_ ?_
    ·gi_wp2
     refine wpIn_label ?_
     gi_wp2_with (first|(refine⟨trivial,?_⟩;gi_at_call 47;refine(CallsIn.inRound l (callsIn_wide.2 (zn0 _ _ _ _ _ hbd (by show out.length+3<=_;omega)))).mono ?_;rintro e w2 ⟨rfl,hbd2,hbw2,hkw2⟩;have hxw2:=ze7 hkw2 HBX.out (by simp) (by decide);have hcw2:=Boxed.cell hxw2;have hfw2:=Boxed.frozen hxw2;have HXw2:=Lib.hid hxw2;clear hxw2))
     have hs2:=ze7 hkw2 HSX.out (by omega) (by decide);refine wpIn_goto ?_;exact⟨rfl,rfl,hbd2.set _ HXw2.out (by simp) (by decide),HXw2.out.set _,(Below.heap_setCell _ _ _ _ (by simp<;>omega)).trans hs2,(zla hbw2.size hkw2 HCL.out).trans (KeepsOthers.setCell _ _ _),(hB.trans hbw2).setCell (p:=⟨w.heap.size+1,0,none⟩) (by simp) _⟩
    ·rintro a' W' ⟨rfl,hbd3,hbx3,hsx3,hk3,hB3⟩
     clear hc hf;have hc3:=hbx3.cell;have hf3:=hbx3.frozen;have HX3:=Lib.hid hbx3;have HS3:=Lib.hid hsx3;clear hbx3 hsx3;have i2:(p.size:Int)<=75:=by omega
     gi_wp2_with (first|(refine⟨trivial,?_⟩;gi_at_call 47;refine(CallsIn.inRound l (callsIn_wide.2 (zn0 _ _ _ _ _ hbd3 (by simp;omega)))).mono ?_;rintro e w4 ⟨rfl,hbd4,hbw4,hkw4⟩;have hxw4:=ze7 hkw4 HX3.out (by simp) (by decide);have hcw4:=Boxed.cell hxw4;have hfw4:=Boxed.frozen hxw4;have HXw4:=Lib.hid hxw4;clear hxw4))
     have hs4:=ze7 hkw4 HS3.out (by omega) (by decide);exact⟨hk3.trans ((zla hbw4.size hkw4 hbd3.isCells).trans (KeepsOthers.setCell _ _ _)),(Below.heap_setCell _ _ _ _ (by simp<;>omega)).trans (hs4.trans HSX.out.symm),⟨by rw[HST.out,HII.out];exact hbd4.set _ HXw4.out (by simp) (by decide),by rw[HST.out,HII.out];exact HXw4.out.set _,(Below.heap_setCell _ _ _ _ (by simp<;>omega)).trans hs4⟩,(hB3.trans hbw4).setCell (p:=⟨w.heap.size+1,0,none⟩) (by simp) _⟩
 case done=>
  rintro D ys W hD hS ⟨⟨hbd,hbx,hsx⟩,hB⟩ hK;have HK:=Lib.hid hK;clear hK;have HBX:=Lib.hid hbx;have HSX:=Lib.hid hsx;clear hbx hsx
  gi_wp2_with (first|(refine⟨trivial,?_⟩;gi_at_call 28;refine(callsIn_wide.2 (z8e _ _ _ _ hbd)).mono ?_;rintro e w2 ⟨rfl,hbd2,hb2,hk2⟩))
  have hcl:=hbd.isCells;have hK2:=(zla hb2.size hk2 hcl).same D _ HK.out rfl;refine⟨by simp,.inl ⟨_,_,rfl,run_takeDeferred hK2,?_⟩⟩;have hfin:(⟨(estL ((List.range s.size).map (pcAt s.data.toList))).2.toArray⟩:ByteArray)=⟨(encL 0 s.data.toList).toArray⟩:=by rw[show s.size=s.data.toList.length from rfl,yov]
  exact⟨_,results_tmp (t:=2) rfl _ _ _,congrArg (fun z=>Ending.returned (.string z)) hfin,(hB.trans hb2).trans (belowK_b (w:=w) (wab _) _ D _ _ (by simp at hD;omega) hK2 rfl rfl)⟩
 case stop=>
  rintro D c pre W _ _ h _;exact h.elim
end Go.Proofs.YtmpiobfdchlikaaGreatDoor
end
namespace Go.Proofs.YtmpiobfdchlikaaGreatDoor
open Go.RowKit Nun
def oneF(k:FuncId)(g:List Value->Option Value):FuncId->List Value->Option Value:=fun f vs=>if f=k then g vs else none
theorem z3b{Γ:Glob}{k:FuncId}{g:List Value->Option Value}(hk:k≠yldF)(h:zzh Tryz.prog Γ k g):zcj Tryz.prog Γ (zlo (oneF k g)):=yb8 (fun f vs v hv=>by
 unfold oneF at hv;split at hv
 ·rename_i e;rw[e];exact hk
 ·cases hv) (fun f vs v hv=>by
 have e:f=k:=by
  unfold oneF at hv;split at hv
  ·assumption
  ·cases hv
 subst e;have:oneF f g f=g:=by funext vs;unfold oneF;rw[if_pos rfl]
 rw[this];exact h)
theorem z3c{k:FuncId}{g:List Value->Option Value}{args:List PV}{vs:List Value}{v:Value}(h1:zv7 args=some vs)(h2:g vs=some v):zlo (oneF k g) k args [] []=some ([.flat v],false,[],[]):=by
 unfold zlo oneF;dsimp only;rw[h1,wat,if_pos rfl,h2];rfl
def G36(w:World):Prop:=(∃m,w.cell? ⟨0,0,none⟩=some (.int .i64 m))/\Tab w
def Γ36:Glob where
 D g:=g=0\/g=1
 G:=G36
 lt w h g hg:=by
  rcases hg with rfl|rfl
  ·obtain⟨m,hm⟩:=h.1;exact wae w _ hm
  ·exact h.2.lt
 keep w w' h hk:=by
  obtain⟨⟨m,hm⟩,ht⟩:=h;refine⟨⟨m,?_⟩,fun i hi=>?_⟩
  ·unfold World.cell? at hm⊢;rw[hk _ (.inl rfl)];exact hm
  ·have:=ht i hi;unfold World.cell? at this⊢;rw[hk _ (.inr rfl)];exact this
def yow:List Value->Option Value
 |[.string s,.int .u8 c]=>if s.size<=1000000000 then some (.int .i64 (Lib.lastIndexByte s c))else none
 |_=>none
def sCon:List Value->Option Value
 |[.string s,.string p]=>if s.size<=1000000000 then some (.bool (Lib.contains s.data.toList p.data.toList))else none
 |_=>none
def sEnc(e:Str->Str):List Value->Option Value
 |[.string s]=>if s.size<=1000000 then some (.string (S (e s.data.toList)))else none
 |_=>none
theorem z0n{w:World}:Below w.heap.size w w:=Below.refl _ _
theorem y3i:zzh Tryz.prog Γ36 34 yow:=⟨by kernel_rfl,fun vs v h=>by
 unfold yow at h;split at h
 ·split at h
  ·rename_i hs
   cases h;exact⟨rfl,fun w _=>(Tryz.strings_LastIndexByte _ _ (by omega) w).mono (by rintro e w' ⟨rfl,rfl⟩;exact⟨rfl,z0n⟩)⟩
  ·cases h
 ·cases h⟩
theorem fCon:zzh Tryz.prog Γ36 35 sCon:=⟨by kernel_rfl,fun vs v h=>by
 unfold sCon at h;split at h
 ·split at h
  ·rename_i hs
   cases h;refine⟨rfl,fun w hG=>?_⟩;obtain⟨⟨m,hm⟩,_⟩:=hG;exact(Tryz.strings_Contains _ _ m w (by omega) hm).mono (by rintro e w' ⟨rfl,rfl⟩;exact⟨rfl,z0n⟩)
  ·cases h
 ·cases h⟩
theorem fB64:zzh Tryz.prog Γ36 150 (sEnc zbr):=⟨by kernel_rfl,fun vs v h=>by
 unfold sEnc at h;split at h
 ·split at h
  ·rename_i hs
   cases h;exact⟨rfl,fun w hG=>(yof _ w hG.2 hs).mono (by rintro e w' ⟨rfl,hb⟩;exact⟨rfl,hb⟩)⟩
  ·cases h
 ·cases h⟩
theorem fQp:zzh Tryz.prog Γ36 48 (sEnc (encL 0)):=⟨by kernel_rfl,fun vs v h=>by
 unfold sEnc at h;split at h
 ·split at h
  ·rename_i hs
   cases h;exact⟨rfl,fun w hG=>(y1e _ w hs).mono (by rintro e w' ⟨rfl,hb⟩;exact⟨rfl,hb⟩)⟩
  ·cases h
 ·cases h⟩
theorem zxz(n:Nat):∀l:List UInt8,l.length<=n->(zbr l).length=(l.length+2)/3* 4:=by
 induction n with
 |zero=>intro l h
        have:l=[]:=qz (by omega);subst this;simp[zbr]
 |succ n ih=>
  intro l h
  match l,h with
  |[],_=>simp[zbr]
  |[a],_=>simp[zbr,z2w]
  |[a,b],_=>simp[zbr,z2w]
  |a::b::c::l,h=>rw[zbr,wb0,z2w,ih l (by simp at h;omega)];simp;omega
theorem zlc:∀(s:List UInt8)(line:Nat),(encL line s).length<=6* s.length
 |[],_=>by simp[encL]
 |c::t,line=>by
  have hp:=(z5t c t).2;unfold encL;split
  ·have:=zlc t 0;simp only[waf];omega
  ·split
   ·have:=zlc t (piece c t).length
    simp only[wb0,waf,wdb];omega
   ·have:=zlc t (line+(piece c t).length)
    simp only[wb0,waf];omega
theorem z6f{s:Str}:(S s).data.toList=s:=by simp[S]
end Go.Proofs.YtmpiobfdchlikaaGreatDoor
namespace Nun
open Go Go.RowKit Go.Proofs Go.Proofs.YtmpiobfdchlikaaGreatDoor
def okW(x:Str):Prop:=x.length<=75/\x.all shB=true
theorem zr4(c:UInt8)(s:Str):∃p ps,cutU c s=p::ps:=by
 cases s with
 |nil=>exact⟨_,_,rfl⟩
 |cons x l=>
  unfold cutU;split
  ·exact⟨_,_,rfl⟩
  ·split<;>exact⟨_,_,rfl⟩
theorem z6g(s:Str):∀(l:Str)(k long n:Nat),long<=60->goP s k long l=some n->∃p ps,cutU 32 l=p::ps/\long+p.length<=60/\p.all shB=true/\∀w∈ps,w.length<=60/\w.all shB=true
 |[],k,long,n,hl,h=>⟨[],[],rfl,by simpa using hl,rfl,by simp⟩
 |c::t,k,long,n,hl,h=>by
  rw[goP]at h;split at h
  ·cases h
  ·rename_i hs
   simp only[wcc,decide_eq_true_eq,not_or,z5a,wb1]at hs;obtain⟨⟨h1,h2,h3,h4⟩,h5⟩:=hs;obtain⟨p,ps,e,k1,k2,k3⟩:=z6g s t (k+1) (zrv c long) n (by omega) h;have hc:shB c=true:=by unfold shB;rw[decide_eq_true (by omega:32<=c.toNat),decide_eq_true (by omega:c.toNat<=126)];rfl
   unfold zrv at k1;by_cases h32:c.toNat=32
   ·have hc32:c=32:=wdv.1 h32
    rw[if_pos h32]at k1;refine⟨[],p::ps,by rw[cutU,if_pos hc32,e],by simpa using hl,rfl,fun w hw=>?_⟩;rcases waq.1 hw with rfl|hw
    ·exact⟨by omega,k2⟩
    ·exact k3 w hw
   ·have hc32:c≠32:=fun e=>h32 (by rw[e];rfl)
    rw[if_neg h32]at k1;refine⟨c::p,ps,by rw[cutU,if_neg hc32,e],by simp only[waf];omega,by rw[wcg,hc,k2];rfl,k3⟩
theorem ya5(n:Nat)(h:n<64):shB (dig n)=true:=by
 have:∀n:Fin 64,shB (dig n.1)=true:=by decide+kernel
 exact this ⟨n,h⟩
theorem z8r(l:List UInt8):(quad l).all shB=true:=by
 have h1:=ya5 (num l 3/262144 % 64) (Nat.mod_lt _ (by decide));have h2:=ya5 (num l 3/4096 % 64) (Nat.mod_lt _ (by decide));have h3:=ya5 (num l 3/64 % 64) (Nat.mod_lt _ (by decide));have h4:=ya5 (num l 3 % 64) (Nat.mod_lt _ (by decide));have h5:shB 61=true:=by decide
 unfold quad;simp only[wcg,List.all_nil,h1,h2,wbh,wbi];split<;>split<;>simp[h3,h4,h5]
theorem ya6:∀l:List UInt8,(zbr l).all shB=true
 |[]=>rfl
 |[a]=>z8r _
 |[a,b]=>z8r _
 |a::b::c::l=>by rw[zbr,wef,z8r,ya6 l];rfl
theorem ya7{g:Str}(h:g.length<=45):okW (zc3 zbr g):=by
 have hl:=zxz _ g (wab _);refine⟨by simp only[zc3,zd1,wb0,waf,wdb,hl];omega,?_⟩;simp only[zc3,wef,ya6,wbi];decide
theorem ya8(n:Nat):(za7 n).length<=4:=by
 unfold za7 zea;rw[wbt]
 repeat' split
 all_goals simp
theorem zr5:∀(l:List Nat)(now:Str),now.length<=45->∀x∈zd2 zbr now l,okW x
 |[],now,h,x,hx=>by simp[zd2]at hx;subst hx;exact ya7 h
 |r::l,now,h,x,hx=>by
  have h4:=ya8 r;rw[zd2]at hx;split at hx
  ·rcases waq.1 hx with rfl|hx
   ·exact ya7 h
   ·exact zr5 l _ (by omega) x hx
  ·exact zr5 l _ (by rw[wb0];omega) x hx
theorem zr6(s:Str):∀x∈zd3 zbr s,okW x:=by
 intro x hx;unfold zd3 at hx;split at hx
 ·simp at hx
 ·split at hx
  ·rename_i hne hp
   unfold znu at hp;rw[decide_eq_false hne,wcx]at hp;cases hg:goP s 0 0 s with
   |none=>rw[hg]at hp;simp at hp
   |some n=>
    obtain⟨p,ps,e,k1,k2,k3⟩:=z6g s s 0 0 n (by omega) hg;rw[e]at hx;rcases waq.1 hx with rfl|hx
    ·exact⟨by omega,k2⟩
    ·exact⟨by have:=(k3 x hx).1;omega,(k3 x hx).2⟩
  ·exact zr5 _ _ (by simp) x hx
def sumW(l:List Str):Nat:=(l.map fun x=>x.length+3).sum
theorem ya9:∀(ws:List Str)(q:Str×Nat),(ws.foldl stepW q).1.length<=q.1.length+sumW ws
 |[],q=>by simp[sumW]
 |x::ws,q=>by
  rw[waz];have h:=ya9 ws (stepW q x);have h2:(stepW q x).1.length<=q.1.length+(x.length+3):=by
   unfold stepW putT;dsimp only;split<;>simp only[wb0,waf,wdb]<;>omega
  have e:sumW (x::ws)=x.length+3+sumW ws:=by simp[sumW]
  omega
theorem yba(c:UInt8):∀s:Str,sumW (cutU c s)<=4* s.length+3
 |[]=>by simp[cutU,sumW]
 |x::l=>by
  have ih:=yba c l;obtain⟨p,ps,e⟩:=zr4 c l;rw[e]at ih;have e2:sumW (p::ps)=p.length+3+sumW ps:=by simp[sumW]
  unfold cutU;split
  ·have e3:sumW ([]::cutU c l)=3+sumW (p::ps):=by rw[e];simp[sumW]
   rw[e3];simp only[waf];omega
  ·rw[e]
   have e3:sumW ((x::p)::ps)=p.length+1+3+sumW ps:=by simp[sumW]
   dsimp only;rw[e3];simp only[waf];omega
theorem zta:∀(l:List Nat)(now:Str),42* (zd2 zbr now l).length<=42+now.length+4* l.length
 |[],now=>by simp[zd2]
 |r::l,now=>by
  have h4:=ya8 r;rw[zd2];split
  ·have:=zta l (za7 r)
   simp only[waf];omega
  ·have:=zta l (now++za7 r)
   rw[wb0]at this;simp only[waf];omega
theorem yqm{n:Nat}:∀l:List Str,(∀x∈l,x.length<=n)->sumW l<=(n+3)* l.length
 |[],_=>by simp[sumW]
 |x::l,h=>by
  have h1:=yqm l fun y hy=>h y (by simp[hy])
  have h2:=h x (by simp);have e2:sumW (x::l)=x.length+3+sumW l:=by simp[sumW]
  rw[e2,waf,Nat.mul_add];omega
theorem z6h(s:Str)(hs:s.length<=250):sumW (zd3 zbr s)<=1950:=by
 unfold zd3;split
 ·simp[sumW]
 ·split
  ·have:=yba 32 s;omega
  ·have h1:=zta (zl6 s) []
   have h2:(zl6 s).length<=s.length:=by unfold zl6;rw[wbt];exact zs1 _ s (wab _)
   have h3:=yqm (n:=75) (zd2 zbr [] (zl6 s)) fun x hx=>(zr5 _ _ (by simp) x hx).1
   simp only[wdb]at h1;omega
theorem z3d(f s:Str)(hs:s.length<=250)(hf:f.length<=32):(zk5 zbr f s).length<=1985:=by
 have h1:=ya9 (zd3 zbr s) (f++[58],f.length+1);have h2:=z6h s hs;unfold zk5;simp only[wb0,waf,wdb]at h1⊢;omega
theorem ybb:∀(w:Str)(t:Str),(32:UInt8)∉w->cutU 32 (w++32::t)=w::cutU 32 t
 |[],t,_=>by rw[wa5,cutU,if_pos rfl]
 |c::w,t,h=>by
  simp only[waq,not_or]at h;rw[wai,cutU,if_neg (fun e=>h.1 e.symm),ybb w t h.2]
theorem yit:∀(w:Str),(32:UInt8)∉w->cutU 32 w=[w]
 |[],_=>rfl
 |c::w,h=>by
  simp only[waq,not_or]at h;rw[cutU,if_neg (fun e=>h.1 e.symm),yit w h.2]
theorem zx0:∀(ws:List Str)(w:Str),(∀x∈w::ws,(32:UInt8)∉x)->cutU 32 (w++spcW ws)=w::ws
 |[],w,h=>by
  have:spcW []=[]:=rfl;rw[this,wcf];exact yit w (h w (by simp))
 |x::ws,w,h=>by
  rw[zlb,ybb w _ (h w (by simp)),zx0 ws x fun y hy=>h y (by simp at hy⊢;exact Or.inr hy)]
theorem ydi{w t:Str}(hw:w≠[])(hb:∀c∈w,za2 c=false):(32::(w++t)).dropWhile za2=w++t:=by
 cases w with
 |nil=>exact absurd rfl hw
 |cons c w=>
  have:=hb c (by simp);rw[weh,if_pos (by decide),wai,weh,if_neg (by rw[this];decide)]
theorem z6i{s w:Str}(hw:w≠[])(hb:∀c∈w,za2 c=false):zdp (s++w)=s++w:=by
 unfold zdp;rw[List.reverse_append];have hr:w.reverse≠[]:=by simpa using hw
 cases hc:w.reverse with
 |nil=>exact absurd hc hr
 |cons c r=>
  have hm:c∈w:=by rw[<-List.mem_reverse,hc];simp
  rw[wai,weh,if_neg (by rw[hb c hm];decide),<-wai,<-hc,<-List.reverse_append,List.reverse_reverse]
theorem zr7:∀(ws:List Str)(w s:Str),(∀x∈w::ws,x≠[]/\∀c∈x,za2 c=false)->zdp (s++(w++spcW ws))=s++(w++spcW ws)
 |[],w,s,h=>by
  have:spcW []=[]:=rfl;rw[this,wcf];exact z6i (h w (by simp)).1 (h w (by simp)).2
 |x::ws,w,s,h=>by
  rw[zlb];have e:s++(w++32::(x++spcW ws))=(s++w++[32])++(x++spcW ws):=by simp
  rw[e];exact zr7 ws x _ fun y hy=>h y (by simp at hy⊢;exact Or.inr hy)
theorem z0o(w:Str)(ws:List Str)(h:∀x∈w::ws,x≠[]/\∀c∈x,za2 c=false):trimB (spcW (w::ws))=w++spcW ws:=by
 unfold trimB;rw[zlb,ydi (h w (by simp)).1 (h w (by simp)).2];have:=zr7 ws w [] h;simpa using this
theorem y1f{w:Str}(h:∀c∈w,za2 c=false):(32:UInt8)∉w:=fun hm=>by have:=h 32 hm;simp[za2]at this
def rdT(dec:Str->Str×Bool)(q:Str×Bool×Bool)(w:Str):Str×Bool×Bool:=
 if w=[]then q else(q.1++(if q.2.1&& !(q.2.2&&(dec w).2)then[32]else[])++(dec w).1,true,(dec w).2)
def rdU(dec:Str->Str×Bool)(rest:Str):Str:=((cutU 32 rest).foldl (rdT dec) ([],false,false)).1
theorem ybc(dec:Str->Str×Bool):∀(ws:List Str)(s:Str),(∀x∈ws,x≠[]/\dec x=(x,false))->(ws.foldl (rdT dec) (s,true,false)).1=s++spcW ws
 |[],s,_=>by simp[spcW]
 |w::ws,s,h=>by
  have hw:=h w (by simp);rw[waz,zlb];have:rdT dec (s,true,false) w=(s++32::w,true,false):=by
   unfold rdT;rw[if_neg hw.1,hw.2];simp
  rw[this,ybc dec ws _ fun x hx=>h x (by simp[hx])];simp
theorem ybd(dec:Str->Str×Bool):∀(gs:List (Str×Str))(s:Str),(∀x∈gs,x.1≠[]/\dec x.1=(x.2,true))->((gs.map (·.1)).foldl (rdT dec) (s,true,true)).1=s++gs.flatMap (·.2)
 |[],s,_=>by simp
 |w::ws,s,h=>by
  have hw:=h w (by simp);rw[wax,waz];have:rdT dec (s,true,true) w.1=(s++w.2,true,true):=by
   unfold rdT;rw[if_neg hw.1,hw.2];simp
  rw[this,ybd dec ws _ fun x hx=>h x (by simp[hx])];simp
theorem yiu(dec:Str->Str×Bool)(w:Str)(ws:List Str)(h:∀x∈w::ws,x≠[]/\(∀c∈x,za2 c=false)/\dec x=(x,false)):rdU dec (32::trimB (spcW (w::ws)))=w++spcW ws:=by
 unfold rdU;rw[z0o w ws fun x hx=>⟨(h x hx).1,(h x hx).2.1⟩,cutU,if_pos rfl,zx0 ws w fun x hx=>y1f (h x hx).2.1,waz,waz];have hw:=h w (by simp);have:rdT dec (rdT dec ([],false,false) []) w=(w,true,false):=by
  unfold rdT;rw[if_pos rfl,if_neg hw.1,hw.2.2];simp
 rw[this,ybc dec ws _ fun x hx=>⟨(h x (by simp[hx])).1,(h x (by simp[hx])).2.2⟩]
theorem yiv(dec:Str->Str×Bool)(g:Str×Str)(gs:List (Str×Str))(h:∀x∈g::gs,x.1≠[]/\(∀c∈x.1,za2 c=false)/\dec x.1=(x.2,true)):rdU dec (32::trimB (spcW ((g::gs).map (·.1))))=g.2++gs.flatMap (·.2):=by
 unfold rdU;have hm:∀x∈g.1::gs.map (·.1),x≠[]/\∀c∈x,za2 c=false:=fun x hx=>by
  rw[<-wax]at hx;obtain⟨y,hy,rfl⟩:=wbv.1 hx;exact⟨(h y hy).1,(h y hy).2.1⟩
 rw[wax,z0o g.1 (gs.map (·.1)) hm,cutU,if_pos rfl,zx0 (gs.map (·.1)) g.1 fun x hx=>y1f (hm x hx).2,waz,waz];have hw:=h g (by simp);have:rdT dec (rdT dec ([],false,false) []) g.1=(g.2,true,true):=by
  unfold rdT;rw[if_pos rfl,if_neg hw.1,hw.2.2];simp
 rw[this,ybd dec gs _ fun x hx=>⟨(h x (by simp[hx])).1,(h x (by simp[hx])).2.2⟩]
theorem yox(dec:Str->Str×Bool):rdU dec (32::trimB (spcW []))=[]:=by simp[rdU,spcW,trimB,zdp,cutU,rdT]
end Nun
namespace Nun
theorem yoy:∀i:Fin 64,zmu (dig i.1)=some i.1:=by decide+kernel
theorem zmc{n:Nat}(h:n<64):zmu (dig n)=some n:=yoy ⟨n,h⟩
theorem yvo:∀i:Fin 64,dig i.1≠61:=by decide+kernel
theorem yqn{n:Nat}(h:n<64):dig n≠61:=yvo ⟨n,h⟩
theorem y1g{p0 p1 p2 p3:UInt8}{x0 x1 x2 x3:Nat}(h0:zmu p0=some x0)(h1:zmu p1=some x1)(h2:zmu p2=some x2)(h3:zmu p3=some x3):
 zif [p0,p1,p2,p3] 4 4=some (((x0* 64+x1)* 64+x2)* 64+x3):=by simp[zif,h0,h1,h2,h3]
theorem y1h{p0 p1 p2 p3:UInt8}{x0 x1 x2:Nat}(h0:zmu p0=some x0)(h1:zmu p1=some x1)(h2:zmu p2=some x2):
 zif [p0,p1,p2,p3] 3 4=some (((x0* 64+x1)* 64+x2)* 64):=by simp[zif,h0,h1,h2]
theorem y1i{p0 p1 p2 p3:UInt8}{x0 x1:Nat}(h0:zmu p0=some x0)(h1:zmu p1=some x1):
 zif [p0,p1,p2,p3] 2 4=some (((x0* 64+x1)* 64)* 64):=by simp[zif,h0,h1]
theorem ztb(x l:List UInt8):zhn (quad x++l)=if(zkk (quad x) l.isEmpty).2 then(zhn l).map ((zkk (quad x) l.isEmpty).1++·)else none:=rfl
theorem ydj(a:UInt8)(n:Nat)(h:n % 256=a.toNat):UInt8.ofNat n=a:=by
 apply wdv.1;simp[h]
theorem z8s(a b c:UInt8)(l:List UInt8)(last:Bool):zkk (quad (a::b::c::l)) last=([a,b,c],true):=by
 have ha:=a.toNat_lt;have hb:=b.toNat_lt;have hc:=c.toNat_lt;have hq:quad (a::b::c::l)=[dig (num (a::b::c::l) 3/262144 % 64),dig (num (a::b::c::l) 3/4096 % 64),dig (num (a::b::c::l) 3/64 % 64),dig (num (a::b::c::l) 3 % 64)]:=by
  unfold quad;rw[if_neg (by simp),if_neg (by simp)]
 rw[hq,num3];generalize hN:(a.toNat* 256+b.toNat)* 256+c.toNat=N;have hK:zqn [dig (N/262144 % 64),dig (N/4096 % 64),dig (N/64 % 64),dig (N % 64)] last=4:=by
  unfold zqn;rw[if_neg];intro h;exact yqn (n:=N % 64) (by omega) (by simpa using h.2)
 unfold zkk;rw[hK,y1g (zmc (by omega)) (zmc (by omega)) (zmc (by omega)) (zmc (by omega))];have e:((N/262144 % 64* 64+N/4096 % 64)* 64+N/64 % 64)* 64+N % 64=N:=by omega
 simp only[e];rw[ydj a (N/65536) (by omega),ydj b (N/256) (by omega),ydj c N (by omega)];simp;omega
theorem z8t(a b:UInt8):zkk (quad [a,b]) true=([a,b],true):=by
 have ha:=a.toNat_lt;have hb:=b.toNat_lt;have hq:quad [a,b]=[dig (num [a,b] 3/262144 % 64),dig (num [a,b] 3/4096 % 64),dig (num [a,b] 3/64 % 64),61]:=by
  unfold quad;rw[if_neg (by simp),if_pos (by simp)]
 rw[hq,num2];generalize hN:(a.toNat* 256+b.toNat)* 256=N;have hK:zqn [dig (N/262144 % 64),dig (N/4096 % 64),dig (N/64 % 64),61] true=3:=by
  unfold zqn;rw[if_pos (by simp),if_neg];intro h;exact yqn (n:=N/64 % 64) (by omega) (by simpa using h)
 unfold zkk;rw[hK,y1h (zmc (by omega)) (zmc (by omega)) (zmc (by omega))];have e:((N/262144 % 64* 64+N/4096 % 64)* 64+N/64 % 64)* 64=N:=by omega
 simp only[e];rw[ydj a (N/65536) (by omega),ydj b (N/256) (by omega)];simp;omega
theorem z8u(a:UInt8):zkk (quad [a]) true=([a],true):=by
 have ha:=a.toNat_lt;have hq:quad [a]=[dig (num [a] 3/262144 % 64),dig (num [a] 3/4096 % 64),61,61]:=by
  unfold quad;rw[if_pos (by simp),if_pos (by simp)]
 rw[hq,num1];generalize hN:a.toNat* 256* 256=N;have hK:zqn [dig (N/262144 % 64),dig (N/4096 % 64),61,61] true=2:=by
  unfold zqn;rw[if_pos (by simp),if_pos (by simp)]
 unfold zkk;rw[hK,y1i (zmc (by omega)) (zmc (by omega))];have e:((N/262144 % 64* 64+N/4096 % 64)* 64)* 64=N:=by omega
 simp only[e];rw[ydj a (N/65536) (by omega)];simp;omega
theorem yvp(n:Nat):∀l:List UInt8,l.length<=n->zhn (zbr l)=some l:=by
 induction n with
 |zero=>
  intro l h;have:l=[]:=qz (by omega);subst this;rfl
 |succ n ih=>
  intro l h
  match l,h with
  |[],_=>rfl
  |[a],_=>show zhn (quad [a]++[])=_;rw[ztb];rw[show([]:List UInt8).isEmpty=true from rfl,z8u];rfl
  |[a,b],_=>show zhn (quad [a,b]++[])=_;rw[ztb];rw[show([]:List UInt8).isEmpty=true from rfl,z8t];rfl
  |a::b::c::l,h=>
   show zhn (quad [a,b,c]++zbr l)=_;rw[ztb,z8s,ih l (by simp at h;omega)];rfl
end Nun
namespace Nun
open Go Go.RowKit Go.Proofs Go.Proofs.YtmpiobfdchlikaaGreatDoor
def canon(rs:List Nat):Str:=rs.flatMap za7
theorem z0p(r:Nat)(rs:List Nat):canon (r::rs)=za7 r++canon rs:=by simp[canon]
theorem zr8(a b:List Nat):canon (a++b)=canon a++canon b:=by simp[canon]
theorem z0q:∀gs:List (List Nat),canon gs.flatten=gs.flatMap canon
 |[]=>rfl
 |g::gs=>by rw[List.flatten_cons,zr8,z0q gs,List.flatMap_cons]
theorem z6j{n:Nat}(h:isN n=true):za7 n=(zea n).map UInt8.ofNat:=by unfold za7;rw[if_pos h]
theorem z8v(n:Nat):∃c l,zea n=c::l:=by
 unfold zea
 repeat' split
 all_goals exact⟨_,_,rfl⟩
theorem zqp:∀rs:List Nat,(∀r∈rs,isN r=true)->zds (canon rs)=rs.map fun r=>(r,(zea r).length)
 |[],_=>rfl
 |r::rs,h=>by
  have hr:=h r (by simp);have ih:=zqp rs fun x hx=>h x (by simp[hx])
  have hd:=dec_of r hr (canon rs);rw[z0p,z6j hr];obtain⟨c,l,e⟩:=z8v r;rw[e]at hd⊢;rw[wax,wai]at hd⊢;rw[zi9,hd,wax,e];congr 1;rw[<-ih];congr 1;rw[waf,wah];exact List.drop_left' (by simp)
theorem ydk{rs:List Nat}(h:∀r∈rs,isN r=true):zl6 (canon rs)=rs:=by
 unfold zl6;rw[zqp rs h,List.map_map];exact List.map_id'' (fun _=>rfl) rs
theorem yiw{rs:List Nat}(h:∀r∈rs,isN r=true):isU (canon rs)=true:=by
 unfold isU;rw[zqp rs h,List.all_map,wa9];intro r _;show(!badQ (r,(zea r).length))=true;unfold badQ;by_cases e:r=65533
 ·subst e;rfl
 ·simp[e]
theorem z8w(n:Nat):∃r,isN r=true/\za7 n=canon [r]:=by
 have hi:isN (if isN n then n else 65533)=true:=by
  split
  ·assumption
  ·rfl
 refine⟨if isN n then n else 65533,hi,?_⟩;rw[z0p,z6j hi];unfold za7 canon;simp
theorem z0r(l:Str):∀(L:List (Nat×Nat))(a:CSt),(∃rs:List Nat,(∀r∈rs,isN r=true)/\a.out=canon rs)->∃rs:List Nat,(∀r∈rs,isN r=true)/\(zg7 (zgq l) a L).1.out=canon rs
 |[],a,h=>h
 |q::L,a,h=>by
  rw[zg7,if_pos (z7z l a q)];refine z0r l L _ ?_;unfold zgq;split
  ·exact h
  ·obtain⟨rs,h1,h2⟩:=h
   obtain⟨r,h3,h4⟩:=z8w (zf3 (if q.1=13 then 10 else q.1));refine⟨rs++[r],fun x hx=>?_,by dsimp only;rw[h2,h4,zr8]⟩;rcases wak.1 hx with hx|hx
   ·exact h1 x hx
   ·rw[wbn.1 hx];exact h3
theorem z8x(l:Str):∃rs:List Nat,(∀r∈rs,isN r=true)/\zgu l=canon rs:=z0r l _ _ ⟨[],by simp,rfl⟩
theorem zn7(enc:Str->Str):∀(l R:List Nat),(∀r∈l,isN r=true)->∃g gs,zd2 enc (canon R) l=(g::gs).map (fun G=>zc3 enc (canon G))/\(g::gs).flatten=R++l
 |[],R,_=>⟨R,[],rfl,by simp⟩
 |r::l,R,h=>by
  have hr:=h r (by simp);have e:za7 r=canon [r]:=by simp[canon]
  rw[zd2,e];split
  ·obtain⟨g,gs,h1,h2⟩:=zn7 enc l [r] fun x hx=>h x (by simp[hx])
   exact⟨R,g::gs,by rw[h1];rfl,by rw[List.flatten_cons,h2];rfl⟩
  ·obtain⟨g,gs,h1,h2⟩:=zn7 enc l (R++[r]) fun x hx=>h x (by simp[hx])
   rw[zr8]at h1;exact⟨g,gs,h1,by rw[h2];simp⟩
def zh1(w:Str):Str×Bool:=
 if zd1.isPrefixOf w&&[63,61].isSuffixOf (w.drop 10)then
  match zhn ((w.drop 10).take ((w.drop 10).length - 2))with
  |some t=>if isU t then(t,true)else(w,false)
  |none=>(w,false)
 else(w,false)
theorem ydl{g:Str}(h:isU g=true):zh1 (zc3 zbr g)=(g,true):=by
 have h1:zd1.isPrefixOf (zc3 zbr g)=true:=by
  rw[wdj];unfold zc3;rw[wa4];exact List.prefix_append _ _
 have h2:(zc3 zbr g).drop 10=zbr g++[63,61]:=by unfold zc3;rw[wa4];exact List.drop_left' rfl
 have h3:([63,61]:Str).isSuffixOf (zbr g++[63,61])=true:=by rw[List.isSuffixOf_iff_suffix];exact List.suffix_append _ _
 have h4:(zbr g++[63,61]).take ((zbr g++[63,61]).length - 2)=zbr g:=List.take_left' (by simp);unfold zh1;rw[h1,h2,h3,h4,yvp _ g (wab _)];simp[h]
theorem z0s{w:Str}(h:([61,63]:Str).isPrefixOf w=false):zh1 w=(w,false):=by
 have:zd1.isPrefixOf w=false:=by
  rw[wdn]at h⊢;exact fun k=>h (wdj.2 (List.IsPrefix.trans ⟨[85,84,70,45,56,63,66,63],rfl⟩ (wdj.1 k)))
 unfold zh1;rw[this];rfl
theorem z3e(c:UInt8):∀(l p:Str)(ps:List Str),cutU c l=p::ps->l=p++ps.flatMap (c::·)/\∀x∈p::ps,c∉x
 |[],p,ps,h=>by cases h;simp
 |a::l,p,ps,h=>by
  obtain⟨p',ps',e⟩:=zr4 c l;obtain⟨h1,h2⟩:=z3e c l p' ps' e;unfold cutU at h;rw[e]at h;split at h
  ·rename_i ha
   cases h;refine⟨by rw[ha,h1];simp,fun x hx=>?_⟩;rcases waq.1 hx with rfl|hx
   ·simp
   ·exact h2 x hx
  ·rename_i ha
   dsimp only at h;cases h;refine⟨by rw[h1];simp,fun x hx=>?_⟩;rcases waq.1 hx with rfl|hx
   ·have:=h2 p' (by simp)
    simp only[waq,not_or];exact⟨fun k=>ha k.symm,this⟩
   ·exact h2 x (by simp[hx])
theorem ybe(s:Str):∀(l p:Str)(ps:List Str)(k long n:Nat),s.drop k=l->goP s k long l=some n->cutU 32 l=p::ps->((0<n->0<long+p.length)/\([61,63]:Str).isPrefixOf p=false)/\∀w∈ps,(0<n->w≠[])/\([61,63]:Str).isPrefixOf w=false
 |[],p,ps,k,long,n,hd,h,hc=>by
  cases hc;rw[goP]at h;cases h;exact⟨⟨fun h=>by simpa using h,rfl⟩,by simp⟩
 |c::t,p,ps,k,long,n,hd,h,hc=>by
  rw[goP]at h;split at h
  ·cases h
  rename_i hs;simp only[wcc,decide_eq_true_eq,not_or,z5a,wb1,not_and]at hs;obtain⟨⟨h1,_,_,h4⟩,_⟩:=hs;have hd':s.drop (k+1)=t:=by rw[<-wbd,hd];rfl
  have hk:k<=s.length:=by
   rcases wcn s.length k with h|h
   ·rw[wc0 (by omega)]at hd;cases hd
   ·exact h
  have hb:([61,63]:Str).isPrefixOf (c::t)=false:=by
   rw[<-hd];unfold zav at h4;rw[decide_eq_true hk,wbh]at h4;exact wdn.2 h4
  obtain⟨p',ps',e⟩:=zr4 32 t;obtain⟨⟨i1,i2⟩,i3⟩:=ybe s t p' ps' (k+1) _ n hd' h e;unfold zrv at i1;unfold cutU at hc;rw[e]at hc;split at hc
  ·rename_i h32
   cases hc;have h32':c.toNat=32:=by rw[h32];rfl
   rw[if_pos h32']at i1;refine⟨⟨fun _=>?_,rfl⟩,fun w hw=>?_⟩
   ·have:=h1 h32';simp only[wdb];omega
   ·rcases waq.1 hw with rfl|hw
    ·exact⟨fun h0 e0=>by have:=i1 h0;rw[e0]at this;simp at this,i2⟩
    ·exact i3 w hw
  ·rename_i h32
   dsimp only at hc;cases hc;have h32':c.toNat≠32:=fun k=>h32 (wdv.1 k)
   rw[if_neg h32']at i1;refine⟨⟨fun h0=>by have:=i1 h0;simp only[waf];omega,?_⟩,i3⟩;rw[wdn]at hb⊢;intro k;rw[wdj]at k;apply hb;rw[wdj];refine k.trans ?_;rw[(z3e 32 t p' _ e).1];exact⟨_,rfl⟩
theorem yoz:∀c:UInt8,shB c=true->c≠32->za2 c=false:=by decide+kernel
theorem z0t{w:Str}(h:w.all shB=true)(h2:(32:UInt8)∉w):∀c∈w,za2 c=false:=fun c hc=>yoz c (wa9.1 h c hc) fun e=>h2 (e▸hc)
theorem yo0:∀l:List UInt8,(32:UInt8)∉zbr l:=by
 have hd:∀n,n<64->dig n≠32:=fun n h=>(by decide+kernel:∀n:Fin 64,dig n.1≠32) ⟨n,h⟩
 have hq:∀l:List UInt8,(32:UInt8)∉quad l:=fun l h=>by
  unfold quad at h;simp only[waq,wet,or_false]at h;have m:∀x,x % 64<64:=fun x=>Nat.mod_lt _ (by decide)
  rcases h with h|h|h|h
  ·exact hd _ (m _) h.symm
  ·exact hd _ (m _) h.symm
  ·split at h
   ·exact absurd h (by decide)
   ·exact hd _ (m _) h.symm
  ·split at h
   ·exact absurd h (by decide)
   ·exact hd _ (m _) h.symm
 intro l
 induction l using zbr.induct with
 |case1=>simp[zbr]
 |case2 a=>exact hq _
 |case3 a b=>exact hq _
 |case4 a b c l ih=>rw[zbr,wak,not_or];exact⟨hq _,ih⟩
theorem z3f(v:Str)(h:znu v=true\/zgu v=v):rdU zh1 (32::trimB (spcW (zd3 zbr v)))=v:=by
 have hok:=zr6 v;unfold zd3 at hok⊢;by_cases h0:v=[]
 ·rw[if_pos h0,h0];exact yox _
 rw[if_neg h0]at hok⊢;by_cases hp:znu v=true
 ·rw[if_pos hp]at hok⊢
  unfold znu at hp;rw[decide_eq_false h0,wcx]at hp;cases hg:goP v 0 0 v with
  |none=>rw[hg]at hp;simp at hp
  |some n=>
   rw[hg]at hp;have hn:0<n:=by simpa using hp
   obtain⟨p,ps,e⟩:=zr4 32 v;obtain⟨⟨i1,i2⟩,i3⟩:=ybe v v p ps 0 0 n rfl hg e;obtain⟨j1,j2⟩:=z3e 32 v p ps e;rw[e]at hok⊢;rw[yiu zh1 p ps fun x hx=>⟨?_,z0t (hok x hx).2 (j2 x hx),?_⟩]
   ·exact j1.symm
   ·rcases waq.1 hx with rfl|hx
    ·intro k;have:=i1 hn;rw[k]at this;simp at this
    ·exact(i3 x hx).1 hn
   ·rcases waq.1 hx with rfl|hx
    ·exact z0s i2
    ·exact z0s (i3 x hx).2
 ·rw[if_neg hp]at hok⊢
  have hv:=h.resolve_left hp;obtain⟨rs,hr,hc⟩:=z8x v;rw[hv]at hc;have hnum:zl6 v=rs:=by rw[hc];exact ydk hr
  rw[hnum]at hok⊢;obtain⟨g,gs,k1,k2⟩:=zn7 zbr rs [] hr;have e0:canon []=[]:=rfl;rw[e0]at k1;rw[k1]at hok⊢;have hm:∀G∈g::gs,∀r∈G,isN r=true:=fun G hG r hx=>hr r (by
   rw[wa5]at k2;rw[<-k2];exact List.mem_flatten.2 ⟨G,hG,hx⟩)
  have e1:(g::gs).map (fun G=>zc3 zbr (canon G))=(((zc3 zbr (canon g),canon g)::gs.map fun G=>(zc3 zbr (canon G),canon G)):List (Str×Str)).map (·.1):=by
   simp[List.map_map,Function.comp_def]
  rw[e1,yiv]
  ·rw[hc]
   rw[wa5]at k2;rw[<-k2,List.flatten_cons,zr8,z0q,List.flatMap_map]
  ·intro x hx
   obtain⟨G,hG,rfl⟩:∃G,G∈g::gs/\x=(zc3 zbr (canon G),canon G):=by
    rcases waq.1 hx with rfl|hx
    ·exact⟨g,by simp,rfl⟩
    ·obtain⟨G,hG,rfl⟩:=wbv.1 hx;exact⟨G,by simp[hG],rfl⟩
   refine⟨by simp[zc3,zd1],?_,ydl (yiw (hm G hG))⟩;have hx:=hok (zc3 zbr (canon G)) (wbv.2 ⟨G,hG,rfl⟩);refine z0t hx.2 ?_;unfold zc3;simp only[wak,not_or];exact⟨⟨by decide,yo0 _⟩,by decide⟩
end Nun

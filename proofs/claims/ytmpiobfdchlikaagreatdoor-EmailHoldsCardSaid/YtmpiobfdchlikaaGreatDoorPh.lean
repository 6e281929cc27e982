/- EmailHolds answers true for every mail, where the table of base64 is laid az start-up lays it: texts of this proof, merged. -/
import Derived.Test.YtmpiobfdchlikaaGreatDoorPg
import Derived.WalkKit
import Derived.WalkSpells
import Derived.WalkLawsBesides
import Derived.Lib.Hide
import Derived.BigQuiet
import Derived.Lib.QuietBelow
import Derived.ShutString
import Derived.Deep.Light
import Derived.Lib.UnsafeStr
import Derived.Lib.Strings
import Derived.Lib.IndexBytes
import Derived.Lib.IndexMore
import Derived.Lib.SlTrimSet
import Derived.Shelf.Strings.Builder1
import Derived.Shelf.Strings.Builder2
import Derived.Shelf.Strings.Trim
import Derived.Shelf.Small.Utf8
import Derived.Shelf.Small.Strs
import Derived.Shelf.Small.Wraps
import Derived.Shelf.Strings.BuilderF
import Derived.Shelf.Strings.BuilderK
import Derived.Shelf.Utf8.RuneCount
import Derived.Shelf.Strings.Builder2Cap
import Derived.Shelf.Strings.Search1
import Derived.Shelf.Strings.Search2
import Derived.Shelf.Strings.Search3
import Derived.Shelf.Strings.Cut
import Derived.Shelf.Strings.Count
import Derived.Shelf.LaysM
import Derived.Shelf.Strings.Shaped
import Derived.Shelf.Strings.LastIndex
import Derived.Shelf.Strings.Prefix
import Derived.Shelf.Strings.Split
import Derived.Shelf.Strings.Replace
import Derived.Shelf.Strings.SplitShaped
import Derived.Shelf.Unicode.Decode
import Derived.Shelf.Strings.Runes
import Derived.Shelf.Strings.RuneCount
import Derived.Shelf.Strings.AsciiSet
import Derived.Shelf.Unicode.DecodeSlow
import Derived.Shelf.Unicode.DecodeAny
import Derived.Shelf.Unicode.DecodeLast
import Derived.Shelf.Strings.BuilderCap
import Derived.Shelf.Slices.Turned
import Derived.Ground.PaProg
import Derived.Shelf.Path.Small
import Derived.Test.YtmpiobfdchlikaaGreatDoorProg
import Derived.Shelf.Strings.SlTrimAscii
import Derived.Laws.OwnMore
import Derived.Laws.IdiomStrings
import Derived.RangeFuncNested
import Derived.RangeFuncBound
import Derived.RangeFuncCalls
import Derived.RangeFuncLeaves
import Derived.RangeFuncBox
import Derived.Shelf.Abstract
import Derived.Shelf.RegionOpen
import Derived.OwnWalkIn
import Derived.TacticsInMore
import Derived.LoopNIn
import Derived.LoopIn
import Derived.ScopeJumps
import Derived.Lib.OthersKept
import Derived.StillTail
import Derived.Test.YtmpiobfdchlikaaGreatDoorRows
import Derived.OwnWalk
import Derived.Lib.FrozenHead2
import Derived.Lib.Builder
import Derived.Laws.Externs
set_option linter.unusedVariables false
set_option linter.unusedSimpArgs false
section
namespace Nun
open Go Go.RowKit
instance decU8 {p:UInt8→Prop} [DecidablePred p]:Decidable (∀ c,p c) :=
 decidable_of_iff (∀ i:Fin 256,p ⟨⟨i⟩⟩) ⟨fun h c=>h c.toBitVec.toFin,fun h i=>h _⟩
def Ret (v:Value) (w:World) (e:Ending) (w':World):Prop:=e=.returned v∧Below w.heap.size w w'
def Same (v:Value) (w:World) (e:Ending) (w':World):Prop:=e=.returned v∧w=w'
theorem r1 {v v':Value} (h:v=v'):Ending.returned v=.returned v':=by rw [h]
theorem t2 {a b c d:Value} (h:a=b) (h':c=d):Ending.returned (.tuple #[a,c])=.returned (.tuple #[b,d]):=by rw [h,h']
theorem t3 {a b c d e f:Value} (h:a=b) (h':c=d) (h'':e=f):Ending.returned (.tuple #[a,c,e])=.returned (.tuple #[b,d,f]):=by rw [h,h',h'']
theorem vi {k:IntKind} {a b:Int} (h:a=b):Value.int k a=.int k b:=by rw [h]
theorem vb {a b:Bool} (h:a=b):Value.bool a=.bool b:=by rw [h]
theorem vs {a b:List UInt8} (h:a=b):Value.string ⟨a.toArray⟩=.string ⟨b.toArray⟩:=by rw [h]
theorem vS {s:ByteArray} {b:List UInt8} (h:s.data.toList=b):Value.string s=.string ⟨b.toArray⟩:=by
 subst h;rfl
theorem below_of {w w1 w2:World} (h:Below w.heap.size w w1) (k:Below w1.heap.size w1 w2):Below w.heap.size w w2:=h.trans (k.mono h.size)
theorem conv_two {P:Program} {src dst e:TypeId} (hs:P.underlying src=some (.slice e)) (he:P.underlying e=some (.int .u8)) (hd:P.underlying dst=some .string) (w:World) (x y:UInt8) :
 (convert src dst (.slice (some ⟨w.heap.size,0,none⟩) 2 2)).run P (w.alloc (.cells #[.int .u8 x.toNat,.int .u8 y.toNat] e)).drew=.ok (.string ⟨#[x,y]⟩) (w.alloc (.cells #[.int .u8 x.toNat,.int .u8 y.toNat] e)).drew :=
 run_convert_bytes_back _ src dst e ⟨w.heap.size,0,none⟩ 2 [x,y] hs he hd (by
  intro j hj
  match j,hj with
  | 0,hj=>simp [Addr.add]
  | 1,hj=>simp [Addr.add])
theorem push1 {P:Program} {ops:Array Oper} {rest:List Oper} {o:Oper} {a:Act} {Q:Exit→Act→World→Prop} (hgd:o.guard=none) (s x:Operand) (t:TypeId)
 (ho:o.op=.call { callee:=.builtin .append,args:=#[s,x],argTypes:=#[t,t] })
 (e:TypeId) (z:Value) (size bytes:Nat) (ht:P.underlying t=some (.slice e)) (hi:(P.info? e).map (fun i=>(i.zero,i.size,i.bytes))=some (some z,size,bytes))
 (hzs:z.cells.size=size) (hsz:0<size) (B:Nat) (w:World) (v:Value) (n:Nat) (xs:List Value) (hs:a.eval s=v) (hown:w.ownsRow B e size v n xs)
 (cells:List Value) (hcs:cells.length=size) (h1:∀ u∈cells,u.oneCell'=true) (hx:a.eval x=.slice (some ⟨w.heap.size,0,none⟩) 1 1)
 (hmax:(n+1) * bytes≤140737488355328) (hn:n+1≤140737488355328) (hB:B≤w.heap.size)
 (h:∀ g cap w',B≤g→w'.ownsRow B e size (.slice (some ⟨g,0,none⟩) (n+1) cap) (n+1) (xs++cells)→w.grownBy w' v.ownBlock→Below B w w'→w.heap.size<w'.heap.size →
   wpList P ops Q rest (a.put o.dst (.slice (some ⟨g,0,none⟩) (n+1) cap)) w') :
 wpList P ops Q (o::rest) a (w.alloc (.cells cells.toArray e)):=by
 obtain ⟨i0,hi0,hz0,hz1,hz2⟩:=info_parts hi
 refine wpList_append_own _ hgd s x t ho B e i0 z size bytes ht hi0 hz0 hz1 hz2 hzs hsz v n xs hs (hown.alloc _) ⟨w.heap.size,0,none⟩ 1 1 cells hx (by omega) ?_ h1 (by unfold maxLen;omega) hmax (by simp;omega) ?_
 ·intro j u hu
  have:(w.alloc (.cells cells.toArray e)).heap[w.heap.size]? =some (.cells cells.toArray e (0,0)):=heap_alloc_new w _
  have hadd:(⟨w.heap.size,0,none⟩:Addr).add j=⟨w.heap.size,j,none⟩:=by unfold Addr.add;split<;>simp_all
  rw [hadd,cell_of_row _ _ _ _ _ _ this];simpa using hu
 ·intro v' w' hown' hg _
  have hB2:Below B w w':=(((Below.refl B w).alloc hB _).grown hg (by simp;omega) (fun k hk=>(hown.lt k hk).1))
  have hsz:=hg.size
  simp at hsz
  rcases hown'.2 with ⟨_,h0⟩ | ⟨g,cap,cur,rfl,hg0,r⟩
  ·omega
  ·exact h g cap w' hg0 hown' ⟨hg.os,hg.tape,hg.output,by omega,fun k hk hne=>(hg.block k (by simp;omega) hne).trans (Lib.alloc_old w _ k hk)⟩ hB2 (by omega)
def OwnB (B:Nat) (e:TypeId) (v:Value) (l:List UInt8) (w:World):Prop:=w.ownsRow B e 1 v l.length (Lib.byteCells l)
theorem OwnB.nil (B:Nat) (e:TypeId) (w:World):OwnB B e (.slice none 0 0) [] w:=World.ownsRow_nil _ _ _ _
theorem OwnB.kept {B:Nat} {e:TypeId} {v:Value} {l:List UInt8} {w w':World} (h:OwnB B e v l w) (k:Below w.heap.size w w'):OwnB B e v l w' :=
 World.ownsRow.kept (row:=none) h ⟨k.os,k.tape,k.output,k.size,fun i hi _=>k.block i hi⟩ (by cases v.ownBlock<;>simp)
theorem OwnB.made {B:Nat} {e:TypeId} (w:World) (hB:B≤w.heap.size) (cap:Nat) (cs:Array Value) (hc:cs.size=cap) (hm:cap≤maxLen):OwnB B e (.slice (some ⟨w.heap.size,0,none⟩) 0 cap) [] (w.alloc (.cells cs e)) :=
 World.ownsRow_made w cs cap hB hm (by omega)
theorem ext1 (s:ByteArray) (k:Nat) (h:k<s.size):(s.extract k (k+1)).data.toList=[s[k]]:=by
 have h':k<s.data.toList.length:=h
 rw [Lib.extract_data,List.drop_eq_getElem_cons h',Nat.add_sub_cancel_left];rfl
theorem conv_one {P:Program} {src dst e:TypeId} (hs:P.underlying src=some (.slice e)) (he:P.underlying e=some (.int .u8)) (hd:P.underlying dst=some .string) (w:World) (x:UInt8) :
 (convert src dst (.slice (some ⟨w.heap.size,0,none⟩) 1 1)).run P (w.alloc (.cells #[.int .u8 x.toNat] e))=.ok (.string ⟨#[x]⟩) (w.alloc (.cells #[.int .u8 x.toNat] e)) :=
 run_convert_bytes_back _ src dst e ⟨w.heap.size,0,none⟩ 1 [x] hs he hd (by
  intro j hj
  match j,hj with
  | 0,hj=>simp [Addr.add])
theorem mk_size (l:List UInt8):(ByteArray.mk l.toArray).size=l.length:=rfl
end Nun
end
section
namespace Nun
def blankC (c:UInt8):Bool:=c == 32 || c == 9
def nameC (c:UInt8):Bool:=(65≤c && c≤90) || (97≤c && c≤122) || (48≤c && c≤57) || c == 45
def nameL (l:List UInt8):Bool:=!l.isEmpty && decide (l.length≤32) && l.all nameC
def shownC (c:UInt8):Bool:=c == 9 || (32≤c && c≤126)
def trimEnd (l:List UInt8):List UInt8:=(l.reverse.dropWhile blankC).reverse
def trimB (l:List UInt8):List UInt8:=trimEnd (l.dropWhile blankC)
def crAt:List UInt8→Option Nat
 | []=>none
 | c::r=>if c=13∧r.head? =some 10 then some 0 else (crAt r).map (·+1)
theorem crAt_lt:∀ {l:List UInt8} {k:Nat},crAt l=some k→k+2≤l.length
 | c::r,k,h=>by
   rw [crAt] at h
   split at h
   ·rename_i hc
    cases h
    match r,hc with
    | d::r,_=>simp
   ·rcases hr:crAt r with _ | j
    ·rw [hr] at h;cases h
    ·rw [hr] at h
     have:=crAt_lt hr
     cases h;simp;omega
theorem crAt_some:∀ {l:List UInt8} {k:Nat},crAt l=some k→l[k]? =some 13∧l[k+1]? =some 10
 | c::r,k,h=>by
   rw [crAt] at h
   split at h
   ·rename_i hc
    cases h
    match r,hc with
    | d::r,hc=>simp at hc ⊢;exact hc
   ·rcases hr:crAt r with _ | j
    ·rw [hr] at h;cases h
    ·rw [hr] at h
     have:=crAt_some hr
     cases h;simpa using this
theorem crAt_first:∀ {l:List UInt8} {k:Nat},crAt l=some k→∀ i:Nat,i<k→¬ (l[i]? =some 13∧l[i+1]? =some 10)
 | c::r,k,h,i,hi=>by
   rw [crAt] at h
   split at h
   ·cases h;omega
   ·rename_i hc
    rcases hr:crAt r with _ | j
    ·rw [hr] at h;cases h
    ·rw [hr] at h
     obtain rfl:j+1=k:=by simpa using h
     match i with
     | 0 =>
       intro hh;apply hc
       simp at hh
       exact ⟨hh.1,by rw [List.head?_eq_getElem?];exact hh.2⟩
     | i+1=>simpa using crAt_first hr i (by omega)
theorem crAt_none:∀ {l:List UInt8},crAt l=none→∀ i:Nat,¬ (l[i]? =some 13∧l[i+1]? =some 10)
 | [],_,i=>by simp
 | c::r,h,i=>by
   rw [crAt] at h
   split at h
   ·cases h
   ·rename_i hc
    have hr:crAt r=none:=by simpa using h
    match i with
    | 0 =>
      intro hh;apply hc
      simp at hh
      exact ⟨hh.1,by rw [List.head?_eq_getElem?];exact hh.2⟩
    | i+1=>simpa using crAt_none hr i
def byteAt (b:UInt8):List UInt8→Option Nat
 | []=>none
 | c::r=>if c=b then some 0 else (byteAt b r).map (·+1)
theorem byteAt_lt {b:UInt8}:∀ {l:List UInt8} {k:Nat},byteAt b l=some k→k<l.length
 | c::r,k,h=>by
   rw [byteAt] at h
   split at h
   ·cases h;simp
   ·rcases hr:byteAt b r with _ | j
    ·rw [hr] at h;cases h
    ·rw [hr] at h
     have:=byteAt_lt hr
     cases h;simp;omega
theorem byteAt_some {b:UInt8}:∀ {l:List UInt8} {k:Nat},byteAt b l=some k→l[k]? =some b
 | c::r,k,h=>by
   rw [byteAt] at h
   split at h
   ·rename_i hc;cases h;simp [hc]
   ·rcases hr:byteAt b r with _ | j
    ·rw [hr] at h;cases h
    ·rw [hr] at h
     have:=byteAt_some hr
     cases h;simpa using this
theorem byteAt_first {b:UInt8}:∀ {l:List UInt8} {k:Nat},byteAt b l=some k→∀ i:Nat,i<k→l[i]? ≠some b
 | c::r,k,h,i,hi=>by
   rw [byteAt] at h
   split at h
   ·cases h;omega
   ·rename_i hc
    rcases hr:byteAt b r with _ | j
    ·rw [hr] at h;cases h
    ·rw [hr] at h
     obtain rfl:j+1=k:=by simpa using h
     match i with
     | 0=>simpa using hc
     | i+1=>simpa using byteAt_first hr i (by omega)
theorem byteAt_none {b:UInt8}:∀ {l:List UInt8},byteAt b l=none→∀ i:Nat,l[i]? ≠some b
 | [],_,i=>by simp
 | c::r,h,i=>by
   rw [byteAt] at h
   split at h
   ·cases h
   ·rename_i hc
    have hr:byteAt b r=none:=by simpa using h
    match i with
    | 0=>simpa using hc
    | i+1=>simpa using byteAt_none hr i
abbrev Fld:=List UInt8 × List UInt8
def lineStep (st:List Fld × Bool) (l:List UInt8):Option (List Fld × Bool) :=
 if l.all shownC=false then none
 else if (l.head?.map blankC).getD false then
  (match st.1.getLast? with
   | none=>none
   | some p=>some (st.1.dropLast++[(p.1,p.2++l)],st.2 || decide (998<l.length)))
 else match byteAt 58 l with
  | none=>none
  | some k=>if nameL (l.take k) then some (st.1++[(l.take k,l.drop (k+1))],st.2 || decide (998<l.length)) else none
def itL (l:List UInt8) (at_:Nat):List (List UInt8 × Nat) :=
 match h:crAt l with
 | none=>[]
 | some k=>(l.take k,at_+k+2)::if k=0 then [] else itL (l.drop (k+2)) (at_+k+2)
termination_by l.length
decreasing_by have:=crAt_lt h;simp;omega
theorem itL_none {l:List UInt8} {a:Nat} (h:crAt l=none):itL l a=[]:=by
 rw [itL];split
 ·rfl
 ·rename_i h';rw [h] at h';cases h'
theorem itL_some {l:List UInt8} {a k:Nat} (h:crAt l=some k):itL l a=(l.take k,a+k+2)::if k=0 then [] else itL (l.drop (k+2)) (a+k+2):=by
 rw [itL];split
 ·rename_i h';rw [h] at h';cases h'
 ·rename_i h';rw [h] at h';cases h';rfl
theorem itL_count (n:Nat):∀ (l:List UInt8) (a:Nat),l.length≤n→(itL l a).length≤l.length:=by
 induction n with
 | zero =>
   intro l a h
   rw [List.eq_nil_of_length_eq_zero (l:=l) (by omega),itL_none rfl];simp
 | succ n ih =>
   intro l a h
   rcases hc:crAt l with _ | k
   ·rw [itL_none hc];simp
   ·have:=crAt_lt hc
    rw [itL_some hc,List.length_cons]
    by_cases hk:k=0
    ·rw [if_pos hk];simp;omega
    ·rw [if_neg hk]
     have h2:=ih (l.drop (k+2)) (a+k+2) (by rw [List.length_drop];omega)
     rw [List.length_drop] at h2;omega
theorem itL_short (n:Nat):∀ (l:List UInt8) (a:Nat),l.length≤n→∀ x∈itL l a,x.1.length≤l.length:=by
 induction n with
 | zero =>
   intro l a h x hx
   rw [List.eq_nil_of_length_eq_zero (l:=l) (by omega),itL_none rfl] at hx;cases hx
 | succ n ih =>
   intro l a h x hx
   rcases hc:crAt l with _ | k
   ·rw [itL_none hc] at hx;cases hx
   ·have:=crAt_lt hc
    rw [itL_some hc] at hx
    rcases List.mem_cons.1 hx with rfl | hx
    ·show (l.take k).length≤l.length;rw [List.length_take];omega
    ·by_cases hk:k=0
     ·rw [if_pos hk] at hx;cases hx
     ·rw [if_neg hk] at hx
      have h2:=ih _ _ (by rw [List.length_drop];omega) x hx
      rw [List.length_drop] at h2;omega
def runHead:List (List UInt8 × Nat)→List Fld × Bool→Option (List Fld × Bool × Nat)
 | [],_=>none
 | (ln,a)::r,st=>if ln=[] then some (st.1,st.2,a) else match lineStep st ln with | none=>none | some st'=>runHead r st'
def linesL (ls:List (List UInt8)) (st:List Fld × Bool):Option (List Fld × Bool):=ls.foldlM lineStep st
theorem linesL_snoc (ls:List (List UInt8)) (l:List UInt8) (st:List Fld × Bool):linesL (ls++[l]) st=(linesL ls st).bind fun s=>lineStep s l:=by
 unfold linesL;rw [List.foldlM_append];simp [List.foldlM_cons,List.foldlM_nil]
inductive Split where
 | form
 | long
 | ok (l:List Fld) (body:Nat)
def splitL (l:List UInt8):Split:=match runHead (itL l 0) ([],false) with
 | none=>.form
 | some (_,true,_)=>.long
 | some (f,false,b)=>.ok (f.map fun p=>(p.1,trimB p.2)) b
end Nun
end
section
namespace Nun
open Go Go.RowKit Go.Proofs Go.Proofs.YtmpiobfdchlikaaGreatDoor
variable {lib:Callee}
theorem kev {f:FuncId} {args:List PV} {r:Ans} (h:evF code2 lib 1000 f args [] []=some r):evW code lib f args [] []=some r:=evW_iff.2 ⟨1000,by rw [code_eq];exact h⟩
def fcells:List Fld→List PV
 | []=>[]
 | (a,b)::l=>.flat (.string (S a))::.flat (.string (S b))::fcells l
def LibSplit (lib:Callee):Prop:=∀ (s:Str) (F:List Fld) (b:Nat),s.length≤10000→splitL s=.ok F b→lib 61 [.flat (.string (S s))] [] []=some ([.slc F.length (fcells F),.flat (.int .i64 (b:Nat)),.flat (.int .i64 0)],false,[],[])
def ctN:Str:=[67,111,110,116,101,110,116,45,84,121,112,101]
def cteN:Str:=[67,111,110,116,101,110,116,45,84,114,97,110,115,102,101,114,45,69,110,99,111,100,105,110,103]
def qpN:Str:=[113,117,111,116,101,100,45,112,114,105,110,116,97,98,108,101]
def typeU (kind:Str):Str:=[116,101,120,116,47]++kind
def valU (kind:Str):Str:=[116,101,120,116,47]++kind++[59,32,99,104,97,114,115,101,116,61,117,116,102,45,56]
def multiT:Str:=[109,117,108,116,105,112,97,114,116,47,97,108,116,101,114,110,97,116,105,118,101]
def multiV:Str:=[109,117,108,116,105,112,97,114,116,47,97,108,116,101,114,110,97,116,105,118,101,59,32,98,111,117,110,100,97,114,121,61,34,61,95,110,117,110,99,105,111,34]
def boundS:Str:=[61,95,110,117,110,99,105,111]
theorem split_ev (HS:LibSplit lib) (s:Str) (F:List Fld) (b:Nat) (hs:s.length≤10000) (h:splitL s=.ok F b):evW code lib 61 [.flat (.string (S s))] [] []=some ([.slc F.length (fcells F),.flat (.int .i64 (b:Nat)),.flat (.int .i64 0)],false,[],[]) :=
 evW_lib (by decide) (by kernel_rfl) (HS s F b hs h)
theorem par_p:evW code lib 63 [.flat (.string (S (valU plainS)))] [] []=some ([.flat (.string (S (typeU plainS))),.slc 1 [.flat (.string (S [99,104,97,114,115,101,116])),.flat (.string (S [117,116,102,45,56]))],.flat (.int .i64 0)],false,[],[]):=kev (by kernel_rfl)
theorem par_h:evW code lib 63 [.flat (.string (S (valU htmlS)))] [] []=some ([.flat (.string (S (typeU htmlS))),.slc 1 [.flat (.string (S [99,104,97,114,115,101,116])),.flat (.string (S [117,116,102,45,56]))],.flat (.int .i64 0)],false,[],[]):=kev (by kernel_rfl)
theorem par_m:evW code lib 63 [.flat (.string (S multiV))] [] []=some ([.flat (.string (S multiT)),.slc 1 [.flat (.string (S [98,111,117,110,100,97,114,121])),.flat (.string (S boundS))],.flat (.int .i64 0)],false,[],[]):=kev (by kernel_rfl)
theorem fo_p:evW code lib 64 [.flat (.string (S (typeU plainS)))] [] []=some ([.flat (.string (S (typeU plainS)))],false,[],[]):=kev (by kernel_rfl)
theorem fo_h:evW code lib 64 [.flat (.string (S (typeU htmlS)))] [] []=some ([.flat (.string (S (typeU htmlS)))],false,[],[]):=kev (by kernel_rfl)
theorem fo_m:evW code lib 64 [.flat (.string (S multiT))] [] []=some ([.flat (.string (S multiT))],false,[],[]):=kev (by kernel_rfl)
theorem fo_c:evW code lib 64 [.flat (.string (S [99,104,97,114,115,101,116]))] [] []=some ([.flat (.string (S [99,104,97,114,115,101,116]))],false,[],[]):=kev (by kernel_rfl)
theorem fo_b:evW code lib 64 [.flat (.string (S [98,111,117,110,100,97,114,121]))] [] []=some ([.flat (.string (S [98,111,117,110,100,97,114,121]))],false,[],[]):=kev (by kernel_rfl)
theorem fo_q:evW code lib 64 [.flat (.string (S qpN))] [] []=some ([.flat (.string (S qpN))],false,[],[]):=kev (by kernel_rfl)
theorem fo_0:evW code lib 64 [.flat (.string (S []))] [] []=some ([.flat (.string (S []))],false,[],[]):=kev (by kernel_rfl)
theorem ty_p:evW code lib 65 [.flat (.string (S (typeU plainS)))] [] []=some ([.flat (.bool true)],false,[],[]):=kev (by kernel_rfl)
theorem ty_h:evW code lib 65 [.flat (.string (S (typeU htmlS)))] [] []=some ([.flat (.bool true)],false,[],[]):=kev (by kernel_rfl)
theorem ty_m:evW code lib 65 [.flat (.string (S multiT))] [] []=some ([.flat (.bool true)],false,[],[]):=kev (by kernel_rfl)
theorem be_p:evW code lib 60 [.flat (.string (S (typeU plainS))),.flat (.string (S [109,117,108,116,105,112,97,114,116,47])),.flat (.int .i64 0)] [] []=some ([.flat (.bool false)],false,[],[]):=kev (by kernel_rfl)
theorem be_h:evW code lib 60 [.flat (.string (S (typeU htmlS))),.flat (.string (S [109,117,108,116,105,112,97,114,116,47])),.flat (.int .i64 0)] [] []=some ([.flat (.bool false)],false,[],[]):=kev (by kernel_rfl)
theorem be_m:evW code lib 60 [.flat (.string (S multiT)),.flat (.string (S [109,117,108,116,105,112,97,114,116,47])),.flat (.int .i64 0)] [] []=some ([.flat (.bool true)],false,[],[]):=kev (by kernel_rfl)
theorem ma_b:evW code lib 68 [.flat (.string (S boundS))] [] []=some ([.flat (.bool true)],false,[],[]):=kev (by kernel_rfl)
def partF (kind:Str):List Fld:=[(ctN,valU kind),(cteN,qpN)]
def mailF (a b c:Str):List Fld:=[(fromS,a),(toS,b),(subjS,c),([77,73,77,69,45,86,101,114,115,105,111,110],[49,46,48]),(ctN,multiV)]
theorem gp_t (kind:Str):evW code lib 62 [.slc 2 (fcells (partF kind)),.flat (.string (S ctN))] [] []=some ([.flat (.string (S (valU kind))),.flat (.int .i64 1)],false,[],[]):=kev (by kernel_rfl)
theorem gp_c (kind:Str):evW code lib 62 [.slc 2 (fcells (partF kind)),.flat (.string (S cteN))] [] []=some ([.flat (.string (S qpN)),.flat (.int .i64 1)],false,[],[]):=kev (by kernel_rfl)
theorem gm_t (a b c:Str):evW code lib 62 [.slc 5 (fcells (mailF a b c)),.flat (.string (S ctN))] [] []=some ([.flat (.string (S multiV)),.flat (.int .i64 1)],false,[],[]):=kev (by kernel_rfl)
theorem gm_c (a b c:Str):evW code lib 62 [.slc 5 (fcells (mailF a b c)),.flat (.string (S cteN))] [] []=some ([.flat (.string (S [])),.flat (.int .i64 0)],false,[],[]):=kev (by kernel_rfl)
theorem fcells_np:∀ F:List Fld,noPtrs (fcells F)=true
 | []=>rfl
 | (a,b)::l=>by show noPtrs (.flat (.string (S a))::.flat (.string (S b))::fcells l)=true;simp only [noPtrs,PV.noPtr,fcells_np l,Bool.true_and]
theorem fcells_low {n:Nat}:∀ F:List Fld,lows n (fcells F)=true
 | []=>rfl
 | (a,b)::l=>by show lows n (.flat (.string (S a))::.flat (.string (S b))::fcells l)=true;simp only [lows,PV.low,fcells_low l,Bool.true_and]
def pcell (F:List Fld) (ty tx:Str) (n:Nat) (ps:List PV):List PV:=[.slc F.length (fcells F),.flat (.string (S ty)),.flat (.string (S tx)),.slc n ps]
theorem ne_cb:(([99,104,97,114,115,101,116]:Str)=[98,111,117,110,100,97,114,121])=False:=eq_false (by decide)
theorem read_part {kind:Str} (HS:LibSplit lib) (hk:kind=plainS∨kind=htmlS) (s t:Str) (at_ deep parts:Nat) (hs:s.length≤10000) (h1:splitL s=.ok (partF kind) at_) (hat:at_≤s.length)
 (hd:evW code lib 66 [.flat (.string (S (s.drop at_))),.flat (.string (S qpN))] [] []=some ([.flat (.string (S t)),.flat (.bool true)],false,[],[])) :
 evW code lib 37 [.flat (.string (S s)),.flat (.int .i64 (deep:Nat)),.flat (.int .i64 (parts:Nat))] [] []=some ([.agg (pcell (partF kind) (typeU kind) t 0 []),.flat (.int .i64 (parts:Nat)),.flat (.int .i64 0)],false,[],[]):=by
 have f1:=split_ev HS s _ _ hs h1
 have f2:=gp_t (lib:=lib) kind
 have f3:=gp_c (lib:=lib) kind
 have hl:(partF kind).length=2:=rfl
 unfold ctN at f2;unfold cteN qpN at f3;unfold qpN at hd
 rw [hl] at f1
 have hnp:=fcells_np (partF kind)
 have tk:(s.take s.length).drop at_=s.drop at_:=by rw [List.take_length]
 refine evW_eq code_n14_read (Nat.le_of_ble_eq_true rfl) ?_
 simp only [pcell,hl]
 rcases hk with rfl | rfl
 ·have f4:=par_p (lib:=lib);have f5:=fo_p (lib:=lib);have f6:=ty_p (lib:=lib);have f7:=be_p (lib:=lib);have f8:=fo_c (lib:=lib);have f9:=fo_q (lib:=lib);unfold qpN at f9
  generalize typeU plainS=ty at *
  generalize valU plainS=va at *
  simp (maxSteps:=999999) (disch:=first | assumption | omega) only [go_sem,simprocAttr,au,f1,f2,f3,f4,f5,f6,f7,f8,f9,hd,hnp,fcells_low,tk,ne_cb,big_on,loop_on,kLoop_n,kLoop_e,on_n14_read_0]
 ·have f4:=par_h (lib:=lib);have f5:=fo_h (lib:=lib);have f6:=ty_h (lib:=lib);have f7:=be_h (lib:=lib);have f8:=fo_c (lib:=lib);have f9:=fo_q (lib:=lib);unfold qpN at f9
  generalize typeU htmlS=ty at *
  generalize valU htmlS=va at *
  simp (maxSteps:=999999) (disch:=first | assumption | omega) only [go_sem,simprocAttr,au,f1,f2,f3,f4,f5,f6,f7,f8,f9,hd,hnp,fcells_low,tk,ne_cb,big_on,loop_on,kLoop_n,kLoop_e,on_n14_read_0]
def pcell2 (F:List Fld) (ty:Str) (a b:List PV):List PV:=[.slc F.length (fcells F),.flat (.string (S ty)),.flat (.string (S [])),.slc 2 (a++b)]
theorem read_mail (HS:LibSplit lib) (s b1 b2 t1 t2 x1 x2 x3:Str) (at_:Nat) (hs:s.length≤10000) (h1:splitL s=.ok (mailF x1 x2 x3) at_) (hat:at_≤s.length)
 (hb:evW code lib 67 [.flat (.string (S (s.drop at_))),.flat (.string (S boundS))] [] []=some ([.slc 2 [.flat (.string (S b1)),.flat (.string (S b2))],.flat (.bool true)],false,[],[]))
 (p1:evW code lib 37 [.flat (.string (S b1)),.flat (.int .i64 1),.flat (.int .i64 2)] [] []=some ([.agg (pcell (partF plainS) (typeU plainS) t1 0 []),.flat (.int .i64 2),.flat (.int .i64 0)],false,[],[]))
 (p2:evW code lib 37 [.flat (.string (S b2)),.flat (.int .i64 1),.flat (.int .i64 2)] [] []=some ([.agg (pcell (partF htmlS) (typeU htmlS) t2 0 []),.flat (.int .i64 2),.flat (.int .i64 0)],false,[],[])) :
 evW code lib 37 [.flat (.string (S s)),.flat (.int .i64 0),.flat (.int .i64 0)] [] []=some ([.agg (pcell2 (mailF x1 x2 x3) multiT (pcell (partF plainS) (typeU plainS) t1 0 []) (pcell (partF htmlS) (typeU htmlS) t2 0 [])),.flat (.int .i64 2),.flat (.int .i64 0)],false,[],[]):=by
 have f1:=split_ev HS s _ _ hs h1
 have f2:=gm_t (lib:=lib) x1 x2 x3
 have f3:=gm_c (lib:=lib) x1 x2 x3
 have hl:(mailF x1 x2 x3).length=5:=rfl
 have hl2:(partF plainS).length=2:=rfl
 have hl3:(partF htmlS).length=2:=rfl
 unfold ctN at f2;unfold cteN at f3
 rw [hl] at f1
 have hnp:=fcells_np (mailF x1 x2 x3)
 have hnp2:=fcells_np (partF plainS)
 have hnp3:=fcells_np (partF htmlS)
 have hlo:=fun n=>fcells_low (n:=n) (mailF x1 x2 x3)
 have hlo2:=fun n=>fcells_low (n:=n) (partF plainS)
 have hlo3:=fun n=>fcells_low (n:=n) (partF htmlS)
 have hbv:bound=4294967296:=rfl
 have tk:(s.take s.length).drop at_=s.drop at_:=by rw [List.take_length]
 have f4:=par_m (lib:=lib);have f5:=fo_m (lib:=lib);have f6:=ty_m (lib:=lib);have f7:=be_m (lib:=lib);have f8:=fo_b (lib:=lib);have f9:=fo_0 (lib:=lib);have f10:=ma_b (lib:=lib)
 refine evW_eq code_n14_read (Nat.le_of_ble_eq_true rfl) ?_
 simp only [pcell,pcell2,hl,hl2,hl3] at p1 p2 ⊢
 generalize typeU plainS=ty1 at *
 generalize typeU htmlS=ty2 at *
 generalize multiT=ty at *
 generalize multiV=va at *
 generalize boundS=bo at *
 generalize fcells (mailF x1 x2 x3)=fm at *
 generalize fcells (partF plainS)=fp at *
 generalize fcells (partF htmlS)=fh at *
 simp (maxSteps:=999999) (disch:=first | assumption | omega) only [go_sem,simprocAttr,au,f1,f2,f3,f4,f5,f6,f7,f8,f9,f10,hb,p1,p2,hnp,hnp2,hnp3,hlo,hlo2,hlo3,tk,big_on,loop_on,kLoop_n,kLoop_e,on_n14_read_0,on_n14_read_1]
end Nun
end
section
namespace Nun
open Go Go.RowKit Go.Proofs Go.Proofs.YtmpiobfdchlikaaGreatDoor
theorem crAt_line:∀ (x r:Str),(∀ c∈x,c≠13)→crAt (x++13::10::r)=some x.length
 | [],r,_=>by simp [crAt]
 | c::x,r,h=>by
   rw [List.cons_append,crAt,if_neg (fun hc=>h c (by simp) hc.1),crAt_line x r fun d hd=>h d (by simp [hd])];rfl
theorem itL_line (x r:Str) (a:Nat) (h:∀ c∈x,c≠13):itL (x++13::10::r) a=(x,a+x.length+2)::if x=[] then [] else itL r (a+x.length+2):=by
 rw [itL_some (crAt_line x r h)]
 have h1:(x++13::10::r).take x.length=x:=by simp
 have h2:(x++13::10::r).drop (x.length+2)=r:=by rw [List.drop_append];simp
 rw [h1,h2]
 by_cases hx:x=[]
 ·subst hx;rfl
 ·rw [if_neg (fun e=>hx (List.eq_nil_of_length_eq_zero e)),if_neg hx]
theorem run_lines:∀ (L:List Str) (r:Str) (a:Nat) (st st':List Fld × Bool),(∀ x∈L,x≠[]∧∀ c∈x,c≠13)→linesL L st=some st' →
 runHead (itL (linesU L++13::10::r) a) st=some (st'.1,st'.2,a+(linesU L).length+2)
 | [],r,a,st,st',_,h=>by
   simp [linesL] at h
   subst h
   have:=itL_line [] r a (by simp)
   simp only [List.nil_append] at this
   rw [show linesU []++13::10::r=13::10::r from rfl,this]
   rfl
 | x::L,r,a,st,st',hx,h=>by
   obtain ⟨hn,h13⟩:=hx x (by simp)
   rw [linesL,List.foldlM_cons] at h
   obtain ⟨s1,h1,h2⟩:=Option.bind_eq_some_iff.1 h
   have e:linesU (x::L)++13::10::r=x++13::10::(linesU L++13::10::r):=by
    rw [linesU,crlf,List.append_assoc,List.append_assoc];rfl
   rw [e,itL_line _ _ _ h13,if_neg hn,runHead,if_neg hn,h1]
   dsimp only
   rw [run_lines L r _ s1 st' (fun y hy=>hx y (by simp [hy])) h2]
   have:(linesU (x::L)).length=x.length+2+(linesU L).length:=by rw [linesU,crlf];simp only [List.length_append,List.length_cons,List.length_nil]
   rw [this]
   congr 3;omega
theorem split_lines (L:List Str) (r:Str) (F:List Fld) (h:∀ x∈L,x≠[]∧∀ c∈x,c≠13) (hl:linesL L ([],false)=some (F,false)) :
 splitL (linesU L++13::10::r)=.ok (F.map fun p=>(p.1,trimB p.2)) ((linesU L).length+2):=by
 unfold splitL
 rw [run_lines L r 0 _ _ h hl]
 simp
end Nun
end
section
namespace Go.Proofs
open Go.Shelf
def Tryz.lays169_ren:Go.Shelf.Ren:=⟨fun | 169=>28 | n=>n,fun | 70=>57 | 9=>9 | 0=>0 | 72=>59 | 37=>44 | 127=>93 | 3=>3 | 5=>5 | n=>n,fun | n=>n⟩
theorem Tryz.lays169:Go.Proofs.Lays.n169 Tryz.prog Tryz.lays169_ren:={
 mixed:=by kernel_rfl
 f169:=Tryz.func28.trans (congrArg some (by kernel_rfl))
 t0:=Tryz.underlying0
 a0:=Tryz.isAgg0
 z0:=Tryz.sizeOf0
 v0:=Tryz.zeroValue0
 t3:=Tryz.underlying3
 a3:=Tryz.isAgg3
 z3:=Tryz.sizeOf3
 v3:=Tryz.zeroValue3
 t9:=Tryz.underlying9
 a9:=Tryz.isAgg9
 z9:=Tryz.sizeOf9
 v9:=Tryz.zeroValue9
 t37:=Tryz.underlying44
 a37:=Tryz.isAgg44
 z37:=Tryz.sizeOf44
 v37:=Tryz.zeroValue44
 t70:=Tryz.underlying57
 a70:=Tryz.isAgg57
 z70:=Tryz.sizeOf57
 v70:=Tryz.zeroValue57
 t72:=Tryz.underlying59
 a72:=Tryz.isAgg59
 z72:=Tryz.sizeOf59
 v72:=Tryz.zeroValue59
 t127:=Tryz.underlying93
 a127:=Tryz.isAgg93
 z127:=Tryz.sizeOf93
 v127:=Tryz.zeroValue93 }
theorem Tryz.Builder_Extra_169:Builder.Extra Tryz.prog Tryz.lays169_ren:={
 sizeBuilder:=by kernel_rfl
 liesBuilder:=by kernel_rfl
 t5:=Tryz.underlying5
 a5:=Tryz.isAgg5
 z5:=Tryz.sizeOf5
 v5:=Tryz.zeroValue5
 infoByte:=by kernel_rfl
 cellsByte:=by kernel_rfl
 sizeByte:=by kernel_rfl
 neB5:=by decide }
def Tryz.lays137_ren:Go.Shelf.Ren:=⟨fun | 137=>32 | 217=>55 | 266=>105 | n=>n,fun | 9=>9 | 5=>5 | 3=>3 | n=>n,fun | n=>n⟩
theorem Tryz.lays137:Go.Proofs.Lays.n137 Tryz.prog Tryz.lays137_ren:={
 mixed:=by kernel_rfl
 f137:=Tryz.func32.trans (congrArg some (by kernel_rfl))
 f217:=Tryz.func55.trans (congrArg some (by kernel_rfl))
 f266:=Tryz.func105.trans (congrArg some (by kernel_rfl))
 t3:=Tryz.underlying3
 a3:=Tryz.isAgg3
 z3:=Tryz.sizeOf3
 v3:=Tryz.zeroValue3
 t5:=Tryz.underlying5
 a5:=Tryz.isAgg5
 z5:=Tryz.sizeOf5
 v5:=Tryz.zeroValue5
 t9:=Tryz.underlying9
 a9:=Tryz.isAgg9
 z9:=Tryz.sizeOf9
 v9:=Tryz.zeroValue9 }
open Go.RowKit in
theorem Tryz.strings_IndexByte (s:ByteArray) (c:Int) (w:World) :
 Calls Tryz.prog 32 #[.string s,.int .u8 c] w fun e w'=>e=.returned (.int .i64 (Lib.indexByte s.data.toList c.toNat.toUInt8))∧w'=w:=Any.strings_IndexByte Tryz.lays137 s c w
open Go.RowKit in
theorem Tryz.Builder_String_any_k (B b:Nat) (l:List UInt8) (w:World) (h:Lib.IsBuilderF 59 5 B b (Lib.byteCells l) w) (hBw:B≤w.heap.size) :
 Calls Tryz.prog 28 #[.pointer (some ⟨b,0,none⟩)] w fun e w'=>e=.returned (.string ⟨l.toArray⟩)∧(Lib.IsBuilderF 59 5 B b (Lib.byteCells l) w'∧Below B w w'∧Lib.OthersKept 5 (some b) w w'):=Any.Builder_String_any_k Tryz.lays169 Tryz.Builder_Extra_169 B b l w h hBw
def Tryz.lays144_ren:Go.Shelf.Ren:=⟨fun | 144=>35 | 143=>59 | 219=>110 | 217=>55 | 225=>165 | 224=>166 | 267=>167 | 266=>105 | 314=>200 | n=>n,fun | 9=>9 | 4=>4 | 3=>3 | 5=>5 | 46=>155 | 146=>220 | 51=>211 | n=>n,fun | 1=>0 | n=>n⟩
theorem Tryz.lays144:Go.Proofs.Lays.n144 Tryz.prog Tryz.lays144_ren:={
 mixed:=by kernel_rfl
 f143:=Tryz.func59.trans (congrArg some (by kernel_rfl))
 f144:=Tryz.func35.trans (congrArg some (by kernel_rfl))
 f217:=Tryz.func55.trans (congrArg some (by kernel_rfl))
 f219:=Tryz.func110.trans (congrArg some (by kernel_rfl))
 f224:=Tryz.func166.trans (congrArg some (by kernel_rfl))
 f225:=Tryz.func165.trans (congrArg some (by kernel_rfl))
 f266:=Tryz.func105.trans (congrArg some (by kernel_rfl))
 f267:=Tryz.func167.trans (congrArg some (by kernel_rfl))
 f314:=Tryz.func200.trans (congrArg some (by kernel_rfl))
 t3:=Tryz.underlying3
 a3:=Tryz.isAgg3
 z3:=Tryz.sizeOf3
 v3:=Tryz.zeroValue3
 t4:=Tryz.underlying4
 a4:=Tryz.isAgg4
 z4:=Tryz.sizeOf4
 v4:=Tryz.zeroValue4
 t5:=Tryz.underlying5
 a5:=Tryz.isAgg5
 z5:=Tryz.sizeOf5
 v5:=Tryz.zeroValue5
 t9:=Tryz.underlying9
 a9:=Tryz.isAgg9
 z9:=Tryz.sizeOf9
 v9:=Tryz.zeroValue9
 t46:=Tryz.underlying155
 a46:=Tryz.isAgg155
 z46:=Tryz.sizeOf155
 v46:=Tryz.zeroValue155
 t51:=Tryz.underlying211
 a51:=Tryz.isAgg211
 z51:=Tryz.sizeOf211
 v51:=Tryz.zeroValue211
 t146:=Tryz.underlying220
 a146:=Tryz.isAgg220
 z146:=Tryz.sizeOf220
 v146:=Tryz.zeroValue220
 g1:=by kernel_rfl }
open Go.RowKit Go.Lib in
theorem Tryz.strings_Contains (s sub:ByteArray) (m:Int) (w:World) (hs:s.size<4294967281) (hm:w.cell? ⟨0,0,none⟩=some (.int .i64 m)) :
 Calls Tryz.prog 35 #[.string s,.string sub] w fun e w'=>e=.returned (.bool (Lib.contains s.data.toList sub.data.toList))∧w'=w:=Any.strings_Contains Tryz.lays144 s sub m w hs hm
def Tryz.lays149_ren:Go.Shelf.Ren:=⟨fun | 149=>34 | 222=>58 | n=>n,fun | 9=>9 | 5=>5 | 3=>3 | 4=>4 | n=>n,fun | n=>n⟩
theorem Tryz.lays149:Go.Proofs.Lays.n149 Tryz.prog Tryz.lays149_ren:={
 mixed:=by kernel_rfl
 f149:=Tryz.func34.trans (congrArg some (by kernel_rfl))
 f222:=Tryz.func58.trans (congrArg some (by kernel_rfl))
 t3:=Tryz.underlying3
 a3:=Tryz.isAgg3
 z3:=Tryz.sizeOf3
 v3:=Tryz.zeroValue3
 t4:=Tryz.underlying4
 a4:=Tryz.isAgg4
 z4:=Tryz.sizeOf4
 v4:=Tryz.zeroValue4
 t5:=Tryz.underlying5
 a5:=Tryz.isAgg5
 z5:=Tryz.sizeOf5
 v5:=Tryz.zeroValue5
 t9:=Tryz.underlying9
 a9:=Tryz.isAgg9
 z9:=Tryz.sizeOf9
 v9:=Tryz.zeroValue9 }
open Go.RowKit Go.Lib in
theorem Tryz.strings_LastIndexByte (s:ByteArray) (c:Int) (hs:s.size<4611686018427387904) (w:World) :
 Calls Tryz.prog 34 #[.string s,.int .u8 c] w fun e w'=>e=.returned (.int .i64 (Lib.lastIndexByte s c))∧w'=w:=Any.strings_LastIndexByte Tryz.lays149 s c hs w
def Tryz.lays99_ren:Go.Shelf.Ren:=⟨fun | 99=>74 | 206=>127 | n=>n,fun | 9=>9 | 4=>4 | 3=>3 | n=>n,fun | n=>n⟩
theorem Tryz.lays99:Go.Proofs.Lays.n99 Tryz.prog Tryz.lays99_ren:={
 mixed:=by kernel_rfl
 f99:=Tryz.func74.trans (congrArg some (by kernel_rfl))
 f206:=Tryz.func127.trans (congrArg some (by kernel_rfl))
 t3:=Tryz.underlying3
 a3:=Tryz.isAgg3
 z3:=Tryz.sizeOf3
 v3:=Tryz.zeroValue3
 t4:=Tryz.underlying4
 a4:=Tryz.isAgg4
 z4:=Tryz.sizeOf4
 v4:=Tryz.zeroValue4
 t9:=Tryz.underlying9
 a9:=Tryz.isAgg9
 z9:=Tryz.sizeOf9
 v9:=Tryz.zeroValue9 }
open Go.RowKit Go.Lib in
theorem Tryz.strings_HasPrefix (s p:ByteArray) (w:World) :
 Calls Tryz.prog 74 #[.string s,.string p] w fun e w'=>e=.returned (.bool (Lib.hasPrefix s.data.toList p.data.toList))∧w'=w:=Any.strings_HasPrefix Tryz.lays99 s p w
end Go.Proofs
end
section
set_option synthInstance.maxSize 4000
namespace Nun
open Go Go.RowKit
theorem take_all (p:UInt8→Bool) (s:ByteArray) (k:Nat) (h:k<s.size):(s.data.toList.take (k+1)).all p=((s.data.toList.take k).all p && p s[k]):=by
 have h':k<s.data.toList.length:=h
 rw [List.take_succ_eq_append_getElem h',List.all_append];simp;rfl
theorem all_bad (p:UInt8→Bool) (s:ByteArray) (k:Nat) (h:k<s.size) (hb:p s[k]=false):s.data.toList.all p=false:=by
 rw [List.all_eq_false]
 exact ⟨s[k],by have:s.data.toList[k]'h=s[k]:=rfl
                rw [← this];exact List.getElem_mem _,by simp [hb]⟩
theorem all_end (p:UInt8→Bool) (s:ByteArray):(s.data.toList.take s.size).all p=s.data.toList.all p:=by
 rw [List.take_of_length_le (by show s.size≤s.size;omega)]
end Nun
namespace Go.Proofs.YtmpiobfdchlikaaGreatDoor
open Go.RowKit Nun
theorem infoByte:(Tryz.prog.info? 5).map (fun i=>(i.zero,i.size,i.bytes))=some (some (.int .u8 0),1,1):=by kernel_rfl
set_option maxHeartbeats 1000000 in
theorem right_ref (s:ByteArray) (w:World) (hs:s.size≤maxLen):Calls Tryz.prog 112 #[.string s] w (Same (.bool (s.data.toList.all shownC)) w):=by
 unfold maxLen at hs
 obtain ⟨V,hV⟩:∃ V,s.data.toList.all shownC=V:=⟨_,rfl⟩
 rw [hV]
 have HV:=Lib.hid hV;clear hV
 go_enter Tryz.func112,Tryz.ntmps112
 go_wp2
 go_loop [3] (fun i=>∃ k:Nat,k≤s.size∧i=.int .i64 k∧Hid ((s.data.toList.take k).all shownC=true)) (fun i=>s.size - (intOf i).toNat)
 case atStart=>exact ⟨0,Nat.zero_le _,rfl,Lib.hid rfl⟩
 case round =>
  obtain ⟨k,hk,rfl,hall⟩:=hrel
  by_cases hlt:k<s.size
  ·have hst:=take_all shownC s k hlt
   have hbad:=all_bad shownC s k hlt
   rw [HV.out] at hbad
   generalize hc:s[k]=c at *
   have HS:=Lib.hid hst;have HB:=Lib.hid hbad;clear hst hbad
   go_wp2
   all_goals (try (go_ret;exact ⟨r1 (vb (HB.out (by (clear hc HS HB hall);(go_light;revert c;decide +kernel))).symm),rfl⟩))
   all_goals
    have hstep:shownC c=true:=by (clear hc HS HB hall);(go_light;revert c;decide +kernel)
    go_round
    case rel=>exact ⟨k+1,by omega,by go_num,Lib.hid (by rw [HS.out,hall.out,hstep];rfl)⟩
    case measure=>simp [intOf];omega
  ·obtain rfl:k=s.size:=by omega
   have hend:=hall.out
   rw [all_end,HV.out] at hend
   subst hend
   go_wp2
   go_ret
   exact ⟨rfl,rfl⟩
set_option maxHeartbeats 1000000 in
theorem name_ref (s:ByteArray) (w:World) (hs:s.size≤maxLen):Calls Tryz.prog 49 #[.string s] w (Same (.bool (nameL s.data.toList)) w):=by
 unfold maxLen at hs
 obtain ⟨V,hV⟩:∃ V,nameL s.data.toList=V:=⟨_,rfl⟩
 rw [hV]
 by_cases hlen:s.size<1∨32<s.size
 ·have hv0:V=false:=by
   rw [← hV,nameL]
   rcases hlen with h | h
   ·have:s.data.toList=[]:=List.eq_nil_of_length_eq_zero (by show s.size=0;omega)
    rw [this];rfl
   ·rw [show s.data.toList.length=s.size from rfl,show decide (s.size≤32)=false by simp;omega];simp
  subst hv0
  clear hV
  by_cases h1:s.size<1
  ·have h1':(s.size:Int)<1:=by omega
   clear hlen
   go_enter Tryz.func49,Tryz.ntmps49
   go_wp2
   go_ret
   exact ⟨rfl,rfl⟩
  ·have h2':(32:Int)<s.size:=by omega
   clear hlen
   go_enter Tryz.func49,Tryz.ntmps49
   go_wp2
   go_ret
   exact ⟨rfl,rfl⟩
 ·have hVa:V=s.data.toList.all nameC:=by
   rw [← hV,nameL,show s.data.toList.length=s.size from rfl,show decide (s.size≤32)=true by simp;omega]
   have:s.data.toList.isEmpty=false:=by
    rcases h:s.data.toList with _ | ⟨c,r⟩
    ·have:s.size=0:=congrArg List.length h
     omega
    ·rfl
   rw [this];simp
  have HV:=Lib.hid hVa.symm;clear hV hVa
  have h1':¬ (s.size:Int)<1:=by omega
  have h2':¬ (32:Int)<s.size:=by omega
  go_enter Tryz.func49,Tryz.ntmps49
  go_wp2
  go_loop [3,4] (fun i _=>∃ k:Nat,k≤s.size∧i=.int .i64 k∧Hid ((s.data.toList.take k).all nameC=true)) (fun i _=>s.size - (intOf i).toNat)
  case atStart=>exact ⟨0,Nat.zero_le _,rfl,Lib.hid rfl⟩
  case round =>
   obtain ⟨k,hk,rfl,hall⟩:=hrel
   by_cases hlt:k<s.size
   ·have hst:=take_all nameC s k hlt
    have hbad:=all_bad nameC s k hlt
    rw [HV.out] at hbad
    generalize hc:s[k]=c at *
    have HS:=Lib.hid hst;have HB:=Lib.hid hbad;clear hst hbad
    go_wp2
    all_goals (try (go_ret;exact ⟨r1 (vb (HB.out (by (clear hc HS HB hall);(go_light;revert c;decide +kernel))).symm),rfl⟩))
    all_goals
     have hstep:nameC c=true:=by (clear hc HS HB hall);(go_light;revert c;decide +kernel)
     go_round
     case rel=>exact ⟨k+1,by omega,by go_num,Lib.hid (by rw [HS.out,hall.out,hstep];rfl)⟩
     case measure=>simp [intOf];omega
   ·obtain rfl:k=s.size:=by omega
    have hend:=hall.out
    rw [all_end,HV.out] at hend
    subst hend
    go_wp2
    go_ret
    exact ⟨rfl,rfl⟩
end Go.Proofs.YtmpiobfdchlikaaGreatDoor
end
section
namespace Nun
open Go Go.RowKit
def BytesAt (g:Nat) (l:List UInt8) (w:World):Prop:=g<w.heap.size∧∀ (j:Nat) (c:UInt8),l[j]? =some c→w.cell? ⟨g,j,none⟩=some (.int .u8 c.toNat)∧w.frozen? ⟨g,j,none⟩=false
theorem BytesAt.kept {g:Nat} {l:List UInt8} {w w':World} (h:BytesAt g l w) (k:Below w.heap.size w w'):BytesAt g l w' :=
 ⟨Nat.lt_of_lt_of_le h.1 k.size,fun j c hj=>⟨(k.cell (p:=⟨g,j,none⟩) h.1).trans (h.2 j c hj).1,(k.frozen (p:=⟨g,j,none⟩) h.1).trans (h.2 j c hj).2⟩⟩
theorem BytesAt.put {g:Nat} {l:List UInt8} {w:World} (h:BytesAt g l w) (k:Nat) (hk:k<l.length) (d:UInt8):BytesAt g (l.set k d) (w.setCell ⟨g,k,none⟩ (.int .u8 d.toNat)):=by
 have hc:=(h.2 k _ (List.getElem?_eq_getElem hk)).1
 refine ⟨by have:=h.1;simpa using this,fun j c hj=>?_⟩
 by_cases hjk:j=k
 ·subst hjk
  rw [List.getElem?_set_self hk] at hj
  cases hj
  exact ⟨World.cell?_setCell_same _ _ _ hc,by rw [World.frozen?_setCell];exact (h.2 _ _ (List.getElem?_eq_getElem hk)).2⟩
 ·rw [List.getElem?_set_ne (by omega)] at hj
  obtain ⟨h1,h2⟩:=h.2 j c hj
  exact ⟨by rw [World.cell?_setCell_other _ _ _ _ (by simp [Ne.symm hjk])];exact h1,by rw [World.frozen?_setCell];exact h2⟩
end Nun
end
section
set_option synthInstance.maxSize 4000
namespace Go.Proofs.YtmpiobfdchlikaaGreatDoor
open Go.RowKit Nun
end Go.Proofs.YtmpiobfdchlikaaGreatDoor
namespace Nun
theorem trimEnd_snoc (l:List UInt8) (c:UInt8):trimEnd (l++[c])=if blankC c then trimEnd l else l++[c]:=by
 unfold trimEnd
 rw [List.reverse_append,List.reverse_singleton,List.singleton_append,List.dropWhile_cons]
 cases blankC c<;>simp
theorem drop_one (t:ByteArray) (h:0<t.size):t.data.toList=t[0]::(t.extract 1 t.size).data.toList:=by
 have h':0<t.data.toList.length:=h
 have e:=List.drop_eq_getElem_cons h'
 rw [List.drop_zero] at e
 rw [Go.Lib.extract_data,List.take_of_length_le (by rw [List.length_drop];show t.size - 1≤t.size - 1;omega)]
 exact e
theorem drop_last (t:ByteArray) (h:0<t.size):t.data.toList=(t.extract 0 (t.size - 1)).data.toList++[t[t.size - 1]]:=by
 have h':t.size - 1<t.data.toList.length:=by show t.size - 1<t.size;omega
 have e:=List.take_succ_eq_append_getElem h'
 rw [show t.size - 1+1=t.size by omega,List.take_of_length_le (by show t.size≤t.size;omega)] at e
 rw [Go.Lib.extract_data,List.drop_zero,Nat.sub_zero]
 exact e
def begL (s x:List UInt8) (k:Nat):Bool:=decide (k≤s.length) && ((s.drop k).take x.length == x)
end Nun
namespace Go.Proofs.YtmpiobfdchlikaaGreatDoor
open Go.RowKit Nun
set_option maxHeartbeats 1000000 in
theorem trim_ref (s:ByteArray) (w:World) (hs:s.size≤1000000000):Calls Tryz.prog 114 #[.string s] w (Same (.string ⟨(trimB s.data.toList).toArray⟩) w):=by
 obtain ⟨D,hD⟩:∃ D,s.data.toList.dropWhile blankC=D:=⟨_,rfl⟩
 obtain ⟨V,hV⟩:∃ V,trimEnd D=V:=⟨_,rfl⟩
 have hVV:trimB s.data.toList=V:=by rw [trimB,hD,hV]
 rw [hVV]
 have HD:=Lib.hid hD;have HV:=Lib.hid hV;clear hD hV hVV
 go_enter Tryz.func114,Tryz.ntmps114
 go_wp2
 go_loop [0] (fun v=>∃ t:ByteArray,v=.string t∧t.size≤1000000000∧Hid (t.data.toList.dropWhile blankC=D)) (fun v=>match v with | .string t=>t.size | _=>0)
 case atStart=>exact ⟨s,rfl,hs,HD⟩
 case round =>
  obtain ⟨t,rfl,ht,hd⟩:=hrel
  have hcase:(∃ h:0<t.size,blankC t[0]=true)∨((t.size=0∨∃ h:0<t.size,blankC t[0]=false)∧t.data.toList=D):=by
   by_cases hpos:0<t.size
   ·have hcons:=drop_one t hpos
    by_cases hb:blankC t[0]=true
    ·exact .inl ⟨hpos,hb⟩
    ·refine .inr ⟨.inr ⟨hpos,by simpa using hb⟩,?_⟩
     rw [← hd.out];conv=>rhs;rw [hcons,List.dropWhile_cons,if_neg hb]
     exact hcons
   ·refine .inr ⟨.inl (by omega),?_⟩
    rw [← hd.out,List.eq_nil_of_length_eq_zero (l:=t.data.toList) (by show t.size=0;omega)];rfl
  rcases hcase with ⟨hpos,hb⟩ | ⟨hor,hT⟩
  ·have hcons:=drop_one t hpos
   have hstep:(t.extract 1 t.size).data.toList.dropWhile blankC=D:=by rw [← hd.out,hcons,List.dropWhile_cons,hb];rfl
   have HS:=Lib.hid hstep
   have hb2:((t[0].toNat:Int) == 32)=true∨((t[0].toNat:Int) == 32)=false∧((t[0].toNat:Int) == 9)=true:=by
    clear hcons hstep HS;revert hb;generalize t[0]=c;clear hd;revert c;decide +kernel
   have hxs:(t.extract 1 t.size).size=t.size - 1:=by rw [ByteArray.size_extract];omega
   clear hcons hb hstep
   rcases hb2 with q1 | ⟨q1,q2⟩
   all_goals
    go_wp2
    go_round
    case rel=>exact ⟨_,rfl,by omega,HS⟩
    case measure=>simp;omega
  ·have HT:=Lib.hid hT
   clear hT hd
   rcases hor with h0 | ⟨hpos,hb⟩
   case inr =>
    have hb2:((t[0].toNat:Int) == 32)=false∧((t[0].toNat:Int) == 9)=false:=by
     clear HT;revert hb;generalize t[0]=c;revert c;decide +kernel
    obtain ⟨q1,q2⟩:=hb2
    clear hb
    go_wp2
    go_loop [0] (fun v=>∃ u:ByteArray,v=.string u∧u.size≤1000000000∧Hid (trimEnd u.data.toList=V)) (fun v=>match v with | .string t=>t.size | _=>0)
    case atStart=>exact ⟨t,rfl,ht,Lib.hid (by rw [HT.out];exact HV.out)⟩
    case round =>
     obtain ⟨u,rfl,hu,hd⟩:=hrel
     by_cases hup:0<u.size
     ·have hlast:=drop_last u hup
      by_cases hbu:blankC (u[u.size - 1]'(by omega))=true
      ·have hstep:trimEnd (u.extract 0 (u.size - 1)).data.toList=V:=by rw [← hd.out,hlast,trimEnd_snoc,if_pos hbu]
       have HS:=Lib.hid hstep
       have hb2:(((u[u.size - 1]'(by omega)).toNat:Int) == 32)=true∨(((u[u.size - 1]'(by omega)).toNat:Int) == 32)=false∧(((u[u.size - 1]'(by omega)).toNat:Int) == 9)=true:=by
        clear hlast hstep HS;revert hbu;generalize u[u.size - 1]'(by omega)=c;clear hd HT;revert c;decide +kernel
       have hxs:(u.extract 0 (u.size - 1)).size=u.size - 1:=by rw [ByteArray.size_extract];omega
       clear hlast hbu hstep
       rcases hb2 with q3 | ⟨q3,q4⟩
       all_goals
        go_wp2
        go_round
        case rel=>exact ⟨_,rfl,by omega,HS⟩
        case measure=>simp;omega
      ·have hT:u.data.toList=V:=by
        rw [← hd.out];conv=>rhs;rw [hlast,trimEnd_snoc,if_neg hbu]
        exact hlast
       have HU:=Lib.hid hT
       have hb2:(((u[u.size - 1]'(by omega)).toNat:Int) == 32)=false∧(((u[u.size - 1]'(by omega)).toNat:Int) == 9)=false:=by
        clear hlast hT HU;revert hbu;generalize u[u.size - 1]'(by omega)=c;clear hd HT;revert c;decide +kernel
       obtain ⟨q3,q4⟩:=hb2
       clear hlast hbu hT
       go_wp2
       go_ret
       exact ⟨r1 (vS HU.out),rfl⟩
     ·have hT:u.data.toList=V:=by
       rw [← hd.out,List.eq_nil_of_length_eq_zero (l:=u.data.toList) (by show u.size=0;omega)];rfl
      have HU:=Lib.hid hT
      have h1':¬ (0:Int)<u.size:=by omega
      clear hT
      go_wp2
      go_ret
      exact ⟨r1 (vS HU.out),rfl⟩
   case inl =>
    have h0':¬ (0:Int)<t.size:=by omega
    clear h0
    go_wp2
    go_loop [0] (fun v=>∃ u:ByteArray,v=.string u∧u.size≤1000000000∧Hid (trimEnd u.data.toList=V)) (fun v=>match v with | .string t=>t.size | _=>0)
    case atStart=>exact ⟨t,rfl,ht,Lib.hid (by rw [HT.out];exact HV.out)⟩
    case round =>
     obtain ⟨u,rfl,hu,hd⟩:=hrel
     by_cases hup:0<u.size
     ·have hlast:=drop_last u hup
      by_cases hbu:blankC (u[u.size - 1]'(by omega))=true
      ·have hstep:trimEnd (u.extract 0 (u.size - 1)).data.toList=V:=by rw [← hd.out,hlast,trimEnd_snoc,if_pos hbu]
       have HS:=Lib.hid hstep
       have hb2:(((u[u.size - 1]'(by omega)).toNat:Int) == 32)=true∨(((u[u.size - 1]'(by omega)).toNat:Int) == 32)=false∧(((u[u.size - 1]'(by omega)).toNat:Int) == 9)=true:=by
        clear hlast hstep HS;revert hbu;generalize u[u.size - 1]'(by omega)=c;clear hd HT;revert c;decide +kernel
       have hxs:(u.extract 0 (u.size - 1)).size=u.size - 1:=by rw [ByteArray.size_extract];omega
       clear hlast hbu hstep
       rcases hb2 with q3 | ⟨q3,q4⟩
       all_goals
        go_wp2
        go_round
        case rel=>exact ⟨_,rfl,by omega,HS⟩
        case measure=>simp;omega
      ·have hT:u.data.toList=V:=by
        rw [← hd.out];conv=>rhs;rw [hlast,trimEnd_snoc,if_neg hbu]
        exact hlast
       have HU:=Lib.hid hT
       have hb2:(((u[u.size - 1]'(by omega)).toNat:Int) == 32)=false∧(((u[u.size - 1]'(by omega)).toNat:Int) == 9)=false:=by
        clear hlast hT HU;revert hbu;generalize u[u.size - 1]'(by omega)=c;clear hd HT;revert c;decide +kernel
       obtain ⟨q3,q4⟩:=hb2
       clear hlast hbu hT
       go_wp2
       go_ret
       exact ⟨r1 (vS HU.out),rfl⟩
     ·have hT:u.data.toList=V:=by
       rw [← hd.out,List.eq_nil_of_length_eq_zero (l:=u.data.toList) (by show u.size=0;omega)];rfl
      have HU:=Lib.hid hT
      have h1':¬ (0:Int)<u.size:=by omega
      clear hT
      go_wp2
      go_ret
      exact ⟨r1 (vS HU.out),rfl⟩
set_option maxHeartbeats 1000000 in
theorem begins_ref (s x:ByteArray) (k:Nat) (w:World) (hs:s.size≤1000000000) (hx:x.size≤1000000000) (hk:k≤1000000000):Calls Tryz.prog 60 #[.string s,.string x,.int .i64 k] w (Same (.bool (begL s.data.toList x.data.toList k)) w):=by
 obtain ⟨V,hV⟩:∃ V,begL s.data.toList x.data.toList k=V:=⟨_,rfl⟩
 rw [hV]
 by_cases h1:k≤s.size
 ·by_cases h2:x.size≤s.size - k
  ·have h2':(x.size:Int)≤s.size - k:=by omega
   have hv:V=((s.extract k (k+x.size)).toList == x.toList):=by
    rw [← hV,begL,show decide (k≤s.data.toList.length)=true by simp;exact h1,Bool.true_and,ByteArray.toList_eq,ByteArray.toList_eq,Lib.extract_data,Nat.add_sub_cancel_left];rfl
   have HV:=Lib.hid hv;clear hV hv
   go_enter Tryz.func60,Tryz.ntmps60
   go_wp2
   go_ret
   exact ⟨r1 (vb HV.out.symm),rfl⟩
  ·have h2':¬ (x.size:Int)≤s.size - k:=by omega
   have hv:V=false:=by
    rw [← hV,begL,Bool.and_eq_false_iff];right
    rw [beq_eq_false_iff_ne];intro h
    have:=congrArg List.length h
    rw [List.length_take,List.length_drop,show s.data.toList.length=s.size from rfl,show x.data.toList.length=x.size from rfl] at this
    omega
   subst hv
   clear hV
   go_enter Tryz.func60,Tryz.ntmps60
   go_wp2
   go_ret
   exact ⟨rfl,rfl⟩
 ·have h1':¬ (k:Int)≤s.size:=by omega
  have hv:V=false:=by
   rw [← hV,begL,show decide (k≤s.data.toList.length)=false by simp;exact Nat.lt_of_not_le h1];rfl
  subst hv
  clear hV
  go_enter Tryz.func60,Tryz.ntmps60
  go_wp2
  go_ret
  exact ⟨rfl,rfl⟩
end Go.Proofs.YtmpiobfdchlikaaGreatDoor
end
section
namespace Nun
open Go Go.RowKit
section
variable {F:Fence} {n:Nat} {P:Program} {b:Frame} {a:Act} {k:List Item} {cs:List Frame} {w:World} {Q:Exit→Act→World→Prop}
theorem stepR_scope {c:Code}:step P (lone (b.atR a (.code (.scope c)::k)) cs w)=.next (lone (b.atR a (.code c::.inScope c::k)) cs w) :=
 step_lone_go (by simp [Go.stepG,Go.stepG.exec,Frame.atR])
theorem stepR_inScope {c:Code}:step P (lone (b.atR a (.inScope c::k)) cs w)=.next (lone (b.atR a k) cs w) :=
 step_lone_go (by simp [Go.stepG,Go.stepG.exec,Frame.atR])
theorem wpIn_scope_once {c rest:Code} (l:Nat) (J:Act→World→Prop) (hf:findLabel c l=some rest)
 (hq:∀ l a w,¬ Q (.goto l) a w)
 (first:c.wpIn F n P (Exit.jump l J Q) a w) (pass:∀ a w,J a w→rest.wpIn F n P Q a w):(Code.scope c).wpIn F n P Q a w:=by
 intro b k cs hro hb hr
 have h0:(lone (b.atR a (.code (.scope c)::k)) cs w).fenced P F:=fenced_calm hb hr rfl
 have hg:gotoIn l (.inScope c::k)=some (.code rest::.inScope c::k):=by simp [gotoIn,hf]
 have out:∀ (m:Machine) (e:Exit) (a₁:Act) (w₁:World),Q e a₁ w₁→ArrivesIn (Machine.fenced P F) P m b (.inScope c::k) cs e a₁ w₁→ArrivesIn (Machine.fenced P F) P m b k cs e a₁ w₁:=by
  intro m e a₁ w₁ hq₁ harr
  cases e with
  | normal=>exact StepsIn.trans harr (.one (fenced_calm hb hr rfl) stepR_inScope)
  | exit id=>exact ⟨fun k' hk=>harr.1 k' (by simp [exitTo,hk]),fun hr' hk=>harr.2 hr' (by simp [exitTo,hk])⟩
  | goto l'=>exact (hq _ _ _ hq₁).elim
  | ret=>exact harr
  | panic ch=>exact harr
  | outgrown=>exact harr
 obtain ⟨e,a₁,w₁,hq1,harr⟩:=first b (.inScope c::k) cs hro hb hr
 by_cases he:∃ l',e=.goto l'
 ·obtain ⟨l',rfl⟩:=he
  obtain ⟨rfl,hJ⟩:=hq1
  obtain ⟨e₂,a₂,w₂,hq₂,harr₂⟩:=pass a₁ w₁ hJ b (.inScope c::k) cs hro hb hr
  exact ⟨e₂,a₂,w₂,hq₂,.of_steps (.head h0 stepR_scope (harr.1 _ hg)) (out _ _ _ _ hq₂ harr₂)⟩
 ·have hq':Q e a₁ w₁:=by cases e<;>first | exact hq1 | exact (he ⟨_,rfl⟩).elim
  exact ⟨e,a₁,w₁,hq',.of_steps (.one h0 stepR_scope) (out _ _ _ _ hq' harr)⟩
end
theorem keeps_kept {e b:Nat} {w w':World} (hs:w.heap.size≤w'.heap.size) (h:Lib.OthersKept e (some b) w w') (hb:∃ o:Obj,w.heap[b]? =some o∧o.isCells=true):KeepsOthers w w':=by
 refine ⟨hs,fun k o hk hc=>?_⟩
 refine h k o hk ?_ ?_
 ·intro hkb
  obtain ⟨o',ho',hc'⟩:=hb
  cases hkb
  rw [hk] at ho';cases ho';rw [hc] at hc';cases hc'
 ·intro c fz ho
  subst ho;cases hc
def KeepsAt (b:Nat) (W W':World):Prop:=W'.heap[b]? =W.heap[b]?
theorem keepsAt_t {b:Nat} {A B C:World} (h:KeepsAt b A B) (k:KeepsAt b B C):KeepsAt b A C:=Eq.trans k h
theorem keepsAt_b {b:Nat} {w:World} (hb:b<w.heap.size) (W:World) (l:Nat) (o o':Obj) (hl:w.heap.size≤l) (h:W.heap[l]? =some o) (_:o.isCells=false) (_:o.isWalk=false):KeepsAt b W (W.putObj l o') :=
 World.putObj_heap_other (by omega)
theorem abides_below {β:Type} {B:Nat} {J:β→World→Prop} (h:AbidesFrom B J) {s:β} {W W':World} (hJ:J s W) (k:Below W.heap.size W W'):J s W' :=
 h s W W' none hJ ⟨k.os,k.tape,k.output,k.size,fun i hi _=>k.block i hi⟩ (fun r e=>by cases e)
end Nun
end
section
namespace Nun
open Go Go.RowKit
abbrev LineAt:={ p:ByteArray × Nat // p.1.size≤10000∧p.2≤20000 }
def LineAt.pair (p:LineAt):List UInt8 × Nat:=(p.1.1.data.toList,p.1.2)
def MaxIs (W:World):Prop:=∃ m,W.cell? ⟨0,0,none⟩=some (.int .i64 m)
theorem MaxIs.kept {W W':World} (h:MaxIs W) (k:KeepsAt 0 W W'):MaxIs W':=by
 obtain ⟨m,hm⟩:=h
 exact ⟨m,by unfold World.cell? at hm ⊢;rw [k];exact hm⟩
theorem MaxIs.lt {W:World} (h:MaxIs W):0<W.heap.size:=by
 obtain ⟨m,hm⟩:=h
 exact World.block_lt_of_cell? W _ hm
end Nun
namespace Go.Proofs.YtmpiobfdchlikaaGreatDoor
open Go Go.RowKit Nun
attribute [local go_sem] Oper.semAt_some
end Go.Proofs.YtmpiobfdchlikaaGreatDoor
end
section
namespace Nun
open Go Go.RowKit
def fldCells (l:List Fld):List Value:=l.flatMap fun p=>[.string ⟨p.1.toArray⟩,.string ⟨p.2.toArray⟩]
theorem fldCells_len (l:List Fld):(fldCells l).length=l.length * 2:=by
 induction l with
 | nil=>rfl
 | cons p l ih=>show (([.string ⟨p.1.toArray⟩,.string ⟨p.2.toArray⟩]:List Value)++fldCells l).length=_;rw [List.length_append,ih];simp;omega
theorem fldCells_snoc (l:List Fld) (p:Fld):fldCells (l++[p])=fldCells l++[.string ⟨p.1.toArray⟩,.string ⟨p.2.toArray⟩]:=by simp [fldCells]
def lnsOf (pre:List LineAt):List (List UInt8):=pre.map fun x=>x.1.1.data.toList
def stOf (pre:List LineAt):List Fld × Bool:=(linesL (lnsOf pre) ([],false)).getD ([],false)
def HGood (pre:List LineAt):Prop:=linesL (lnsOf pre) ([],false)=some (stOf pre)∧∀ x∈pre,x.1.1.data.toList≠[]
theorem step_hid {st:List Fld × Bool} {l:List UInt8} (h:l.all shownC=false):lineStep st l=none:=by unfold lineStep;rw [if_pos h]
theorem step_blank_nil {st:List Fld × Bool} {l:List UInt8} (hb:(l.head?.map blankC).getD false=true) (h:st.1=[]):lineStep st l=none:=by
 by_cases hs:l.all shownC=false
 ·exact step_hid hs
 ·unfold lineStep;rw [if_neg hs,if_pos hb,h];rfl
theorem step_blank {st:List Fld × Bool} {l:List UInt8} {F:List Fld} {q:Fld} (hs:l.all shownC=true) (hb:(l.head?.map blankC).getD false=true) (h:st.1=F++[q]) :
 lineStep st l=some (F++[(q.1,q.2++l)],st.2 || decide (998<l.length)):=by
 unfold lineStep
 rw [if_neg (by simp [hs]),if_pos hb,h,List.getLast?_concat];simp
theorem step_nocolon {st:List Fld × Bool} {l:List UInt8} (hb:(l.head?.map blankC).getD false=false) (h:byteAt 58 l=none):lineStep st l=none:=by
 by_cases hs:l.all shownC=false
 ·exact step_hid hs
 ·unfold lineStep;rw [if_neg hs,if_neg (by simp [hb]),h]
theorem step_noname {st:List Fld × Bool} {l:List UInt8} {k:Nat} (hb:(l.head?.map blankC).getD false=false) (h:byteAt 58 l=some k) (hn:nameL (l.take k)=false):lineStep st l=none:=by
 by_cases hs:l.all shownC=false
 ·exact step_hid hs
 ·unfold lineStep;rw [if_neg hs,if_neg (by simp [hb]),h];simp [hn]
theorem step_field {st:List Fld × Bool} {l:List UInt8} {k:Nat} (hs:l.all shownC=true) (hb:(l.head?.map blankC).getD false=false) (h:byteAt 58 l=some k) (hn:nameL (l.take k)=true) :
 lineStep st l=some (st.1++[(l.take k,l.drop (k+1))],st.2 || decide (998<l.length)):=by
 unfold lineStep
 rw [if_neg (by simp [hs]),if_neg (by simp [hb]),h];simp [hn]
theorem step_len {st st':List Fld × Bool} {l:List UInt8} (h:lineStep st l=some st'):st'.1.length≤st.1.length+1:=by
 unfold lineStep at h
 split at h
 ·cases h
 ·split at h
  ·split at h
   ·cases h
   ·cases h;simp
  ·split at h
   ·cases h
   ·split at h
    ·cases h;simp
    ·cases h
theorem lines_len:∀ (ls:List (List UInt8)) (st st':List Fld × Bool),linesL ls st=some st'→st'.1.length≤st.1.length+ls.length
 | [],st,st',h=>by simp [linesL] at h;rw [h];simp
 | l::ls,st,st',h=>by
   rw [linesL,List.foldlM_cons] at h
   obtain ⟨s1,h1,h2⟩:=Option.bind_eq_some_iff.1 h
   have:=step_len h1
   have:=lines_len ls s1 st' h2
   rw [List.length_cons];omega
theorem step_vals {st st':List Fld × Bool} {l:List UInt8} {C:Nat} (h:lineStep st l=some st') (hC:∀ f∈st.1,f.2.length≤C):∀ f∈st'.1,f.2.length≤C+l.length:=by
 unfold lineStep at h
 split at h
 ·cases h
 ·split at h
  ·split at h
   ·cases h
   ·rename_i q hq
    cases h
    intro f hf
    rcases List.mem_append.1 hf with hf | hf
    ·have:=hC f ((List.dropLast_sublist _).subset hf);omega
    ·rw [List.mem_singleton.1 hf,List.length_append]
     have:=hC q (List.mem_of_getLast? hq);omega
  ·split at h
   ·cases h
   ·split at h
    ·cases h
     intro f hf
     rcases List.mem_append.1 hf with hf | hf
     ·have:=hC f hf;omega
     ·rw [List.mem_singleton.1 hf,List.length_drop];omega
    ·cases h
theorem lines_vals:∀ (ls:List (List UInt8)) (st st':List Fld × Bool) (C M:Nat),linesL ls st=some st'→(∀ f∈st.1,f.2.length≤C)→(∀ l∈ls,l.length≤M)→∀ f∈st'.1,f.2.length≤C+M * ls.length
 | [],st,st',C,M,h,hC,_=>by simp [linesL] at h;rw [← h];simpa using hC
 | l::ls,st,st',C,M,h,hC,hM=>by
   rw [linesL,List.foldlM_cons] at h
   obtain ⟨s1,h1,h2⟩:=Option.bind_eq_some_iff.1 h
   have a:=step_vals h1 hC
   have hl:=hM l (by simp)
   have:=lines_vals ls s1 st' (C+M) M h2 (fun f hf=>by have:=a f hf;omega) (fun x hx=>hM x (by simp [hx]))
   intro f hf
   have:=this f hf
   rw [List.length_cons,Nat.mul_succ];omega
theorem head_blank (p:ByteArray) (h:0<p.size):(p.data.toList.head?.map blankC).getD false=blankC p[0]:=by
 rw [List.head?_eq_getElem?,List.getElem?_eq_getElem (show 0<p.data.toList.length from h)];rfl
theorem own_below {w w':World} {B e size n:Nat} {v:Value} {xs:List Value} (h:w.ownsRow B e size v n xs) (k:Below w.heap.size w w'):w'.ownsRow B e size v n xs :=
 World.ownsRow.kept (row:=none) h ⟨k.os,k.tape,k.output,k.size,fun i hi _=>k.block i hi⟩ (by cases v.ownBlock<;>simp)
theorem row_form {w:World} {B:Nat} {e size:Nat} {v:Value} {n:Nat} {xs:List Value} (h:w.ownsRow B e size v n xs):(v=.slice none 0 0∧n=0)∨∃ g cap,v=.slice (some ⟨g,0,none⟩) n cap∧B≤g∧g<w.heap.size∧n≤cap:=by
 rcases h.2 with h0 | ⟨g,cap,cur,rfl,hb,hh,hc,_⟩
 ·exact .inl h0
 ·exact .inr ⟨g,cap,rfl,hb,(Array.getElem?_eq_some_iff.1 hh).1,hc⟩
end Nun
namespace Go.Proofs.YtmpiobfdchlikaaGreatDoor
open Go Go.RowKit Nun
attribute [local go_sem] Oper.semAt_some
def Out (n0:Nat) (w:World) (c:Code) (pre:List LineAt) (W:World):Prop :=
 (((Boxed W n0 45 (.slice none 0 0)∧Boxed W (n0+1) 3 (.int .i64 0)∧Boxed W (n0+1+1) 26 (.int .i64 7))∧(c=.ret∧∃ pre0 x,pre=pre0++[x]∧HGood pre0∧x.1.1.data.toList≠[]∧lineStep (stOf pre0) x.1.1.data.toList=none))∧Below n0 w W) ∨
 (((∃ v,Boxed W n0 45 v∧W.ownsRow n0 80 2 v (stOf pre.dropLast).1.length (fldCells (stOf pre.dropLast).1)∧True)∧Boxed W (n0+1) 3 (.int .i64 ((pre.getLast?.map fun x=>x.1.2).getD 0:Nat))∧Boxed W (n0+1+1) 26 (.int .i64 (if (stOf pre.dropLast).2 then 6 else 0)))∧(c=.exit 0∧∃ pre0 x,pre=pre0++[x]∧HGood pre0∧x.1.1.data.toList=[]))∧Below n0 w W
theorem OwnFrom.or {β:Type} {B:Nat} {I J:β→World→Prop} (h:OwnFrom B I) (k:OwnFrom B J):OwnFrom B (fun s W=>I s W∨J s W):=fun s W W' row hs hg hr=>hs.elim (fun a=>.inl (h s W W' row a hg hr)) (fun a=>.inr (k s W W' row a hg hr))
end Go.Proofs.YtmpiobfdchlikaaGreatDoor
end
section
namespace Nun
open Go Go.RowKit Go.Proofs Go.Proofs.YtmpiobfdchlikaaGreatDoor
theorem linesU_app:∀ (L M:List Str),linesU (L++M)=linesU L++linesU M
 | [],M=>rfl
 | x::L,M=>by rw [List.cons_append,linesU,linesU,linesU_app L M,List.append_assoc,List.append_assoc,List.append_assoc]
theorem linesU_one (x:Str):linesU [x]=x++[13,10]:=by simp [linesU,crlf]
def stepK (q:List Str × Str) (x:Str):List Str × Str:=if longer x q.2.length then (q.1++[q.2],32::x) else (q.1,q.2++32::x)
theorem stepK_eq (q:List Str × Str) (x:Str):stepW (linesU q.1++q.2,q.2.length) x=(linesU (stepK q x).1++(stepK q x).2,(stepK q x).2.length):=by
 unfold stepW putT putL stepK
 dsimp only
 split
 ·rw [linesU_app,linesU_one]
  simp only [List.append_assoc,List.length_cons,Nat.zero_add,Nat.add_comm]
 ·simp only [List.append_assoc,List.length_append,List.length_cons,Prod.mk.injEq,true_and]
  omega
theorem foldK_eq:∀ (ws:List Str) (q:List Str × Str),ws.foldl stepW (linesU q.1++q.2,q.2.length)=(linesU (ws.foldl stepK q).1++(ws.foldl stepK q).2,(ws.foldl stepK q).2.length)
 | [],q=>rfl
 | x::ws,q=>by rw [List.foldl_cons,stepK_eq,foldK_eq ws (stepK q x),List.foldl_cons]
def laidK (enc:Str→Str) (f v:Str):List Str × Str:=(wordsU enc v).foldl stepK ([],f++[58])
def laidL (enc:Str→Str) (f v:Str):List Str:=(laidK enc f v).1++[(laidK enc f v).2]
theorem laidU_lines (enc:Str→Str) (f v:Str):laidU enc f v=linesU (laidL enc f v):=by
 unfold laidU laidL
 have h:=foldK_eq (wordsU enc v) ([],f++[58])
 simp only [linesU,List.nil_append,List.length_append,List.length_cons,List.length_nil,Nat.zero_add] at h
 rw [linesU_app,linesU_one,← List.append_assoc,h];rfl
def shB (c:UInt8):Bool:=decide (32≤c.toNat) && decide (c.toNat≤126)
theorem shB_shown:∀ c:UInt8,shB c=true→shownC c=true:=by decide +kernel
theorem shB_13:∀ c:UInt8,shB c=true→c≠13:=by decide +kernel
def okLn (x:Str):Prop:=x.length≤76∧x.all shB=true
theorem okLn_shown {x:Str} (h:okLn x):x.all shownC=true:=by
 rw [List.all_eq_true];intro c hc;exact shB_shown c (List.all_eq_true.1 h.2 c hc)
structure InvK (f:Str) (F:List Fld) (q:List Str × Str):Prop where
 one:∀ x∈q.1,okLn x∧x≠[]
 two:okLn q.2
 way:(q.1=[]∧∃ r,q.2=f++58::r)∨((∃ v,linesL q.1 (F,false)=some (F++[(f,v)],false))∧∃ r,q.2=32::r)
theorem nameC_58:∀ c:UInt8,nameC c=true→c≠58:=by decide +kernel
theorem nameC_blank:∀ c:UInt8,nameC c=true→blankC c=false:=by decide +kernel
theorem byteAt_name:∀ (f r:Str),f.all nameC=true→byteAt 58 (f++58::r)=some f.length
 | [],r,_=>by simp [byteAt]
 | c::f,r,h=>by
   rw [List.all_cons,Bool.and_eq_true] at h
   rw [List.cons_append,byteAt,if_neg (nameC_58 c h.1),byteAt_name f r h.2];rfl
theorem field_line {f r:Str} {F:List Fld} (hf:nameL f=true) (ho:okLn (f++58::r)):lineStep (F,false) (f++58::r)=some (F++[(f,r)],false):=by
 have hf':=hf
 unfold nameL at hf
 simp only [Bool.and_eq_true] at hf
 obtain ⟨⟨hne,_⟩,ha⟩:=hf
 have ht:(f++58::r).take f.length=f:=by simp
 have hd:(f++58::r).drop (f.length+1)=r:=by rw [List.drop_append];simp
 have hb:((f++58::r).head?.map blankC).getD false=false:=by
  cases f with
  | nil=>simp at hne
  | cons c f=>rw [List.all_cons,Bool.and_eq_true] at ha;exact nameC_blank c ha.1
 have h:=step_field (st:=(F,false)) (okLn_shown ho) hb (byteAt_name f r ha) (by rw [ht];exact hf')
 rw [h,ht,hd]
 have:decide (998<(f++58::r).length)=false:=decide_eq_false (by have:=ho.1;omega)
 rw [this];rfl
theorem more_line {f r v:Str} {F:List Fld} (ho:okLn (32::r)):lineStep (F++[(f,v)],false) (32::r)=some (F++[(f,v++32::r)],false):=by
 have h:=step_blank (st:=(F++[(f,v)],false)) (F:=F) (q:=(f,v)) (okLn_shown ho) rfl rfl
 rw [h]
 have:decide (998<(32::r).length)=false:=decide_eq_false (by have:=ho.1;omega)
 rw [this];rfl
theorem InvK.done {f:Str} {F:List Fld} {q:List Str × Str} (hf:nameL f=true) (h:InvK f F q):∃ v,linesL (q.1++[q.2]) (F,false)=some (F++[(f,v)],false):=by
 have ho:=h.two
 rcases h.way with ⟨h1,r,h2⟩ | ⟨⟨v,h1⟩,r,h2⟩
 ·rw [h2] at ho
  rw [h1,h2]
  exact ⟨r,by rw [linesL_snoc];show (some (F,false)).bind _=_;exact field_line hf ho⟩
 ·rw [h2] at ho
  rw [h2]
  exact ⟨v++32::r,by rw [linesL_snoc,h1];exact more_line ho⟩
theorem InvK.step {f:Str} {F:List Fld} {q:List Str × Str} (hf:nameL f=true) (h:InvK f F q) {x:Str} (hl:x.length≤75) (hx:x.all shB=true):InvK f F (stepK q x):=by
 have hd:=h.done hf
 have hc:(32::x:Str).all shB=true:=by rw [List.all_cons,hx];rfl
 have hne:q.2≠[]:=by
  rcases h.way with ⟨_,r,h2⟩ | ⟨_,r,h2⟩
  ·rw [h2];simp
  ·rw [h2];simp
 unfold stepK longer
 by_cases hlo:76≤x.length+q.2.length
 ·rw [if_pos (decide_eq_true hlo)]
  refine ⟨fun y hy=>?_,⟨by simp only [List.length_cons];omega,hc⟩,.inr ⟨hd,x,rfl⟩⟩
  rcases List.mem_append.1 hy with hy | hy
  ·exact h.one y hy
  ·rw [List.mem_singleton.1 hy];exact ⟨h.two,hne⟩
 ·rw [if_neg (by simpa using hlo)]
  refine ⟨h.one,⟨by simp only [List.length_append,List.length_cons];omega,by rw [List.all_append,h.two.2,hc];rfl⟩,?_⟩
  rcases h.way with ⟨h1,r,h2⟩ | ⟨h1,r,h2⟩
  ·exact .inl ⟨h1,r++32::x,by dsimp only;rw [h2];simp⟩
  ·exact .inr ⟨h1,r++32::x,by dsimp only;rw [h2];simp⟩
theorem InvK.fold {f:Str} {F:List Fld} (hf:nameL f=true):∀ (ws:List Str) (q:List Str × Str),InvK f F q→(∀ x∈ws,x.length≤75∧x.all shB=true)→InvK f F (ws.foldl stepK q)
 | [],q,h,_=>h
 | x::ws,q,h,hw=>by
   rw [List.foldl_cons]
   exact InvK.fold hf ws _ (h.step hf (hw x (by simp)).1 (hw x (by simp)).2) fun y hy=>hw y (by simp [hy])
theorem laidL_ok {enc:Str→Str} {f v:Str} (F:List Fld) (hf:nameL f=true) (hs:f.all shB=true) (hw:∀ x∈wordsU enc v,x.length≤75∧x.all shB=true) :
 (∀ x∈laidL enc f v,okLn x∧x≠[])∧∃ r,linesL (laidL enc f v) (F,false)=some (F++[(f,r)],false):=by
 have hl:f.length≤32:=by
  have h:=hf
  unfold nameL at h
  simp only [Bool.and_eq_true,decide_eq_true_eq] at h
  exact h.1.2
 have h0:InvK f F ([],f++[58]):=⟨by simp,⟨by simp only [List.length_append,List.length_cons,List.length_nil];omega,by rw [List.all_append,hs];rfl⟩,.inl ⟨rfl,[],rfl⟩⟩
 have h:=InvK.fold hf (wordsU enc v) _ h0 hw
 refine ⟨fun x hx=>?_,h.done hf⟩
 rcases List.mem_append.1 hx with hx | hx
 ·exact h.one x hx
 ·rw [List.mem_singleton.1 hx]
  refine ⟨h.two,?_⟩
  rcases h.way with ⟨_,r,h2⟩ | ⟨_,r,h2⟩
  ·show (laidK enc f v).2≠[];unfold laidK;rw [h2];simp
  ·show (laidK enc f v).2≠[];unfold laidK;rw [h2];simp
end Nun
end
section
namespace Nun
open Go Go.Sort Go.RowKit
section
variable {P:Program} {ops:Array Oper} {md:Region.Mode} {C:World→Prop}
def anyQL (P:Program) (md:Region.Mode) (ops:Array Oper) (C:World→Prop) (n:Nat) (L:Array Bool→Act→Prop):Nat→Array Bool→Act→Prop
 | 0,listed,a=>L listed a
 | f+1,listed,a =>
   Region.ready md ops listed≠[]∧∀ i∈Region.ready md ops listed,i<n∧qOp P ops C i (anyQL P md ops C n L f (listed.setIfInBounds i true)) a
theorem any_of_headQ {n g:Nat} {L:Array Bool→Act→Prop} {Q':Exit→Act→World→Prop} (hL:∀ listed a w,C w→L listed a→wpAny P md ops Q' g listed a w) :
 ∀ (f:Nat) (listed:Array Bool) (a:Act) (w:World),C w→anyQL P md ops C n L f listed a→wpAny P md ops Q' (f+g) listed a w
 | 0,listed,a,w,hw,h=>by rw [Nat.zero_add];exact hL _ _ _ hw h
 | f+1,listed,a,w,hw,h=>by
   rw [show f+1+g=(f+g)+1 by omega]
   exact ⟨fun h0=>absurd h0 h.1,fun i hi=>wpOp_of_qOp hw (fun a' w' hw' h'=>any_of_headQ hL f _ a' w' hw' h') (h.2 i hi).2⟩
theorem anyQL_first {n i:Nat} {oi:Oper} {v:Value} {L:Array Bool→Act→Prop} (hi:ops[i]? =some oi) (hsel:∀ (j:Nat) (o:Oper) cs b,ops[j]? =some o→o.op≠.select cs b)
 (hs:Region.sinkB md ops n=true) (hc:Region.chainB md ops n=true) (hn:n<ops.size) (hin:i<n)
 (hdone:∀ listed a,L listed a→∀ j∈Region.ready md ops listed,n≤j) :
 ∀ (f:Nat) (listed:Array Bool) (a:Act),HeadInv md ops n listed →
   (∀ j oj,ops[j]? =some oj→j≠i→listed.getD j true=false→(∀ e∈oj.after,Region.binds md e=true→e.on≠i)→oi.apart ops oj=true) →
   i∈Region.ready md ops listed→YieldsIn P ops C oi v a →
   anyQL P md ops C n L f (listed.setIfInBounds i true) (a.put oi.dst v)→anyQL P md ops C n L (f+1) listed a:=by
 intro f
 induction f with
 | zero =>
   intro listed a inv _ hr hy H
   have hun:=(mem_ready.1 hr).1
   refine ⟨fun h=>(by rw [h] at hr;cases hr),fun j hj=>?_⟩
   have hjn:j<n:=by
    rcases Nat.lt_or_ge j n with h | h
    ·exact h
    ·exact absurd hj (tail_waits hs hc hn inv _ i rfl hin hun j h)
   refine ⟨hjn,?_⟩
   by_cases hji:j=i
   ·subst hji;exact hy.qOp hi H
   ·have:=hdone _ _ H j (ready_mono hj hji)
    omega
 | succ f ih =>
   intro listed a inv hfree hr hy H
   have hun:=(mem_ready.1 hr).1
   refine ⟨fun h=>(by rw [h] at hr;cases hr),fun j hj=>?_⟩
   have hjn:j<n:=by
    rcases Nat.lt_or_ge j n with h | h
    ·exact h
    ·exact absurd hj (tail_waits hs hc hn inv _ i rfl hin hun j h)
   refine ⟨hjn,?_⟩
   by_cases hji:j=i
   ·subst hji;exact hy.qOp hi H
   ·have h1:=(H.2 j (ready_mono hj hji)).2
    obtain ⟨hjun,oj,hoj,hall⟩:=mem_ready.1 hj
    have hnot:∀ e∈oj.after,Region.binds md e=true→e.on≠i:=fun e he hb heq=>by
     have h1:=hall e he hb
     rw [heq,getD_both hun] at h1
     cases h1
    have h2:=qOp_put hoj (hfree j oj hoj hji hjun hnot) (fun cs b=>hsel i oi cs b hi) (fun cs b=>hsel j oj cs b hoj) hy h1
    have hfree':∀ k ok,ops[k]? =some ok→k≠i→(listed.setIfInBounds j true).getD k true=false →
     (∀ e∈ok.after,Region.binds md e=true→e.on≠i)→oi.apart ops ok=true:=fun k ok hk hki hun hno=>by
     refine hfree k ok hk hki ?_ hno
     by_cases hjk:j=k
     ·subst hjk;exact hjun
     ·rw [getD_set_ne true hjk] at hun;exact hun
    refine qOp_mono (fun a' h3=>ih (listed.setIfInBounds j true) a' (inv.set hj hjn) hfree' (ready_mono hr (Ne.symm hji)) h3.1 ?_) h2
    rw [Array.setIfInBounds_comm _ _ hji]
    exact h3.2
theorem anyQL_lex {n g:Nat} {Lq:Act→Prop} (hsel:Region.noSelect ops=true) (hs:Region.sinkB md ops n=true) (hc:Region.chainB md ops n=true) (hn:n<ops.size) :
 ∀ (l:List Oper) (k:Nat) (listed:Array Bool) (a:Act),(∀ j,j<l.length→l[j]? =ops[k+j]?)→k+l.length=n→HeadInv md ops n listed →
 Region.lexHead md ops g l.length k listed=true→wpQuiet P ops C Lq l a →
 anyQL P md ops C n (fun listed' a'=>Region.seqB md ops g n listed'=true∧Lq a') l.length listed a
 | [],k,listed,a,_,hk,_,hB,h=>by
   have:k=n:=by simpa using hk
   subst this
   exact ⟨by simpa [Region.lexHead] using hB,h⟩
 | o::l,k,listed,a,hl,hk,inv,hB,h=>by
   have h0:ops[k]? =some o:=by simpa using (hl 0 (by simp)).symm
   simp only [List.length_cons,Region.lexHead,Bool.and_eq_true] at hB
   obtain ⟨⟨hr,hf⟩,hB'⟩:=hB
   have hkn:k<n:=by simp only [List.length_cons] at hk;omega
   have hr':k∈Region.ready md ops listed:=by simpa using hr
   have hst:qOp P ops C k (wpQuiet P ops C Lq l) a:=by unfold qOp;simp only [h0];exact h
   obtain ⟨v,hy,hK⟩:=yieldsIn_of_qOp h0 hst
   exact anyQL_first h0 (Region.noSelect_spec hsel) hs hc hn hkn (fun listed' a' hL=>seqB_ready hL.1) l.length listed a inv (Region.free_spec h0 hf) hr' hy
    (anyQL_lex hsel hs hc hn l (k+1) _ _ (fun j hj=>by have:=hl (j+1) (by simp;omega);simpa [Nat.add_assoc,Nat.add_comm 1 j] using this) (by simp only [List.length_cons] at hk;omega) (inv.set hr' hkn) hB' hK)
theorem region_quiet_tail {id:Nat} {Q:Exit→Act→World→Prop} {a:Act} {w:World} {l:List Oper} (n:Nat) (hm:P.follows .mixedOrders=true) (hB:Region.lexTailB .any l.toArray n=true)
 (hC:C { w with drawn:=w.drawn+1 })
 (h:wpQuiet P l.toArray C (fun a'=>∀ w',C w'→wpList P l.toArray Q (l.drop n) a' w') (l.take n) a):(Code.region id l.toArray true).wp P Q a w:=by
 simp only [Region.lexTailB,Bool.and_eq_true,decide_eq_true_eq] at hB
 obtain ⟨⟨⟨⟨hsel,hn⟩,hs⟩,hc⟩,hlex⟩:=hB
 have hn':n<l.length:=by simpa using hn
 have htl:(l.take n).length=n:=by simp;omega
 have hdl:(l.drop n).length=l.toArray.size - n:=by simp
 have inv0:HeadInv .any l.toArray n (Array.replicate l.toArray.size false) :=
  ⟨by simp,fun j oj _ hl=>(by rw [getD_replicate_false] at hl;cases hl),fun t _ ht=>getD_in (by simpa using ht) (getD_replicate_false _ _)⟩
 have H:=anyQL_lex (md:=.any) (g:=l.toArray.size - n) hsel hs hc hn (l.take n) 0 _ a (fun j hj=>by
  have hj':j<n:=by rw [htl] at hj;exact hj
  simp [hj']) (by simpa using htl) inv0 (by rw [htl];exact hlex) h
 refine wp_region_any hm ?_
 have:=any_of_headQ (Q':=Q) (g:=l.toArray.size - n) (fun listed a' w' hw' hL=>by
  have:=wpAny_of_seq (md:=.any) (Q':=Q) (l.drop n) n listed a' w' (fun j=>by simp [List.getElem?_drop]) (by rw [hdl];exact hL.1) (hL.2 w' hw')
  rwa [hdl] at this) _ _ _ _ hC H
 rw [htl,show n+(l.toArray.size - n)=l.toArray.size by omega] at this
 exact this
theorem region_quiet_tail_below {id:Nat} {Q:Exit→Act→World→Prop} {a:Act} {w:World} {l:List Oper} (n:Nat) (hm:P.follows .mixedOrders=true) (hB:Region.lexTailB .any l.toArray n=true)
 (h:wpQuiet P l.toArray (fun w'=>∃ p:Regrown,w'=grow (redrawn w p.d) p.os) (fun a'=>∀ w',Below w.heap.size w w'→wpList P l.toArray Q (l.drop n) a' w') (l.take n) a):(Code.region id l.toArray true).wp P Q a w :=
 region_quiet_tail (C:=fun w'=>∃ p:Regrown,w'=grow (redrawn w p.d) p.os) n hm hB ⟨⟨w.drawn+1,#[]⟩,by rw [grow_empty];rfl⟩ (by
  have mono:∀ (l':List Oper) (a:Act),wpQuiet P l.toArray (fun w'=>∃ p:Regrown,w'=grow (redrawn w p.d) p.os) (fun a'=>∀ w',Below w.heap.size w w'→wpList P l.toArray Q (l.drop n) a' w') l' a →
   wpQuiet P l.toArray (fun w'=>∃ p:Regrown,w'=grow (redrawn w p.d) p.os) (fun a'=>∀ w',(∃ p:Regrown,w'=grow (redrawn w p.d) p.os)→wpList P l.toArray Q (l.drop n) a' w') l' a:=by
   intro l'
   induction l' with
   | nil=>intro a h w' ⟨p,hp⟩;exact h w' (hp ▸ below_regrown w p.d p.os)
   | cons o l' ih =>
     intro a h
     unfold wpQuiet at h ⊢
     split
     ·rename_i hw;rw [if_pos hw] at h;exact Oper.quiet_mono (fun a' h'=>ih a' h') h
     ·rename_i hw;rw [if_neg hw] at h;exact ih _ h
  exact mono _ _ h)
end
end Nun
end
section
namespace Go.Proofs.YtmpiobfdchlikaaGreatDoor
open Go.RowKit Nun
theorem vE (s:ByteArray):voidE s.data.toList=(s.toList == [98,114] || (s.toList == [104,114] || s.toList == [105,109,103])):=by
 rw [ba_toList]
 unfold voidE
 have:∀ l:List UInt8,decide (s.data.toList=l)=(s.data.toList == l):=fun l=>by rw [Bool.eq_iff_iff,decide_eq_true_eq,beq_iff_eq]
 rw [this,this,this]
theorem void_same (s:ByteArray) (b:Bool) (h:voidE s.data.toList=b) (w:World):Calls Tryz.prog 109 #[.string s] w fun e w'=>e=.returned (.bool b)∧w'=w:=by
 subst h
 rw [vE]
 go_enter Tryz.func109,Tryz.ntmps109
 go_wp2
 all_goals (go_ret;refine ⟨?_,rfl⟩;simp [*,Bool.or_assoc])
def TokC (w:World) (g o:Nat) (t:Tok):Prop:=∃ a3 n3 c3,w.cell? ⟨g,o,none⟩=some (.int .u8 t.kind.toNat)∧w.cell? ⟨g,o+1,none⟩=some (.string (S t.name))∧w.cell? ⟨g,o+2,none⟩=some (.string (S t.text))∧w.cell? ⟨g,o+3,none⟩=some (.slice a3 n3 c3)∧w.cell? ⟨g,o+4,none⟩=some (.int .i64 (t.fr:Nat))∧w.cell? ⟨g,o+5,none⟩=some (.int .i64 (t.to:Nat))
def TokRow (w:World) (a:Option Addr) (L:List Tok):Prop:=L=[]∨∃ g o,a=some ⟨g,o,none⟩∧g<w.heap.size∧∀ k t,L[k]? =some t→TokC w g (o+k * 6) t
def strsC (l:List Str):List Value:=l.map fun x=>.string (S x)
theorem infoString36:(Tryz.prog.info? 9).map (fun i=>(i.zero,i.size,i.bytes))=some (some (.string ⟨#[]⟩),1,16):=by kernel_rfl
def nestR (L:List Tok) (q:List Str × Nat):Option (List Str):=runS (nestS L) none (L.length - q.2+1) q
theorem nr_on {L:List Tok} {op op':List Str} {k:Nat} {t:Tok} (hc:L[k]? =some t) (h:nestT t op=some op'):nestR L (op,k)=nestR L (op',k+1):=by
 have hk:=(List.getElem?_eq_some_iff.1 hc).1
 have e:L.length - k+1=(L.length - (k+1)+1)+1:=by omega
 unfold nestR
 dsimp only
 rw [e,runS_inl (show nestS L (op,k)=.inl (op',k+1) by unfold nestS;dsimp only;rw [hc];dsimp only;rw [h])]
theorem nr_bad {L:List Tok} {op:List Str} {k:Nat} {t:Tok} (hc:L[k]? =some t) (h:nestT t op=none):nestR L (op,k)=none:=by
 unfold nestR
 dsimp only
 rw [runS_inr (show nestS L (op,k)=.inr none by unfold nestS;dsimp only;rw [hc];dsimp only;rw [h])]
theorem nr_end {L:List Tok} {op:List Str}:nestR L (op,L.length)=some op:=by
 have hn:L[L.length]? =none:=List.getElem?_eq_none (Nat.le_refl _)
 unfold nestR
 dsimp only
 rw [runS_inr (show nestS L (op,L.length)=.inr (some op) by unfold nestS;dsimp only;rw [hn])]
theorem ownsRow_cut {w:World} {base:Nat} {e:TypeId} {g cap n:Nat} {op:List Str} (hn:op.length=n+1) (h:w.ownsRow base e 1 (.slice (some ⟨g,0,none⟩) (n+1) cap) (n+1) (strsC op)):w.ownsRow base e 1 (.slice (some ⟨g,0,none⟩) n cap) n (strsC (op.take n)):=by
 obtain ⟨h1,h2⟩:=h
 rcases h2 with ⟨h0,_⟩ | ⟨g',cap',cur,hv,hg,hh,hnn,hcap,hsz,htake⟩
 ·cases h0
 ·cases hv
  refine ⟨by simp only [strsC,List.length_map,List.length_take];omega,.inr ⟨g,cap,cur,rfl,hg,hh,by omega,hcap,hsz,?_⟩⟩
  have h3:(cur.toList.take ((n+1) * 1)).take (n * 1)=(strsC op).take (n * 1):=by rw [htake]
  rw [List.take_take,Nat.min_eq_left (by omega)] at h3
  rw [h3];simp only [strsC,List.map_take,Nat.mul_one]
theorem ownsRow_below {w w':World} {base:Nat} {e:TypeId} {size:Nat} {v:Value} {n:Nat} {xs:List Value} (h:w.ownsRow base e size v n xs) (k:Below w.heap.size w w'):w'.ownsRow base e size v n xs :=
 World.ownsRow.kept (row:=none) h ⟨k.os,k.tape,k.output,k.size,fun i hi _=>k.block i hi⟩ (by cases v.ownBlock<;>simp)
theorem nestT_o {t:Tok} {op:List Str} (h:t.kind.toNat=111) (hv:voidE t.name=false):nestT t op=if 32<op.length+1 then none else some (op++[t.name]):=by unfold nestT;rw [if_pos ⟨h,hv⟩]
theorem nestT_c {t:Tok} {op:List Str} (h:t.kind.toNat=99):nestT t op=if op.getLast? =some t.name then some op.dropLast else none:=by unfold nestT;rw [if_neg (fun k=>by have:=k.1;omega),if_pos h]
theorem nestT_n {t:Tok} {op:List Str} (h:¬ (t.kind.toNat=111∧voidE t.name=false)) (h2:¬ t.kind.toNat=99):nestT t op=some op:=by unfold nestT;rw [if_neg h,if_neg h2]
set_option maxHeartbeats 8000000 in
set_option maxRecDepth 100000 in
theorem nested_any (L:List Tok) (a:Option Addr) (cap:Nat) (w:World) (hr:TokRow w a L) (hL:L.length≤1000000000) (b:Bool) (hb:nestE L=b):Calls Tryz.prog 57 #[.slice a L.length cap] w fun e w'=>e=.returned (.bool b)∧Below w.heap.size w w':=by
 have hb':decide (nestR L ([],0)=some [])=b:=hb
 have HR:=Lib.hid hr;have HB:=Lib.hid hb'
 clear hr hb hb'
 go_enter Tryz.func57,Tryz.ntmps57
 go_wp2
 go_loopw [3,9] (fun v i wr=>∃ (k:Nat) (op:List Str),i=.int .i64 k∧k≤L.length∧op.length≤32∧wr.ownsRow w.heap.size 9 1 v op.length (strsC op)∧Below w.heap.size w wr∧Hid (nestR L ([],0)=nestR L (op,k)))
  (fun _ i _=>L.length - (intOf i).toNat)
 case atStart=>exact ⟨0,[],rfl,Nat.zero_le _,by simp,World.ownsRow_nil _ _ _ _,Below.refl _ _,Lib.hid rfl⟩
 case round =>
  obtain ⟨k,op,rfl,hk,h32,hown,hbel,hst⟩:=hrel
  by_cases hlt:k<L.length
  ·obtain ⟨g,o,rfl,hg,hrow⟩:=HR.out.resolve_left (by intro h;rw [h] at hlt;simp at hlt)
   have hc:L[k]? =some L[k]:=List.getElem?_eq_getElem hlt
   obtain ⟨t,ht⟩:∃ t,L[k]=t:=⟨_,rfl⟩
   rw [ht] at hc
   obtain ⟨a3,n3,cp3,c0,c1,c2,c3,c4,c5⟩:=hrow k t hc
   have q0:=(hbel.cell (p:=⟨g,o+k * 6,none⟩) hg).trans c0
   have q1:=(hbel.cell (p:=⟨g,o+k * 6+1,none⟩) hg).trans c1
   have q2:=(hbel.cell (p:=⟨g,o+k * 6+2,none⟩) hg).trans c2
   have q3:=(hbel.cell (p:=⟨g,o+k * 6+3,none⟩) hg).trans c3
   have q4:=(hbel.cell (p:=⟨g,o+k * 6+4,none⟩) hg).trans c4
   have q5:=(hbel.cell (p:=⟨g,o+k * 6+5,none⟩) hg).trans c5
   have hgwr:g<wr.heap.size:=Nat.lt_of_lt_of_le hg hbel.size
   have hwi:w.heap.size≤wr.heap.size:=hbel.size
   have HC:=Lib.hid hc;have HRW:=Lib.hid hrow
   clear c0 c1 c2 c3 c4 c5 hrow hc ht
   have c6:Tryz.prog.cellsOf 163=6:=by kernel_rfl
   obtain ⟨n,hn⟩:∃ n,t.kind.toNat=n:=⟨_,rfl⟩
   rw [hn] at q0
   have HN:=Lib.hid hn
   clear hn
   have HOW:=Lib.hid hown
   obtain ⟨vo,hvo⟩:∃ vo,voidE t.name=vo:=⟨_,rfl⟩
   have HV:=Lib.hid hvo
   clear hvo
   rcases hown.2 with ⟨rfl,hn0⟩ | ⟨gs,caps,cur,rfl,hgs,hcur,hnc,hcm,hcsz,htk⟩
   ·have hop:op=[]:=List.eq_nil_of_length_eq_zero hn0
    subst hop
    clear hown
    by_cases h1:n=111
    ·subst h1
     cases vo with
     | true =>
       go_wp2_with (go_at_call 109;refine (void_same _ _ HV.out _).mono ?_;rintro e w2 ⟨rfl,rfl⟩)
       all_goals
        go_roundw
        case rel=>exact ⟨k+1,[],by go_num,hlt,by simp,HOW.out.alloc _,hbel.alloc hwi _,Lib.hid (hst.out.trans (nr_on HC.out (nestT_n (by rw [HV.out];simp) (by rw [HN.out];decide))))⟩
        case measure=>simp [intOf];omega
     | false =>
       go_wp2_with (first | (go_at_call 109;refine (void_same _ _ HV.out _).mono ?_;rintro e w2 ⟨rfl,rfl⟩) | (at_builtin;refine push1 (by rfl) _ _ _ (by rfl) 9 _ 1 16 Tryz.underlying39 infoString36 (by rfl) (by omega) w.heap.size _ _ _ _ (by rfl) (HOW.out.alloc _) [.string (S t.name)] (by rfl) (by simp [Value.oneCell']) (by show Value.slice (some ⟨wr.heap.size+1,0,none⟩) 1 1=_;simp) (by simp) (by simp) (by simp;omega) ?_;intro gg cap8 w8 hgg hown8 hgr8 hb8 hsz8;have HO8:=Lib.hid hown8;have HB8:=Lib.hid hb8;clear hown8 hb8 hgr8))
       all_goals
        refine ⟨⟨k+1,[t.name],by go_num,hlt,by simp,HO8.out,(hbel.alloc hwi _).trans (HB8.out.mono (by first | (simp;done) | (simp;omega))),?_⟩,by first | (simp [intOf];done) | (simp [intOf];omega)⟩
        exact Lib.hid (hst.out.trans (nr_on HC.out (by rw [nestT_o HN.out HV.out];rfl)))
    ·by_cases h9:n=99
     ·subst h9
      have HF:=Lib.hid (show false=b by rw [← HB.out,hst.out,nr_bad HC.out (by rw [nestT_c HN.out];rfl)];rfl)
      go_wp2
      (refine wp_region_quiet_below (by kernel_rfl) (by kernel_rfl) ?_;(repeat (first | go_big_quiet_skip | (go_big_quiet_want;go_big_quiet_op;first | go_big_quiet_on | (apply Exists.intro;refine ⟨fun _=>?_,?_⟩;(· (fail));go_big_quiet_on))));refine wpQuiet_nil ?_;intro _ hw';obtain ⟨⟨dq,osq⟩,hw''⟩:=hw';subst hw'')
      go_wp2
      all_goals (go_ret;exact ⟨congrArg (fun x=>Ending.returned (Value.bool x)) HF.out,(hbel.alloc hwi _).trans ((below_regrown _ _ _).mono (by simp;omega))⟩)
     ·have e1:((n:Int) == 111)=false:=by simp;omega
      have e9:((n:Int) == 99)=false:=by simp;omega
      go_wp2
      all_goals
       first
        | exact ⟨⟨k+1,[],by go_num,hlt,by simp,HOW.out.alloc _,hbel.alloc hwi _,Lib.hid (hst.out.trans (nr_on HC.out (nestT_n (fun h=>h1 (HN.out.symm.trans h.1)) (fun h=>h9 (HN.out.symm.trans h)))))⟩,by first | (simp [intOf];done) | (simp [intOf];omega)⟩
        | skip
   ·have hfz:op.length=0∨∃ m x,op.length=m+1∧op[m]? =some x∧op.getLast? =some x∧op.dropLast=op.take m:=by
     cases ho:op.length with
     | zero=>exact .inl rfl
     | succ m=>obtain ⟨x,h1,h2,h3,_⟩:=last_of ho;exact .inr ⟨m,x,rfl,h1,h2,h3⟩
    have HFZ:=Lib.hid hfz
    clear hown hfz
    by_cases h1:n=111
    ·subst h1
     cases vo with
     | true =>
       go_wp2_with (go_at_call 109;refine (void_same _ _ HV.out _).mono ?_;rintro e w2 ⟨rfl,rfl⟩)
       all_goals
        go_roundw
        case rel=>exact ⟨k+1,op,by go_num,hlt,h32,HOW.out.alloc _,hbel.alloc hwi _,Lib.hid (hst.out.trans (nr_on HC.out (nestT_n (by rw [HV.out];simp) (by rw [HN.out];decide))))⟩
        case measure=>simp [intOf];omega
     | false =>
       by_cases h33:op.length+1≤32
       ·have hgt:¬ (32:Int)<(op.length:Int)+1:=by omega
        go_wp2_with (first | (go_at_call 109;refine (void_same _ _ HV.out _).mono ?_;rintro e w2 ⟨rfl,rfl⟩) | (at_builtin;refine push1 (by rfl) _ _ _ (by rfl) 9 _ 1 16 Tryz.underlying39 infoString36 (by rfl) (by omega) w.heap.size _ _ _ _ (by rfl) (HOW.out.alloc _) [.string (S t.name)] (by rfl) (by simp [Value.oneCell']) (by show Value.slice (some ⟨wr.heap.size+1,0,none⟩) 1 1=_;simp) (by omega) (by omega) (by simp;omega) ?_;intro gg cap8 w8 hgg hown8 hgr8 hb8 hsz8;have HO8:=Lib.hid hown8;have HB8:=Lib.hid hb8;clear hown8 hb8 hgr8))
        all_goals
         refine ⟨⟨k+1,op++[t.name],by go_num,hlt,by simp;omega,?_,(hbel.alloc hwi _).trans (HB8.out.mono (by first | (simp;done) | (simp;omega))),?_⟩,by first | (simp [intOf];done) | (simp [intOf];omega)⟩
         ·have:=HO8.out
          simpa [strsC] using this
         ·exact Lib.hid (hst.out.trans (nr_on HC.out (by rw [nestT_o HN.out HV.out,if_neg (by omega)])))
       ·have hgt:(32:Int)<(op.length:Int)+1:=by omega
        have HF:=Lib.hid (show false=b by rw [← HB.out,hst.out,nr_bad HC.out (by rw [nestT_o HN.out HV.out,if_pos (by omega)])];rfl)
        go_wp2_with (first | (go_at_call 109;refine (void_same _ _ HV.out _).mono ?_;rintro e w2 ⟨rfl,rfl⟩) | (at_builtin;refine push1 (by rfl) _ _ _ (by rfl) 9 _ 1 16 Tryz.underlying39 infoString36 (by rfl) (by omega) w.heap.size _ _ _ _ (by rfl) (HOW.out.alloc _) [.string (S t.name)] (by rfl) (by simp [Value.oneCell']) (by show Value.slice (some ⟨wr.heap.size+1,0,none⟩) 1 1=_;simp) (by omega) (by omega) (by simp;omega) ?_;intro gg cap8 w8 hgg hown8 hgr8 hb8 hsz8;have HO8:=Lib.hid hown8;have HB8:=Lib.hid hb8;clear hown8 hb8 hgr8))
        all_goals (go_ret;exact ⟨congrArg (fun x=>Ending.returned (Value.bool x)) HF.out,(hbel.alloc hwi _).trans (HB8.out.mono (by first | (simp;done) | (simp;omega)))⟩)
    ·by_cases h9:n=99
     ·subst h9
      rcases HFZ.out with hz | ⟨m,x,hm,hx1,hx2,hx3⟩
      ·have hop:op=[]:=List.eq_nil_of_length_eq_zero hz
       subst hop
       have HF:=Lib.hid (show false=b by rw [← HB.out,hst.out,nr_bad HC.out (by rw [nestT_c HN.out];rfl)];rfl)
       simp only [List.length_nil]
       go_wp2
       (refine wp_region_quiet_below (by kernel_rfl) (by kernel_rfl) ?_;(repeat (first | go_big_quiet_skip | (go_big_quiet_want;go_big_quiet_op;first | go_big_quiet_on | (apply Exists.intro;refine ⟨fun _=>?_,?_⟩;(· (fail));go_big_quiet_on))));refine wpQuiet_nil ?_;intro _ hw';obtain ⟨⟨dq,osq⟩,hw''⟩:=hw';subst hw'')
       go_wp2
       all_goals (go_ret;exact ⟨congrArg (fun x=>Ending.returned (Value.bool x)) HF.out,(hbel.alloc hwi _).trans ((below_regrown _ _ _).mono (by simp;omega))⟩)
      ·have hown':wr.ownsRow w.heap.size 9 1 (.slice (some ⟨gs,0,none⟩) (m+1) caps) (m+1) (strsC op):=hm ▸ HOW.out
       have HOW2:=Lib.hid hown'
       have hcx:wr.cell? ⟨gs,m,none⟩=some (.string (S x)):=(hown'.cellAt m (by omega)).trans (by simp only [strsC,List.getElem?_map,hx1,Option.map_some])
       have hgsl:gs<wr.heap.size:=(Array.getElem?_eq_some_iff.1 hcur).1
       have hm32:m≤31:=by omega
       have hwr:IntKind.i64.wrap (m:Int)=(m:Int):=by rw [IntKind.wrap_i64];omega
       have hix1:(m:Int)<(m:Int)+1:=by omega
       have hix2:(m:Int)<((m+1:Nat):Int):=by omega
       have hix3:m<m+1:=by omega
       have hix0:(0:Int)≤(m:Int):=by omega
       have c1:Tryz.prog.cellsOf 9=1:=by kernel_rfl
       have hn0:¬ ((m:Int)<0):=by omega
       have hd0:decide ((m:Int)<0)=false:=by simp
       have hcx5:=fun o=>(((Below.refl wr.heap.size wr).alloc (Nat.le_refl _) o).cell (p:=⟨gs,m,none⟩) hgsl).trans hcx
       have hcx6:=fun o d os=>cell_regrown (hcx5 o) d os
       have hty:(wr.alloc (.cells #[.int .u8 99,.string (S t.name),.string (S t.text),.slice a3 n3 cp3,.int .i64 (t.fr:Nat),.int .i64 (t.to:Nat)] 163)).cell? ⟨wr.heap.size,1,none⟩=some (.string (S t.name)):=by simp
       have hty2:=fun d os=>cell_regrown hty d os
       have HX2:=Lib.hid hx2;have HX3:=Lib.hid hx3;have HM:=Lib.hid hm
       rw [hm]
       rw [hm] at hnc
       clear hown' hx1 hx2 hx3 hcur htk
       by_cases hx:x=t.name
       ·have hcp:nestT t op=some (op.take m):=by rw [nestT_c HN.out,HX2.out,hx,if_pos rfl,HX3.out]
        have HCP:=Lib.hid hcp
        clear hcp
        subst hx
        clear hm
        go_wp2
        (refine wp_region_quiet_below (by kernel_rfl) (by kernel_rfl) ?_;(repeat (first | go_big_quiet_skip | (go_big_quiet_want;go_big_quiet_op;first | go_big_quiet_on | (apply Exists.intro;refine ⟨fun _=>?_,?_⟩;(· (fail));go_big_quiet_on))));refine wpQuiet_nil ?_;intro _ hw';obtain ⟨⟨dq,osq⟩,hw''⟩:=hw';subst hw'')
        go_wp2
        all_goals
         refine ⟨⟨k+1,op.take m,by go_num,hlt,by rw [List.length_take];omega,?_,(hbel.alloc hwi _).trans ((below_regrown _ _ _).mono (by simp;omega)),Lib.hid (hst.out.trans (nr_on HC.out HCP.out))⟩,by first | (simp [intOf];done) | (simp [intOf];omega)⟩
         have hl:(op.take m).length=m:=by rw [List.length_take,HM.out];omega
         rw [hl]
         exact ownsRow_below ((ownsRow_cut HM.out HOW2.out).alloc _) (below_regrown _ _ _)
       ·have hcp:nestT t op=none:=by rw [nestT_c HN.out,HX2.out,if_neg (fun h=>hx (by simpa using h))]
        have HF:=Lib.hid (show false=b by rw [← HB.out,hst.out,nr_bad HC.out hcp];rfl)
        clear hcp hm
        have hne:((S x).toList == (S t.name).toList)=false:=by
         rw [ba_toList,ba_toList]
         exact beq_false_of_ne hx
        go_wp2
        (refine wp_region_quiet_below (by kernel_rfl) (by kernel_rfl) ?_;(repeat (first | go_big_quiet_skip | (go_big_quiet_want;go_big_quiet_op;first | go_big_quiet_on | (apply Exists.intro;refine ⟨fun _=>?_,?_⟩;(· (fail));go_big_quiet_on))));refine wpQuiet_nil ?_;intro _ hw';obtain ⟨⟨dq,osq⟩,hw''⟩:=hw';subst hw'')
        go_wp2
        all_goals (go_ret;exact ⟨congrArg (fun x=>Ending.returned (Value.bool x)) HF.out,(hbel.alloc hwi _).trans ((below_regrown _ _ _).mono (by simp;omega))⟩)
     ·have e1:((n:Int) == 111)=false:=by simp;omega
      have e9:((n:Int) == 99)=false:=by simp;omega
      go_wp2
      all_goals
       exact ⟨⟨k+1,op,by go_num,hlt,h32,HOW.out.alloc _,hbel.alloc hwi _,Lib.hid (hst.out.trans (nr_on HC.out (nestT_n (fun h=>h1 (HN.out.symm.trans h.1)) (fun h=>h9 (HN.out.symm.trans h)))))⟩,by first | (simp [intOf];done) | (simp [intOf];omega)⟩
  ·obtain rfl:k=L.length:=by omega
   have hfin:nestR L ([],0)=some op:=by rw [hst.out,nr_end]
   have hbv:b=decide (op=[]):=by rw [← HB.out,hfin];simp
   rcases hown.2 with ⟨rfl,hn0⟩ | ⟨gs,caps,cur,rfl,hgs,hcur,hnc,hcm,hcsz,htk⟩
   ·have hop:op=[]:=List.eq_nil_of_length_eq_zero hn0
    subst hop
    have H2:=Lib.hid (show true=b by rw [hbv];decide)
    clear hbv hfin
    go_wp2
    all_goals (go_ret;exact ⟨congrArg (fun x=>Ending.returned (Value.bool x)) H2.out,hbel⟩)
   ·have h2:((op.length:Int) == 0)=b:=by
     rw [hbv]
     by_cases hop:op=[]
     ·subst hop;rfl
     ·simp [hop]
    have H2:=Lib.hid h2
    clear h2 hbv hfin
    go_wp2
    all_goals (go_ret;exact ⟨congrArg (fun x=>Ending.returned (Value.bool x)) H2.out,hbel⟩)
end Go.Proofs.YtmpiobfdchlikaaGreatDoor
end
section
namespace Nun
open Go Go.RowKit Go.Proofs Go.Proofs.YtmpiobfdchlikaaGreatDoor
theorem acell_inj {a b:Att} (h:acell a=acell b):a=b:=by
 obtain ⟨a1,a2,a3,a4⟩:=a
 obtain ⟨b1,b2,b3,b4⟩:=b
 simp only [acell,List.cons.injEq,PV.flat.injEq,Value.string.injEq,Value.int.injEq,true_and,and_true,S_inj,Int.ofNat_inj] at h
 obtain ⟨rfl,rfl,rfl,rfl⟩:=h
 rfl
theorem acells_inj:∀ {l l':List Att},acells l=acells l'→l=l'
 | [],[],_=>rfl
 | [],b::l',h=>by have:=congrArg List.length h;rw [acells_len,acells_len] at this;simp at this
 | a::l,[],h=>by have:=congrArg List.length h;rw [acells_len,acells_len] at this;simp at this
 | a::l,b::l',h=>by
   have h':acell a++acells l=acell b++acells l':=h
   obtain ⟨h1,h2⟩:=List.append_inj h' rfl
   rw [acell_inj h1,acells_inj h2]
theorem tcell_inj {a b:Tok} (h:tcell a=tcell b):a=b:=by
 obtain ⟨a1,a2,a3,a4,a5,a6⟩:=a
 obtain ⟨b1,b2,b3,b4,b5,b6⟩:=b
 simp only [tcell,List.cons.injEq,PV.flat.injEq,PV.slc.injEq,Value.string.injEq,Value.int.injEq,true_and,and_true,S_inj,Int.ofNat_inj] at h
 obtain ⟨h1,rfl,rfl,⟨_,h4⟩,rfl,rfl⟩:=h
 rw [UInt8.toNat_inj.1 h1,acells_inj h4]
theorem tcells_inj:∀ {l l':List Tok},tcells l=tcells l'→l=l'
 | [],[],_=>rfl
 | [],b::l',h=>by have:=congrArg List.length h;rw [tcells_len,tcells_len] at this;simp at this
 | a::l,[],h=>by have:=congrArg List.length h;rw [tcells_len,tcells_len] at this;simp at this
 | a::l,b::l',h=>by
   have h':tcell a++tcells l=tcell b++tcells l':=h
   obtain ⟨h1,h2⟩:=List.append_inj h' rfl
   rw [tcell_inj h1,tcells_inj h2]
open Classical in
noncomputable def nestLib:Callee:=fun f args bx oc=>if h:f=57∧bx=[]∧oc=[]∧∃ L:List Tok,L.length≤1000000000∧args=[.slc L.length (tcells L)] then some ([.flat (.bool (nestE (choose h.2.2.2)))],false,[],[]) else none
theorem nestLib_eq (L:List Tok) (hL:L.length≤1000000000):nestLib 57 [.slc L.length (tcells L)] [] []=some ([.flat (.bool (nestE L))],false,[],[]):=by
 unfold nestLib
 have h:57=57∧([]:Boxes)=[]∧([]:List Loc)=[]∧∃ L':List Tok,L'.length≤1000000000∧[PV.slc L.length (tcells L)]=[.slc L'.length (tcells L')]:=⟨rfl,rfl,rfl,L,hL,rfl⟩
 rw [dif_pos h]
 have hc:=(Classical.choose_spec h.2.2.2).2
 obtain ⟨L',hL'⟩:∃ L',Classical.choose h.2.2.2=L':=⟨_,rfl⟩
 rw [hL'] at hc
 rw [hL']
 simp only [List.cons.injEq,PV.slc.injEq,and_true] at hc
 rw [← tcells_inj hc.2]
theorem nestLib_ok {Γ:Glob}:CallOk Tryz.prog Γ nestLib:=by
 intro f args bx oc vs' os bx' oc' he
 unfold nestLib at he
 split at he
 case isFalse=>cases he
 rename_i h
 cases he
 have hc:=Classical.choose_spec h.2.2.2
 obtain ⟨L,hL⟩:∃ L,Classical.choose h.2.2.2=L:=⟨_,rfl⟩
 rw [hL] at hc
 rw [hL]
 obtain ⟨rfl,rfl,rfl,_⟩:=h
 obtain ⟨hlen,rfl⟩:=hc
 intro w Fr β vs hp
 refine enters_of (by kernel_rfl) (by decide) ?_
 have ha:=hp.args
 simp only [Rds] at ha
 obtain ⟨v,r,rfl,hv,rfl⟩:=ha
 simp only [Rd] at hv
 obtain ⟨a,cap,rfl,hcap,hrow⟩:=hv
 have hT:TokRow w a L:=by
  rcases hrow with ⟨h1,h2⟩ | ⟨g,o,us,rfl,hR,hS,hO⟩
  ·exact .inl (List.eq_nil_of_length_eq_zero h2)
  ·by_cases hn:L=[]
   ·exact .inl hn
   ·refine .inr ⟨g,o,rfl,?_,fun k t ht=>?_⟩
    ·obtain ⟨t,L',rfl⟩:=List.exists_cons_of_ne_nil hn
     obtain ⟨v0,h3,_⟩:=hS.get 0 _ (by rfl)
     exact World.block_lt_of_cell? w _ (hR 0 v0 h3).2
    ·have hg:∀ j p,(tcell t)[j]? =some p→∃ v,w.cell? ⟨g,o+k * 6+j,none⟩=some v∧Rd w Fr β p v:=fun j p hj=>by
      have hd:=tcells_at ht
      have:(tcells L)[k * 6+j]? =some p:=by
       rw [← List.getElem?_drop,hd,List.getElem?_append_left (List.getElem?_eq_some_iff.1 hj).1,hj]
      obtain ⟨v,h3,h4⟩:=hS.get _ _ this
      exact ⟨v,by rw [Nat.add_assoc];exact (hR _ v h3).2,h4⟩
     obtain ⟨v0,c0,d0⟩:=hg 0 _ rfl
     obtain ⟨v1,c1,d1⟩:=hg 1 _ rfl
     obtain ⟨v2,c2,d2⟩:=hg 2 _ rfl
     obtain ⟨v3,c3,d3⟩:=hg 3 _ rfl
     obtain ⟨v4,c4,d4⟩:=hg 4 _ rfl
     obtain ⟨v5,c5,d5⟩:=hg 5 _ rfl
     simp only [Rd] at d0 d1 d2 d3 d4 d5
     obtain ⟨rfl,_⟩:=d0
     obtain ⟨rfl,_⟩:=d1
     obtain ⟨rfl,_⟩:=d2
     obtain ⟨a3,cp3,rfl,_⟩:=d3
     obtain ⟨rfl,_⟩:=d4
     obtain ⟨rfl,_⟩:=d5
     exact ⟨_,_,_,c0,c1,c2,c3,c4,c5⟩
 refine (nested_any L a cap w hT hlen _ rfl).mono ?_
 rintro e w' ⟨rfl,hb⟩
 obtain ⟨R,hl⟩:=hp.rel.grow hb (Fr':=Fr) fun _ _=>rfl
 exact ⟨_,Fr,β,rfl,by simp [tupOf,Rd,flatV],R,hl,(fun L h=>by cases h),fun h=>by cases h⟩
end Nun
end
section
namespace Go.Proofs.YtmpiobfdchlikaaGreatDoor
open Go.RowKit Nun
theorem sizeB:(Tryz.prog.info? 59).map (·.size)=some 2:=by kernel_rfl
theorem liesB:liesAt Tryz.prog Tryz.prog.depth 59 (2 / Tryz.prog.cellsOf 59) 0 59 1=true:=by kernel_rfl
set_option maxHeartbeats 1000000 in
set_option maxRecDepth 100000 in
theorem copy_used (b:Nat) (w:World) (h0:w.cell? ⟨b,0,none⟩=some (.pointer (some ⟨b,0,none⟩))) :
 Calls Tryz.prog 95 #[.pointer (some ⟨b,0,none⟩)] w fun e w'=>e=.returned (.tuple #[])∧w'=w:=by
 obtain ⟨j,hj,_⟩:=Option.map_eq_some_iff.1 sizeB
 go_enter Tryz.func95,Tryz.ntmps95
 go_wp2
 rw [Lib.run_neq_ptr_same w _ Tryz.underlying57 hj]
 go_wp2
 go_end0
 exact ⟨rfl,rfl⟩
set_option maxHeartbeats 1000000 in
set_option maxRecDepth 100000 in
theorem copy_fresh (b:Nat) (w:World) (h0:w.cell? ⟨b,0,none⟩=some (.pointer none)) (hsh:w.shape? b=some (59,2)) (hfz:w.frozen? ⟨b,0,none⟩=false) :
 Calls Tryz.prog 95 #[.pointer (some ⟨b,0,none⟩)] w fun e w'=>e=.returned (.tuple #[])∧w'=w.setCell ⟨b,0,none⟩ (.pointer (some ⟨b,0,none⟩)):=by
 obtain ⟨j,hj,hjs⟩:=Option.map_eq_some_iff.1 sizeB
 have hc0:(w.setCell ⟨b,0,none⟩ (.pointer (some ⟨b,0,none⟩))).cell? ⟨b,0,none⟩=some (.pointer (some ⟨b,0,none⟩)):=World.cell?_setCell_same' _ _ _ (by rw [h0];rfl)
 go_enter Tryz.func95,Tryz.ntmps95
 go_wp2
 rw [Lib.run_to_unsafe w ⟨b,0,none⟩ Tryz.underlying57 Tryz.underlying184 hj (by rw [hjs];decide) hsh (Nat.zero_lt_succ 1)]
 simp only [Result.andThen]
 rw [Oper.upon_value]
 go_wp2
 rw [run_callFunc_extern Tryz.func151 (by kernel_rfl) (by kernel_rfl) (by kernel_rfl) (e:=Extern.AbiNoEscape.same) (by kernel_rfl)]
 rw [Lib.run_noEscape]
 simp only [Result.andThen]
 rw [Oper.upon_value]
 go_wp2
 rw [Lib.run_from_unsafe w ⟨b,0,none⟩ Tryz.underlying184 Tryz.underlying57 hj hsh liesB]
 simp only [Result.andThen]
 rw [Oper.upon_value]
 go_wp2
 go_end0
 exact ⟨rfl,rfl⟩
theorem copy_any (B b:Nat) (bs:List Value) (w:World) (h:Lib.IsBuilderF 59 5 B b bs w) :
 Calls Tryz.prog 95 #[.pointer (some ⟨b,0,none⟩)] w fun e w'=>e=.returned (.tuple #[])∧(Lib.BuilderAtF 59 5 B b (.pointer (some ⟨b,0,none⟩)) bs w'∧Below B w w'∧Lib.OthersKept 5 (some b) w w'):=by
 rcases h with h | h
 ·refine (copy_fresh b w h.cell0 h.shape h.frozen0).mono ?_
  rintro e w' ⟨rfl,rfl⟩
  exact ⟨rfl,h.used _,(Below.refl B w).setCell (p:=⟨b,0,none⟩) h.1 _,(Lib.OthersKept.refl _ _ w).setCell ⟨b,0,none⟩ rfl _⟩
 ·refine (copy_used b w h.cell0).mono ?_
  rintro e w' ⟨rfl,rfl⟩
  exact ⟨rfl,h,Below.refl B _,Lib.OthersKept.refl _ _ _⟩
set_option maxHeartbeats 2000000 in
set_option maxRecDepth 100000 in
theorem writeByte (B b:Nat) (bs:List Value) (c:Int) (w:World) (h:Lib.IsBuilderF 59 5 B b bs w) (hlen:bs.length+1≤140737488355328) (hBw:B≤w.heap.size) :
 Calls Tryz.prog 84 #[.pointer (some ⟨b,0,none⟩),.int .u8 c] w fun e w'=>e=.returned .nilIface∧(Lib.IsBuilderF 59 5 B b (bs++[.int .u8 c]) w'∧Below B w w'∧Lib.OthersKept 5 (some b) w w'):=by
 obtain ⟨i0,hi,hz0,hz1,hz2⟩:=info_parts infoByte
 go_enter Tryz.func84,Tryz.ntmps84
 go_wp2_with (go_at_call 95;refine (copy_any B b bs _ h).mono ?_)
 rintro e w1 ⟨rfl,h1,hb1,hk1⟩
 obtain ⟨hB,v,hbk,hown,hne⟩:=h1
 have c0:w1.cell? ⟨b,0,none⟩=some (.pointer (some ⟨b,0,none⟩)):=by rw [Lib.cell_of_heap hbk];rfl
 have c1:w1.cell? ⟨b,1,none⟩=some v:=by rw [Lib.cell_of_heap hbk];rfl
 go_wp2_with (at_builtin;refine wpList_append_ownF _ rfl _ _ 44 rfl B 5 i0 (.int .u8 0) 1 1 Tryz.underlying44 hi hz0 hz1 hz2 rfl (by decide) _ _ _ rfl (hown.alloc _) ⟨w1.heap.size,0,none⟩ 1 1 [.int .u8 c] rfl rfl ?c1 ?c2 ?c3 ?c4 ?c5 ?_)
 case c1 =>
  intro j u hj
  match j,hj with
  | 0,hj=>simp at hj;subst hj;simp [Addr.add]
 case c2=>intro u hu;simp at hu;subst hu;rfl
 case c3=>unfold maxLen;omega
 case c4=>omega
 case c5=>have:=hb1.size;simp;omega
 intro v' w2 hown' hgrow _
 have hlt:b<w1.heap.size:=by
  rcases Nat.lt_or_ge b w1.heap.size with h' | h'
  ·exact h'
  ·simp [Array.getElem?_eq_none h'] at hbk
 have hb2:w2.heap[b]? =some (.cells #[.pointer (some ⟨b,0,none⟩),v] 59 (0,0)):=by
  rw [hgrow.block b (by simp;omega) (fun e=>hne e.symm),Lib.alloc_old w1 _ b hlt]
  exact hbk
 have d0:w2.cell? ⟨b,0,none⟩=some (.pointer (some ⟨b,0,none⟩)):=by rw [Lib.cell_of_heap hb2];rfl
 have d1:w2.cell? ⟨b,1,none⟩=some v:=by rw [Lib.cell_of_heap hb2];rfl
 have f1:w2.frozen? ⟨b,1,none⟩=false:=Lib.frozen_of_heap hb2 1
 obtain ⟨g,cap,rfl⟩:∃ g cap,v'=.slice (some ⟨g,0,none⟩) (bs.length+1) cap:=by
  rcases hown'.2 with ⟨_,h0⟩ | ⟨g,cap,cur,fz,hv,_⟩
  ·omega
  ·exact ⟨g,cap,hv⟩
 go_wp2
 go_ret
 refine ⟨rfl,.inr ?_,?_,((hk1.alloc _).grown hgrow (Lib.ownsRowF_kind (hown.alloc _))).setCell ⟨b,1,none⟩ rfl _⟩
 ·exact Lib.BuilderAtF.put (T:=59) (e:=5) hB hb2 (bs':=bs++[.int .u8 c]) (by simpa using hown') (by decide)
 ·exact ((hb1.alloc (by have:=hb1.size;omega) _).grown hgrow (by have:=hb1.size;simp;omega) (fun k hk=>(hown.lt k hk).1)).setCell (p:=⟨b,1,none⟩) hB _
set_option maxHeartbeats 2000000 in
set_option maxRecDepth 100000 in
theorem writeString (B b:Nat) (bs:List Value) (s:ByteArray) (w:World) (h:Lib.IsBuilderF 59 5 B b bs w) (hlen:bs.length+s.size≤140737488355328) (hBw:B≤w.heap.size) :
 Calls Tryz.prog 47 #[.pointer (some ⟨b,0,none⟩),.string s] w fun e w'=>e=.returned (.tuple #[.int .i64 s.size,.nilIface])∧(Lib.IsBuilderF 59 5 B b (bs++Lib.strCells s) w'∧Below B w w'∧Lib.OthersKept 5 (some b) w w'):=by
 obtain ⟨i0,hi,hz0,hz1,hz2⟩:=info_parts infoByte
 go_enter Tryz.func47,Tryz.ntmps47
 go_wp2_with (go_at_call 95;refine (copy_any B b bs _ h).mono ?_)
 rintro e w1 ⟨rfl,h1,hb1,hk1⟩
 obtain ⟨hB,v,hbk,hown,hne⟩:=h1
 have c0:w1.cell? ⟨b,0,none⟩=some (.pointer (some ⟨b,0,none⟩)):=by rw [Lib.cell_of_heap hbk];rfl
 have c1:w1.cell? ⟨b,1,none⟩=some v:=by rw [Lib.cell_of_heap hbk];rfl
 go_wp2_with (at_builtin;refine Lib.wpList_append_own_stringF _ rfl _ _ 44 9 rfl B 5 i0 Tryz.underlying44 Tryz.underlying9 hi hz0 hz1 hz2 _ _ _ rfl hown s rfl ?c3 ?c4 ?c5 ?_)
 case c3=>unfold maxLen;omega
 case c4=>omega
 case c5=>have:=hb1.size;omega
 intro v' w2 hown' hgrow _
 have hlt:b<w1.heap.size:=by
  rcases Nat.lt_or_ge b w1.heap.size with h' | h'
  ·exact h'
  ·simp [Array.getElem?_eq_none h'] at hbk
 have hb2:w2.heap[b]? =some (.cells #[.pointer (some ⟨b,0,none⟩),v] 59 (0,0)):=by
  rw [hgrow.block b hlt (fun e=>hne e.symm)]
  exact hbk
 have d0:w2.cell? ⟨b,0,none⟩=some (.pointer (some ⟨b,0,none⟩)):=by rw [Lib.cell_of_heap hb2];rfl
 have d1:w2.cell? ⟨b,1,none⟩=some v:=by rw [Lib.cell_of_heap hb2];rfl
 have f1:w2.frozen? ⟨b,1,none⟩=false:=Lib.frozen_of_heap hb2 1
 obtain ⟨ao,n',cap,rfl⟩:∃ ao n' cap,v'=.slice ao n' cap:=by
  rcases hown'.2 with ⟨hv,_⟩ | ⟨g,cap,cur,fz,hv,_⟩
  ·exact ⟨_,_,_,hv⟩
  ·exact ⟨_,_,_,hv⟩
 go_wp2
 go_ret2
 refine ⟨rfl,.inr ?_,?_,(hk1.grown hgrow (Lib.ownsRowF_kind hown)).setCell ⟨b,1,none⟩ rfl _⟩
 ·exact Lib.BuilderAtF.put (T:=59) (e:=5) hB hb2 (bs':=bs++Lib.strCells s) (by simpa [Lib.strCells_length] using hown') (by decide)
 ·exact (hb1.grown hgrow (by have:=hb1.size;omega) (fun k hk=>(hown.lt k hk).1)).setCell (p:=⟨b,1,none⟩) hB _
def Bd (B b:Nat) (l:List UInt8) (w:World):Prop:=Lib.IsBuilderF 59 5 B b (Lib.byteCells l) w
theorem Bd.fresh (w:World):Bd w.heap.size w.heap.size [] (w.alloc (.cells #[.pointer none,.slice none 0 0] 59)):=Lib.IsBuilderF.of (Lib.fresh_isBuilder _ _ w)
theorem Bd.drew {B b:Nat} {l:List UInt8} {w:World} (h:Bd B b l w):Bd B b l w.drew:=h
theorem Bd.alloc {B b:Nat} {l:List UInt8} {w:World} (h:Bd B b l w) (o:Obj):Bd B b l (w.alloc o):=by
 rcases h with h | h
 ·exact .inl (h.alloc o)
 ·exact .inr (h.alloc o)
theorem Bd.lt {B b:Nat} {l:List UInt8} {w:World} (h:Bd B b l w):B≤b∧b<w.heap.size:=by
 rcases h with h | h
 ·exact ⟨h.1,h.lt⟩
 ·exact ⟨h.1,h.lt⟩
theorem Bd.kept {B b:Nat} {l:List UInt8} {w w':World} (h:Bd B b l w) (k:Below w.heap.size w w'):Bd B b l w':=by
 have kk:∀ p,Lib.BuilderAtF 59 5 B b p (Lib.byteCells l) w→Lib.BuilderAtF 59 5 B b p (Lib.byteCells l) w':=by
  rintro p h
  have hlt:=h.lt
  obtain ⟨hB,v,hb,hown,hne⟩:=h
  exact ⟨hB,v,(k.block b hlt).trans hb,hown.kept (row:=none) ⟨k.os,k.tape,k.output,k.size,fun i hi _=>k.block i hi⟩ (by cases v.ownBlock<;>simp),hne⟩
 rcases h with h | h
 ·exact .inl (kk _ h)
 ·exact .inr (kk _ h)
theorem bd_byte (B b:Nat) (l:List UInt8) (c:UInt8) (w:World) (h:Bd B b l w) (hlen:l.length+1≤140737488355328) :
 Calls Tryz.prog 84 #[.pointer (some ⟨b,0,none⟩),.int .u8 c.toNat] w fun e w'=>e=.returned .nilIface∧Bd B b (l++[c]) w'∧Below B w w'∧Lib.OthersKept 5 (some b) w w':=by
 have hl:=h.lt
 refine (writeByte B b _ c.toNat w h (by rw [Lib.byteCells_length];exact hlen) (by omega)).mono ?_
 rintro e w' ⟨rfl,h1,h2⟩
 exact ⟨rfl,by unfold Bd;rw [Lib.byteCells_append];exact h1,h2⟩
theorem bd_string (B b:Nat) (l:List UInt8) (s:ByteArray) (w:World) (h:Bd B b l w) (hlen:l.length+s.size≤140737488355328) :
 Calls Tryz.prog 47 #[.pointer (some ⟨b,0,none⟩),.string s] w fun e w'=>e=.returned (.tuple #[.int .i64 s.size,.nilIface])∧Bd B b (l++s.data.toList) w'∧Below B w w'∧Lib.OthersKept 5 (some b) w w':=by
 have hl:=h.lt
 refine (writeString B b _ s w h (by rw [Lib.byteCells_length];exact hlen) (by omega)).mono ?_
 rintro e w' ⟨rfl,h1,h2⟩
 exact ⟨rfl,by unfold Bd;rw [Lib.byteCells_append,← Lib.strCells_eq];exact h1,h2⟩
theorem bd_text (B b:Nat) (l:List UInt8) (w:World) (h:Bd B b l w) :
 Calls Tryz.prog 28 #[.pointer (some ⟨b,0,none⟩)] w fun e w'=>e=.returned (.string ⟨l.toArray⟩)∧Bd B b l w'∧Below B w w'∧Lib.OthersKept 5 (some b) w w' :=
 Tryz.Builder_String_any_k B b l w h (by have:=h.lt;omega)
end Go.Proofs.YtmpiobfdchlikaaGreatDoor
end
section
set_option synthInstance.maxSize 4000
namespace Nun
def digits64:List UInt8:=[65,66,67,68,69,70,71,72,73,74,75,76,77,78,79,80,81,82,83,84,85,86,87,88,89,90,97,98,99,100,101,102,103,104,105,106,107,108,109,110,111,112,113,114,115,116,117,118,119,120,121,122,48,49,50,51,52,53,54,55,56,57,43,47]
def dig (n:Nat):UInt8:=digits64.getD n 0
def val64 (c:UInt8):Option Nat:=if 65≤c∧c≤90 then some (c.toNat - 65) else if 97≤c∧c≤122 then some (c.toNat - 71) else if 48≤c∧c≤57 then some (c.toNat+4) else if c=43 then some 62 else if c=47 then some 63 else none
def tabRow (i:Nat):List UInt8:=(digits64.drop (16 * i)).take 16
def Tab (w:Go.World):Prop:=∀ i,i<4→w.cell? ⟨1,i,none⟩=some (.string ⟨(tabRow i).toArray⟩)
theorem Tab.lt {w:Go.World} (h:Tab w):1<w.heap.size:=Go.World.block_lt_of_cell? w _ (h 0 (by decide))
theorem Tab.kept {w w':Go.World} (h:Tab w) (hb:Go.RowKit.Below w.heap.size w w'):Tab w':=fun i hi=>(hb.cell (p:=⟨1,i,none⟩) h.lt).trans (h i hi)
theorem dig_row:∀ i:Fin 4,∀ j:Fin 16,(tabRow i.1)[j.1]? =some (dig (16 * i.1+j.1)):=by decide +kernel
end Nun
namespace Go.Proofs.YtmpiobfdchlikaaGreatDoor
open Go.RowKit Nun
theorem and3 (x:Nat) (h:x<4294967296):bits .and .u32 (x:Int) 3=((x % 4:Nat):Int):=by
 rw [show (3:Int)=((3:Nat):Int) from rfl,u32_and_nat x 3 h (by decide),Nat.and_two_pow_sub_one_eq_mod x 2]
theorem and15 (x:Nat) (h:x<4294967296):bits .and .u32 (x:Int) 15=((x % 16:Nat):Int):=by
 rw [show (15:Int)=((15:Nat):Int) from rfl,u32_and_nat x 15 h (by decide),Nat.and_two_pow_sub_one_eq_mod x 4]
set_option maxHeartbeats 400000 in
theorem digit_any (n:Nat) (hn:n<64) (w:World) (hT:Tab w):Calls Tryz.prog 191 #[.int .u32 n] w (Same (.int .u8 (dig n).toNat) w):=by
 have hc:=hT (n / 16) (by omega)
 have hr:=dig_row ⟨n / 16,by omega⟩ ⟨n % 16,by omega⟩
 simp only [show 16 * (n / 16)+n % 16=n from Nat.div_add_mod n 16] at hr
 have e1:bits .and .u32 ((n:Int) / 16) 3=((n / 16:Nat):Int):=by
  rw [show (n:Int) / 16=((n / 16:Nat):Int) by omega,and3 _ (by omega)];omega
 have e2:bits .and .u32 (n:Int) 15=((n % 16:Nat):Int):=and15 n (by omega)
 generalize hx:n / 16=x at *
 generalize hy:n % 16=y at *
 have h1:(x:Int)<4:=by omega
 have h2:(y:Int)<16:=by omega
 have h3:(tabRow x).length=16:=by
  have:∀ i:Fin 4,(tabRow i.1).length=16:=by decide
  exact this ⟨x,by omega⟩
 have h4:(ByteArray.mk (tabRow x).toArray).size=16:=h3
 have H:=Lib.hid hr
 clear hr hx hy hn
 have hy:y<16:=by omega
 go_enter Tryz.func191,Tryz.ntmps191
 go_wp2
 go_ret
 refine ⟨r1 (vi ?_),rfl⟩
 obtain ⟨_,hd⟩:=List.getElem?_eq_some_iff.1 H.out
 rw [← hd];rfl
set_option maxHeartbeats 400000 in
theorem worth64 (c:UInt8) (w:World):Calls Tryz.prog 218 #[.int .u8 c.toNat] w (Same (.tuple #[.int .u32 ((val64 c).getD 0),.bool (val64 c).isSome]) w):=by
 go_enter Tryz.func218,Tryz.ntmps218
 go_wp2
 all_goals (go_ret2;refine ⟨t2 (vi ?_) (vb ?_),rfl⟩)
 all_goals (go_light;revert c;decide +kernel)
end Go.Proofs.YtmpiobfdchlikaaGreatDoor
end
section
set_option synthInstance.maxSize 4000
namespace Nun
def num (l:List UInt8):Nat→Nat
 | 0=>0
 | i+1=>num l i * 256+((l[i]?).getD 0).toNat
def quad (l:List UInt8):List UInt8:=[dig (num l 3 / 262144 % 64),dig (num l 3 / 4096 % 64),if l.length<2 then 61 else dig (num l 3 / 64 % 64),if l.length<3 then 61 else dig (num l 3 % 64)]
def enc64:List UInt8→List UInt8
 | []=>[]
 | [a]=>quad [a]
 | [a,b]=>quad [a,b]
 | a::b::c::l=>quad [a,b,c]++enc64 l
theorem num_lt (l:List UInt8) (i:Nat):num l i<256 ^ i:=by
 induction i with
 | zero=>simp [num]
 | succ i ih =>
   have:=((l[i]?).getD 0).toNat_lt
   simp only [num,Nat.pow_succ]
   omega
theorem num_lt3 (l:List UInt8) (i:Nat) (h:i≤3):num l i<16777216:=Nat.lt_of_lt_of_le (num_lt l i) (Nat.pow_le_pow_right (n:=256) (by decide) h)
theorem num_lt2 (l:List UInt8) (i:Nat) (h:i<3):num l i<65536:=Nat.lt_of_lt_of_le (num_lt l i) (Nat.pow_le_pow_right (n:=256) (by decide) (Nat.le_of_lt_succ h))
theorem num_or (l:List UInt8) (i:Nat) (h:i<3) (c:UInt8) (hc:l[i]? =some c):Go.bits .or .u32 ((num l i:Int) * 256) c.toNat=num l (i+1):=by
 have h1:=num_lt2 l i h
 have h2:=c.toNat_lt
 have e:(num l i:Int) * 256=((num l i * 256:Nat):Int):=by omega
 rw [e,Go.u32_or_nat _ _ (by omega) (by omega),Go.nat_join 8 _ _ (by omega) (by omega),num,hc];rfl
theorem num_out (l:List UInt8) (i:Nat) (hc:l[i]? =none):(num l (i+1):Int)=num l i * 256:=by rw [num,hc];simp
theorem enc64_step (l:List UInt8) (h:l≠[]):enc64 l=quad l++enc64 (l.drop 3):=by
 match l,h with
 | [a],_=>rfl
 | [a,b],_=>rfl
 | a::b::c::l,_ =>
   show quad [a,b,c]++enc64 l=quad (a::b::c::l)++enc64 l
   have:quad [a,b,c]=quad (a::b::c::l):=by
    have e:∀ i,i≤3→num [a,b,c] i=num (a::b::c::l) i:=fun i hi=>by
     match i,hi with
     | 0,_=>rfl
     | 1,_=>rfl
     | 2,_=>rfl
     | 3,_=>rfl
    unfold quad
    rw [e 3 (Nat.le_refl _),if_neg (by simp),if_neg (by simp),if_neg (by simp),if_neg (by simp)]
   rw [this]
end Nun
namespace Go.Proofs.YtmpiobfdchlikaaGreatDoor
open Go.RowKit Nun
theorem and63 (x:Nat) (h:x<4294967296):bits .and .u32 (x:Int) 63=((x % 64:Nat):Int):=by
 rw [show (63:Int)=((63:Nat):Int) from rfl,u32_and_nat x 63 h (by decide),Nat.and_two_pow_sub_one_eq_mod x 6]
theorem digit_at (m:Int) (n:Nat) (h:m=n) (hn:n<64) (w:World) (hT:Tab w):Calls Tryz.prog 191 #[.int .u32 m] w (Same (.int .u8 (dig n).toNat) w):=h ▸ digit_any n hn w hT
theorem take_snoc (s:List UInt8) (k:Nat) (h:k<s.length):s.take (k+1)=s.take k++[s[k]]:=by
 rw [List.take_succ_eq_append_getElem h]
set_option maxHeartbeats 1000000 in
theorem encode64 (s:ByteArray) (w:World) (hT:Tab w) (hs:s.size≤1000000):Calls Tryz.prog 150 #[.string s] w (Ret (.string ⟨(enc64 s.data.toList).toArray⟩) w):=by
 have hlen:s.data.toList.length=s.size:=rfl
 have HL:=Lib.hid hlen;clear hlen
 go_enter Tryz.func150,Tryz.ntmps150
 go_wp2
 go_loopw [0] (fun b wr=>∃ (k:Nat) (t:ByteArray) (acc:List UInt8),k≤s.size∧b=.string t∧t.size+k=s.size∧Bd w.heap.size w.heap.size acc wr∧acc.length≤4 * k∧Below w.heap.size w wr∧Hid (t.data.toList=s.data.toList.drop k)∧Hid (enc64 s.data.toList=acc++enc64 (s.data.toList.drop k)))
  (fun b _=>match b with | .string t=>t.size | _=>0)
 case atStart=>exact ⟨0,s,[],Nat.zero_le _,rfl,rfl,Bd.fresh w,by simp,(Below.refl _ _).alloc (Nat.le_refl _) _,Lib.hid rfl,Lib.hid rfl⟩
 case round =>
  obtain ⟨k,t,acc,hk,rfl,ht,hbd,hak,hbel,htd,henc⟩:=hrel
  have hT':=hT.kept hbel
  by_cases hlt:0<t.size
  ·go_wp2
   have hK:min 3 ((t.size:Nat):Int)=((min 3 t.size:Nat):Int):=by omega
   have hK1:1≤min 3 t.size:=by omega
   have hK3:min 3 t.size≤3:=by omega
   have hKt:min 3 t.size≤t.size:=by omega
   have hKe:Hid (min 3 t.size=min 3 t.data.toList.length):=Lib.hid rfl
   have hKs:min 3 t.size=3∨min 3 t.size=t.size:=by omega
   rw [hK];clear hK
   generalize min 3 t.size=K at *
   go_loopw [5,14] (fun n i wr1=>∃ j:Nat,j≤3∧i=.int .i64 j∧n=.int .u32 (num t.data.toList j)∧wr1=wr) (fun _ i _=>3 - (intOf i).toNat)
   case atStart=>exact ⟨0,by omega,rfl,rfl,rfl⟩
   case round =>
    obtain ⟨j,hj,rfl,rfl,rfl⟩:=hrel
    by_cases hj3:j<3
    ·have hb:=num_lt2 t.data.toList j hj3
     by_cases hjk:j<K
     ·have hbt:=num_or t.data.toList j hj3 (t[j]'(by omega)) (List.getElem?_eq_getElem (l:=t.data.toList) (by show j<t.size;omega))
      have HB:=Lib.hid hbt;clear hbt
      have hc256:=(t[j]'(by omega)).toNat_lt
      go_wp2
      go_roundw
      case rel=>exact ⟨j+1,by omega,by go_num,vi (by first | exact HB.out | (rw [← HB.out];congr 1;omega)),trivial⟩
      case measure=>simp [intOf];omega
     ·have hbt:=num_out t.data.toList j (List.getElem?_eq_none (by show t.size≤j;omega))
      have HB:=Lib.hid hbt;clear hbt
      go_wp2
      go_roundw
      case rel=>exact ⟨j+1,by omega,by go_num,vi (by first | exact HB.out.symm | (rw [HB.out];omega)),trivial⟩
      case measure=>simp [intOf];omega
    ·obtain rfl:j=3:=by omega
     obtain ⟨d0,d1,d2,d3,hq,e0,e1,e2,e3⟩:∃ d0 d1 d2 d3,quad t.data.toList=[d0,d1,d2,d3]∧d0=dig (num t.data.toList 3 / 262144 % 64)∧d1=dig (num t.data.toList 3 / 4096 % 64)∧d2=(if K<2 then 61 else dig (num t.data.toList 3 / 64 % 64))∧d3=(if K<3 then 61 else dig (num t.data.toList 3 % 64)):=by
      refine ⟨_,_,_,_,rfl,rfl,rfl,?_,?_⟩
      ·have:=hKe.out;split<;>split<;>first | rfl | omega
      ·have:=hKe.out;split<;>split<;>first | rfl | omega
     have HQ:=Lib.hid hq;clear hq
     generalize hN:num t.data.toList 3=N at *
     have hN':N<16777216:=hN ▸ num_lt3 _ _ (Nat.le_refl _)
     clear hN
     have E0:=Lib.hid e0;have E1:=Lib.hid e1;have E2:=Lib.hid e2;have E3:=Lib.hid e3;clear e0 e1 e2 e3
     go_wp2
     rw [show ((3:Nat):Int)=3 from rfl]
     go_loopw [29] (fun i wr1=>∃ j:Nat,j≤4∧i=.int .i64 j∧Bd w.heap.size w.heap.size (acc++[d0,d1,d2,d3].take j) wr1∧Below w.heap.size w wr1) (fun i _=>4 - (intOf i).toNat)
     case atStart=>exact ⟨0,by omega,rfl,by simpa using hbd,hbel⟩
     case round =>
      clear hbd hbel hT'
      obtain ⟨j,hj,rfl,hbd,hbel⟩:=hrel
      have hT':=hT.kept hbel
      by_cases hj4:j<4
      ·have hlen:(acc++[d0,d1,d2,d3].take j).length+1≤140737488355328:=by simp;omega
       obtain rfl | rfl | rfl | rfl:j=0∨j=1∨j=2∨j=3:=by omega
       ·have a1:bits .and .u32 ((N:Int) / 262144) 63=((N / 262144 % 64:Nat):Int):=and63 (N / 262144) (by omega)
        obtain rfl:=E0.out
        go_wp2_with (first | (go_at_call 191;refine (digit_at _ (N / 262144 % 64) (by omega) (by omega) _ hT').mono ?_;rintro e w' ⟨rfl,rfl⟩) | (go_at_call 84;refine (bd_byte _ _ _ _ _ hbd hlen).mono ?_;rintro e w2 ⟨rfl,hbd2,hb2,_⟩))
        go_roundw
        case rel=>exact ⟨1,by omega,by go_num,by simpa using hbd2,hbel.trans hb2⟩
        case measure=>simp [intOf]
       ·have a1:bits .and .u32 ((N:Int) / 4096) 63=((N / 4096 % 64:Nat):Int):=and63 (N / 4096) (by omega)
        obtain rfl:=E1.out
        go_wp2_with (first | (go_at_call 191;refine (digit_at _ (N / 4096 % 64) (by omega) (by omega) _ hT').mono ?_;rintro e w' ⟨rfl,rfl⟩) | (go_at_call 84;refine (bd_byte _ _ _ _ _ hbd hlen).mono ?_;rintro e w2 ⟨rfl,hbd2,hb2,_⟩))
        go_roundw
        case rel=>exact ⟨2,by omega,by go_num,by simpa using hbd2,hbel.trans hb2⟩
        case measure=>simp [intOf]
       ·have a1:bits .and .u32 ((N:Int) / 64) 63=((N / 64 % 64:Nat):Int):=and63 (N / 64) (by omega)
        by_cases hK2:K<2
        ·obtain rfl:d2=61:=by rw [E2.out,if_pos hK2]
         go_wp2_with (first | (go_at_call 84;refine (bd_byte _ _ _ 61 _ hbd hlen).mono ?_;rintro e w2 ⟨rfl,hbd2,hb2,_⟩))
         go_roundw
         case rel=>exact ⟨3,by omega,by go_num,by simpa using hbd2,hbel.trans hb2⟩
         case measure=>simp [intOf]
        ·obtain rfl:d2=dig (N / 64 % 64):=by rw [E2.out,if_neg hK2]
         go_wp2_with (first | (go_at_call 191;refine (digit_at _ (N / 64 % 64) (by omega) (by omega) _ hT').mono ?_;rintro e w' ⟨rfl,rfl⟩) | (go_at_call 84;refine (bd_byte _ _ _ _ _ hbd hlen).mono ?_;rintro e w2 ⟨rfl,hbd2,hb2,_⟩))
         go_roundw
         case rel=>exact ⟨3,by omega,by go_num,by simpa using hbd2,hbel.trans hb2⟩
         case measure=>simp [intOf]
       ·have a1:bits .and .u32 (N:Int) 63=((N % 64:Nat):Int):=and63 N (by omega)
        by_cases hK2:K<3
        ·obtain rfl:d3=61:=by rw [E3.out,if_pos hK2]
         go_wp2_with (first | (go_at_call 84;refine (bd_byte _ _ _ 61 _ hbd hlen).mono ?_;rintro e w2 ⟨rfl,hbd2,hb2,_⟩))
         go_roundw
         case rel=>exact ⟨4,by omega,by go_num,by simpa using hbd2,hbel.trans hb2⟩
         case measure=>simp [intOf]
        ·obtain rfl:d3=dig (N % 64):=by rw [E3.out,if_neg hK2]
         go_wp2_with (first | (go_at_call 191;refine (digit_at _ (N % 64) (by omega) (by omega) _ hT').mono ?_;rintro e w' ⟨rfl,rfl⟩) | (go_at_call 84;refine (bd_byte _ _ _ _ _ hbd hlen).mono ?_;rintro e w2 ⟨rfl,hbd2,hb2,_⟩))
         go_roundw
         case rel=>exact ⟨4,by omega,by go_num,by simpa using hbd2,hbel.trans hb2⟩
         case measure=>simp [intOf]
      ·obtain rfl:j=4:=by omega
       go_wp2
       go_roundw
       case rel =>
        have hd:(t.extract K t.size).data.toList=s.data.toList.drop (k+K):=by
         rw [Lib.extract_data,List.take_of_length_le (by rw [List.length_drop];exact Nat.le_refl _),htd.out,List.drop_drop]
        refine ⟨k+K,_,_,by omega,rfl,?_,hbd,by simp;omega,hbel,Lib.hid hd,Lib.hid ?_⟩
        ·simp;omega
        ·rw [henc.out,enc64_step _ (by intro h;have:=congrArg List.length h;rw [List.length_drop,HL.out] at this;simp at this;omega),← htd.out,HQ.out]
         have hdr:List.drop 3 t.data.toList=s.data.toList.drop (k+K):=by
          rcases hKs with h | h
          ·rw [h,htd.out,List.drop_drop]
          ·rw [List.drop_of_length_le (by show t.size≤3;omega),List.drop_of_length_le (by rw [HL.out];omega)]
         rw [hdr];simp
       case measure=>simp;omega
  ·have hk0:k=s.size:=by omega
   have hend:enc64 s.data.toList=acc:=by
    rw [henc.out,List.drop_of_length_le (by rw [HL.out];omega)];simp [enc64]
   have HE:=Lib.hid hend;clear hend
   go_wp2_with (go_at_call 28;refine (bd_text _ _ _ _ hbd).mono ?_;rintro e w2 ⟨rfl,hbd2,hb2,_⟩)
   go_ret
   rw [HE.out]
   exact ⟨rfl,hbel.trans hb2⟩
end Go.Proofs.YtmpiobfdchlikaaGreatDoor
end
section
set_option synthInstance.maxSize 4000
namespace Nun
def fourK (l:List UInt8) (last:Bool):Nat:=if last=true∧l[3]? =some 61 then (if l[2]? =some 61 then 2 else 3) else 4
def fourN (l:List UInt8) (k:Nat):Nat→Option Nat
 | 0=>some 0
 | i+1=>match fourN l k i with
   | none=>none
   | some n=>if k≤i then some (n * 64) else match val64 (l[i]?.getD 0) with
     | none=>none
     | some x=>some (n * 64+x)
def fourV (l:List UInt8) (last:Bool):List UInt8 × Bool:=match fourN l (fourK l last) 4 with
 | none=>([],false)
 | some n=>([UInt8.ofNat (n / 65536),UInt8.ofNat (n / 256),UInt8.ofNat n].take (fourK l last - 1),n % 256 ^ (4 - fourK l last) == 0)
theorem val64_lt (c:UInt8):∀ x,val64 c=some x→x<64:=by
 have:∀ c:UInt8,(val64 c).getD 0<64:=by decide +kernel
 intro x h;have:=this c;rw [h] at this;exact this
theorem fourN_lt (l:List UInt8) (k i:Nat):∀ n,fourN l k i=some n→n<64 ^ i:=by
 induction i with
 | zero=>intro n h;simp [fourN] at h;subst h;simp
 | succ i ih =>
   intro n h
   rw [fourN] at h
   split at h
   ·cases h
   ·rename_i m hm
    have:=ih m hm
    rw [Nat.pow_succ]
    split at h
    ·simp at h;omega
    ·split at h
     ·cases h
     ·rename_i x hx
      have:=val64_lt _ _ hx
      simp at h;omega
theorem fourN_lt3 (l:List UInt8) (k i n:Nat) (hi:i<4) (h:fourN l k i=some n):n<262144:=Nat.lt_of_lt_of_le (fourN_lt l k i n h) (Nat.pow_le_pow_right (n:=64) (by decide) (Nat.le_of_lt_succ hi))
theorem fourN_lt4 (l:List UInt8) (k n:Nat) (h:fourN l k 4=some n):n<16777216:=fourN_lt l k 4 n h
theorem fourN_none {l:List UInt8} {k i:Nat} (h:fourN l k i=none) (j:Nat) (hj:i≤j):fourN l k j=none:=by
 induction j with
 | zero=>obtain rfl:i=0:=by omega
         exact h
 | succ j ih =>
   by_cases e:i=j+1
   ·exact e ▸ h
   ·rw [fourN,ih (by omega)]
theorem four_or (n x:Nat) (h:n<262144) (hx:x<64):Go.bits .or .u32 ((n:Int) * 64) x=((n * 64+x:Nat):Int):=by
 have e:(n:Int) * 64=((n * 64:Nat):Int):=by omega
 rw [e,Go.u32_or_nat _ _ (by omega) (by omega),Go.nat_join 6 _ _ (by omega) (by omega)]
theorem fourK_cases (l:List UInt8) (last:Bool):fourK l last=2∨fourK l last=3∨fourK l last=4:=by unfold fourK;split<;>(try split)<;>simp
end Nun
namespace Go.Proofs.YtmpiobfdchlikaaGreatDoor
open Go.RowKit Nun
theorem u8_nat (n:Nat):(UInt8.ofNat n).toNat=n % 256:=by simp
theorem conv_three {P:Program} {src dst e:TypeId} (hs:P.underlying src=some (.slice e)) (he:P.underlying e=some (.int .u8)) (hd:P.underlying dst=some .string) (w:World) (x y z:UInt8) :
 (convert src dst (.slice (some ⟨w.heap.size,0,none⟩) 3 3)).run P (w.alloc (.cells #[.int .u8 x.toNat,.int .u8 y.toNat,.int .u8 z.toNat] e))=.ok (.string ⟨#[x,y,z]⟩) (w.alloc (.cells #[.int .u8 x.toNat,.int .u8 y.toNat,.int .u8 z.toNat] e)) :=
 run_convert_bytes_back _ src dst e ⟨w.heap.size,0,none⟩ 3 [x,y,z] hs he hd (by
  intro j hj
  match j,hj with
  | 0,hj=>simp [Addr.add]
  | 1,hj=>simp [Addr.add]
  | 2,hj=>simp [Addr.add])
theorem worth_of64 (c:UInt8) (o:Option Nat) (h:val64 c=o) (w:World):Calls Tryz.prog 218 #[.int .u8 c.toNat] w (Same (.tuple #[.int .u32 (o.getD 0),.bool o.isSome]) w):=h ▸ worth64 c w
set_option maxHeartbeats 1000000 in
theorem four_any (s:ByteArray) (last:Bool) (w:World) (hs:s.size=4):Calls Tryz.prog 186 #[.string s,.bool last] w (Ret (.tuple #[.string ⟨(fourV s.data.toList last).1.toArray⟩,.bool (fourV s.data.toList last).2]) w):=by
 have hlen:s.data.toList.length=s.size:=rfl
 have HL:=Lib.hid hlen;clear hlen
 have i2:s.data.toList[2]? =some (s[2]'(by omega)):=List.getElem?_eq_getElem (l:=s.data.toList) (by show 2<s.size;omega)
 have i3:s.data.toList[3]? =some (s[3]'(by omega)):=List.getElem?_eq_getElem (l:=s.data.toList) (by show 3<s.size;omega)
 obtain ⟨K,hK,hKK,hcase⟩:∃ K,fourK s.data.toList last=K∧2≤K∧(last=false∧K=4∨last=true∧K=4∧(((s[3]'(by omega)).toNat:Int) == 61)=false∨last=true∧K=3∧(((s[3]'(by omega)).toNat:Int) == 61)=true∧(((s[2]'(by omega)).toNat:Int) == 61)=false∨last=true∧K=2∧(((s[3]'(by omega)).toNat:Int) == 61)=true∧(((s[2]'(by omega)).toNat:Int) == 61)=true):=by
  refine ⟨_,rfl,by rcases fourK_cases s.data.toList last with h | h | h<;>omega,?_⟩
  unfold fourK
  rw [i2,i3]
  cases last
  ·exact .inl ⟨rfl,rfl⟩
  ·by_cases h3:s[3]'(by omega)=61
   ·by_cases h2:s[2]'(by omega)=61
    ·exact .inr (.inr (.inr ⟨rfl,by rw [h3,h2];rfl,by rw [h3];rfl,by rw [h2];rfl⟩))
    ·exact .inr (.inr (.inl ⟨rfl,by rw [h3];simp [h2],by rw [h3];rfl,by simp [← UInt8.toNat_inj] at h2 ⊢;omega⟩))
   ·exact .inr (.inl ⟨rfl,by simp [h3],by simp [← UInt8.toNat_inj] at h3 ⊢;omega⟩)
 clear i2 i3
 have hV:fourV s.data.toList last=match fourN s.data.toList K 4 with
  | none=>([],false)
  | some n=>([UInt8.ofNat (n / 65536),UInt8.ofNat (n / 256),UInt8.ofNat n].take (K - 1),n % 256 ^ (4 - K) == 0):=by unfold fourV;rw [hK]
 generalize fourV s.data.toList last=V at hV ⊢
 have HV:=Lib.hid hV;clear hV hK
 rcases hcase with ⟨rfl,hKv⟩ | ⟨rfl,hKv,f3⟩ | ⟨rfl,hKv,f3,f2⟩ | ⟨rfl,hKv,f3,f2⟩
 all_goals
  go_enter Tryz.func186,Tryz.ntmps186
  go_wp2
  go_loopw [6] (fun k wr=>∃ j:Nat,k=.int .i64 j∧K≤j∧j≤4∧wr=w) (fun k _=>(intOf k).toNat)
  case atStart=>exact ⟨4,rfl,by omega,by omega,rfl⟩
  case round =>
   obtain ⟨j,rfl,hj1,hj2,rfl⟩:=hrel
   by_cases hjK:j=K
   ·have HK:=Lib.hid hKv
    rw [hKv] at hjK;subst hjK;clear hKv
    go_wp2
    try rw [show ((4:Nat):Int)=4 from rfl]
    try rw [show ((3:Nat):Int)=3 from rfl]
    try rw [show ((2:Nat):Int)=2 from rfl]
    go_loopw [7,26] (fun n iv wr1=>∃ (i m:Nat),i≤4∧iv=.int .i64 i∧n=.int .u32 m∧wr1=wr∧Hid (fourN s.data.toList K i=some m)) (fun _ iv _=>4 - (intOf iv).toNat)
    case atStart=>exact ⟨0,0,by omega,rfl,rfl,rfl,Lib.hid rfl⟩
    case round =>
     obtain ⟨i,m,hi,rfl,rfl,rfl,hm⟩:=hrel
     by_cases hi4:i<4
     ·have hml:=fourN_lt3 _ _ _ _ hi4 hm.out
      by_cases hik:K≤i
      ·have hnx:fourN s.data.toList K (i+1)=some (m * 64):=by rw [fourN,hm.out];simp only [if_pos hik]
       have HN:=Lib.hid hnx;clear hnx
       have hik':=hik
       rw [HK.out] at hik'
       clear hm
       first
        | (exfalso;omega)
        | (go_wp2
           go_roundw
           case rel=>exact ⟨i+1,m * 64,by omega,by go_num,by go_num,trivial,HN⟩
           case measure=>simp [intOf];omega)
      ·have hik':=Nat.lt_of_not_le hik
       rw [HK.out] at hik'
       have hi':s.data.toList[i]?.getD 0=s[i]'(by omega):=by
        rw [List.getElem?_eq_getElem (l:=s.data.toList) (by show i<s.size;omega)];rfl
       rcases hv:val64 (s[i]'(by omega)) with _ | x
       ·have hnx:fourN s.data.toList K (i+1)=none:=by rw [fourN,hm.out];simp only [if_neg hik,hi',hv]
        have hVn:V=([],false):=by rw [HV.out,fourN_none hnx 4 (by omega)]
        have HN:=Lib.hid hVn;have Hv:=Lib.hid hv;clear hnx hVn hv hi' hm
        go_wp2_with (go_at_call 218;refine (worth_of64 _ _ Hv.out _).mono ?_;rintro e w' ⟨rfl,rfl⟩)
        go_ret2
        rw [HN.out]
        exact ⟨rfl,Below.refl _ _⟩
       ·have hnx:fourN s.data.toList K (i+1)=some (m * 64+x):=by rw [fourN,hm.out];simp only [if_neg hik,hi',hv]
        have hx:=val64_lt _ _ hv
        have hor:=four_or m x hml hx
        have HN:=Lib.hid hnx;have Hv:=Lib.hid hv;clear hnx hv hi' hm
        go_wp2_with (go_at_call 218;refine (worth_of64 _ _ Hv.out _).mono ?_;rintro e w' ⟨rfl,rfl⟩)
        go_roundw
        case rel=>exact ⟨i+1,m * 64+x,by omega,by go_num,by go_num,trivial,HN⟩
        case measure=>simp [intOf];omega
     ·obtain rfl:i=4:=by omega
      have hml:=fourN_lt4 _ _ _ hm.out
      rw [hm.out] at HV
      simp only [] at HV
      have n1:=u8_nat (m / 65536)
      have n2:=u8_nat (m / 256)
      have n3:=u8_nat m
      have kc:=conv_three (P:=Tryz.prog) Tryz.underlying44 Tryz.underlying5 Tryz.underlying9 wr (UInt8.ofNat (m / 65536)) (UInt8.ofNat (m / 256)) (UInt8.ofNat m)
      rw [n1,n2,n3,show (((m / 65536 % 256:Nat)):Int)=(m:Int) / 65536 by omega,show (((m / 256 % 256:Nat)):Int)=(m:Int) / 256 % 256 by omega,show (((m % 256:Nat)):Int)=(m:Int) % 256 by omega] at kc
      clear n1 n2 n3
      have m0:bits .and .u32 (m:Int) 0=0:=by rw [show (0:Int)=((0:Nat):Int) from rfl,u32_and_nat m 0 (by omega) (by decide),Nat.and_zero]
      have m1:bits .and .u32 (m:Int) 255=((m % 256:Nat):Int):=by rw [show (255:Int)=((255:Nat):Int) from rfl,u32_and_nat m 255 (by omega) (by decide),Nat.and_two_pow_sub_one_eq_mod m 8]
      have m2:bits .and .u32 (m:Int) 65535=((m % 65536:Nat):Int):=by rw [show (65535:Int)=((65535:Nat):Int) from rfl,u32_and_nat m 65535 (by omega) (by decide),Nat.and_two_pow_sub_one_eq_mod m 16]
      have hsz:(ByteArray.mk #[UInt8.ofNat (m / 65536),UInt8.ofNat (m / 256),UInt8.ofNat m]).size=3:=rfl
      go_wp2
      (refine wp_region_quiet_below (by kernel_rfl) (by kernel_rfl) ?_;(repeat (first | go_big_quiet_skip | (go_big_quiet_want;go_big_quiet_op;first | go_big_quiet_on | (apply Exists.intro;refine ⟨fun _=>?_,?_⟩;(· (fail));go_big_quiet_on))));refine wpQuiet_nil ?_;intro _ hw';obtain ⟨⟨dq,osq⟩,hw''⟩:=hw';subst hw'')
      go_wp2
      go_ret2
      rw [HV.out,HK.out]
      refine ⟨t2 (vS rfl) (vb ?_),((Below.refl _ _).alloc (Nat.le_refl _) _).trans ((below_regrown _ _ _).mono (by simp))⟩
      first | rfl | (rw [Bool.eq_iff_iff];simp;omega)
   ·obtain rfl | rfl:j=3∨j=4:=by omega
    all_goals first
     | (exfalso;omega)
     | (subst hKv
        go_wp2
        go_roundw
        case rel=>first | exact ⟨2,by go_num,by omega,by omega,trivial⟩ | exact ⟨3,by go_num,by omega,by omega,trivial⟩
        case measure=>simp [intOf])
end Go.Proofs.YtmpiobfdchlikaaGreatDoor
end
section
set_option synthInstance.maxSize 4000
namespace Nun
def dec64:List UInt8→Option (List UInt8)
 | []=>some []
 | [_]=>none
 | [_,_]=>none
 | [_,_,_]=>none
 | a::b::c::d::l=>if (fourV [a,b,c,d] l.isEmpty).2 then (dec64 l).map ((fourV [a,b,c,d] l.isEmpty).1++·) else none
def dec64V (o:Option (List UInt8)):Go.Value:=match o with | some l=>.tuple #[.string ⟨l.toArray⟩,.int .i64 0] | none=>.tuple #[.string ⟨#[]⟩,.int .i64 7]
@[simp] theorem dec64V_none:dec64V none=.tuple #[.string ⟨#[]⟩,.int .i64 7]:=rfl
@[simp] theorem dec64V_some (l:List UInt8):dec64V (some l)=.tuple #[.string ⟨l.toArray⟩,.int .i64 0]:=rfl
theorem dec64_more (l:List UInt8) (h:4≤l.length):dec64 l=if (fourV (l.take 4) (l.drop 4).isEmpty).2 then (dec64 (l.drop 4)).map ((fourV (l.take 4) (l.drop 4).isEmpty).1++·) else none:=by
 match l,h with
 | a::b::c::d::l,_=>rfl
theorem dec64_odd (n:Nat):∀ l:List UInt8,l.length≤n→l.length % 4≠0→dec64 l=none:=by
 induction n with
 | zero=>intro l h1 h2;omega
 | succ n ih =>
   intro l h1 h2
   match l,h1,h2 with
   | [],_,h2=>exact absurd rfl h2
   | [_],_,_=>rfl
   | [_,_],_,_=>rfl
   | [_,_,_],_,_=>rfl
   | a::b::c::d::l,h1,h2 =>
     rw [dec64];split
     ·rw [ih l (by simp at h1;omega) (by simp at h2;omega)];rfl
     ·rfl
theorem fourV_len (l:List UInt8) (b:Bool):(fourV l b).1.length≤3:=by
 unfold fourV;split<;>simp;omega
end Nun
namespace Go.Proofs.YtmpiobfdchlikaaGreatDoor
open Go.RowKit Nun
theorem four_of (s:ByteArray) (last:Bool) (x:List UInt8) (ok:Bool) (h:fourV s.data.toList last=(x,ok)) (w:World) (hs:s.size=4):Calls Tryz.prog 186 #[.string s,.bool last] w (Ret (.tuple #[.string ⟨x.toArray⟩,.bool ok]) w):=by
 have:=four_any s last w hs;rw [h] at this;exact this
set_option maxHeartbeats 1000000 in
theorem decode64 (s:ByteArray) (w:World) (hs:s.size≤1000000):Calls Tryz.prog 139 #[.string s] w (Ret (dec64V (dec64 s.data.toList)) w):=by
 have hlen:s.data.toList.length=s.size:=rfl
 have HL:=Lib.hid hlen;clear hlen
 by_cases h4:s.size % 4=0
 ·have h4':(s.size:Int) % 4=0:=by omega
  go_enter Tryz.func139,Tryz.ntmps139
  go_wp2
  try rw [h4']
  clear h4'
  go_loopw [5,6,7] (fun i _ _ wr=>∃ (k:Nat) (acc:List UInt8),i=.int .i64 (4 * k:Nat)∧4 * k≤s.size∧Bd w.heap.size w.heap.size acc wr∧acc.length≤3 * k∧Below w.heap.size w wr∧Hid (dec64 s.data.toList=(dec64 (s.data.toList.drop (4 * k))).map (acc++·)))
   (fun i _ _ _=>s.size - (intOf i).toNat)
  case atStart=>exact ⟨0,[],rfl,by omega,Bd.fresh w,by simp,(Below.refl _ _).alloc (Nat.le_refl _) _,Lib.hid (by simp)⟩
  case round =>
   obtain ⟨k,acc,rfl,hk,hbd,hak,hbel,hrd⟩:=hrel
   by_cases hlt:4 * k<s.size
   ·have hxs:(s.extract (4 * k) (4 * k+4)).size=4:=by rw [ByteArray.size_extract];omega
    have hxl:(s.extract (4 * k) (4 * k+4)).data.toList=(s.data.toList.drop (4 * k)).take 4:=by
     rw [Lib.extract_data,Nat.add_sub_cancel_left]
    have hlast:((s.data.toList.drop (4 * k)).drop 4).isEmpty=decide ((4 * k+4:Int)=s.size):=by
     rw [Bool.eq_iff_iff];simp only [List.isEmpty_iff,decide_eq_true_iff,List.drop_drop,List.drop_eq_nil_iff,HL.out];omega
    have hst:=dec64_more (s.data.toList.drop (4 * k)) (by rw [List.length_drop,HL.out];omega)
    rw [← hxl,List.drop_drop] at hst
    rw [List.drop_drop] at hlast
    have hlen3:=fourV_len (s.extract (4 * k) (4 * k+4)).data.toList ((s.data.toList.drop (4 * k+4)).isEmpty)
    generalize hla:(s.data.toList.drop (4 * k+4)).isEmpty=la at hst hlast hlen3
    rcases hV:fourV (s.extract (4 * k) (4 * k+4)).data.toList la with ⟨x,ok⟩
    rw [hV] at hst hlen3
    simp only [] at hst hlen3
    have HV:=Lib.hid hV;clear hV hla hxl
    have hbl:(4 * (k:Int)+4 == (s.size:Int))=la:=by rw [hlast,Bool.eq_iff_iff];simp
    clear hlast
    have hx2:(ByteArray.mk x.toArray).size=x.length:=rfl
    cases ok
    ·have hfin:dec64 s.data.toList=none:=by rw [hrd.out,hst];rfl
     have HF:=Lib.hid hfin;clear hfin hst
     go_wp2_with (go_at_call 186;refine (four_of _ _ _ _ HV.out _ hxs).mono ?_;rintro e w1 ⟨rfl,hb1⟩)
     go_ret2
     rw [HF.out]
     exact ⟨rfl,hbel.trans (hb1.mono hbel.size)⟩
    ·have HS:=Lib.hid hst;clear hst
     go_wp2_with (first | (go_at_call 186;refine (four_of _ _ _ _ HV.out _ hxs).mono ?_;rintro e w1 ⟨rfl,hb1⟩;have hbd:=Bd.kept hbd hb1;have hbel:=hbel.trans (hb1.mono hbel.size)) | (go_at_call 47;refine (bd_string _ _ _ _ _ hbd (by rw [hx2];omega)).mono ?_;rintro e w2 ⟨rfl,hbd,hb2,_⟩;have hbel:=hbel.trans hb2))
     go_roundw
     case rel =>
      refine ⟨k+1,acc++x,by go_num,by omega,hbd,by simp;omega,hbel,Lib.hid ?_⟩
      rw [hrd.out,HS.out,if_pos trivial,Option.map_map,show 4 * (k+1)=4 * k+4 from rfl]
      congr 1;funext y;simp
     case measure=>simp [intOf];omega
   ·have hks:4 * k=s.size:=by omega
    have hfin:dec64 s.data.toList=some acc:=by
     rw [hrd.out,List.drop_of_length_le (by rw [HL.out];omega)];simp [dec64]
    have HE:=Lib.hid hfin;clear hfin
    go_wp2_with (go_at_call 28;refine (bd_text _ _ _ _ hbd).mono ?_;rintro e w2 ⟨rfl,hbd2,hb2,_⟩)
    go_ret2
    rw [HE.out]
    exact ⟨rfl,hbel.trans hb2⟩
 ·have hod:=dec64_odd s.size s.data.toList (Nat.le_refl _) h4
  rw [hod];clear hod
  have h4':¬ (s.size:Int) % 4=0:=by omega
  go_enter Tryz.func139,Tryz.ntmps139
  go_wp2
  go_ret2
  exact ⟨rfl,Below.refl _ _⟩
end Go.Proofs.YtmpiobfdchlikaaGreatDoor
end
section
set_option synthInstance.maxSize 4000
namespace Nun
theorem quad_len (l:List UInt8):(quad l).length=4:=rfl
end Nun
namespace Go.Proofs.YtmpiobfdchlikaaGreatDoor
open Go.RowKit Nun
theorem dec_of (t:ByteArray) (l:List UInt8) (V:Option (List UInt8)) (ht:t.data.toList=l) (hV:dec64 l=V) (w:World) (hs:t.size≤1000000):Calls Tryz.prog 139 #[.string t] w (Ret (dec64V V) w):=by
 subst ht;subst hV;exact decode64 t w hs
end Go.Proofs.YtmpiobfdchlikaaGreatDoor
end

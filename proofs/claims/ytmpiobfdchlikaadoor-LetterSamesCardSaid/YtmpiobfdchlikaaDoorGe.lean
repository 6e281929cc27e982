/- LetterSames answers true for all letters: texts of this proof, merged. -/
import Derived.Test.YtmpiobfdchlikaaDoorGd
import Derived.WalkKit
import Derived.WalkSpells
import Derived.WalkLawsBesides
import Derived.Lib.Hide
import Derived.BigQuiet
import Derived.Lib.QuietBelow
import Derived.ShutString
import Derived.Deep.Light
import Derived.Lib.UnsafeStr
import Derived.Lib.Strings
import Derived.Lib.IndexBytes
import Derived.Lib.IndexMore
import Derived.Lib.SlTrimSet
import Derived.Shelf.Strings.Builder1
import Derived.Shelf.Strings.Builder2
import Derived.Shelf.Strings.Trim
import Derived.Shelf.Small.Utf8
import Derived.Shelf.Small.Strs
import Derived.Shelf.Small.Wraps
import Derived.Shelf.Strings.BuilderF
import Derived.Shelf.Strings.BuilderK
import Derived.Shelf.Utf8.RuneCount
import Derived.Shelf.Strings.Builder2Cap
import Derived.Shelf.Strings.Search1
import Derived.Shelf.Strings.Search2
import Derived.Shelf.Strings.Search3
import Derived.Shelf.Strings.Cut
import Derived.Shelf.Strings.Count
import Derived.Shelf.LaysM
import Derived.Shelf.Strings.Shaped
import Derived.Shelf.Strings.Prefix
import Derived.Shelf.Strings.Split
import Derived.Shelf.Strings.Replace
import Derived.Shelf.Strings.SplitShaped
import Derived.Shelf.Unicode.Decode
import Derived.Shelf.Strings.Runes
import Derived.Shelf.Strings.RuneCount
import Derived.Shelf.Strings.AsciiSet
import Derived.Shelf.Unicode.DecodeSlow
import Derived.Shelf.Unicode.DecodeAny
import Derived.Shelf.Unicode.DecodeLast
import Derived.Shelf.Strings.BuilderCap
import Derived.Test.YtmpiobfdchlikaaDoorProg
import Derived.Test.YtmpiobfdchlikaaDoorRows
import Derived.Lib.FrozenHead2
import Derived.Lib.OthersKept
import Derived.Lib.Builder
import Derived.Laws.Externs
import Derived.Lib.Replace
set_option linter.unusedVariables false
set_option linter.unusedSimpArgs false
section
namespace Nun
open Go Go.RowKit
instance decU8 {p:UInt8→Prop} [DecidablePred p]:Decidable (∀ c,p c) :=
 decidable_of_iff (∀ i:Fin 256,p ⟨⟨i⟩⟩) ⟨fun h c=>h c.toBitVec.toFin,fun h i=>h _⟩
def Ret (v:Value) (w:World) (e:Ending) (w':World):Prop:=e=.returned v∧Below w.heap.size w w'
def Same (v:Value) (w:World) (e:Ending) (w':World):Prop:=e=.returned v∧w=w'
theorem r1 {v v':Value} (h:v=v'):Ending.returned v=.returned v':=by rw [h]
theorem t2 {a b c d:Value} (h:a=b) (h':c=d):Ending.returned (.tuple #[a,c])=.returned (.tuple #[b,d]):=by rw [h,h']
theorem t3 {a b c d e f:Value} (h:a=b) (h':c=d) (h'':e=f):Ending.returned (.tuple #[a,c,e])=.returned (.tuple #[b,d,f]):=by rw [h,h',h'']
theorem vi {k:IntKind} {a b:Int} (h:a=b):Value.int k a=.int k b:=by rw [h]
theorem vb {a b:Bool} (h:a=b):Value.bool a=.bool b:=by rw [h]
theorem vs {a b:List UInt8} (h:a=b):Value.string ⟨a.toArray⟩=.string ⟨b.toArray⟩:=by rw [h]
theorem vS {s:ByteArray} {b:List UInt8} (h:s.data.toList=b):Value.string s=.string ⟨b.toArray⟩:=by
 subst h;rfl
theorem ret_quiet {P:Program} {f:FuncId} {args:Array Value} {w:World} {d:Nat} {os:Array Obj} {v:Value} (h:∀ w,Calls P f args w (Ret v w)) :
 Calls P f args (Go.Sort.grow (redrawn w d) os) fun e w''=>e=.returned v∧∃ p:Regrown,w''=Go.Sort.grow (redrawn w p.d) p.os:=Calls.regrown_of (h _)
theorem below_drewN' (w:World) (n:Nat):Below w.heap.size w (w.drewN n):=⟨rfl,rfl,rfl,Nat.le_refl _,fun _ _=>rfl⟩
theorem below_of {w w1 w2:World} (h:Below w.heap.size w w1) (k:Below w1.heap.size w1 w2):Below w.heap.size w w2:=h.trans (k.mono h.size)
theorem push1 {P:Program} {ops:Array Oper} {rest:List Oper} {o:Oper} {a:Act} {Q:Exit→Act→World→Prop} (hgd:o.guard=none) (s x:Operand) (t:TypeId)
 (ho:o.op=.call { callee:=.builtin .append,args:=#[s,x],argTypes:=#[t,t] })
 (e:TypeId) (z:Value) (size bytes:Nat) (ht:P.underlying t=some (.slice e)) (hi:(P.info? e).map (fun i=>(i.zero,i.size,i.bytes))=some (some z,size,bytes))
 (hzs:z.cells.size=size) (hsz:0<size) (B:Nat) (w:World) (v:Value) (n:Nat) (xs:List Value) (hs:a.eval s=v) (hown:w.ownsRow B e size v n xs)
 (cells:List Value) (hcs:cells.length=size) (h1:∀ u∈cells,u.oneCell'=true) (hx:a.eval x=.slice (some ⟨w.heap.size,0,none⟩) 1 1)
 (hmax:(n+1) * bytes≤140737488355328) (hn:n+1≤140737488355328) (hB:B≤w.heap.size)
 (h:∀ g cap w',B≤g→w'.ownsRow B e size (.slice (some ⟨g,0,none⟩) (n+1) cap) (n+1) (xs++cells)→w.grownBy w' v.ownBlock→Below B w w'→w.heap.size<w'.heap.size →
   wpList P ops Q rest (a.put o.dst (.slice (some ⟨g,0,none⟩) (n+1) cap)) w') :
 wpList P ops Q (o::rest) a (w.alloc (.cells cells.toArray e)):=by
 obtain ⟨i0,hi0,hz0,hz1,hz2⟩:=info_parts hi
 refine wpList_append_own _ hgd s x t ho B e i0 z size bytes ht hi0 hz0 hz1 hz2 hzs hsz v n xs hs (hown.alloc _) ⟨w.heap.size,0,none⟩ 1 1 cells hx (by omega) ?_ h1 (by unfold maxLen;omega) hmax (by simp;omega) ?_
 ·intro j u hu
  have:(w.alloc (.cells cells.toArray e)).heap[w.heap.size]? =some (.cells cells.toArray e (0,0)):=heap_alloc_new w _
  have hadd:(⟨w.heap.size,0,none⟩:Addr).add j=⟨w.heap.size,j,none⟩:=by unfold Addr.add;split<;>simp_all
  rw [hadd,cell_of_row _ _ _ _ _ _ this];simpa using hu
 ·intro v' w' hown' hg _
  have hB2:Below B w w':=(((Below.refl B w).alloc hB _).grown hg (by simp;omega) (fun k hk=>(hown.lt k hk).1))
  have hsz:=hg.size
  simp at hsz
  rcases hown'.2 with ⟨_,h0⟩ | ⟨g,cap,cur,rfl,hg0,r⟩
  ·omega
  ·exact h g cap w' hg0 hown' ⟨hg.os,hg.tape,hg.output,by omega,fun k hk hne=>(hg.block k (by simp;omega) hne).trans (Lib.alloc_old w _ k hk)⟩ hB2 (by omega)
theorem conv_own {P:Program} {src dst e:TypeId} (hs:P.underlying src=some (.slice e)) (he:P.underlying e=some (.int .u8)) (hd:P.underlying dst=some .string) {w:World} {B:Nat} {v:Value} {l:List UInt8}
 (h:w.ownsRow B e 1 v l.length (Lib.byteCells l)):(convert src dst v).run P w=.ok (.string ⟨l.toArray⟩) w:=by
 rcases h.2 with ⟨rfl,h0⟩ | ⟨g,cap,cur,rfl,r⟩
 ·have:l=[]:=by simpa using h0
  subst this
  exact run_convert_bytes_nil (w:=w) src e hs he 0 0 dst hd
 ·refine run_convert_bytes_back _ src dst e ⟨g,0,none⟩ cap l hs he hd fun j hj=>?_
  exact h.cells (g:=g) rfl j _ (by simp [Lib.byteCells,hj])
def OwnB (B:Nat) (e:TypeId) (v:Value) (l:List UInt8) (w:World):Prop:=w.ownsRow B e 1 v l.length (Lib.byteCells l)
theorem OwnB.nil (B:Nat) (e:TypeId) (w:World):OwnB B e (.slice none 0 0) [] w:=World.ownsRow_nil _ _ _ _
theorem OwnB.kept {B:Nat} {e:TypeId} {v:Value} {l:List UInt8} {w w':World} (h:OwnB B e v l w) (k:Below w.heap.size w w'):OwnB B e v l w' :=
 World.ownsRow.kept (row:=none) h ⟨k.os,k.tape,k.output,k.size,fun i hi _=>k.block i hi⟩ (by cases v.ownBlock<;>simp)
theorem OwnB.made {B:Nat} {e:TypeId} (w:World) (hB:B≤w.heap.size) (cap:Nat) (cs:Array Value) (hc:cs.size=cap) (hm:cap≤maxLen):OwnB B e (.slice (some ⟨w.heap.size,0,none⟩) 0 cap) [] (w.alloc (.cells cs e)) :=
 World.ownsRow_made w cs cap hB hm (by omega)
theorem byteCells_snoc (l:List UInt8) (c:UInt8):Lib.byteCells (l++[c])=Lib.byteCells l++[.int .u8 c.toNat]:=by simp [Lib.byteCells]
theorem pushb {P:Program} {ops:Array Oper} {rest:List Oper} {o:Oper} {a:Act} {Q:Exit→Act→World→Prop} (hgd:o.guard=none) (s x:Operand) (t:TypeId)
 (ho:o.op=.call { callee:=.builtin .append,args:=#[s,x],argTypes:=#[t,t] })
 (e:TypeId) (ht:P.underlying t=some (.slice e)) (hi:(P.info? e).map (fun i=>(i.zero,i.size,i.bytes))=some (some (.int .u8 0),1,1))
 (B:Nat) (w:World) (v:Value) (l:List UInt8) (hs:a.eval s=v) (hown:OwnB B e v l w) (c:UInt8)
 (hx:a.eval x=.slice (some ⟨w.heap.size,0,none⟩) 1 1) (hmax:l.length+1≤140737488355328) (hB:B≤w.heap.size)
 (h:∀ g cap w',B≤g→OwnB B e (.slice (some ⟨g,0,none⟩) (l.length+1) cap) (l++[c]) w'→w.grownBy w' v.ownBlock→Below B w w'→w.heap.size<w'.heap.size →
   wpList P ops Q rest (a.put o.dst (.slice (some ⟨g,0,none⟩) (l.length+1) cap)) w') :
 wpList P ops Q (o::rest) a (w.alloc (.cells #[.int .u8 c.toNat] e)) :=
 push1 hgd s x t ho e (.int .u8 0) 1 1 ht hi rfl (by decide) B w v _ _ hs hown [.int .u8 c.toNat] rfl (by simp [Value.oneCell']) hx (by omega) (by omega) hB
  fun g cap w' h1 h2 h3 h4 h5=>h g cap w' h1 (by unfold OwnB;rw [byteCells_snoc,List.length_append];exact h2) h3 h4 h5
theorem conv_one {P:Program} {src dst e:TypeId} (hs:P.underlying src=some (.slice e)) (he:P.underlying e=some (.int .u8)) (hd:P.underlying dst=some .string) (w:World) (x:UInt8) :
 (convert src dst (.slice (some ⟨w.heap.size,0,none⟩) 1 1)).run P (w.alloc (.cells #[.int .u8 x.toNat] e))=.ok (.string ⟨#[x]⟩) (w.alloc (.cells #[.int .u8 x.toNat] e)) :=
 run_convert_bytes_back _ src dst e ⟨w.heap.size,0,none⟩ 1 [x] hs he hd (by
  intro j hj
  match j,hj with
  | 0,hj=>simp [Addr.add])
theorem mk_size (l:List UInt8):(ByteArray.mk l.toArray).size=l.length:=rfl
end Nun
end
section
namespace Nun
def blankC (c:UInt8):Bool:=c == 32 || c == 9
def nameC (c:UInt8):Bool:=(65≤c && c≤90) || (97≤c && c≤122) || (48≤c && c≤57) || c == 45
def nameL (l:List UInt8):Bool:=!l.isEmpty && decide (l.length≤32) && l.all nameC
def shownC (c:UInt8):Bool:=c == 9 || (32≤c && c≤126)
def foldC (c:UInt8):UInt8:=if 65≤c && c≤90 then c+32 else c
def foldL (l:List UInt8):List UInt8:=l.map foldC
def trimEnd (l:List UInt8):List UInt8:=(l.reverse.dropWhile blankC).reverse
def trimB (l:List UInt8):List UInt8:=trimEnd (l.dropWhile blankC)
def crAt:List UInt8→Option Nat
 | []=>none
 | c::r=>if c=13∧r.head? =some 10 then some 0 else (crAt r).map (·+1)
theorem crAt_lt:∀ {l:List UInt8} {k:Nat},crAt l=some k→k+2≤l.length
 | c::r,k,h=>by
   rw [crAt] at h
   split at h
   ·rename_i hc
    cases h
    match r,hc with
    | d::r,_=>simp
   ·rcases hr:crAt r with _ | j
    ·rw [hr] at h;cases h
    ·rw [hr] at h
     have:=crAt_lt hr
     cases h;simp;omega
theorem crAt_some:∀ {l:List UInt8} {k:Nat},crAt l=some k→l[k]? =some 13∧l[k+1]? =some 10
 | c::r,k,h=>by
   rw [crAt] at h
   split at h
   ·rename_i hc
    cases h
    match r,hc with
    | d::r,hc=>simp at hc ⊢;exact hc
   ·rcases hr:crAt r with _ | j
    ·rw [hr] at h;cases h
    ·rw [hr] at h
     have:=crAt_some hr
     cases h;simpa using this
theorem crAt_first:∀ {l:List UInt8} {k:Nat},crAt l=some k→∀ i:Nat,i<k→¬ (l[i]? =some 13∧l[i+1]? =some 10)
 | c::r,k,h,i,hi=>by
   rw [crAt] at h
   split at h
   ·cases h;omega
   ·rename_i hc
    rcases hr:crAt r with _ | j
    ·rw [hr] at h;cases h
    ·rw [hr] at h
     obtain rfl:j+1=k:=by simpa using h
     match i with
     | 0 =>
       intro hh;apply hc
       simp at hh
       exact ⟨hh.1,by rw [List.head?_eq_getElem?];exact hh.2⟩
     | i+1=>simpa using crAt_first hr i (by omega)
theorem crAt_none:∀ {l:List UInt8},crAt l=none→∀ i:Nat,¬ (l[i]? =some 13∧l[i+1]? =some 10)
 | [],_,i=>by simp
 | c::r,h,i=>by
   rw [crAt] at h
   split at h
   ·cases h
   ·rename_i hc
    have hr:crAt r=none:=by simpa using h
    match i with
    | 0 =>
      intro hh;apply hc
      simp at hh
      exact ⟨hh.1,by rw [List.head?_eq_getElem?];exact hh.2⟩
    | i+1=>simpa using crAt_none hr i
theorem crAt_of {l:List UInt8} {k:Nat} (h:l[k]? =some 13∧l[k+1]? =some 10) (hf:∀ i:Nat,i<k→¬ (l[i]? =some 13∧l[i+1]? =some 10)):crAt l=some k:=by
 rcases hc:crAt l with _ | j
 ·exact absurd h (crAt_none hc k)
 ·have h1:=crAt_some hc
  have h2:=crAt_first hc
  congr 1
  rcases Nat.lt_trichotomy j k with hlt | rfl | hlt
  ·exact absurd h1 (hf j hlt)
  ·rfl
  ·exact absurd h (h2 k hlt)
theorem index_crlf:∀ l:List UInt8,Go.Lib.index l [13,10]=match crAt l with | some k=>(k:Int) | none=>-1
 | []=>rfl
 | c::r=>by
   rw [Go.Lib.index,index_crlf r,crAt]
   have hp:List.isPrefixOf [13,10] (c::r)=decide (c=13∧r.head? =some 10):=by
    match r with
    | []=>simp [List.isPrefixOf]
    | d::r=>rw [Bool.eq_iff_iff];simp [List.isPrefixOf];constructor<;>(rintro ⟨rfl,rfl⟩;exact ⟨rfl,rfl⟩)
   rw [hp]
   by_cases h:c=13∧r.head? =some 10
   ·simp [h]
   ·rw [if_neg (by simpa using h),if_neg h]
    rcases crAt r with _ | j
    ·simp
    ·simp
theorem cut_crlf (l:List UInt8):Go.Lib.cut l [13,10]=match crAt l with | some k=>(l.take k,l.drop (k+2),true) | none=>(l,[],false):=by
 unfold Go.Lib.cut
 rw [index_crlf]
 rcases h:crAt l with _ | k
 ·simp
 ·simp
def byteAt (b:UInt8):List UInt8→Option Nat
 | []=>none
 | c::r=>if c=b then some 0 else (byteAt b r).map (·+1)
theorem byteAt_lt {b:UInt8}:∀ {l:List UInt8} {k:Nat},byteAt b l=some k→k<l.length
 | c::r,k,h=>by
   rw [byteAt] at h
   split at h
   ·cases h;simp
   ·rcases hr:byteAt b r with _ | j
    ·rw [hr] at h;cases h
    ·rw [hr] at h
     have:=byteAt_lt hr
     cases h;simp;omega
theorem index_byte (b:UInt8):∀ l:List UInt8,Go.Lib.index l [b]=match byteAt b l with | some k=>(k:Int) | none=>-1
 | []=>rfl
 | c::r=>by
   rw [Go.Lib.index,index_byte b r,byteAt]
   have hp:List.isPrefixOf [b] (c::r)=decide (c=b):=by
    rw [Bool.eq_iff_iff];simp [List.isPrefixOf];exact ⟨fun h=>h.symm,fun h=>h.symm⟩
   rw [hp]
   by_cases h:c=b
   ·simp [h]
   ·rw [if_neg (by simpa using h),if_neg h]
    rcases byteAt b r with _ | j
    ·simp
    ·simp
theorem cut_byte (b:UInt8) (l:List UInt8):Go.Lib.cut l [b]=match byteAt b l with | some k=>(l.take k,l.drop (k+1),true) | none=>(l,[],false):=by
 unfold Go.Lib.cut
 rw [index_byte]
 rcases h:byteAt b l with _ | k
 ·simp
 ·simp
abbrev Fld:=List UInt8 × List UInt8
def lineStep (st:List Fld × Bool) (l:List UInt8):Option (List Fld × Bool) :=
 if l.all shownC=false then none
 else if (l.head?.map blankC).getD false then
  (match st.1.getLast? with
   | none=>none
   | some p=>some (st.1.dropLast++[(p.1,p.2++l)],st.2 || decide (998<l.length)))
 else match byteAt 58 l with
  | none=>none
  | some k=>if nameL (l.take k) then some (st.1++[(l.take k,l.drop (k+1))],st.2 || decide (998<l.length)) else none
def itL (l:List UInt8) (at_:Nat):List (List UInt8 × Nat) :=
 match h:crAt l with
 | none=>[]
 | some k=>(l.take k,at_+k+2)::if k=0 then [] else itL (l.drop (k+2)) (at_+k+2)
termination_by l.length
decreasing_by have:=crAt_lt h;simp;omega
theorem itL_none {l:List UInt8} {a:Nat} (h:crAt l=none):itL l a=[]:=by
 rw [itL];split
 ·rfl
 ·rename_i h';rw [h] at h';cases h'
theorem itL_some {l:List UInt8} {a k:Nat} (h:crAt l=some k):itL l a=(l.take k,a+k+2)::if k=0 then [] else itL (l.drop (k+2)) (a+k+2):=by
 rw [itL];split
 ·rename_i h';rw [h] at h';cases h'
 ·rename_i h';rw [h] at h';cases h';rfl
theorem itL_two (n:Nat):∀ (l:List UInt8) (a:Nat),l.length≤n→∀ x∈itL l a,2≤x.2:=by
 induction n with
 | zero =>
   intro l a h x hx
   rw [List.eq_nil_of_length_eq_zero (l:=l) (by omega),itL_none rfl] at hx;cases hx
 | succ n ih =>
   intro l a h x hx
   rcases hc:crAt l with _ | k
   ·rw [itL_none hc] at hx;cases hx
   ·have:=crAt_lt hc
    rw [itL_some hc] at hx
    rcases List.mem_cons.1 hx with rfl | hx
    ·show 2≤a+k+2;omega
    ·by_cases hk:k=0
     ·rw [if_pos hk] at hx;cases hx
     ·rw [if_neg hk] at hx;exact ih _ _ (by rw [List.length_drop];omega) x hx
theorem itL_count (n:Nat):∀ (l:List UInt8) (a:Nat),l.length≤n→(itL l a).length≤l.length:=by
 induction n with
 | zero =>
   intro l a h
   rw [List.eq_nil_of_length_eq_zero (l:=l) (by omega),itL_none rfl];simp
 | succ n ih =>
   intro l a h
   rcases hc:crAt l with _ | k
   ·rw [itL_none hc];simp
   ·have:=crAt_lt hc
    rw [itL_some hc,List.length_cons]
    by_cases hk:k=0
    ·rw [if_pos hk];simp;omega
    ·rw [if_neg hk]
     have h2:=ih (l.drop (k+2)) (a+k+2) (by rw [List.length_drop];omega)
     rw [List.length_drop] at h2;omega
def runHead:List (List UInt8 × Nat)→List Fld × Bool→Option (List Fld × Bool × Nat)
 | [],_=>none
 | (ln,a)::r,st=>if ln=[] then some (st.1,st.2,a) else match lineStep st ln with | none=>none | some st'=>runHead r st'
def linesL (ls:List (List UInt8)) (st:List Fld × Bool):Option (List Fld × Bool):=ls.foldlM lineStep st
theorem linesL_snoc (ls:List (List UInt8)) (l:List UInt8) (st:List Fld × Bool):linesL (ls++[l]) st=(linesL ls st).bind fun s=>lineStep s l:=by
 unfold linesL;rw [List.foldlM_append];simp [List.foldlM_cons,List.foldlM_nil]
theorem runHead_app:∀ (xs r:List (List UInt8 × Nat)) (st st':List Fld × Bool),(∀ x∈xs,x.1≠[])→linesL (xs.map (·.1)) st=some st'→runHead (xs++r) st=runHead r st'
 | [],r,st,st',_,h=>by simp [linesL] at h;rw [h];rfl
 | (ln,a)::xs,r,st,st',hne,h=>by
   have hn:ln≠[]:=hne (ln,a) (by simp)
   rw [List.map_cons,linesL,List.foldlM_cons] at h
   obtain ⟨s1,h1,h2⟩:=Option.bind_eq_some_iff.1 h
   rw [List.cons_append,runHead,if_neg hn,h1]
   exact runHead_app xs r s1 st' (fun x hx=>hne x (by simp [hx])) h2
inductive Split where
 | form
 | long
 | ok (l:List Fld) (body:Nat)
def splitL (l:List UInt8):Split:=match runHead (itL l 0) ([],false) with
 | none=>.form
 | some (_,true,_)=>.long
 | some (f,false,b)=>.ok (f.map fun p=>(p.1,trimB p.2)) b
end Nun
end
section
namespace Nun
open Go Go.RowKit Go.Proofs Go.Proofs.YtmpiobfdchlikaaDoor
variable {lib:Callee}
def fcells:List Fld→List PV
 | []=>[]
 | (a,b)::l=>.flat (.string (S a))::.flat (.string (S b))::fcells l
theorem fcells_np:∀ F:List Fld,noPtrs (fcells F)=true
 | []=>rfl
 | (a,b)::l=>by show noPtrs (.flat (.string (S a))::.flat (.string (S b))::fcells l)=true;simp only [noPtrs,PV.noPtr,fcells_np l,Bool.true_and]
theorem fcells_low {n:Nat}:∀ F:List Fld,lows n (fcells F)=true
 | []=>rfl
 | (a,b)::l=>by show lows n (.flat (.string (S a))::.flat (.string (S b))::fcells l)=true;simp only [lows,PV.low,fcells_low l,Bool.true_and]
theorem fcells_len:∀ F:List Fld,(fcells F).length=F.length * 2
 | []=>rfl
 | (a,b)::l=>by simp only [fcells,List.length_cons,fcells_len l];omega
theorem fcells_at:∀ {F:List Fld} {k:Nat} {a b:Str} {r:List Fld},F.drop k=(a,b)::r→(fcells F).drop (k * 2)=.flat (.string (S a))::.flat (.string (S b))::fcells r
 | (x,y)::l,0,a,b,r,h=>by
   simp only [List.drop_zero,List.cons.injEq,Prod.mk.injEq] at h
   obtain ⟨⟨rfl,rfl⟩,rfl⟩:=h
   rfl
 | (x,y)::l,k+1,a,b,r,h=>by
   rw [show (k+1) * 2=k * 2+1+1 by omega]
   simp only [fcells,List.drop_succ_cons]
   exact fcells_at h
 | [],k,a,b,r,h=>by simp at h
def LibFold (lib:Callee):Prop:=∀ s:Str,s.length≤1000000→lib 28 [.flat (.string (S s))] [] []=some ([.flat (.string (S (foldL s)))],false,[],[])
def LibAlike (lib:Callee):Prop:=∀ s t:Str,s.length≤1000000→t.length≤1000000→lib 42 [.flat (.string (S s)),.flat (.string (S t))] [] []=some ([.flat (.bool (foldL s == foldL t))],false,[],[])
theorem fold_ev (H:LibFold lib) (s:Str) (h:s.length≤1000000):evW code lib 28 [.flat (.string (S s))] [] []=some ([.flat (.string (S (foldL s)))],false,[],[]):=evW_lib (by decide) (by kernel_rfl) (H s h)
theorem alike_ev (H:LibAlike lib) (s t:Str) (hs:s.length≤1000000) (ht:t.length≤1000000):evW code lib 42 [.flat (.string (S s)),.flat (.string (S t))] [] []=some ([.flat (.bool (foldL s == foldL t))],false,[],[]):=evW_lib (by decide) (by kernel_rfl) (H s t hs ht)
theorem must_ev (e:Nat):evW code lib 25 [.flat (.bool true),.flat (.int .i64 (e:Nat))] [] []=some ([],false,[],[]):=by
 refine evW_eq code_letter_must (Nat.le_of_ble_eq_true rfl) ?_
 simp (maxSteps:=999999) (disch:=first | assumption | omega) only [go_sem,simprocAttr,au]
def markB (c:UInt8):Bool:=!(((decide (c.toNat<48) || decide (57<c.toNat)) && (decide ((c.toNat ||| 32)<97) || decide (122<(c.toNat ||| 32)))) && !([45,95,61,46]:Str).contains c)
def markU (s:Str):Bool:=s.all markB && (!decide (s=[]) && decide (s.length≤70))
theorem marked_ev (HI:LibIdx lib) (s:Str) (hs:s.length≤1000000000):evW code lib 31 [.flat (.string (S s))] [] []=some ([.flat (.bool (markU s))],false,[],[]):=by
 have hloop:=loop_at (body:=evC (evW code lib) big b_letter_Marked_0) (live:=[0,6,7]) (nb:=0) (fun (_:Unit) k=>⟨[(0,.flat (.string (S s))),(6,.flat (.int .i64 (s.length:Nat))),(7,.flat (.int .i64 (k:Nat)))],[],[],[]⟩) s (fun _ _=>True)
  (fun _ k x=>if markB x then .inl () else .inr (.ret,⟨[(2,.flat (.bool false))],[],[],[]⟩)) (fun _=>(.exit 0,⟨[(0,.flat (.string (S s)))],[],[],[]⟩)) (fun _ k c _ hk hc hd=>?_) (fun _ _=>by simp only [go_sem,simprocAttr]) (fun _ _ _ _ _ _ _ _=>trivial) (fun _ _ x r h=>by split at h<;>simp at h;rw [← h];simp) (fun _ _=>?_) (fun _=>by simp) () trivial (by unfold big;omega)
 ·rw [walk_all] at hloop
  simp only [n0] at hloop
  unfold markU
  refine evW_eq code_letter_Marked (Nat.le_of_ble_eq_true rfl) ?_
  cases ha:s.all markB with
  | false =>
    simp only [ha,Bool.false_eq_true,if_false] at hloop
    simp only [Bool.false_and]
    simp (maxSteps:=999999) (disch:=first | assumption | omega) only [go_sem,simprocAttr,au,hloop]
  | true =>
    simp only [ha,if_true] at hloop
    simp only [Bool.true_and]
    by_cases he:s=[]
    ·have he':(s=[])=True:=eq_true he
     simp only [he',decide_true,Bool.not_true,Bool.false_and]
     simp (maxSteps:=999999) (disch:=first | assumption | omega) only [go_sem,simprocAttr,au,hloop,he']
    ·have he':(s=[])=False:=eq_false he
     simp only [he',decide_false,Bool.not_false,Bool.true_and]
     rcases Classical.em (s.length≤70) with h70 | h70
     ·simp only [h70,decide_true]
      simp (maxSteps:=999999) (disch:=first | assumption | omega) only [go_sem,simprocAttr,au,hloop,he']
     ·simp only [h70,decide_false]
      simp (maxSteps:=999999) (disch:=first | assumption | omega) only [go_sem,simprocAttr,au,hloop,he']
 ·have hb:=idx_ev HI [45,95,61,46] c (by decide)
  have hin:=at1_in c [45,95,61,46]
  have hcb:=c.toNat_lt
  have o1:bitor .u8 (c.toNat:Int) 32=((c.toNat ||| 32:Nat):Int):=u8_or c.toNat 32 (by omega) (by omega)
  unfold markB
  rw [← hin]
  obtain ⟨m,hm⟩:∃ m,c.toNat ||| 32=m:=⟨_,rfl⟩
  obtain ⟨n,hn⟩:∃ n,c.toNat=n:=⟨_,rfl⟩
  rw [hm] at o1 ⊢
  rw [hn] at o1 hb ⊢
  clear hin hm
  cases hat:at1 c [45,95,61,46] with
  | none =>
    simp only [hat] at hb
    simp only [Option.isSome_none]
    rcases Classical.em (n<48) with a1 | a1<;>rcases Classical.em (57<n) with a2 | a2<;>rcases Classical.em (m<97) with a3 | a3<;>rcases Classical.em (122<m) with a4 | a4
    all_goals first | (exfalso;omega) | skip
    all_goals
     simp (maxSteps:=999999) (disch:=first | assumption | omega) only [go_sem,simprocAttr,au,on_letter_Marked_0,hc,hn,hb,o1]
  | some i =>
    simp only [hat] at hb
    simp only [Option.isSome_some]
    rcases Classical.em (n<48) with a1 | a1<;>rcases Classical.em (57<n) with a2 | a2<;>rcases Classical.em (m<97) with a3 | a3<;>rcases Classical.em (122<m) with a4 | a4
    all_goals first | (exfalso;omega) | skip
    all_goals
     simp (maxSteps:=999999) (disch:=first | assumption | omega) only [go_sem,simprocAttr,au,on_letter_Marked_0,hc,hn,hb,o1]
 ·simp (maxSteps:=999999) (disch:=first | assumption | omega) only [go_sem,simprocAttr,au,on_letter_Marked_0]
def getS (n:Str):List Fld→Str × Nat→Str × Nat
 | [],q=>q
 | (a,b)::l,q=>if foldL a == foldL n then getS n l (if q.2=0 then b else q.1,q.2+1) else getS n l q
def getU (n:Str) (F:List Fld):Str × Nat:=getS n F ([],0)
def smallF (F:List Fld):Prop:=F.length≤1000000∧∀ f∈F,f.1.length≤1000000∧f.2.length≤1000000
theorem walk_get {n:Str} {fin:Str × Nat→Out × St}:∀ (L:List Fld) (k:Nat) (q:Str × Nat),walkL (fun (q:Str × Nat) _ (x:Fld)=>(if foldL x.1 == foldL n then .inl (if q.2=0 then x.2 else q.1,q.2+1) else .inl q:(Str × Nat) ⊕ (Out × St))) fin q k L=fin (getS n L q)
 | [],k,q=>rfl
 | (a,b)::t,k,q=>by
   rw [walkL,getS]
   cases h:foldL a == foldL n with
   | true=>simp only [h,if_true];exact walk_get t _ _
   | false=>simp only [h,Bool.false_eq_true,if_false];exact walk_get t _ _
set_option maxHeartbeats 4000000 in
theorem get_ev (HA:LibAlike lib) (F:List Fld) (n:Str) (hF:smallF F) (hn:n.length≤1000000):evW code lib 27 [.slc F.length (fcells F),.flat (.string (S n))] [] []=some ([.flat (.string (S (getU n F).1)),.flat (.int .i64 ((getU n F).2:Nat))],false,[],[]):=by
 have hloop:=loop_at (body:=evC (evW code lib) big b_head_Get_0) (live:=[1,6,7,10,11,12]) (nb:=0) (fun (q:Str × Nat) k=>⟨[(1,.flat (.string (S n))),(6,.flat (.string (S q.1))),(7,.flat (.int .i64 (q.2:Nat))),(10,.slc F.length (fcells F)),(11,.flat (.int .i64 (F.length:Nat))),(12,.flat (.int .i64 (k:Nat)))],[],[],[]⟩) F (fun q k=>q.2≤k)
  (fun q k x=>if foldL x.1 == foldL n then .inl (if q.2=0 then x.2 else q.1,q.2+1) else .inl q) (fun q=>(.exit 0,⟨[(6,.flat (.string (S q.1))),(7,.flat (.int .i64 (q.2:Nat)))],[],[],[]⟩)) (fun q k c hq hk hc hd=>?_) (fun _ _=>by simp only [go_sem,simprocAttr]) (fun q k x a' hq _ _ h=>by split at h<;>cases h<;>first | omega | (dsimp only;omega)) (fun _ _ x r h=>by split at h<;>cases h) (fun q _=>?_) (fun _=>by simp) ([],0) (Nat.le_refl _) (by have:=hF.1;unfold big;omega)
 ·rw [walk_get] at hloop
  simp only [n0] at hloop
  unfold getU
  refine evW_eq code_head_Get (Nat.le_of_ble_eq_true rfl) ?_
  have hFl:=hF.1
  generalize getS n F ([],0)=R at *
  obtain ⟨v,m⟩:=R
  simp (maxSteps:=999999) (disch:=first | assumption | omega) only [go_sem,simprocAttr,au,hloop]
 ·obtain ⟨a,b⟩:=c
  obtain ⟨v,m⟩:=q
  have hFl:=hF.1
  have hab:=hF.2 (a,b) (List.mem_of_getElem? hc)
  have hA:=alike_ev HA a n hab.1 hn
  have hat:=fcells_at hd
  have hlen:=fcells_len F
  have hl2:((fcells F).drop (k * 2)).length=(F.length - k) * 2:=by rw [List.length_drop,hlen];omega
  dsimp only at hq ⊢
  have hlow:=fun n=>fcells_low (n:=n) F
  clear hF hab hlen HA hd hc
  generalize F.drop (k+1)=fr at *
  generalize fcells fr=fg at *
  cases hfo:foldL a == foldL n with
  | true =>
    rw [hfo] at hA
    simp only [if_true]
    by_cases hm:m=0
    ·subst hm
     simp (maxSteps:=999999) (disch:=first | assumption | omega) only [go_sem,simprocAttr,au,on_head_Get_0,hat,hA,hlow]
    ·have hm':((m:Int)=0)=False:=by apply eq_false;omega
     simp only [hm,if_false]
     simp (maxSteps:=999999) (disch:=first | assumption | omega) only [go_sem,simprocAttr,au,on_head_Get_0,hat,hA,hm',hlow]
  | false =>
    rw [hfo] at hA
    simp only [Bool.false_eq_true,if_false]
    simp (maxSteps:=999999) (disch:=first | assumption | omega) only [go_sem,simprocAttr,au,on_head_Get_0,hat,hA,hlow]
 ·simp (maxSteps:=999999) (disch:=first | assumption | omega) only [go_sem,simprocAttr,au,on_head_Get_0]
end Nun
end
section
namespace Go.Proofs
open Go.Shelf
def Tryd.lays169_ren:Go.Shelf.Ren:=⟨fun | 169=>83 | n=>n,fun | 70=>116 | 9=>9 | 0=>0 | 72=>118 | 37=>73 | 127=>132 | 3=>3 | 5=>5 | n=>n,fun | n=>n⟩
theorem Tryd.lays169:Go.Proofs.Lays.n169 Tryd.prog Tryd.lays169_ren:={
 mixed:=by kernel_rfl
 f169:=Tryd.func83.trans (congrArg some (by kernel_rfl))
 t0:=Tryd.underlying0
 a0:=Tryd.isAgg0
 z0:=Tryd.sizeOf0
 v0:=Tryd.zeroValue0
 t3:=Tryd.underlying3
 a3:=Tryd.isAgg3
 z3:=Tryd.sizeOf3
 v3:=Tryd.zeroValue3
 t9:=Tryd.underlying9
 a9:=Tryd.isAgg9
 z9:=Tryd.sizeOf9
 v9:=Tryd.zeroValue9
 t37:=Tryd.underlying73
 a37:=Tryd.isAgg73
 z37:=Tryd.sizeOf73
 v37:=Tryd.zeroValue73
 t70:=Tryd.underlying116
 a70:=Tryd.isAgg116
 z70:=Tryd.sizeOf116
 v70:=Tryd.zeroValue116
 t72:=Tryd.underlying118
 a72:=Tryd.isAgg118
 z72:=Tryd.sizeOf118
 v72:=Tryd.zeroValue118
 t127:=Tryd.underlying132
 a127:=Tryd.isAgg132
 z127:=Tryd.sizeOf132
 v127:=Tryd.zeroValue132 }
theorem Tryd.Builder_Extra_169:Builder.Extra Tryd.prog Tryd.lays169_ren:={
 sizeBuilder:=by kernel_rfl
 liesBuilder:=by kernel_rfl
 t5:=Tryd.underlying5
 a5:=Tryd.isAgg5
 z5:=Tryd.sizeOf5
 v5:=Tryd.zeroValue5
 infoByte:=by kernel_rfl
 cellsByte:=by kernel_rfl
 sizeByte:=by kernel_rfl
 neB5:=by decide }
def Tryd.lays161_ren:Go.Shelf.Ren:=⟨fun | 161=>75 | 231=>68 | 227=>70 | 233=>71 | 235=>73 | 228=>87 | 197=>88 | 151=>89 | 260=>96 | 152=>97 | 137=>43 | 119=>103 | 224=>85 | 225=>84 | 217=>60 | 266=>78 | n=>n,fun | 9=>9 | 4=>4 | 3=>3 | 5=>5 | 117=>107 | 116=>106 | 0=>0 | 124=>110 | 105=>125 | 21=>21 | 119=>139 | 46=>115 | 139=>142 | 138=>141 | n=>n,fun | 3=>1 | 4=>2 | n=>n⟩
theorem Tryd.lays161:Go.Proofs.Lays.n161 Tryd.prog Tryd.lays161_ren:={
 mixed:=by kernel_rfl
 f119:=Tryd.func103.trans (congrArg some (by kernel_rfl))
 f137:=Tryd.func43.trans (congrArg some (by kernel_rfl))
 f151:=Tryd.func89.trans (congrArg some (by kernel_rfl))
 f152:=Tryd.func97.trans (congrArg some (by kernel_rfl))
 f161:=Tryd.func75.trans (congrArg some (by kernel_rfl))
 f197:=Tryd.func88.trans (congrArg some (by kernel_rfl))
 f217:=Tryd.func60.trans (congrArg some (by kernel_rfl))
 f224:=Tryd.func85.trans (congrArg some (by kernel_rfl))
 f225:=Tryd.func84.trans (congrArg some (by kernel_rfl))
 f227:=Tryd.func70.trans (congrArg some (by kernel_rfl))
 f228:=Tryd.func87.trans (congrArg some (by kernel_rfl))
 f231:=Tryd.func68.trans (congrArg some (by kernel_rfl))
 f233:=Tryd.func71.trans (congrArg some (by kernel_rfl))
 f235:=Tryd.func73.trans (congrArg some (by kernel_rfl))
 f260:=Tryd.func96.trans (congrArg some (by kernel_rfl))
 f266:=Tryd.func78.trans (congrArg some (by kernel_rfl))
 t0:=Tryd.underlying0
 a0:=Tryd.isAgg0
 z0:=Tryd.sizeOf0
 v0:=Tryd.zeroValue0
 t3:=Tryd.underlying3
 a3:=Tryd.isAgg3
 z3:=Tryd.sizeOf3
 v3:=Tryd.zeroValue3
 t4:=Tryd.underlying4
 a4:=Tryd.isAgg4
 z4:=Tryd.sizeOf4
 v4:=Tryd.zeroValue4
 t5:=Tryd.underlying5
 a5:=Tryd.isAgg5
 z5:=Tryd.sizeOf5
 v5:=Tryd.zeroValue5
 t9:=Tryd.underlying9
 a9:=Tryd.isAgg9
 z9:=Tryd.sizeOf9
 v9:=Tryd.zeroValue9
 t21:=Tryd.underlying21
 a21:=Tryd.isAgg21
 z21:=Tryd.sizeOf21
 v21:=Tryd.zeroValue21
 t46:=Tryd.underlying115
 a46:=Tryd.isAgg115
 z46:=Tryd.sizeOf115
 v46:=Tryd.zeroValue115
 t105:=Tryd.underlying125
 a105:=Tryd.isAgg125
 z105:=Tryd.sizeOf125
 v105:=Tryd.zeroValue125
 t116:=Tryd.underlying106
 a116:=Tryd.isAgg106
 z116:=Tryd.sizeOf106
 t117:=Tryd.underlying107
 a117:=Tryd.isAgg107
 z117:=Tryd.sizeOf107
 v117:=Tryd.zeroValue107
 t119:=Tryd.underlying139
 a119:=Tryd.isAgg139
 z119:=Tryd.sizeOf139
 t124:=Tryd.underlying110
 a124:=Tryd.isAgg110
 z124:=Tryd.sizeOf110
 v124:=Tryd.zeroValue110
 t138:=Tryd.underlying141
 a138:=Tryd.isAgg141
 z138:=Tryd.sizeOf141
 v138:=Tryd.zeroValue141
 t139:=Tryd.underlying142
 a139:=Tryd.isAgg142
 z139:=Tryd.sizeOf142
 v139:=Tryd.zeroValue142
 g3:=by kernel_rfl
 g4:=by kernel_rfl }
def Tryd.lays160_ren:Go.Shelf.Ren:=⟨fun | 160=>53 | 232=>69 | 231=>68 | 227=>70 | 234=>72 | 233=>71 | 236=>74 | 235=>73 | 228=>87 | 271=>90 | 151=>89 | 197=>88 | 120=>98 | 152=>97 | 260=>96 | 137=>43 | 119=>103 | 224=>85 | 225=>84 | 217=>60 | 266=>78 | n=>n,fun | 9=>9 | 4=>4 | 3=>3 | 5=>5 | 117=>107 | 116=>106 | 0=>0 | 124=>110 | 21=>21 | 105=>125 | 46=>115 | 119=>139 | 139=>142 | 138=>141 | n=>n,fun | 3=>1 | 4=>2 | n=>n⟩
theorem Tryd.lays160:Go.Proofs.Lays.n160 Tryd.prog Tryd.lays160_ren:={
 mixed:=by kernel_rfl
 f119:=Tryd.func103.trans (congrArg some (by kernel_rfl))
 f120:=Tryd.func98.trans (congrArg some (by kernel_rfl))
 f137:=Tryd.func43.trans (congrArg some (by kernel_rfl))
 f151:=Tryd.func89.trans (congrArg some (by kernel_rfl))
 f152:=Tryd.func97.trans (congrArg some (by kernel_rfl))
 f160:=Tryd.func53.trans (congrArg some (by kernel_rfl))
 f197:=Tryd.func88.trans (congrArg some (by kernel_rfl))
 f217:=Tryd.func60.trans (congrArg some (by kernel_rfl))
 f224:=Tryd.func85.trans (congrArg some (by kernel_rfl))
 f225:=Tryd.func84.trans (congrArg some (by kernel_rfl))
 f227:=Tryd.func70.trans (congrArg some (by kernel_rfl))
 f228:=Tryd.func87.trans (congrArg some (by kernel_rfl))
 f231:=Tryd.func68.trans (congrArg some (by kernel_rfl))
 f232:=Tryd.func69.trans (congrArg some (by kernel_rfl))
 f233:=Tryd.func71.trans (congrArg some (by kernel_rfl))
 f234:=Tryd.func72.trans (congrArg some (by kernel_rfl))
 f235:=Tryd.func73.trans (congrArg some (by kernel_rfl))
 f236:=Tryd.func74.trans (congrArg some (by kernel_rfl))
 f260:=Tryd.func96.trans (congrArg some (by kernel_rfl))
 f266:=Tryd.func78.trans (congrArg some (by kernel_rfl))
 f271:=Tryd.func90.trans (congrArg some (by kernel_rfl))
 t0:=Tryd.underlying0
 a0:=Tryd.isAgg0
 z0:=Tryd.sizeOf0
 v0:=Tryd.zeroValue0
 t3:=Tryd.underlying3
 a3:=Tryd.isAgg3
 z3:=Tryd.sizeOf3
 v3:=Tryd.zeroValue3
 t4:=Tryd.underlying4
 a4:=Tryd.isAgg4
 z4:=Tryd.sizeOf4
 v4:=Tryd.zeroValue4
 t5:=Tryd.underlying5
 a5:=Tryd.isAgg5
 z5:=Tryd.sizeOf5
 v5:=Tryd.zeroValue5
 t9:=Tryd.underlying9
 a9:=Tryd.isAgg9
 z9:=Tryd.sizeOf9
 v9:=Tryd.zeroValue9
 t21:=Tryd.underlying21
 a21:=Tryd.isAgg21
 z21:=Tryd.sizeOf21
 v21:=Tryd.zeroValue21
 t46:=Tryd.underlying115
 a46:=Tryd.isAgg115
 z46:=Tryd.sizeOf115
 v46:=Tryd.zeroValue115
 t105:=Tryd.underlying125
 a105:=Tryd.isAgg125
 z105:=Tryd.sizeOf125
 v105:=Tryd.zeroValue125
 t116:=Tryd.underlying106
 a116:=Tryd.isAgg106
 z116:=Tryd.sizeOf106
 t117:=Tryd.underlying107
 a117:=Tryd.isAgg107
 z117:=Tryd.sizeOf107
 v117:=Tryd.zeroValue107
 t119:=Tryd.underlying139
 a119:=Tryd.isAgg139
 z119:=Tryd.sizeOf139
 t124:=Tryd.underlying110
 a124:=Tryd.isAgg110
 z124:=Tryd.sizeOf110
 v124:=Tryd.zeroValue110
 t138:=Tryd.underlying141
 a138:=Tryd.isAgg141
 z138:=Tryd.sizeOf141
 v138:=Tryd.zeroValue141
 t139:=Tryd.underlying142
 a139:=Tryd.isAgg142
 z139:=Tryd.sizeOf142
 v139:=Tryd.zeroValue142
 g3:=by kernel_rfl
 g4:=by kernel_rfl }
def Tryd.lays137_ren:Go.Shelf.Ren:=⟨fun | 137=>43 | 217=>60 | 266=>78 | n=>n,fun | 9=>9 | 5=>5 | 3=>3 | n=>n,fun | n=>n⟩
theorem Tryd.lays137:Go.Proofs.Lays.n137 Tryd.prog Tryd.lays137_ren:={
 mixed:=by kernel_rfl
 f137:=Tryd.func43.trans (congrArg some (by kernel_rfl))
 f217:=Tryd.func60.trans (congrArg some (by kernel_rfl))
 f266:=Tryd.func78.trans (congrArg some (by kernel_rfl))
 t3:=Tryd.underlying3
 a3:=Tryd.isAgg3
 z3:=Tryd.sizeOf3
 v3:=Tryd.zeroValue3
 t5:=Tryd.underlying5
 a5:=Tryd.isAgg5
 z5:=Tryd.sizeOf5
 v5:=Tryd.zeroValue5
 t9:=Tryd.underlying9
 a9:=Tryd.isAgg9
 z9:=Tryd.sizeOf9
 v9:=Tryd.zeroValue9 }
open Go.RowKit in
theorem Tryd.strings_IndexByte (s:ByteArray) (c:Int) (w:World) :
 Calls Tryd.prog 43 #[.string s,.int .u8 c] w fun e w'=>e=.returned (.int .i64 (Lib.indexByte s.data.toList c.toNat.toUInt8))∧w'=w:=Any.strings_IndexByte Tryd.lays137 s c w
def Tryd.lays103_ren:Go.Shelf.Ren:=⟨fun | 103=>49 | 210=>66 | 206=>44 | n=>n,fun | 9=>9 | 4=>4 | 24=>89 | 3=>3 | n=>n,fun | n=>n⟩
theorem Tryd.lays103:Go.Proofs.Lays.n103 Tryd.prog Tryd.lays103_ren:={
 mixed:=by kernel_rfl
 f103:=Tryd.func49.trans (congrArg some (by kernel_rfl))
 f206:=Tryd.func44.trans (congrArg some (by kernel_rfl))
 f210:=Tryd.func66.trans (congrArg some (by kernel_rfl))
 t3:=Tryd.underlying3
 a3:=Tryd.isAgg3
 z3:=Tryd.sizeOf3
 v3:=Tryd.zeroValue3
 t4:=Tryd.underlying4
 a4:=Tryd.isAgg4
 z4:=Tryd.sizeOf4
 v4:=Tryd.zeroValue4
 t9:=Tryd.underlying9
 a9:=Tryd.isAgg9
 z9:=Tryd.sizeOf9
 v9:=Tryd.zeroValue9
 t24:=Tryd.underlying89
 a24:=Tryd.isAgg89
 z24:=Tryd.sizeOf89
 v24:=Tryd.zeroValue89 }
open Go.RowKit in
theorem Tryd.strings_CutPrefix (s p:ByteArray) (w:World) :
 Calls Tryd.prog 49 #[.string s,.string p] w fun e w'=>e=.returned (.tuple #[.string ⟨(Lib.trimPrefix s.data.toList p.data.toList).toArray⟩,.bool (Lib.hasPrefix s.data.toList p.data.toList)])∧w'=w:=Any.strings_CutPrefix Tryd.lays103 s p w
open Go.RowKit in
theorem Tryd.Builder_String_any_k (B b:Nat) (l:List UInt8) (w:World) (h:Lib.IsBuilderF 118 5 B b (Lib.byteCells l) w) (hBw:B≤w.heap.size) :
 Calls Tryd.prog 83 #[.pointer (some ⟨b,0,none⟩)] w fun e w'=>e=.returned (.string ⟨l.toArray⟩)∧(Lib.IsBuilderF 118 5 B b (Lib.byteCells l) w'∧Below B w w'∧Lib.OthersKept 5 (some b) w w'):=Any.Builder_String_any_k Tryd.lays169 Tryd.Builder_Extra_169 B b l w h hBw
def Tryd.lays143_ren:Go.Shelf.Ren:=⟨fun | 143=>50 | 219=>67 | 217=>60 | 225=>84 | 224=>85 | 267=>86 | 266=>78 | 314=>95 | n=>n,fun | 9=>9 | 3=>3 | 4=>4 | 5=>5 | 46=>115 | 146=>133 | 51=>129 | n=>n,fun | 1=>0 | n=>n⟩
theorem Tryd.lays143:Go.Proofs.Lays.n143 Tryd.prog Tryd.lays143_ren:={
 mixed:=by kernel_rfl
 f143:=Tryd.func50.trans (congrArg some (by kernel_rfl))
 f217:=Tryd.func60.trans (congrArg some (by kernel_rfl))
 f219:=Tryd.func67.trans (congrArg some (by kernel_rfl))
 f224:=Tryd.func85.trans (congrArg some (by kernel_rfl))
 f225:=Tryd.func84.trans (congrArg some (by kernel_rfl))
 f266:=Tryd.func78.trans (congrArg some (by kernel_rfl))
 f267:=Tryd.func86.trans (congrArg some (by kernel_rfl))
 f314:=Tryd.func95.trans (congrArg some (by kernel_rfl))
 t3:=Tryd.underlying3
 a3:=Tryd.isAgg3
 z3:=Tryd.sizeOf3
 v3:=Tryd.zeroValue3
 t4:=Tryd.underlying4
 a4:=Tryd.isAgg4
 z4:=Tryd.sizeOf4
 v4:=Tryd.zeroValue4
 t5:=Tryd.underlying5
 a5:=Tryd.isAgg5
 z5:=Tryd.sizeOf5
 v5:=Tryd.zeroValue5
 t9:=Tryd.underlying9
 a9:=Tryd.isAgg9
 z9:=Tryd.sizeOf9
 v9:=Tryd.zeroValue9
 t46:=Tryd.underlying115
 a46:=Tryd.isAgg115
 z46:=Tryd.sizeOf115
 v46:=Tryd.zeroValue115
 t51:=Tryd.underlying129
 a51:=Tryd.isAgg129
 z51:=Tryd.sizeOf129
 v51:=Tryd.zeroValue129
 t146:=Tryd.underlying133
 a146:=Tryd.isAgg133
 z146:=Tryd.sizeOf133
 v146:=Tryd.zeroValue133
 g1:=by kernel_rfl }
open Go.RowKit Go.Lib in
theorem Tryd.strings_Index (s sub:ByteArray) (m:Int) (w:World) (hs:s.size<4294967281) (hm:w.cell? ⟨0,0,none⟩=some (.int .i64 m)) :
 Calls Tryd.prog 50 #[.string s,.string sub] w fun e w'=>e=.returned (.int .i64 (Lib.index s.data.toList sub.data.toList))∧w'=w:=Any.strings_Index Tryd.lays143 s sub m w hs hm
def Tryd.lays145_ren:Go.Shelf.Ren:=⟨fun | 145=>38 | 220=>52 | 219=>67 | 217=>60 | 225=>84 | 224=>85 | 267=>86 | 266=>78 | 314=>95 | n=>n,fun | 9=>9 | 4=>4 | 59=>79 | 3=>3 | 5=>5 | 46=>115 | 146=>133 | 51=>129 | n=>n,fun | 1=>0 | n=>n⟩
theorem Tryd.lays145:Go.Proofs.Lays.n145 Tryd.prog Tryd.lays145_ren:={
 mixed:=by kernel_rfl
 f145:=Tryd.func38.trans (congrArg some (by kernel_rfl))
 f217:=Tryd.func60.trans (congrArg some (by kernel_rfl))
 f219:=Tryd.func67.trans (congrArg some (by kernel_rfl))
 f220:=Tryd.func52.trans (congrArg some (by kernel_rfl))
 f224:=Tryd.func85.trans (congrArg some (by kernel_rfl))
 f225:=Tryd.func84.trans (congrArg some (by kernel_rfl))
 f266:=Tryd.func78.trans (congrArg some (by kernel_rfl))
 f267:=Tryd.func86.trans (congrArg some (by kernel_rfl))
 f314:=Tryd.func95.trans (congrArg some (by kernel_rfl))
 t3:=Tryd.underlying3
 a3:=Tryd.isAgg3
 z3:=Tryd.sizeOf3
 v3:=Tryd.zeroValue3
 t4:=Tryd.underlying4
 a4:=Tryd.isAgg4
 z4:=Tryd.sizeOf4
 v4:=Tryd.zeroValue4
 t5:=Tryd.underlying5
 a5:=Tryd.isAgg5
 z5:=Tryd.sizeOf5
 v5:=Tryd.zeroValue5
 t9:=Tryd.underlying9
 a9:=Tryd.isAgg9
 z9:=Tryd.sizeOf9
 v9:=Tryd.zeroValue9
 t46:=Tryd.underlying115
 a46:=Tryd.isAgg115
 z46:=Tryd.sizeOf115
 v46:=Tryd.zeroValue115
 t51:=Tryd.underlying129
 a51:=Tryd.isAgg129
 z51:=Tryd.sizeOf129
 v51:=Tryd.zeroValue129
 t59:=Tryd.underlying79
 a59:=Tryd.isAgg79
 z59:=Tryd.sizeOf79
 v59:=Tryd.zeroValue79
 t146:=Tryd.underlying133
 a146:=Tryd.isAgg133
 z146:=Tryd.sizeOf133
 v146:=Tryd.zeroValue133
 g1:=by kernel_rfl }
open Go.RowKit Go.Lib in
theorem Tryd.strings_Cut (s sep:ByteArray) (m:Int) (w:World) (hs:s.size<4294967281) (hm:w.cell? ⟨0,0,none⟩=some (.int .i64 m)) :
 Calls Tryd.prog 38 #[.string s,.string sep] w fun e w'=>e=.returned (.tuple #[.string ⟨(Lib.cut s.data.toList sep.data.toList).1.toArray⟩,.string ⟨(Lib.cut s.data.toList sep.data.toList).2.1.toArray⟩,.bool (Lib.cut s.data.toList sep.data.toList).2.2])∧∃ n,w'=w.drewN n:=Any.strings_Cut Tryd.lays145 s sep m w hs hm
def Tryd.lays99_ren:Go.Shelf.Ren:=⟨fun | 99=>29 | 206=>44 | n=>n,fun | 9=>9 | 4=>4 | 3=>3 | n=>n,fun | n=>n⟩
theorem Tryd.lays99:Go.Proofs.Lays.n99 Tryd.prog Tryd.lays99_ren:={
 mixed:=by kernel_rfl
 f99:=Tryd.func29.trans (congrArg some (by kernel_rfl))
 f206:=Tryd.func44.trans (congrArg some (by kernel_rfl))
 t3:=Tryd.underlying3
 a3:=Tryd.isAgg3
 z3:=Tryd.sizeOf3
 v3:=Tryd.zeroValue3
 t4:=Tryd.underlying4
 a4:=Tryd.isAgg4
 z4:=Tryd.sizeOf4
 v4:=Tryd.zeroValue4
 t9:=Tryd.underlying9
 a9:=Tryd.isAgg9
 z9:=Tryd.sizeOf9
 v9:=Tryd.zeroValue9 }
open Go.RowKit Go.Lib in
theorem Tryd.strings_HasPrefix (s p:ByteArray) (w:World) :
 Calls Tryd.prog 29 #[.string s,.string p] w fun e w'=>e=.returned (.bool (Lib.hasPrefix s.data.toList p.data.toList))∧w'=w:=Any.strings_HasPrefix Tryd.lays99 s p w
def Tryd.lays155_ren:Go.Shelf.Ren:=⟨fun | 155=>61 | 154=>79 | 138=>91 | 165=>92 | 143=>50 | 166=>82 | 197=>88 | 169=>83 | 195=>99 | 218=>100 | 240=>94 | 241=>101 | 219=>67 | 260=>96 | 276=>102 | 277=>104 | 217=>60 | 225=>84 | 224=>85 | 267=>86 | 266=>78 | 314=>95 | n=>n,fun | 9=>9 | 3=>3 | 4=>4 | 72=>118 | 0=>0 | 76=>122 | 105=>125 | 21=>21 | 5=>5 | 70=>116 | 20=>20 | 37=>73 | 75=>121 | 127=>132 | 164=>137 | 46=>115 | 119=>139 | 139=>142 | 138=>141 | 146=>133 | 51=>129 | 80=>75 | n=>n,fun | 1=>0 | 3=>1 | 4=>2 | n=>n⟩
theorem Tryd.lays155:Go.Proofs.Lays.n155 Tryd.prog Tryd.lays155_ren:={
 mixed:=by kernel_rfl
 f138:=Tryd.func91.trans (congrArg some (by kernel_rfl))
 f143:=Tryd.func50.trans (congrArg some (by kernel_rfl))
 f154:=Tryd.func79.trans (congrArg some (by kernel_rfl))
 f155:=Tryd.func61.trans (congrArg some (by kernel_rfl))
 f165:=Tryd.func92.trans (congrArg some (by kernel_rfl))
 f166:=Tryd.func82.trans (congrArg some (by kernel_rfl))
 f169:=Tryd.func83.trans (congrArg some (by kernel_rfl))
 f195:=Tryd.func99.trans (congrArg some (by kernel_rfl))
 f197:=Tryd.func88.trans (congrArg some (by kernel_rfl))
 f217:=Tryd.func60.trans (congrArg some (by kernel_rfl))
 f218:=Tryd.func100.trans (congrArg some (by kernel_rfl))
 f219:=Tryd.func67.trans (congrArg some (by kernel_rfl))
 f224:=Tryd.func85.trans (congrArg some (by kernel_rfl))
 f225:=Tryd.func84.trans (congrArg some (by kernel_rfl))
 f240:=Tryd.func94.trans (congrArg some (by kernel_rfl))
 f241:=Tryd.func101.trans (congrArg some (by kernel_rfl))
 f260:=Tryd.func96.trans (congrArg some (by kernel_rfl))
 f266:=Tryd.func78.trans (congrArg some (by kernel_rfl))
 f267:=Tryd.func86.trans (congrArg some (by kernel_rfl))
 f276:=Tryd.func102.trans (congrArg some (by kernel_rfl))
 f277:=Tryd.func104.trans (congrArg some (by kernel_rfl))
 f314:=Tryd.func95.trans (congrArg some (by kernel_rfl))
 t0:=Tryd.underlying0
 a0:=Tryd.isAgg0
 z0:=Tryd.sizeOf0
 v0:=Tryd.zeroValue0
 t3:=Tryd.underlying3
 a3:=Tryd.isAgg3
 z3:=Tryd.sizeOf3
 v3:=Tryd.zeroValue3
 t4:=Tryd.underlying4
 a4:=Tryd.isAgg4
 z4:=Tryd.sizeOf4
 v4:=Tryd.zeroValue4
 t5:=Tryd.underlying5
 a5:=Tryd.isAgg5
 z5:=Tryd.sizeOf5
 v5:=Tryd.zeroValue5
 t9:=Tryd.underlying9
 a9:=Tryd.isAgg9
 z9:=Tryd.sizeOf9
 v9:=Tryd.zeroValue9
 t20:=Tryd.underlying20
 a20:=Tryd.isAgg20
 z20:=Tryd.sizeOf20
 v20:=Tryd.zeroValue20
 t21:=Tryd.underlying21
 a21:=Tryd.isAgg21
 z21:=Tryd.sizeOf21
 v21:=Tryd.zeroValue21
 t37:=Tryd.underlying73
 a37:=Tryd.isAgg73
 z37:=Tryd.sizeOf73
 v37:=Tryd.zeroValue73
 t46:=Tryd.underlying115
 a46:=Tryd.isAgg115
 z46:=Tryd.sizeOf115
 v46:=Tryd.zeroValue115
 t51:=Tryd.underlying129
 a51:=Tryd.isAgg129
 z51:=Tryd.sizeOf129
 v51:=Tryd.zeroValue129
 t70:=Tryd.underlying116
 a70:=Tryd.isAgg116
 z70:=Tryd.sizeOf116
 v70:=Tryd.zeroValue116
 t72:=Tryd.underlying118
 a72:=Tryd.isAgg118
 z72:=Tryd.sizeOf118
 v72:=Tryd.zeroValue118
 t75:=Tryd.underlying121
 a75:=Tryd.isAgg121
 z75:=Tryd.sizeOf121
 v75:=Tryd.zeroValue121
 t76:=Tryd.underlying122
 a76:=Tryd.isAgg122
 z76:=Tryd.sizeOf122
 v76:=Tryd.zeroValue122
 t105:=Tryd.underlying125
 a105:=Tryd.isAgg125
 z105:=Tryd.sizeOf125
 v105:=Tryd.zeroValue125
 t119:=Tryd.underlying139
 a119:=Tryd.isAgg139
 z119:=Tryd.sizeOf139
 t127:=Tryd.underlying132
 a127:=Tryd.isAgg132
 z127:=Tryd.sizeOf132
 v127:=Tryd.zeroValue132
 t138:=Tryd.underlying141
 a138:=Tryd.isAgg141
 z138:=Tryd.sizeOf141
 v138:=Tryd.zeroValue141
 t139:=Tryd.underlying142
 a139:=Tryd.isAgg142
 z139:=Tryd.sizeOf142
 v139:=Tryd.zeroValue142
 t146:=Tryd.underlying133
 a146:=Tryd.isAgg133
 z146:=Tryd.sizeOf133
 v146:=Tryd.zeroValue133
 t164:=Tryd.underlying137
 a164:=Tryd.isAgg137
 z164:=Tryd.sizeOf137
 v164:=Tryd.zeroValue137
 g1:=by kernel_rfl
 g3:=by kernel_rfl
 g4:=by kernel_rfl }
theorem Tryd.Builder_Extra_155:Builder.Extra Tryd.prog Tryd.lays155_ren:={
 sizeBuilder:=by kernel_rfl
 liesBuilder:=by kernel_rfl
 t5:=Tryd.underlying5
 a5:=Tryd.isAgg5
 z5:=Tryd.sizeOf5
 v5:=Tryd.zeroValue5
 infoByte:=by kernel_rfl
 cellsByte:=by kernel_rfl
 sizeByte:=by kernel_rfl
 neB5:=by decide }
open Go.RowKit Go.Lib in
theorem Tryd.strings_ReplaceAll (s old new:ByteArray) (m:Int) (w:World) (hs:s.size<4294967281) (hm:w.cell? ⟨0,0,none⟩=some (.int .i64 m)) (h1:1≤old.size) (hlen:s.size+Lib.countB s old * new.size≤140737488355328) :
 Calls Tryd.prog 61 #[.string s,.string old,.string new] w fun e w' =>
  e=.returned (.string ⟨(Lib.replaceAll s.data.toList old.data.toList new.data.toList).toArray⟩)∧Below w.heap.size w w':=Any.strings_ReplaceAll Tryd.lays155 Tryd.Builder_Extra_155 s old new m w hs hm h1 hlen
end Go.Proofs
end
section
namespace Go.Proofs.YtmpiobfdchlikaaDoor
open Go.RowKit Nun
theorem sizeB:(Tryd.prog.info? 118).map (·.size)=some 2:=by kernel_rfl
theorem liesB:liesAt Tryd.prog Tryd.prog.depth 118 (2 / Tryd.prog.cellsOf 118) 0 118 1=true:=by kernel_rfl
theorem infoByte:(Tryd.prog.info? 5).map (fun i=>(i.zero,i.size,i.bytes))=some (some (.int .u8 0),1,1):=by kernel_rfl
set_option maxHeartbeats 1000000 in
set_option maxRecDepth 100000 in
theorem copy_used (b:Nat) (w:World) (h0:w.cell? ⟨b,0,none⟩=some (.pointer (some ⟨b,0,none⟩))) :
 Calls Tryd.prog 94 #[.pointer (some ⟨b,0,none⟩)] w fun e w'=>e=.returned (.tuple #[])∧w'=w:=by
 obtain ⟨j,hj,_⟩:=Option.map_eq_some_iff.1 sizeB
 go_enter Tryd.func94,Tryd.ntmps94
 go_wp2
 rw [Lib.run_neq_ptr_same w _ Tryd.underlying116 hj]
 go_wp2
 go_end0
 exact ⟨rfl,rfl⟩
set_option maxHeartbeats 1000000 in
set_option maxRecDepth 100000 in
theorem copy_fresh (b:Nat) (w:World) (h0:w.cell? ⟨b,0,none⟩=some (.pointer none)) (hsh:w.shape? b=some (118,2)) (hfz:w.frozen? ⟨b,0,none⟩=false) :
 Calls Tryd.prog 94 #[.pointer (some ⟨b,0,none⟩)] w fun e w'=>e=.returned (.tuple #[])∧w'=w.setCell ⟨b,0,none⟩ (.pointer (some ⟨b,0,none⟩)):=by
 obtain ⟨j,hj,hjs⟩:=Option.map_eq_some_iff.1 sizeB
 have hc0:(w.setCell ⟨b,0,none⟩ (.pointer (some ⟨b,0,none⟩))).cell? ⟨b,0,none⟩=some (.pointer (some ⟨b,0,none⟩)):=World.cell?_setCell_same' _ _ _ (by rw [h0];rfl)
 go_enter Tryd.func94,Tryd.ntmps94
 go_wp2
 rw [Lib.run_to_unsafe w ⟨b,0,none⟩ Tryd.underlying116 Tryd.underlying137 hj (by rw [hjs];decide) hsh (Nat.zero_lt_succ 1)]
 simp only [Result.andThen]
 rw [Oper.upon_value]
 go_wp2
 rw [run_callFunc_extern Tryd.func102 (by kernel_rfl) (by kernel_rfl) (by kernel_rfl) (e:=Extern.AbiNoEscape.same) (by kernel_rfl)]
 rw [Lib.run_noEscape]
 simp only [Result.andThen]
 rw [Oper.upon_value]
 go_wp2
 rw [Lib.run_from_unsafe w ⟨b,0,none⟩ Tryd.underlying137 Tryd.underlying116 hj hsh liesB]
 simp only [Result.andThen]
 rw [Oper.upon_value]
 go_wp2
 go_end0
 exact ⟨rfl,rfl⟩
theorem copy_any (B b:Nat) (bs:List Value) (w:World) (h:Lib.IsBuilderF 118 5 B b bs w) :
 Calls Tryd.prog 94 #[.pointer (some ⟨b,0,none⟩)] w fun e w'=>e=.returned (.tuple #[])∧(Lib.BuilderAtF 118 5 B b (.pointer (some ⟨b,0,none⟩)) bs w'∧Below B w w'∧Lib.OthersKept 5 (some b) w w'):=by
 rcases h with h | h
 ·refine (copy_fresh b w h.cell0 h.shape h.frozen0).mono ?_
  rintro e w' ⟨rfl,rfl⟩
  exact ⟨rfl,h.used _,(Below.refl B w).setCell (p:=⟨b,0,none⟩) h.1 _,(Lib.OthersKept.refl _ _ w).setCell ⟨b,0,none⟩ rfl _⟩
 ·refine (copy_used b w h.cell0).mono ?_
  rintro e w' ⟨rfl,rfl⟩
  exact ⟨rfl,h,Below.refl B _,Lib.OthersKept.refl _ _ _⟩
set_option maxHeartbeats 2000000 in
set_option maxRecDepth 100000 in
theorem writeString (B b:Nat) (bs:List Value) (s:ByteArray) (w:World) (h:Lib.IsBuilderF 118 5 B b bs w) (hlen:bs.length+s.size≤140737488355328) (hBw:B≤w.heap.size) :
 Calls Tryd.prog 82 #[.pointer (some ⟨b,0,none⟩),.string s] w fun e w'=>e=.returned (.tuple #[.int .i64 s.size,.nilIface])∧(Lib.IsBuilderF 118 5 B b (bs++Lib.strCells s) w'∧Below B w w'∧Lib.OthersKept 5 (some b) w w'):=by
 obtain ⟨i0,hi,hz0,hz1,hz2⟩:=info_parts infoByte
 go_enter Tryd.func82,Tryd.ntmps82
 go_wp2_with (go_at_call 94;refine (copy_any B b bs _ h).mono ?_)
 rintro e w1 ⟨rfl,h1,hb1,hk1⟩
 obtain ⟨hB,v,hbk,hown,hne⟩:=h1
 have c0:w1.cell? ⟨b,0,none⟩=some (.pointer (some ⟨b,0,none⟩)):=by rw [Lib.cell_of_heap hbk];rfl
 have c1:w1.cell? ⟨b,1,none⟩=some v:=by rw [Lib.cell_of_heap hbk];rfl
 go_wp2_with (at_builtin;refine Lib.wpList_append_own_stringF _ rfl _ _ 73 9 rfl B 5 i0 Tryd.underlying73 Tryd.underlying9 hi hz0 hz1 hz2 _ _ _ rfl hown s rfl ?c3 ?c4 ?c5 ?_)
 case c3=>unfold maxLen;omega
 case c4=>omega
 case c5=>have:=hb1.size;omega
 intro v' w2 hown' hgrow _
 have hlt:b<w1.heap.size:=by
  rcases Nat.lt_or_ge b w1.heap.size with h' | h'
  ·exact h'
  ·simp [Array.getElem?_eq_none h'] at hbk
 have hb2:w2.heap[b]? =some (.cells #[.pointer (some ⟨b,0,none⟩),v] 118 (0,0)):=by
  rw [hgrow.block b hlt (fun e=>hne e.symm)]
  exact hbk
 have d0:w2.cell? ⟨b,0,none⟩=some (.pointer (some ⟨b,0,none⟩)):=by rw [Lib.cell_of_heap hb2];rfl
 have d1:w2.cell? ⟨b,1,none⟩=some v:=by rw [Lib.cell_of_heap hb2];rfl
 have f1:w2.frozen? ⟨b,1,none⟩=false:=Lib.frozen_of_heap hb2 1
 obtain ⟨ao,n',cap,rfl⟩:∃ ao n' cap,v'=.slice ao n' cap:=by
  rcases hown'.2 with ⟨hv,_⟩ | ⟨g,cap,cur,fz,hv,_⟩
  ·exact ⟨_,_,_,hv⟩
  ·exact ⟨_,_,_,hv⟩
 go_wp2
 go_ret2
 refine ⟨rfl,.inr ?_,?_,(hk1.grown hgrow (Lib.ownsRowF_kind hown)).setCell ⟨b,1,none⟩ rfl _⟩
 ·exact Lib.BuilderAtF.put (T:=118) (e:=5) hB hb2 (bs':=bs++Lib.strCells s) (by simpa [Lib.strCells_length] using hown') (by decide)
 ·exact (hb1.grown hgrow (by have:=hb1.size;omega) (fun k hk=>(hown.lt k hk).1)).setCell (p:=⟨b,1,none⟩) hB _
def Bd (B b:Nat) (l:List UInt8) (w:World):Prop:=Lib.IsBuilderF 118 5 B b (Lib.byteCells l) w
theorem Bd.fresh (w:World):Bd w.heap.size w.heap.size [] (w.alloc (.cells #[.pointer none,.slice none 0 0] 118)):=Lib.IsBuilderF.of (Lib.fresh_isBuilder _ _ w)
theorem Bd.drew {B b:Nat} {l:List UInt8} {w:World} (h:Bd B b l w):Bd B b l w.drew:=h
theorem Bd.alloc {B b:Nat} {l:List UInt8} {w:World} (h:Bd B b l w) (o:Obj):Bd B b l (w.alloc o):=by
 rcases h with h | h
 ·exact .inl (h.alloc o)
 ·exact .inr (h.alloc o)
theorem Bd.lt {B b:Nat} {l:List UInt8} {w:World} (h:Bd B b l w):B≤b∧b<w.heap.size:=by
 rcases h with h | h
 ·exact ⟨h.1,h.lt⟩
 ·exact ⟨h.1,h.lt⟩
theorem Bd.kept {B b:Nat} {l:List UInt8} {w w':World} (h:Bd B b l w) (k:Below w.heap.size w w'):Bd B b l w':=by
 have kk:∀ p,Lib.BuilderAtF 118 5 B b p (Lib.byteCells l) w→Lib.BuilderAtF 118 5 B b p (Lib.byteCells l) w':=by
  rintro p h
  have hlt:=h.lt
  obtain ⟨hB,v,hb,hown,hne⟩:=h
  exact ⟨hB,v,(k.block b hlt).trans hb,hown.kept (row:=none) ⟨k.os,k.tape,k.output,k.size,fun i hi _=>k.block i hi⟩ (by cases v.ownBlock<;>simp),hne⟩
 rcases h with h | h
 ·exact .inl (kk _ h)
 ·exact .inr (kk _ h)
theorem bd_string (B b:Nat) (l:List UInt8) (s:ByteArray) (w:World) (h:Bd B b l w) (hlen:l.length+s.size≤140737488355328) :
 Calls Tryd.prog 82 #[.pointer (some ⟨b,0,none⟩),.string s] w fun e w'=>e=.returned (.tuple #[.int .i64 s.size,.nilIface])∧Bd B b (l++s.data.toList) w'∧Below B w w'∧Lib.OthersKept 5 (some b) w w':=by
 have hl:=h.lt
 refine (writeString B b _ s w h (by rw [Lib.byteCells_length];exact hlen) (by omega)).mono ?_
 rintro e w' ⟨rfl,h1,h2⟩
 exact ⟨rfl,by unfold Bd;rw [Lib.byteCells_append,← Lib.strCells_eq];exact h1,h2⟩
theorem bd_text (B b:Nat) (l:List UInt8) (w:World) (h:Bd B b l w) :
 Calls Tryd.prog 83 #[.pointer (some ⟨b,0,none⟩)] w fun e w'=>e=.returned (.string ⟨l.toArray⟩)∧Bd B b l w'∧Below B w w'∧Lib.OthersKept 5 (some b) w w' :=
 Tryd.Builder_String_any_k B b l w h (by have:=h.lt;omega)
end Go.Proofs.YtmpiobfdchlikaaDoor
end
section
set_option synthInstance.maxSize 4000
namespace Nun
def digits64:List UInt8:=[65,66,67,68,69,70,71,72,73,74,75,76,77,78,79,80,81,82,83,84,85,86,87,88,89,90,97,98,99,100,101,102,103,104,105,106,107,108,109,110,111,112,113,114,115,116,117,118,119,120,121,122,48,49,50,51,52,53,54,55,56,57,43,47]
def dig (n:Nat):UInt8:=digits64.getD n 0
def val64 (c:UInt8):Option Nat:=if 65≤c∧c≤90 then some (c.toNat - 65) else if 97≤c∧c≤122 then some (c.toNat - 71) else if 48≤c∧c≤57 then some (c.toNat+4) else if c=43 then some 62 else if c=47 then some 63 else none
end Nun
namespace Go.Proofs.YtmpiobfdchlikaaDoor
open Go.RowKit Nun
set_option maxHeartbeats 400000 in
theorem worth64 (c:UInt8) (w:World):Calls Tryd.prog 93 #[.int .u8 c.toNat] w (Same (.tuple #[.int .u32 ((val64 c).getD 0),.bool (val64 c).isSome]) w):=by
 go_enter Tryd.func93,Tryd.ntmps93
 go_wp2
 all_goals (go_ret2;refine ⟨t2 (vi ?_) (vb ?_),rfl⟩)
 all_goals (go_light;revert c;decide +kernel)
end Go.Proofs.YtmpiobfdchlikaaDoor
end
section
set_option synthInstance.maxSize 4000
namespace Nun
def num (l:List UInt8):Nat→Nat
 | 0=>0
 | i+1=>num l i * 256+((l[i]?).getD 0).toNat
def quad (l:List UInt8):List UInt8:=[dig (num l 3 / 262144 % 64),dig (num l 3 / 4096 % 64),if l.length<2 then 61 else dig (num l 3 / 64 % 64),if l.length<3 then 61 else dig (num l 3 % 64)]
def enc64:List UInt8→List UInt8
 | []=>[]
 | [a]=>quad [a]
 | [a,b]=>quad [a,b]
 | a::b::c::l=>quad [a,b,c]++enc64 l
theorem enc64_step (l:List UInt8) (h:l≠[]):enc64 l=quad l++enc64 (l.drop 3):=by
 match l,h with
 | [a],_=>rfl
 | [a,b],_=>rfl
 | a::b::c::l,_ =>
   show quad [a,b,c]++enc64 l=quad (a::b::c::l)++enc64 l
   have:quad [a,b,c]=quad (a::b::c::l):=by
    have e:∀ i,i≤3→num [a,b,c] i=num (a::b::c::l) i:=fun i hi=>by
     match i,hi with
     | 0,_=>rfl
     | 1,_=>rfl
     | 2,_=>rfl
     | 3,_=>rfl
    unfold quad
    rw [e 3 (Nat.le_refl _),if_neg (by simp),if_neg (by simp),if_neg (by simp),if_neg (by simp)]
   rw [this]
end Nun
namespace Go.Proofs.YtmpiobfdchlikaaDoor
open Go.RowKit Nun
theorem take_snoc (s:List UInt8) (k:Nat) (h:k<s.length):s.take (k+1)=s.take k++[s[k]]:=by
 rw [List.take_succ_eq_append_getElem h]
end Go.Proofs.YtmpiobfdchlikaaDoor
end
section
set_option synthInstance.maxSize 4000
namespace Nun
def fourK (l:List UInt8) (last:Bool):Nat:=if last=true∧l[3]? =some 61 then (if l[2]? =some 61 then 2 else 3) else 4
def fourN (l:List UInt8) (k:Nat):Nat→Option Nat
 | 0=>some 0
 | i+1=>match fourN l k i with
   | none=>none
   | some n=>if k≤i then some (n * 64) else match val64 (l[i]?.getD 0) with
     | none=>none
     | some x=>some (n * 64+x)
def fourV (l:List UInt8) (last:Bool):List UInt8 × Bool:=match fourN l (fourK l last) 4 with
 | none=>([],false)
 | some n=>([UInt8.ofNat (n / 65536),UInt8.ofNat (n / 256),UInt8.ofNat n].take (fourK l last - 1),n % 256 ^ (4 - fourK l last) == 0)
theorem val64_lt (c:UInt8):∀ x,val64 c=some x→x<64:=by
 have:∀ c:UInt8,(val64 c).getD 0<64:=by decide +kernel
 intro x h;have:=this c;rw [h] at this;exact this
theorem fourN_lt (l:List UInt8) (k i:Nat):∀ n,fourN l k i=some n→n<64 ^ i:=by
 induction i with
 | zero=>intro n h;simp [fourN] at h;subst h;simp
 | succ i ih =>
   intro n h
   rw [fourN] at h
   split at h
   ·cases h
   ·rename_i m hm
    have:=ih m hm
    rw [Nat.pow_succ]
    split at h
    ·simp at h;omega
    ·split at h
     ·cases h
     ·rename_i x hx
      have:=val64_lt _ _ hx
      simp at h;omega
theorem fourN_lt3 (l:List UInt8) (k i n:Nat) (hi:i<4) (h:fourN l k i=some n):n<262144:=Nat.lt_of_lt_of_le (fourN_lt l k i n h) (Nat.pow_le_pow_right (n:=64) (by decide) (Nat.le_of_lt_succ hi))
theorem fourN_lt4 (l:List UInt8) (k n:Nat) (h:fourN l k 4=some n):n<16777216:=fourN_lt l k 4 n h
theorem fourN_none {l:List UInt8} {k i:Nat} (h:fourN l k i=none) (j:Nat) (hj:i≤j):fourN l k j=none:=by
 induction j with
 | zero=>obtain rfl:i=0:=by omega
         exact h
 | succ j ih =>
   by_cases e:i=j+1
   ·exact e ▸ h
   ·rw [fourN,ih (by omega)]
theorem four_or (n x:Nat) (h:n<262144) (hx:x<64):Go.bits .or .u32 ((n:Int) * 64) x=((n * 64+x:Nat):Int):=by
 have e:(n:Int) * 64=((n * 64:Nat):Int):=by omega
 rw [e,Go.u32_or_nat _ _ (by omega) (by omega),Go.nat_join 6 _ _ (by omega) (by omega)]
theorem fourK_cases (l:List UInt8) (last:Bool):fourK l last=2∨fourK l last=3∨fourK l last=4:=by unfold fourK;split<;>(try split)<;>simp
end Nun
namespace Go.Proofs.YtmpiobfdchlikaaDoor
open Go.RowKit Nun
theorem u8_nat (n:Nat):(UInt8.ofNat n).toNat=n % 256:=by simp
theorem conv_three {P:Program} {src dst e:TypeId} (hs:P.underlying src=some (.slice e)) (he:P.underlying e=some (.int .u8)) (hd:P.underlying dst=some .string) (w:World) (x y z:UInt8) :
 (convert src dst (.slice (some ⟨w.heap.size,0,none⟩) 3 3)).run P (w.alloc (.cells #[.int .u8 x.toNat,.int .u8 y.toNat,.int .u8 z.toNat] e))=.ok (.string ⟨#[x,y,z]⟩) (w.alloc (.cells #[.int .u8 x.toNat,.int .u8 y.toNat,.int .u8 z.toNat] e)) :=
 run_convert_bytes_back _ src dst e ⟨w.heap.size,0,none⟩ 3 [x,y,z] hs he hd (by
  intro j hj
  match j,hj with
  | 0,hj=>simp [Addr.add]
  | 1,hj=>simp [Addr.add]
  | 2,hj=>simp [Addr.add])
theorem worth_of64 (c:UInt8) (o:Option Nat) (h:val64 c=o) (w:World):Calls Tryd.prog 93 #[.int .u8 c.toNat] w (Same (.tuple #[.int .u32 (o.getD 0),.bool o.isSome]) w):=h ▸ worth64 c w
set_option maxHeartbeats 1000000 in
theorem four_any (s:ByteArray) (last:Bool) (w:World) (hs:s.size=4):Calls Tryd.prog 81 #[.string s,.bool last] w (Ret (.tuple #[.string ⟨(fourV s.data.toList last).1.toArray⟩,.bool (fourV s.data.toList last).2]) w):=by
 have hlen:s.data.toList.length=s.size:=rfl
 have HL:=Lib.hid hlen;clear hlen
 have i2:s.data.toList[2]? =some (s[2]'(by omega)):=List.getElem?_eq_getElem (l:=s.data.toList) (by show 2<s.size;omega)
 have i3:s.data.toList[3]? =some (s[3]'(by omega)):=List.getElem?_eq_getElem (l:=s.data.toList) (by show 3<s.size;omega)
 obtain ⟨K,hK,hKK,hcase⟩:∃ K,fourK s.data.toList last=K∧2≤K∧(last=false∧K=4∨last=true∧K=4∧(((s[3]'(by omega)).toNat:Int) == 61)=false∨last=true∧K=3∧(((s[3]'(by omega)).toNat:Int) == 61)=true∧(((s[2]'(by omega)).toNat:Int) == 61)=false∨last=true∧K=2∧(((s[3]'(by omega)).toNat:Int) == 61)=true∧(((s[2]'(by omega)).toNat:Int) == 61)=true):=by
  refine ⟨_,rfl,by rcases fourK_cases s.data.toList last with h | h | h<;>omega,?_⟩
  unfold fourK
  rw [i2,i3]
  cases last
  ·exact .inl ⟨rfl,rfl⟩
  ·by_cases h3:s[3]'(by omega)=61
   ·by_cases h2:s[2]'(by omega)=61
    ·exact .inr (.inr (.inr ⟨rfl,by rw [h3,h2];rfl,by rw [h3];rfl,by rw [h2];rfl⟩))
    ·exact .inr (.inr (.inl ⟨rfl,by rw [h3];simp [h2],by rw [h3];rfl,by simp [← UInt8.toNat_inj] at h2 ⊢;omega⟩))
   ·exact .inr (.inl ⟨rfl,by simp [h3],by simp [← UInt8.toNat_inj] at h3 ⊢;omega⟩)
 clear i2 i3
 have hV:fourV s.data.toList last=match fourN s.data.toList K 4 with
  | none=>([],false)
  | some n=>([UInt8.ofNat (n / 65536),UInt8.ofNat (n / 256),UInt8.ofNat n].take (K - 1),n % 256 ^ (4 - K) == 0):=by unfold fourV;rw [hK]
 generalize fourV s.data.toList last=V at hV ⊢
 have HV:=Lib.hid hV;clear hV hK
 rcases hcase with ⟨rfl,hKv⟩ | ⟨rfl,hKv,f3⟩ | ⟨rfl,hKv,f3,f2⟩ | ⟨rfl,hKv,f3,f2⟩
 all_goals
  go_enter Tryd.func81,Tryd.ntmps81
  go_wp2
  go_loopw [6] (fun k wr=>∃ j:Nat,k=.int .i64 j∧K≤j∧j≤4∧wr=w) (fun k _=>(intOf k).toNat)
  case atStart=>exact ⟨4,rfl,by omega,by omega,rfl⟩
  case round =>
   obtain ⟨j,rfl,hj1,hj2,rfl⟩:=hrel
   by_cases hjK:j=K
   ·have HK:=Lib.hid hKv
    rw [hKv] at hjK;subst hjK;clear hKv
    go_wp2
    try rw [show ((4:Nat):Int)=4 from rfl]
    try rw [show ((3:Nat):Int)=3 from rfl]
    try rw [show ((2:Nat):Int)=2 from rfl]
    go_loopw [7,26] (fun n iv wr1=>∃ (i m:Nat),i≤4∧iv=.int .i64 i∧n=.int .u32 m∧wr1=wr∧Hid (fourN s.data.toList K i=some m)) (fun _ iv _=>4 - (intOf iv).toNat)
    case atStart=>exact ⟨0,0,by omega,rfl,rfl,rfl,Lib.hid rfl⟩
    case round =>
     obtain ⟨i,m,hi,rfl,rfl,rfl,hm⟩:=hrel
     by_cases hi4:i<4
     ·have hml:=fourN_lt3 _ _ _ _ hi4 hm.out
      by_cases hik:K≤i
      ·have hnx:fourN s.data.toList K (i+1)=some (m * 64):=by rw [fourN,hm.out];simp only [if_pos hik]
       have HN:=Lib.hid hnx;clear hnx
       have hik':=hik
       rw [HK.out] at hik'
       clear hm
       first
        | (exfalso;omega)
        | (go_wp2
           go_roundw
           case rel=>exact ⟨i+1,m * 64,by omega,by go_num,by go_num,trivial,HN⟩
           case measure=>simp [intOf];omega)
      ·have hik':=Nat.lt_of_not_le hik
       rw [HK.out] at hik'
       have hi':s.data.toList[i]?.getD 0=s[i]'(by omega):=by
        rw [List.getElem?_eq_getElem (l:=s.data.toList) (by show i<s.size;omega)];rfl
       rcases hv:val64 (s[i]'(by omega)) with _ | x
       ·have hnx:fourN s.data.toList K (i+1)=none:=by rw [fourN,hm.out];simp only [if_neg hik,hi',hv]
        have hVn:V=([],false):=by rw [HV.out,fourN_none hnx 4 (by omega)]
        have HN:=Lib.hid hVn;have Hv:=Lib.hid hv;clear hnx hVn hv hi' hm
        go_wp2_with (go_at_call 93;refine (worth_of64 _ _ Hv.out _).mono ?_;rintro e w' ⟨rfl,rfl⟩)
        go_ret2
        rw [HN.out]
        exact ⟨rfl,Below.refl _ _⟩
       ·have hnx:fourN s.data.toList K (i+1)=some (m * 64+x):=by rw [fourN,hm.out];simp only [if_neg hik,hi',hv]
        have hx:=val64_lt _ _ hv
        have hor:=four_or m x hml hx
        have HN:=Lib.hid hnx;have Hv:=Lib.hid hv;clear hnx hv hi' hm
        go_wp2_with (go_at_call 93;refine (worth_of64 _ _ Hv.out _).mono ?_;rintro e w' ⟨rfl,rfl⟩)
        go_roundw
        case rel=>exact ⟨i+1,m * 64+x,by omega,by go_num,by go_num,trivial,HN⟩
        case measure=>simp [intOf];omega
     ·obtain rfl:i=4:=by omega
      have hml:=fourN_lt4 _ _ _ hm.out
      rw [hm.out] at HV
      simp only [] at HV
      have n1:=u8_nat (m / 65536)
      have n2:=u8_nat (m / 256)
      have n3:=u8_nat m
      have kc:=conv_three (P:=Tryd.prog) Tryd.underlying73 Tryd.underlying5 Tryd.underlying9 wr (UInt8.ofNat (m / 65536)) (UInt8.ofNat (m / 256)) (UInt8.ofNat m)
      rw [n1,n2,n3,show (((m / 65536 % 256:Nat)):Int)=(m:Int) / 65536 by omega,show (((m / 256 % 256:Nat)):Int)=(m:Int) / 256 % 256 by omega,show (((m % 256:Nat)):Int)=(m:Int) % 256 by omega] at kc
      clear n1 n2 n3
      have m0:bits .and .u32 (m:Int) 0=0:=by rw [show (0:Int)=((0:Nat):Int) from rfl,u32_and_nat m 0 (by omega) (by decide),Nat.and_zero]
      have m1:bits .and .u32 (m:Int) 255=((m % 256:Nat):Int):=by rw [show (255:Int)=((255:Nat):Int) from rfl,u32_and_nat m 255 (by omega) (by decide),Nat.and_two_pow_sub_one_eq_mod m 8]
      have m2:bits .and .u32 (m:Int) 65535=((m % 65536:Nat):Int):=by rw [show (65535:Int)=((65535:Nat):Int) from rfl,u32_and_nat m 65535 (by omega) (by decide),Nat.and_two_pow_sub_one_eq_mod m 16]
      have hsz:(ByteArray.mk #[UInt8.ofNat (m / 65536),UInt8.ofNat (m / 256),UInt8.ofNat m]).size=3:=rfl
      go_wp2
      (refine wp_region_quiet_below (by kernel_rfl) (by kernel_rfl) ?_;(repeat (first | go_big_quiet_skip | (go_big_quiet_want;go_big_quiet_op;first | go_big_quiet_on | (apply Exists.intro;refine ⟨fun _=>?_,?_⟩;(· (fail));go_big_quiet_on))));refine wpQuiet_nil ?_;intro _ hw';obtain ⟨⟨dq,osq⟩,hw''⟩:=hw';subst hw'')
      go_wp2
      go_ret2
      rw [HV.out,HK.out]
      refine ⟨t2 (vS rfl) (vb ?_),((Below.refl _ _).alloc (Nat.le_refl _) _).trans ((below_regrown _ _ _).mono (by simp))⟩
      first | rfl | (rw [Bool.eq_iff_iff];simp;omega)
   ·obtain rfl | rfl:j=3∨j=4:=by omega
    all_goals first
     | (exfalso;omega)
     | (subst hKv
        go_wp2
        go_roundw
        case rel=>first | exact ⟨2,by go_num,by omega,by omega,trivial⟩ | exact ⟨3,by go_num,by omega,by omega,trivial⟩
        case measure=>simp [intOf])
end Go.Proofs.YtmpiobfdchlikaaDoor
end
section
set_option synthInstance.maxSize 4000
namespace Nun
def wrapL (m:Nat) (l:List UInt8):List UInt8:=if h:m+1<l.length then l.take (m+1)++[13,10]++wrapL m (l.drop (m+1)) else l
termination_by l.length
decreasing_by simp;omega
def wrapI (n:Int) (l:List UInt8):List UInt8:=if n<1 then l else wrapL (n - 1).toNat l
theorem wrapL_more {m:Nat} {l:List UInt8} (h:m+1<l.length):wrapL m l=l.take (m+1)++[13,10]++wrapL m (l.drop (m+1)):=by rw [wrapL,dif_pos h]
theorem wrapL_end {m:Nat} {l:List UInt8} (h:¬ m+1<l.length):wrapL m l=l:=by rw [wrapL,dif_neg h]
theorem len_data (b:ByteArray):b.data.toList.length=b.size:=rfl
end Nun
namespace Go.Proofs.YtmpiobfdchlikaaDoor
open Go.RowKit Nun
set_option maxHeartbeats 1000000 in
theorem wrap_ref (s:ByteArray) (n:Int) (w:World) (hs:s.size≤1000000):Calls Tryd.prog 9 #[.string s,.int .i64 n] w (Ret (.string ⟨(wrapI n s.data.toList).toArray⟩) w):=by
 have hlen:s.data.toList.length=s.size:=rfl
 have HL:=Lib.hid hlen;clear hlen
 by_cases hn:n<1
 ·go_enter Tryd.func9,Tryd.ntmps9
  go_wp2
  go_ret
  exact ⟨r1 (vS (by unfold wrapI;rw [if_pos hn])),Below.refl _ _⟩
 ·obtain ⟨m,rfl⟩:∃ m:Nat,n=(m:Int)+1:=⟨(n - 1).toNat,by omega⟩
  have hw:wrapI ((m:Int)+1) s.data.toList=wrapL m s.data.toList:=by unfold wrapI;rw [if_neg hn];congr 1;omega
  rw [hw];clear hw
  go_enter Tryd.func9,Tryd.ntmps9
  go_wp2
  go_loopw [0,5] (fun b o wr=>∃ (k:Nat) (t:ByteArray) (acc:List UInt8),k≤s.size∧b=.string t∧t.size+k=s.size∧o=.string ⟨acc.toArray⟩∧acc.length≤3 * k∧Below w.heap.size w wr∧Hid (t.data.toList=s.data.toList.drop k)∧Hid (wrapL m s.data.toList=acc++wrapL m (s.data.toList.drop k)))
   (fun b _ _=>match b with | .string t=>t.size | _=>0)
  case atStart=>exact ⟨0,s,[],Nat.zero_le _,rfl,rfl,rfl,by simp,Below.refl _ _,Lib.hid rfl,Lib.hid rfl⟩
  case round =>
   obtain ⟨k,t,acc,hk,rfl,ht,rfl,hak,hbel,htd,henc⟩:=hrel
   by_cases hlt:m+1<t.size
   ·have hst:=wrapL_more (m:=m) (l:=s.data.toList.drop k) (by rw [List.length_drop,HL.out];omega)
    rw [List.drop_drop,← htd.out] at hst
    have HS:=Lib.hid hst;clear hst
    have hx:(t.extract 0 (m+1)).size=m+1:=by rw [ByteArray.size_extract];omega
    go_wp2
    go_roundw
    case rel =>
     have hd:(t.extract (m+1) t.size).data.toList=s.data.toList.drop (k+(m+1)):=by
      rw [Lib.extract_data,List.take_of_length_le (by rw [List.length_drop];exact Nat.le_refl _),htd.out,List.drop_drop]
     refine ⟨k+(m+1),_,acc++(t.extract 0 (m+1)).data.toList++[13,10],by omega,rfl,?_,vS (by simp [ByteArray.toList_data_append]),by simp only [List.length_append,len_data,hx,List.length_cons,List.length_nil];omega,hbel,Lib.hid hd,Lib.hid ?_⟩
     ·rw [ByteArray.size_extract];omega
     ·rw [henc.out,← htd.out,HS.out];simp [Lib.extract_data]
    case measure=>simp;omega
   ·have hend:=wrapL_end (m:=m) (l:=s.data.toList.drop k) (by rw [List.length_drop,HL.out];omega)
    have hfin:wrapL m s.data.toList=acc++t.data.toList:=by rw [henc.out,hend,htd.out]
    have HE:=Lib.hid hfin;clear hfin hend
    go_wp2
    go_ret
    rw [HE.out]
    exact ⟨r1 (vS (by simp [ByteArray.toList_data_append])),hbel⟩
end Go.Proofs.YtmpiobfdchlikaaDoor
end
section
set_option synthInstance.maxSize 4000
namespace Nun
def dec64:List UInt8→Option (List UInt8)
 | []=>some []
 | [_]=>none
 | [_,_]=>none
 | [_,_,_]=>none
 | a::b::c::d::l=>if (fourV [a,b,c,d] l.isEmpty).2 then (dec64 l).map ((fourV [a,b,c,d] l.isEmpty).1++·) else none
def dec64V (o:Option (List UInt8)):Go.Value:=match o with | some l=>.tuple #[.string ⟨l.toArray⟩,.int .i64 0] | none=>.tuple #[.string ⟨#[]⟩,.int .i64 7]
@[simp] theorem dec64V_none:dec64V none=.tuple #[.string ⟨#[]⟩,.int .i64 7]:=rfl
@[simp] theorem dec64V_some (l:List UInt8):dec64V (some l)=.tuple #[.string ⟨l.toArray⟩,.int .i64 0]:=rfl
theorem dec64_more (l:List UInt8) (h:4≤l.length):dec64 l=if (fourV (l.take 4) (l.drop 4).isEmpty).2 then (dec64 (l.drop 4)).map ((fourV (l.take 4) (l.drop 4).isEmpty).1++·) else none:=by
 match l,h with
 | a::b::c::d::l,_=>rfl
theorem dec64_odd (n:Nat):∀ l:List UInt8,l.length≤n→l.length % 4≠0→dec64 l=none:=by
 induction n with
 | zero=>intro l h1 h2;omega
 | succ n ih =>
   intro l h1 h2
   match l,h1,h2 with
   | [],_,h2=>exact absurd rfl h2
   | [_],_,_=>rfl
   | [_,_],_,_=>rfl
   | [_,_,_],_,_=>rfl
   | a::b::c::d::l,h1,h2 =>
     rw [dec64];split
     ·rw [ih l (by simp at h1;omega) (by simp at h2;omega)];rfl
     ·rfl
theorem fourV_len (l:List UInt8) (b:Bool):(fourV l b).1.length≤3:=by
 unfold fourV;split<;>simp;omega
end Nun
namespace Go.Proofs.YtmpiobfdchlikaaDoor
open Go.RowKit Nun
theorem four_of (s:ByteArray) (last:Bool) (x:List UInt8) (ok:Bool) (h:fourV s.data.toList last=(x,ok)) (w:World) (hs:s.size=4):Calls Tryd.prog 81 #[.string s,.bool last] w (Ret (.tuple #[.string ⟨x.toArray⟩,.bool ok]) w):=by
 have:=four_any s last w hs;rw [h] at this;exact this
set_option maxHeartbeats 1000000 in
theorem decode64 (s:ByteArray) (w:World) (hs:s.size≤1000000):Calls Tryd.prog 65 #[.string s] w (Ret (dec64V (dec64 s.data.toList)) w):=by
 have hlen:s.data.toList.length=s.size:=rfl
 have HL:=Lib.hid hlen;clear hlen
 by_cases h4:s.size % 4=0
 ·have h4':(s.size:Int) % 4=0:=by omega
  go_enter Tryd.func65,Tryd.ntmps65
  go_wp2
  try rw [h4']
  clear h4'
  go_loopw [5,6,7] (fun i _ _ wr=>∃ (k:Nat) (acc:List UInt8),i=.int .i64 (4 * k:Nat)∧4 * k≤s.size∧Bd w.heap.size w.heap.size acc wr∧acc.length≤3 * k∧Below w.heap.size w wr∧Hid (dec64 s.data.toList=(dec64 (s.data.toList.drop (4 * k))).map (acc++·)))
   (fun i _ _ _=>s.size - (intOf i).toNat)
  case atStart=>exact ⟨0,[],rfl,by omega,Bd.fresh w,by simp,(Below.refl _ _).alloc (Nat.le_refl _) _,Lib.hid (by simp)⟩
  case round =>
   obtain ⟨k,acc,rfl,hk,hbd,hak,hbel,hrd⟩:=hrel
   by_cases hlt:4 * k<s.size
   ·have hxs:(s.extract (4 * k) (4 * k+4)).size=4:=by rw [ByteArray.size_extract];omega
    have hxl:(s.extract (4 * k) (4 * k+4)).data.toList=(s.data.toList.drop (4 * k)).take 4:=by
     rw [Lib.extract_data,Nat.add_sub_cancel_left]
    have hlast:((s.data.toList.drop (4 * k)).drop 4).isEmpty=decide ((4 * k+4:Int)=s.size):=by
     rw [Bool.eq_iff_iff];simp only [List.isEmpty_iff,decide_eq_true_iff,List.drop_drop,List.drop_eq_nil_iff,HL.out];omega
    have hst:=dec64_more (s.data.toList.drop (4 * k)) (by rw [List.length_drop,HL.out];omega)
    rw [← hxl,List.drop_drop] at hst
    rw [List.drop_drop] at hlast
    have hlen3:=fourV_len (s.extract (4 * k) (4 * k+4)).data.toList ((s.data.toList.drop (4 * k+4)).isEmpty)
    generalize hla:(s.data.toList.drop (4 * k+4)).isEmpty=la at hst hlast hlen3
    rcases hV:fourV (s.extract (4 * k) (4 * k+4)).data.toList la with ⟨x,ok⟩
    rw [hV] at hst hlen3
    simp only [] at hst hlen3
    have HV:=Lib.hid hV;clear hV hla hxl
    have hbl:(4 * (k:Int)+4 == (s.size:Int))=la:=by rw [hlast,Bool.eq_iff_iff];simp
    clear hlast
    have hx2:(ByteArray.mk x.toArray).size=x.length:=rfl
    cases ok
    ·have hfin:dec64 s.data.toList=none:=by rw [hrd.out,hst];rfl
     have HF:=Lib.hid hfin;clear hfin hst
     go_wp2_with (go_at_call 81;refine (four_of _ _ _ _ HV.out _ hxs).mono ?_;rintro e w1 ⟨rfl,hb1⟩)
     go_ret2
     rw [HF.out]
     exact ⟨rfl,hbel.trans (hb1.mono hbel.size)⟩
    ·have HS:=Lib.hid hst;clear hst
     go_wp2_with (first | (go_at_call 81;refine (four_of _ _ _ _ HV.out _ hxs).mono ?_;rintro e w1 ⟨rfl,hb1⟩;have hbd:=Bd.kept hbd hb1;have hbel:=hbel.trans (hb1.mono hbel.size)) | (go_at_call 82;refine (bd_string _ _ _ _ _ hbd (by rw [hx2];omega)).mono ?_;rintro e w2 ⟨rfl,hbd,hb2,_⟩;have hbel:=hbel.trans hb2))
     go_roundw
     case rel =>
      refine ⟨k+1,acc++x,by go_num,by omega,hbd,by simp;omega,hbel,Lib.hid ?_⟩
      rw [hrd.out,HS.out,if_pos trivial,Option.map_map,show 4 * (k+1)=4 * k+4 from rfl]
      congr 1;funext y;simp
     case measure=>simp [intOf];omega
   ·have hks:4 * k=s.size:=by omega
    have hfin:dec64 s.data.toList=some acc:=by
     rw [hrd.out,List.drop_of_length_le (by rw [HL.out];omega)];simp [dec64]
    have HE:=Lib.hid hfin;clear hfin
    go_wp2_with (go_at_call 83;refine (bd_text _ _ _ _ hbd).mono ?_;rintro e w2 ⟨rfl,hbd2,hb2,_⟩)
    go_ret2
    rw [HE.out]
    exact ⟨rfl,hbel.trans hb2⟩
 ·have hod:=dec64_odd s.size s.data.toList (Nat.le_refl _) h4
  rw [hod];clear hod
  have h4':¬ (s.size:Int) % 4=0:=by omega
  go_enter Tryd.func65,Tryd.ntmps65
  go_wp2
  go_ret2
  exact ⟨rfl,Below.refl _ _⟩
end Go.Proofs.YtmpiobfdchlikaaDoor
end
section
set_option synthInstance.maxSize 4000
namespace Nun
def soft (c:UInt8):Bool:=c == 9 || c == 10 || c == 13 || c == 32
def bare (l:List UInt8):List UInt8:=l.filter fun c=>!soft c
theorem bare_snoc (l:List UInt8) (c:UInt8):bare (l++[c])=bare l++if soft c then [] else [c]:=by
 unfold bare;rw [List.filter_append];cases h:soft c<;>simp [h]
end Nun
namespace Go.Proofs.YtmpiobfdchlikaaDoor
open Go.RowKit Nun
theorem dec_of (t:ByteArray) (l:List UInt8) (V:Option (List UInt8)) (ht:t.data.toList=l) (hV:dec64 l=V) (w:World) (hs:t.size≤1000000):Calls Tryd.prog 65 #[.string t] w (Ret (dec64V V) w):=by
 subst ht;subst hV;exact decode64 t w hs
theorem softs (c:UInt8):(soft c=true∧(((c.toNat:Int) == 9)=true∧((c.toNat:Int) != 9)=false∨((c.toNat:Int) == 9)=false∧((c.toNat:Int) != 9)=true∧(((c.toNat:Int) == 10)=true∧((c.toNat:Int) != 10)=false∨((c.toNat:Int) == 10)=false∧((c.toNat:Int) != 10)=true∧(((c.toNat:Int) == 13)=true∧((c.toNat:Int) != 13)=false∨((c.toNat:Int) == 13)=false∧((c.toNat:Int) != 13)=true∧((c.toNat:Int) == 32)=true∧((c.toNat:Int) != 32)=false))))∨(soft c=false∧((c.toNat:Int) == 9)=false∧((c.toNat:Int) != 9)=true∧((c.toNat:Int) == 10)=false∧((c.toNat:Int) != 10)=true∧((c.toNat:Int) == 13)=false∧((c.toNat:Int) != 13)=true∧((c.toNat:Int) == 32)=false∧((c.toNat:Int) != 32)=true):=by
 revert c;decide +kernel
set_option maxHeartbeats 2000000 in
theorem unmail64 (s:ByteArray) (w:World) (hs:s.size≤1000000):Calls Tryd.prog 47 #[.string s] w (Ret (dec64V (dec64 (bare s.data.toList))) w):=by
 have hlen:s.data.toList.length=s.size:=rfl
 have HL:=Lib.hid hlen;clear hlen
 generalize hV:dec64 (bare s.data.toList)=V
 have HV:=Lib.hid hV;clear hV
 obtain ⟨i0,hi,hz0,hz1,hz2⟩:=info_parts infoByte
 obtain ⟨wm,hr,hown,hg⟩:=run_make_own w w.heap.size 73 5 i0 (.int .u8 0) 1 Tryd.underlying73 hi hz0 hz1 .i64 .i64 s.size (by rw [hz2];omega) (by unfold maxLen;omega) (Nat.le_refl _)
 have hbm:Below w.heap.size w wm:=(Below.refl _ w).grown hg (Nat.le_refl _) (fun k hk=>by cases hk)
 have hown:OwnB w.heap.size 5 (.slice (some ⟨w.heap.size,0,none⟩) 0 s.size) [] wm:=hown
 clear hi hz0 hz1 hz2 hg
 go_enter Tryd.func47,Tryd.ntmps47
 go_wp2
 clear hr
 go_loopw [4,5,11] (fun v _ i wr=>∃ (k:Nat) (acc:List UInt8),k≤s.size∧i=.int .i64 k∧acc.length≤k∧OwnB w.heap.size 5 v acc wr∧Below w.heap.size w wr∧Hid (acc=bare (s.data.toList.take k)))
  (fun _ _ i _=>s.size - (intOf i).toNat)
 case atStart=>exact ⟨0,[],Nat.zero_le _,rfl,by simp,hown,hbm,Lib.hid rfl⟩
 case round =>
  clear hown hbm
  obtain ⟨k,acc,hk,rfl,hak,hown,hbel,hacc⟩:=hrel
  by_cases hlt:k<s.size
  ·have hst:bare (s.data.toList.take (k+1))=acc++if soft s[k] then [] else [s[k]]:=by
    rw [take_snoc _ _ (by rw [HL.out];exact hlt),bare_snoc,hacc.out];rfl
   rcases softs s[k] with ⟨h0,h1⟩ | ⟨h0,q1,p1,q2,p2,q3,p3,q4,p4⟩
   ·rw [h0,if_pos rfl,List.append_nil] at hst
    have hst':=Lib.hid hst;clear hst h0
    rcases h1 with ⟨q1,p1⟩ | ⟨q1,p1,⟨q2,p2⟩ | ⟨q2,p2,⟨q3,p3⟩ | ⟨q3,p3,q4,p4⟩⟩⟩
    all_goals
     go_wp2
     go_roundw
     case rel=>exact ⟨k+1,acc,by omega,by go_num,by omega,hown,hbel,Lib.hid hst'.out.symm⟩
     case measure=>simp [intOf];omega
   ·rw [h0,if_neg (by simp)] at hst
    have hst':=Lib.hid hst;clear hst h0
    go_wp2_with (at_builtin;refine pushb (by rfl) _ _ _ (by rfl) 5 Tryd.underlying73 infoByte w.heap.size wr _ _ (by rfl) hown (s[k]) (by rfl) (by omega) hbel.size ?_;intro g cap w1 hg hown1 hgr hb1 hsz1)
    go_roundw
    case rel=>exact ⟨k+1,acc++[s[k]],by omega,by go_num,by simp;omega,hown1,hbel.trans hb1,Lib.hid hst'.out.symm⟩
    case measure=>simp [intOf];omega
  ·obtain rfl:k=s.size:=by omega
   have hfin:acc=bare s.data.toList:=by rw [hacc.out,List.take_of_length_le (by rw [HL.out];exact Nat.le_refl _)]
   have HF:=Lib.hid hfin;clear hfin
   have kc:=conv_own (P:=Tryd.prog) Tryd.underlying73 Tryd.underlying5 Tryd.underlying9 hown
   have hsz:(ByteArray.mk acc.toArray).size≤1000000:=by show acc.length≤_;omega
   rcases V with _ | l
   all_goals
    go_wp2_with (go_at_call 65;refine (dec_of _ _ _ HF.out HV.out _ hsz).mono ?_;rintro e w1 ⟨rfl,hb1⟩;simp only [dec64V_none,dec64V_some])
    go_ret2
    exact ⟨rfl,hbel.trans (hb1.mono hbel.size)⟩
end Go.Proofs.YtmpiobfdchlikaaDoor
end
section
set_option synthInstance.maxSize 4000
set_option synthInstance.maxHeartbeats 400000
namespace Nun
def free (c:UInt8):Bool:=(97≤c && c≤122) || (65≤c && c≤90) || (48≤c && c≤57) || c == 45 || c == 46 || c == 95 || c == 126
def worth (c:UInt8):Option UInt8:=if 48≤c∧c≤57 then some (c - 48) else if 97≤c∧c≤102 then some (c - 87) else if 65≤c∧c≤70 then some (c - 55) else none
def hexd (c:UInt8):UInt8:=if c<10 then 48+c else 55+c
def pair (c:UInt8):List UInt8:=[hexd (c / 16),hexd (c % 16)]
def hex2 (a b:UInt8):Option UInt8:=match worth a,worth b with | some x,some y=>some (16 * x+y) | _,_=>none
def hexAt (s:List UInt8) (at_:Int):Option UInt8 :=
 if at_<0 then none else match s[at_.toNat]?,s[at_.toNat+1]? with | some a,some b=>hex2 a b | _,_=>none
theorem hexAt_out (s:ByteArray) (n:Int) (h:n<0∨(s.size:Int) - 2<n):hexAt s.data.toList n=none:=by
 unfold hexAt
 split
 ·rfl
 ·rename_i h0
  have:s.data.toList[n.toNat+1]? =none:=by
   rw [List.getElem?_eq_none];simp;show s.size≤_;omega
  rw [this];split<;>simp_all
theorem hexAt_in (s:ByteArray) (n:Int) (h0:0≤n) (h:n+2≤s.size):hexAt s.data.toList n=hex2 (s[n.toNat]'(by omega)) (s[(n+1).toNat]'(by omega)):=by
 have e:(n+1).toNat=n.toNat+1:=by omega
 have a:s.data.toList[n.toNat]? =some (s[n.toNat]'(by omega)):=by
  rw [List.getElem?_eq_getElem (by simp;show _<s.size;omega)];rfl
 have b:s.data.toList[n.toNat+1]? =some (s[(n+1).toNat]'(by omega)):=by
  rw [List.getElem?_eq_getElem (by simp;show _<s.size;omega)];simp only [e];rfl
 unfold hexAt
 rw [if_neg (by omega),a,b]
theorem worth_lt {c x:UInt8} (h:worth c=some x):x<16:=by
 have:∀ c:UInt8,(worth c).getD 0<16:=by decide +kernel
 have:=this c;rw [h] at this;exact this
theorem or_nib:∀ x:UInt8,x<16→∀ y:UInt8,y<16→Go.bits .or .u8 (↑x.toNat * 16 % 256) ↑y.toNat=↑(16 * x+y).toNat:=by decide +kernel
end Nun
namespace Go.Proofs.YtmpiobfdchlikaaDoor
open Go.RowKit Nun
set_option maxHeartbeats 400000 in
theorem worth_any (c:UInt8) (w:World):Calls Tryd.prog 80 #[.int .u8 c.toNat] w (Same (.tuple #[.int .u8 ((worth c).getD 0).toNat,.bool (worth c).isSome]) w):=by
 go_enter Tryd.func80,Tryd.ntmps80
 go_wp2
 all_goals (go_ret2;refine ⟨t2 (vi ?_) (vb ?_),rfl⟩)
 all_goals (go_light;revert c;decide +kernel)
set_option maxHeartbeats 400000 in
theorem pair_ref (c:UInt8) (w:World):Calls Tryd.prog 34 #[.int .u8 c.toNat] w (Ret (.string ⟨(pair c).toArray⟩) w):=by
 have hc:(c.toNat:Int)<256:=by have:=c.toNat_lt;omega
 go_enter Tryd.func34,Tryd.ntmps34
 go_wp2
 (refine wp_region_quiet_below (by kernel_rfl) (by kernel_rfl) ?_;(repeat (first | go_big_quiet_skip | (go_big_quiet_want;go_big_quiet_op;first | go_big_quiet_on | (apply Exists.intro;refine ⟨fun _=>?_,?_⟩;(· (fail));go_big_quiet_on))));refine wpQuiet_nil ?_;intro _ hw';obtain ⟨⟨dq,osq⟩,hw''⟩:=hw';subst hw'')
 go_wp2
 go_ret
 refine ⟨r1 (vS ?_),below_regrown _ _ _⟩
 (go_light;revert c;decide +kernel)
theorem worth_of (c:UInt8) (o:Option UInt8) (h:worth c=o) (w:World):Calls Tryd.prog 80 #[.int .u8 c.toNat] w (Same (.tuple #[.int .u8 (o.getD 0).toNat,.bool o.isSome]) w):=h ▸ worth_any c w
set_option maxHeartbeats 400000 in
theorem byte_any (s:ByteArray) (n:Int) (w:World) (hs:s.size≤1000000000) :
 Calls Tryd.prog 63 #[.string s,.int .i64 n] w (Same (.tuple #[.int .u8 ((hexAt s.data.toList n).getD 0).toNat,.bool (hexAt s.data.toList n).isSome]) w):=by
 by_cases hn:0≤n∧n+2≤s.size
 ·obtain ⟨h1,h2⟩:=hn
  have h3:¬ (n<0):=by omega
  have h4:¬ ((s.size:Int) - 2<n):=by omega
  have h5:(0:Int)≤n+1:=by omega
  have h6:n+1<(s.size:Int):=by omega
  have h7:n<(s.size:Int):=by omega
  rw [hexAt_in s n h1 h2];unfold hex2
  generalize hx:worth s[n.toNat]=x;generalize hy:worth s[(n+1).toNat]=y
  have HX:=Lib.hid hx;have HY:=Lib.hid hy;clear hx hy
  cases x<;>cases y
  all_goals
   go_enter Tryd.func63,Tryd.ntmps63
   go_wp2_with (go_at_call 80;refine (worth_of _ _ (by first | exact HX.out | exact HY.out) _).mono ?_;rintro e w' ⟨rfl,rfl⟩)
   go_ret2
  all_goals go_light
  all_goals first | exact ⟨rfl,rfl⟩ | refine ⟨t2 (vi ?_) rfl,rfl⟩
  rw [or_nib _ (worth_lt HX.out) _ (worth_lt HY.out)];rfl
 ·go_enter Tryd.func63,Tryd.ntmps63
  go_wp2
  all_goals (go_ret2;refine ⟨t2 (vi ?_) (vb ?_),rfl⟩<;>rw [hexAt_out s n (by omega)]<;>rfl)
end Go.Proofs.YtmpiobfdchlikaaDoor
end
section
namespace Nun
def runAt {α:Type} (step:Nat→Option (List α × Nat)) (len:Nat):Nat→Nat→Option (List α)
 | 0,_=>some []
 | f+1,k=>if k<len then match step k with
   | none=>none
   | some (o,n)=>(runAt step len f (k+n)).map (o++·)
   else some []
theorem runAt_enough {α:Type} {step:Nat→Option (List α × Nat)} {len:Nat} (hn:∀ k o n,step k=some (o,n)→0<n) :
 ∀ f f' k,len - k≤f→len - k≤f'→runAt step len f k=runAt step len f' k:=by
 intro f
 induction f with
 | zero =>
   intro f' k h _
   cases f' with
   | zero=>rfl
   | succ f'=>simp only [runAt];rw [if_neg (by omega)]
 | succ f ih =>
   intro f' k h h'
   by_cases hk:k<len
   ·cases f' with
    | zero=>omega
    | succ f' =>
      simp only [runAt]
      rw [if_pos hk]
      cases hs:step k with
      | none=>simp [hk]
      | some p =>
        obtain ⟨o,n⟩:=p
        have:=hn k o n hs
        simp only
        rw [ih f' (k+n) (by omega) (by omega),if_pos hk]
   ·have e:runAt step len (f+1) k=some []:=by simp only [runAt];rw [if_neg hk]
    rw [e]
    cases f' with
    | zero=>rfl
    | succ f'=>simp only [runAt];rw [if_neg hk]
def runFrom {α:Type} (step:Nat→Option (List α × Nat)) (len k:Nat):Option (List α):=runAt step len (len - k) k
theorem runFrom_done {α:Type} {step:Nat→Option (List α × Nat)} {len k:Nat} (h:len≤k):runFrom step len k=some []:=by
 unfold runFrom;rw [Nat.sub_eq_zero_of_le h];rfl
theorem runFrom_none {α:Type} {step:Nat→Option (List α × Nat)} {len k:Nat} (h:k<len) (hs:step k=none):runFrom step len k=none:=by
 unfold runFrom
 obtain ⟨m,hm⟩:∃ m,len - k=m+1:=⟨len - k - 1,by omega⟩
 rw [hm];simp only [runAt];rw [if_pos h,hs]
theorem runFrom_some {α:Type} {step:Nat→Option (List α × Nat)} {len k n:Nat} {o:List α} (hn:∀ k o n,step k=some (o,n)→0<n) (h:k<len) (hs:step k=some (o,n)) :
 runFrom step len k=(runFrom step len (k+n)).map (o++·):=by
 unfold runFrom
 obtain ⟨m,hm⟩:∃ m,len - k=m+1:=⟨len - k - 1,by omega⟩
 rw [hm];simp only [runAt];rw [if_pos h,hs]
 have:=hn k o n hs
 simp only
 rw [runAt_enough hn m (len - (k+n)) (k+n) (by omega) (Nat.le_refl _)]
theorem runFrom_step {α:Type} {step:Nat→Option (List α × Nat)} {len k n:Nat} {o acc:List α} {r:Option (List α)} (hn:∀ k o n,step k=some (o,n)→0<n) (h:k<len) (hs:step k=some (o,n))
 (ha:r=(runFrom step len k).map (acc++·)):r=(runFrom step len (k+n)).map ((acc++o)++·):=by
 rw [ha,runFrom_some hn h hs];cases runFrom step len (k+n)<;>simp
def begins (s w:List UInt8) (n:Int):Bool:=decide (0≤n) && decide (n≤s.length) && w.isPrefixOf (s.drop n.toNat)
theorem begins_nat (s w:List UInt8) (k:Nat) (h:k≤s.length):begins s w k=w.isPrefixOf (s.drop k):=by
 unfold begins;simp [h]
end Nun
end
section
set_option synthInstance.maxSize 4000
namespace Nun
def plainB (c:UInt8):Bool:=33≤c && c≤126 && c != 61
def dstep (s:List UInt8) (k:Nat):Option (List UInt8 × Nat) :=
 match s[k]? with
 | none=>none
 | some c=>if begins s [13,10] k then some ([10],2) else if begins s [61,13,10] k then some ([],3)
   else if c=61 then (hexAt s (k+1)).map fun b=>([b],3) else if plainB c || c == 32 || c == 9 then some ([c],1) else none
theorem dstep_pos (s:List UInt8):∀ k o n,dstep s k=some (o,n)→0<n:=by
 intro k o n h
 unfold dstep at h
 split at h
 ·cases h
 ·repeat' split at h
  all_goals first | (cases h;omega) | skip
  ·simp at h;omega
  ·cases h
theorem dstep_eq (s:ByteArray) (k:Nat) (hk:k<s.size) (b1 b2:Bool) (h1:begins s.data.toList [13,10] k=b1) (h2:begins s.data.toList [61,13,10] k=b2):dstep s.data.toList k =
 if b1 then some ([10],2) else if b2 then some ([],3) else if s[k]=61 then (hexAt s.data.toList (k+1)).map (fun b=>([b],3)) else if plainB s[k] || s[k] == 32 || s[k] == 9 then some ([s[k]],1) else none:=by
 unfold dstep
 rw [List.getElem?_eq_getElem (show k<s.data.toList.length from hk)]
 simp only [h1,h2];rfl
def decL (s:List UInt8):Option (List UInt8):=runFrom (dstep s) s.length 0
def decV:Option (List UInt8)→Go.Value
 | none=>.tuple #[.string ⟨#[]⟩,.int .i64 7]
 | some l=>.tuple #[.string ⟨l.toArray⟩,.int .i64 0]
attribute [simp] decV
end Nun
namespace Go.Proofs.YtmpiobfdchlikaaDoor
open Go.RowKit Nun
set_option maxHeartbeats 400000 in
theorem begins_any (s t:ByteArray) (n:Int) (w:World) (hs:s.size≤1000000000):Calls Tryd.prog 62 #[.string s,.string t,.int .i64 n] w (Same (.bool (begins s.data.toList t.data.toList n)) w):=by
 by_cases h:0≤n∧n≤s.size
 ·obtain ⟨h1,h2⟩:=h
  obtain ⟨k,rfl⟩:=Int.eq_ofNat_of_zero_le h1
  have hb:begins s.data.toList t.data.toList (k:Int)=Lib.hasPrefix (s.extract k s.size).data.toList t.data.toList:=by
   rw [begins_nat _ _ _ (by show k≤s.size;omega),Lib.extract_to_end];rfl
  have HB:=Lib.hid hb;clear hb
  go_enter Tryd.func62,Tryd.ntmps62
  go_wp2_with (go_at_call 29;refine (Tryd.strings_HasPrefix _ _ _).mono ?_;rintro e w' ⟨rfl,rfl⟩)
  go_ret
  exact ⟨r1 (vb (by rw [HB.out];simp)),rfl⟩
 ·have hb:begins s.data.toList t.data.toList n=false:=by
   unfold begins
   by_cases h0:0≤n
   ·rw [decide_eq_false (p:=n≤(s.data.toList.length:Int)) (by show ¬ n≤(s.size:Int);omega)];simp
   ·rw [decide_eq_false h0];simp
  have HB:=Lib.hid hb;clear hb
  by_cases h0:0≤n
  ·have h1:decide (n≤(s.size:Int))=false:=by simp;omega
   go_enter Tryd.func62,Tryd.ntmps62
   go_wp2
   go_ret
   exact ⟨r1 (vb (by rw [HB.out])),rfl⟩
  ·go_enter Tryd.func62,Tryd.ntmps62
   go_wp2
   go_ret
   exact ⟨r1 (vb (by rw [HB.out])),rfl⟩
set_option maxHeartbeats 400000 in
set_option maxRecDepth 100000 in
theorem plain_qp (c:UInt8) (w:World):Calls Tryd.prog 64 #[.int .u8 c.toNat] w (Same (.bool (plainB c)) w):=by
 go_enter Tryd.func64,Tryd.ntmps64
 go_wp2
 all_goals (go_ret;refine ⟨r1 (vb ?_),rfl⟩)
 all_goals (go_light;revert c;decide +kernel)
set_option maxHeartbeats 400000 in
set_option maxRecDepth 100000 in
theorem plain_ref (c:UInt8) (w:World):Calls Tryd.prog 33 #[.int .u8 c.toNat] w (Same (.bool (plainB c)) w):=by
 go_enter Tryd.func33,Tryd.ntmps33
 go_wp2
 all_goals (go_ret;refine ⟨r1 (vb ?_),rfl⟩)
 all_goals (go_light;revert c;decide +kernel)
end Go.Proofs.YtmpiobfdchlikaaDoor
end
section
set_option synthInstance.maxSize 4000
namespace Nun
def one (s:List UInt8) (n:Int):Option (UInt8 × Nat) :=
 if n<0 then none else match s[n.toNat]? with
 | none=>none
 | some c=>if free c then some (c,1) else if c=37 then (hexAt s (n+1)).map fun x=>(x,3) else none
def oneV:Option (UInt8 × Nat)→Go.Value
 | none=>.tuple #[.int .u8 0,.int .i64 0,.bool false]
 | some (c,k)=>.tuple #[.int .u8 c.toNat,.int .i64 k,.bool true]
attribute [simp] oneV
end Nun
namespace Go.Proofs.YtmpiobfdchlikaaDoor
open Go.RowKit Nun
theorem byte_of (s:ByteArray) (n:Int) (o:Option UInt8) (h:hexAt s.data.toList n=o) (w:World) (hs:s.size≤1000000000) :
 Calls Tryd.prog 63 #[.string s,.int .i64 n] w (Same (.tuple #[.int .u8 (o.getD 0).toNat,.bool o.isSome]) w):=h ▸ byte_any s n w hs
end Go.Proofs.YtmpiobfdchlikaaDoor
end
section
namespace Go.Proofs.YtmpiobfdchlikaaDoor
open Go.RowKit Nun
theorem begins_of_qp (s t:ByteArray) (n:Int) (b:Bool) (h:begins s.data.toList t.data.toList n=b) (w:World) (hs:s.size≤1000000000):Calls Tryd.prog 62 #[.string s,.string t,.int .i64 n] w (Same (.bool b) w):=h ▸ begins_any s t n w hs
theorem plain_of_qp (c:UInt8) (b:Bool) (h:plainB c=b) (w:World):Calls Tryd.prog 64 #[.int .u8 c.toNat] w (Same (.bool b) w):=h ▸ plain_qp c w
theorem plain_of_ref (c:UInt8) (b:Bool) (h:plainB c=b) (w:World):Calls Tryd.prog 33 #[.int .u8 c.toNat] w (Same (.bool b) w):=h ▸ plain_ref c w
set_option maxHeartbeats 4000000 in
set_option maxRecDepth 100000 in
theorem decode_qp (s:ByteArray) (w:World) (hs:s.size≤100000000):Calls Tryd.prog 46 #[.string s] w (Ret (decV (decL s.data.toList)) w):=by
 have hlen:s.data.toList.length=s.size:=rfl
 have HL:=Lib.hid hlen;clear hlen
 go_enter Tryd.func46,Tryd.ntmps46
 go_wp2
 go_loopw [4,5,6,7,8] (fun v i _ _ _ wr=>∃ (k:Nat) (acc:List UInt8),i=.int .i64 k∧k≤s.size+2∧acc.length≤k∧OwnB w.heap.size 5 v acc wr∧Below w.heap.size w wr∧Hid (decL s.data.toList=(runFrom (dstep s.data.toList) s.data.toList.length k).map (acc++·)))
  (fun _ i _ _ _ _=>s.size+2 - (intOf i).toNat)
 case atStart=>exact ⟨0,[],rfl,by omega,by simp,OwnB.nil _ _ _,Below.refl _ _,Lib.hid (by unfold decL;simp)⟩
 case round =>
  obtain ⟨k,acc,rfl,hk,hak,hown,hbel,hrd⟩:=hrel
  by_cases hlt:k<s.size
  ·generalize hb1:begins s.data.toList (⟨#[13,10]⟩:ByteArray).data.toList (k:Int)=b1
   generalize hb2:begins s.data.toList (⟨#[61,13,10]⟩:ByteArray).data.toList (k:Int)=b2
   have HB1:=Lib.hid hb1;have HB2:=Lib.hid hb2;clear hb1 hb2
   cases b1
   ·cases b2
    ·by_cases h61:s[k]=61
     ·have q1:((s[k].toNat:Int) == 61)=true:=by rw [h61];rfl
      rcases ho:hexAt s.data.toList ((k:Int)+1) with _ | b
      ·have HR:=Lib.hid (show decL s.data.toList=none by rw [hrd.out,runFrom_none (len:=s.data.toList.length) hlt (by rw [dstep_eq s k hlt _ _ HB1.out HB2.out,if_neg (by simp),if_neg (by simp),if_pos h61,ho];rfl)];rfl)
       have HO:=Lib.hid ho;clear ho hrd h61
       go_wp2_with (first | (go_at_call 62;refine (begins_of_qp _ _ _ _ (by first | exact HB1.out | exact HB2.out) _ (by omega)).mono ?_;rintro e w1 ⟨rfl,rfl⟩) | (go_at_call 63;refine (byte_of _ _ _ HO.out _ (by omega)).mono ?_;rintro e w1 ⟨rfl,rfl⟩))
       go_ret2
       rw [HR.out]
       exact ⟨rfl,hbel⟩
      ·have HR:=Lib.hid (runFrom_step (dstep_pos _) hlt (o:=[b]) (n:=3) (by rw [dstep_eq s k hlt _ _ HB1.out HB2.out,if_neg (by simp),if_neg (by simp),if_pos h61,ho];rfl) hrd.out)
       have hk3:k+3≤s.size:=by
        by_cases h3:k+3≤s.size
        ·exact h3
        ·rw [hexAt_out s _ (by omega)] at ho;cases ho
       have HO:=Lib.hid ho;clear ho hrd h61
       go_wp2_with (first | (go_at_call 62;refine (begins_of_qp _ _ _ _ (by first | exact HB1.out | exact HB2.out) _ (by omega)).mono ?_;rintro e w1 ⟨rfl,rfl⟩) | (go_at_call 63;refine (byte_of _ _ _ HO.out _ (by omega)).mono ?_;rintro e wo ⟨rfl,rfl⟩;skip) | (at_builtin;refine pushb (by rfl) _ _ _ (by rfl) 5 Tryd.underlying73 infoByte w.heap.size wr _ _ (by rfl) hown b (by rfl) (by omega) hbel.size ?_;intro g cap w1 hg hown1 hgr hb1 hsz1))
       go_roundw
       case rel=>exact ⟨k+3,acc++[b],by go_num,by omega,by simp;omega,hown1,hbel.trans hb1,HR⟩
       case measure=>simp [intOf];omega
     ·have q1:((s[k].toNat:Int) == 61)=false:=by simp [← UInt8.toNat_inj] at h61 ⊢;omega
      by_cases hp:plainB s[k]=true
      ·have HR:=Lib.hid (runFrom_step (dstep_pos _) hlt (o:=[s[k]]) (n:=1) (by rw [dstep_eq s k hlt _ _ HB1.out HB2.out];simp [h61,hp]) hrd.out)
       have HP:=Lib.hid hp;clear hp hrd h61
       go_wp2_with (first | (go_at_call 62;refine (begins_of_qp _ _ _ _ (by first | exact HB1.out | exact HB2.out) _ (by omega)).mono ?_;rintro e w1 ⟨rfl,rfl⟩) | (go_at_call 64;refine (plain_of_qp _ _ HP.out _).mono ?_;rintro e w1 ⟨rfl,rfl⟩) | (at_builtin;refine pushb (by rfl) _ _ _ (by rfl) 5 Tryd.underlying73 infoByte w.heap.size wr _ _ (by rfl) hown s[k] (by rfl) (by omega) hbel.size ?_;intro g cap w1 hg hown1 hgr hb1 hsz1))
       go_roundw
       case rel=>exact ⟨k+1,acc++[s[k]],by go_num,by omega,by simp;omega,hown1,hbel.trans hb1,HR⟩
       case measure=>simp [intOf];omega
      ·replace hp:plainB s[k]=false:=by simpa using hp
       by_cases hbl:s[k]=32∨s[k]=9
       ·have HP:=Lib.hid hp;clear hp
        rcases hbl with hbl | hbl
        ·have HR:=Lib.hid (runFrom_step (dstep_pos _) hlt (o:=[s[k]]) (n:=1) (by rw [dstep_eq s k hlt _ _ HB1.out HB2.out];simp [hbl,plainB]) hrd.out)
         clear hrd h61
         have q2:((s[k].toNat:Int) == 32)=true:=by rw [hbl];rfl
         clear hbl
         go_wp2_with (first | (go_at_call 62;refine (begins_of_qp _ _ _ _ (by first | exact HB1.out | exact HB2.out) _ (by omega)).mono ?_;rintro e w1 ⟨rfl,rfl⟩) | (go_at_call 64;refine (plain_of_qp _ _ HP.out _).mono ?_;rintro e w1 ⟨rfl,rfl⟩) | (at_builtin;refine pushb (by rfl) _ _ _ (by rfl) 5 Tryd.underlying73 infoByte w.heap.size wr _ _ (by rfl) hown s[k] (by rfl) (by omega) hbel.size ?_;intro g cap w1 hg hown1 hgr hb1 hsz1))
         go_roundw
         case rel=>exact ⟨k+1,acc++[s[k]],by go_num,by omega,by simp;omega,hown1,hbel.trans hb1,HR⟩
         case measure=>simp [intOf];omega
        ·have HR:=Lib.hid (runFrom_step (dstep_pos _) hlt (o:=[s[k]]) (n:=1) (by rw [dstep_eq s k hlt _ _ HB1.out HB2.out];simp [hbl,plainB]) hrd.out)
         clear hrd h61
         have q2:((s[k].toNat:Int) == 32)=false:=by rw [hbl];rfl
         have q3:((s[k].toNat:Int) == 9)=true:=by rw [hbl];rfl
         clear hbl
         go_wp2_with (first | (go_at_call 62;refine (begins_of_qp _ _ _ _ (by first | exact HB1.out | exact HB2.out) _ (by omega)).mono ?_;rintro e w1 ⟨rfl,rfl⟩) | (go_at_call 64;refine (plain_of_qp _ _ HP.out _).mono ?_;rintro e w1 ⟨rfl,rfl⟩) | (at_builtin;refine pushb (by rfl) _ _ _ (by rfl) 5 Tryd.underlying73 infoByte w.heap.size wr _ _ (by rfl) hown s[k] (by rfl) (by omega) hbel.size ?_;intro g cap w1 hg hown1 hgr hb1 hsz1))
         go_roundw
         case rel=>exact ⟨k+1,acc++[s[k]],by go_num,by omega,by simp;omega,hown1,hbel.trans hb1,HR⟩
         case measure=>simp [intOf];omega
       ·have h32:¬ s[k]=32:=fun h=>hbl (.inl h)
        have h9:¬ s[k]=9:=fun h=>hbl (.inr h)
        have HR:=Lib.hid (show decL s.data.toList=none by rw [hrd.out,runFrom_none (len:=s.data.toList.length) hlt (by rw [dstep_eq s k hlt _ _ HB1.out HB2.out];simp [h61,hp,h32,h9])];rfl)
        have q2:((s[k].toNat:Int) == 32)=false:=by simp [← UInt8.toNat_inj] at h32 ⊢;omega
        have q3:((s[k].toNat:Int) == 9)=false:=by simp [← UInt8.toNat_inj] at h9 ⊢;omega
        have HP:=Lib.hid hp;clear hp hrd h61 hbl h32 h9
        go_wp2_with (first | (go_at_call 62;refine (begins_of_qp _ _ _ _ (by first | exact HB1.out | exact HB2.out) _ (by omega)).mono ?_;rintro e w1 ⟨rfl,rfl⟩) | (go_at_call 64;refine (plain_of_qp _ _ HP.out _).mono ?_;rintro e w1 ⟨rfl,rfl⟩))
        go_ret2
        rw [HR.out]
        exact ⟨rfl,hbel⟩
    ·have HR:=Lib.hid (runFrom_step (dstep_pos _) hlt (o:=[]) (n:=3) (by rw [dstep_eq s k hlt _ _ HB1.out HB2.out];simp) hrd.out)
     clear hrd
     go_wp2_with (go_at_call 62;refine (begins_of_qp _ _ _ _ (by first | exact HB1.out | exact HB2.out) _ (by omega)).mono ?_;rintro e w1 ⟨rfl,rfl⟩)
     go_roundw
     case rel=>exact ⟨k+3,acc,by go_num,by omega,by omega,hown,hbel,by simpa using HR⟩
     case measure=>simp [intOf];omega
   ·have HR:=Lib.hid (runFrom_step (dstep_pos _) hlt (o:=[10]) (n:=2) (by rw [dstep_eq s k hlt _ _ HB1.out HB2.out];simp) hrd.out)
    clear hrd
    go_wp2_with (first | (go_at_call 62;refine (begins_of_qp _ _ _ _ (by first | exact HB1.out | exact HB2.out) _ (by omega)).mono ?_;rintro e w1 ⟨rfl,rfl⟩) | (at_builtin;refine pushb (by rfl) _ _ _ (by rfl) 5 Tryd.underlying73 infoByte w.heap.size wr _ _ (by rfl) hown 10 (by rfl) (by omega) hbel.size ?_;intro g cap w1 hg hown1 hgr hb1 hsz1))
    go_roundw
    case rel=>exact ⟨k+2,acc++[10],by go_num,by omega,by simp;omega,hown1,hbel.trans hb1,HR⟩
    case measure=>simp [intOf];omega
  ·have hfin:decL s.data.toList=some acc:=by
    rw [hrd.out,runFrom_done (by rw [HL.out];omega)];simp
   have HF:=Lib.hid hfin;clear hfin
   have kc:=conv_own (P:=Tryd.prog) Tryd.underlying73 Tryd.underlying5 Tryd.underlying9 hown
   go_wp2
   go_ret2
   rw [HF.out]
   exact ⟨rfl,hbel⟩
end Go.Proofs.YtmpiobfdchlikaaDoor
end
section
namespace Nun
open Go
def plainC (c:UInt8):Bool:=33≤c && c≤126 && c != 59 && c != 61 && c != 34 && c != 92
def signL (c:UInt8):List UInt8→Option (List UInt8)
 | []=>none
 | d::t=>if d=c then some t else none
def quotedL:Nat→List UInt8→Option (List UInt8 × List UInt8)
 | 0,_=>none
 | _+1,[]=>none
 | n+1,c::t =>
   if c=34 then some ([],t)
   else if c<32∨126<c then none
   else if c=92 then (match t with
    | []=>none
    | d::u=>if d=34∨d=92 then (quotedL n u).map fun p=>(d::p.1,p.2) else none)
   else (quotedL n t).map fun p=>(c::p.1,p.2)
def paramL (l:List UInt8):Option (Fld × List UInt8) :=
 if nameL ((l.dropWhile blankC).takeWhile plainC)=true then
  match signL 61 ((l.dropWhile blankC).dropWhile plainC) with
  | none=>none
  | some l3=>match signL 34 l3 with
    | some l4=>(quotedL (l4.length+1) l4).map fun p=>(((l.dropWhile blankC).takeWhile plainC,p.1),p.2)
    | none=>if l3.takeWhile plainC=[] then none else some (((l.dropWhile blankC).takeWhile plainC,l3.takeWhile plainC),l3.dropWhile plainC)
 else none
def loopL:Nat→List UInt8→List Fld→Bool→Option (List Fld × Bool)
 | 0,_,_,_=>none
 | n+1,l,out,tw =>
   if l.dropWhile blankC=[] then some (out,tw)
   else match signL 59 (l.dropWhile blankC) with
    | none=>none
    | some t=>match paramL t with
      | none=>none
      | some (p,r)=>loopL n r (out++[p]) (tw || out.any fun q=>foldL p.1 == foldL q.1)
inductive PRes | form | twice | ok (main:List UInt8) (out:List Fld)
def paramsL (l:List UInt8):PRes :=
 match loopL (l.length+1) ((l.dropWhile blankC).dropWhile plainC) [] false with
 | none=>.form
 | some (out,tw)=>if (l.dropWhile blankC).takeWhile plainC=[] then .form else if tw then .twice else .ok ((l.dropWhile blankC).takeWhile plainC) out
theorem dropWhile_len (p:UInt8→Bool):∀ l:List UInt8,(l.dropWhile p).length≤l.length
 | []=>Nat.le_refl _
 | c::l=>by
   rw [List.dropWhile_cons]
   split
   ·exact Nat.le_trans (dropWhile_len p l) (by simp)
   ·exact Nat.le_refl _
theorem takeWhile_len (p:UInt8→Bool):∀ l:List UInt8,(l.takeWhile p).length≤l.length
 | []=>Nat.le_refl _
 | c::l=>by
   rw [List.takeWhile_cons]
   split
   ·simp;exact takeWhile_len p l
   ·exact Nat.zero_le _
theorem signL_len {c:UInt8}:∀ {l t:List UInt8},signL c l=some t→l=c::t
 | [],t,h=>by cases h
 | d::l,t,h=>by
   replace h:(if d=c then some l else none)=some t:=h
   by_cases hd:d=c
   ·rw [if_pos hd] at h;rw [hd,Option.some.inj h]
   ·rw [if_neg hd] at h;cases h
theorem quotedL_len:∀ (n:Nat) (l:List UInt8) (p:List UInt8 × List UInt8),quotedL n l=some p→p.1.length+p.2.length+1≤l.length
 | 0,l,p,h=>by cases h
 | n+1,[],p,h=>by cases h
 | n+1,c::t,p,h=>by
   unfold quotedL at h
   split at h
   ·cases h;simp
   ·split at h
    ·cases h
    ·split at h
     ·rcases t with _ | ⟨d,u⟩
      ·cases h
      ·dsimp only at h
       split at h
       ·obtain ⟨q,hq,rfl⟩:=Option.map_eq_some_iff.1 h
        have:=quotedL_len n u q hq
        simp only [List.length_cons];omega
       ·cases h
     ·obtain ⟨q,hq,rfl⟩:=Option.map_eq_some_iff.1 h
      have:=quotedL_len n t q hq
      simp only [List.length_cons];omega
theorem quotedL_more:∀ (n m:Nat) (l:List UInt8),l.length<n→l.length<m→quotedL n l=quotedL m l
 | 0,m,l,h,_=>absurd h (Nat.not_lt_zero _)
 | n+1,0,l,_,h=>absurd h (Nat.not_lt_zero _)
 | n+1,m+1,[],_,_=>rfl
 | n+1,m+1,c::t,h1,h2=>by
   simp only [List.length_cons] at h1 h2
   unfold quotedL
   rcases t with _ | ⟨d,u⟩
   ·rw [quotedL_more n m [] (by simp only [List.length_nil] at h1 ⊢;omega) (by simp only [List.length_nil] at h2 ⊢;omega)]
   ·dsimp only
    simp only [List.length_cons] at h1 h2
    rw [quotedL_more n m u (by omega) (by omega),quotedL_more n m (d::u) (by simp only [List.length_cons];omega) (by simp only [List.length_cons];omega)]
theorem paramL_len {l:List UInt8} {q:Fld × List UInt8} (h:paramL l=some q):q.2.length<l.length∧q.1.1.length≤l.length∧q.1.2.length≤l.length:=by
 unfold paramL at h
 split at h
 ·have hb:=dropWhile_len blankC l
  have hp:=dropWhile_len plainC (l.dropWhile blankC)
  have ht:=takeWhile_len plainC (l.dropWhile blankC)
  rcases hs:signL 61 ((l.dropWhile blankC).dropWhile plainC) with _ | l3
  ·rw [hs] at h;cases h
  ·rw [hs] at h
   dsimp only at h
   have h3:=congrArg List.length (signL_len hs)
   rw [List.length_cons] at h3
   rcases hq:signL 34 l3 with _ | l4
   ·rw [hq] at h
    dsimp only at h
    split at h
    ·cases h
    ·cases h
     have:=dropWhile_len plainC l3
     have:=takeWhile_len plainC l3
     dsimp only
     omega
   ·rw [hq] at h
    dsimp only at h
    have h4:=congrArg List.length (signL_len hq)
    rw [List.length_cons] at h4
    obtain ⟨p,hp',rfl⟩:=Option.map_eq_some_iff.1 h
    have:=quotedL_len _ _ _ hp'
    dsimp only
    omega
 ·cases h
theorem plain_split:∀ c:UInt8,plainC c=(decide ((c.toNat:Int) > 32) && decide ((c.toNat:Int)<127) && decide (Go.Lib.indexByte [59,61,34,92] c<0)):=by decide +kernel
theorem take_drop_while (p:UInt8→Bool):∀ (l:List UInt8) (k:Nat),(∀ j (h:j<l.length),j<k→p l[j]=true)→(∀ h:k<l.length,p l[k]=false)→k≤l.length→l.takeWhile p=l.take k∧l.dropWhile p=l.drop k
 | [],k,_,_,hk=>by
   obtain rfl:k=0:=by simpa using hk
   exact ⟨rfl,rfl⟩
 | c::l,0,_,h,_=>by
   have:=h (by simp)
   rw [List.getElem_cons_zero] at this
   rw [List.takeWhile_cons,List.dropWhile_cons,this];simp
 | c::l,k+1,h1,h2,hk=>by
   have hc:=h1 0 (by simp) (by omega)
   rw [List.getElem_cons_zero] at hc
   have:=take_drop_while p l k (fun j h hj=>by
    have:=h1 (j+1) (by simp only [List.length_cons];omega) (by omega)
    rwa [List.getElem_cons_succ] at this) (fun h=>by
    have:=h2 (by simp only [List.length_cons];omega)
    rwa [List.getElem_cons_succ] at this) (by simp only [List.length_cons] at hk;omega)
   rw [List.takeWhile_cons,List.dropWhile_cons,hc]
   simp [this.1,this.2]
end Nun
end
section
namespace Nun
open Go Go.RowKit Go.Proofs Go.Proofs.YtmpiobfdchlikaaDoor
variable {lib:Callee}
def LibRep (lib:Callee):Prop:=∀ s old new:Str,s.length≤1000000→1≤old.length→new.length≤10→lib 61 [.flat (.string (S s)),.flat (.string (S old)),.flat (.string (S new))] [] []=some ([.flat (.string (S (Lib.replaceAll s old new)))],false,[],[])
theorem rep_ev (H:LibRep lib) (s old new:Str) (hs:s.length≤1000000) (ho:1≤old.length) (hn:new.length≤10):evW code lib 61 [.flat (.string (S s)),.flat (.string (S old)),.flat (.string (S new))] [] []=some ([.flat (.string (S (Lib.replaceAll s old new)))],false,[],[]):=evW_lib (by decide) (by kernel_rfl) (H s old new hs ho hn)
def okB (c:UInt8):Bool:=decide (0<c.toNat) && decide (c.toNat<128)
def sevenP (s:Str):Option Str:=if s.all okB=true then (if at1 13 (Lib.replaceAll s [13,10] [0])=none∧at1 10 (Lib.replaceAll s [13,10] [0])=none then some (Lib.replaceAll (Lib.replaceAll s [13,10] [0]) [0] [10]) else none) else none
theorem seven_loop (s:Str) (hs:s.length≤1000000) (h:s.all okB=true):evLoop (evC (evW code lib) big b_letter_seven_0) [0,6,7] 0 big ⟨[(0,.flat (.string (S s))),(6,.flat (.int .i64 (s.length:Nat))),(7,.flat (.int .i64 0))],[],[],[]⟩=some (.exit 0,⟨[(0,.flat (.string (S s)))],[],[],[]⟩):=by
 have hloop:=loop_at (body:=evC (evW code lib) big b_letter_seven_0) (live:=[0,6,7]) (nb:=0) (fun (_:Unit) k=>⟨[(0,.flat (.string (S s))),(6,.flat (.int .i64 (s.length:Nat))),(7,.flat (.int .i64 (k:Nat)))],[],[],[]⟩) s (fun _ _=>True)
  (fun _ k x=>.inl ()) (fun _=>(.exit 0,⟨[(0,.flat (.string (S s)))],[],[],[]⟩)) (fun _ k c _ hk hc hd=>?_) (fun _ _=>by simp only [go_sem,simprocAttr]) (fun _ _ _ _ _ _ _ _=>trivial) (fun _ _ x r h=>by cases h) (fun _ _=>?_) (fun _=>by simp) () trivial (by unfold big;omega)
 ·have hw:∀ (L:Str) (k:Nat),walkL (fun (_:Unit) _ (x:UInt8)=>(.inl ():Unit ⊕ (Out × St))) (fun _=>(.exit 0,⟨[(0,.flat (.string (S s)))],[],[],[]⟩)) () k L=(.exit 0,⟨[(0,.flat (.string (S s)))],[],[],[]⟩):=by
   intro L
   induction L with
   | nil=>intro k;rfl
   | cons x t ih=>intro k;rw [walkL];exact ih _
  rw [hw] at hloop
  simp only [n0] at hloop
  exact hloop
 ·have hb:=List.all_eq_true.1 h c (List.mem_of_getElem? hc)
  unfold okB at hb
  simp only [Bool.and_eq_true,decide_eq_true_eq] at hb
  have hm:=must_ev (lib:=lib) 7
  have h7:((7:Nat):Int)=7:=rfl
  rw [h7] at hm
  obtain ⟨n,hn⟩:∃ n,c.toNat=n:=⟨_,rfl⟩
  rw [hn] at hb
  clear h
  simp (maxSteps:=999999) (disch:=first | assumption | omega) only [go_sem,simprocAttr,au,on_letter_seven_0,hc,hn,hm]
 ·simp (maxSteps:=999999) (disch:=first | assumption | omega) only [go_sem,simprocAttr,au,on_letter_seven_0]
theorem repK_len (old new:Str) (h:new.length≤old.length):∀ (n:Nat) (s:Str),(Lib.replaceK old new n s).length≤s.length
 | 0,s=>Nat.le_refl _
 | n+1,s=>by
   rw [Lib.replaceK]
   split
   ·exact Nat.le_refl _
   ·rename_i hne
    have h1:=Lib.index_ge s old
    have h2:Lib.index s old≠-1:=by simpa using hne
    have h3:=Lib.index_room s old (by omega)
    have h4:=repK_len old new h n (s.drop ((Lib.index s old).toNat+old.length))
    simp only [List.length_append,List.length_take,List.length_drop] at h4 ⊢
    omega
theorem rep_len (s old new:Str) (h:new.length≤old.length):(Lib.replaceAll s old new).length≤s.length:=by
 unfold Lib.replaceAll Lib.replace
 split
 ·exact Nat.le_refl _
 ·exact repK_len _ _ h _ _
theorem seven_ev (HI:LibIdx lib) (HR:LibRep lib) (s t:Str) (hs:s.length≤1000000) (h:sevenP s=some t):evW code lib 45 [.flat (.string (S s))] [] []=some ([.flat (.string (S t))],false,[],[]):=by
 unfold sevenP at h
 split at h
 case isFalse=>cases h
 rename_i hall
 split at h
 case isFalse=>cases h
 rename_i hno
 obtain ⟨hc,hn⟩:=hno
 cases h
 have hl:(Lib.replaceAll s [13,10] [0]).length≤1000000:=Nat.le_trans (rep_len s [13,10] [0] (by decide)) hs
 have hloop:=seven_loop (lib:=lib) s hs hall
 have r1:=rep_ev HR s [13,10] [0] hs (by decide) (by decide)
 have hm:=must_ev (lib:=lib) 7
 have h7:((7:Nat):Int)=7:=rfl
 rw [h7] at hm
 generalize Lib.replaceAll s [13,10] [0]=u at *
 have r2:=rep_ev HR u [0] [10] hl (by decide) (by decide)
 have i1:=idx_ev HI u 13 (by omega)
 have i2:=idx_ev HI u 10 (by omega)
 rw [hc] at i1;rw [hn] at i2
 have e13:((UInt8.toNat 13:Nat):Int)=13:=rfl
 have e10:((UInt8.toNat 10:Nat):Int)=10:=rfl
 rw [e13] at i1;rw [e10] at i2
 dsimp only at i1 i2
 refine evW_eq code_letter_seven (Nat.le_of_ble_eq_true rfl) ?_
 simp (maxSteps:=999999) (disch:=first | assumption | omega) only [go_sem,simprocAttr,au,hloop,r1,r2,hm,i1,i2]
def LibDq (lib:Callee):Prop:=∀ s:Str,s.length≤1000000→lib 46 [.flat (.string (S s))] [] []=some ((match decL s with | some t=>[.flat (.string (S t)),.flat (.int .i64 0)] | none=>[.flat (.string (S [])),.flat (.int .i64 7)]),false,[],[])
def LibUm (lib:Callee):Prop:=∀ s:Str,s.length≤1000000→lib 47 [.flat (.string (S s))] [] []=some ((match dec64 (bare s) with | some t=>[.flat (.string (S t)),.flat (.int .i64 0)] | none=>[.flat (.string (S [])),.flat (.int .i64 7)]),false,[],[])
theorem dq_ev (H:LibDq lib) (s:Str) (h:s.length≤1000000):evW code lib 46 [.flat (.string (S s))] [] []=some ((match decL s with | some t=>[.flat (.string (S t)),.flat (.int .i64 0)] | none=>[.flat (.string (S [])),.flat (.int .i64 7)]),false,[],[]):=evW_lib (by decide) (by kernel_rfl) (H s h)
theorem um_ev (H:LibUm lib) (s:Str) (h:s.length≤1000000):evW code lib 47 [.flat (.string (S s))] [] []=some ((match dec64 (bare s) with | some t=>[.flat (.string (S t)),.flat (.int .i64 0)] | none=>[.flat (.string (S [])),.flat (.int .i64 7)]),false,[],[]):=evW_lib (by decide) (by kernel_rfl) (H s h)
def s7bit:Str:=[55,98,105,116]
def sQp:Str:=[113,117,111,116,101,100,45,112,114,105,110,116,97,98,108,101]
def sB64:Str:=[98,97,115,101,54,52]
def saidP (s c:Str):Option Str:=if c=s7bit then sevenP s else if c=sQp then decL s else if c=sB64 then dec64 (bare s) else none
theorem said_ev (HI:LibIdx lib) (HR:LibRep lib) (HD:LibDq lib) (HU:LibUm lib) (s c t:Str) (hs:s.length≤1000000) (h:saidP s c=some t):evW code lib 30 [.flat (.string (S s)),.flat (.string (S c))] [] []=some ([.flat (.string (S t))],false,[],[]):=by
 have hm:=must_ev (lib:=lib) 7
 have h7:((7:Nat):Int)=7:=rfl
 rw [h7] at hm
 unfold saidP at h
 refine evW_eq code_letter_said (Nat.le_of_ble_eq_true rfl) ?_
 by_cases h1:c=s7bit
 ·rw [if_pos h1] at h
  have e:=seven_ev HI HR s t hs h
  have h1':(c=[55,98,105,116])=True:=eq_true h1
  simp (maxSteps:=999999) (disch:=first | assumption | omega) only [go_sem,simprocAttr,au,e,h1']
 ·rw [if_neg h1] at h
  have h1':(c=[55,98,105,116])=False:=eq_false h1
  by_cases h2:c=sQp
  ·rw [if_pos h2] at h
   have e:=dq_ev HD s hs
   rw [h] at e
   dsimp only at e
   have h2':(c=[113,117,111,116,101,100,45,112,114,105,110,116,97,98,108,101])=True:=eq_true h2
   simp (maxSteps:=999999) (disch:=first | assumption | omega) only [go_sem,simprocAttr,au,e,h1',h2',hm]
  ·rw [if_neg h2] at h
   have h2':(c=[113,117,111,116,101,100,45,112,114,105,110,116,97,98,108,101])=False:=eq_false h2
   by_cases h3:c=sB64
   ·rw [if_pos h3] at h
    have e:=um_ev HU s hs
    rw [h] at e
    dsimp only at e
    have h3':(c=[98,97,115,101,54,52])=True:=eq_true h3
    simp (maxSteps:=999999) (disch:=first | assumption | omega) only [go_sem,simprocAttr,au,e,h1',h2',h3',hm]
   ·rw [if_neg h3] at h;cases h
def LibPar (lib:Callee):Prop:=∀ s:Str,s.length≤10000→lib 41 [.flat (.string (S s))] [] []=some ((match paramsL s with | .form=>[.flat (.string (S [])),.slc 0 [],.flat (.int .i64 7)] | .twice=>[.flat (.string (S [])),.slc 0 [],.flat (.int .i64 9)] | .ok m l=>[.flat (.string (S m)),.slc l.length (fcells l),.flat (.int .i64 0)]),false,[],[])
theorem par_ev (H:LibPar lib) (s:Str) (h:s.length≤10000):evW code lib 41 [.flat (.string (S s))] [] []=some ((match paramsL s with | .form=>[.flat (.string (S [])),.slc 0 [],.flat (.int .i64 7)] | .twice=>[.flat (.string (S [])),.slc 0 [],.flat (.int .i64 9)] | .ok m l=>[.flat (.string (S m)),.slc l.length (fcells l),.flat (.int .i64 0)]),false,[],[]):=evW_lib (by decide) (by kernel_rfl) (H s h)
def LibCut (lib:Callee):Prop:=∀ s w:Str,s.length≤1000000000→lib 38 [.flat (.string (S s)),.flat (.string (S w))] [] []=some ([.flat (.string (S (Lib.cut s w).1)),.flat (.string (S (Lib.cut s w).2.1)),.flat (.bool (Lib.cut s w).2.2)],false,[],[])
theorem cut_ev' (H:LibCut lib) (s w:Str) (h:s.length≤1000000000):evW code lib 38 [.flat (.string (S s)),.flat (.string (S w))] [] []=some ([.flat (.string (S (Lib.cut s w).1)),.flat (.string (S (Lib.cut s w).2.1)),.flat (.bool (Lib.cut s w).2.2)],false,[],[]):=evW_lib (by decide) (by kernel_rfl) (H s w h)
def sCt:Str:=[99,111,110,116,101,110,116,45,116,121,112,101]
def sCte:Str:=[99,111,110,116,101,110,116,45,116,114,97,110,115,102,101,114,45,101,110,99,111,100,105,110,103]
def sBound:Str:=[98,111,117,110,100,97,114,121]
def sPlain:Str:=[116,101,120,116,47,112,108,97,105,110]
def markS:List Fld→Str→Str
 | [],m=>m
 | (a,b)::l,m=>markS l (if foldL a == foldL sBound then b else m)
theorem walk_mark {fin:Str→Out × St}:∀ (L:List Fld) (k:Nat) (m:Str),walkL (fun (m:Str) _ (x:Fld)=>(.inl (if foldL x.1 == foldL sBound then x.2 else m):Str ⊕ (Out × St))) fin m k L=fin (markS L m)
 | [],k,q=>rfl
 | (a,b)::t,k,q=>by rw [walkL,markS];exact walk_mark t _ _
set_option maxHeartbeats 4000000 in
theorem mark_loop (HA:LibAlike lib) (F:List Fld) (m0:Str) (hF:smallF F):evLoop (evC (evW code lib) big b_letter_kind_0) [8,11,46,47,48] 0 big ⟨[(8,.flat (.string (S m0))),(11,.flat (.string (S []))),(46,.slc F.length (fcells F)),(47,.flat (.int .i64 (F.length:Nat))),(48,.flat (.int .i64 0))],[],[],[]⟩=some (.exit 0,⟨[(8,.flat (.string (S m0))),(11,.flat (.string (S (markS F []))))],[],[],[]⟩):=by
 have hloop:=loop_idx (body:=evC (evW code lib) big b_letter_kind_0) (live:=[8,11,46,47,48]) (nb:=0) (fun (m:Str) k=>⟨[(8,.flat (.string (S m0))),(11,.flat (.string (S m))),(46,.slc F.length (fcells F)),(47,.flat (.int .i64 (F.length:Nat))),(48,.flat (.int .i64 (k:Nat)))],[],[],[]⟩) F (fun _ _=>True)
  (fun m k x=>.inl (if foldL x.1 == foldL sBound then x.2 else m)) (fun m=>(.exit 0,⟨[(8,.flat (.string (S m0))),(11,.flat (.string (S m)))],[],[],[]⟩)) (fun m k c _ hk hc hd=>.inl ?_) (fun m _=>⟨?_,by simp⟩) [] trivial (by have:=hF.1;unfold big;omega)
 ·rw [walk_mark] at hloop
  simp only [n0] at hloop
  exact hloop
 ·obtain ⟨a,b⟩:=c
  have hFl:=hF.1
  have hab:=hF.2 (a,b) (List.mem_of_getElem? hc)
  have hA:=alike_ev HA a sBound hab.1 (by decide)
  unfold sBound at hA
  have hat:=fcells_at hd
  have hlen:=fcells_len F
  have hl2:((fcells F).drop (k * 2)).length=(F.length - k) * 2:=by rw [List.length_drop,hlen];omega
  have hlow:=fun n=>fcells_low (n:=n) F
  clear hF hab hlen HA hd hc
  generalize F.drop (k+1)=fr at *
  generalize fcells fr=fg at *
  dsimp only
  unfold sBound
  cases hfo:foldL a == foldL [98,111,117,110,100,97,114,121] with
  | true =>
    rw [hfo] at hA
    refine ⟨_,⟨[(8,.flat (.string (S m0))),(11,.flat (.string (S b))),(46,.slc F.length (fcells F)),(47,.flat (.int .i64 (F.length:Nat))),(48,.flat (.int .i64 ((k+1:Nat):Nat)))],[],[],[]⟩,rfl,?_,?_,trivial⟩
    ·simp (maxSteps:=999999) (disch:=first | assumption | omega) only [go_sem,simprocAttr,au,on_letter_kind_0,hat,hA,hlow]
    ·simp (maxSteps:=999999) (disch:=first | assumption | omega) only [go_sem,simprocAttr,au,hlow]
  | false =>
    rw [hfo] at hA
    refine ⟨_,⟨[(8,.flat (.string (S m0))),(11,.flat (.string (S m))),(46,.slc F.length (fcells F)),(47,.flat (.int .i64 (F.length:Nat))),(48,.flat (.int .i64 ((k+1:Nat):Nat)))],[],[],[(85,[.flat (.string (S a)),.flat (.string (S b))])]⟩,rfl,?_,?_,trivial⟩
    ·simp (maxSteps:=999999) (disch:=first | assumption | omega) only [go_sem,simprocAttr,au,on_letter_kind_0,hat,hA,hlow]
    ·simp (maxSteps:=999999) (disch:=first | assumption | omega) only [go_sem,simprocAttr,au,hlow]
 ·simp (maxSteps:=999999) (disch:=first | assumption | omega) only [go_sem,simprocAttr,au,on_letter_kind_0]
def kindP (F:List Fld):Except Nat (Str × Str) :=
 if (getU sCt F).2<2∧(getU sCte F).2<2 then
  if (getU sCt F).2=0 then .ok (sPlain,[]) else
  match paramsL (getU sCt F).1 with
  | .form=>.error 7
  | .twice=>.error 9
  | .ok m l=>if (Lib.cut m [47]).2.2=true∧(Lib.cut m [47]).1≠[]∧(Lib.cut m [47]).2.1≠[]∧at1 47 (Lib.cut m [47]).2.1=none then .ok (foldL m,markS l []) else .error 7
 else .error 9
set_option maxHeartbeats 4000000 in
theorem kind_ev (HA:LibAlike lib) (HF:LibFold lib) (HP:LibPar lib) (HC:LibCut lib) (HI:LibIdx lib) (F:List Fld) (ty mk:Str) (hF:smallF F) (hv:(getU sCt F).1.length≤10000) (hl:∀ m l,paramsL (getU sCt F).1=.ok m l→smallF l∧m.length≤10000) (h:kindP F=.ok (ty,mk)) :
 evW code lib 26 [.slc F.length (fcells F)] [] []=some ([.flat (.string (S ty)),.flat (.string (S mk))],false,[],[]):=by
 have g1:=get_ev HA F sCt hF (by decide)
 have g2:=get_ev HA F sCte hF (by decide)
 have hm0:=must_ev (lib:=lib) 0
 have hm7:=must_ev (lib:=lib) 7
 have hm9:=must_ev (lib:=lib) 9
 have h7:((7:Nat):Int)=7:=rfl
 have h9:((9:Nat):Int)=9:=rfl
 rw [h7] at hm7;rw [h9] at hm9;rw [n0] at hm0
 have hnp:=fcells_np F
 have hp:=par_ev HP _ hv
 unfold kindP at h
 unfold sCt at g1 h hp hl
 unfold sCte at g2 h
 obtain ⟨v,hv'⟩:∃ v,getU [99,111,110,116,101,110,116,45,116,121,112,101] F=v:=⟨_,rfl⟩
 obtain ⟨u,hu'⟩:∃ v,getU [99,111,110,116,101,110,116,45,116,114,97,110,115,102,101,114,45,101,110,99,111,100,105,110,103] F=v:=⟨_,rfl⟩
 rw [hv'] at g1 h hp hl
 rw [hu'] at g2 h
 obtain ⟨v,n⟩:=v
 obtain ⟨u,k⟩:=u
 dsimp only at g1 g2 h hp hl
 split at h
 case isFalse=>cases h
 rename_i hnk
 obtain ⟨hn,hk⟩:=hnk
 refine evW_eq code_letter_kind (Nat.le_of_ble_eq_true rfl) ?_
 split at h
 ·rename_i hn0
  subst hn0
  cases h
  unfold sPlain
  clear hp hl hF
  simp (maxSteps:=999999) (disch:=first | assumption | omega) only [go_sem,simprocAttr,au,g1,g2,hm9,hnp]
 ·rename_i hn0
  have hn0':((n:Int)=0)=False:=by apply eq_false;omega
  cases hpar:paramsL v with
  | form=>rw [hpar] at h;cases h
  | twice=>rw [hpar] at h;cases h
  | ok m l =>
    rw [hpar] at h hp
    dsimp only at h hp
    obtain ⟨hsl,hml⟩:=hl m l hpar
    have hlo:=mark_loop HA l m hsl
    have hcut:=cut_ev' HC m [47] (by omega)
    have hfo:=fold_ev HF m (by omega)
    have hnpl:=fcells_np l
    have hll:=hsl.1
    split at h
    case isFalse=>cases h
    rename_i hc
    obtain ⟨c1,c2,c3,c4⟩:=hc
    cases h
    have hbl:(Lib.cut m [47]).2.1.length≤m.length:=by
     unfold Lib.cut;split
     ·simp only [List.length_drop];omega
     ·simp
    obtain ⟨q,hq⟩:∃ q,Lib.cut m [47]=q:=⟨_,rfl⟩
    rw [hq] at hcut c1 c2 c3 c4 hbl
    obtain ⟨x,y,z⟩:=q
    dsimp only at hcut c1 c2 c3 c4 hbl
    have hidx:=idx_ev HI y 47 (by omega)
    rw [c4] at hidx
    have e47:((UInt8.toNat 47:Nat):Int)=47:=rfl
    rw [e47] at hidx
    dsimp only at hidx
    subst c1
    have c2':=eq_false c2
    have c3':=eq_false c3
    clear hF hsl hl hq hpar HA HF HP HC HI
    simp (maxSteps:=999999) (disch:=first | assumption | omega) only [go_sem,simprocAttr,au,g1,g2,hm0,hm7,hm9,hnp,hnpl,hn0',hp,hlo,hcut,hfo,hidx,c2',c3']
def LibInd (lib:Callee):Prop:=∀ s w:Str,s.length≤1000000000→lib 50 [.flat (.string (S s)),.flat (.string (S w))] [] []=some ([.flat (.int .i64 (Lib.index s w))],false,[],[])
theorem ind_ev (H:LibInd lib) (s w:Str) (h:s.length≤1000000000):evW code lib 50 [.flat (.string (S s)),.flat (.string (S w))] [] []=some ([.flat (.int .i64 (Lib.index s w))],false,[],[]):=evW_lib (by decide) (by kernel_rfl) (H s w h)
def LibCutP (lib:Callee):Prop:=∀ s w:Str,s.length≤1000000000→lib 49 [.flat (.string (S s)),.flat (.string (S w))] [] []=some ([.flat (.string (S (if w.isPrefixOf s then s.drop w.length else s))),.flat (.bool (w.isPrefixOf s))],false,[],[])
theorem cutp_ev (H:LibCutP lib) (s w:Str) (h:s.length≤1000000000):evW code lib 49 [.flat (.string (S s)),.flat (.string (S w))] [] []=some ([.flat (.string (S (if w.isPrefixOf s then s.drop w.length else s))),.flat (.bool (w.isPrefixOf s))],false,[],[]):=evW_lib (by decide) (by kernel_rfl) (H s w h)
theorem pre_ev (H:LibPre lib) (s p:Str) (hs:s.length≤1000000000) (hp:p.length≤1000000000):evW code lib 29 [.flat (.string (S s)),.flat (.string (S p))] [] []=some ([.flat (.bool (p.isPrefixOf s))],false,[],[]):=evW_lib (by decide) (by kernel_rfl) (H s p hs hp)
def boT (s line:Str) (q:List Str × Nat × Nat):(List Str × Nat × Nat) ⊕ Option (List Str) :=
 if Lib.index (s.drop q.2.2) line=-1 then .inr none else
 let at_:=q.2.2+(Lib.index (s.drop q.2.2) line).toNat
 let behind:=s.drop (at_+line.length)
 if ([45,45,13,10]:Str).isPrefixOf behind then (if behind=[45,45,13,10] then .inr (some (q.1++[(s.take at_).drop q.2.1])) else .inr none)
 else if ([13,10]:Str).isPrefixOf behind then .inl (q.1++[(s.take at_).drop q.2.1],at_+line.length+2,at_+line.length+2)
 else .inl (q.1,q.2.1,at_+1)
def lineP (mark:Str):Str:=[13,10,45,45]++mark
def bodiesP (s mark:Str):Option (List Str) :=
 if (lineP mark++[13,10]).isPrefixOf ([13,10]++s) then runS (boT (([13,10]++s).drop (lineP mark++[13,10]).length) (lineP mark)) none (s.length+1) ([],0,0) else none
theorem idx_room {s w:Str} {n:Nat} (h:Lib.index s w≠-1):(Lib.index s w).toNat+w.length≤s.length∧Lib.index s w=((Lib.index s w).toNat:Int):=by
 have h1:=Lib.index_ge s w
 have h2:=Lib.index_room s w (by omega)
 exact ⟨by omega,by omega⟩
theorem bodies_run (HN:LibInd lib) (HC:LibCutP lib) (HP:LibPre lib) (s mark:Str) (out:List Str) (hs:s.length≤100000000) (hm:mark.length≤1000000) (h:bodiesP s mark=some out) (BX:List Str→Boxes) (oc:List (Nat × Nat)) (b p1 p2 nb:Nat)
 (h1:∀ a,(BX a)[p1]? =some (9,[.flat (.string (S mark))])) (h2:∀ a,(BX a)[p2]? =some (9,[.flat (.string (S s))])) (hlen:∀ a,(BX a).length=nb) (hoc:∀ q∈oc,q.1<nb)
 (hy:∀ a x,a.length≤s.length→evW code lib yldF [.yld b,.flat (.string (S x))] (BX a) (cl oc)=some ([.flat (.bool true)],false,BX (a++[x]),cl oc)) :
 evW code lib 48 [.yld b,.ptr p1 0,.ptr p2 0] (BX []) (cl oc)=some ([],false,BX out,cl oc):=by
 have hbv:bound=4294967296:=rfl
 unfold bodiesP at h
 split at h
 case isFalse=>cases h
 rename_i hpre
 have hll:(lineP mark).length=mark.length+4:=by unfold lineP;simp
 have c1:=cutp_ev HC ([13,10]++s) (lineP mark++[13,10]) (by simp;omega)
 rw [if_pos hpre,hpre] at c1
 have hpl:=pre_len hpre
 simp only [List.length_append,List.length_cons,List.length_nil] at hpl
 have hrl:(([13,10]++s).drop (lineP mark++[13,10]).length).length≤s.length:=by simp only [List.length_drop,List.length_append,List.length_cons,List.length_nil];omega
 obtain ⟨rest,hrest⟩:∃ r,([13,10]++s).drop (lineP mark++[13,10]).length=r:=⟨_,rfl⟩
 rw [hrest] at h c1 hrl
 simp only [List.cons_append,List.nil_append] at c1
 obtain ⟨line,hline⟩:∃ l,lineP mark=l:=⟨_,rfl⟩
 have e1:S (13::10::45::45::mark)=S line:=by rw [← hline];rfl
 rw [hline] at h c1 hll
 have hm0:=must_ev (lib:=lib) 7
 have h7:((7:Nat):Int)=7:=rfl
 rw [h7] at hm0
 have hloop:=loop_by (body:=evC (evW code lib) big b_letter_bodies_1_0) (live:=[0,4,5,7,8]) (nb:=nb) (fun q:List Str × Nat × Nat=>(⟨[(0,.yld b),(4,.flat (.string (S line))),(5,.flat (.string (S rest))),(7,.flat (.int .i64 (q.2.1:Nat))),(8,.flat (.int .i64 (q.2.2:Nat)))],cl oc,[],BX q.1⟩:St))
  (fun q=>q.2.1≤q.2.2∧q.2.2≤rest.length∧q.1.length≤q.2.2∧∃ n,rest.length+1≤n+q.2.2∧runS (boT rest line) none n q=some out) (fun q=>rest.length - q.2.2)
  (fun q=>(.ret,⟨[],cl oc,[],BX out⟩)) (fun q hq=>?_) (n:=big) (a:=([],0,0)) ⟨Nat.le_refl _,Nat.zero_le _,Nat.le_refl _,s.length+1,by dsimp only;omega,h⟩ (by unfold big;dsimp only;omega)
 ·simp only [n0] at hloop
  have g1:=h1 []
  have g2:=h2 []
  have g3:=hlen []
  have g4:=hlen out
  have g5:=cl_under oc hoc
  refine evW_eq code_letter_bodies_1 (Nat.le_of_ble_eq_true rfl) ?_
  have e2:S (line++[13,10])=S (line++[13,10]):=rfl
  clear h
  simp (maxSteps:=999999) (disch:=first | assumption | omega) only [go_sem,simprocAttr,au,g1,g2,g3,g4,e1,c1,hm0,cl_keep,cl_owns,cl_cells,cl_drop,cl_slots,trim_same g3,trim_same g4,g5,hloop]
 ·obtain ⟨a,fr,at_⟩:=q
  obtain ⟨k1,k2,k3,n,k4,k5⟩:=hq
  dsimp only at k1 k2 k3 k4 k5 ⊢
  cases n with
  | zero=>omega
  | succ n =>
    have i1:=ind_ev HN (rest.drop at_) line (by rw [List.length_drop];omega)
    by_cases hno:Lib.index (rest.drop at_) line=-1
    ·rw [runS_inr (r:=none) (by unfold boT;dsimp only;rw [if_pos hno])] at k5;cases k5
    ·obtain ⟨r1,r2⟩:=idx_room (n:=0) hno
     rw [List.length_drop] at r1
     obtain ⟨i,hi⟩:∃ i,(Lib.index (rest.drop at_) line).toNat=i:=⟨_,rfl⟩
     rw [hi] at r1 r2
     rw [r2] at i1
     have hst:boT rest line (a,fr,at_)=(if ([45,45,13,10]:Str).isPrefixOf (rest.drop (at_+i+line.length)) then (if rest.drop (at_+i+line.length)=[45,45,13,10] then .inr (some (a++[(rest.take (at_+i)).drop fr])) else .inr none)
      else if ([13,10]:Str).isPrefixOf (rest.drop (at_+i+line.length)) then .inl (a++[(rest.take (at_+i)).drop fr],at_+i+line.length+2,at_+i+line.length+2) else .inl (a,fr,at_+i+1)):=by
      unfold boT;dsimp only;rw [if_neg hno,hi]
     have tn:((at_:Int)+(i:Int)+(line.length:Int)).toNat=at_+i+line.length:=by omega
     have g1:=hlen a
     have g5:=cl_under oc hoc
     have p1':=pre_ev HP (rest.drop (at_+i+line.length)) [45,45,13,10] (by rw [List.length_drop];omega) (by decide)
     have p2':=pre_ev HP (rest.drop (at_+i+line.length)) [13,10] (by rw [List.length_drop];omega) (by decide)
     have tk:rest.take rest.length=rest:=List.take_length
     have hyy:=hy a ((rest.take (at_+i)).drop fr) (by omega)
     have g2:=hlen (a++[(rest.take (at_+i)).drop fr])
     cases hp1:([45,45,13,10]:Str).isPrefixOf (rest.drop (at_+i+line.length)) with
     | true =>
       rw [hp1] at hst p1'
       simp only [if_true] at hst
       by_cases heq:rest.drop (at_+i+line.length)=[45,45,13,10]
       ·rw [if_pos heq] at hst
        rw [runS_inr hst] at k5
        simp only [Option.some.injEq] at k5
        left
        refine ⟨_,_,?_,(by simp),rfl⟩
        have hq:=eq_true heq
        rw [← k5]
        clear hst k5 k4 h hy
        simp (maxSteps:=999999) (disch:=first | assumption | omega) only [go_sem,simprocAttr,au,on_letter_bodies_1_0,tk,tn,i1,hm0,p1',hq,hyy,g1,g2,cl_keep,cl_owns,cl_cells,cl_drop,cl_slots,trim_same g1,trim_same g2,g5,dropCs_nil]
       ·rw [if_neg heq] at hst
        rw [runS_inr hst] at k5;cases k5
     | false =>
       rw [hp1] at hst p1'
       simp only [Bool.false_eq_true,if_false] at hst
       cases hp2:([13,10]:Str).isPrefixOf (rest.drop (at_+i+line.length)) with
       | true =>
         rw [hp2] at hst p2'
         simp only [if_true] at hst
         rw [runS_inl hst] at k5
         right
         have hl2:=pre_len hp2
         rw [List.length_drop] at hl2
         simp only [List.length_cons,List.length_nil] at hl2
         refine ⟨⟨[(0,.yld b),(4,.flat (.string (S line))),(5,.flat (.string (S rest))),(7,.flat (.int .i64 ((at_+i+line.length+2:Nat):Nat))),(8,.flat (.int .i64 ((at_+i+line.length+2:Nat):Nat)))],cl oc,[],BX (a++[(rest.take (at_+i)).drop fr])⟩,(a++[(rest.take (at_+i)).drop fr],at_+i+line.length+2,at_+i+line.length+2),?_,?_,⟨Nat.le_refl _,by dsimp only;omega,by simp only [List.length_append,List.length_cons,List.length_nil];omega,n,by dsimp only;omega,k5⟩,by dsimp only;omega,rfl⟩
         ·clear hst k5 k4 h hy
          simp (maxSteps:=999999) (disch:=first | assumption | omega) only [go_sem,simprocAttr,au,on_letter_bodies_1_0,tk,tn,i1,hm0,p1',p2',hyy,g1,g2,cl_keep,cl_owns,cl_cells,cl_drop,cl_slots,trim_same g1,trim_same g2,g5,dropCs_nil]
         ·simp (maxSteps:=999999) (disch:=first | assumption | omega) only [go_sem,simprocAttr,au,g2,cl_keep,cl_owns,cl_cells,cl_drop,cl_slots,trim_same g2,g5]
       | false =>
         rw [hp2] at hst p2'
         simp only [Bool.false_eq_true,if_false] at hst
         rw [runS_inl hst] at k5
         right
         refine ⟨⟨[(0,.yld b),(4,.flat (.string (S line))),(5,.flat (.string (S rest))),(7,.flat (.int .i64 (fr:Nat))),(8,.flat (.int .i64 ((at_+i+1:Nat):Nat)))],cl oc,[],BX a⟩,(a,fr,at_+i+1),?_,?_,⟨by dsimp only;omega,by dsimp only;omega,by dsimp only;omega,n,by dsimp only;omega,k5⟩,by dsimp only;omega,rfl⟩
         ·clear hst k5 k4 h hy
          simp (maxSteps:=999999) (disch:=first | assumption | omega) only [go_sem,simprocAttr,au,on_letter_bodies_1_0,tk,tn,i1,hm0,p1',p2',g1,cl_keep,cl_owns,cl_cells,cl_drop,cl_slots,trim_same g1,g5,dropCs_nil]
         ·simp (maxSteps:=999999) (disch:=first | assumption | omega) only [go_sem,simprocAttr,au,g1,cl_keep,cl_owns,cl_cells,cl_drop,cl_slots,trim_same g1,g5]
theorem bodies_new (s mark:Str) (bx:Boxes) (oc:List (Nat × Nat)) (h:∀ q∈oc,q.1<bx.length):evW code lib 32 [.flat (.string (S s)),.flat (.string (S mark))] bx (cl oc)=some ([.clo 48 [.ptr (bx.length+1) 0,.ptr bx.length 0]],false,bx++[(9,[.flat (.string (S s))]),(9,[.flat (.string (S mark))])],cl oc):=by
 refine evW_eq code_letter_bodies (Nat.le_of_ble_eq_true rfl) ?_
 have h3:¬ (bx.length+1+1=bx.length):=by omega
 have h4:underO (bx.length+1+1) (cl oc)=cl oc:=cl_under _ fun q hq=>by have:=h q hq;omega
 have h5:bx.length+1+1=bx.length+2:=rfl
 simp only [go_sem,simprocAttr,cl_keep,cl_owns,cl_cells,cl_drop,List.length_append,h3,Nat.lt_irrefl,h4,List.append_assoc]
end Nun
end
section
namespace Nun
open Go
theorem crAt_more {l:List UInt8} {k n:Nat} (h:crAt l=some k) (hn:k+2≤n) (m:List UInt8):crAt (l.take n++m)=some k:=by
 have hl:=crAt_lt h
 have e:∀ i:Nat,i<k+2→(l.take n++m)[i]? =l[i]? :=fun i hi=>by
  rw [List.getElem?_append_left (by rw [List.length_take];omega),List.getElem?_take_of_lt (by omega)]
 have h1:=crAt_some h
 refine crAt_of ⟨by rw [e k (by omega)];exact h1.1,by rw [e (k+1) (by omega)];exact h1.2⟩ fun i hi=>?_
 rw [e i (by omega),e (i+1) (by omega)]
 exact crAt_first h i hi
theorem run_more (n:Nat):∀ (l:List UInt8) (a:Nat) (st:List Fld × Bool) (f:List Fld) (t:Bool) (b:Nat),l.length≤n→runHead (itL l a) st=some (f,t,b) →
 a+2≤b∧b≤a+l.length∧∀ m,runHead (itL (l.take (b - a)++m) a) st=some (f,t,b):=by
 induction n with
 | zero =>
   intro l a st f t b hl h
   rw [List.eq_nil_of_length_eq_zero (l:=l) (by omega),itL_none rfl] at h;cases h
 | succ n ih =>
   intro l a st f t b hl h
   rcases hc:crAt l with _ | k
   ·rw [itL_none hc] at h;cases h
   ·have hlt:=crAt_lt hc
    rw [itL_some hc,runHead] at h
    by_cases hk:k=0
    ·subst hk
     rw [if_pos (by simp)] at h
     cases h
     refine ⟨by omega,by omega,fun m=>?_⟩
     rw [itL_some (crAt_more hc (by omega) m),runHead,if_pos (by simp)]
    ·have hne:l.take k≠[]:=by
      intro h0
      have:=congrArg List.length h0
      rw [List.length_take,List.length_nil] at this;omega
     rw [if_neg hne,if_neg hk] at h
     rcases hs:lineStep st (l.take k) with _ | st'
     ·rw [hs] at h;cases h
     ·rw [hs] at h
      obtain ⟨h1,h2,h3⟩:=ih (l.drop (k+2)) (a+k+2) st' f t b (by rw [List.length_drop];omega) h
      rw [List.length_drop] at h2
      refine ⟨by omega,by omega,fun m=>?_⟩
      have hd:(l.take (b - a)++m).drop (k+2)=(l.drop (k+2)).take (b - (a+k+2))++m:=by
       rw [List.drop_append_of_le_length (by rw [List.length_take];omega),List.drop_take,show b - a - (k+2)=b - (a+k+2) by omega]
      have ht:(l.take (b - a)++m).take k=l.take k:=by
       rw [List.take_append_of_le_length (by rw [List.length_take];omega),List.take_take,Nat.min_eq_left (by omega)]
      rw [itL_some (crAt_more hc (by omega) m),runHead,ht,if_neg hne,if_neg hk,hs,hd]
      exact h3 m
theorem split_more {l:List UInt8} {F:List Fld} {b:Nat} (h:splitL l=.ok F b):b≤l.length∧∀ m,splitL (l.take b++m)=.ok F b:=by
 unfold splitL at h ⊢
 rcases hr:runHead (itL l 0) ([],false) with _ | ⟨f,_ | _,b'⟩
 ·rw [hr] at h;cases h
 ·rw [hr] at h;cases h
  obtain ⟨_,h2,h3⟩:=run_more _ l 0 _ _ _ _ (Nat.le_refl _) hr
  exact ⟨by omega,fun m=>by have h4:=h3 m;rw [Nat.sub_zero] at h4;rw [h4]⟩
 ·rw [hr] at h;cases h
theorem runHead_len:∀ (xs:List (List UInt8 × Nat)) (st:List Fld × Bool) (f:List Fld) (t:Bool) (b:Nat),runHead xs st=some (f,t,b)→f.length≤st.1.length+xs.length
 | [],_,_,_,_,h=>by cases h
 | (ln,a)::r,st,f,t,b,h=>by
   rw [runHead] at h
   by_cases hl:ln=[]
   ·rw [if_pos hl] at h;cases h;exact Nat.le_add_right _ _
   ·rw [if_neg hl] at h
    rcases hs:lineStep st ln with _ | st'
    ·rw [hs] at h;cases h
    ·rw [hs] at h
     have h1:=runHead_len r st' f t b h
     have h2:st'.1.length≤st.1.length+1:=by
      unfold lineStep at hs
      split at hs
      ·cases hs
      ·split at hs
       ·split at hs
        ·cases hs
        ·cases hs
         simp
       ·split at hs
        ·cases hs
        ·split at hs
         ·cases hs;simp
         ·cases hs
     rw [List.length_cons];omega
theorem splitL_len {l:List UInt8} {F:List Fld} {b:Nat} (h:splitL l=.ok F b):F.length≤l.length:=by
 unfold splitL at h
 rcases hr:runHead (itL l 0) ([],false) with _ | ⟨f,_ | _,b'⟩
 ·rw [hr] at h;cases h
 ·rw [hr] at h;cases h
  have h1:=runHead_len _ _ _ _ _ hr
  have h2:=itL_count _ l 0 (Nat.le_refl _)
  rw [List.length_map];simp only [List.length_nil] at h1;omega
 ·rw [hr] at h;cases h
end Nun
end

/- LetterNests answers true for all numbers and flags, at any start: texts of this proof, merged. -/
import Derived.Test.YtmpiobfdchlikaaGreatDoorNe
import Derived.WalkKit
import Derived.WalkSpells
import Derived.WalkLawsBesides
import Derived.Lib.Hide
import Derived.BigQuiet
import Derived.Lib.QuietBelow
import Derived.ShutString
import Derived.Deep.Light
import Derived.Lib.UnsafeStr
import Derived.Lib.Strings
import Derived.Lib.IndexBytes
import Derived.Lib.IndexMore
import Derived.Lib.SlTrimSet
import Derived.Shelf.Strings.Builder1
import Derived.Shelf.Strings.Builder2
import Derived.Shelf.Strings.Trim
import Derived.Shelf.Small.Utf8
import Derived.Shelf.Small.Strs
import Derived.Shelf.Small.Wraps
import Derived.Shelf.Strings.BuilderF
import Derived.Shelf.Strings.BuilderK
import Derived.Shelf.Utf8.RuneCount
import Derived.Shelf.Strings.Builder2Cap
import Derived.Shelf.Strings.Search1
import Derived.Shelf.Strings.Search2
import Derived.Shelf.Strings.Search3
import Derived.Shelf.Strings.Cut
import Derived.Shelf.Strings.Count
import Derived.Shelf.LaysM
import Derived.Shelf.Strings.Shaped
import Derived.Shelf.Strings.LastIndex
import Derived.Shelf.Strings.Prefix
import Derived.Shelf.Strings.Split
import Derived.Shelf.Strings.Replace
import Derived.Shelf.Strings.SplitShaped
import Derived.Shelf.Unicode.Decode
import Derived.Shelf.Strings.Runes
import Derived.Shelf.Strings.RuneCount
import Derived.Shelf.Strings.AsciiSet
import Derived.Shelf.Unicode.DecodeSlow
import Derived.Shelf.Unicode.DecodeAny
import Derived.Shelf.Unicode.DecodeLast
import Derived.Shelf.Strings.BuilderCap
import Derived.Shelf.Slices.Turned
import Derived.Ground.PaProg
import Derived.Shelf.Path.Small
import Derived.Test.YtmpiobfdchlikaaGreatDoorProg
import Derived.Test.YtmpiobfdchlikaaGreatDoorRows
import Derived.Lib.FrozenHead2
import Derived.Lib.OthersKept
import Derived.Lib.Builder
import Derived.Laws.Externs
import Derived.Lib.Replace
set_option linter.unusedVariables false
set_option linter.unusedSimpArgs false
set_option maxHeartbeats 4000000
section
namespace Nun
open Go Go.RowKit
instance decU8 {p:UInt8→Prop} [DecidablePred p]:Decidable (∀ c,p c) :=
 decidable_of_iff (∀ i:Fin 256,p ⟨⟨i⟩⟩) ⟨fun h c=>h c.toBitVec.toFin,fun h i=>h _⟩
def Ret (v:Value) (w:World) (e:Ending) (w':World):Prop:=e=.returned v∧Below w.heap.size w w'
def Same (v:Value) (w:World) (e:Ending) (w':World):Prop:=e=.returned v∧w=w'
theorem r1 {v v':Value} (h:v=v'):Ending.returned v=.returned v':=by rw [h]
theorem t2 {a b c d:Value} (h:a=b) (h':c=d):Ending.returned (.tuple #[a,c])=.returned (.tuple #[b,d]):=by rw [h,h']
theorem t3 {a b c d e f:Value} (h:a=b) (h':c=d) (h'':e=f):Ending.returned (.tuple #[a,c,e])=.returned (.tuple #[b,d,f]):=by rw [h,h',h'']
theorem vi {k:IntKind} {a b:Int} (h:a=b):Value.int k a=.int k b:=by rw [h]
theorem vb {a b:Bool} (h:a=b):Value.bool a=.bool b:=by rw [h]
theorem vs {a b:List UInt8} (h:a=b):Value.string ⟨a.toArray⟩=.string ⟨b.toArray⟩:=by rw [h]
theorem vS {s:ByteArray} {b:List UInt8} (h:s.data.toList=b):Value.string s=.string ⟨b.toArray⟩:=by
 subst h;rfl
theorem ych {P:Program} {f:FuncId} {args:Array Value} {w:World} {v:Value} (h:Calls P f args w (Same v w)):Calls P f args w (Ret v w) :=
 h.mono fun _ _ ⟨he,hw⟩=>⟨he,hw ▸ Below.refl _ _⟩
theorem zv5 {P:Program} {f:FuncId} {args:Array Value} {w:World} {d:Nat} {os:Array Obj} {v:Value} (h:∀ w,Calls P f args w (Ret v w)) :
 Calls P f args (Go.Sort.grow (redrawn w d) os) fun e w''=>e=.returned v∧∃ p:Regrown,w''=Go.Sort.grow (redrawn w p.d) p.os:=Calls.regrown_of (h _)
theorem z10 {P:Program} {f:FuncId} {args:Array Value} {w:World} {d:Nat} {os:Array Obj} {v:Value} (h:∀ w,Calls P f args w (Same v w)) :
 Calls P f args (Go.Sort.grow (redrawn w d) os) fun e w''=>e=.returned v∧∃ p:Regrown,w''=Go.Sort.grow (redrawn w p.d) p.os:=zv5 fun w=>ych (h w)
theorem below_drewN' (w:World) (n:Nat):Below w.heap.size w (w.drewN n):=⟨rfl,rfl,rfl,Nat.le_refl _,fun _ _=>rfl⟩
theorem yci {w w1 w2:World} (h:Below w.heap.size w w1) (k:Below w1.heap.size w1 w2):Below w.heap.size w w2:=h.trans (k.mono h.size)
theorem zx7 {P:Program} {ops:Array Oper} {rest:List Oper} {o:Oper} {a:Act} {Q:Exit→Act→World→Prop} (hgd:o.guard=none) (s x:Operand) (t:TypeId)
 (ho:o.op=.call { callee:=.builtin .append,args:=#[s,x],argTypes:=#[t,t] })
 (e:TypeId) (z:Value) (size bytes:Nat) (ht:P.underlying t=some (.slice e)) (hi:(P.info? e).map (fun i=>(i.zero,i.size,i.bytes))=some (some z,size,bytes))
 (hzs:z.cells.size=size) (hsz:0<size) (B:Nat) (w:World) (v:Value) (n:Nat) (xs:List Value) (hs:a.eval s=v) (hown:w.ownsRow B e size v n xs)
 (cells:List Value) (hcs:cells.length=size) (h1:∀ u∈cells,u.oneCell'=true) (hx:a.eval x=.slice (some ⟨w.heap.size,0,none⟩) 1 1)
 (hmax:(n+1) * bytes≤140737488355328) (hn:n+1≤140737488355328) (hB:B≤w.heap.size)
 (h:∀ g cap w',B≤g→w'.ownsRow B e size (.slice (some ⟨g,0,none⟩) (n+1) cap) (n+1) (xs++cells)→w.grownBy w' v.ownBlock→Below B w w'→w.heap.size<w'.heap.size →
   wpList P ops Q rest (a.put o.dst (.slice (some ⟨g,0,none⟩) (n+1) cap)) w') :
 wpList P ops Q (o::rest) a (w.alloc (.cells cells.toArray e)):=by
 obtain ⟨i0,hi0,hz0,hz1,hz2⟩:=info_parts hi
 refine wpList_append_own _ hgd s x t ho B e i0 z size bytes ht hi0 hz0 hz1 hz2 hzs hsz v n xs hs (hown.alloc _) ⟨w.heap.size,0,none⟩ 1 1 cells hx (by omega) ?_ h1 (by unfold maxLen;omega) hmax (by simp;omega) ?_
 ·intro j u hu
  have:(w.alloc (.cells cells.toArray e)).heap[w.heap.size]? =some (.cells cells.toArray e (0,0)):=heap_alloc_new w _
  have hadd:(⟨w.heap.size,0,none⟩:Addr).add j=⟨w.heap.size,j,none⟩:=by unfold Addr.add;split<;>simp_all
  rw [hadd,cell_of_row _ _ _ _ _ _ this];simpa using hu
 ·intro v' w' hown' hg _
  have hB2:Below B w w':=(((Below.refl B w).alloc hB _).grown hg (by simp;omega) (fun k hk=>(hown.lt k hk).1))
  have hsz:=hg.size
  simp at hsz
  rcases hown'.2 with ⟨_,h0⟩ | ⟨g,cap,cur,rfl,hg0,r⟩
  ·omega
  ·exact h g cap w' hg0 hown' ⟨hg.os,hg.tape,hg.output,by omega,fun k hk hne=>(hg.block k (by simp;omega) hne).trans (Lib.alloc_old w _ k hk)⟩ hB2 (by omega)
theorem zg8 {P:Program} {src dst e:TypeId} (hs:P.underlying src=some (.slice e)) (he:P.underlying e=some (.int .u8)) (hd:P.underlying dst=some .string) {w:World} {B:Nat} {v:Value} {l:List UInt8}
 (h:w.ownsRow B e 1 v l.length (Lib.byteCells l)):(convert src dst v).run P w=.ok (.string ⟨l.toArray⟩) w:=by
 rcases h.2 with ⟨rfl,h0⟩ | ⟨g,cap,cur,rfl,r⟩
 ·have:l=[]:=by simpa using h0
  subst this
  exact run_convert_bytes_nil (w:=w) src e hs he 0 0 dst hd
 ·refine run_convert_bytes_back _ src dst e ⟨g,0,none⟩ cap l hs he hd fun j hj=>?_
  exact h.cells (g:=g) rfl j _ (by simp [Lib.byteCells,hj])
def OwnB (B:Nat) (e:TypeId) (v:Value) (l:List UInt8) (w:World):Prop:=w.ownsRow B e 1 v l.length (Lib.byteCells l)
theorem OwnB.nil (B:Nat) (e:TypeId) (w:World):OwnB B e (.slice none 0 0) [] w:=World.ownsRow_nil _ _ _ _
theorem OwnB.kept {B:Nat} {e:TypeId} {v:Value} {l:List UInt8} {w w':World} (h:OwnB B e v l w) (k:Below w.heap.size w w'):OwnB B e v l w' :=
 World.ownsRow.kept (row:=none) h ⟨k.os,k.tape,k.output,k.size,fun i hi _=>k.block i hi⟩ (by cases v.ownBlock<;>simp)
theorem OwnB.made {B:Nat} {e:TypeId} (w:World) (hB:B≤w.heap.size) (cap:Nat) (cs:Array Value) (hc:cs.size=cap) (hm:cap≤maxLen):OwnB B e (.slice (some ⟨w.heap.size,0,none⟩) 0 cap) [] (w.alloc (.cells cs e)) :=
 World.ownsRow_made w cs cap hB hm (by omega)
theorem byteCells_snoc (l:List UInt8) (c:UInt8):Lib.byteCells (l++[c])=Lib.byteCells l++[.int .u8 c.toNat]:=by simp [Lib.byteCells]
theorem zjv {P:Program} {ops:Array Oper} {rest:List Oper} {o:Oper} {a:Act} {Q:Exit→Act→World→Prop} (hgd:o.guard=none) (s x:Operand) (t:TypeId)
 (ho:o.op=.call { callee:=.builtin .append,args:=#[s,x],argTypes:=#[t,t] })
 (e:TypeId) (ht:P.underlying t=some (.slice e)) (hi:(P.info? e).map (fun i=>(i.zero,i.size,i.bytes))=some (some (.int .u8 0),1,1))
 (B:Nat) (w:World) (v:Value) (l:List UInt8) (hs:a.eval s=v) (hown:OwnB B e v l w) (c:UInt8)
 (hx:a.eval x=.slice (some ⟨w.heap.size,0,none⟩) 1 1) (hmax:l.length+1≤140737488355328) (hB:B≤w.heap.size)
 (h:∀ g cap w',B≤g→OwnB B e (.slice (some ⟨g,0,none⟩) (l.length+1) cap) (l++[c]) w'→w.grownBy w' v.ownBlock→Below B w w'→w.heap.size<w'.heap.size →
   wpList P ops Q rest (a.put o.dst (.slice (some ⟨g,0,none⟩) (l.length+1) cap)) w') :
 wpList P ops Q (o::rest) a (w.alloc (.cells #[.int .u8 c.toNat] e)) :=
 zx7 hgd s x t ho e (.int .u8 0) 1 1 ht hi rfl (by decide) B w v _ _ hs hown [.int .u8 c.toNat] rfl (by simp [Value.oneCell']) hx (by omega) (by omega) hB
  fun g cap w' h1 h2 h3 h4 h5=>h g cap w' h1 (by unfold OwnB;rw [byteCells_snoc,List.length_append];exact h2) h3 h4 h5
theorem zug (l:List UInt8):(ByteArray.mk l.toArray).size=l.length:=rfl
end Nun
end
section
namespace Nun
def zal (c:UInt8):Bool:=c == 32 || c == 9
def zoy (c:UInt8):Bool:=(65≤c && c≤90) || (97≤c && c≤122) || (48≤c && c≤57) || c == 45
def zgv (l:List UInt8):Bool:=!l.isEmpty && decide (l.length≤32) && l.all zoy
def zd6 (c:UInt8):Bool:=c == 9 || (32≤c && c≤126)
def zqt (c:UInt8):UInt8:=if 65≤c && c≤90 then c+32 else c
def zab (l:List UInt8):List UInt8:=l.map zqt
def zen (l:List UInt8):List UInt8:=(l.reverse.dropWhile zal).reverse
def trimB (l:List UInt8):List UInt8:=zen (l.dropWhile zal)
def crAt:List UInt8→Option Nat
 | []=>none
 | c::r=>if c=13∧r.head? =some 10 then some 0 else (crAt r).map (·+1)
theorem zgw:∀ {l:List UInt8} {k:Nat},crAt l=some k→k+2≤l.length
 | c::r,k,h=>by
   rw [crAt] at h
   split at h
   ·rename_i hc
    cases h
    match r,hc with
    | d::r,_=>simp
   ·rcases hr:crAt r with _ | j
    ·rw [hr] at h;cases h
    ·rw [hr] at h
     have:=zgw hr
     cases h;simp;omega
theorem zm2:∀ {l:List UInt8} {k:Nat},crAt l=some k→l[k]? =some 13∧l[k+1]? =some 10
 | c::r,k,h=>by
   rw [crAt] at h
   split at h
   ·rename_i hc
    cases h
    match r,hc with
    | d::r,hc=>simp at hc ⊢;exact hc
   ·rcases hr:crAt r with _ | j
    ·rw [hr] at h;cases h
    ·rw [hr] at h
     have:=zm2 hr
     cases h;simpa using this
theorem zk5:∀ {l:List UInt8} {k:Nat},crAt l=some k→∀ i:Nat,i<k→¬ (l[i]? =some 13∧l[i+1]? =some 10)
 | c::r,k,h,i,hi=>by
   rw [crAt] at h
   split at h
   ·cases h;omega
   ·rename_i hc
    rcases hr:crAt r with _ | j
    ·rw [hr] at h;cases h
    ·rw [hr] at h
     obtain rfl:j+1=k:=by simpa using h
     match i with
     | 0 =>
       intro hh;apply hc
       simp at hh
       exact ⟨hh.1,by rw [List.head?_eq_getElem?];exact hh.2⟩
     | i+1=>simpa using zk5 hr i (by omega)
theorem zqu:∀ {l:List UInt8},crAt l=none→∀ i:Nat,¬ (l[i]? =some 13∧l[i+1]? =some 10)
 | [],_,i=>by simp
 | c::r,h,i=>by
   rw [crAt] at h
   split at h
   ·cases h
   ·rename_i hc
    have hr:crAt r=none:=by simpa using h
    match i with
    | 0 =>
      intro hh;apply hc
      simp at hh
      exact ⟨hh.1,by rw [List.head?_eq_getElem?];exact hh.2⟩
    | i+1=>simpa using zqu hr i
theorem yiy {l:List UInt8} {k:Nat} (h:l[k]? =some 13∧l[k+1]? =some 10) (hf:∀ i:Nat,i<k→¬ (l[i]? =some 13∧l[i+1]? =some 10)):crAt l=some k:=by
 rcases hc:crAt l with _ | j
 ·exact absurd h (zqu hc k)
 ·have h1:=zm2 hc
  have h2:=zk5 hc
  congr 1
  rcases Nat.lt_trichotomy j k with hlt | rfl | hlt
  ·exact absurd h1 (hf j hlt)
  ·rfl
  ·exact absurd h (h2 k hlt)
theorem zsq:∀ l:List UInt8,Go.Lib.index l [13,10]=match crAt l with | some k=>(k:Int) | none=>-1
 | []=>rfl
 | c::r=>by
   rw [Go.Lib.index,zsq r,crAt]
   have hp:List.isPrefixOf [13,10] (c::r)=decide (c=13∧r.head? =some 10):=by
    match r with
    | []=>simp [List.isPrefixOf]
    | d::r=>rw [Bool.eq_iff_iff];simp [List.isPrefixOf];constructor<;>(rintro ⟨rfl,rfl⟩;exact ⟨rfl,rfl⟩)
   rw [hp]
   by_cases h:c=13∧r.head? =some 10
   ·simp [h]
   ·rw [if_neg (by simpa using h),if_neg h]
    rcases crAt r with _ | j
    ·simp
    ·simp
theorem zzw (l:List UInt8):Go.Lib.cut l [13,10]=match crAt l with | some k=>(l.take k,l.drop (k+2),true) | none=>(l,[],false):=by
 unfold Go.Lib.cut
 rw [zsq]
 rcases h:crAt l with _ | k
 ·simp
 ·simp
def zdp (b:UInt8):List UInt8→Option Nat
 | []=>none
 | c::r=>if c=b then some 0 else (zdp b r).map (·+1)
theorem zm3 {b:UInt8}:∀ {l:List UInt8} {k:Nat},zdp b l=some k→k<l.length
 | c::r,k,h=>by
   rw [zdp] at h
   split at h
   ·cases h;simp
   ·rcases hr:zdp b r with _ | j
    ·rw [hr] at h;cases h
    ·rw [hr] at h
     have:=zm3 hr
     cases h;simp;omega
theorem zqv {b:UInt8}:∀ {l:List UInt8} {k:Nat},zdp b l=some k→l[k]? =some b
 | c::r,k,h=>by
   rw [zdp] at h
   split at h
   ·rename_i hc;cases h;simp [hc]
   ·rcases hr:zdp b r with _ | j
    ·rw [hr] at h;cases h
    ·rw [hr] at h
     have:=zqv hr
     cases h;simpa using this
theorem zol {b:UInt8}:∀ {l:List UInt8} {k:Nat},zdp b l=some k→∀ i:Nat,i<k→l[i]? ≠some b
 | c::r,k,h,i,hi=>by
   rw [zdp] at h
   split at h
   ·cases h;omega
   ·rename_i hc
    rcases hr:zdp b r with _ | j
    ·rw [hr] at h;cases h
    ·rw [hr] at h
     obtain rfl:j+1=k:=by simpa using h
     match i with
     | 0=>simpa using hc
     | i+1=>simpa using zol hr i (by omega)
theorem zqw {b:UInt8}:∀ {l:List UInt8},zdp b l=none→∀ i:Nat,l[i]? ≠some b
 | [],_,i=>by simp
 | c::r,h,i=>by
   rw [zdp] at h
   split at h
   ·cases h
   ·rename_i hc
    have hr:zdp b r=none:=by simpa using h
    match i with
    | 0=>simpa using hc
    | i+1=>simpa using zqw hr i
theorem zsr (b:UInt8):∀ l:List UInt8,Go.Lib.index l [b]=match zdp b l with | some k=>(k:Int) | none=>-1
 | []=>rfl
 | c::r=>by
   rw [Go.Lib.index,zsr b r,zdp]
   have hp:List.isPrefixOf [b] (c::r)=decide (c=b):=by
    rw [Bool.eq_iff_iff];simp [List.isPrefixOf];exact ⟨fun h=>h.symm,fun h=>h.symm⟩
   rw [hp]
   by_cases h:c=b
   ·simp [h]
   ·rw [if_neg (by simpa using h),if_neg h]
    rcases zdp b r with _ | j
    ·simp
    ·simp
theorem zzx (b:UInt8) (l:List UInt8):Go.Lib.cut l [b]=match zdp b l with | some k=>(l.take k,l.drop (k+1),true) | none=>(l,[],false):=by
 unfold Go.Lib.cut
 rw [zsr]
 rcases h:zdp b l with _ | k
 ·simp
 ·simp
abbrev Fld:=List UInt8 × List UInt8
def za6 (st:List Fld × Bool) (l:List UInt8):Option (List Fld × Bool) :=
 if l.all zd6=false then none
 else if (l.head?.map zal).getD false then
  (match st.1.getLast? with
   | none=>none
   | some p=>some (st.1.dropLast++[(p.1,p.2++l)],st.2 || decide (998<l.length)))
 else match zdp 58 l with
  | none=>none
  | some k=>if zgv (l.take k) then some (st.1++[(l.take k,l.drop (k+1))],st.2 || decide (998<l.length)) else none
def itL (l:List UInt8) (at_:Nat):List (List UInt8 × Nat) :=
 match h:crAt l with
 | none=>[]
 | some k=>(l.take k,at_+k+2)::if k=0 then [] else itL (l.drop (k+2)) (at_+k+2)
termination_by l.length
decreasing_by have:=zgw h;simp;omega
theorem zex {l:List UInt8} {a:Nat} (h:crAt l=none):itL l a=[]:=by
 rw [itL];split
 ·rfl
 ·rename_i h';rw [h] at h';cases h'
theorem zg9 {l:List UInt8} {a k:Nat} (h:crAt l=some k):itL l a=(l.take k,a+k+2)::if k=0 then [] else itL (l.drop (k+2)) (a+k+2):=by
 rw [itL];split
 ·rename_i h';rw [h] at h';cases h'
 ·rename_i h';rw [h] at h';cases h';rfl
theorem yiz (n:Nat):∀ (l:List UInt8) (a:Nat),l.length≤n→∀ x∈itL l a,2≤x.2:=by
 induction n with
 | zero =>
   intro l a h x hx
   rw [qz (l:=l) (by omega),zex rfl] at hx;cases hx
 | succ n ih =>
   intro l a h x hx
   rcases hc:crAt l with _ | k
   ·rw [zex hc] at hx;cases hx
   ·have:=zgw hc
    rw [zg9 hc] at hx
    rcases List.mem_cons.1 hx with rfl | hx
    ·show 2≤a+k+2;omega
    ·by_cases hk:k=0
     ·rw [if_pos hk] at hx;cases hx
     ·rw [if_neg hk] at hx;exact ih _ _ (by rw [List.length_drop];omega) x hx
theorem zqx (n:Nat):∀ (l:List UInt8) (a:Nat),l.length≤n→(itL l a).length≤l.length:=by
 induction n with
 | zero =>
   intro l a h
   rw [qz (l:=l) (by omega),zex rfl];simp
 | succ n ih =>
   intro l a h
   rcases hc:crAt l with _ | k
   ·rw [zex hc];simp
   ·have:=zgw hc
    rw [zg9 hc,List.length_cons]
    by_cases hk:k=0
    ·rw [if_pos hk];simp;omega
    ·rw [if_neg hk]
     have h2:=ih (l.drop (k+2)) (a+k+2) (by rw [List.length_drop];omega)
     rw [List.length_drop] at h2;omega
theorem z6h (n:Nat):∀ (l:List UInt8) (a:Nat),l.length≤n→∀ x∈itL l a,x.1.length≤l.length:=by
 induction n with
 | zero =>
   intro l a h x hx
   rw [qz (l:=l) (by omega),zex rfl] at hx;cases hx
 | succ n ih =>
   intro l a h x hx
   rcases hc:crAt l with _ | k
   ·rw [zex hc] at hx;cases hx
   ·have:=zgw hc
    rw [zg9 hc] at hx
    rcases List.mem_cons.1 hx with rfl | hx
    ·show (l.take k).length≤l.length;rw [List.length_take];omega
    ·by_cases hk:k=0
     ·rw [if_pos hk] at hx;cases hx
     ·rw [if_neg hk] at hx
      have h2:=ih _ _ (by rw [List.length_drop];omega) x hx
      rw [List.length_drop] at h2;omega
def zb6:List (List UInt8 × Nat)→List Fld × Bool→Option (List Fld × Bool × Nat)
 | [],_=>none
 | (ln,a)::r,st=>if ln=[] then some (st.1,st.2,a) else match za6 st ln with | none=>none | some st'=>zb6 r st'
def zck (ls:List (List UInt8)) (st:List Fld × Bool):Option (List Fld × Bool):=ls.foldlM za6 st
theorem zqy (ls:List (List UInt8)) (l:List UInt8) (st:List Fld × Bool):zck (ls++[l]) st=(zck ls st).bind fun s=>za6 s l:=by
 unfold zck;rw [List.foldlM_append];simp [List.foldlM_cons,List.foldlM_nil]
theorem zqz:∀ (xs r:List (List UInt8 × Nat)) (st st':List Fld × Bool),(∀ x∈xs,x.1≠[])→zck (xs.map (·.1)) st=some st'→zb6 (xs++r) st=zb6 r st'
 | [],r,st,st',_,h=>by simp [zck] at h;rw [h];rfl
 | (ln,a)::xs,r,st,st',hne,h=>by
   have hn:ln≠[]:=hne (ln,a) (by simp)
   rw [List.map_cons,zck,List.foldlM_cons] at h
   obtain ⟨s1,h1,h2⟩:=qb h
   rw [List.cons_append,zb6,if_neg hn,h1]
   exact zqz xs r s1 st' (fun x hx=>hne x (by simp [hx])) h2
inductive Split where
 | form
 | long
 | ok (l:List Fld) (body:Nat)
def zba (l:List UInt8):Split:=match zb6 (itL l 0) ([],false) with
 | none=>.form
 | some (_,true,_)=>.long
 | some (f,false,b)=>.ok (f.map fun p=>(p.1,trimB p.2)) b
end Nun
end
section
namespace Nun
open Go Go.RowKit Go.Proofs Go.Proofs.YtmpiobfdchlikaaGreatDoor
variable {lib:Callee}
def zac:List Fld→List PV
 | []=>[]
 | (a,b)::l=>.flat (.string (S a))::.flat (.string (S b))::zac l
theorem zak:∀ F:List Fld,zcb (zac F)=true
 | []=>rfl
 | (a,b)::l=>by show zcb (.flat (.string (S a))::.flat (.string (S b))::zac l)=true;simp only [zcb,PV.noPtr,zak l,Bool.true_and]
theorem zae {n:Nat}:∀ F:List Fld,lows n (zac F)=true
 | []=>rfl
 | (a,b)::l=>by show lows n (.flat (.string (S a))::.flat (.string (S b))::zac l)=true;simp only [lows,PV.low,zae l,Bool.true_and]
theorem zeh:∀ F:List Fld,(zac F).length=F.length * 2
 | []=>rfl
 | (a,b)::l=>by simp only [zac,List.length_cons,zeh l];omega
theorem zgf:∀ {F:List Fld} {k:Nat} {a b:Str} {r:List Fld},F.drop k=(a,b)::r→(zac F).drop (k * 2)=.flat (.string (S a))::.flat (.string (S b))::zac r
 | (x,y)::l,0,a,b,r,h=>by
   simp only [List.drop_zero,List.cons.injEq,Prod.mk.injEq] at h
   obtain ⟨⟨rfl,rfl⟩,rfl⟩:=h
   rfl
 | (x,y)::l,k+1,a,b,r,h=>by
   rw [show (k+1) * 2=k * 2+1+1 by omega]
   simp only [zac,List.drop_succ_cons]
   exact zgf h
 | [],k,a,b,r,h=>by simp at h
def zq0 (lib:Callee):Prop:=∀ s:Str,s.length≤1000000→lib 73 [.flat (.string (S s))] [] []=some ([.flat (.string (S (zab s)))],false,[],[])
def zjd (lib:Callee):Prop:=∀ s t:Str,s.length≤1000000→t.length≤1000000→lib 126 [.flat (.string (S s)),.flat (.string (S t))] [] []=some ([.flat (.bool (zab s == zab t))],false,[],[])
theorem zje (H:zq0 lib) (s:Str) (h:s.length≤1000000):evW code lib 73 [.flat (.string (S s))] [] []=some ([.flat (.string (S (zab s)))],false,[],[]):=zd3 (by decide) (by kernel_rfl) (H s h)
theorem zzy (H:zjd lib) (s t:Str) (hs:s.length≤1000000) (ht:t.length≤1000000):evW code lib 126 [.flat (.string (S s)),.flat (.string (S t))] [] []=some ([.flat (.bool (zab s == zab t))],false,[],[]):=zd3 (by decide) (by kernel_rfl) (H s t hs ht)
theorem zbj (e:Nat):evW code lib 70 [.flat (.bool true),.flat (.int .i64 (e:Nat))] [] []=some ([],false,[],[]):=by
 refine zbw zox (Nat.le_of_ble_eq_true rfl) ?_
 simp (maxSteps:=999999) (disch:=first | assumption | omega) only [go_sem,simprocAttr,au]
def zx8 (c:UInt8):Bool:=!(((decide (c.toNat<48) || decide (57<c.toNat)) && (decide ((c.toNat ||| 32)<97) || decide (122<(c.toNat ||| 32)))) && !([45,95,61,46]:Str).contains c)
def zht (s:Str):Bool:=s.all zx8 && (!decide (s=[]) && decide (s.length≤70))
theorem zio (HI:zll lib) (s:Str) (hs:s.length≤1000000000):evW code lib 76 [.flat (.string (S s))] [] []=some ([.flat (.bool (zht s))],false,[],[]):=by
 have hloop:=zhs (body:=evC (evW code lib) big zf3) (live:=[0,6,7]) (nb:=0) (fun (_:Unit) k=>⟨[(0,.flat (.string (S s))),(6,.flat (.int .i64 (s.length:Nat))),(7,.flat (.int .i64 (k:Nat)))],[],[],[]⟩) s (fun _ _=>True)
  (fun _ k x=>if zx8 x then .inl () else .inr (.ret,⟨[(2,.flat (.bool false))],[],[],[]⟩)) (fun _=>(.exit 0,⟨[(0,.flat (.string (S s)))],[],[],[]⟩)) (fun _ k c _ hk hc hd=>?_) (fun _ _=>by simp only [go_sem,simprocAttr]) (fun _ _ _ _ _ _ _ _=>trivial) (fun _ _ x r h=>by split at h<;>simp at h;rw [← h];simp) (fun _ _=>?_) (fun _=>by simp) () trivial (by unfold big;omega)
 ·rw [zm0] at hloop
  simp only [n0] at hloop
  unfold zht
  refine zbw zmx (Nat.le_of_ble_eq_true rfl) ?_
  cases ha:s.all zx8 with
  | false =>
    simp only [ha,Bool.false_eq_true,if_false] at hloop
    simp only [Bool.false_and]
    simp (maxSteps:=999999) (disch:=first | assumption | omega) only [go_sem,simprocAttr,au,hloop]
  | true =>
    simp only [ha,if_true] at hloop
    simp only [Bool.true_and]
    by_cases he:s=[]
    ·have he':(s=[])=True:=eq_true he
     simp only [he',decide_true,Bool.not_true,Bool.false_and]
     simp (maxSteps:=999999) (disch:=first | assumption | omega) only [go_sem,simprocAttr,au,hloop,he']
    ·have he':(s=[])=False:=eq_false he
     simp only [he',decide_false,Bool.not_false,Bool.true_and]
     rcases Classical.em (s.length≤70) with h70 | h70
     ·simp only [h70,decide_true]
      simp (maxSteps:=999999) (disch:=first | assumption | omega) only [go_sem,simprocAttr,au,hloop,he']
     ·simp only [h70,decide_false]
      simp (maxSteps:=999999) (disch:=first | assumption | omega) only [go_sem,simprocAttr,au,hloop,he']
 ·have hb:=zqm HI [45,95,61,46] c (by decide)
  have hin:=yec c [45,95,61,46]
  have hcb:=c.toNat_lt
  have o1:yb2 .u8 (c.toNat:Int) 32=((c.toNat ||| 32:Nat):Int):=u8_or c.toNat 32 (by omega) (by omega)
  unfold zx8
  rw [← hin]
  obtain ⟨m,hm⟩:∃ m,c.toNat ||| 32=m:=⟨_,rfl⟩
  obtain ⟨n,hn⟩:∃ n,c.toNat=n:=⟨_,rfl⟩
  rw [hm] at o1 ⊢
  rw [hn] at o1 hb ⊢
  clear hin hm
  cases hat:at1 c [45,95,61,46] with
  | none =>
    simp only [hat] at hb
    simp only [Option.isSome_none]
    rcases Classical.em (n<48) with a1 | a1<;>rcases Classical.em (57<n) with a2 | a2<;>rcases Classical.em (m<97) with a3 | a3<;>rcases Classical.em (122<m) with a4 | a4
    all_goals first | (exfalso;omega) | skip
    all_goals
     simp (maxSteps:=999999) (disch:=first | assumption | omega) only [go_sem,simprocAttr,au,zfp,hc,hn,hb,o1]
  | some i =>
    simp only [hat] at hb
    simp only [Option.isSome_some]
    rcases Classical.em (n<48) with a1 | a1<;>rcases Classical.em (57<n) with a2 | a2<;>rcases Classical.em (m<97) with a3 | a3<;>rcases Classical.em (122<m) with a4 | a4
    all_goals first | (exfalso;omega) | skip
    all_goals
     simp (maxSteps:=999999) (disch:=first | assumption | omega) only [go_sem,simprocAttr,au,zfp,hc,hn,hb,o1]
 ·simp (maxSteps:=999999) (disch:=first | assumption | omega) only [go_sem,simprocAttr,au,zfp]
def getS (n:Str):List Fld→Str × Nat→Str × Nat
 | [],q=>q
 | (a,b)::l,q=>if zab a == zab n then getS n l (if q.2=0 then b else q.1,q.2+1) else getS n l q
def getU (n:Str) (F:List Fld):Str × Nat:=getS n F ([],0)
def ziq (F:List Fld):Prop:=F.length≤1000000∧∀ f∈F,f.1.length≤1000000∧f.2.length≤1000000
theorem zpe {n:Str} {fin:Str × Nat→Out × St}:∀ (L:List Fld) (k:Nat) (q:Str × Nat),zhx (fun (q:Str × Nat) _ (x:Fld)=>(if zab x.1 == zab n then .inl (if q.2=0 then x.2 else q.1,q.2+1) else .inl q:(Str × Nat) ⊕ (Out × St))) fin q k L=fin (getS n L q)
 | [],k,q=>rfl
 | (a,b)::t,k,q=>by
   rw [zhx,getS]
   cases h:zab a == zab n with
   | true=>simp only [h,if_true];exact zpe t _ _
   | false=>simp only [h,Bool.false_eq_true,if_false];exact zpe t _ _
theorem zjq (HA:zjd lib) (F:List Fld) (n:Str) (hF:ziq F) (hn:n.length≤1000000):evW code lib 72 [.slc F.length (zac F),.flat (.string (S n))] [] []=some ([.flat (.string (S (getU n F).1)),.flat (.int .i64 ((getU n F).2:Nat))],false,[],[]):=by
 have hloop:=zhs (body:=evC (evW code lib) big zka) (live:=[1,6,7,10,11,12]) (nb:=0) (fun (q:Str × Nat) k=>⟨[(1,.flat (.string (S n))),(6,.flat (.string (S q.1))),(7,.flat (.int .i64 (q.2:Nat))),(10,.slc F.length (zac F)),(11,.flat (.int .i64 (F.length:Nat))),(12,.flat (.int .i64 (k:Nat)))],[],[],[]⟩) F (fun q k=>q.2≤k)
  (fun q k x=>if zab x.1 == zab n then .inl (if q.2=0 then x.2 else q.1,q.2+1) else .inl q) (fun q=>(.exit 0,⟨[(6,.flat (.string (S q.1))),(7,.flat (.int .i64 (q.2:Nat)))],[],[],[]⟩)) (fun q k c hq hk hc hd=>?_) (fun _ _=>by simp only [go_sem,simprocAttr]) (fun q k x a' hq _ _ h=>by split at h<;>cases h<;>first | omega | (dsimp only;omega)) (fun _ _ x r h=>by split at h<;>cases h) (fun q _=>?_) (fun _=>by simp) ([],0) (Nat.le_refl _) (by have:=hF.1;unfold big;omega)
 ·rw [zpe] at hloop
  simp only [n0] at hloop
  unfold getU
  refine zbw zt9 (Nat.le_of_ble_eq_true rfl) ?_
  have hFl:=hF.1
  generalize getS n F ([],0)=R at *
  obtain ⟨v,m⟩:=R
  simp (maxSteps:=999999) (disch:=first | assumption | omega) only [go_sem,simprocAttr,au,hloop]
 ·obtain ⟨a,b⟩:=c
  obtain ⟨v,m⟩:=q
  have hFl:=hF.1
  have hab:=hF.2 (a,b) (List.mem_of_getElem? hc)
  have hA:=zzy HA a n hab.1 hn
  have hat:=zgf hd
  have hlen:=zeh F
  have hl2:((zac F).drop (k * 2)).length=(F.length - k) * 2:=by rw [List.length_drop,hlen];omega
  dsimp only at hq ⊢
  have hlow:=fun n=>zae (n:=n) F
  clear hF hab hlen HA hd hc
  generalize F.drop (k+1)=fr at *
  generalize zac fr=fg at *
  cases hfo:zab a == zab n with
  | true =>
    rw [hfo] at hA
    simp only [if_true]
    by_cases hm:m=0
    ·subst hm
     simp (maxSteps:=999999) (disch:=first | assumption | omega) only [go_sem,simprocAttr,au,zg6,hat,hA,hlow]
    ·have hm':((m:Int)=0)=False:=by apply eq_false;omega
     simp only [hm,if_false]
     simp (maxSteps:=999999) (disch:=first | assumption | omega) only [go_sem,simprocAttr,au,zg6,hat,hA,hm',hlow]
  | false =>
    rw [hfo] at hA
    simp only [Bool.false_eq_true,if_false]
    simp (maxSteps:=999999) (disch:=first | assumption | omega) only [go_sem,simprocAttr,au,zg6,hat,hA,hlow]
 ·simp (maxSteps:=999999) (disch:=first | assumption | omega) only [go_sem,simprocAttr,au,zg6]
end Nun
end
section
namespace Go.Proofs
open Go.Shelf
def Tryz.lays169_ren:Go.Shelf.Ren:=⟨fun | 169=>28 | n=>n,fun | 70=>57 | 9=>9 | 0=>0 | 72=>59 | 37=>44 | 127=>93 | 3=>3 | 5=>5 | n=>n,fun | n=>n⟩
theorem Tryz.lays169:Go.Proofs.Lays.n169 Tryz.prog Tryz.lays169_ren:={
 mixed:=by kernel_rfl
 f169:=Tryz.func28.trans (congrArg some (by kernel_rfl))
 t0:=Tryz.underlying0
 a0:=Tryz.isAgg0
 z0:=Tryz.sizeOf0
 v0:=Tryz.zeroValue0
 t3:=Tryz.underlying3
 a3:=Tryz.isAgg3
 z3:=Tryz.sizeOf3
 v3:=Tryz.zeroValue3
 t9:=Tryz.underlying9
 a9:=Tryz.isAgg9
 z9:=Tryz.sizeOf9
 v9:=Tryz.zeroValue9
 t37:=Tryz.underlying44
 a37:=Tryz.isAgg44
 z37:=Tryz.sizeOf44
 v37:=Tryz.zeroValue44
 t70:=Tryz.underlying57
 a70:=Tryz.isAgg57
 z70:=Tryz.sizeOf57
 v70:=Tryz.zeroValue57
 t72:=Tryz.underlying59
 a72:=Tryz.isAgg59
 z72:=Tryz.sizeOf59
 v72:=Tryz.zeroValue59
 t127:=Tryz.underlying93
 a127:=Tryz.isAgg93
 z127:=Tryz.sizeOf93
 v127:=Tryz.zeroValue93 }
theorem Tryz.Builder_Extra_169:Builder.Extra Tryz.prog Tryz.lays169_ren:={
 sizeBuilder:=by kernel_rfl
 liesBuilder:=by kernel_rfl
 t5:=Tryz.underlying5
 a5:=Tryz.isAgg5
 z5:=Tryz.sizeOf5
 v5:=Tryz.zeroValue5
 infoByte:=by kernel_rfl
 cellsByte:=by kernel_rfl
 sizeByte:=by kernel_rfl
 neB5:=by decide }
def Tryz.lays161_ren:Go.Shelf.Ren:=⟨fun | 161=>209 | 231=>202 | 227=>204 | 233=>205 | 235=>207 | 228=>225 | 197=>185 | 151=>226 | 260=>217 | 152=>230 | 137=>32 | 119=>232 | 224=>166 | 225=>165 | 217=>55 | 266=>105 | n=>n,fun | 9=>9 | 4=>4 | 3=>3 | 5=>5 | 117=>225 | 116=>224 | 0=>0 | 124=>228 | 105=>151 | 21=>21 | 119=>241 | 46=>155 | 139=>244 | 138=>243 | n=>n,fun | 3=>2 | 4=>3 | n=>n⟩
theorem Tryz.lays161:Go.Proofs.Lays.n161 Tryz.prog Tryz.lays161_ren:={
 mixed:=by kernel_rfl
 f119:=Tryz.func232.trans (congrArg some (by kernel_rfl))
 f137:=Tryz.func32.trans (congrArg some (by kernel_rfl))
 f151:=Tryz.func226.trans (congrArg some (by kernel_rfl))
 f152:=Tryz.func230.trans (congrArg some (by kernel_rfl))
 f161:=Tryz.func209.trans (congrArg some (by kernel_rfl))
 f197:=Tryz.func185.trans (congrArg some (by kernel_rfl))
 f217:=Tryz.func55.trans (congrArg some (by kernel_rfl))
 f224:=Tryz.func166.trans (congrArg some (by kernel_rfl))
 f225:=Tryz.func165.trans (congrArg some (by kernel_rfl))
 f227:=Tryz.func204.trans (congrArg some (by kernel_rfl))
 f228:=Tryz.func225.trans (congrArg some (by kernel_rfl))
 f231:=Tryz.func202.trans (congrArg some (by kernel_rfl))
 f233:=Tryz.func205.trans (congrArg some (by kernel_rfl))
 f235:=Tryz.func207.trans (congrArg some (by kernel_rfl))
 f260:=Tryz.func217.trans (congrArg some (by kernel_rfl))
 f266:=Tryz.func105.trans (congrArg some (by kernel_rfl))
 t0:=Tryz.underlying0
 a0:=Tryz.isAgg0
 z0:=Tryz.sizeOf0
 v0:=Tryz.zeroValue0
 t3:=Tryz.underlying3
 a3:=Tryz.isAgg3
 z3:=Tryz.sizeOf3
 v3:=Tryz.zeroValue3
 t4:=Tryz.underlying4
 a4:=Tryz.isAgg4
 z4:=Tryz.sizeOf4
 v4:=Tryz.zeroValue4
 t5:=Tryz.underlying5
 a5:=Tryz.isAgg5
 z5:=Tryz.sizeOf5
 v5:=Tryz.zeroValue5
 t9:=Tryz.underlying9
 a9:=Tryz.isAgg9
 z9:=Tryz.sizeOf9
 v9:=Tryz.zeroValue9
 t21:=Tryz.underlying21
 a21:=Tryz.isAgg21
 z21:=Tryz.sizeOf21
 v21:=Tryz.zeroValue21
 t46:=Tryz.underlying155
 a46:=Tryz.isAgg155
 z46:=Tryz.sizeOf155
 v46:=Tryz.zeroValue155
 t105:=Tryz.underlying151
 a105:=Tryz.isAgg151
 z105:=Tryz.sizeOf151
 v105:=Tryz.zeroValue151
 t116:=Tryz.underlying224
 a116:=Tryz.isAgg224
 z116:=Tryz.sizeOf224
 t117:=Tryz.underlying225
 a117:=Tryz.isAgg225
 z117:=Tryz.sizeOf225
 v117:=Tryz.zeroValue225
 t119:=Tryz.underlying241
 a119:=Tryz.isAgg241
 z119:=Tryz.sizeOf241
 t124:=Tryz.underlying228
 a124:=Tryz.isAgg228
 z124:=Tryz.sizeOf228
 v124:=Tryz.zeroValue228
 t138:=Tryz.underlying243
 a138:=Tryz.isAgg243
 z138:=Tryz.sizeOf243
 v138:=Tryz.zeroValue243
 t139:=Tryz.underlying244
 a139:=Tryz.isAgg244
 z139:=Tryz.sizeOf244
 v139:=Tryz.zeroValue244
 g3:=by kernel_rfl
 g4:=by kernel_rfl }
def Tryz.lays160_ren:Go.Shelf.Ren:=⟨fun | 160=>172 | 232=>203 | 231=>202 | 227=>204 | 234=>206 | 233=>205 | 236=>208 | 235=>207 | 228=>225 | 271=>227 | 151=>226 | 197=>185 | 120=>231 | 152=>230 | 260=>217 | 137=>32 | 119=>232 | 224=>166 | 225=>165 | 217=>55 | 266=>105 | n=>n,fun | 9=>9 | 4=>4 | 3=>3 | 5=>5 | 117=>225 | 116=>224 | 0=>0 | 124=>228 | 21=>21 | 105=>151 | 46=>155 | 119=>241 | 139=>244 | 138=>243 | n=>n,fun | 3=>2 | 4=>3 | n=>n⟩
theorem Tryz.lays160:Go.Proofs.Lays.n160 Tryz.prog Tryz.lays160_ren:={
 mixed:=by kernel_rfl
 f119:=Tryz.func232.trans (congrArg some (by kernel_rfl))
 f120:=Tryz.func231.trans (congrArg some (by kernel_rfl))
 f137:=Tryz.func32.trans (congrArg some (by kernel_rfl))
 f151:=Tryz.func226.trans (congrArg some (by kernel_rfl))
 f152:=Tryz.func230.trans (congrArg some (by kernel_rfl))
 f160:=Tryz.func172.trans (congrArg some (by kernel_rfl))
 f197:=Tryz.func185.trans (congrArg some (by kernel_rfl))
 f217:=Tryz.func55.trans (congrArg some (by kernel_rfl))
 f224:=Tryz.func166.trans (congrArg some (by kernel_rfl))
 f225:=Tryz.func165.trans (congrArg some (by kernel_rfl))
 f227:=Tryz.func204.trans (congrArg some (by kernel_rfl))
 f228:=Tryz.func225.trans (congrArg some (by kernel_rfl))
 f231:=Tryz.func202.trans (congrArg some (by kernel_rfl))
 f232:=Tryz.func203.trans (congrArg some (by kernel_rfl))
 f233:=Tryz.func205.trans (congrArg some (by kernel_rfl))
 f234:=Tryz.func206.trans (congrArg some (by kernel_rfl))
 f235:=Tryz.func207.trans (congrArg some (by kernel_rfl))
 f236:=Tryz.func208.trans (congrArg some (by kernel_rfl))
 f260:=Tryz.func217.trans (congrArg some (by kernel_rfl))
 f266:=Tryz.func105.trans (congrArg some (by kernel_rfl))
 f271:=Tryz.func227.trans (congrArg some (by kernel_rfl))
 t0:=Tryz.underlying0
 a0:=Tryz.isAgg0
 z0:=Tryz.sizeOf0
 v0:=Tryz.zeroValue0
 t3:=Tryz.underlying3
 a3:=Tryz.isAgg3
 z3:=Tryz.sizeOf3
 v3:=Tryz.zeroValue3
 t4:=Tryz.underlying4
 a4:=Tryz.isAgg4
 z4:=Tryz.sizeOf4
 v4:=Tryz.zeroValue4
 t5:=Tryz.underlying5
 a5:=Tryz.isAgg5
 z5:=Tryz.sizeOf5
 v5:=Tryz.zeroValue5
 t9:=Tryz.underlying9
 a9:=Tryz.isAgg9
 z9:=Tryz.sizeOf9
 v9:=Tryz.zeroValue9
 t21:=Tryz.underlying21
 a21:=Tryz.isAgg21
 z21:=Tryz.sizeOf21
 v21:=Tryz.zeroValue21
 t46:=Tryz.underlying155
 a46:=Tryz.isAgg155
 z46:=Tryz.sizeOf155
 v46:=Tryz.zeroValue155
 t105:=Tryz.underlying151
 a105:=Tryz.isAgg151
 z105:=Tryz.sizeOf151
 v105:=Tryz.zeroValue151
 t116:=Tryz.underlying224
 a116:=Tryz.isAgg224
 z116:=Tryz.sizeOf224
 t117:=Tryz.underlying225
 a117:=Tryz.isAgg225
 z117:=Tryz.sizeOf225
 v117:=Tryz.zeroValue225
 t119:=Tryz.underlying241
 a119:=Tryz.isAgg241
 z119:=Tryz.sizeOf241
 t124:=Tryz.underlying228
 a124:=Tryz.isAgg228
 z124:=Tryz.sizeOf228
 v124:=Tryz.zeroValue228
 t138:=Tryz.underlying243
 a138:=Tryz.isAgg243
 z138:=Tryz.sizeOf243
 v138:=Tryz.zeroValue243
 t139:=Tryz.underlying244
 a139:=Tryz.isAgg244
 z139:=Tryz.sizeOf244
 v139:=Tryz.zeroValue244
 g3:=by kernel_rfl
 g4:=by kernel_rfl }
def Tryz.lays137_ren:Go.Shelf.Ren:=⟨fun | 137=>32 | 217=>55 | 266=>105 | n=>n,fun | 9=>9 | 5=>5 | 3=>3 | n=>n,fun | n=>n⟩
theorem Tryz.lays137:Go.Proofs.Lays.n137 Tryz.prog Tryz.lays137_ren:={
 mixed:=by kernel_rfl
 f137:=Tryz.func32.trans (congrArg some (by kernel_rfl))
 f217:=Tryz.func55.trans (congrArg some (by kernel_rfl))
 f266:=Tryz.func105.trans (congrArg some (by kernel_rfl))
 t3:=Tryz.underlying3
 a3:=Tryz.isAgg3
 z3:=Tryz.sizeOf3
 v3:=Tryz.zeroValue3
 t5:=Tryz.underlying5
 a5:=Tryz.isAgg5
 z5:=Tryz.sizeOf5
 v5:=Tryz.zeroValue5
 t9:=Tryz.underlying9
 a9:=Tryz.isAgg9
 z9:=Tryz.sizeOf9
 v9:=Tryz.zeroValue9 }
open Go.RowKit in
theorem Tryz.strings_IndexByte (s:ByteArray) (c:Int) (w:World) :
 Calls Tryz.prog 32 #[.string s,.int .u8 c] w fun e w'=>e=.returned (.int .i64 (Lib.indexByte s.data.toList c.toNat.toUInt8))∧w'=w:=Any.strings_IndexByte Tryz.lays137 s c w
def Tryz.lays103_ren:Go.Shelf.Ren:=⟨fun | 103=>132 | 210=>180 | 206=>127 | n=>n,fun | 9=>9 | 4=>4 | 24=>115 | 3=>3 | n=>n,fun | n=>n⟩
theorem Tryz.lays103:Go.Proofs.Lays.n103 Tryz.prog Tryz.lays103_ren:={
 mixed:=by kernel_rfl
 f103:=Tryz.func132.trans (congrArg some (by kernel_rfl))
 f206:=Tryz.func127.trans (congrArg some (by kernel_rfl))
 f210:=Tryz.func180.trans (congrArg some (by kernel_rfl))
 t3:=Tryz.underlying3
 a3:=Tryz.isAgg3
 z3:=Tryz.sizeOf3
 v3:=Tryz.zeroValue3
 t4:=Tryz.underlying4
 a4:=Tryz.isAgg4
 z4:=Tryz.sizeOf4
 v4:=Tryz.zeroValue4
 t9:=Tryz.underlying9
 a9:=Tryz.isAgg9
 z9:=Tryz.sizeOf9
 v9:=Tryz.zeroValue9
 t24:=Tryz.underlying115
 a24:=Tryz.isAgg115
 z24:=Tryz.sizeOf115
 v24:=Tryz.zeroValue115 }
open Go.RowKit in
theorem Tryz.strings_CutPrefix (s p:ByteArray) (w:World) :
 Calls Tryz.prog 132 #[.string s,.string p] w fun e w'=>e=.returned (.tuple #[.string ⟨(Lib.trimPrefix s.data.toList p.data.toList).toArray⟩,.bool (Lib.hasPrefix s.data.toList p.data.toList)])∧w'=w:=Any.strings_CutPrefix Tryz.lays103 s p w
open Go.RowKit in
theorem Tryz.Builder_String_any_k (B b:Nat) (l:List UInt8) (w:World) (h:Lib.IsBuilderF 59 5 B b (Lib.byteCells l) w) (hBw:B≤w.heap.size) :
 Calls Tryz.prog 28 #[.pointer (some ⟨b,0,none⟩)] w fun e w'=>e=.returned (.string ⟨l.toArray⟩)∧(Lib.IsBuilderF 59 5 B b (Lib.byteCells l) w'∧Below B w w'∧Lib.OthersKept 5 (some b) w w'):=Any.Builder_String_any_k Tryz.lays169 Tryz.Builder_Extra_169 B b l w h hBw
def Tryz.lays143_ren:Go.Shelf.Ren:=⟨fun | 143=>59 | 219=>110 | 217=>55 | 225=>165 | 224=>166 | 267=>167 | 266=>105 | 314=>200 | n=>n,fun | 9=>9 | 3=>3 | 4=>4 | 5=>5 | 46=>155 | 146=>220 | 51=>211 | n=>n,fun | 1=>0 | n=>n⟩
theorem Tryz.lays143:Go.Proofs.Lays.n143 Tryz.prog Tryz.lays143_ren:={
 mixed:=by kernel_rfl
 f143:=Tryz.func59.trans (congrArg some (by kernel_rfl))
 f217:=Tryz.func55.trans (congrArg some (by kernel_rfl))
 f219:=Tryz.func110.trans (congrArg some (by kernel_rfl))
 f224:=Tryz.func166.trans (congrArg some (by kernel_rfl))
 f225:=Tryz.func165.trans (congrArg some (by kernel_rfl))
 f266:=Tryz.func105.trans (congrArg some (by kernel_rfl))
 f267:=Tryz.func167.trans (congrArg some (by kernel_rfl))
 f314:=Tryz.func200.trans (congrArg some (by kernel_rfl))
 t3:=Tryz.underlying3
 a3:=Tryz.isAgg3
 z3:=Tryz.sizeOf3
 v3:=Tryz.zeroValue3
 t4:=Tryz.underlying4
 a4:=Tryz.isAgg4
 z4:=Tryz.sizeOf4
 v4:=Tryz.zeroValue4
 t5:=Tryz.underlying5
 a5:=Tryz.isAgg5
 z5:=Tryz.sizeOf5
 v5:=Tryz.zeroValue5
 t9:=Tryz.underlying9
 a9:=Tryz.isAgg9
 z9:=Tryz.sizeOf9
 v9:=Tryz.zeroValue9
 t46:=Tryz.underlying155
 a46:=Tryz.isAgg155
 z46:=Tryz.sizeOf155
 v46:=Tryz.zeroValue155
 t51:=Tryz.underlying211
 a51:=Tryz.isAgg211
 z51:=Tryz.sizeOf211
 v51:=Tryz.zeroValue211
 t146:=Tryz.underlying220
 a146:=Tryz.isAgg220
 z146:=Tryz.sizeOf220
 v146:=Tryz.zeroValue220
 g1:=by kernel_rfl }
open Go.RowKit Go.Lib in
theorem Tryz.strings_Index (s sub:ByteArray) (m:Int) (w:World) (hs:s.size<4294967281) (hm:w.cell? ⟨0,0,none⟩=some (.int .i64 m)) :
 Calls Tryz.prog 59 #[.string s,.string sub] w fun e w'=>e=.returned (.int .i64 (Lib.index s.data.toList sub.data.toList))∧w'=w:=Any.strings_Index Tryz.lays143 s sub m w hs hm
def Tryz.lays145_ren:Go.Shelf.Ren:=⟨fun | 145=>79 | 220=>136 | 219=>110 | 217=>55 | 225=>165 | 224=>166 | 267=>167 | 266=>105 | 314=>200 | n=>n,fun | 9=>9 | 4=>4 | 59=>129 | 3=>3 | 5=>5 | 46=>155 | 146=>220 | 51=>211 | n=>n,fun | 1=>0 | n=>n⟩
theorem Tryz.lays145:Go.Proofs.Lays.n145 Tryz.prog Tryz.lays145_ren:={
 mixed:=by kernel_rfl
 f145:=Tryz.func79.trans (congrArg some (by kernel_rfl))
 f217:=Tryz.func55.trans (congrArg some (by kernel_rfl))
 f219:=Tryz.func110.trans (congrArg some (by kernel_rfl))
 f220:=Tryz.func136.trans (congrArg some (by kernel_rfl))
 f224:=Tryz.func166.trans (congrArg some (by kernel_rfl))
 f225:=Tryz.func165.trans (congrArg some (by kernel_rfl))
 f266:=Tryz.func105.trans (congrArg some (by kernel_rfl))
 f267:=Tryz.func167.trans (congrArg some (by kernel_rfl))
 f314:=Tryz.func200.trans (congrArg some (by kernel_rfl))
 t3:=Tryz.underlying3
 a3:=Tryz.isAgg3
 z3:=Tryz.sizeOf3
 v3:=Tryz.zeroValue3
 t4:=Tryz.underlying4
 a4:=Tryz.isAgg4
 z4:=Tryz.sizeOf4
 v4:=Tryz.zeroValue4
 t5:=Tryz.underlying5
 a5:=Tryz.isAgg5
 z5:=Tryz.sizeOf5
 v5:=Tryz.zeroValue5
 t9:=Tryz.underlying9
 a9:=Tryz.isAgg9
 z9:=Tryz.sizeOf9
 v9:=Tryz.zeroValue9
 t46:=Tryz.underlying155
 a46:=Tryz.isAgg155
 z46:=Tryz.sizeOf155
 v46:=Tryz.zeroValue155
 t51:=Tryz.underlying211
 a51:=Tryz.isAgg211
 z51:=Tryz.sizeOf211
 v51:=Tryz.zeroValue211
 t59:=Tryz.underlying129
 a59:=Tryz.isAgg129
 z59:=Tryz.sizeOf129
 v59:=Tryz.zeroValue129
 t146:=Tryz.underlying220
 a146:=Tryz.isAgg220
 z146:=Tryz.sizeOf220
 v146:=Tryz.zeroValue220
 g1:=by kernel_rfl }
open Go.RowKit Go.Lib in
theorem Tryz.strings_Cut (s sep:ByteArray) (m:Int) (w:World) (hs:s.size<4294967281) (hm:w.cell? ⟨0,0,none⟩=some (.int .i64 m)) :
 Calls Tryz.prog 79 #[.string s,.string sep] w fun e w'=>e=.returned (.tuple #[.string ⟨(Lib.cut s.data.toList sep.data.toList).1.toArray⟩,.string ⟨(Lib.cut s.data.toList sep.data.toList).2.1.toArray⟩,.bool (Lib.cut s.data.toList sep.data.toList).2.2])∧∃ n,w'=w.drewN n:=Any.strings_Cut Tryz.lays145 s sep m w hs hm
def Tryz.lays99_ren:Go.Shelf.Ren:=⟨fun | 99=>74 | 206=>127 | n=>n,fun | 9=>9 | 4=>4 | 3=>3 | n=>n,fun | n=>n⟩
theorem Tryz.lays99:Go.Proofs.Lays.n99 Tryz.prog Tryz.lays99_ren:={
 mixed:=by kernel_rfl
 f99:=Tryz.func74.trans (congrArg some (by kernel_rfl))
 f206:=Tryz.func127.trans (congrArg some (by kernel_rfl))
 t3:=Tryz.underlying3
 a3:=Tryz.isAgg3
 z3:=Tryz.sizeOf3
 v3:=Tryz.zeroValue3
 t4:=Tryz.underlying4
 a4:=Tryz.isAgg4
 z4:=Tryz.sizeOf4
 v4:=Tryz.zeroValue4
 t9:=Tryz.underlying9
 a9:=Tryz.isAgg9
 z9:=Tryz.sizeOf9
 v9:=Tryz.zeroValue9 }
open Go.RowKit Go.Lib in
theorem Tryz.strings_HasPrefix (s p:ByteArray) (w:World) :
 Calls Tryz.prog 74 #[.string s,.string p] w fun e w'=>e=.returned (.bool (Lib.hasPrefix s.data.toList p.data.toList))∧w'=w:=Any.strings_HasPrefix Tryz.lays99 s p w
def Tryz.lays155_ren:Go.Shelf.Ren:=⟨fun | 155=>82 | 154=>138 | 138=>183 | 165=>184 | 143=>59 | 166=>47 | 197=>185 | 169=>28 | 195=>214 | 218=>215 | 240=>95 | 241=>216 | 219=>110 | 260=>217 | 276=>151 | 277=>228 | 217=>55 | 225=>165 | 224=>166 | 267=>167 | 266=>105 | 314=>200 | n=>n,fun | 9=>9 | 3=>3 | 4=>4 | 72=>59 | 0=>0 | 76=>91 | 105=>151 | 21=>21 | 5=>5 | 70=>57 | 20=>20 | 37=>44 | 75=>90 | 127=>93 | 164=>184 | 46=>155 | 119=>241 | 139=>244 | 138=>243 | 146=>220 | 51=>211 | 80=>64 | n=>n,fun | 1=>0 | 3=>2 | 4=>3 | n=>n⟩
theorem Tryz.lays155:Go.Proofs.Lays.n155 Tryz.prog Tryz.lays155_ren:={
 mixed:=by kernel_rfl
 f138:=Tryz.func183.trans (congrArg some (by kernel_rfl))
 f143:=Tryz.func59.trans (congrArg some (by kernel_rfl))
 f154:=Tryz.func138.trans (congrArg some (by kernel_rfl))
 f155:=Tryz.func82.trans (congrArg some (by kernel_rfl))
 f165:=Tryz.func184.trans (congrArg some (by kernel_rfl))
 f166:=Tryz.func47.trans (congrArg some (by kernel_rfl))
 f169:=Tryz.func28.trans (congrArg some (by kernel_rfl))
 f195:=Tryz.func214.trans (congrArg some (by kernel_rfl))
 f197:=Tryz.func185.trans (congrArg some (by kernel_rfl))
 f217:=Tryz.func55.trans (congrArg some (by kernel_rfl))
 f218:=Tryz.func215.trans (congrArg some (by kernel_rfl))
 f219:=Tryz.func110.trans (congrArg some (by kernel_rfl))
 f224:=Tryz.func166.trans (congrArg some (by kernel_rfl))
 f225:=Tryz.func165.trans (congrArg some (by kernel_rfl))
 f240:=Tryz.func95.trans (congrArg some (by kernel_rfl))
 f241:=Tryz.func216.trans (congrArg some (by kernel_rfl))
 f260:=Tryz.func217.trans (congrArg some (by kernel_rfl))
 f266:=Tryz.func105.trans (congrArg some (by kernel_rfl))
 f267:=Tryz.func167.trans (congrArg some (by kernel_rfl))
 f276:=Tryz.func151.trans (congrArg some (by kernel_rfl))
 f277:=Tryz.func228.trans (congrArg some (by kernel_rfl))
 f314:=Tryz.func200.trans (congrArg some (by kernel_rfl))
 t0:=Tryz.underlying0
 a0:=Tryz.isAgg0
 z0:=Tryz.sizeOf0
 v0:=Tryz.zeroValue0
 t3:=Tryz.underlying3
 a3:=Tryz.isAgg3
 z3:=Tryz.sizeOf3
 v3:=Tryz.zeroValue3
 t4:=Tryz.underlying4
 a4:=Tryz.isAgg4
 z4:=Tryz.sizeOf4
 v4:=Tryz.zeroValue4
 t5:=Tryz.underlying5
 a5:=Tryz.isAgg5
 z5:=Tryz.sizeOf5
 v5:=Tryz.zeroValue5
 t9:=Tryz.underlying9
 a9:=Tryz.isAgg9
 z9:=Tryz.sizeOf9
 v9:=Tryz.zeroValue9
 t20:=Tryz.underlying20
 a20:=Tryz.isAgg20
 z20:=Tryz.sizeOf20
 v20:=Tryz.zeroValue20
 t21:=Tryz.underlying21
 a21:=Tryz.isAgg21
 z21:=Tryz.sizeOf21
 v21:=Tryz.zeroValue21
 t37:=Tryz.underlying44
 a37:=Tryz.isAgg44
 z37:=Tryz.sizeOf44
 v37:=Tryz.zeroValue44
 t46:=Tryz.underlying155
 a46:=Tryz.isAgg155
 z46:=Tryz.sizeOf155
 v46:=Tryz.zeroValue155
 t51:=Tryz.underlying211
 a51:=Tryz.isAgg211
 z51:=Tryz.sizeOf211
 v51:=Tryz.zeroValue211
 t70:=Tryz.underlying57
 a70:=Tryz.isAgg57
 z70:=Tryz.sizeOf57
 v70:=Tryz.zeroValue57
 t72:=Tryz.underlying59
 a72:=Tryz.isAgg59
 z72:=Tryz.sizeOf59
 v72:=Tryz.zeroValue59
 t75:=Tryz.underlying90
 a75:=Tryz.isAgg90
 z75:=Tryz.sizeOf90
 v75:=Tryz.zeroValue90
 t76:=Tryz.underlying91
 a76:=Tryz.isAgg91
 z76:=Tryz.sizeOf91
 v76:=Tryz.zeroValue91
 t105:=Tryz.underlying151
 a105:=Tryz.isAgg151
 z105:=Tryz.sizeOf151
 v105:=Tryz.zeroValue151
 t119:=Tryz.underlying241
 a119:=Tryz.isAgg241
 z119:=Tryz.sizeOf241
 t127:=Tryz.underlying93
 a127:=Tryz.isAgg93
 z127:=Tryz.sizeOf93
 v127:=Tryz.zeroValue93
 t138:=Tryz.underlying243
 a138:=Tryz.isAgg243
 z138:=Tryz.sizeOf243
 v138:=Tryz.zeroValue243
 t139:=Tryz.underlying244
 a139:=Tryz.isAgg244
 z139:=Tryz.sizeOf244
 v139:=Tryz.zeroValue244
 t146:=Tryz.underlying220
 a146:=Tryz.isAgg220
 z146:=Tryz.sizeOf220
 v146:=Tryz.zeroValue220
 t164:=Tryz.underlying184
 a164:=Tryz.isAgg184
 z164:=Tryz.sizeOf184
 v164:=Tryz.zeroValue184
 g1:=by kernel_rfl
 g3:=by kernel_rfl
 g4:=by kernel_rfl }
theorem Tryz.Builder_Extra_155:Builder.Extra Tryz.prog Tryz.lays155_ren:={
 sizeBuilder:=by kernel_rfl
 liesBuilder:=by kernel_rfl
 t5:=Tryz.underlying5
 a5:=Tryz.isAgg5
 z5:=Tryz.sizeOf5
 v5:=Tryz.zeroValue5
 infoByte:=by kernel_rfl
 cellsByte:=by kernel_rfl
 sizeByte:=by kernel_rfl
 neB5:=by decide }
open Go.RowKit Go.Lib in
theorem Tryz.strings_ReplaceAll (s old new:ByteArray) (m:Int) (w:World) (hs:s.size<4294967281) (hm:w.cell? ⟨0,0,none⟩=some (.int .i64 m)) (h1:1≤old.size) (hlen:s.size+Lib.countB s old * new.size≤140737488355328) :
 Calls Tryz.prog 82 #[.string s,.string old,.string new] w fun e w' =>
  e=.returned (.string ⟨(Lib.replaceAll s.data.toList old.data.toList new.data.toList).toArray⟩)∧Below w.heap.size w w':=Any.strings_ReplaceAll Tryz.lays155 Tryz.Builder_Extra_155 s old new m w hs hm h1 hlen
end Go.Proofs
end
section
namespace Go.Proofs.YtmpiobfdchlikaaGreatDoor
open Go.RowKit Nun
theorem ypc:(Tryz.prog.info? 59).map (·.size)=some 2:=by kernel_rfl
theorem yrl:liesAt Tryz.prog Tryz.prog.depth 59 (2 / Tryz.prog.cellsOf 59) 0 59 1=true:=by kernel_rfl
theorem infoByte:(Tryz.prog.info? 5).map (fun i=>(i.zero,i.size,i.bytes))=some (some (.int .u8 0),1,1):=by kernel_rfl
set_option maxRecDepth 100000 in
theorem z6i (b:Nat) (w:World) (h0:w.cell? ⟨b,0,none⟩=some (.pointer (some ⟨b,0,none⟩))) :
 Calls Tryz.prog 95 #[.pointer (some ⟨b,0,none⟩)] w fun e w'=>e=.returned (.tuple #[])∧w'=w:=by
 obtain ⟨j,hj,_⟩:=qm ypc
 go_enter Tryz.func95,Tryz.ntmps95
 go_wp2
 rw [Lib.run_neq_ptr_same w _ Tryz.underlying57 hj]
 go_wp2
 go_end0
 exact ⟨rfl,rfl⟩
set_option maxRecDepth 100000 in
theorem z11 (b:Nat) (w:World) (h0:w.cell? ⟨b,0,none⟩=some (.pointer none)) (hsh:w.shape? b=some (59,2)) (hfz:w.frozen? ⟨b,0,none⟩=false) :
 Calls Tryz.prog 95 #[.pointer (some ⟨b,0,none⟩)] w fun e w'=>e=.returned (.tuple #[])∧w'=w.setCell ⟨b,0,none⟩ (.pointer (some ⟨b,0,none⟩)):=by
 obtain ⟨j,hj,hjs⟩:=qm ypc
 have hc0:(w.setCell ⟨b,0,none⟩ (.pointer (some ⟨b,0,none⟩))).cell? ⟨b,0,none⟩=some (.pointer (some ⟨b,0,none⟩)):=World.cell?_setCell_same' _ _ _ (by rw [h0];rfl)
 go_enter Tryz.func95,Tryz.ntmps95
 go_wp2
 rw [Lib.run_to_unsafe w ⟨b,0,none⟩ Tryz.underlying57 Tryz.underlying184 hj (by rw [hjs];decide) hsh (Nat.zero_lt_succ 1)]
 simp only [Result.andThen]
 rw [Oper.upon_value]
 go_wp2
 rw [run_callFunc_extern Tryz.func151 (by kernel_rfl) (by kernel_rfl) (by kernel_rfl) (e:=Extern.AbiNoEscape.same) (by kernel_rfl)]
 rw [Lib.run_noEscape]
 simp only [Result.andThen]
 rw [Oper.upon_value]
 go_wp2
 rw [Lib.run_from_unsafe w ⟨b,0,none⟩ Tryz.underlying184 Tryz.underlying57 hj hsh yrl]
 simp only [Result.andThen]
 rw [Oper.upon_value]
 go_wp2
 go_end0
 exact ⟨rfl,rfl⟩
theorem ycj (B b:Nat) (bs:List Value) (w:World) (h:Lib.IsBuilderF 59 5 B b bs w) :
 Calls Tryz.prog 95 #[.pointer (some ⟨b,0,none⟩)] w fun e w'=>e=.returned (.tuple #[])∧(Lib.BuilderAtF 59 5 B b (.pointer (some ⟨b,0,none⟩)) bs w'∧Below B w w'∧Lib.OthersKept 5 (some b) w w'):=by
 rcases h with h | h
 ·refine (z11 b w h.cell0 h.shape h.frozen0).mono ?_
  rintro e w' ⟨rfl,rfl⟩
  exact ⟨rfl,h.used _,(Below.refl B w).setCell (p:=⟨b,0,none⟩) h.1 _,(Lib.OthersKept.refl _ _ w).setCell ⟨b,0,none⟩ rfl _⟩
 ·refine (z6i b w h.cell0).mono ?_
  rintro e w' ⟨rfl,rfl⟩
  exact ⟨rfl,h,Below.refl B _,Lib.OthersKept.refl _ _ _⟩
set_option maxRecDepth 100000 in
theorem zx9 (B b:Nat) (bs:List Value) (s:ByteArray) (w:World) (h:Lib.IsBuilderF 59 5 B b bs w) (hlen:bs.length+s.size≤140737488355328) (hBw:B≤w.heap.size) :
 Calls Tryz.prog 47 #[.pointer (some ⟨b,0,none⟩),.string s] w fun e w'=>e=.returned (.tuple #[.int .i64 s.size,.nilIface])∧(Lib.IsBuilderF 59 5 B b (bs++Lib.strCells s) w'∧Below B w w'∧Lib.OthersKept 5 (some b) w w'):=by
 obtain ⟨i0,hi,hz0,hz1,hz2⟩:=info_parts infoByte
 go_enter Tryz.func47,Tryz.ntmps47
 go_wp2_with (go_at_call 95;refine (ycj B b bs _ h).mono ?_)
 rintro e w1 ⟨rfl,h1,hb1,hk1⟩
 obtain ⟨hB,v,hbk,hown,hne⟩:=h1
 have c0:w1.cell? ⟨b,0,none⟩=some (.pointer (some ⟨b,0,none⟩)):=by rw [Lib.cell_of_heap hbk];rfl
 have c1:w1.cell? ⟨b,1,none⟩=some v:=by rw [Lib.cell_of_heap hbk];rfl
 go_wp2_with (at_builtin;refine Lib.wpList_append_own_stringF _ rfl _ _ 44 9 rfl B 5 i0 Tryz.underlying44 Tryz.underlying9 hi hz0 hz1 hz2 _ _ _ rfl hown s rfl ?c3 ?c4 ?c5 ?_)
 case c3=>unfold maxLen;omega
 case c4=>omega
 case c5=>have:=hb1.size;omega
 intro v' w2 hown' hgrow _
 have hlt:b<w1.heap.size:=by
  rcases Nat.lt_or_ge b w1.heap.size with h' | h'
  ·exact h'
  ·simp [Array.getElem?_eq_none h'] at hbk
 have hb2:w2.heap[b]? =some (.cells #[.pointer (some ⟨b,0,none⟩),v] 59 (0,0)):=by
  rw [hgrow.block b hlt (fun e=>hne e.symm)]
  exact hbk
 have d0:w2.cell? ⟨b,0,none⟩=some (.pointer (some ⟨b,0,none⟩)):=by rw [Lib.cell_of_heap hb2];rfl
 have d1:w2.cell? ⟨b,1,none⟩=some v:=by rw [Lib.cell_of_heap hb2];rfl
 have f1:w2.frozen? ⟨b,1,none⟩=false:=Lib.frozen_of_heap hb2 1
 obtain ⟨ao,n',cap,rfl⟩:∃ ao n' cap,v'=.slice ao n' cap:=by
  rcases hown'.2 with ⟨hv,_⟩ | ⟨g,cap,cur,fz,hv,_⟩
  ·exact ⟨_,_,_,hv⟩
  ·exact ⟨_,_,_,hv⟩
 go_wp2
 go_ret2
 refine ⟨rfl,.inr ?_,?_,(hk1.grown hgrow (Lib.ownsRowF_kind hown)).setCell ⟨b,1,none⟩ rfl _⟩
 ·exact Lib.BuilderAtF.put (T:=59) (e:=5) hB hb2 (bs':=bs++Lib.strCells s) (by simpa [Lib.strCells_length] using hown') (by decide)
 ·exact (hb1.grown hgrow (by have:=hb1.size;omega) (fun k hk=>(hown.lt k hk).1)).setCell (p:=⟨b,1,none⟩) hB _
def Bd (B b:Nat) (l:List UInt8) (w:World):Prop:=Lib.IsBuilderF 59 5 B b (Lib.byteCells l) w
theorem Bd.fresh (w:World):Bd w.heap.size w.heap.size [] (w.alloc (.cells #[.pointer none,.slice none 0 0] 59)):=Lib.IsBuilderF.of (Lib.fresh_isBuilder _ _ w)
theorem Bd.drew {B b:Nat} {l:List UInt8} {w:World} (h:Bd B b l w):Bd B b l w.drew:=h
theorem Bd.alloc {B b:Nat} {l:List UInt8} {w:World} (h:Bd B b l w) (o:Obj):Bd B b l (w.alloc o):=by
 rcases h with h | h
 ·exact .inl (h.alloc o)
 ·exact .inr (h.alloc o)
theorem Bd.lt {B b:Nat} {l:List UInt8} {w:World} (h:Bd B b l w):B≤b∧b<w.heap.size:=by
 rcases h with h | h
 ·exact ⟨h.1,h.lt⟩
 ·exact ⟨h.1,h.lt⟩
theorem Bd.kept {B b:Nat} {l:List UInt8} {w w':World} (h:Bd B b l w) (k:Below w.heap.size w w'):Bd B b l w':=by
 have kk:∀ p,Lib.BuilderAtF 59 5 B b p (Lib.byteCells l) w→Lib.BuilderAtF 59 5 B b p (Lib.byteCells l) w':=by
  rintro p h
  have hlt:=h.lt
  obtain ⟨hB,v,hb,hown,hne⟩:=h
  exact ⟨hB,v,(k.block b hlt).trans hb,hown.kept (row:=none) ⟨k.os,k.tape,k.output,k.size,fun i hi _=>k.block i hi⟩ (by cases v.ownBlock<;>simp),hne⟩
 rcases h with h | h
 ·exact .inl (kk _ h)
 ·exact .inr (kk _ h)
theorem z6j (B b:Nat) (l:List UInt8) (s:ByteArray) (w:World) (h:Bd B b l w) (hlen:l.length+s.size≤140737488355328) :
 Calls Tryz.prog 47 #[.pointer (some ⟨b,0,none⟩),.string s] w fun e w'=>e=.returned (.tuple #[.int .i64 s.size,.nilIface])∧Bd B b (l++s.data.toList) w'∧Below B w w'∧Lib.OthersKept 5 (some b) w w':=by
 have hl:=h.lt
 refine (zx9 B b _ s w h (by rw [Lib.byteCells_length];exact hlen) (by omega)).mono ?_
 rintro e w' ⟨rfl,h1,h2⟩
 exact ⟨rfl,by unfold Bd;rw [Lib.byteCells_append,← Lib.strCells_eq];exact h1,h2⟩
theorem yi0 (B b:Nat) (l:List UInt8) (w:World) (h:Bd B b l w) :
 Calls Tryz.prog 28 #[.pointer (some ⟨b,0,none⟩)] w fun e w'=>e=.returned (.string ⟨l.toArray⟩)∧Bd B b l w'∧Below B w w'∧Lib.OthersKept 5 (some b) w w' :=
 Tryz.Builder_String_any_k B b l w h (by have:=h.lt;omega)
end Go.Proofs.YtmpiobfdchlikaaGreatDoor
end
section
set_option synthInstance.maxSize 4000
namespace Nun
def zey:List UInt8:=[65,66,67,68,69,70,71,72,73,74,75,76,77,78,79,80,81,82,83,84,85,86,87,88,89,90,97,98,99,100,101,102,103,104,105,106,107,108,109,110,111,112,113,114,115,116,117,118,119,120,121,122,48,49,50,51,52,53,54,55,56,57,43,47]
def dig (n:Nat):UInt8:=zey.getD n 0
def zdy (c:UInt8):Option Nat:=if 65≤c∧c≤90 then some (c.toNat - 65) else if 97≤c∧c≤122 then some (c.toNat - 71) else if 48≤c∧c≤57 then some (c.toNat+4) else if c=43 then some 62 else if c=47 then some 63 else none
def ypd (i:Nat):List UInt8:=(zey.drop (16 * i)).take 16
def Tab (w:Go.World):Prop:=∀ i,i<4→w.cell? ⟨1,i,none⟩=some (.string ⟨(ypd i).toArray⟩)
theorem Tab.lt {w:Go.World} (h:Tab w):1<w.heap.size:=Go.World.block_lt_of_cell? w _ (h 0 (by decide))
theorem Tab.kept {w w':Go.World} (h:Tab w) (hb:Go.RowKit.Below w.heap.size w w'):Tab w':=fun i hi=>(hb.cell (p:=⟨1,i,none⟩) h.lt).trans (h i hi)
end Nun
namespace Go.Proofs.YtmpiobfdchlikaaGreatDoor
open Go.RowKit Nun
theorem yi1 (c:UInt8) (w:World):Calls Tryz.prog 218 #[.int .u8 c.toNat] w (Same (.tuple #[.int .u32 ((zdy c).getD 0),.bool (zdy c).isSome]) w):=by
 go_enter Tryz.func218,Tryz.ntmps218
 go_wp2
 all_goals (go_ret2;refine ⟨t2 (vi ?_) (vb ?_),rfl⟩)
 all_goals (go_light;revert c;decide +kernel)
end Go.Proofs.YtmpiobfdchlikaaGreatDoor
end
section
set_option synthInstance.maxSize 4000
namespace Nun
def num (l:List UInt8):Nat→Nat
 | 0=>0
 | i+1=>num l i * 256+((l[i]?).getD 0).toNat
def quad (l:List UInt8):List UInt8:=[dig (num l 3 / 262144 % 64),dig (num l 3 / 4096 % 64),if l.length<2 then 61 else dig (num l 3 / 64 % 64),if l.length<3 then 61 else dig (num l 3 % 64)]
def zjf:List UInt8→List UInt8
 | []=>[]
 | [a]=>quad [a]
 | [a,b]=>quad [a,b]
 | a::b::c::l=>quad [a,b,c]++zjf l
theorem zss (l:List UInt8) (h:l≠[]):zjf l=quad l++zjf (l.drop 3):=by
 match l,h with
 | [a],_=>rfl
 | [a,b],_=>rfl
 | a::b::c::l,_ =>
   show quad [a,b,c]++zjf l=quad (a::b::c::l)++zjf l
   have:quad [a,b,c]=quad (a::b::c::l):=by
    have e:∀ i,i≤3→num [a,b,c] i=num (a::b::c::l) i:=fun i hi=>by
     match i,hi with
     | 0,_=>rfl
     | 1,_=>rfl
     | 2,_=>rfl
     | 3,_=>rfl
    unfold quad
    rw [e 3 (Nat.le_refl _),if_neg (by simp),if_neg (by simp),if_neg (by simp),if_neg (by simp)]
   rw [this]
end Nun
namespace Go.Proofs.YtmpiobfdchlikaaGreatDoor
open Go.RowKit Nun
theorem zm4 (s:List UInt8) (k:Nat) (h:k<s.length):s.take (k+1)=s.take k++[s[k]]:=by
 rw [List.take_succ_eq_append_getElem h]
end Go.Proofs.YtmpiobfdchlikaaGreatDoor
end
section
set_option synthInstance.maxSize 4000
namespace Nun
def zjg (l:List UInt8) (last:Bool):Nat:=if last=true∧l[3]? =some 61 then (if l[2]? =some 61 then 2 else 3) else 4
def zfr (l:List UInt8) (k:Nat):Nat→Option Nat
 | 0=>some 0
 | i+1=>match zfr l k i with
   | none=>none
   | some n=>if k≤i then some (n * 64) else match zdy (l[i]?.getD 0) with
     | none=>none
     | some x=>some (n * 64+x)
def zha (l:List UInt8) (last:Bool):List UInt8 × Bool:=match zfr l (zjg l last) 4 with
 | none=>([],false)
 | some n=>([UInt8.ofNat (n / 65536),UInt8.ofNat (n / 256),UInt8.ofNat n].take (zjg l last - 1),n % 256 ^ (4 - zjg l last) == 0)
theorem zhb (c:UInt8):∀ x,zdy c=some x→x<64:=by
 have:∀ c:UInt8,(zdy c).getD 0<64:=by decide +kernel
 intro x h;have:=this c;rw [h] at this;exact this
theorem zzz (l:List UInt8) (k i:Nat):∀ n,zfr l k i=some n→n<64 ^ i:=by
 induction i with
 | zero=>intro n h;simp [zfr] at h;subst h;simp
 | succ i ih =>
   intro n h
   rw [zfr] at h
   split at h
   ·cases h
   ·rename_i m hm
    have:=ih m hm
    rw [Nat.pow_succ]
    split at h
    ·simp at h;omega
    ·split at h
     ·cases h
     ·rename_i x hx
      have:=zhb _ _ hx
      simp at h;omega
theorem z6k (l:List UInt8) (k i n:Nat) (hi:i<4) (h:zfr l k i=some n):n<262144:=Nat.lt_of_lt_of_le (zzz l k i n h) (Nat.pow_le_pow_right (n:=64) (by decide) (Nat.le_of_lt_succ hi))
theorem z6l (l:List UInt8) (k n:Nat) (h:zfr l k 4=some n):n<16777216:=zzz l k 4 n h
theorem z12 {l:List UInt8} {k i:Nat} (h:zfr l k i=none) (j:Nat) (hj:i≤j):zfr l k j=none:=by
 induction j with
 | zero=>obtain rfl:i=0:=by omega
         exact h
 | succ j ih =>
   by_cases e:i=j+1
   ·exact e ▸ h
   ·rw [zfr,ih (by omega)]
theorem yi2 (n x:Nat) (h:n<262144) (hx:x<64):Go.bits .or .u32 ((n:Int) * 64) x=((n * 64+x:Nat):Int):=by
 have e:(n:Int) * 64=((n * 64:Nat):Int):=by omega
 rw [e,Go.u32_or_nat _ _ (by omega) (by omega),Go.nat_join 6 _ _ (by omega) (by omega)]
theorem zjh (l:List UInt8) (last:Bool):zjg l last=2∨zjg l last=3∨zjg l last=4:=by unfold zjg;split<;>(try split)<;>simp
end Nun
namespace Go.Proofs.YtmpiobfdchlikaaGreatDoor
open Go.RowKit Nun
theorem u8_nat (n:Nat):(UInt8.ofNat n).toNat=n % 256:=by simp
theorem z13 {P:Program} {src dst e:TypeId} (hs:P.underlying src=some (.slice e)) (he:P.underlying e=some (.int .u8)) (hd:P.underlying dst=some .string) (w:World) (x y z:UInt8) :
 (convert src dst (.slice (some ⟨w.heap.size,0,none⟩) 3 3)).run P (w.alloc (.cells #[.int .u8 x.toNat,.int .u8 y.toNat,.int .u8 z.toNat] e))=.ok (.string ⟨#[x,y,z]⟩) (w.alloc (.cells #[.int .u8 x.toNat,.int .u8 y.toNat,.int .u8 z.toNat] e)) :=
 run_convert_bytes_back _ src dst e ⟨w.heap.size,0,none⟩ 3 [x,y,z] hs he hd (by
  intro j hj
  match j,hj with
  | 0,hj=>simp [Addr.add]
  | 1,hj=>simp [Addr.add]
  | 2,hj=>simp [Addr.add])
theorem zst (c:UInt8) (o:Option Nat) (h:zdy c=o) (w:World):Calls Tryz.prog 218 #[.int .u8 c.toNat] w (Same (.tuple #[.int .u32 (o.getD 0),.bool o.isSome]) w):=h ▸ yi1 c w
theorem yck (s:ByteArray) (last:Bool) (w:World) (hs:s.size=4):Calls Tryz.prog 186 #[.string s,.bool last] w (Ret (.tuple #[.string ⟨(zha s.data.toList last).1.toArray⟩,.bool (zha s.data.toList last).2]) w):=by
 have hlen:s.data.toList.length=s.size:=rfl
 have HL:=Lib.hid hlen;clear hlen
 have i2:s.data.toList[2]? =some (s[2]'(by omega)):=qe (l:=s.data.toList) (by show 2<s.size;omega)
 have i3:s.data.toList[3]? =some (s[3]'(by omega)):=qe (l:=s.data.toList) (by show 3<s.size;omega)
 obtain ⟨K,hK,hKK,hcase⟩:∃ K,zjg s.data.toList last=K∧2≤K∧(last=false∧K=4∨last=true∧K=4∧(((s[3]'(by omega)).toNat:Int) == 61)=false∨last=true∧K=3∧(((s[3]'(by omega)).toNat:Int) == 61)=true∧(((s[2]'(by omega)).toNat:Int) == 61)=false∨last=true∧K=2∧(((s[3]'(by omega)).toNat:Int) == 61)=true∧(((s[2]'(by omega)).toNat:Int) == 61)=true):=by
  refine ⟨_,rfl,by rcases zjh s.data.toList last with h | h | h<;>omega,?_⟩
  unfold zjg
  rw [i2,i3]
  cases last
  ·exact .inl ⟨rfl,rfl⟩
  ·by_cases h3:s[3]'(by omega)=61
   ·by_cases h2:s[2]'(by omega)=61
    ·exact .inr (.inr (.inr ⟨rfl,by rw [h3,h2];rfl,by rw [h3];rfl,by rw [h2];rfl⟩))
    ·exact .inr (.inr (.inl ⟨rfl,by rw [h3];simp [h2],by rw [h3];rfl,by simp [← UInt8.toNat_inj] at h2 ⊢;omega⟩))
   ·exact .inr (.inl ⟨rfl,by simp [h3],by simp [← UInt8.toNat_inj] at h3 ⊢;omega⟩)
 clear i2 i3
 have hV:zha s.data.toList last=match zfr s.data.toList K 4 with
  | none=>([],false)
  | some n=>([UInt8.ofNat (n / 65536),UInt8.ofNat (n / 256),UInt8.ofNat n].take (K - 1),n % 256 ^ (4 - K) == 0):=by unfold zha;rw [hK]
 generalize zha s.data.toList last=V at hV ⊢
 have HV:=Lib.hid hV;clear hV hK
 rcases hcase with ⟨rfl,hKv⟩ | ⟨rfl,hKv,f3⟩ | ⟨rfl,hKv,f3,f2⟩ | ⟨rfl,hKv,f3,f2⟩
 all_goals
  go_enter Tryz.func186,Tryz.ntmps186
  go_wp2
  go_loopw [6] (fun k wr=>∃ j:Nat,k=.int .i64 j∧K≤j∧j≤4∧wr=w) (fun k _=>(intOf k).toNat)
  case atStart=>exact ⟨4,rfl,by omega,by omega,rfl⟩
  case round =>
   obtain ⟨j,rfl,hj1,hj2,rfl⟩:=hrel
   by_cases hjK:j=K
   ·have HK:=Lib.hid hKv
    rw [hKv] at hjK;subst hjK;clear hKv
    go_wp2
    try rw [show ((4:Nat):Int)=4 from rfl]
    try rw [show ((3:Nat):Int)=3 from rfl]
    try rw [show ((2:Nat):Int)=2 from rfl]
    go_loopw [7,26] (fun n iv wr1=>∃ (i m:Nat),i≤4∧iv=.int .i64 i∧n=.int .u32 m∧wr1=wr∧Hid (zfr s.data.toList K i=some m)) (fun _ iv _=>4 - (intOf iv).toNat)
    case atStart=>exact ⟨0,0,by omega,rfl,rfl,rfl,Lib.hid rfl⟩
    case round =>
     obtain ⟨i,m,hi,rfl,rfl,rfl,hm⟩:=hrel
     by_cases hi4:i<4
     ·have hml:=z6k _ _ _ _ hi4 hm.out
      by_cases hik:K≤i
      ·have hnx:zfr s.data.toList K (i+1)=some (m * 64):=by rw [zfr,hm.out];simp only [if_pos hik]
       have HN:=Lib.hid hnx;clear hnx
       have hik':=hik
       rw [HK.out] at hik'
       clear hm
       first
        | (exfalso;omega)
        | (go_wp2
           go_roundw
           case rel=>exact ⟨i+1,m * 64,by omega,by go_num,by go_num,trivial,HN⟩
           case measure=>simp [intOf];omega)
      ·have hik':=Nat.lt_of_not_le hik
       rw [HK.out] at hik'
       have hi':s.data.toList[i]?.getD 0=s[i]'(by omega):=by
        rw [qe (l:=s.data.toList) (by show i<s.size;omega)];rfl
       rcases hv:zdy (s[i]'(by omega)) with _ | x
       ·have hnx:zfr s.data.toList K (i+1)=none:=by rw [zfr,hm.out];simp only [if_neg hik,hi',hv]
        have hVn:V=([],false):=by rw [HV.out,z12 hnx 4 (by omega)]
        have HN:=Lib.hid hVn;have Hv:=Lib.hid hv;clear hnx hVn hv hi' hm
        go_wp2_with (go_at_call 218;refine (zst _ _ Hv.out _).mono ?_;rintro e w' ⟨rfl,rfl⟩)
        go_ret2
        rw [HN.out]
        exact ⟨rfl,Below.refl _ _⟩
       ·have hnx:zfr s.data.toList K (i+1)=some (m * 64+x):=by rw [zfr,hm.out];simp only [if_neg hik,hi',hv]
        have hx:=zhb _ _ hv
        have hor:=yi2 m x hml hx
        have HN:=Lib.hid hnx;have Hv:=Lib.hid hv;clear hnx hv hi' hm
        go_wp2_with (go_at_call 218;refine (zst _ _ Hv.out _).mono ?_;rintro e w' ⟨rfl,rfl⟩)
        go_roundw
        case rel=>exact ⟨i+1,m * 64+x,by omega,by go_num,by go_num,trivial,HN⟩
        case measure=>simp [intOf];omega
     ·obtain rfl:i=4:=by omega
      have hml:=z6l _ _ _ hm.out
      rw [hm.out] at HV
      simp only [] at HV
      have n1:=u8_nat (m / 65536)
      have n2:=u8_nat (m / 256)
      have n3:=u8_nat m
      have kc:=z13 (P:=Tryz.prog) Tryz.underlying44 Tryz.underlying5 Tryz.underlying9 wr (UInt8.ofNat (m / 65536)) (UInt8.ofNat (m / 256)) (UInt8.ofNat m)
      rw [n1,n2,n3,show (((m / 65536 % 256:Nat)):Int)=(m:Int) / 65536 by omega,show (((m / 256 % 256:Nat)):Int)=(m:Int) / 256 % 256 by omega,show (((m % 256:Nat)):Int)=(m:Int) % 256 by omega] at kc
      clear n1 n2 n3
      have m0:bits .and .u32 (m:Int) 0=0:=by rw [show (0:Int)=((0:Nat):Int) from rfl,u32_and_nat m 0 (by omega) (by decide),Nat.and_zero]
      have m1:bits .and .u32 (m:Int) 255=((m % 256:Nat):Int):=by rw [show (255:Int)=((255:Nat):Int) from rfl,u32_and_nat m 255 (by omega) (by decide),Nat.and_two_pow_sub_one_eq_mod m 8]
      have m2:bits .and .u32 (m:Int) 65535=((m % 65536:Nat):Int):=by rw [show (65535:Int)=((65535:Nat):Int) from rfl,u32_and_nat m 65535 (by omega) (by decide),Nat.and_two_pow_sub_one_eq_mod m 16]
      have hsz:(ByteArray.mk #[UInt8.ofNat (m / 65536),UInt8.ofNat (m / 256),UInt8.ofNat m]).size=3:=rfl
      go_wp2
      (refine wp_region_quiet_below (by kernel_rfl) (by kernel_rfl) ?_;(repeat (first | go_big_quiet_skip | (go_big_quiet_want;go_big_quiet_op;first | go_big_quiet_on | (apply Exists.intro;refine ⟨fun _=>?_,?_⟩;(· (fail));go_big_quiet_on))));refine wpQuiet_nil ?_;intro _ hw';obtain ⟨⟨dq,osq⟩,hw''⟩:=hw';subst hw'')
      go_wp2
      go_ret2
      rw [HV.out,HK.out]
      refine ⟨t2 (vS rfl) (vb ?_),((Below.refl _ _).alloc (Nat.le_refl _) _).trans ((below_regrown _ _ _).mono (by simp))⟩
      first | rfl | (rw [Bool.eq_iff_iff];simp;omega)
   ·obtain rfl | rfl:j=3∨j=4:=by omega
    all_goals first
     | (exfalso;omega)
     | (subst hKv
        go_wp2
        go_roundw
        case rel=>first | exact ⟨2,by go_num,by omega,by omega,trivial⟩ | exact ⟨3,by go_num,by omega,by omega,trivial⟩
        case measure=>simp [intOf])
end Go.Proofs.YtmpiobfdchlikaaGreatDoor
end
section
set_option synthInstance.maxSize 4000
namespace Nun
def zco:List UInt8→Option (List UInt8)
 | []=>some []
 | [_]=>none
 | [_,_]=>none
 | [_,_,_]=>none
 | a::b::c::d::l=>if (zha [a,b,c,d] l.isEmpty).2 then (zco l).map ((zha [a,b,c,d] l.isEmpty).1++·) else none
def zm5 (o:Option (List UInt8)):Go.Value:=match o with | some l=>.tuple #[.string ⟨l.toArray⟩,.int .i64 0] | none=>.tuple #[.string ⟨#[]⟩,.int .i64 7]
@[simp] theorem zq1:zm5 none=.tuple #[.string ⟨#[]⟩,.int .i64 7]:=rfl
@[simp] theorem zq2 (l:List UInt8):zm5 (some l)=.tuple #[.string ⟨l.toArray⟩,.int .i64 0]:=rfl
theorem z14 (l:List UInt8) (h:4≤l.length):zco l=if (zha (l.take 4) (l.drop 4).isEmpty).2 then (zco (l.drop 4)).map ((zha (l.take 4) (l.drop 4).isEmpty).1++·) else none:=by
 match l,h with
 | a::b::c::d::l,_=>rfl
theorem z6m (n:Nat):∀ l:List UInt8,l.length≤n→l.length % 4≠0→zco l=none:=by
 induction n with
 | zero=>intro l h1 h2;omega
 | succ n ih =>
   intro l h1 h2
   match l,h1,h2 with
   | [],_,h2=>exact absurd rfl h2
   | [_],_,_=>rfl
   | [_,_],_,_=>rfl
   | [_,_,_],_,_=>rfl
   | a::b::c::d::l,h1,h2 =>
     rw [zco];split
     ·rw [ih l (by simp at h1;omega) (by simp at h2;omega)];rfl
     ·rfl
theorem zv6 (l:List UInt8) (b:Bool):(zha l b).1.length≤3:=by
 unfold zha;split<;>simp;omega
end Nun
namespace Go.Proofs.YtmpiobfdchlikaaGreatDoor
open Go.RowKit Nun
theorem z6n (s:ByteArray) (last:Bool) (x:List UInt8) (ok:Bool) (h:zha s.data.toList last=(x,ok)) (w:World) (hs:s.size=4):Calls Tryz.prog 186 #[.string s,.bool last] w (Ret (.tuple #[.string ⟨x.toArray⟩,.bool ok]) w):=by
 have:=yck s last w hs;rw [h] at this;exact this
theorem ycl (s:ByteArray) (w:World) (hs:s.size≤1000000):Calls Tryz.prog 139 #[.string s] w (Ret (zm5 (zco s.data.toList)) w):=by
 have hlen:s.data.toList.length=s.size:=rfl
 have HL:=Lib.hid hlen;clear hlen
 by_cases h4:s.size % 4=0
 ·have h4':(s.size:Int) % 4=0:=by omega
  go_enter Tryz.func139,Tryz.ntmps139
  go_wp2
  try rw [h4']
  clear h4'
  go_loopw [5,6,7] (fun i _ _ wr=>∃ (k:Nat) (acc:List UInt8),i=.int .i64 (4 * k:Nat)∧4 * k≤s.size∧Bd w.heap.size w.heap.size acc wr∧acc.length≤3 * k∧Below w.heap.size w wr∧Hid (zco s.data.toList=(zco (s.data.toList.drop (4 * k))).map (acc++·)))
   (fun i _ _ _=>s.size - (intOf i).toNat)
  case atStart=>exact ⟨0,[],rfl,by omega,Bd.fresh w,by simp,(Below.refl _ _).alloc (Nat.le_refl _) _,Lib.hid (by simp)⟩
  case round =>
   obtain ⟨k,acc,rfl,hk,hbd,hak,hbel,hrd⟩:=hrel
   by_cases hlt:4 * k<s.size
   ·have hxs:(s.extract (4 * k) (4 * k+4)).size=4:=by rw [ByteArray.size_extract];omega
    have hxl:(s.extract (4 * k) (4 * k+4)).data.toList=(s.data.toList.drop (4 * k)).take 4:=by
     rw [Lib.extract_data,Nat.add_sub_cancel_left]
    have hlast:((s.data.toList.drop (4 * k)).drop 4).isEmpty=decide ((4 * k+4:Int)=s.size):=by
     rw [Bool.eq_iff_iff];simp only [List.isEmpty_iff,decide_eq_true_iff,List.drop_drop,List.drop_eq_nil_iff,HL.out];omega
    have hst:=z14 (s.data.toList.drop (4 * k)) (by rw [List.length_drop,HL.out];omega)
    rw [← hxl,List.drop_drop] at hst
    rw [List.drop_drop] at hlast
    have hlen3:=zv6 (s.extract (4 * k) (4 * k+4)).data.toList ((s.data.toList.drop (4 * k+4)).isEmpty)
    generalize hla:(s.data.toList.drop (4 * k+4)).isEmpty=la at hst hlast hlen3
    rcases hV:zha (s.extract (4 * k) (4 * k+4)).data.toList la with ⟨x,ok⟩
    rw [hV] at hst hlen3
    simp only [] at hst hlen3
    have HV:=Lib.hid hV;clear hV hla hxl
    have hbl:(4 * (k:Int)+4 == (s.size:Int))=la:=by rw [hlast,Bool.eq_iff_iff];simp
    clear hlast
    have hx2:(ByteArray.mk x.toArray).size=x.length:=rfl
    cases ok
    ·have hfin:zco s.data.toList=none:=by rw [hrd.out,hst];rfl
     have HF:=Lib.hid hfin;clear hfin hst
     go_wp2_with (go_at_call 186;refine (z6n _ _ _ _ HV.out _ hxs).mono ?_;rintro e w1 ⟨rfl,hb1⟩)
     go_ret2
     rw [HF.out]
     exact ⟨rfl,hbel.trans (hb1.mono hbel.size)⟩
    ·have HS:=Lib.hid hst;clear hst
     go_wp2_with (first | (go_at_call 186;refine (z6n _ _ _ _ HV.out _ hxs).mono ?_;rintro e w1 ⟨rfl,hb1⟩;have hbd:=Bd.kept hbd hb1;have hbel:=hbel.trans (hb1.mono hbel.size)) | (go_at_call 47;refine (z6j _ _ _ _ _ hbd (by rw [hx2];omega)).mono ?_;rintro e w2 ⟨rfl,hbd,hb2,_⟩;have hbel:=hbel.trans hb2))
     go_roundw
     case rel =>
      refine ⟨k+1,acc++x,by go_num,by omega,hbd,by simp;omega,hbel,Lib.hid ?_⟩
      rw [hrd.out,HS.out,if_pos trivial,Option.map_map,show 4 * (k+1)=4 * k+4 from rfl]
      congr 1;funext y;simp
     case measure=>simp [intOf];omega
   ·have hks:4 * k=s.size:=by omega
    have hfin:zco s.data.toList=some acc:=by
     rw [hrd.out,List.drop_of_length_le (by rw [HL.out];omega)];simp [zco]
    have HE:=Lib.hid hfin;clear hfin
    go_wp2_with (go_at_call 28;refine (yi0 _ _ _ _ hbd).mono ?_;rintro e w2 ⟨rfl,hbd2,hb2,_⟩)
    go_ret2
    rw [HE.out]
    exact ⟨rfl,hbel.trans hb2⟩
 ·have hod:=z6m s.size s.data.toList (Nat.le_refl _) h4
  rw [hod];clear hod
  have h4':¬ (s.size:Int) % 4=0:=by omega
  go_enter Tryz.func139,Tryz.ntmps139
  go_wp2
  go_ret2
  exact ⟨rfl,Below.refl _ _⟩
end Go.Proofs.YtmpiobfdchlikaaGreatDoor
end
section
set_option synthInstance.maxSize 4000
namespace Nun
def soft (c:UInt8):Bool:=c == 9 || c == 10 || c == 13 || c == 32
def bare (l:List UInt8):List UInt8:=l.filter fun c=>!soft c
theorem zv7 (l:List UInt8) (c:UInt8):bare (l++[c])=bare l++if soft c then [] else [c]:=by
 unfold bare;rw [List.filter_append];cases h:soft c<;>simp [h]
end Nun
namespace Go.Proofs.YtmpiobfdchlikaaGreatDoor
open Go.RowKit Nun
theorem ype (t:ByteArray) (l:List UInt8) (V:Option (List UInt8)) (ht:t.data.toList=l) (hV:zco l=V) (w:World) (hs:t.size≤1000000):Calls Tryz.prog 139 #[.string t] w (Ret (zm5 V) w):=by
 subst ht;subst hV;exact ycl t w hs
theorem ypf (c:UInt8):(soft c=true∧(((c.toNat:Int) == 9)=true∧((c.toNat:Int) != 9)=false∨((c.toNat:Int) == 9)=false∧((c.toNat:Int) != 9)=true∧(((c.toNat:Int) == 10)=true∧((c.toNat:Int) != 10)=false∨((c.toNat:Int) == 10)=false∧((c.toNat:Int) != 10)=true∧(((c.toNat:Int) == 13)=true∧((c.toNat:Int) != 13)=false∨((c.toNat:Int) == 13)=false∧((c.toNat:Int) != 13)=true∧((c.toNat:Int) == 32)=true∧((c.toNat:Int) != 32)=false))))∨(soft c=false∧((c.toNat:Int) == 9)=false∧((c.toNat:Int) != 9)=true∧((c.toNat:Int) == 10)=false∧((c.toNat:Int) != 10)=true∧((c.toNat:Int) == 13)=false∧((c.toNat:Int) != 13)=true∧((c.toNat:Int) == 32)=false∧((c.toNat:Int) != 32)=true):=by
 revert c;decide +kernel
theorem ycm (s:ByteArray) (w:World) (hs:s.size≤1000000):Calls Tryz.prog 130 #[.string s] w (Ret (zm5 (zco (bare s.data.toList))) w):=by
 have hlen:s.data.toList.length=s.size:=rfl
 have HL:=Lib.hid hlen;clear hlen
 generalize hV:zco (bare s.data.toList)=V
 have HV:=Lib.hid hV;clear hV
 obtain ⟨i0,hi,hz0,hz1,hz2⟩:=info_parts infoByte
 obtain ⟨wm,hr,hown,hg⟩:=run_make_own w w.heap.size 44 5 i0 (.int .u8 0) 1 Tryz.underlying44 hi hz0 hz1 .i64 .i64 s.size (by rw [hz2];omega) (by unfold maxLen;omega) (Nat.le_refl _)
 have hbm:Below w.heap.size w wm:=(Below.refl _ w).grown hg (Nat.le_refl _) (fun k hk=>by cases hk)
 have hown:OwnB w.heap.size 5 (.slice (some ⟨w.heap.size,0,none⟩) 0 s.size) [] wm:=hown
 clear hi hz0 hz1 hz2 hg
 go_enter Tryz.func130,Tryz.ntmps130
 go_wp2
 clear hr
 go_loopw [4,5,11] (fun v _ i wr=>∃ (k:Nat) (acc:List UInt8),k≤s.size∧i=.int .i64 k∧acc.length≤k∧OwnB w.heap.size 5 v acc wr∧Below w.heap.size w wr∧Hid (acc=bare (s.data.toList.take k)))
  (fun _ _ i _=>s.size - (intOf i).toNat)
 case atStart=>exact ⟨0,[],Nat.zero_le _,rfl,by simp,hown,hbm,Lib.hid rfl⟩
 case round =>
  clear hown hbm
  obtain ⟨k,acc,hk,rfl,hak,hown,hbel,hacc⟩:=hrel
  by_cases hlt:k<s.size
  ·have hst:bare (s.data.toList.take (k+1))=acc++if soft s[k] then [] else [s[k]]:=by
    rw [zm4 _ _ (by rw [HL.out];exact hlt),zv7,hacc.out];rfl
   rcases ypf s[k] with ⟨h0,h1⟩ | ⟨h0,q1,p1,q2,p2,q3,p3,q4,p4⟩
   ·rw [h0,if_pos rfl,List.append_nil] at hst
    have hst':=Lib.hid hst;clear hst h0
    rcases h1 with ⟨q1,p1⟩ | ⟨q1,p1,⟨q2,p2⟩ | ⟨q2,p2,⟨q3,p3⟩ | ⟨q3,p3,q4,p4⟩⟩⟩
    all_goals
     go_wp2
     go_roundw
     case rel=>exact ⟨k+1,acc,by omega,by go_num,by omega,hown,hbel,Lib.hid hst'.out.symm⟩
     case measure=>simp [intOf];omega
   ·rw [h0,if_neg (by simp)] at hst
    have hst':=Lib.hid hst;clear hst h0
    go_wp2_with (at_builtin;refine zjv (by rfl) _ _ _ (by rfl) 5 Tryz.underlying44 infoByte w.heap.size wr _ _ (by rfl) hown (s[k]) (by rfl) (by omega) hbel.size ?_;intro g cap w1 hg hown1 hgr hb1 hsz1)
    go_roundw
    case rel=>exact ⟨k+1,acc++[s[k]],by omega,by go_num,by simp;omega,hown1,hbel.trans hb1,Lib.hid hst'.out.symm⟩
    case measure=>simp [intOf];omega
  ·obtain rfl:k=s.size:=by omega
   have hfin:acc=bare s.data.toList:=by rw [hacc.out,List.take_of_length_le (by rw [HL.out];exact Nat.le_refl _)]
   have HF:=Lib.hid hfin;clear hfin
   have kc:=zg8 (P:=Tryz.prog) Tryz.underlying44 Tryz.underlying5 Tryz.underlying9 hown
   have hsz:(ByteArray.mk acc.toArray).size≤1000000:=by show acc.length≤_;omega
   rcases V with _ | l
   all_goals
    go_wp2_with (go_at_call 139;refine (ype _ _ _ HF.out HV.out _ hsz).mono ?_;rintro e w1 ⟨rfl,hb1⟩;simp only [zq1,zq2])
    go_ret2
    exact ⟨rfl,hbel.trans (hb1.mono hbel.size)⟩
theorem z15 (hD:∀ (s:ByteArray) (w:World),s.size≤100000→Calls Tryz.prog 140 #[.string s] w (Ret (zm5 (zco s.data.toList)) w)) (s:ByteArray) (w:World) (hs:s.size≤100000):Calls Tryz.prog 120 #[.string s] w (Ret (zm5 (zco (bare s.data.toList))) w):=by
 have hlen:s.data.toList.length=s.size:=rfl
 have HL:=Lib.hid hlen;clear hlen
 have hD':∀ (t:ByteArray) (l:List UInt8) (V:Option (List UInt8)) (ht:t.data.toList=l) (hV:zco l=V) (w:World) (hs:t.size≤100000),Calls Tryz.prog 140 #[.string t] w (Ret (zm5 V) w):=by
  intro t l V ht hV w hs;subst ht;subst hV;exact hD t w hs
 have HD:=Lib.hid hD';clear hD hD'
 generalize hV:zco (bare s.data.toList)=V
 have HV:=Lib.hid hV;clear hV
 go_enter Tryz.func120,Tryz.ntmps120
 go_wp2
 go_loopw [4,5] (fun v i wr=>∃ (k:Nat) (acc:List UInt8),k≤s.size∧i=.int .i64 k∧acc.length≤k∧OwnB w.heap.size 5 v acc wr∧Below w.heap.size w wr∧Hid (acc=bare (s.data.toList.take k)))
  (fun _ i _=>s.size - (intOf i).toNat)
 case atStart=>exact ⟨0,[],Nat.zero_le _,rfl,by simp,OwnB.made w (Nat.le_refl _) _ _ rfl (by decide),(Below.refl _ _).alloc (Nat.le_refl _) _,Lib.hid rfl⟩
 case round =>
  obtain ⟨k,acc,hk,rfl,hak,hown,hbel,hacc⟩:=hrel
  by_cases hlt:k<s.size
  ·have hst:bare (s.data.toList.take (k+1))=acc++if soft s[k] then [] else [s[k]]:=by
    rw [zm4 _ _ (by rw [HL.out];exact hlt),zv7,hacc.out];rfl
   rcases ypf s[k] with ⟨h0,h1⟩ | ⟨h0,q1,p1,q2,p2,q3,p3,q4,p4⟩
   ·rw [h0,if_pos rfl,List.append_nil] at hst
    have hst':=Lib.hid hst;clear hst h0
    rcases h1 with ⟨q1,p1⟩ | ⟨q1,p1,⟨q2,p2⟩ | ⟨q2,p2,⟨q3,p3⟩ | ⟨q3,p3,q4,p4⟩⟩⟩
    all_goals
     go_wp2
     go_roundw
     case rel=>exact ⟨k+1,acc,by omega,by go_num,by omega,hown,hbel,Lib.hid hst'.out.symm⟩
     case measure=>simp [intOf];omega
   ·rw [h0,if_neg (by simp)] at hst
    have hst':=Lib.hid hst;clear hst h0
    go_wp2_with (at_builtin;refine zjv (by rfl) _ _ _ (by rfl) 5 Tryz.underlying44 infoByte w.heap.size wr _ _ (by rfl) hown (s[k]) (by rfl) (by omega) hbel.size ?_;intro g cap w1 hg hown1 hgr hb1 hsz1)
    go_roundw
    case rel=>exact ⟨k+1,acc++[s[k]],by omega,by go_num,by simp;omega,hown1,hbel.trans hb1,Lib.hid hst'.out.symm⟩
    case measure=>simp [intOf];omega
  ·obtain rfl:k=s.size:=by omega
   have hfin:acc=bare s.data.toList:=by rw [hacc.out,List.take_of_length_le (by rw [HL.out];exact Nat.le_refl _)]
   have HF:=Lib.hid hfin;clear hfin
   have kc:=zg8 (P:=Tryz.prog) Tryz.underlying44 Tryz.underlying5 Tryz.underlying9 hown
   have hsz:(ByteArray.mk acc.toArray).size≤100000:=by show acc.length≤_;omega
   rcases V with _ | l
   all_goals
    go_wp2_with (go_at_call 140;refine (HD.out _ _ _ HF.out HV.out _ hsz).mono ?_;rintro e w1 ⟨rfl,hb1⟩;simp only [zq1,zq2])
    go_ret2
    exact ⟨rfl,hbel.trans (hb1.mono hbel.size)⟩
end Go.Proofs.YtmpiobfdchlikaaGreatDoor
end
section
set_option synthInstance.maxSize 4000
set_option synthInstance.maxHeartbeats 400000
namespace Nun
def free (c:UInt8):Bool:=(97≤c && c≤122) || (65≤c && c≤90) || (48≤c && c≤57) || c == 45 || c == 46 || c == 95 || c == 126
def znz (c:UInt8):Option UInt8:=if 48≤c∧c≤57 then some (c - 48) else if 97≤c∧c≤102 then some (c - 87) else if 65≤c∧c≤70 then some (c - 55) else none
def hexd (c:UInt8):UInt8:=if c<10 then 48+c else 55+c
def pair (c:UInt8):List UInt8:=[hexd (c / 16),hexd (c % 16)]
def hex2 (a b:UInt8):Option UInt8:=match znz a,znz b with | some x,some y=>some (16 * x+y) | _,_=>none
def zme (s:List UInt8) (at_:Int):Option UInt8 :=
 if at_<0 then none else match s[at_.toNat]?,s[at_.toNat+1]? with | some a,some b=>hex2 a b | _,_=>none
theorem zm6 (s:ByteArray) (n:Int) (h:n<0∨(s.size:Int) - 2<n):zme s.data.toList n=none:=by
 unfold zme
 split
 ·rfl
 ·rename_i h0
  have:s.data.toList[n.toNat+1]? =none:=by
   rw [List.getElem?_eq_none];simp;show s.size≤_;omega
  rw [this];split<;>simp_all
theorem zz0 (s:ByteArray) (n:Int) (h0:0≤n) (h:n+2≤s.size):zme s.data.toList n=hex2 (s[n.toNat]'(by omega)) (s[(n+1).toNat]'(by omega)):=by
 have e:(n+1).toNat=n.toNat+1:=by omega
 have a:s.data.toList[n.toNat]? =some (s[n.toNat]'(by omega)):=by
  rw [qe (by simp;show _<s.size;omega)];rfl
 have b:s.data.toList[n.toNat+1]? =some (s[(n+1).toNat]'(by omega)):=by
  rw [qe (by simp;show _<s.size;omega)];simp only [e];rfl
 unfold zme
 rw [if_neg (by omega),a,b]
theorem zpf {c x:UInt8} (h:znz c=some x):x<16:=by
 have:∀ c:UInt8,(znz c).getD 0<16:=by decide +kernel
 have:=this c;rw [h] at this;exact this
theorem ypg:∀ x:UInt8,x<16→∀ y:UInt8,y<16→Go.bits .or .u8 (↑x.toNat * 16 % 256) ↑y.toNat=↑(16 * x+y).toNat:=by decide +kernel
end Nun
namespace Go.Proofs.YtmpiobfdchlikaaGreatDoor
open Go.RowKit Nun
theorem z6o (c:UInt8) (w:World):Calls Tryz.prog 212 #[.int .u8 c.toNat] w (Same (.tuple #[.int .u8 ((znz c).getD 0).toNat,.bool (znz c).isSome]) w):=by
 go_enter Tryz.func212,Tryz.ntmps212
 go_wp2
 all_goals (go_ret2;refine ⟨t2 (vi ?_) (vb ?_),rfl⟩)
 all_goals (go_light;revert c;decide +kernel)
theorem z6p (c:UInt8) (w:World):Calls Tryz.prog 201 #[.int .u8 c.toNat] w (Same (.int .i64 (((znz c).getD 16).toNat)) w):=by
 go_enter Tryz.func201,Tryz.ntmps201
 go_wp2
 all_goals (go_ret;refine ⟨r1 (vi ?_),rfl⟩)
 all_goals (go_light;revert c;decide +kernel)
theorem ycn (c:UInt8) (o:Option UInt8) (h:znz c=o) (w:World):Calls Tryz.prog 212 #[.int .u8 c.toNat] w (Same (.tuple #[.int .u8 (o.getD 0).toNat,.bool o.isSome]) w):=h ▸ z6o c w
theorem yco (c:UInt8) (o:Option UInt8) (h:znz c=o) (w:World):Calls Tryz.prog 201 #[.int .u8 c.toNat] w (Same (.int .i64 (o.getD 16).toNat) w):=h ▸ z6p c w
theorem ycp (s:ByteArray) (n:Int) (w:World) (hs:s.size≤1000000000) :
 Calls Tryz.prog 179 #[.string s,.int .i64 n] w (Same (.tuple #[.int .u8 ((zme s.data.toList n).getD 0).toNat,.bool (zme s.data.toList n).isSome]) w):=by
 by_cases hn:0≤n∧n+2≤s.size
 ·obtain ⟨h1,h2⟩:=hn
  have h3:¬ (n<0):=by omega
  have h4:¬ ((s.size:Int) - 2<n):=by omega
  have h5:(0:Int)≤n+1:=by omega
  have h6:n+1<(s.size:Int):=by omega
  have h7:n<(s.size:Int):=by omega
  rw [zz0 s n h1 h2];unfold hex2
  generalize hx:znz s[n.toNat]=x;generalize hy:znz s[(n+1).toNat]=y
  have HX:=Lib.hid hx;have HY:=Lib.hid hy;clear hx hy
  cases x<;>cases y
  all_goals
   go_enter Tryz.func179,Tryz.ntmps179
   go_wp2_with (go_at_call 212;refine (ycn _ _ (by first | exact HX.out | exact HY.out) _).mono ?_;rintro e w' ⟨rfl,rfl⟩)
   go_ret2
  all_goals go_light
  all_goals first | exact ⟨rfl,rfl⟩ | refine ⟨t2 (vi ?_) rfl,rfl⟩
  rw [ypg _ (zpf HX.out) _ (zpf HY.out)];rfl
 ·go_enter Tryz.func179,Tryz.ntmps179
  go_wp2
  all_goals (go_ret2;refine ⟨t2 (vi ?_) (vb ?_),rfl⟩<;>rw [zm6 s n (by omega)]<;>rfl)
theorem ycq (s:ByteArray) (n:Int) (w:World) (hs:s.size≤1000000000) :
 Calls Tryz.prog 170 #[.string s,.int .i64 n] w (Ret (.tuple #[.int .u8 ((zme s.data.toList n).getD 0).toNat,.bool (zme s.data.toList n).isSome]) w):=by
 by_cases hn:0≤n∧n+2≤s.size
 ·obtain ⟨h1,h2⟩:=hn
  have h3:¬ (n<0):=by omega
  have h4:¬ ((s.size:Int) - 2<n):=by omega
  have h5:(0:Int)≤n+1:=by omega
  have h6:n+1<(s.size:Int):=by omega
  have h7:n<(s.size:Int):=by omega
  rw [zz0 s n h1 h2];unfold hex2
  generalize hx:znz s[n.toNat]=x;generalize hy:znz s[(n+1).toNat]=y
  have HX:=Lib.hid hx;have HY:=Lib.hid hy;clear hx hy
  have a1:∀ v,x=some v→(v.toNat:Int)≤15:=fun v h=>by have:=zpf (HX.out.trans h);have:=UInt8.lt_iff_toNat_lt.1 this;simp at this;omega
  have a2:∀ v,y=some v→(v.toNat:Int)≤15:=fun v h=>by have:=zpf (HY.out.trans h);have:=UInt8.lt_iff_toNat_lt.1 this;simp at this;omega
  rcases x with _ | x<;>rcases y with _ | y
  all_goals (try replace a1:=a1 _ rfl)
  all_goals (try replace a2:=a2 _ rfl)
  all_goals
   go_enter Tryz.func170,Tryz.ntmps170
   go_wp2
   (refine wp_region_quiet_below (by kernel_rfl) (by kernel_rfl) ?_;(repeat (first | go_big_quiet_skip | (go_big_quiet_want;go_big_quiet_op;first | go_big_quiet_on | (apply Exists.intro;refine ⟨fun _=>?_,?_⟩;(· (exact z10 (fun w=>yco _ _ (by first | exact HX.out | exact HY.out) w)));go_big_quiet_on))));refine wpQuiet_nil ?_;intro _ hw';obtain ⟨⟨dq,osq⟩,hw''⟩:=hw';subst hw'')
   go_wp2
  all_goals (go_ret2;go_light)
  all_goals first | exact ⟨rfl,below_regrown _ _ _⟩ | refine ⟨t2 (vi ?_) rfl,below_regrown _ _ _⟩
  simp [UInt8.toNat_add,UInt8.toNat_mul];omega
 ·go_enter Tryz.func170,Tryz.ntmps170
  go_wp2
  all_goals (go_ret2;refine ⟨t2 (vi ?_) (vb ?_),Below.refl _ _⟩<;>rw [zm6 s n (by omega)]<;>rfl)
end Go.Proofs.YtmpiobfdchlikaaGreatDoor
end
section
namespace Nun
def zq3 {α:Type} (step:Nat→Option (List α × Nat)) (len:Nat):Nat→Nat→Option (List α)
 | 0,_=>some []
 | f+1,k=>if k<len then match step k with
   | none=>none
   | some (o,n)=>(zq3 step len f (k+n)).map (o++·)
   else some []
theorem zv8 {α:Type} {step:Nat→Option (List α × Nat)} {len:Nat} (hn:∀ k o n,step k=some (o,n)→0<n) :
 ∀ f f' k,len - k≤f→len - k≤f'→zq3 step len f k=zq3 step len f' k:=by
 intro f
 induction f with
 | zero =>
   intro f' k h _
   cases f' with
   | zero=>rfl
   | succ f'=>simp only [zq3];rw [if_neg (by omega)]
 | succ f ih =>
   intro f' k h h'
   by_cases hk:k<len
   ·cases f' with
    | zero=>omega
    | succ f' =>
      simp only [zq3]
      rw [if_pos hk]
      cases hs:step k with
      | none=>simp [hk]
      | some p =>
        obtain ⟨o,n⟩:=p
        have:=hn k o n hs
        simp only
        rw [ih f' (k+n) (by omega) (by omega),if_pos hk]
   ·have e:zq3 step len (f+1) k=some []:=by simp only [zq3];rw [if_neg hk]
    rw [e]
    cases f' with
    | zero=>rfl
    | succ f'=>simp only [zq3];rw [if_neg hk]
def zf6 {α:Type} (step:Nat→Option (List α × Nat)) (len k:Nat):Option (List α):=zq3 step len (len - k) k
theorem zom {α:Type} {step:Nat→Option (List α × Nat)} {len k:Nat} (h:len≤k):zf6 step len k=some []:=by
 unfold zf6;rw [Nat.sub_eq_zero_of_le h];rfl
theorem zh4 {α:Type} {step:Nat→Option (List α × Nat)} {len k:Nat} (h:k<len) (hs:step k=none):zf6 step len k=none:=by
 unfold zf6
 obtain ⟨m,hm⟩:∃ m,len - k=m+1:=⟨len - k - 1,by omega⟩
 rw [hm];simp only [zq3];rw [if_pos h,hs]
theorem zv9 {α:Type} {step:Nat→Option (List α × Nat)} {len k n:Nat} {o:List α} (hn:∀ k o n,step k=some (o,n)→0<n) (h:k<len) (hs:step k=some (o,n)) :
 zf6 step len k=(zf6 step len (k+n)).map (o++·):=by
 unfold zf6
 obtain ⟨m,hm⟩:∃ m,len - k=m+1:=⟨len - k - 1,by omega⟩
 rw [hm];simp only [zq3];rw [if_pos h,hs]
 have:=hn k o n hs
 simp only
 rw [zv8 hn m (len - (k+n)) (k+n) (by omega) (Nat.le_refl _)]
theorem zb4 {α:Type} {step:Nat→Option (List α × Nat)} {len k n:Nat} {o acc:List α} {r:Option (List α)} (hn:∀ k o n,step k=some (o,n)→0<n) (h:k<len) (hs:step k=some (o,n))
 (ha:r=(zf6 step len k).map (acc++·)):r=(zf6 step len (k+n)).map ((acc++o)++·):=by
 rw [ha,zv9 hn h hs];cases zf6 step len (k+n)<;>simp
def zek (s w:List UInt8) (n:Int):Bool:=decide (0≤n) && decide (n≤s.length) && w.isPrefixOf (s.drop n.toNat)
theorem zsu (s w:List UInt8) (k:Nat) (h:k≤s.length):zek s w k=w.isPrefixOf (s.drop k):=by
 unfold zek;simp [h]
end Nun
end
section
set_option synthInstance.maxSize 4000
namespace Nun
def zh5 (c:UInt8):Bool:=33≤c && c≤126 && c != 61
def zya (s:List UInt8) (k:Nat):Option (List UInt8 × Nat) :=
 match s[k]? with
 | none=>none
 | some c=>if zek s [13,10] k then some ([10],2) else if zek s [61,13,10] k then some ([],3)
   else if c=61 then (zme s (k+1)).map fun b=>([b],3) else if zh5 c || c == 32 || c == 9 then some ([c],1) else none
theorem zdz (s:List UInt8):∀ k o n,zya s k=some (o,n)→0<n:=by
 intro k o n h
 unfold zya at h
 split at h
 ·cases h
 ·repeat' split at h
  all_goals first | (cases h;omega) | skip
  ·simp at h;omega
  ·cases h
theorem zdh (s:ByteArray) (k:Nat) (hk:k<s.size) (b1 b2:Bool) (h1:zek s.data.toList [13,10] k=b1) (h2:zek s.data.toList [61,13,10] k=b2):zya s.data.toList k =
 if b1 then some ([10],2) else if b2 then some ([],3) else if s[k]=61 then (zme s.data.toList (k+1)).map (fun b=>([b],3)) else if zh5 s[k] || s[k] == 32 || s[k] == 9 then some ([s[k]],1) else none:=by
 unfold zya
 rw [qe (show k<s.data.toList.length from hk)]
 simp only [h1,h2];rfl
def decL (s:List UInt8):Option (List UInt8):=zf6 (zya s) s.length 0
def decV:Option (List UInt8)→Go.Value
 | none=>.tuple #[.string ⟨#[]⟩,.int .i64 7]
 | some l=>.tuple #[.string ⟨l.toArray⟩,.int .i64 0]
attribute [simp] decV
end Nun
namespace Go.Proofs.YtmpiobfdchlikaaGreatDoor
open Go.RowKit Nun
theorem z16 (s t:ByteArray) (n:Int) (w:World) (hs:s.size≤1000000000):Calls Tryz.prog 134 #[.string s,.string t,.int .i64 n] w (Same (.bool (zek s.data.toList t.data.toList n)) w):=by
 by_cases h:0≤n∧n≤s.size
 ·obtain ⟨h1,h2⟩:=h
  obtain ⟨k,rfl⟩:=Int.eq_ofNat_of_zero_le h1
  have hb:zek s.data.toList t.data.toList (k:Int)=Lib.hasPrefix (s.extract k s.size).data.toList t.data.toList:=by
   rw [zsu _ _ _ (by show k≤s.size;omega),Lib.extract_to_end];rfl
  have HB:=Lib.hid hb;clear hb
  go_enter Tryz.func134,Tryz.ntmps134
  go_wp2_with (go_at_call 74;refine (Tryz.strings_HasPrefix _ _ _).mono ?_;rintro e w' ⟨rfl,rfl⟩)
  go_ret
  exact ⟨r1 (vb (by rw [HB.out];simp)),rfl⟩
 ·have hb:zek s.data.toList t.data.toList n=false:=by
   unfold zek
   by_cases h0:0≤n
   ·rw [decide_eq_false (p:=n≤(s.data.toList.length:Int)) (by show ¬ n≤(s.size:Int);omega)];simp
   ·rw [decide_eq_false h0];simp
  have HB:=Lib.hid hb;clear hb
  by_cases h0:0≤n
  ·have h1:decide (n≤(s.size:Int))=false:=by simp;omega
   go_enter Tryz.func134,Tryz.ntmps134
   go_wp2
   go_ret
   exact ⟨r1 (vb (by rw [HB.out])),rfl⟩
  ·go_enter Tryz.func134,Tryz.ntmps134
   go_wp2
   go_ret
   exact ⟨r1 (vb (by rw [HB.out])),rfl⟩
theorem zyb (s t:ByteArray) (n:Int) (w:World) (hs:s.size≤1000000000) (ht:t.size≤1000000000):Calls Tryz.prog 60 #[.string s,.string t,.int .i64 n] w (Same (.bool (zek s.data.toList t.data.toList n)) w):=by
 by_cases h:0≤n∧n≤s.size
 ·obtain ⟨h1,h2⟩:=h
  obtain ⟨k,rfl⟩:=Int.eq_ofNat_of_zero_le h1
  have hb:zek s.data.toList t.data.toList (k:Int)=t.data.toList.isPrefixOf (s.data.toList.drop k):=zsu _ _ _ (by show k≤s.size;omega)
  by_cases h3:(t.size:Int)≤(s.size:Int) - k
  ·have hb2:zek s.data.toList t.data.toList (k:Int)=((s.extract k (k+t.size)).data.toList == t.data.toList):=by
    rw [hb,Lib.extract_data,Nat.add_sub_cancel_left]
    rw [Bool.eq_iff_iff,List.isPrefixOf_iff_prefix,beq_iff_eq,List.prefix_iff_eq_take]
    exact eq_comm
   have HB:=Lib.hid hb2;clear hb hb2
   go_enter Tryz.func60,Tryz.ntmps60
   go_wp2
   go_ret
   exact ⟨r1 (vb (by rw [HB.out,← Lib.toList_data,← Lib.toList_data])),rfl⟩
  ·have hb2:zek s.data.toList t.data.toList (k:Int)=false:=by
    rw [hb,Bool.eq_false_iff];intro h4
    have:=(List.isPrefixOf_iff_prefix.1 h4).length_le
    rw [List.length_drop] at this
    have e1:s.data.toList.length=s.size:=rfl
    have e2:t.data.toList.length=t.size:=rfl
    omega
   have HB:=Lib.hid hb2;clear hb hb2
   have h4:decide ((t.size:Int)≤(s.size:Int) - k)=false:=by simp;omega
   go_enter Tryz.func60,Tryz.ntmps60
   go_wp2
   go_ret
   exact ⟨r1 (vb (by rw [HB.out])),rfl⟩
 ·have hb:zek s.data.toList t.data.toList n=false:=by
   unfold zek
   by_cases h0:0≤n
   ·rw [decide_eq_false (p:=n≤(s.data.toList.length:Int)) (by show ¬ n≤(s.size:Int);omega)];simp
   ·rw [decide_eq_false h0];simp
  have HB:=Lib.hid hb;clear hb
  by_cases h0:0≤n
  ·have h1:decide (n≤(s.size:Int))=false:=by simp;omega
   go_enter Tryz.func60,Tryz.ntmps60
   go_wp2
   go_ret
   exact ⟨r1 (vb (by rw [HB.out])),rfl⟩
  ·go_enter Tryz.func60,Tryz.ntmps60
   go_wp2
   go_ret
   exact ⟨r1 (vb (by rw [HB.out])),rfl⟩
set_option maxRecDepth 100000 in
theorem ycr (c:UInt8) (w:World):Calls Tryz.prog 154 #[.int .u8 c.toNat] w (Same (.bool (zh5 c)) w):=by
 go_enter Tryz.func154,Tryz.ntmps154
 go_wp2
 all_goals (go_ret;refine ⟨r1 (vb ?_),rfl⟩)
 all_goals (go_light;revert c;decide +kernel)
set_option maxRecDepth 100000 in
theorem z6q (c:UInt8) (w:World):Calls Tryz.prog 156 #[.int .u8 c.toNat] w (Same (.bool (zh5 c)) w):=by
 go_enter Tryz.func156,Tryz.ntmps156
 go_wp2
 all_goals (go_ret;refine ⟨r1 (vb ?_),rfl⟩)
 all_goals (go_light;revert c;decide +kernel)
end Go.Proofs.YtmpiobfdchlikaaGreatDoor
end
section
set_option synthInstance.maxSize 4000
namespace Nun
def one (s:List UInt8) (n:Int):Option (UInt8 × Nat) :=
 if n<0 then none else match s[n.toNat]? with
 | none=>none
 | some c=>if free c then some (c,1) else if c=37 then (zme s (n+1)).map fun x=>(x,3) else none
def oneV:Option (UInt8 × Nat)→Go.Value
 | none=>.tuple #[.int .u8 0,.int .i64 0,.bool false]
 | some (c,k)=>.tuple #[.int .u8 c.toNat,.int .i64 k,.bool true]
attribute [simp] oneV
end Nun
namespace Go.Proofs.YtmpiobfdchlikaaGreatDoor
open Go.RowKit Nun
theorem byte_of (s:ByteArray) (n:Int) (o:Option UInt8) (h:zme s.data.toList n=o) (w:World) (hs:s.size≤1000000000) :
 Calls Tryz.prog 179 #[.string s,.int .i64 n] w (Same (.tuple #[.int .u8 (o.getD 0).toNat,.bool o.isSome]) w):=h ▸ ycp s n w hs
theorem zz1 (s:ByteArray) (n:Int) (o:Option UInt8) (h:zme s.data.toList n=o) (w:World) (hs:s.size≤1000000000) :
 Calls Tryz.prog 170 #[.string s,.int .i64 n] w (Ret (.tuple #[.int .u8 (o.getD 0).toNat,.bool o.isSome]) w):=h ▸ ycq s n w hs
end Go.Proofs.YtmpiobfdchlikaaGreatDoor
end
section
namespace Go.Proofs.YtmpiobfdchlikaaGreatDoor
open Go.RowKit Nun
theorem zdq (s t:ByteArray) (n:Int) (b:Bool) (h:zek s.data.toList t.data.toList n=b) (w:World) (hs:s.size≤1000000000):Calls Tryz.prog 134 #[.string s,.string t,.int .i64 n] w (Same (.bool b) w):=h ▸ z16 s t n w hs
theorem zc7 (s t:ByteArray) (n:Int) (b:Bool) (h:zek s.data.toList t.data.toList n=b) (w:World) (hs:s.size≤1000000000) (ht:t.size≤1000000000:=by decide):Calls Tryz.prog 60 #[.string s,.string t,.int .i64 n] w (Same (.bool b) w):=h ▸ zyb s t n w hs ht
theorem zji (c:UInt8) (b:Bool) (h:zh5 c=b) (w:World):Calls Tryz.prog 154 #[.int .u8 c.toNat] w (Same (.bool b) w):=h ▸ ycr c w
theorem zh6 (c:UInt8) (b:Bool) (h:zh5 c=b) (w:World):Calls Tryz.prog 156 #[.int .u8 c.toNat] w (Same (.bool b) w):=h ▸ z6q c w
set_option maxRecDepth 100000 in
theorem z6r (s:ByteArray) (w:World) (hs:s.size≤100000000):Calls Tryz.prog 129 #[.string s] w (Ret (decV (decL s.data.toList)) w):=by
 have hlen:s.data.toList.length=s.size:=rfl
 have HL:=Lib.hid hlen;clear hlen
 go_enter Tryz.func129,Tryz.ntmps129
 go_wp2
 go_loopw [4,5,6,7,8] (fun v i _ _ _ wr=>∃ (k:Nat) (acc:List UInt8),i=.int .i64 k∧k≤s.size+2∧acc.length≤k∧OwnB w.heap.size 5 v acc wr∧Below w.heap.size w wr∧Hid (decL s.data.toList=(zf6 (zya s.data.toList) s.data.toList.length k).map (acc++·)))
  (fun _ i _ _ _ _=>s.size+2 - (intOf i).toNat)
 case atStart=>exact ⟨0,[],rfl,by omega,by simp,OwnB.nil _ _ _,Below.refl _ _,Lib.hid (by unfold decL;simp)⟩
 case round =>
  obtain ⟨k,acc,rfl,hk,hak,hown,hbel,hrd⟩:=hrel
  by_cases hlt:k<s.size
  ·generalize hb1:zek s.data.toList (⟨#[13,10]⟩:ByteArray).data.toList (k:Int)=b1
   generalize hb2:zek s.data.toList (⟨#[61,13,10]⟩:ByteArray).data.toList (k:Int)=b2
   have HB1:=Lib.hid hb1;have HB2:=Lib.hid hb2;clear hb1 hb2
   cases b1
   ·cases b2
    ·by_cases h61:s[k]=61
     ·have q1:((s[k].toNat:Int) == 61)=true:=by rw [h61];rfl
      rcases ho:zme s.data.toList ((k:Int)+1) with _ | b
      ·have HR:=Lib.hid (show decL s.data.toList=none by rw [hrd.out,zh4 (len:=s.data.toList.length) hlt (by rw [zdh s k hlt _ _ HB1.out HB2.out,if_neg (by simp),if_neg (by simp),if_pos h61,ho];rfl)];rfl)
       have HO:=Lib.hid ho;clear ho hrd h61
       go_wp2_with (first | (go_at_call 134;refine (zdq _ _ _ _ (by first | exact HB1.out | exact HB2.out) _ (by omega)).mono ?_;rintro e w1 ⟨rfl,rfl⟩) | (go_at_call 179;refine (byte_of _ _ _ HO.out _ (by omega)).mono ?_;rintro e w1 ⟨rfl,rfl⟩))
       go_ret2
       rw [HR.out]
       exact ⟨rfl,hbel⟩
      ·have HR:=Lib.hid (zb4 (zdz _) hlt (o:=[b]) (n:=3) (by rw [zdh s k hlt _ _ HB1.out HB2.out,if_neg (by simp),if_neg (by simp),if_pos h61,ho];rfl) hrd.out)
       have hk3:k+3≤s.size:=by
        by_cases h3:k+3≤s.size
        ·exact h3
        ·rw [zm6 s _ (by omega)] at ho;cases ho
       have HO:=Lib.hid ho;clear ho hrd h61
       go_wp2_with (first | (go_at_call 134;refine (zdq _ _ _ _ (by first | exact HB1.out | exact HB2.out) _ (by omega)).mono ?_;rintro e w1 ⟨rfl,rfl⟩) | (go_at_call 179;refine (byte_of _ _ _ HO.out _ (by omega)).mono ?_;rintro e wo ⟨rfl,rfl⟩;skip) | (at_builtin;refine zjv (by rfl) _ _ _ (by rfl) 5 Tryz.underlying44 infoByte w.heap.size wr _ _ (by rfl) hown b (by rfl) (by omega) hbel.size ?_;intro g cap w1 hg hown1 hgr hb1 hsz1))
       go_roundw
       case rel=>exact ⟨k+3,acc++[b],by go_num,by omega,by simp;omega,hown1,hbel.trans hb1,HR⟩
       case measure=>simp [intOf];omega
     ·have q1:((s[k].toNat:Int) == 61)=false:=by simp [← UInt8.toNat_inj] at h61 ⊢;omega
      by_cases hp:zh5 s[k]=true
      ·have HR:=Lib.hid (zb4 (zdz _) hlt (o:=[s[k]]) (n:=1) (by rw [zdh s k hlt _ _ HB1.out HB2.out];simp [h61,hp]) hrd.out)
       have HP:=Lib.hid hp;clear hp hrd h61
       go_wp2_with (first | (go_at_call 134;refine (zdq _ _ _ _ (by first | exact HB1.out | exact HB2.out) _ (by omega)).mono ?_;rintro e w1 ⟨rfl,rfl⟩) | (go_at_call 154;refine (zji _ _ HP.out _).mono ?_;rintro e w1 ⟨rfl,rfl⟩) | (at_builtin;refine zjv (by rfl) _ _ _ (by rfl) 5 Tryz.underlying44 infoByte w.heap.size wr _ _ (by rfl) hown s[k] (by rfl) (by omega) hbel.size ?_;intro g cap w1 hg hown1 hgr hb1 hsz1))
       go_roundw
       case rel=>exact ⟨k+1,acc++[s[k]],by go_num,by omega,by simp;omega,hown1,hbel.trans hb1,HR⟩
       case measure=>simp [intOf];omega
      ·replace hp:zh5 s[k]=false:=by simpa using hp
       by_cases hbl:s[k]=32∨s[k]=9
       ·have HP:=Lib.hid hp;clear hp
        rcases hbl with hbl | hbl
        ·have HR:=Lib.hid (zb4 (zdz _) hlt (o:=[s[k]]) (n:=1) (by rw [zdh s k hlt _ _ HB1.out HB2.out];simp [hbl,zh5]) hrd.out)
         clear hrd h61
         have q2:((s[k].toNat:Int) == 32)=true:=by rw [hbl];rfl
         clear hbl
         go_wp2_with (first | (go_at_call 134;refine (zdq _ _ _ _ (by first | exact HB1.out | exact HB2.out) _ (by omega)).mono ?_;rintro e w1 ⟨rfl,rfl⟩) | (go_at_call 154;refine (zji _ _ HP.out _).mono ?_;rintro e w1 ⟨rfl,rfl⟩) | (at_builtin;refine zjv (by rfl) _ _ _ (by rfl) 5 Tryz.underlying44 infoByte w.heap.size wr _ _ (by rfl) hown s[k] (by rfl) (by omega) hbel.size ?_;intro g cap w1 hg hown1 hgr hb1 hsz1))
         go_roundw
         case rel=>exact ⟨k+1,acc++[s[k]],by go_num,by omega,by simp;omega,hown1,hbel.trans hb1,HR⟩
         case measure=>simp [intOf];omega
        ·have HR:=Lib.hid (zb4 (zdz _) hlt (o:=[s[k]]) (n:=1) (by rw [zdh s k hlt _ _ HB1.out HB2.out];simp [hbl,zh5]) hrd.out)
         clear hrd h61
         have q2:((s[k].toNat:Int) == 32)=false:=by rw [hbl];rfl
         have q3:((s[k].toNat:Int) == 9)=true:=by rw [hbl];rfl
         clear hbl
         go_wp2_with (first | (go_at_call 134;refine (zdq _ _ _ _ (by first | exact HB1.out | exact HB2.out) _ (by omega)).mono ?_;rintro e w1 ⟨rfl,rfl⟩) | (go_at_call 154;refine (zji _ _ HP.out _).mono ?_;rintro e w1 ⟨rfl,rfl⟩) | (at_builtin;refine zjv (by rfl) _ _ _ (by rfl) 5 Tryz.underlying44 infoByte w.heap.size wr _ _ (by rfl) hown s[k] (by rfl) (by omega) hbel.size ?_;intro g cap w1 hg hown1 hgr hb1 hsz1))
         go_roundw
         case rel=>exact ⟨k+1,acc++[s[k]],by go_num,by omega,by simp;omega,hown1,hbel.trans hb1,HR⟩
         case measure=>simp [intOf];omega
       ·have h32:¬ s[k]=32:=fun h=>hbl (.inl h)
        have h9:¬ s[k]=9:=fun h=>hbl (.inr h)
        have HR:=Lib.hid (show decL s.data.toList=none by rw [hrd.out,zh4 (len:=s.data.toList.length) hlt (by rw [zdh s k hlt _ _ HB1.out HB2.out];simp [h61,hp,h32,h9])];rfl)
        have q2:((s[k].toNat:Int) == 32)=false:=by simp [← UInt8.toNat_inj] at h32 ⊢;omega
        have q3:((s[k].toNat:Int) == 9)=false:=by simp [← UInt8.toNat_inj] at h9 ⊢;omega
        have HP:=Lib.hid hp;clear hp hrd h61 hbl h32 h9
        go_wp2_with (first | (go_at_call 134;refine (zdq _ _ _ _ (by first | exact HB1.out | exact HB2.out) _ (by omega)).mono ?_;rintro e w1 ⟨rfl,rfl⟩) | (go_at_call 154;refine (zji _ _ HP.out _).mono ?_;rintro e w1 ⟨rfl,rfl⟩))
        go_ret2
        rw [HR.out]
        exact ⟨rfl,hbel⟩
    ·have HR:=Lib.hid (zb4 (zdz _) hlt (o:=[]) (n:=3) (by rw [zdh s k hlt _ _ HB1.out HB2.out];simp) hrd.out)
     clear hrd
     go_wp2_with (go_at_call 134;refine (zdq _ _ _ _ (by first | exact HB1.out | exact HB2.out) _ (by omega)).mono ?_;rintro e w1 ⟨rfl,rfl⟩)
     go_roundw
     case rel=>exact ⟨k+3,acc,by go_num,by omega,by omega,hown,hbel,by simpa using HR⟩
     case measure=>simp [intOf];omega
   ·have HR:=Lib.hid (zb4 (zdz _) hlt (o:=[10]) (n:=2) (by rw [zdh s k hlt _ _ HB1.out HB2.out];simp) hrd.out)
    clear hrd
    go_wp2_with (first | (go_at_call 134;refine (zdq _ _ _ _ (by first | exact HB1.out | exact HB2.out) _ (by omega)).mono ?_;rintro e w1 ⟨rfl,rfl⟩) | (at_builtin;refine zjv (by rfl) _ _ _ (by rfl) 5 Tryz.underlying44 infoByte w.heap.size wr _ _ (by rfl) hown 10 (by rfl) (by omega) hbel.size ?_;intro g cap w1 hg hown1 hgr hb1 hsz1))
    go_roundw
    case rel=>exact ⟨k+2,acc++[10],by go_num,by omega,by simp;omega,hown1,hbel.trans hb1,HR⟩
    case measure=>simp [intOf];omega
  ·have hfin:decL s.data.toList=some acc:=by
    rw [hrd.out,zom (by rw [HL.out];omega)];simp
   have HF:=Lib.hid hfin;clear hfin
   have kc:=zg8 (P:=Tryz.prog) Tryz.underlying44 Tryz.underlying5 Tryz.underlying9 hown
   go_wp2
   go_ret2
   rw [HF.out]
   exact ⟨rfl,hbel⟩
set_option maxRecDepth 100000 in
theorem z17 (s:ByteArray) (w:World) (hs:s.size≤100000000):Calls Tryz.prog 119 #[.string s] w (Ret (decV (decL s.data.toList)) w):=by
 have hlen:s.data.toList.length=s.size:=rfl
 have HL:=Lib.hid hlen;clear hlen
 go_enter Tryz.func119,Tryz.ntmps119
 go_wp2
 go_loopw [4,5,6,7,8] (fun v i _ _ _ wr=>∃ (k:Nat) (acc:List UInt8),i=.int .i64 k∧k≤s.size+2∧acc.length≤k∧OwnB w.heap.size 5 v acc wr∧Below w.heap.size w wr∧Hid (decL s.data.toList=(zf6 (zya s.data.toList) s.data.toList.length k).map (acc++·)))
  (fun _ i _ _ _ _=>s.size+2 - (intOf i).toNat)
 case atStart=>exact ⟨0,[],rfl,by omega,by simp,OwnB.made w (Nat.le_refl _) _ _ rfl (by decide),(Below.refl _ _).alloc (Nat.le_refl _) _,Lib.hid (by unfold decL;simp)⟩
 case round =>
  obtain ⟨k,acc,rfl,hk,hak,hown,hbel,hrd⟩:=hrel
  by_cases hlt:k<s.size
  ·generalize hb1:zek s.data.toList (⟨#[13,10]⟩:ByteArray).data.toList (k:Int)=b1
   generalize hb2:zek s.data.toList (⟨#[61,13,10]⟩:ByteArray).data.toList (k:Int)=b2
   have HB1:=Lib.hid hb1;have HB2:=Lib.hid hb2;clear hb1 hb2
   cases b1
   ·cases b2
    ·by_cases h61:s[k]=61
     ·have q1:((s[k].toNat:Int) == 61)=true:=by rw [h61];rfl
      rcases ho:zme s.data.toList ((k:Int)+1) with _ | b
      ·have HR:=Lib.hid (show decL s.data.toList=none by rw [hrd.out,zh4 (len:=s.data.toList.length) hlt (by rw [zdh s k hlt _ _ HB1.out HB2.out,if_neg (by simp),if_neg (by simp),if_pos h61,ho];rfl)];rfl)
       have HO:=Lib.hid ho;clear ho hrd h61
       go_wp2_with (first | (go_at_call 60;refine (zc7 _ _ _ _ (by first | exact HB1.out | exact HB2.out) _ (by omega)).mono ?_;rintro e w1 ⟨rfl,rfl⟩) | (go_at_call 170;refine (zz1 _ _ _ HO.out _ (by omega)).mono ?_;rintro e w1 ⟨rfl,hb0⟩))
       go_ret2
       rw [HR.out]
       exact ⟨rfl,hbel.trans (hb0.mono hbel.size)⟩
      ·have HR:=Lib.hid (zb4 (zdz _) hlt (o:=[b]) (n:=3) (by rw [zdh s k hlt _ _ HB1.out HB2.out,if_neg (by simp),if_neg (by simp),if_pos h61,ho];rfl) hrd.out)
       have hk3:k+3≤s.size:=by
        by_cases h3:k+3≤s.size
        ·exact h3
        ·rw [zm6 s _ (by omega)] at ho;cases ho
       have HO:=Lib.hid ho;clear ho hrd h61
       go_wp2_with (first | (go_at_call 60;refine (zc7 _ _ _ _ (by first | exact HB1.out | exact HB2.out) _ (by omega)).mono ?_;rintro e w1 ⟨rfl,rfl⟩) | (go_at_call 170;refine (zz1 _ _ _ HO.out _ (by omega)).mono ?_;rintro e wo ⟨rfl,hb0⟩;have hown0:=OwnB.kept hown hb0;have hbel0:=hbel.trans (hb0.mono hbel.size)) | (at_builtin;refine zjv (by rfl) _ _ _ (by rfl) 5 Tryz.underlying44 infoByte w.heap.size wo _ _ (by rfl) hown0 b (by rfl) (by omega) hbel0.size ?_;intro g cap w1 hg hown1 hgr hb1 hsz1))
       go_roundw
       case rel=>exact ⟨k+3,acc++[b],by go_num,by omega,by simp;omega,hown1,hbel0.trans hb1,HR⟩
       case measure=>simp [intOf];omega
     ·have q1:((s[k].toNat:Int) == 61)=false:=by simp [← UInt8.toNat_inj] at h61 ⊢;omega
      by_cases hp:zh5 s[k]=true
      ·have HR:=Lib.hid (zb4 (zdz _) hlt (o:=[s[k]]) (n:=1) (by rw [zdh s k hlt _ _ HB1.out HB2.out];simp [h61,hp]) hrd.out)
       have HP:=Lib.hid hp;clear hp hrd h61
       go_wp2_with (first | (go_at_call 60;refine (zc7 _ _ _ _ (by first | exact HB1.out | exact HB2.out) _ (by omega)).mono ?_;rintro e w1 ⟨rfl,rfl⟩) | (go_at_call 156;refine (zh6 _ _ HP.out _).mono ?_;rintro e w1 ⟨rfl,rfl⟩) | (at_builtin;refine zjv (by rfl) _ _ _ (by rfl) 5 Tryz.underlying44 infoByte w.heap.size wr _ _ (by rfl) hown s[k] (by rfl) (by omega) hbel.size ?_;intro g cap w1 hg hown1 hgr hb1 hsz1))
       go_roundw
       case rel=>exact ⟨k+1,acc++[s[k]],by go_num,by omega,by simp;omega,hown1,hbel.trans hb1,HR⟩
       case measure=>simp [intOf];omega
      ·replace hp:zh5 s[k]=false:=by simpa using hp
       by_cases hbl:s[k]=32∨s[k]=9
       ·have HP:=Lib.hid hp;clear hp
        rcases hbl with hbl | hbl
        ·have HR:=Lib.hid (zb4 (zdz _) hlt (o:=[s[k]]) (n:=1) (by rw [zdh s k hlt _ _ HB1.out HB2.out];simp [hbl,zh5]) hrd.out)
         clear hrd h61
         have q2:((s[k].toNat:Int) == 32)=true:=by rw [hbl];rfl
         clear hbl
         go_wp2_with (first | (go_at_call 60;refine (zc7 _ _ _ _ (by first | exact HB1.out | exact HB2.out) _ (by omega)).mono ?_;rintro e w1 ⟨rfl,rfl⟩) | (go_at_call 156;refine (zh6 _ _ HP.out _).mono ?_;rintro e w1 ⟨rfl,rfl⟩) | (at_builtin;refine zjv (by rfl) _ _ _ (by rfl) 5 Tryz.underlying44 infoByte w.heap.size wr _ _ (by rfl) hown s[k] (by rfl) (by omega) hbel.size ?_;intro g cap w1 hg hown1 hgr hb1 hsz1))
         go_roundw
         case rel=>exact ⟨k+1,acc++[s[k]],by go_num,by omega,by simp;omega,hown1,hbel.trans hb1,HR⟩
         case measure=>simp [intOf];omega
        ·have HR:=Lib.hid (zb4 (zdz _) hlt (o:=[s[k]]) (n:=1) (by rw [zdh s k hlt _ _ HB1.out HB2.out];simp [hbl,zh5]) hrd.out)
         clear hrd h61
         have q2:((s[k].toNat:Int) == 32)=false:=by rw [hbl];rfl
         have q3:((s[k].toNat:Int) == 9)=true:=by rw [hbl];rfl
         clear hbl
         go_wp2_with (first | (go_at_call 60;refine (zc7 _ _ _ _ (by first | exact HB1.out | exact HB2.out) _ (by omega)).mono ?_;rintro e w1 ⟨rfl,rfl⟩) | (go_at_call 156;refine (zh6 _ _ HP.out _).mono ?_;rintro e w1 ⟨rfl,rfl⟩) | (at_builtin;refine zjv (by rfl) _ _ _ (by rfl) 5 Tryz.underlying44 infoByte w.heap.size wr _ _ (by rfl) hown s[k] (by rfl) (by omega) hbel.size ?_;intro g cap w1 hg hown1 hgr hb1 hsz1))
         go_roundw
         case rel=>exact ⟨k+1,acc++[s[k]],by go_num,by omega,by simp;omega,hown1,hbel.trans hb1,HR⟩
         case measure=>simp [intOf];omega
       ·have h32:¬ s[k]=32:=fun h=>hbl (.inl h)
        have h9:¬ s[k]=9:=fun h=>hbl (.inr h)
        have HR:=Lib.hid (show decL s.data.toList=none by rw [hrd.out,zh4 (len:=s.data.toList.length) hlt (by rw [zdh s k hlt _ _ HB1.out HB2.out];simp [h61,hp,h32,h9])];rfl)
        have q2:((s[k].toNat:Int) == 32)=false:=by simp [← UInt8.toNat_inj] at h32 ⊢;omega
        have q3:((s[k].toNat:Int) == 9)=false:=by simp [← UInt8.toNat_inj] at h9 ⊢;omega
        have HP:=Lib.hid hp;clear hp hrd h61 hbl h32 h9
        go_wp2_with (first | (go_at_call 60;refine (zc7 _ _ _ _ (by first | exact HB1.out | exact HB2.out) _ (by omega)).mono ?_;rintro e w1 ⟨rfl,rfl⟩) | (go_at_call 156;refine (zh6 _ _ HP.out _).mono ?_;rintro e w1 ⟨rfl,rfl⟩))
        go_ret2
        rw [HR.out]
        exact ⟨rfl,hbel⟩
    ·have HR:=Lib.hid (zb4 (zdz _) hlt (o:=[]) (n:=3) (by rw [zdh s k hlt _ _ HB1.out HB2.out];simp) hrd.out)
     clear hrd
     go_wp2_with (go_at_call 60;refine (zc7 _ _ _ _ (by first | exact HB1.out | exact HB2.out) _ (by omega)).mono ?_;rintro e w1 ⟨rfl,rfl⟩)
     go_roundw
     case rel=>exact ⟨k+3,acc,by go_num,by omega,by omega,hown,hbel,by simpa using HR⟩
     case measure=>simp [intOf];omega
   ·have HR:=Lib.hid (zb4 (zdz _) hlt (o:=[10]) (n:=2) (by rw [zdh s k hlt _ _ HB1.out HB2.out];simp) hrd.out)
    clear hrd
    go_wp2_with (first | (go_at_call 60;refine (zc7 _ _ _ _ (by first | exact HB1.out | exact HB2.out) _ (by omega)).mono ?_;rintro e w1 ⟨rfl,rfl⟩) | (at_builtin;refine zjv (by rfl) _ _ _ (by rfl) 5 Tryz.underlying44 infoByte w.heap.size wr _ _ (by rfl) hown 10 (by rfl) (by omega) hbel.size ?_;intro g cap w1 hg hown1 hgr hb1 hsz1))
    go_roundw
    case rel=>exact ⟨k+2,acc++[10],by go_num,by omega,by simp;omega,hown1,hbel.trans hb1,HR⟩
    case measure=>simp [intOf];omega
  ·have hfin:decL s.data.toList=some acc:=by
    rw [hrd.out,zom (by rw [HL.out];omega)];simp
   have HF:=Lib.hid hfin;clear hfin
   have kc:=zg8 (P:=Tryz.prog) Tryz.underlying44 Tryz.underlying5 Tryz.underlying9 hown
   go_wp2
   go_ret2
   rw [HF.out]
   exact ⟨rfl,hbel⟩
end Go.Proofs.YtmpiobfdchlikaaGreatDoor
end
section
namespace Nun
open Go
def zbb (c:UInt8):Bool:=33≤c && c≤126 && c != 59 && c != 61 && c != 34 && c != 92
def zes (c:UInt8):List UInt8→Option (List UInt8)
 | []=>none
 | d::t=>if d=c then some t else none
def ze6:Nat→List UInt8→Option (List UInt8 × List UInt8)
 | 0,_=>none
 | _+1,[]=>none
 | n+1,c::t =>
   if c=34 then some ([],t)
   else if c<32∨126<c then none
   else if c=92 then (match t with
    | []=>none
    | d::u=>if d=34∨d=92 then (ze6 n u).map fun p=>(d::p.1,p.2) else none)
   else (ze6 n t).map fun p=>(c::p.1,p.2)
def zjr (l:List UInt8):Option (Fld × List UInt8) :=
 if zgv ((l.dropWhile zal).takeWhile zbb)=true then
  match zes 61 ((l.dropWhile zal).dropWhile zbb) with
  | none=>none
  | some l3=>match zes 34 l3 with
    | some l4=>(ze6 (l4.length+1) l4).map fun p=>(((l.dropWhile zal).takeWhile zbb,p.1),p.2)
    | none=>if l3.takeWhile zbb=[] then none else some (((l.dropWhile zal).takeWhile zbb,l3.takeWhile zbb),l3.dropWhile zbb)
 else none
def zjw:Nat→List UInt8→List Fld→Bool→Option (List Fld × Bool)
 | 0,_,_,_=>none
 | n+1,l,out,tw =>
   if l.dropWhile zal=[] then some (out,tw)
   else match zes 59 (l.dropWhile zal) with
    | none=>none
    | some t=>match zjr t with
      | none=>none
      | some (p,r)=>zjw n r (out++[p]) (tw || out.any fun q=>zab p.1 == zab q.1)
inductive PRes | form | twice | ok (main:List UInt8) (out:List Fld)
def zbr (l:List UInt8):PRes :=
 match zjw (l.length+1) ((l.dropWhile zal).dropWhile zbb) [] false with
 | none=>.form
 | some (out,tw)=>if (l.dropWhile zal).takeWhile zbb=[] then .form else if tw then .twice else .ok ((l.dropWhile zal).takeWhile zbb) out
theorem zbc (p:UInt8→Bool):∀ l:List UInt8,(l.dropWhile p).length≤l.length
 | []=>Nat.le_refl _
 | c::l=>by
   rw [List.dropWhile_cons]
   split
   ·exact Nat.le_trans (zbc p l) (by simp)
   ·exact Nat.le_refl _
theorem zfs (p:UInt8→Bool):∀ l:List UInt8,(l.takeWhile p).length≤l.length
 | []=>Nat.le_refl _
 | c::l=>by
   rw [List.takeWhile_cons]
   split
   ·simp;exact zfs p l
   ·exact Nat.zero_le _
theorem zkg {c:UInt8}:∀ {l t:List UInt8},zes c l=some t→l=c::t
 | [],t,h=>by cases h
 | d::l,t,h=>by
   replace h:(if d=c then some l else none)=some t:=h
   by_cases hd:d=c
   ·rw [if_pos hd] at h;rw [hd,Option.some.inj h]
   ·rw [if_neg hd] at h;cases h
theorem zmf:∀ (n:Nat) (l:List UInt8) (p:List UInt8 × List UInt8),ze6 n l=some p→p.1.length+p.2.length+1≤l.length
 | 0,l,p,h=>by cases h
 | n+1,[],p,h=>by cases h
 | n+1,c::t,p,h=>by
   unfold ze6 at h
   split at h
   ·cases h;simp
   ·split at h
    ·cases h
    ·split at h
     ·rcases t with _ | ⟨d,u⟩
      ·cases h
      ·dsimp only at h
       split at h
       ·obtain ⟨q,hq,rfl⟩:=qm h
        have:=zmf n u q hq
        simp only [List.length_cons];omega
       ·cases h
     ·obtain ⟨q,hq,rfl⟩:=qm h
      have:=zmf n t q hq
      simp only [List.length_cons];omega
theorem zh7:∀ (n m:Nat) (l:List UInt8),l.length<n→l.length<m→ze6 n l=ze6 m l
 | 0,m,l,h,_=>absurd h (Nat.not_lt_zero _)
 | n+1,0,l,_,h=>absurd h (Nat.not_lt_zero _)
 | n+1,m+1,[],_,_=>rfl
 | n+1,m+1,c::t,h1,h2=>by
   simp only [List.length_cons] at h1 h2
   unfold ze6
   rcases t with _ | ⟨d,u⟩
   ·rw [zh7 n m [] (by simp only [List.length_nil] at h1 ⊢;omega) (by simp only [List.length_nil] at h2 ⊢;omega)]
   ·dsimp only
    simp only [List.length_cons] at h1 h2
    rw [zh7 n m u (by omega) (by omega),zh7 n m (d::u) (by simp only [List.length_cons];omega) (by simp only [List.length_cons];omega)]
theorem zk6 {l:List UInt8} {q:Fld × List UInt8} (h:zjr l=some q):q.2.length<l.length∧q.1.1.length≤l.length∧q.1.2.length≤l.length:=by
 unfold zjr at h
 split at h
 ·have hb:=zbc zal l
  have hp:=zbc zbb (l.dropWhile zal)
  have ht:=zfs zbb (l.dropWhile zal)
  rcases hs:zes 61 ((l.dropWhile zal).dropWhile zbb) with _ | l3
  ·rw [hs] at h;cases h
  ·rw [hs] at h
   dsimp only at h
   have h3:=congrArg List.length (zkg hs)
   rw [List.length_cons] at h3
   rcases hq:zes 34 l3 with _ | l4
   ·rw [hq] at h
    dsimp only at h
    split at h
    ·cases h
    ·cases h
     have:=zbc zbb l3
     have:=zfs zbb l3
     dsimp only
     omega
   ·rw [hq] at h
    dsimp only at h
    have h4:=congrArg List.length (zkg hq)
    rw [List.length_cons] at h4
    obtain ⟨p,hp',rfl⟩:=qm h
    have:=zmf _ _ _ hp'
    dsimp only
    omega
 ·cases h
theorem zyc:∀ c:UInt8,zbb c=(decide ((c.toNat:Int) > 32) && decide ((c.toNat:Int)<127) && decide (Go.Lib.indexByte [59,61,34,92] c<0)):=by decide +kernel
theorem zkh (p:UInt8→Bool):∀ (l:List UInt8) (k:Nat),(∀ j (h:j<l.length),j<k→p l[j]=true)→(∀ h:k<l.length,p l[k]=false)→k≤l.length→l.takeWhile p=l.take k∧l.dropWhile p=l.drop k
 | [],k,_,_,hk=>by
   obtain rfl:k=0:=by simpa using hk
   exact ⟨rfl,rfl⟩
 | c::l,0,_,h,_=>by
   have:=h (by simp)
   rw [List.getElem_cons_zero] at this
   rw [List.takeWhile_cons,List.dropWhile_cons,this];simp
 | c::l,k+1,h1,h2,hk=>by
   have hc:=h1 0 (by simp) (by omega)
   rw [List.getElem_cons_zero] at hc
   have:=zkh p l k (fun j h hj=>by
    have:=h1 (j+1) (by simp only [List.length_cons];omega) (by omega)
    rwa [List.getElem_cons_succ] at this) (fun h=>by
    have:=h2 (by simp only [List.length_cons];omega)
    rwa [List.getElem_cons_succ] at this) (by simp only [List.length_cons] at hk;omega)
   rw [List.takeWhile_cons,List.dropWhile_cons,hc]
   simp [this.1,this.2]
end Nun
end
section
namespace Nun
open Go Go.RowKit Go.Proofs Go.Proofs.YtmpiobfdchlikaaGreatDoor
variable {lib:Callee}
def zq4 (lib:Callee):Prop:=∀ s old new:Str,s.length≤1000000→1≤old.length→new.length≤10→lib 82 [.flat (.string (S s)),.flat (.string (S old)),.flat (.string (S new))] [] []=some ([.flat (.string (S (Lib.replaceAll s old new)))],false,[],[])
theorem z6s (H:zq4 lib) (s old new:Str) (hs:s.length≤1000000) (ho:1≤old.length) (hn:new.length≤10):evW code lib 82 [.flat (.string (S s)),.flat (.string (S old)),.flat (.string (S new))] [] []=some ([.flat (.string (S (Lib.replaceAll s old new)))],false,[],[]):=zd3 (by decide) (by kernel_rfl) (H s old new hs ho hn)
def okB (c:UInt8):Bool:=decide (0<c.toNat) && decide (c.toNat<128)
def zki (s:Str):Option Str:=if s.all okB=true then (if at1 13 (Lib.replaceAll s [13,10] [0])=none∧at1 10 (Lib.replaceAll s [13,10] [0])=none then some (Lib.replaceAll (Lib.replaceAll s [13,10] [0]) [0] [10]) else none) else none
theorem zsv (s:Str) (hs:s.length≤1000000) (h:s.all okB=true):zb3 (evC (evW code lib) big zcg) [0,6,7] 0 big ⟨[(0,.flat (.string (S s))),(6,.flat (.int .i64 (s.length:Nat))),(7,.flat (.int .i64 0))],[],[],[]⟩=some (.exit 0,⟨[(0,.flat (.string (S s)))],[],[],[]⟩):=by
 have hloop:=zhs (body:=evC (evW code lib) big zcg) (live:=[0,6,7]) (nb:=0) (fun (_:Unit) k=>⟨[(0,.flat (.string (S s))),(6,.flat (.int .i64 (s.length:Nat))),(7,.flat (.int .i64 (k:Nat)))],[],[],[]⟩) s (fun _ _=>True)
  (fun _ k x=>.inl ()) (fun _=>(.exit 0,⟨[(0,.flat (.string (S s)))],[],[],[]⟩)) (fun _ k c _ hk hc hd=>?_) (fun _ _=>by simp only [go_sem,simprocAttr]) (fun _ _ _ _ _ _ _ _=>trivial) (fun _ _ x r h=>by cases h) (fun _ _=>?_) (fun _=>by simp) () trivial (by unfold big;omega)
 ·have hw:∀ (L:Str) (k:Nat),zhx (fun (_:Unit) _ (x:UInt8)=>(.inl ():Unit ⊕ (Out × St))) (fun _=>(.exit 0,⟨[(0,.flat (.string (S s)))],[],[],[]⟩)) () k L=(.exit 0,⟨[(0,.flat (.string (S s)))],[],[],[]⟩):=by
   intro L
   induction L with
   | nil=>intro k;rfl
   | cons x t ih=>intro k;rw [zhx];exact ih _
  rw [hw] at hloop
  simp only [n0] at hloop
  exact hloop
 ·have hb:=List.all_eq_true.1 h c (List.mem_of_getElem? hc)
  unfold okB at hb
  simp only [Bool.and_eq_true,decide_eq_true_eq] at hb
  have hm:=zbj (lib:=lib) 7
  have h7:((7:Nat):Int)=7:=rfl
  rw [h7] at hm
  obtain ⟨n,hn⟩:∃ n,c.toNat=n:=⟨_,rfl⟩
  rw [hn] at hb
  clear h
  simp (maxSteps:=999999) (disch:=first | assumption | omega) only [go_sem,simprocAttr,au,zf1,hc,hn,hm]
 ·simp (maxSteps:=999999) (disch:=first | assumption | omega) only [go_sem,simprocAttr,au,zf1]
theorem zz2 (old new:Str) (h:new.length≤old.length):∀ (n:Nat) (s:Str),(Lib.replaceK old new n s).length≤s.length
 | 0,s=>Nat.le_refl _
 | n+1,s=>by
   rw [Lib.replaceK]
   split
   ·exact Nat.le_refl _
   ·rename_i hne
    have h1:=Lib.index_ge s old
    have h2:Lib.index s old≠-1:=by simpa using hne
    have h3:=Lib.index_room s old (by omega)
    have h4:=zz2 old new h n (s.drop ((Lib.index s old).toNat+old.length))
    simp only [List.length_append,List.length_take,List.length_drop] at h4 ⊢
    omega
theorem z6t (s old new:Str) (h:new.length≤old.length):(Lib.replaceAll s old new).length≤s.length:=by
 unfold Lib.replaceAll Lib.replace
 split
 ·exact Nat.le_refl _
 ·exact zz2 _ _ h _ _
theorem ycs (HI:zll lib) (HR:zq4 lib) (s t:Str) (hs:s.length≤1000000) (h:zki s=some t):evW code lib 128 [.flat (.string (S s))] [] []=some ([.flat (.string (S t))],false,[],[]):=by
 unfold zki at h
 split at h
 case isFalse=>cases h
 rename_i hall
 split at h
 case isFalse=>cases h
 rename_i hno
 obtain ⟨hc,hn⟩:=hno
 cases h
 have hl:(Lib.replaceAll s [13,10] [0]).length≤1000000:=Nat.le_trans (z6t s [13,10] [0] (by decide)) hs
 have hloop:=zsv (lib:=lib) s hs hall
 have r1:=z6s HR s [13,10] [0] hs (by decide) (by decide)
 have hm:=zbj (lib:=lib) 7
 have h7:((7:Nat):Int)=7:=rfl
 rw [h7] at hm
 generalize Lib.replaceAll s [13,10] [0]=u at *
 have r2:=z6s HR u [0] [10] hl (by decide) (by decide)
 have i1:=zqm HI u 13 (by omega)
 have i2:=zqm HI u 10 (by omega)
 rw [hc] at i1;rw [hn] at i2
 have e13:((UInt8.toNat 13:Nat):Int)=13:=rfl
 have e10:((UInt8.toNat 10:Nat):Int)=10:=rfl
 rw [e13] at i1;rw [e10] at i2
 dsimp only at i1 i2
 refine zbw zf4 (Nat.le_of_ble_eq_true rfl) ?_
 simp (maxSteps:=999999) (disch:=first | assumption | omega) only [go_sem,simprocAttr,au,hloop,r1,r2,hm,i1,i2]
def z6u (lib:Callee):Prop:=∀ s:Str,s.length≤1000000→lib 129 [.flat (.string (S s))] [] []=some ((match decL s with | some t=>[.flat (.string (S t)),.flat (.int .i64 0)] | none=>[.flat (.string (S [])),.flat (.int .i64 7)]),false,[],[])
def z6v (lib:Callee):Prop:=∀ s:Str,s.length≤1000000→lib 130 [.flat (.string (S s))] [] []=some ((match zco (bare s) with | some t=>[.flat (.string (S t)),.flat (.int .i64 0)] | none=>[.flat (.string (S [])),.flat (.int .i64 7)]),false,[],[])
theorem yph (H:z6u lib) (s:Str) (h:s.length≤1000000):evW code lib 129 [.flat (.string (S s))] [] []=some ((match decL s with | some t=>[.flat (.string (S t)),.flat (.int .i64 0)] | none=>[.flat (.string (S [])),.flat (.int .i64 7)]),false,[],[]):=zd3 (by decide) (by kernel_rfl) (H s h)
theorem ypi (H:z6v lib) (s:Str) (h:s.length≤1000000):evW code lib 130 [.flat (.string (S s))] [] []=some ((match zco (bare s) with | some t=>[.flat (.string (S t)),.flat (.int .i64 0)] | none=>[.flat (.string (S [])),.flat (.int .i64 7)]),false,[],[]):=zd3 (by decide) (by kernel_rfl) (H s h)
def zbn:Str:=[55,98,105,116]
def sQp:Str:=[113,117,111,116,101,100,45,112,114,105,110,116,97,98,108,101]
def sB64:Str:=[98,97,115,101,54,52]
def zkj (s c:Str):Option Str:=if c=zbn then zki s else if c=sQp then decL s else if c=sB64 then zco (bare s) else none
theorem yi3 (HI:zll lib) (HR:zq4 lib) (HD:z6u lib) (HU:z6v lib) (s c t:Str) (hs:s.length≤1000000) (h:zkj s c=some t):evW code lib 75 [.flat (.string (S s)),.flat (.string (S c))] [] []=some ([.flat (.string (S t))],false,[],[]):=by
 have hm:=zbj (lib:=lib) 7
 have h7:((7:Nat):Int)=7:=rfl
 rw [h7] at hm
 unfold zkj at h
 refine zbw zdx (Nat.le_of_ble_eq_true rfl) ?_
 by_cases h1:c=zbn
 ·rw [if_pos h1] at h
  have e:=ycs HI HR s t hs h
  have h1':(c=[55,98,105,116])=True:=eq_true h1
  simp (maxSteps:=999999) (disch:=first | assumption | omega) only [go_sem,simprocAttr,au,e,h1']
 ·rw [if_neg h1] at h
  have h1':(c=[55,98,105,116])=False:=eq_false h1
  by_cases h2:c=sQp
  ·rw [if_pos h2] at h
   have e:=yph HD s hs
   rw [h] at e
   dsimp only at e
   have h2':(c=[113,117,111,116,101,100,45,112,114,105,110,116,97,98,108,101])=True:=eq_true h2
   simp (maxSteps:=999999) (disch:=first | assumption | omega) only [go_sem,simprocAttr,au,e,h1',h2',hm]
  ·rw [if_neg h2] at h
   have h2':(c=[113,117,111,116,101,100,45,112,114,105,110,116,97,98,108,101])=False:=eq_false h2
   by_cases h3:c=sB64
   ·rw [if_pos h3] at h
    have e:=ypi HU s hs
    rw [h] at e
    dsimp only at e
    have h3':(c=[98,97,115,101,54,52])=True:=eq_true h3
    simp (maxSteps:=999999) (disch:=first | assumption | omega) only [go_sem,simprocAttr,au,e,h1',h2',h3',hm]
   ·rw [if_neg h3] at h;cases h
def zwa (lib:Callee):Prop:=∀ s:Str,s.length≤10000→lib 125 [.flat (.string (S s))] [] []=some ((match zbr s with | .form=>[.flat (.string (S [])),.slc 0 [],.flat (.int .i64 7)] | .twice=>[.flat (.string (S [])),.slc 0 [],.flat (.int .i64 9)] | .ok m l=>[.flat (.string (S m)),.slc l.length (zac l),.flat (.int .i64 0)]),false,[],[])
theorem yei (H:zwa lib) (s:Str) (h:s.length≤10000):evW code lib 125 [.flat (.string (S s))] [] []=some ((match zbr s with | .form=>[.flat (.string (S [])),.slc 0 [],.flat (.int .i64 7)] | .twice=>[.flat (.string (S [])),.slc 0 [],.flat (.int .i64 9)] | .ok m l=>[.flat (.string (S m)),.slc l.length (zac l),.flat (.int .i64 0)]),false,[],[]):=zd3 (by decide) (by kernel_rfl) (H s h)
def zwb (lib:Callee):Prop:=∀ s w:Str,s.length≤1000000000→lib 79 [.flat (.string (S s)),.flat (.string (S w))] [] []=some ([.flat (.string (S (Lib.cut s w).1)),.flat (.string (S (Lib.cut s w).2.1)),.flat (.bool (Lib.cut s w).2.2)],false,[],[])
theorem z6w (H:zwb lib) (s w:Str) (h:s.length≤1000000000):evW code lib 79 [.flat (.string (S s)),.flat (.string (S w))] [] []=some ([.flat (.string (S (Lib.cut s w).1)),.flat (.string (S (Lib.cut s w).2.1)),.flat (.bool (Lib.cut s w).2.2)],false,[],[]):=zd3 (by decide) (by kernel_rfl) (H s w h)
def sCt:Str:=[99,111,110,116,101,110,116,45,116,121,112,101]
def sCte:Str:=[99,111,110,116,101,110,116,45,116,114,97,110,115,102,101,114,45,101,110,99,111,100,105,110,103]
def zlm:Str:=[98,111,117,110,100,97,114,121]
def zg2:Str:=[116,101,120,116,47,112,108,97,105,110]
def zcy:List Fld→Str→Str
 | [],m=>m
 | (a,b)::l,m=>zcy l (if zab a == zab zlm then b else m)
theorem zq5 {fin:Str→Out × St}:∀ (L:List Fld) (k:Nat) (m:Str),zhx (fun (m:Str) _ (x:Fld)=>(.inl (if zab x.1 == zab zlm then x.2 else m):Str ⊕ (Out × St))) fin m k L=fin (zcy L m)
 | [],k,q=>rfl
 | (a,b)::t,k,q=>by rw [zhx,zcy];exact zq5 t _ _
theorem zwc (HA:zjd lib) (F:List Fld) (m0:Str) (hF:ziq F):zb3 (evC (evW code lib) big zfo) [8,11,46,47,48] 0 big ⟨[(8,.flat (.string (S m0))),(11,.flat (.string (S []))),(46,.slc F.length (zac F)),(47,.flat (.int .i64 (F.length:Nat))),(48,.flat (.int .i64 0))],[],[],[]⟩=some (.exit 0,⟨[(8,.flat (.string (S m0))),(11,.flat (.string (S (zcy F []))))],[],[],[]⟩):=by
 have hloop:=zzp (body:=evC (evW code lib) big zfo) (live:=[8,11,46,47,48]) (nb:=0) (fun (m:Str) k=>⟨[(8,.flat (.string (S m0))),(11,.flat (.string (S m))),(46,.slc F.length (zac F)),(47,.flat (.int .i64 (F.length:Nat))),(48,.flat (.int .i64 (k:Nat)))],[],[],[]⟩) F (fun _ _=>True)
  (fun m k x=>.inl (if zab x.1 == zab zlm then x.2 else m)) (fun m=>(.exit 0,⟨[(8,.flat (.string (S m0))),(11,.flat (.string (S m)))],[],[],[]⟩)) (fun m k c _ hk hc hd=>.inl ?_) (fun m _=>⟨?_,by simp⟩) [] trivial (by have:=hF.1;unfold big;omega)
 ·rw [zq5] at hloop
  simp only [n0] at hloop
  exact hloop
 ·obtain ⟨a,b⟩:=c
  have hFl:=hF.1
  have hab:=hF.2 (a,b) (List.mem_of_getElem? hc)
  have hA:=zzy HA a zlm hab.1 (by decide)
  unfold zlm at hA
  have hat:=zgf hd
  have hlen:=zeh F
  have hl2:((zac F).drop (k * 2)).length=(F.length - k) * 2:=by rw [List.length_drop,hlen];omega
  have hlow:=fun n=>zae (n:=n) F
  clear hF hab hlen HA hd hc
  generalize F.drop (k+1)=fr at *
  generalize zac fr=fg at *
  dsimp only
  unfold zlm
  cases hfo:zab a == zab [98,111,117,110,100,97,114,121] with
  | true =>
    rw [hfo] at hA
    refine ⟨_,⟨[(8,.flat (.string (S m0))),(11,.flat (.string (S b))),(46,.slc F.length (zac F)),(47,.flat (.int .i64 (F.length:Nat))),(48,.flat (.int .i64 ((k+1:Nat):Nat)))],[],[],[]⟩,rfl,?_,?_,trivial⟩
    ·simp (maxSteps:=999999) (disch:=first | assumption | omega) only [go_sem,simprocAttr,au,zgr,hat,hA,hlow]
    ·simp (maxSteps:=999999) (disch:=first | assumption | omega) only [go_sem,simprocAttr,au,hlow]
  | false =>
    rw [hfo] at hA
    refine ⟨_,⟨[(8,.flat (.string (S m0))),(11,.flat (.string (S m))),(46,.slc F.length (zac F)),(47,.flat (.int .i64 (F.length:Nat))),(48,.flat (.int .i64 ((k+1:Nat):Nat)))],[],[],[(114,[.flat (.string (S a)),.flat (.string (S b))])]⟩,rfl,?_,?_,trivial⟩
    ·simp (maxSteps:=999999) (disch:=first | assumption | omega) only [go_sem,simprocAttr,au,zgr,hat,hA,hlow]
    ·simp (maxSteps:=999999) (disch:=first | assumption | omega) only [go_sem,simprocAttr,au,hlow]
 ·simp (maxSteps:=999999) (disch:=first | assumption | omega) only [go_sem,simprocAttr,au,zgr]
def zds (F:List Fld):Except Nat (Str × Str) :=
 if (getU sCt F).2<2∧(getU sCte F).2<2 then
  if (getU sCt F).2=0 then .ok (zg2,[]) else
  match zbr (getU sCt F).1 with
  | .form=>.error 7
  | .twice=>.error 9
  | .ok m l=>if (Lib.cut m [47]).2.2=true∧(Lib.cut m [47]).1≠[]∧(Lib.cut m [47]).2.1≠[]∧at1 47 (Lib.cut m [47]).2.1=none then .ok (zab m,zcy l []) else .error 7
 else .error 9
theorem zkk (HA:zjd lib) (HF:zq0 lib) (HP:zwa lib) (HC:zwb lib) (HI:zll lib) (F:List Fld) (ty mk:Str) (hF:ziq F) (hv:(getU sCt F).1.length≤10000) (hl:∀ m l,zbr (getU sCt F).1=.ok m l→ziq l∧m.length≤10000) (h:zds F=.ok (ty,mk)) :
 evW code lib 71 [.slc F.length (zac F)] [] []=some ([.flat (.string (S ty)),.flat (.string (S mk))],false,[],[]):=by
 have g1:=zjq HA F sCt hF (by decide)
 have g2:=zjq HA F sCte hF (by decide)
 have hm0:=zbj (lib:=lib) 0
 have hm7:=zbj (lib:=lib) 7
 have hm9:=zbj (lib:=lib) 9
 have h7:((7:Nat):Int)=7:=rfl
 have h9:((9:Nat):Int)=9:=rfl
 rw [h7] at hm7;rw [h9] at hm9;rw [n0] at hm0
 have hnp:=zak F
 have hp:=yei HP _ hv
 unfold zds at h
 unfold sCt at g1 h hp hl
 unfold sCte at g2 h
 obtain ⟨v,hv'⟩:∃ v,getU [99,111,110,116,101,110,116,45,116,121,112,101] F=v:=⟨_,rfl⟩
 obtain ⟨u,hu'⟩:∃ v,getU [99,111,110,116,101,110,116,45,116,114,97,110,115,102,101,114,45,101,110,99,111,100,105,110,103] F=v:=⟨_,rfl⟩
 rw [hv'] at g1 h hp hl
 rw [hu'] at g2 h
 obtain ⟨v,n⟩:=v
 obtain ⟨u,k⟩:=u
 dsimp only at g1 g2 h hp hl
 split at h
 case isFalse=>cases h
 rename_i hnk
 obtain ⟨hn,hk⟩:=hnk
 refine zbw zdw (Nat.le_of_ble_eq_true rfl) ?_
 split at h
 ·rename_i hn0
  subst hn0
  cases h
  unfold zg2
  clear hp hl hF
  simp (maxSteps:=999999) (disch:=first | assumption | omega) only [go_sem,simprocAttr,au,g1,g2,hm9,hnp]
 ·rename_i hn0
  have hn0':((n:Int)=0)=False:=by apply eq_false;omega
  cases hpar:zbr v with
  | form=>rw [hpar] at h;cases h
  | twice=>rw [hpar] at h;cases h
  | ok m l =>
    rw [hpar] at h hp
    dsimp only at h hp
    obtain ⟨hsl,hml⟩:=hl m l hpar
    have hlo:=zwc HA l m hsl
    have hcut:=z6w HC m [47] (by omega)
    have hfo:=zje HF m (by omega)
    have hnpl:=zak l
    have hll:=hsl.1
    split at h
    case isFalse=>cases h
    rename_i hc
    obtain ⟨c1,c2,c3,c4⟩:=hc
    cases h
    have hbl:(Lib.cut m [47]).2.1.length≤m.length:=by
     unfold Lib.cut;split
     ·simp only [List.length_drop];omega
     ·simp
    obtain ⟨q,hq⟩:∃ q,Lib.cut m [47]=q:=⟨_,rfl⟩
    rw [hq] at hcut c1 c2 c3 c4 hbl
    obtain ⟨x,y,z⟩:=q
    dsimp only at hcut c1 c2 c3 c4 hbl
    have hidx:=zqm HI y 47 (by omega)
    rw [c4] at hidx
    have e47:((UInt8.toNat 47:Nat):Int)=47:=rfl
    rw [e47] at hidx
    dsimp only at hidx
    subst c1
    have c2':=eq_false c2
    have c3':=eq_false c3
    clear hF hsl hl hq hpar HA HF HP HC HI
    simp (maxSteps:=999999) (disch:=first | assumption | omega) only [go_sem,simprocAttr,au,g1,g2,hm0,hm7,hm9,hnp,hnpl,hn0',hp,hlo,hcut,hfo,hidx,c2',c3']
end Nun
end

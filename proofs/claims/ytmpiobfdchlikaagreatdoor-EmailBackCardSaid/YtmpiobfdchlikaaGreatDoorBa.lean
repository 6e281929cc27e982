/- Texts of this proof, merged. -/
import Derived.Calls
import Derived.Below
import Derived.Still
import Derived.Laws.AppendOwn
import Derived.RangeFuncRecord
import Derived.Laws.Entries
import Derived.Laws.Cells
import Derived.Laws.IdiomStrings
import Derived.Lib.Strings
import Derived.Laws.BytesArg
import Derived.Deep.AppendSrc
import Derived.RangeFuncIn
import Derived.OrdersIn
import Derived.Orders
import Derived.ReadAgain
import Derived.ChangeSame
import Derived.ChangeReads
import Derived.DataReads
import Derived.WideShapes
set_option linter.all false
def waa:=@List.getElem?_append_left
def wab:=@Nat.le_refl
def wac:=@Nat.le_trans
def wad:=@Nat.lt_of_lt_of_le
def wae:=@Go.World.block_lt_of_cell?
def waf:=@List.length_cons
def wag:=@List.take_succ_cons
def wah:=@List.drop_succ_cons
def wai:=@List.cons_append
def waj:=@List.mem_of_mem_take
def wak:=@List.mem_append
def wal:=@List.getElem?_drop
def wam:=@Nat.add_assoc
def wan:=@Array.getElem?_eq_some_iff
def wao:=@List.mem_of_getElem?
def wap:=@Array.getD_eq_getD_getElem?
def waq:=@List.mem_cons
def war:=@Option.some.injEq
def was:=@Ne.symm
def wat:=@Option.bind_some
def wau:=@Option.map_some
def wav:=@Go.Sem.run_bind
def waw:=@Go.Result.andThen_ok
def wax:=@List.map_cons
def waz:=@List.foldl_cons
def wa0:=@List.take_succ_eq_append_getElem
def wa1:=@List.set_append_right
def wa2:=@List.length_take
def wa3:=@List.set_cons_zero
def wa4:=@List.append_assoc
def wa5:=@List.nil_append
def wa6:=@Nat.add_zero
def wa7:=@Nat.zero_le
def wa8:=@List.mapM_cons
def wa9:=@List.all_eq_true
def wba:=@Array.ext'
def wbb:=@Bool.and_assoc
def wbc:=@List.length_drop
def wbd:=@List.drop_drop
def wbe:=@Bool.not_true
def wbf:=@Bool.false_eq_true
def wbg:=@Go.Sem.run_pure
def wbh:=@Bool.true_and
def wbi:=@Bool.and_true
def wbj:=@Bool.not_false
def wbk:=@List.getElem?_cons_succ
def wbl:=@List.getElem?_cons_zero
def wbm:=@List.map_congr_left
def wbn:=@List.mem_singleton
def wbo:=@List.length_set
def wbp:=@List.getElem?_set_self
def wbq:=@List.getElem?_set_ne
def wbr:=@List.getElem?_append_right
def wbs:=@Nat.add_sub_cancel_left
def wbt:=@List.length_map
def wbu:=@List.getElem?_map
def wbv:=@List.mem_map
def wbw:=@List.mem_filter
def wbx:=@Nat.zero_add
def wby:=@List.cons.injEq
def wbz:=@List.getElem?_take_of_lt
def wb0:=@List.length_append
def wb1:=@Bool.and_eq_true
def wb2:=@Bool.not_eq_true'
def wb3:=@Nat.mul_le_mul
def wb4:=@Nat.add_mul
def wb5:=@Array.length_toList
def wb6:=@Array.getElem?_toList
def wb7:=@Nat.eq_zero_or_pos
def wb8:=@List.getElem?_eq_none
def wb9:=@Option.some.inj
def wca:=@List.getD_eq_getElem?_getD
def wcb:=@List.set_set
def wcc:=@Bool.or_eq_true
def wcd:=@List.filter_eq_self
def wce:=@List.mem_flatMap
def wcf:=@List.append_nil
def wcg:=@List.all_cons
def wch:=@Nat.sub_self
def wci:=@List.getElem?_range
def wcj:=@Classical.byContradiction
def wck:=@Option.isSome_iff_exists
def wcl:=@List.mem_range
def wcm:=@List.drop_eq_getElem_cons
def wcn:=@Nat.lt_or_ge
def wco:=@List.take_of_length_le
def wcp:=@Array.getElem?_eq_getElem
def wcq:=@List.mem_filterMap
def wcr:=@Array.getElem?_eq_none
def wcs:=@List.filter_filter
def wct:=@List.filter_congr
def wcu:=@List.length_filter_lt_length_iff_exists
def wcv:=@List.filter_cons
def wcw:=@List.mem_cons_of_mem
def wcx:=@Bool.false_or
def wcy:=@List.mem_cons_self
def wcz:=@List.take_append_of_le_length
def wc0:=@List.drop_of_length_le
def wc1:=@Go.World.size_alloc
def wc2:=@Nat.sub_zero
def wc3:=@Option.isSome_some
def wc4:=@Bool.and_self
def wc5:=@Nat.le_max_left
def wc6:=@Nat.le_max_right
def wc7:=@List.map_nil
def wc8:=@List.drop_zero
def wc9:=@List.take_append_drop
def wda:=@Option.map_none
def wdb:=@List.length_nil
def wdc:=@Bool.and_false
def wdd:=@Bool.false_and
def wde:=@Int.cast_ofNat_Int
def wdf:=@ByteArray.ext
def wdg:=@List.drop_take
def wdh:=@BitVec.toNat_ofNat
def wdi:=@Nat.mod_eq_of_lt
def wdj:=@List.isPrefixOf_iff_prefix
def wdk:=@List.set_append_left
def wdl:=@List.drop_length
def wdm:=@Bool.eq_iff_iff
def wdn:=@Bool.eq_false_iff
def wdo:=@Bool.true_or
def wdp:=@Nat.pow_le_pow_right
def wdq:=@Int.toNat_natCast
def wdr:=@Nat.pow_succ
def wds:=@List.take_length
def wdt:=@Nat.and_two_pow_sub_one_eq_mod
def wdu:=@Go.Oper.upon_value
def wdv:=@UInt8.toNat_inj
def wdw:=@Bool.or_false
def wdx:=@Bool.or_true
def wdy:=@List.getD_cons_zero
def wdz:=@Int.ofNat_le
def wd0:=@Int.ofNat_inj
def wd1:=@Int.natCast_add
def wd2:=@Int.natCast_one
def wd3:=@Classical.em
def wd4:=@Bool.or_eq_false_iff
def wd5:=@List.getElem_mem
def wd6:=@List.map_drop
def wd7:=@List.takeWhile_prefix
def wd8:=@List.flatMap_nil
def wd9:=@Option.join_some
def wea:=@Bool.true_eq_false
def web:=@Bool.eq_false_or_eq_true
def wec:=@Go.World.ownsRow_nil
def wed:=@List.foldlM_cons
def wee:=@ByteArray.size_extract
def wef:=@List.all_append
def weg:=@UInt8.le_iff_toNat_le
def weh:=@List.dropWhile_cons
def wei:=@List.size_toArray
def wej:=@Array.replicate_succ
def wek:=@Array.replicate_zero
def wel:=@List.push_toArray
def wem:=@List.append_toArray
def wen:=@List.map_append
def weo:=@List.map_singleton
def wep:=@Classical.choose_spec
def weq:=@List.range_succ
def wer:=@ByteArray.size_append
def wes:=@ByteArray.toList_data_append
def wet:=@List.not_mem_nil
def weu:=@List.dropLast_concat
theorem qa{a b:Nat}(h:Nat.ble a b=true):a<=b:=Nat.le_of_ble_eq_true h
theorem qb{α β:Type _}{x:Option α}{f:α->Option β}{b:β}(h:x.bind f=some b):∃a,x=some a/\f a=some b:=Option.bind_eq_some_iff.1 h
theorem qm{α β:Type _}{x:Option α}{f:α->β}{b:β}(h:x.map f=some b):∃a,x=some a/\f a=b:=Option.map_eq_some_iff.1 h
theorem qz{α:Type _}{l:List α}(h:l.length=0):l=[]:=List.eq_nil_of_length_eq_zero h
theorem qg{α:Type _}{l:List α}{i:Nat}{a:α}(h:l[i]?=some a):∃k:i<l.length,l[i]=a:=List.getElem?_eq_some_iff.1 h
theorem qe{α:Type _}{l:List α}{i:Nat}(h:i<l.length):l[i]?=some l[i]:=List.getElem?_eq_getElem h
section
namespace Nun
open Go
inductive Jmp where
 | exit (id:Nat)
 | ret
inductive LpS where
 | ready
 | busy
 | done (j:Jmp)
 | over
inductive PV where
 | unk
 | flat (v:Value)
 | slc (len:Nat) (cells:List PV)
 | agg (cells:List PV)
 | tup (vs:List PV)
 | ptr (b off:Nat)
 | elt (cells:List PV)
 | clo (f:FuncId) (caps:List PV)
 | yld (b:Nat)
 | bsl (b off n:Nat)
 | lp (f k:Nat) (s:LpS) (live:List Nat) (snap:List PV)
 deriving Inhabited
inductive Loc where
 | slot (i:Nat)
 | cell (b j:Nat)
 deriving DecidableEq
abbrev zae:=List (Nat×List PV)
structure St where
 sl:List (Nat × PV)
 ow:List Loc
 al:List (Nat × Loc)
 bx:zae
inductive X where
 | t (i:Nat)
 | c (v:PV)
inductive LK where
 | b
 | s
 | i (k:IntKind)
 deriving DecidableEq
inductive COp where
 | mv (x:X)
 | mvA (s:Nat)
 | asg (x:X)
 | pick (c a b:X)
 | bin (op:BinOp) (x y:X)
 | beq (ne:Bool) (x y:X)
 | eqS (ne:Bool) (ks:List LK) (x y:X)
 | mvS (x:X)
 | nilc (x:X)
 | un (op:UnOp) (x:X)
 | conv (k:IntKind) (x:X)
 | b2s (x:X)
 | alloc (e:Nat) (zs:List PV)
 | box (e n:Nat) (x:X)
 | build (zs:List PV) (parts:List (Nat × Nat × X))
 | mksl (byte:Bool) (len size:Nat) (zs:List PV) (parts:List (Nat × Nat × X))
 | load (agg:Bool) (n:Nat) (a:X)
 | loadA (a:X)
 | loadM (a:X)
 | store (n:Nat) (a x:X)
 | fadr (off:Nat) (a:X)
 | fld (agg:Bool) (off n:Nat) (x:X)
 | iadr (size:Nat) (x i:X)
 | idx (x i:X)
 | idxA (agg:Bool) (len size:Nat) (x i:X)
 | paddr (len size:Nat) (x i:X)
 | sliceP (len size:Nat) (x:X) (lo hi:Option X)
 | appendS (x y:X)
 | slice (size:Nat) (x:X) (lo hi:Option X)
 | sliceS (x:X) (lo hi:Option X)
 | ext (x:X) (i:Nat)
 | len (x:X)
 | lenS (x:X)
 | append (byte:Bool) (size:Nat) (x y:X)
 | mm (mx:Bool) (x y:X)
 | call (f:FuncId) (args:List X)
 | callv (g:X) (args:List X)
 | clos (f:FuncId) (caps:List X)
structure COper where
 dst:Option Nat
 g:Option (Nat × Bool)
 op:COp
inductive BT where
 | done
 | one (o:COper) (t:BT)
 | two (o:COper) (t r:BT)
inductive CCode where
 | skip
 | reg (live:List Nat) (pre tail:List COper)
 | regT (live:List Nat) (pre:List COper) (t:BT)
 | seq (a b:CCode)
 | cond (c:X) (a b:CCode)
 | block (id:Nat) (b:CCode)
 | loop (live:List Nat) (b:CCode)
 | range (f k:Nat) (live:List Nat) (g:X)
 | exit (id:Nat) (live:List Nat)
 | ret (live:List Nat)
def zdi:Value->Bool
 | .bool _| .int .. | .string _| .pointer none| .nilFunc| .nilIface| .slice none 0 0=>true
 |_=>false
def ofValue:Value->PV
 | .slice none 0 0=>.flat (.slice none 0 0)
 | .bool b=>.flat (.bool b)
 | .int k n=>.flat (.int k n)
 | .string s=>.flat (.string s)
 | .pointer none=>.flat (.pointer none)
 | .nilFunc=>.flat .nilFunc
 | .nilIface=>.flat .nilIface
 |_=>.unk
mutual
def PV.noPtr:PV->Bool
 | .flat _=>true
 | .slc _ cs| .agg cs| .tup cs| .elt cs=>zcd cs
 |_=>false
def zcd:List PV->Bool
 |[]=>true
 |v::r=>v.noPtr&&zcd r
end
mutual
def PV.low(nb:Nat):PV->Bool
 | .ptr b _=>decide (b<nb)
 | .slc _ cs| .agg cs| .tup cs| .elt cs| .clo _ cs| .lp _ _ _ _ cs=>lows nb cs
 | .yld b| .bsl b _ _=>decide (b<nb)
 |_=>true
def lows(nb:Nat):List PV->Bool
 |[]=>true
 |v::r=>v.low nb&&lows nb r
end
def trim(nb:Nat)(vs:List PV)(bx:zae):zae:=if bx.length=nb then bx else if lows nb vs&&(bx.take nb).all (fun q=>lows nb q.2)then bx.take nb else bx
def isLp:List PV->Bool
 | .lp _ _ _ _ _::_=>true
 |_=>false
def zes(bx:zae)(b:Nat):Option (Nat×List PV):=(bx[b]?).bind fun q=>if isLp q.2 then none else some q
theorem zmw{bx z:zae}{b:Nat}{cs:Nat×List PV}(h:zes bx b=some cs):zes (bx++z) b=some cs:=by
 unfold zes at h⊢;obtain⟨cs',h1,h2⟩:=qb h;rw[waa (qg h1).1,h1];exact h2
def zby:PV->Bool
 | .flat (.slice none 0 0)=>true
 |_=>false
def wk(p:PV):PV:=if zby p then .slc 0 []else p
def zff:List PV->List PV
 |[]=>[]
 |p::r=>wk p::zff r
def PV.weak:PV->PV
 | .flat v=>wk (.flat v)
 | .agg cs=>.agg (zff cs)
 |p=>p
def za5(b:Nat):Nat->List PV->List Loc
 |_,[]=>[]
 |o,p::r=>if zby p then .cell b o::za5 b (o+1) r else za5 b (o+1) r
def zvk(ps:List PV):Bool:=ps.all fun p=>!zby p
def isU8:PV->Bool
 | .flat (.int .u8 _)=>true
 |_=>false
def noU8:List PV->Bool
 |[]=>true
 |p::r=>!isU8 p&&noU8 r
def zj1:List PV->Bool
 |[]=>true
 |p::r=>isU8 p&&zj1 r
def tyOk(byte:Bool)(size:Nat)(cs ds:List PV):Bool:=if byte then zj1 cs else size !=1||(noU8 cs&&noU8 ds)
def look:List (Nat×PV)->Nat->PV
 |[],_=>.unk
 |(j,v)::r,i=>if j=i then v else look r i
def X.ev(sl:List (Nat×PV)):X->PV
 | .t i=>look sl i
 | .c v=>v
def bound:Nat:=4294967296
def za9(op:BinOp):Value->Value->Option Value
 | .int k a,.int k' b=>
   match op with
   | .shl=>if b<0 then none else some (.int k (k.wrap (a* 2^(min b.toNat k.bits))))
   | .shr=>if b<0 then none else some (.int k (a.fdiv (2^(min b.toNat k.bits))))
   |op=>if k≠k' then none else
    match op with
    | .add=>some (.int k (k.wrap (a+b)))
    | .sub=>some (.int k (k.wrap (a - b)))
    | .mul=>some (.int k (k.wrap (a* b)))
    | .quo=>if b=0 then none else some (.int k (k.wrap (a.tdiv b)))
    | .rem=>if b=0 then none else some (.int k (a.tmod b))
    | .and=>some (.int k (k.wrap (BitVec.ofInt k.bits a&&&BitVec.ofInt k.bits b).toNat))
    | .or=>some (.int k (k.wrap (BitVec.ofInt k.bits a|||BitVec.ofInt k.bits b).toNat))
    | .xor=>some (.int k (k.wrap (BitVec.ofInt k.bits a ^^^ BitVec.ofInt k.bits b).toNat))
    | .andNot=>some (.int k (k.wrap (BitVec.ofInt k.bits a&&&~~~(BitVec.ofInt k.bits b)).toNat))
    | .eql=>some (.bool (a==b))
    | .neq=>some (.bool (a !=b))
    | .lss=>some (.bool (a<b))
    | .leq=>some (.bool (a<=b))
    | .gtr=>some (.bool (a>b))
    | .geq=>some (.bool (a>=b))
    |_=>none
 | .string a,.string b=>
   match op with
   | .add=>if a.size+b.size<=bound then some (.string (a++b))else none
   | .eql=>some (.bool (a.toList==b.toList))
   | .neq=>some (.bool !(a.toList==b.toList))
   | .lss=>some (.bool (Op.bytesLess a.toList b.toList))
   | .leq=>some (.bool (Op.bytesLess a.toList b.toList||a.toList==b.toList))
   | .gtr=>some (.bool !(Op.bytesLess a.toList b.toList||a.toList==b.toList))
   | .geq=>some (.bool !Op.bytesLess a.toList b.toList)
   |_=>none
 |_,_=>none
def zth(op:UnOp):Value->Option Value
 | .int k n=>match op with
   | .neg=>some (.int k (k.wrap (0 - n)))
   |_=>none
 | .bool b=>match op with
   | .not=>some (.bool !b)
   |_=>none
 |_=>none
def PV.cells:PV->List PV
 | .agg cs=>cs
 |v=>[v]
def PV.good:PV->Bool
 | .unk| .tup _| .lp ..=>false
 |_=>true
def zpv:List PV->List (Nat×Nat×PV)->Option (List PV)
 |cs,[]=>some cs
 |cs,(o,n,v)::r=>if v.good=true/\v.cells.length=n/\o+n<=cs.length then zpv (cs.take o++v.cells++cs.drop (o+n)) r else none
def zpw:PV->Option Int
 | .flat (.int _ n)=>some n
 |_=>none
def bytesOf:List PV->Option (List UInt8)
 |[]=>some []
 | .flat (.int .u8 n)::r=>if 0<=n/\n<256 then(bytesOf r).map (UInt8.ofNat n.toNat::·)else none
 |_=>none
def eqCs:List LK->List PV->List PV->Option Bool
 |[],[],[]=>some true
 | .b::ks,.flat (.bool a)::cs,.flat (.bool b)::ds=>(eqCs ks cs ds).map ((a==b)&& ·)
 | .s::ks,.flat (.string a)::cs,.flat (.string b)::ds=>(eqCs ks cs ds).map ((a==b)&& ·)
 | .i k::ks,.flat (.int k1 a)::cs,.flat (.int k2 b)::ds=>if k1=k/\k2=k then(eqCs ks cs ds).map ((a==b)&& ·)else none
 |_,_,_=>none
def zbt(len:Nat)(lo hi:Option PV):Option (Nat×Nat):=
 (match hi with|none=>some len|some h=>(zpw h).bind fun h=>if 0<=h/\h<=len then some h.toNat else none).bind fun h=>
 (match lo with|none=>some 0|some l=>(zpw l).bind fun l=>if 0<=l/\l<=h then some l.toNat else none).map fun l=>(l,h)
def zao:COp->(X->PV)->Option PV
 | .mv x,ρ| .asg x,ρ=>some (ρ x)
 | .pick c a b,ρ=>match ρ c with| .flat (.bool t)=>some (if t then ρ a else ρ b)|_=>none
 | .bin op x y,ρ=>match ρ x,ρ y with| .flat a,.flat b=>(za9 op a b).map .flat|_,_=>none
 | .beq ne x y,ρ=>match ρ x,ρ y with| .flat (.bool a),.flat (.bool b)=>some (.flat (.bool (if ne then !(a==b)else a==b)))|_,_=>none
 | .nilc x,ρ=>match ρ x with| .ptr b o=>some (.ptr b o)| .elt cs=>some (.elt cs)| .clo f cs=>some (.clo f cs)| .yld b=>some (.yld b)|_=>none
 | .un op x,ρ=>match ρ x with| .flat a=>(zth op a).map .flat|_=>none
 | .conv k x,ρ=>match ρ x with| .flat (.int _ n)=>some (.flat (.int k (k.wrap n)))|_=>none
 | .build zs ps,ρ=>(zpv zs (ps.map fun q=>(q.1,q.2.1,ρ q.2.2))).map .agg
 | .fadr o a,ρ=>match ρ a with| .ptr b off=>some (.ptr b (off+o))| .elt cs=>some (.elt (cs.drop o))|_=>none
 | .fld true o n x,ρ=>match ρ x with| .agg cs=>if o+n<=cs.length then some (.agg ((cs.drop o).take n))else none|_=>none
 | .fld false o _ x,ρ=>match ρ x with| .agg cs=>cs[o]?|_=>none
 | .iadr size x i,ρ=>match ρ x,ρ i with
   | .slc n cs,.flat (.int _ i)=>if 0<=i/\i<n then some (.elt (cs.drop (i.toNat* size)))else none
   | .bsl b o n,.flat (.int _ i)=>if 0<=i/\i<n then some (.ptr b (o+i.toNat* size))else none
   |_,_=>none
 | .paddr len size x i,ρ=>match ρ x,ρ i with
   | .ptr b o,.flat (.int _ i)=>if 0<=i/\i<len then some (.ptr b (o+i.toNat* size))else none
   |_,_=>none
 | .idxA agg len size x i,ρ=>match ρ x,ρ i with
   | .agg cs,.flat (.int _ i)=>if 0<=i/\i<len/\i.toNat* size+size<=cs.length then(match agg with|true=>some (.agg ((cs.drop (i.toNat* size)).take size))|false=>cs[i.toNat* size]?)else none
   |_,_=>none
 | .sliceP len size x lo hi,ρ=>match ρ x with
   | .ptr b o=>(zbt len (lo.map ρ) (hi.map ρ)).map fun q=>.bsl b (o+q.1* size) (q.2 - q.1)
   |_=>none
 | .idx x i,ρ=>match ρ x,ρ i with| .flat (.string s),.flat (.int _ i)=>if 0<=i then(s[i.toNat]?).map fun c=>.flat (.int .u8 c.toNat)else none|_,_=>none
 | .sliceS x lo hi,ρ=>match ρ x with
   | .flat (.string s)=>(zbt s.size (lo.map ρ) (hi.map ρ)).map fun q=>.flat (.string (s.extract q.1 q.2))
   |_=>none
 | .slice size x lo hi,ρ=>match ρ x with
   | .slc n cs=>if cs.length=n* size/\0<size then(zbt n (lo.map ρ) (hi.map ρ)).map fun q=>.slc (q.2 - q.1) ((cs.take (q.2* size)).drop (q.1* size))else none
   | .bsl b o n=>(zbt n (lo.map ρ) (hi.map ρ)).map fun q=>.bsl b (o+q.1* size) (q.2 - q.1)
   |_=>none
 | .ext x i,ρ=>match ρ x with| .tup vs=>vs[i]?|_=>none
 | .len x,ρ=>match ρ x with| .slc n _| .bsl _ _ n=>some (.flat (.int .i64 n))| .flat (.slice none 0 0)=>some (.flat (.int .i64 0))|_=>none
 | .lenS x,ρ=>match ρ x with| .flat (.string s)=>some (.flat (.int .i64 s.size))|_=>none
 | .eqS ne ks x y,ρ=>match ρ x,ρ y with| .agg cs,.agg ds=>(eqCs ks cs ds).map fun t=>.flat (.bool (if ne then !t else t))|_,_=>none
 | .mvS x,ρ=>match ρ x with| .flat (.string s)=>some (.flat (.string s))|_=>none
 | .mm mx x y,ρ=>match ρ x,ρ y with
   | .flat (.int k a),.flat (.int k' b)=>if k=k' then some (.flat (.int k (if mx then(if b>a then b else a)else(if b<a then b else a))))else none
   |_,_=>none
 | .clos f cs,ρ=>some (.clo f (cs.map ρ))
 |_,_=>none
def ment(d:Nat):Loc->Bool
 | .slot i=>i==d
 | .cell ..=>false
def zac(d:Nat)(l:List Loc):List Loc:=l.filter fun L=>!ment d L
def za8(d:Nat)(l:List (Nat×Loc)):List (Nat×Loc):=l.filter fun p=>p.1 !=d&& !ment d p.2
def St.put(st:St)(d:Nat)(v:PV):St:={st with sl:=(d,v)::st.sl,ow:=zac d st.ow,al:=za8 d st.al}
def St.putOwn(st:St)(d:Nat)(v:PV):St:={st with sl:=(d,v)::st.sl,ow:=.slot d::zac d st.ow,al:=za8 d st.al}
def St.putD(st:St):Option Nat->PV->St
 |none,_=>st
 |some d,v=>st.put d v
def ze0(b o n:Nat):Loc->Bool
 | .slot _=>false
 | .cell b' j=>b'==b&&o<=j&&j<o+n
abbrev Ans:=List PV×Bool×zae×List Loc
abbrev Callee:=FuncId->List PV->zae->List Loc->Option Ans
def zad:Loc->Bool
 | .cell ..=>true
 |_=>false
def zef:List PV->PV
 |[v]=>v
 |vs=>.tup vs
def callBx(cf:Callee)(st:St)(dst:Option Nat)(f:FuncId)(args:List PV):Option St:=
 (cf f args st.bx (st.ow.filter zad)).map fun(vs,os,bx,oc)=>
   let st':St:={st with bx,ow:=oc.filter zad++st.ow.filter (fun L=>!zad L),al:=st.al.filter fun p=>!zad p.2}
   match dst with
   |none=>st'
   |some d=>if os then st'.putOwn d (zef vs)else st'.put d (zef vs)
def callSt(cf:Callee)(st:St)(dst:Option Nat)(f:FuncId)(args:List PV):Option St:=
 if zcd args then
  (cf f args [] []).bind fun(vs,os,_,_)=>if zcd vs then
    (match dst with
     |none=>some st
     |some d=>some (if os then st.putOwn d (zef vs)else st.put d (zef vs)))else callBx cf st dst f args
 else callBx cf st dst f args
def yldF:FuncId:=4611686018427387904
def pvAt(st:St):Loc->Option PV
 | .slot i=>some (look st.sl i)
 | .cell b j=>(st.bx[b]?).bind fun q=>q.2[j]?
def origin(st:St)(t:Nat):Option Loc:=
 if .slot t∈st.ow then some (.slot t)else(st.al.find? fun p=>p.1==t).map (·.2)
def zyf(agg:Bool)(n:Nat)(p:PV)(bx:zae):Option PV:=match p with
 | .elt cs=>if n<=cs.length then(match agg with|true=>some (.agg (cs.take n))|false=>cs[0]?)else none
 | .ptr b o=>(zes bx b).bind fun q=>if o+n<=q.2.length then(match agg with|true=>some (.agg ((q.2.drop o).take n))|false=>q.2[o]?)else none
 |_=>none
def b2sV(p:PV)(bx:zae):Option PV:=match p with
 | .flat (.slice none 0 0)=>some (.flat (.string ⟨#[]⟩))
 | .slc n cs=>if cs.length=n then(bytesOf cs).map fun l=>.flat (.string ⟨l.toArray⟩)else none
 | .bsl b o n=>(zes bx b).bind fun q=>if o+n<=q.2.length then(bytesOf ((q.2.drop o).take n)).map fun l=>.flat (.string ⟨l.toArray⟩)else none
 |_=>none
def zhh(s:ByteArray):List PV:=s.data.toList.map fun b=>.flat (.int .u8 b.toNat)
def zaa(cf:Callee)(st:St)(dst:Option Nat)(op:COp):Option St:=
 match op with
 | .mvA s=>dst.bind fun d=>if s=d then none else some {(st.put d (look st.sl s))with al:=(d,.slot s)::za8 d st.al}
 | .asg (.t s)=>match dst with
   |none=>none
   |some d=>if s=d then none else
    if .slot s∈st.ow then some {st with sl:=(d,look st.sl s)::st.sl,ow:=.slot d::zac s (zac d st.ow),al:=za8 s (za8 d st.al)}else some (st.put d (look st.sl s))
 | .alloc e zs=>dst.map fun d=>{(st.put d (.ptr st.bx.length 0))with bx:=st.bx++[(e,zs.map wk)],ow:=za5 st.bx.length 0 zs++zac d st.ow}
 | .box e n x=>dst.bind fun d=>if(x.ev st.sl).good=true/\(x.ev st.sl).cells.length=n then some {(st.put d (.ptr st.bx.length 0))with bx:=st.bx++[(e,(x.ev st.sl).cells.map wk)],ow:=za5 st.bx.length 0 (x.ev st.sl).cells++zac d st.ow}else none
 | .mksl byte n size zs ps=>dst.bind fun d=>(zpv zs (ps.map fun q=>(q.1,q.2.1,q.2.2.ev st.sl))).bind fun cs=>if byte=true\/size≠1\/noU8 (zff cs)=true then some (st.putOwn d (.slc n (zff cs)))else none
 | .b2s x=>(b2sV (x.ev st.sl) st.bx).map (st.putD dst)
 | .load agg n a=>dst.bind fun d=>(zyf agg n (a.ev st.sl) st.bx).map (st.put d)
 | .loadA a=>dst.bind fun d=>match a.ev st.sl with
   | .ptr b o=>((zes st.bx b).bind fun q=>q.2[o]?).map fun v=>{(st.put d v)with al:=(d,.cell b o)::za8 d st.al}
   |_=>none
 | .loadM a=>dst.bind fun d=>match a.ev st.sl with
   | .ptr b o=>((zes st.bx b).bind fun q=>q.2[o]?).bind fun v=>if .cell b o∈st.ow then some {(st.put d v)with ow:=.slot d::(zac d st.ow).filter (·≠.cell b o),al:=[]}else none
   |_=>none
 | .store n a x=>match dst,a.ev st.sl with
   |none,.ptr b o=>(zes st.bx b).bind fun q=>if(x.ev st.sl).good=true/\(x.ev st.sl).cells.length=n/\o+n<=q.2.length then
    let bx:=st.bx.set b (q.1,q.2.take o++(x.ev st.sl).cells.map wk++q.2.drop (o+n))
    let ow:=za5 b o (x.ev st.sl).cells++st.ow.filter fun L=>!ze0 b o n L
    let al:=st.al.filter fun p=>!ze0 b o n p.2
    match x with
    | .t s=>if .slot s∈st.ow then some {st with bx,ow:=.cell b o::zac s ow,al:=za8 s al}else some {st with bx,ow,al}
    | .c _=>some {st with bx,ow,al}
    else none
   |_,_=>none
 | .append byte size x y=>if zby (x.ev st.sl)then
  (match(y.ev st.sl).weak with
   | .slc m ds=>if m<=bound/\ds.length=m* size/\tyOk byte size [] ds=true then dst.map fun d=>if m=0 then st.put d (.flat (.slice none 0 0))else st.putOwn d (.slc m ds)else none
   |_=>none)
   else match x with
   | .t s=>(origin st s).bind fun L=>dst.bind fun d=>match pvAt st L,(y.ev st.sl).weak with
     |some (.slc n cs),.slc m ds=>if n+m<=bound/\cs.length=n* size/\ds.length=m* size/\L∈st.ow/\tyOk byte size cs ds=true then
      some {st with sl:=(d,.slc (n+m) (cs++ds))::st.sl,ow:=.slot d::zac d (st.ow.filter (·≠L)),al:=za8 d (st.al.filter fun p=>p.2≠L)}else none
     |_,_=>none
   |_=>none
 | .appendS x y=>if zby (x.ev st.sl)then
  (match y.ev st.sl with
   | .flat (.string z)=>if z.size<=bound then dst.map fun d=>if z.size=0 then st.put d (.flat (.slice none 0 0))else st.putOwn d (.slc z.size (zhh z))else none
   |_=>none)
   else match x with
   | .t s=>(origin st s).bind fun L=>dst.bind fun d=>match pvAt st L,y.ev st.sl with
     |some (.slc n cs),.flat (.string z)=>if n+z.size<=bound/\cs.length=n/\L∈st.ow/\zj1 cs=true then
      some {st with sl:=(d,.slc (n+z.size) (cs++zhh z))::st.sl,ow:=.slot d::zac d (st.ow.filter (·≠L)),al:=za8 d (st.al.filter fun p=>p.2≠L)}else none
     |_,_=>none
   |_=>none
 | .call f args=>callSt cf st dst f (args.map fun x=>(x.ev st.sl).weak)
 | .callv g args=>match g.ev st.sl with
   | .clo f caps=>if f=yldF then none else callSt cf st dst f ((args.map fun x=>(x.ev st.sl).weak)++caps)
   | .yld b=>callBx cf st dst yldF (.yld b::args.map fun x=>(x.ev st.sl).weak)
   |_=>none
 |op=>(zao op (·.ev st.sl)).map (st.putD dst)
def zej(st:St):Option (Nat×Bool)->Option Bool
 |none=>some true
 |some (s,want)=>match look st.sl s with
  | .flat (.bool b)=>some (b==want)
  | .tup []=>some false
  |_=>none
def stepG(cf:Callee)(st:St)(o:COper):Option St:=(zej st o.g).bind fun b=>if b then zaa cf st o.dst o.op else some (st.putD o.dst (.tup []))
def zdc(cf:Callee):List COper->St->Option St
 |[],st=>some st
 |o::r,st=>(stepG cf st o).bind (zdc cf r)
def zc7(cf:Callee)(f:FuncId)(args:List PV):Bool:=zcd args&&match cf f args [] []with
 |some (vs,_)=>zcd vs
 |none=>false
def za6(cf:Callee)(sl:List (Nat×PV)):COp->Bool
 | .call f args=>zc7 cf f (args.map fun x=>(x.ev sl).weak)
 | .callv g args=>match g.ev sl with
   | .clo f caps=>f !=yldF&&zc7 cf f ((args.map fun x=>(x.ev sl).weak)++caps)
   |_=>false
 | .alloc _ zs=>zvk zs
 | .box _ _ x=>zvk (x.ev sl).cells
 |_=>true
def zfg(cf:Callee)(st:St)(o:COper):Option St:=(zej st o.g).bind fun b=>if b then(if za6 cf st.sl o.op then zaa cf st o.dst o.op else none)else some (st.putD o.dst (.tup []))
def zij(cf:Callee):List COper->St->Option St
 |[],st=>some st
 |o::r,st=>(zfg cf st o).bind (zij cf r)
open Classical in
noncomputable def same{α:Type}(a b:Option α):Option α:=if a=b then a else none
inductive Out where
 | normal
 | exit (id:Nat)
 | ret
def St.only0(st:St)(live:List Nat)(nb:Nat):St:=
 let bx:=trim nb (live.map (look st.sl)) st.bx
 {sl:=live.map fun i=>(i,look st.sl i),ow:=(live.filter fun i=>decide (.slot i∈st.ow)).map .slot++st.ow.filter (fun| .slot _=>false| .cell b _=>decide (b<bx.length)),al:=[],bx}
def St.keep0(st:St)(live:List Nat):St:=
 {sl:=live.map fun i=>(i,look st.sl i),ow:=(live.filter fun i=>decide (.slot i∈st.ow)).map .slot++st.ow.filter zad,al:=[],bx:=st.bx}
def St.nrm(st:St)(live:List Nat):St:={st with sl:=st.sl.map fun q=>(q.1,wk q.2),ow:=((live.filter fun i=>zby (look st.sl i)).map .slot)++st.ow}
def St.only(st:St)(live:List Nat)(nb:Nat):St:=(st.nrm live).only0 live nb
def St.keep(st:St)(live:List Nat):St:=(st.nrm live).keep0 live
def St.cutB(st:St)(nb:Nat):St:=
 let bx:=trim nb (st.sl.map (·.2)) st.bx
 {st with bx,ow:=if bx.length=st.bx.length then st.ow else st.ow.filter (fun| .slot _=>true| .cell b _=>decide (b<bx.length)),al:=[]}
open Classical in
noncomputable def zd6(cf:Callee)(st:St)(o:COper):Option St:=match o.op,o.dst with
 | .call _ _,some d=>(stepG cf st o).bind fun s'=>if s'.bx=st.bx/\s'.ow.filter zad=st.ow.filter zad then some (st.put d (look s'.sl d))else none
 |_,_=>stepG cf st o
noncomputable def evQ(cf:Callee):List COper->St->Option St
 |[],st=>some st
 |o::r,st=>(zd6 cf st o).bind (evQ cf r)
noncomputable def evT(cf:Callee)(live:List Nat):BT->St->Option St
 | .done,st=>some (st.keep live)
 | .one o t,st=>(stepG cf st o).bind (evT cf live t)
 | .two o t r,st=>same ((stepG cf st o).bind (evT cf live t)) (evT cf live r st)
def zcn(body:St->Option (Out×St))(live:List Nat)(nb:Nat):Nat->St->Option (Out×St)
 |0,_=>none
 |n+1,st=>(body st).bind fun
  |(.normal,st')=>zcn body live nb n (st'.only live nb)
  |r=>some r
def zhq(cf:Callee)(f k:Nat)(live:List Nat)(g:PV)(st:St):Option (Out×St):=match g with
 | .clo h caps=>if h=yldF then none else
   (callBx cf {st with bx:=st.bx++[(0,[.lp f k .ready live (live.map (look st.sl))])]} none h (.yld st.bx.length::caps)).bind fun s2=>
     match s2.bx[st.bx.length]? with
     |some (_,[.lp f' k' s live' snap'])=>
      let s3:St:={s2 with bx:=s2.bx.set st.bx.length (0,[.lp f' k' .over live' snap'])}
      match s with
      | .ready=>some (.normal,s3)
      | .done (.exit i)=>some (.exit i,s3)
      | .done .ret=>some (.ret,s3)
      |_=>none
     |_=>none
 |_=>none
noncomputable def evC(cf:Callee)(n:Nat):CCode->St->Option (Out×St)
 | .skip,st=>some (.normal,st)
 | .reg live pre tail,st=>((zij cf pre st).bind (zdc cf tail)).map fun st=>(.normal,st.keep live)
 | .regT live pre t,st=>((evQ cf pre st).bind (evT cf live t)).map fun st=>(.normal,st)
 | .seq a b,st=>(evC cf n a st).bind fun
   |(.normal,st')=>evC cf n b st'
   |r=>some r
 | .cond c a b,st=>match c.ev st.sl with
   | .flat (.bool t)=>if t then evC cf n a st else evC cf n b st
   |_=>none
 | .block id b,st=>(evC cf n b st).map fun
   |(.exit j,st')=>if j=id then(.normal,st'.cutB st.bx.length)else(.exit j,st')
   |(.normal,st')=>(.normal,st'.cutB st.bx.length)
   |r=>r
 | .loop live b,st=>zcn (evC cf n b) live st.bx.length n (st.only live st.bx.length)
 | .range f k live g,st=>zhq cf f k live (g.ev st.sl) st
 | .exit id live,st=>some (.exit id,st.keep live)
 | .ret live,st=>some (.ret,st.keep live)
structure CFun where
 nt:Nat
 res:List (Sum Nat (Nat × Bool × Nat))
 body:CCode
 rngs:List (List Nat × CCode × CCode)
def resV(st:St):Sum Nat (Nat×Bool×Nat)->Option PV
 | .inl i=>some (look st.sl i)
 | .inr (i,agg,n)=>match look st.sl i with
   | .ptr b o=>match zes st.bx b with
     |some q=>if o+n<=q.2.length then(if agg then some (.agg ((q.2.drop o).take n))else q.2[o]?)else none
     |none=>none
   |_=>none
def zik:Nat->List PV->List (Nat×PV)
 |_,[]=>[]
 |i,v::r=>(i,v)::zik (i+1) r
def zti(rs:List (Sum Nat (Nat×Bool×Nat)))(ow:List Loc):Bool:=match rs with
 |[.inl s]=>decide (.slot s∈ow)
 |_=>false
def zdj(n:Nat)(ow:List Loc):List Loc:=ow.filter fun| .slot _=>false| .cell b _=>decide (b<n)
noncomputable def zvl(cf:Callee)(code:FuncId->Option CFun)(n:Nat)(args:List PV)(bx:zae)(oc:List Loc):Option Ans:=match args with
 | .yld b::az=>match bx[b]? with
   |some (_,[.lp f k .ready live snap])=>(code f).bind fun c=>(c.rngs[k]?).bind fun q=>
    if az.length=q.1.length then
     (evC cf n q.2.1 {sl:=(q.1.zip az).foldl (fun l p=>p::l) (live.zip snap),ow:=oc,al:=[],bx}).bind fun(o1,s1)=>
       match o1,s1.bx[b]? with
       | .normal,some (_,[.lp f1 k1 .ready live1 snap1])=>
         (evC cf n q.2.2 {s1 with bx:=s1.bx.set b (0,[.lp f1 k1 .busy live1 snap1])}).bind fun(o,st)=>
           match st.bx[b]? with
           |some (_,[.lp f' k' .busy live' snap'])=>
            let r:LpS×Bool:=match o with
             | .normal=>(.ready,true)
             | .exit i=>(.done (.exit i),false)
             | .ret=>(.done .ret,false)
            let bx':=trim bx.length [.flat (.bool r.2)] (st.bx.set b (0,[.lp f' k' r.1 live' snap']))
            some ([.flat (.bool r.2)],false,bx',zdj bx'.length st.ow)
           |_=>none
       |_,_=>none
    else none
   |_=>none
 |_=>none
noncomputable def evF(code:FuncId->Option CFun)(lib:Callee):Nat->Callee
 |0,_,_,_,_=>none
 |n+1,f,args,bx,oc=>match code f with
  |none=>if f=yldF then zvl (evF code lib n) code n args bx oc else lib f args bx oc
  |some c=>
   if args.length<=c.nt then
    (evC (evF code lib n) n c.body {sl:=zik 0 args,ow:=oc,al:=[],bx}).bind fun(o,st)=>
      match o with
      | .exit _=>none
      |_=>(c.res.mapM (resV st)).map fun vs=>
       (vs,zti c.res st.ow,trim bx.length vs st.bx,zdj (trim bx.length vs st.bx).length st.ow)
   else none
end Nun
namespace Nun
open Go
def Row(w:World)(Fr:Nat->Nat)(g o:Nat)(vs:List Value):Prop:=∀(j:Nat)(v:Value),vs[j]?=some v->o+j<Fr g/\w.cell? ⟨g,o+j,none⟩=some v
def Ones(vs:List Value):Prop:=∀v∈vs,v.oneCell'=true
mutual
def Rd(w:World)(Fr:Nat->Nat)(β:List Nat):PV->Value->Prop
 | .unk,_=>True
 | .flat a,v=>v=a/\zdi a=true
 | .slc n cs,v=>∃a cap,v=.slice a n cap/\n<=cap/\((cs=[]/\n=0)\/∃g o vs,a=some ⟨g,o,none⟩/\Row w Fr g o vs/\Rds w Fr β cs vs/\Ones vs)
 | .agg cs,v=>∃vs,v=.agg vs.toArray/\Rds w Fr β cs vs/\Ones vs
 | .tup cs,v=>∃vs,v=.tuple vs.toArray/\Rds w Fr β cs vs
 | .ptr b o,v=>∃g,β[b]?=some g/\v=.pointer (some ⟨g,o,none⟩)
 | .elt cs,v=>∃g o vs,v=.pointer (some ⟨g,o,none⟩)/\Row w Fr g o vs/\Rds w Fr β cs vs/\Ones vs
 | .clo f caps,v=>∃vs,v=.func (.func f) #[] vs.toArray/\Rds w Fr β caps vs
 | .yld b,v=>∃g,β[b]?=some g/\v=.func (.yield g) #[] #[]
 | .bsl b off n,v=>∃g a cap,β[b]?=some g/\v=.slice a n cap/\n<=cap/\(n=0\/a=some ⟨g,off,none⟩)
 | .lp _ _ _ _ _,_=>False
def Rds(w:World)(Fr:Nat->Nat)(β:List Nat):List PV->List Value->Prop
 |[],vs=>vs=[]
 |p::ps,vs=>∃v r,vs=v::r/\Rd w Fr β p v/\Rds w Fr β ps r
end
structure Le (w:World) (Fr:Nat→Nat) (β:List Nat) (w':World) (Fr':Nat→Nat) (β':List Nat):Prop where
 size:w.heap.size≤w'.heap.size
 fr:∀ b,b<w.heap.size→Fr b≤Fr' b
 cell:∀ b o,b<w.heap.size→o<Fr b→w'.cell? ⟨b,o,none⟩=w.cell? ⟨b,o,none⟩
 box:∀ i g:Nat,β[i]? =some g→β'[i]? =some g
 lp:∀ (g:Nat) (r:Loop),w.heap[g]? =some (Obj.loop r)→∃ r':Loop,w'.heap[g]? =some (Obj.loop r')
theorem Le.refl(w:World)(Fr:Nat->Nat)(β:List Nat):Le w Fr β w Fr β:=⟨wab _,fun _ _=>wab _,fun _ _ _ _=>rfl,fun _ _ h=>h,fun _ r h=>⟨r,h⟩⟩
theorem Le.trans{w w' w'':World}{Fr Fr' Fr'':Nat->Nat}{β β' β'':List Nat}(h:Le w Fr β w' Fr' β')(k:Le w' Fr' β' w'' Fr'' β''):Le w Fr β w'' Fr'' β'':=
 ⟨wac h.size k.size,fun b hb=>wac (h.fr b hb) (k.fr b (wad hb h.size)),fun b o hb ho=>(k.cell b o (wad hb h.size) (wad ho (h.fr b hb))).trans (h.cell b o hb ho),fun i g hg=>k.box i g (h.box i g hg),fun g r hr=>by obtain⟨r1,h1⟩:=h.lp g r hr;exact k.lp g r1 h1⟩
section
variable {w w':World} {Fr Fr':Nat→Nat} {β β':List Nat}
theorem Row.mono(hl:Le w Fr β w' Fr' β'){g o:Nat}{vs:List Value}(h:Row w Fr g o vs):Row w' Fr' g o vs:=fun j v hj=>by
 obtain⟨h1,h2⟩:=h j v hj;have hg:g<w.heap.size:=wae w _ h2;exact⟨wad h1 (hl.fr g hg),(hl.cell g _ hg h1).trans h2⟩
mutual
theorem Rd.mono(hl:Le w Fr β w' Fr' β'):∀(p:PV)(v:Value),Rd w Fr β p v->Rd w' Fr' β' p v
 | .unk,_,h=>by simp[Rd]
 | .flat a,v,h=>by simpa[Rd]using h
 | .slc n cs,v,h=>by
   simp only[Rd]at h⊢;obtain⟨a,cap,h1,h2,h3⟩:=h;refine⟨a,cap,h1,h2,h3.imp id ?_⟩;rintro⟨g,o,vs,ha,hr,hs,ho⟩;exact⟨g,o,vs,ha,hr.mono hl,Rds.mono hl cs vs hs,ho⟩
 | .agg cs,v,h=>by
   simp only[Rd]at h⊢;obtain⟨vs,h1,hs,ho⟩:=h;exact⟨vs,h1,Rds.mono hl cs vs hs,ho⟩
 | .tup cs,v,h=>by
   simp only[Rd]at h⊢;obtain⟨vs,h1,hs⟩:=h;exact⟨vs,h1,Rds.mono hl cs vs hs⟩
 | .ptr b o,v,h=>by
   simp only[Rd]at h⊢;obtain⟨g,h1,h2⟩:=h;exact⟨g,hl.box _ _ h1,h2⟩
 | .elt cs,v,h=>by
   simp only[Rd]at h⊢;obtain⟨g,o,vs,h1,hr,hs,ho⟩:=h;exact⟨g,o,vs,h1,hr.mono hl,Rds.mono hl cs vs hs,ho⟩
 | .clo f caps,v,h=>by
   simp only[Rd]at h⊢;obtain⟨vs,h1,hs⟩:=h;exact⟨vs,h1,Rds.mono hl caps vs hs⟩
 | .yld b,v,h=>by
   simp only[Rd]at h⊢;obtain⟨g,h1,h2⟩:=h;exact⟨g,hl.box _ _ h1,h2⟩
 | .bsl b off n,v,h=>by
   simp only[Rd]at h⊢;obtain⟨g,a,cap,h1,h2⟩:=h;exact⟨g,a,cap,hl.box _ _ h1,h2⟩
 | .lp _ _ _ _ _,v,h=>by simp only[Rd]at h
theorem Rds.mono(hl:Le w Fr β w' Fr' β'):∀(ps:List PV)(vs:List Value),Rds w Fr β ps vs->Rds w' Fr' β' ps vs
 |[],_,h=>by simpa[Rds]using h
 |p::ps,vs,h=>by
  simp only[Rds]at h⊢;obtain⟨v,r,h1,h2,h3⟩:=h;exact⟨v,r,h1,Rd.mono hl p v h2,Rds.mono hl ps r h3⟩
end
theorem Rds.length:∀{ps:List PV}{vs:List Value},Rds w Fr β ps vs->vs.length=ps.length
 |[],_,h=>by simp only[Rds]at h;simp[h]
 |p::ps,vs,h=>by
  simp only[Rds]at h;obtain⟨v,r,h1,h2,h3⟩:=h;rw[h1,waf,waf,Rds.length h3]
theorem Rds.get:∀{ps:List PV}{vs:List Value},Rds w Fr β ps vs->∀(j:Nat)(p:PV),ps[j]?=some p->∃v,vs[j]?=some v/\Rd w Fr β p v
 |[],_,h,j,p,hj=>by simp at hj
 |p::ps,vs,h,0,q,hj=>by
  simp only[Rds]at h;obtain⟨v,r,h1,h2,h3⟩:=h;simp at hj;subst hj;exact⟨v,by rw[h1];rfl,h2⟩
 |p::ps,vs,h,j+1,q,hj=>by
  simp only[Rds]at h;obtain⟨v,r,h1,h2,h3⟩:=h;simp at hj;obtain⟨u,h4,h5⟩:=Rds.get h3 j q hj;exact⟨u,by rw[h1];simpa using h4,h5⟩
theorem Rds.take:∀{ps:List PV}{vs:List Value}(k:Nat),Rds w Fr β ps vs->Rds w Fr β (ps.take k) (vs.take k)
 |[],_,k,h=>by simp only[Rds]at h;simp[h,Rds]
 |p::ps,vs,0,h=>by simp[Rds]
 |p::ps,vs,k+1,h=>by
  simp only[Rds]at h;obtain⟨v,r,h1,h2,h3⟩:=h;rw[h1,wag,wag];simp only[Rds];exact⟨v,_,rfl,h2,Rds.take k h3⟩
theorem Rds.drop:∀{ps:List PV}{vs:List Value}(k:Nat),Rds w Fr β ps vs->Rds w Fr β (ps.drop k) (vs.drop k)
 |[],_,k,h=>by simp only[Rds]at h;simp[h,Rds]
 |p::ps,vs,0,h=>by simpa using h
 |p::ps,vs,k+1,h=>by
  simp only[Rds]at h;obtain⟨v,r,h1,h2,h3⟩:=h;rw[h1,wah,wah];exact Rds.drop k h3
theorem Rds.append:∀{ps qs:List PV}{vs us:List Value},Rds w Fr β ps vs->Rds w Fr β qs us->Rds w Fr β (ps++qs) (vs++us)
 |[],qs,vs,us,h,k=>by simp only[Rds]at h;subst h;simpa using k
 |p::ps,qs,vs,us,h,k=>by
  simp only[Rds]at h;obtain⟨v,r,h1,h2,h3⟩:=h;rw[h1,wai,wai];simp only[Rds];exact⟨v,_,rfl,h2,Rds.append h3 k⟩
end
theorem Ones.take{vs:List Value}(h:Ones vs)(k:Nat):Ones (vs.take k):=fun v hv=>h v (waj hv)
theorem Ones.drop{vs:List Value}(h:Ones vs)(k:Nat):Ones (vs.drop k):=fun v hv=>h v (List.mem_of_mem_drop hv)
theorem Ones.append{vs us:List Value}(h:Ones vs)(k:Ones us):Ones (vs++us):=fun v hv=>(wak.1 hv).elim (h v) (k v)
theorem Row.drop{w:World}{Fr:Nat->Nat}{g o:Nat}{vs:List Value}(h:Row w Fr g o vs)(k:Nat):Row w Fr g (o+k) (vs.drop k):=fun j v hj=>by
 rw[wal]at hj;have:=h (k+j) v hj;rwa[<-wam]at this
theorem Row.take{w:World}{Fr:Nat->Nat}{g o:Nat}{vs:List Value}(h:Row w Fr g o vs)(k:Nat):Row w Fr g o (vs.take k):=fun j v hj=>by
 rw[List.getElem?_take]at hj;split at hj
 ·exact h j v hj
 ·cases hj
def U8(P:Program):TypeId:=((List.range P.types.size).find? fun t=>match P.underlying t with|some (.int .u8)=>true|_=>false).getD 0
def OwnV(P:Program)(w:World)(Fr:Nat->Nat)(p:PV)(v:Value):Prop:=∃n cs,p=.slc n cs/\(v=.slice none 0 0\/
 ∃g cap cur e sz,v=.slice (some ⟨g,0,none⟩) n cap/\w.heap[g]?=some (.cells cur e (0,0))/\n<=cap/\cap<=maxLen/\cur.size=cap* sz/\Fr g=cs.length/\cs.length=n* sz/\(n=0->cap=0)/\(sz=1->noU8 cs=true\/e=U8 P))
def zay(a:Act)(w:World)(β:List Nat):Loc->Option Value
 | .slot i=>some (a.tmps.getD i undef)
 | .cell b j=>(β[b]?).bind fun g=>w.cell? ⟨g,j,none⟩
def zaw:Code->List (Operand×Array Tmp×Code×Code)
 | .seq a b=>zaw a++zaw b
 | .cond _ a b=>zaw a++zaw b
 | .block _ b| .loop b| .scope b=>zaw b
 | .rangeFunc g ps az b=>(g,ps,az,b)::(zaw az++zaw b)
 |_=>[]
def rangeAt(P:Program)(f k:Nat):Option (Operand×Array Tmp×Code×Code):=((P.funcs[f]?).bind (·.body)).bind fun c=>(zaw c)[k]?
def Jmp.code:Jmp->Code
 | .exit i=>.exit i
 | .ret=>.ret
def LpS.of:LpS->Loop->Prop
 | .ready,r=>r.state=.ready/\r.pending=none
 | .busy,r=>r.state=.busy
 | .done j,r=>r.state=.done/\r.pending=some j.code
 | .over,_=>True
def LpR(P:Program)(w:World)(Fr:Nat->Nat)(β:List Nat)(f k:Nat)(s:LpS)(live:List Nat)(snap:List PV)(g:Nat):Prop:=
 ∃r,w.heap[g]?=some (Obj.loop r)/\(∃fn,P.funcs[f]?=some fn/\r.tmps.size=fn.ntmps)/\(∃x,rangeAt P f k=some (x,r.params,r.assign,r.body))/\s.of r/\∀i,Rd w Fr β (look (live.zip snap) i) (r.tmps.getD i undef)
def zvm(P:Program)(w:World)(Fr:Nat->Nat)(β:List Nat)(q:Nat×List PV)(g:Nat):Prop:=
 (∃vs e,w.heap[g]?=some (.cells vs.toArray e (0,0))/\Rds w Fr β q.2 vs/\Ones vs/\q.1=e)\/∃f k s live snap,q.2=[.lp f k s live snap]/\LpR P w Fr β f k s live snap g
def BoxR(P:Program)(w:World)(Fr:Nat->Nat)(β:List Nat)(bx:zae):Prop:=bx.length=β.length/\
 ∀(b:Nat)(cs:Nat×List PV),bx[b]?=some cs->∃g,β[b]?=some g/\Fr g=0/\zvm P w Fr β cs g
section
variable {P:Program} {w w':World} {Fr Fr':Nat→Nat} {β β':List Nat} {bx:zae}
theorem BoxR.cells(h:BoxR P w Fr β bx){b:Nat}{q:Nat×List PV}(hb:zes bx b=some q):bx[b]?=some q/\isLp q.2=false/\∃g vs e,β[b]?=some g/\w.heap[g]?=some (.cells vs.toArray e (0,0))/\Rds w Fr β q.2 vs/\Ones vs/\Fr g=0/\q.1=e:=by
 unfold zes at hb;obtain⟨q',h1,h2⟩:=qb hb;split at h2
 ·cases h2
 ·rename_i hl
  cases h2;obtain⟨g,k1,k2,k3⟩:=h.2 b q h1;refine⟨h1,by simpa using hl,?_⟩;rcases k3 with⟨vs,e,k3,k4,k5,k6⟩|⟨f,k,s,live,snap,k6,_⟩
  ·exact⟨g,vs,e,k1,k3,k4,k5,k2,k6⟩
  ·rw[k6]at hl;simp[isLp]at hl
theorem zvm.block{cs:Nat×List PV}{g:Nat}(h:zvm P w Fr β cs g):∃o,w.heap[g]?=some o/\∀ds,o≠.deferred ds:=by
 rcases h with⟨vs,e,h,_⟩|⟨f,k,s,live,snap,_,r,h,_⟩
 ·exact⟨_,h,fun _ h=>by cases h⟩
 ·exact⟨_,h,fun _ h=>by cases h⟩
theorem zvm.kept{cs:Nat×List PV}{g:Nat}(h:zvm P w Fr β cs g)(hl:Le w Fr β w' Fr' β')(hg:w'.heap[g]?=w.heap[g]?):zvm P w' Fr' β' cs g:=by
 rcases h with⟨vs,e,h1,h2,h3⟩|⟨f,k,s,live,snap,h0,r,h1,h2,h3,h4,h5⟩
 ·exact .inl ⟨vs,e,hg.trans h1,h2.mono hl,h3⟩
 ·exact .inr ⟨f,k,s,live,snap,h0,r,hg.trans h1,h2,h3,h4,fun i=>(h5 i).mono hl⟩
theorem BoxR.at(h:BoxR P w Fr β bx){g:Nat}(hg:g∈β):∃o,w.heap[g]?=some o/\∀ds,o≠.deferred ds:=by
 obtain⟨i,hi⟩:=List.getElem?_of_mem hg;have hlen:i<bx.length:=by rw[h.1];exact(qg hi).1
 obtain⟨g',h1,_,h2⟩:=h.2 i _ (qe hlen);rw[hi]at h1;cases h1;exact h2.block
theorem BoxR.lt(h:BoxR P w Fr β bx){g:Nat}(hg:g∈β):g<w.heap.size:=by
 obtain⟨o,h1,_⟩:=h.at hg;exact(wan.1 h1).1
theorem BoxR.kept(h:BoxR P w Fr β bx)(hl:Le w Fr β w' Fr' β)(hb:∀g∈β,w'.heap[g]?=w.heap[g]?/\Fr' g=Fr g):BoxR P w' Fr' β bx:=by
 refine⟨h.1,fun b cs hcs=>?_⟩;obtain⟨g,h1,h2,h3⟩:=h.2 b cs hcs;obtain⟨k1,k2⟩:=hb g (wao h1);exact⟨g,h1,k2.trans h2,h3.kept hl k1⟩
end
def mark(D:Nat):Deferred:={target:=.collected D,args:=#[]}
def Marks(T:List Deferred)(base:Nat)(w:World)(ds:List Deferred):Prop:=∃Ds:List Nat,Ds.Nodup/\ds=Ds.map mark++T/\∀D∈Ds,base<=D/\w.heap[D]?=some (.deferred (some []))
structure Rel (P:Program) (T:List Deferred) (base:Nat) (M:Nat→Prop) (w0:World) (F0:Nat→Nat) (nt:Nat) (st:St) (a:Act) (w:World) (Fr:Nat→Nat) (β:List Nat):Prop where
 sl:∀ i,Rd w Fr β (look st.sl i) (a.tmps.getD i undef)
 nt:a.tmps.size=nt
 df:Marks T base w a.defers
 bx:BoxR P w Fr β st.bx
 nd:β.Nodup
 own:∀ L∈st.ow,∃ v p,zay a w β L=some v∧pvAt st L=some p∧OwnV P w Fr p v
 sep:∀ L∈st.ow,∀ L'∈st.ow,L≠L'→∀ v v' g,zay a w β L=some v→zay a w β L'=some v'→v.ownBlock=some g→v'.ownBlock≠some g
 out:∀ L∈st.ow,∀ v g,zay a w β L=some v→v.ownBlock=some g→g ∉ β
 al:∀ p∈st.al,zay a w β p.2=some (a.tmps.getD p.1 undef)
 may:∀ g,(g∈β∨∃ L∈st.ow,∃ v,zay a w β L=some v∧v.ownBlock=some g)→base≤g∨M g
 old:∀ b,b<base→¬ M b→w.heap[b]? =w0.heap[b]? ∧Fr b=F0 b
 ge:base≤w.heap.size
 os:w.os=w0.os
 tape:w.tape=w0.tape
 output:w.output=w0.output
end Nun
namespace Nun
open Go Go.RowKit
theorem OwnV.lt{P:Program}{w:World}{Fr:Nat->Nat}{p:PV}{v:Value}(h:OwnV P w Fr p v){g:Nat}(hg:v.ownBlock=some g):g<w.heap.size:=by
 obtain⟨n,cs,_,h|⟨g',cap,cur,e,sz,h1,h2,_⟩⟩:=h
 ·subst h;cases hg
 ·subst h1;cases hg
  exact(wan.1 h2).1
theorem Rel.next{P:Program}{T:List Deferred}{base nt:Nat}{M:Nat->Prop}{w0 w w':World}{F0:Nat->Nat}{st st':St}{a a':Act}{Fr Fr':Nat->Nat}{β β':List Nat}(R:Rel P T base M w0 F0 nt st a w Fr β)(hl:Le w Fr β w' Fr' β')
 (hsl:∀i,Rd w' Fr' β' (look st'.sl i) (a'.tmps.getD i undef)) (hnt:a'.tmps.size=nt) (hdf:a'.defers=a.defers) (hbx:BoxR P w' Fr' β' st'.bx) (hnd:β'.Nodup) (hβ:∀g∈β',g∈β\/w.heap.size<=g)
 (org:Loc->Option Loc)
 (hown:∀L∈st'.ow,∃v p,zay a' w' β' L=some v/\pvAt st' L=some p/\OwnV P w' Fr' p v/\
   (∀g,v.ownBlock=some g->(w.heap.size<=g/\g∉β'/\org L=none)\/∃L0∈st.ow,org L=some L0/\∃v0,zay a w β L0=some v0/\v0.ownBlock=some g))
 (hinj:∀L∈st'.ow,∀L'∈st'.ow,L≠L'->∀L0,org L=some L0->org L'≠some L0)
 (hfresh:∀L∈st'.ow,∀L'∈st'.ow,L≠L'->org L=none->org L'=none->∀v v' g,zay a' w' β' L=some v->zay a' w' β' L'=some v'->v.ownBlock=some g->v'.ownBlock≠some g)
 (hal:∀p∈st'.al,zay a' w' β' p.2=some (a'.tmps.getD p.1 undef))
 (hkeep:∀b,b<w.heap.size->b∉β->(∀L∈st.ow,∀v,zay a w β L=some v->v.ownBlock≠some b)->w'.heap[b]?=w.heap[b]?/\Fr' b=Fr b) (hos:w'.os=w.os) (htape:w'.tape=w.tape) (hout:w'.output=w.output):Rel P T base M w0 F0 nt st' a' w' Fr' β':=by
 have hlt:∀L0∈st.ow,∀v0 g,zay a w β L0=some v0->v0.ownBlock=some g->g<w.heap.size:=fun L0 h0 v0 g hv hg=>by
  obtain⟨v,p,h1,h2,h3⟩:=R.own L0 h0;rw[hv]at h1;cases h1;exact h3.lt hg
 have hold:∀b,b<base->¬M b->w'.heap[b]?=w.heap[b]?/\Fr' b=Fr b:=fun b hb hM=>
  hkeep b (wad hb R.ge) (fun h=>(R.may b (.inl h)).elim (fun h=>by omega) hM) fun L hL v hv hg=>(R.may b (.inr ⟨L,hL,v,hv,hg⟩)).elim (fun h=>by omega) hM
 have hdf':Marks T base w' a'.defers:=by
  obtain⟨Ds,h1,h2,h3⟩:=R.df;refine⟨Ds,h1,hdf.trans h2,fun D hD=>⟨(h3 D hD).1,?_⟩⟩;have hD2:=(h3 D hD).2;rw[(hkeep D (wan.1 hD2).1 (fun h=>?_) fun L hL v hv hg=>?_).1]
  ·exact hD2
  ·obtain⟨o,k1,k2⟩:=R.bx.at h
   rw[hD2]at k1;cases k1;exact k2 _ rfl
  ·obtain⟨u,p,k1,_,n,cs,_,k2⟩:=R.own L hL
   rw[hv]at k1;cases k1;rcases k2 with rfl|⟨g',cap,cur,e,sz,rfl,k3,_⟩
   ·cases hg
   ·cases hg;rw[hD2]at k3;cases k3
 refine⟨hsl,hnt,hdf',hbx,hnd,fun L hL=>?_,fun L hL L' hL' hne v v' g hv hv' hg hg'=>?_,fun L hL v g hv hg hb=>?_,hal,fun g hg=>?_,fun b hb hM=>⟨(hold b hb hM).1.trans (R.old b hb hM).1,(hold b hb hM).2.trans (R.old b hb hM).2⟩,wac R.ge hl.size,hos.trans R.os,htape.trans R.tape,hout.trans R.output⟩
 ·obtain⟨v,p,h1,h2,h3,_⟩:=hown L hL
  exact⟨v,p,h1,h2,h3⟩
 ·obtain⟨u,p,h1,_,_,h4⟩:=hown L hL
  obtain⟨u',p',h1',_,_,h4'⟩:=hown L' hL';rw[hv]at h1;cases h1;rw[hv']at h1';cases h1';rcases h4 g hg with⟨a1,a2,a3⟩|⟨L0,b1,b2,v0,b3,b4⟩
  ·rcases h4' g hg' with⟨c1,c2,c3⟩|⟨L1,d1,d2,v1,d3,d4⟩
   ·exact hfresh L hL L' hL' hne a3 c3 v v' g hv hv' hg hg'
   ·have:=hlt L1 d1 v1 g d3 d4;omega
  ·rcases h4' g hg' with⟨c1,c2,c3⟩|⟨L1,d1,d2,v1,d3,d4⟩
   ·have:=hlt L0 b1 v0 g b3 b4;omega
   ·by_cases he:L0=L1
    ·subst he;exact hinj L hL L' hL' hne L0 b2 d2
    ·exact R.sep L0 b1 L1 d1 he v0 v1 g b3 d3 b4 d4
 ·obtain⟨u,p,h1,_,_,h4⟩:=hown L hL
  rw[hv]at h1;cases h1;rcases h4 g hg with⟨a1,a2,a3⟩|⟨L0,b1,b2,v0,b3,b4⟩
  ·exact a2 hb
  ·rcases hβ g hb with h|h
   ·exact R.out L0 b1 v0 g b3 b4 h
   ·have:=hlt L0 b1 v0 g b3 b4;omega
 ·have fin:∀g,w.heap.size<=g->base<=g\/M g:=fun g h=>.inl (wac R.ge h)
  rcases hg with hg|⟨L,hL,v,hv,hg⟩
  ·rcases hβ g hg with h|h
   ·exact R.may g (.inl h)
   ·exact fin g h
  ·obtain⟨u,p,h1,_,_,h4⟩:=hown L hL
   rw[hv]at h1;cases h1;rcases h4 g hg with⟨a1,a2,a3⟩|⟨L0,b1,b2,v0,b3,b4⟩
   ·exact fin g a1
   ·exact R.may g (.inr ⟨L0,b1,v0,b3,b4⟩)
theorem zmx{d:Nat}{L:Loc}(h:ment d L=false):L≠.slot d:=by rintro rfl;simp[ment]at h
theorem zco{d:Nat}{l:List Loc}{L:Loc}:L∈zac d l ↔ L∈l/\ment d L=false:=by simp[zac]
theorem zgw{d:Nat}{l:List (Nat×Loc)}{p:Nat×Loc}:p∈za8 d l ↔ p∈l/\p.1≠d/\ment d p.2=false:=by simp[za8]
theorem zfl(a:Act)(d:Nat)(v:Value)(i:Nat)(hd:d<a.tmps.size):(a.put (some d) v).tmps.getD i undef=if d=i then v else a.tmps.getD i undef:=by
 simp only[Act.put,wap,Array.getElem?_setIfInBounds];by_cases h:d=i
 ·subst h;simp[hd]
 ·simp[h]
theorem zet{a:Act}{w:World}{β:List Nat}{d:Nat}{v:Value}{L:Loc}(hd:d<a.tmps.size)(h:ment d L=false):zay (a.put (some d) v) w β L=zay a w β L:=by
 cases L with
 |slot i=>
  have:d≠i:=fun e=>by simp[ment,e]at h
  simp only[zay,zfl a d v i hd,if_neg this]
 |cell b j=>rfl
theorem zu2{st:St}{d:Nat}{p:PV}{L:Loc}(h:ment d L=false):pvAt {st with sl:=(d,p)::st.sl} L=pvAt st L:=by
 cases L with
 |slot i=>
  have:d≠i:=fun e=>by simp[ment,e]at h
  simp only[pvAt,look,if_neg this]
 |cell b j=>rfl
theorem zy0{st st':St}{L:Loc}(h:st'.sl=st.sl)(hb:st'.bx=st.bx):pvAt st' L=pvAt st L:=by cases L<;>simp[pvAt,h,hb]
theorem size_put(a:Act)(d:Option Nat)(v:Value):(a.put d v).tmps.size=a.tmps.size:=by cases d<;>simp[Act.put]
theorem zob(a:Act)(d:Option Nat)(v:Value):(a.put d v).defers=a.defers:=by cases d<;>simp[Act.put]
theorem za4(d:Nat)(p:PV)(l:List (Nat×PV))(i:Nat):look ((d,p)::l) i=if d=i then p else look l i:=rfl
section
variable {P:Program} {T:List Deferred} {base nt:Nat} {M:Nat→Prop} {w0 w w':World} {F0:Nat→Nat} {st st':St} {a a':Act} {Fr Fr':Nat→Nat} {β β':List Nat}
theorem z9d(R:Rel P T base M w0 F0 nt st a w Fr β)(hl:Le w Fr β w' Fr' β'){d:Nat}(hd:d<nt){p:PV}{v:Value}(hv:Rd w' Fr' β' p v)(i:Nat):
 Rd w' Fr' β' (look ((d,p)::st.sl) i) ((a.put (some d) v).tmps.getD i undef):=by
 rw[zfl a d v i (by rw[R.nt];exact hd),za4];split
 ·exact hv
 ·exact(R.sl i).mono hl
theorem Rel.put(R:Rel P T base M w0 F0 nt st a w Fr β){d:Nat}(hd:d<nt){p:PV}{v:Value}(hv:Rd w Fr β p v):Rel P T base M w0 F0 nt (st.put d p) (a.put (some d) v) w Fr β:=by
 have hda:d<a.tmps.size:=by rw[R.nt];exact hd
 refine R.next (Le.refl _ _ _) (z9d R (Le.refl _ _ _) hd hv) (by rw[size_put];exact R.nt) (zob _ _ _) R.bx R.nd (fun g h=>.inl h) some (fun L hL=>?_) (fun L _ L' _ hne L0 h h'=>hne (by cases h;cases h';rfl)) (fun L _ L' _ _ h=>by cases h) (fun q hq=>?_) (fun _ _ _ _=>⟨rfl,rfl⟩) rfl rfl rfl
 ·obtain⟨h1,h2⟩:=zco.1 hL
  obtain⟨u,q,k1,k2,k3⟩:=R.own L h1;exact⟨u,q,by rw[zet hda h2];exact k1,(zu2 h2).trans k2,k3,fun g hg=>.inr ⟨L,h1,rfl,u,k1,hg⟩⟩
 ·obtain⟨h1,h2,h3⟩:=zgw.1 hq
  rw[zet hda h3,zfl a d v _ hda,if_neg (fun e=>h2 e.symm)];exact R.al q h1
theorem Rel.putAl(R:Rel P T base M w0 F0 nt st a w Fr β){d:Nat}(hd:d<nt){p:PV}{v:Value}(hv:Rd w Fr β p v){L:Loc}(hL:ment d L=false)(ha:zay a w β L=some v):Rel P T base M w0 F0 nt {(st.put d p)with al:=(d,L)::za8 d st.al} (a.put (some d) v) w Fr β:=by
 have R':=R.put hd hv;have hda:d<a.tmps.size:=by rw[R.nt];exact hd
 refine⟨R'.sl,R'.nt,R'.df,R'.bx,R'.nd,fun K hK=>?_,R'.sep,R'.out,fun q hq=>?_,R'.may,R'.old,R'.ge,R'.os,R'.tape,R'.output⟩
 ·obtain⟨u,q,k1,k2,k3⟩:=R'.own K hK
  exact⟨u,q,k1,(zy0 rfl rfl).trans k2,k3⟩
 ·rcases waq.1 hq with rfl|hq
  ·rw[zet hda hL,ha,zfl a d v _ hda,if_pos rfl]
  ·exact R'.al q hq
theorem Rel.move(R:Rel P T base M w0 F0 nt st a w Fr β){d s:Nat}(hd:d<nt)(hsd:s≠d)(hs:Loc.slot s∈st.ow):
 Rel P T base M w0 F0 nt {st with sl:=(d,look st.sl s)::st.sl,ow:=.slot d::zac s (zac d st.ow),al:=za8 s (za8 d st.al)} (a.put (some d) (a.tmps.getD s undef)) w Fr β:=by
 have hda:d<a.tmps.size:=by rw[R.nt];exact hd
 refine R.next (Le.refl _ _ _) (z9d R (Le.refl _ _ _) hd (R.sl s)) (by rw[size_put];exact R.nt) (zob _ _ _) R.bx R.nd (fun g h=>.inl h) (fun L=>some (if L=.slot d then .slot s else L)) (fun L hL=>?_) (fun L hL L' hL' hne L0 h h'=>?_) (fun L _ L' _ _ h=>by cases h) (fun q hq=>?_) (fun _ _ _ _=>⟨rfl,rfl⟩) rfl rfl rfl
 ·rcases waq.1 hL with rfl|hL
  ·obtain⟨u,q,k1,k2,k3⟩:=R.own _ hs
   refine⟨u,q,?_,?_,k3,fun g hg=>.inr ⟨_,hs,by simp,u,k1,hg⟩⟩
   ·simp only[zay,zfl a d _ d hda]at k1⊢;exact k1
   ·simp only[pvAt,za4]at k2⊢;exact k2
  ·obtain⟨h1,h2⟩:=zco.1 hL
   obtain⟨h3,h4⟩:=zco.1 h1;obtain⟨u,q,k1,k2,k3⟩:=R.own L h3;exact⟨u,q,by rw[zet hda h4];exact k1,(zu2 h4).trans k2,k3,fun g hg=>.inr ⟨L,h3,by rw[if_neg (zmx h4)],u,k1,hg⟩⟩
 ·have key:∀K,K∈Loc.slot d::zac s (zac d st.ow)->K≠.slot d->K≠.slot s:=fun K hK hne=>by
   rcases waq.1 hK with e|hK
   ·exact absurd e hne
   ·exact zmx (zco.1 hK).2
  simp only[war]at h h';by_cases e:L=.slot d
  ·subst e
   rw[if_pos rfl]at h;rw[if_neg (was hne)]at h';exact key L' hL' (was hne) (h'.trans h.symm)
  ·rw[if_neg e]at h
   by_cases e':L'=.slot d
   ·subst e'
    rw[if_pos rfl]at h';exact key L hL e (h.trans h'.symm)
   ·rw[if_neg e']at h'
    exact hne (h.trans h'.symm)
 ·obtain⟨h1,h2,h3⟩:=zgw.1 hq
  obtain⟨h4,h5,h6⟩:=zgw.1 h1;rw[zet hda h6,zfl a d _ _ hda,if_neg (fun e=>h5 e.symm)];exact R.al q h4
theorem OwnV.kept{p:PV}{v:Value}(h:OwnV P w Fr p v)(hb:∀g,v.ownBlock=some g->w'.heap[g]?=w.heap[g]?/\Fr' g=Fr g):OwnV P w' Fr' p v:=by
 obtain⟨n,cs,hp,hv⟩:=h;refine⟨n,cs,hp,hv.imp id ?_⟩;rintro⟨g,cap,cur,e,sz,h1,h2,h3,h4,h5,h6,h7,h8⟩;obtain⟨k1,k2⟩:=hb g (by rw[h1];rfl);exact⟨g,cap,cur,e,sz,h1,k1.trans h2,h3,h4,h5,k2.trans h6,h7,h8⟩
theorem zse{L:Loc}(hb:∀g∈β,w'.heap[g]?=w.heap[g]?):zay a w' β L=zay a w β L:=by
 cases L with
 |slot i=>rfl
 |cell b j=>
  simp only[zay];cases h:β[b]? with
  |none=>rfl
  |some g=>simp only[wat,World.cell?,hb g (wao h)]
theorem Rel.grow(R:Rel P T base M w0 F0 nt st a w Fr β)(hb:Below w.heap.size w w')(hf:∀g,g<w.heap.size->Fr' g=Fr g):Rel P T base M w0 F0 nt st a w' Fr' β/\Le w Fr β w' Fr' β:=by
 have hl:Le w Fr β w' Fr' β:=⟨hb.size,fun b h=>by rw[hf b h];exact wab _,fun b o h _=>hb.cell (p:=⟨b,o,none⟩) h,fun _ _ h=>h,fun g r h=>⟨r,(hb.block g (wan.1 h).1).trans h⟩⟩;have hβ:∀g∈β,g<w.heap.size:=fun g hg=>R.bx.lt hg
 have hval:∀L,zay a w' β L=zay a w β L:=fun L=>zse fun g hg=>hb.block g (hβ g hg)
 refine⟨R.next hl (fun i=>(R.sl i).mono hl) R.nt rfl (R.bx.kept hl fun g hg=>⟨hb.block g (hβ g hg),hf g (hβ g hg)⟩) R.nd (fun g h=>.inl h) some (fun L hL=>?_) (fun L _ L' _ hne L0 h h'=>hne (by cases h;cases h';rfl)) (fun L _ L' _ _ h=>by cases h) (fun q hq=>by rw[hval];exact R.al q hq) (fun b h _ _=>⟨hb.block b h,hf b h⟩) hb.os hb.tape hb.output,hl⟩;obtain⟨u,q,k1,k2,k3⟩:=R.own L hL;exact⟨u,q,by rw[hval];exact k1,k2,k3.kept fun g hg=>⟨hb.block g (k3.lt hg),hf g (k3.lt hg)⟩,fun g hg=>.inr ⟨L,hL,rfl,u,k1,hg⟩⟩
theorem Rel.putOwn(R:Rel P T base M w0 F0 nt st a w Fr β)(hb:Below w.heap.size w w')(hf:∀g,g<w.heap.size->Fr' g=Fr g){d:Nat}(hd:d<nt){p:PV}{v:Value}(hv:Rd w' Fr' β p v)(ho:OwnV P w' Fr' p v)(hn:∀g,v.ownBlock=some g->w.heap.size<=g):
 Rel P T base M w0 F0 nt (st.putOwn d p) (a.put (some d) v) w' Fr' β:=by
 obtain⟨R',hl⟩:=R.grow hb hf;have hda:d<a.tmps.size:=by rw[R.nt];exact hd
 have hβ:∀g∈β,g<w.heap.size:=fun g hg=>R.bx.lt hg
 have hval:∀L,zay a w' β L=zay a w β L:=fun L=>zse fun g hg=>hb.block g (hβ g hg)
 refine R.next hl (z9d R hl hd hv) (by rw[size_put];exact R.nt) (zob _ _ _) R'.bx R.nd (fun g h=>.inl h) (fun L=>if L=.slot d then none else some L) (fun L hL=>?_) (fun L hL L' hL' hne L0 h h'=>?_) (fun L _ L' _ hne h h'=>?_) (fun q hq=>?_) (fun b h _ _=>⟨hb.block b h,hf b h⟩) hb.os hb.tape hb.output
 ·rcases waq.1 hL with rfl|hL
  ·refine⟨v,p,?_,?_,ho,fun g hg=>.inl ⟨hn g hg,fun hm=>?_,by simp⟩⟩
   ·simp only[zay,zfl a d v d hda,if_true]
   ·simp only[pvAt,St.putOwn,za4,if_true]
   ·have:=hβ g hm;have:=hn g hg;omega
  ·obtain⟨h1,h2⟩:=zco.1 hL
   obtain⟨u,q,k1,k2,k3⟩:=R.own L h1;exact⟨u,q,by rw[zet hda h2,hval];exact k1,(zu2 h2).trans k2,k3.kept fun g hg=>⟨hb.block g (k3.lt hg),hf g (k3.lt hg)⟩,fun g hg=>.inr ⟨L,h1,by rw[if_neg (zmx h2)],u,k1,hg⟩⟩
 ·split at h
  ·cases h
  ·split at h'
   ·cases h'
   ·cases h;cases h';exact hne rfl
 ·split at h
  ·split at h'
   ·rename_i e e';exact absurd (e.trans e'.symm) hne
   ·cases h'
  ·cases h
 ·obtain⟨h1,h2,h3⟩:=zgw.1 hq
  rw[zet hda h3,hval,zfl a d v _ hda,if_neg (fun e=>h2 e.symm)];exact R.al q h1
end
end Nun
namespace Nun
open Go Go.RowKit
def szOf(P:Program)(t:TypeId):Option Nat:=(P.info? t).map (·.size)
def zdv(P:Program)(t:TypeId):Option Bool:=(P.underlying t).map fun| .struct _| .array _ _=>true|_=>false
def coX:Operand->Option X
 | .tmp t=>some (.t t)
 | .const v=>some (.c (ofValue v))
 | .func f=>some (.c (.clo f []))
 | .global _=>none
def coXs(l:Array Operand):Option (List X):=l.toList.mapM coX
def coO:Option Operand->Option (Option X)
 |none=>some none
 |some x=>(coX x).map some
def zpx(P:Program)(t:TypeId):Option (List PV):=((P.info? t).bind (·.zero)).bind fun v=>if v.cells.toList.all (·.oneCell')then some (v.cells.toList.map ofValue)else none
def fieldsOf(P:Program)(t:TypeId):Option (Array Field):=match P.underlying t with|some (.struct fs)=>some fs|_=>none
def coPs(place:Nat->Option (Nat×Nat)):List (Nat×Operand)->Option (List (Nat×Nat×X))
 |[]=>some []
 |(i,x)::r=>(place i).bind fun p=>(coX x).bind fun x=>(coPs place r).map fun s=>(p.1,p.2,x)::s
def z64(P:Program)(t:TypeId)(ps:List (Nat×Operand)):Option (List (Nat×Nat×X)):=match P.underlying t with
 |some (.struct fs)=>(fs.toList.mapM fun f=>(P.info? f.type).map fun i=>(f.offset,i.size)).bind fun places=>coPs (places.toArray[·]?) ps
 |some (.array _ e)=>(P.info? e).bind fun ie=>coPs (fun i=>some (i* ie.size,ie.size)) ps
 |_=>none
def shFs(P:Program)(sh:TypeId->Option (List LK)):List Field->Nat->Option (List LK)
 |[],_=>some []
 |f::fs,o=>if f.offset=o/\f.name≠"_" then(sh f.type).bind fun k=>if szOf P f.type=some k.length/\k≠[]then(shFs P sh fs (o+k.length)).map (k++·)else none else none
def shOf(P:Program):Nat->TypeId->Option (List LK)
 |0,_=>none
 |d+1,t=>match P.underlying t with
  |some .bool=>some [.b]
  |some .string=>some [.s]
  |some (.int k)=>some [.i k]
  |some (.struct fs)=>if P.stoodInHeld t=true then none else shFs P (shOf P d) fs.toList 0
  |_=>none
def zcw(P:Program):Op->Option COp
 | .move x=>(coX x).map .mv
 | .assign x=>(coX x).map .asg
 | .pick c a b=>(coX c).bind fun c=>(coX a).bind fun a=>(coX b).map fun b=>.pick c a b
 | .binOp op t x y _=>(coX x).bind fun x=>(coX y).bind fun y=>match P.underlying t with
   |some (.int _)|some .string=>some (.bin op x y)
   |some .bool=>(match op with| .eql=>some (.beq false x y)| .neq=>some (.beq true x y)|_=>none)
   |some (.struct _)=>if P.eqGuardType P.depth t=false then(match op with| .eql=>(shOf P 50 t).map fun ks=>.eqS false ks x y| .neq=>(shOf P 50 t).map fun ks=>.eqS true ks x y|_=>none)else none
   |_=>none
 | .nilCheck x=>(coX x).map .nilc
 | .unOp op _ x=>(coX x).map fun x=>.un op x
 | .convert src dst x=>(coX x).bind fun x=>match P.underlying src,P.underlying dst with
   |some (.int _),some (.int k)=>some (.conv k x)
   |some .string,some .string=>some (.mvS x)
   |_,_=>none
 | .build t ps=>(zpx P t).bind fun zs=>(z64 P t ps.toList).map fun ps=>.build zs ps
 | .fieldAddr s x f=>(fieldsOf P s).bind fun fs=>(fs[f]?).bind fun fl=>(szOf P fl.type).bind fun n=>if n=0 then none else(coX x).map fun x=>.fadr fl.offset x
 | .field s x f=>(fieldsOf P s).bind fun fs=>(fs[f]?).bind fun fl=>(szOf P fl.type).bind fun n=>(zdv P fl.type).bind fun g=>(coX x).map fun x=>.fld g fl.offset n x
 | .indexAddr t x i=>match P.underlying t with
   |some (.slice e)=>(szOf P e).bind fun n=>(coX x).bind fun x=>(coX i).map fun i=>.iadr n x i
   |some (.array len e)=>(szOf P e).bind fun n=>(coX x).bind fun x=>(coX i).map fun i=>.paddr len n x i
   |_=>none
 | .index t x i=>match P.underlying t with
   |some .string=>(coX x).bind fun x=>(coX i).map fun i=>.idx x i
   |some (.array len e)=>(szOf P e).bind fun n=>(zdv P e).bind fun g=>(coX x).bind fun x=>(coX i).map fun i=>.idxA g len n x i
   |_=>none
 | .slice t x lo hi none=>match P.underlying t with
   |some .string=>(coX x).bind fun x=>(coO lo).bind fun lo=>(coO hi).map fun hi=>.sliceS x lo hi
   |some (.slice e)=>(szOf P e).bind fun n=>(coX x).bind fun x=>(coO lo).bind fun lo=>(coO hi).map fun hi=>.slice n x lo hi
   |some (.array len e)=>(szOf P e).bind fun n=>(coX x).bind fun x=>(coO lo).bind fun lo=>(coO hi).map fun hi=>.sliceP len n x lo hi
   |_=>none
 | .extract x i=>(coX x).map fun x=>.ext x i
 | .call {callee:=.builtin .len,args,argTypes}=>match args.toList,argTypes.toList with
   |[x],[t]=>(match P.underlying t with|some .string=>(coX x).map .lenS|some (.slice _)=>(coX x).map .len|_=>none)
   |_,_=>none
 | .call {callee:=.builtin .max,args,argTypes}=>match args.toList with
   |[x,y]=>(coX x).bind fun x=>(coX y).map fun y=>.mm true x y
   |_=>none
 | .call {callee:=.builtin .min,args,argTypes}=>match args.toList with
   |[x,y]=>(coX x).bind fun x=>(coX y).map fun y=>.mm false x y
   |_=>none
 | .makeFunc (.func f) first caps=>if first.size=0 then(coXs caps).map fun cs=>.clos f cs else none
 |_=>none
section
variable {P:Program} {w:World} {Fr:Nat→Nat} {β:List Nat}
theorem zy1(v:Value):Rd w Fr β (ofValue v) v:=by
 unfold ofValue;split<;>simp[Rd,zdi]
theorem zbo{a:Act}{sl:List (Nat×PV)}(h:∀i,Rd w Fr β (look sl i) (a.tmps.getD i undef)){x:Operand}{y:X}(hx:coX x=some y):Rd w Fr β (y.ev sl) (a.eval x):=by
 cases x with
 |tmp t=>simp only[coX,war]at hx;subst hx;exact h t
 |const v=>simp only[coX,war]at hx;subst hx;exact zy1 v
 |global g=>cases hx
 |func f=>simp only[coX,war]at hx;subst hx;simp only[X.ev,Rd,Act.eval];exact⟨[],rfl,by simp[Rds]⟩
theorem zbc{v u:Value}(h:Rd w Fr β (.flat v) u):u=v/\zdi v=true:=by simpa[Rd]using h
theorem zdd{v:Value}(h:zdi v=true):Rd w Fr β (.flat v) v:=by simp[Rd,h]
theorem run_sizeOf{t:TypeId}{n:Nat}(h:szOf P t=some n):(Go.sizeOf t).run P w=.ok n w:=by
 unfold szOf at h;cases hi:P.info? t with
 |none=>rw[hi]at h;cases h
 |some i=>
  rw[hi]at h;simp only[wau,war]at h;simp[Go.sizeOf,typeInfo,program,hi,h,Sem.run]
theorem zvn{t:TypeId}{b:Bool}(h:zdv P t=some b):(isAgg t).run P w=.ok b w:=by
 unfold zdv at h;cases hi:P.underlying t with
 |none=>rw[hi]at h;cases h
 |some i=>
  rw[hi]at h;simp only[wau,war]at h;simp only[isAgg,wav,run_underlying hi,waw];subst h;cases i<;>rfl
theorem z65{op:BinOp}{a b v:Value}(h:za9 op a b=some v)(t:TypeId)(x y:Operand):((do eqGuard op t x y a b;binOp op t a b:Sem Value)).run P w=.ok v w/\zdi v=true:=by
 unfold za9 at h;split at h
 ·rename_i k a k' b
  have hg:(eqGuard op t x y (.int k a) (.int k' b)).run P w=.ok () w:=by
   unfold eqGuard;split<;>rfl
  simp only[wav,hg,waw];cases op
  case shl=>
   simp only at h;split at h
   ·cases h
   ·rename_i hb;cases h;simp[binOp,Op.shift,hb,zdi,Sem.run,pure]
  case shr=>
   simp only at h;split at h
   ·cases h
   ·rename_i hb;cases h;simp[binOp,Op.shift,hb,zdi,Sem.run,pure]
  all_goals
   simp only at h;split at h
   ·cases h
   ·rename_i hk
    have hk':k=k':=by simpa using hk
    subst hk'
    first
     |(cases h;simp[binOp,Op.intArith,Op.intBits,Op.intCmp,zdi,Sem.run,pure];done)
     |(split at h
       ·cases h
       ·rename_i hb;cases h;simp[binOp,Op.intDiv,hb,zdi,Sem.run,pure])
 ·rename_i a b
  have hg:(eqGuard op t x y (.string a) (.string b)).run P w=.ok () w:=by
   unfold eqGuard;split<;>rfl
  simp only[wav,hg,waw];cases op
  case add=>
   simp only at h;split at h
   ·rename_i hb;cases h
    have h0:¬(((a.size+b.size:Nat):Int)>IntKind.i64.max):=by
     have:IntKind.i64.max=9223372036854775807:=rfl;unfold bound at hb;omega
    refine⟨?_,rfl⟩;show Sem.run P (Op.stringOp .add a b) w=_;simp only[Op.stringOp,if_neg h0];rfl
   ·cases h
  all_goals
   simp only at h;cases h
   try (refine⟨?_,rfl⟩;rfl)
 ·cases h
theorem ybx{op:UnOp}{a v:Value}(h:zth op a=some v):(Op.unary op a).run P w=.ok v w/\zdi v=true:=by
 unfold zth at h;split at h
 ·split at h
  ·cases h;exact⟨rfl,rfl⟩
  ·cases h
 ·split at h
  ·cases h;exact⟨rfl,rfl⟩
  ·cases h
 ·cases h
theorem zlg:∀{cs:List PV}{l:List UInt8}{vs:List Value},bytesOf cs=some l->Rds w Fr β cs vs->vs=l.map fun c=>.int .u8 c.toNat
 |[],l,vs,h,k=>by
  simp only[bytesOf,war]at h;subst h;simpa[Rds]using k
 |p::r,l,vs,h,k=>by
  unfold bytesOf at h;split at h
  ·rename_i e;cases e
  ·rename_i n r' e
   cases e;split at h
   ·rename_i hn
    obtain⟨l',hl',rfl⟩:=qm h;simp only[Rds]at k;obtain⟨v,u,rfl,h1,h2⟩:=k;obtain⟨rfl,_⟩:=zbc h1;rw[zlg hl' h2,wax];congr 2;simp;omega
   ·cases h
  ·cases h
theorem z08{p:PV}{v:Value}(h:Rd w Fr β p v)(hg:p.good=true):Rds w Fr β p.cells v.cells.toList/\Ones v.cells.toList:=by
 have one:∀{q:PV},q.cells=[q]->v.cells=#[v]->v.oneCell'=true->Rd w Fr β q v->Rds w Fr β q.cells v.cells.toList/\Ones v.cells.toList:=fun h1 h2 h3 h4=>by
  rw[h1,h2];refine⟨by simp only[Rds];exact⟨v,[],rfl,h4,rfl⟩,fun u hu=>?_⟩;simp at hu;rw[hu];exact h3
 cases p with
 |unk=>cases hg
 |tup vs=>cases hg
 |flat u=>
  obtain⟨rfl,hf⟩:=zbc h;refine one rfl ?_ ?_ h
  ·cases v<;>first|rfl|(simp[zdi]at hf)
  ·cases v<;>first|rfl|(simp[zdi]at hf)
 |slc n cs=>
  have h':=h;simp only[Rd]at h';obtain⟨a,cap,rfl,_⟩:=h';exact one rfl rfl rfl h
 |agg cs=>
  simp only[Rd]at h;obtain⟨vs,rfl,h1,h2⟩:=h;exact⟨by simpa[PV.cells,Value.cells]using h1,by simpa[Value.cells]using h2⟩
 |ptr b o=>
  have h':=h;simp only[Rd]at h';obtain⟨g,_,rfl⟩:=h';exact one rfl rfl rfl h
 |elt cs=>
  have h':=h;simp only[Rd]at h';obtain⟨g,o,vs,rfl,_⟩:=h';exact one rfl rfl rfl h
 |clo f cs=>
  have h':=h;simp only[Rd]at h';obtain⟨vs,rfl,_⟩:=h';exact one rfl rfl rfl h
 |yld b=>
  have h':=h;simp only[Rd]at h';obtain⟨g,_,rfl⟩:=h';exact one rfl rfl rfl h
 |bsl b off n=>
  have h':=h;simp only[Rd]at h';obtain⟨g,a,cap,_,rfl,_⟩:=h';exact one rfl rfl rfl h
 |lp f k s live snap=>cases hg
theorem zqs:∀(vs:List Value)(cells:Array Value)(o k:Nat),o+k+vs.length<=cells.size->
 ((vs.zipIdx k).foldl (fun(cs:Array Value)(x:Value×Nat)=>cs.setIfInBounds (o+x.2) x.1) cells).toList=cells.toList.take (o+k)++vs++cells.toList.drop (o+k+vs.length)
 |[],cells,o,k,h=>by simp
 |v::vs,cells,o,k,h=>by
  rw[List.zipIdx_cons,waz,zqs vs _ o (k+1) (by simp at h⊢;omega)];simp only[Array.toList_setIfInBounds];have hl:o+k<cells.toList.length:=by simp at h⊢;omega
  rw[List.take_set,List.drop_set,if_pos (by omega),<-wam,wa0 hl,wa1 _ _ (by simp;omega)];have:o+k - (cells.toList.take (o+k)).length=0:=by rw[wa2];omega
  rw[this];simp only[wa3,wa4,wai,wa5,waf];rw[show o+k+1+vs.length=o+k+(vs.length+1) by omega]
def yqx(w:World)(Fr:Nat->Nat)(β:List Nat)(place:Nat->Option (Nat×Nat)):List (Nat×Value)->List (Nat×Nat×PV)->Prop
 |[],[]=>True
 |(i,v)::r,(o,n,p)::s=>place i=some (o,n)/\Rd w Fr β p v/\yqx w Fr β place r s
 |_,_=>False
theorem z66{place:Nat->Option (Nat×Nat)}:∀(ps:List (Nat×Value))(qs:List (Nat×Nat×PV))(cells:Array Value)(cs cs':List PV),yqx w Fr β place ps qs->Rds w Fr β cs cells.toList->Ones cells.toList->zpv cs qs=some cs'->
 ∃cells',Instr.fill place cells ps=some cells'/\Rds w Fr β cs' cells'.toList/\Ones cells'.toList
 |[],[],cells,cs,cs',_,h,ho,hf=>by
  simp only[zpv,war]at hf;subst hf;exact⟨cells,rfl,h,ho⟩
 |[],_::_,_,_,_,h,_,_,_=>h.elim
 |_::_,[],_,_,_,h,_,_,_=>h.elim
 |(i,v)::r,(o,n,p)::s,cells,cs,cs',hp,h,ho,hf=>by
  obtain⟨h1,h2,h3⟩:=hp;unfold zpv at hf;split at hf
  ·rename_i hc
   obtain⟨c1,c2,c3⟩:=hc;obtain⟨d1,d2⟩:=z08 h2 c1;have hz:v.cells.size=n:=by rw[<-c2,<-d1.length];simp
   have hcl:cells.size=cs.length:=by rw[<-h.length];simp
   have e:((v.cells.zipIdx).foldl (fun(cs:Array Value)(x:Value×Nat)=>cs.setIfInBounds (o+x.2) x.1) cells).toList=cells.toList.take o++v.cells.toList++cells.toList.drop (o+n):=by
    have h9:=zqs v.cells.toList cells o 0 (by simp;omega);rw[wa6,show v.cells.toList.length=n by simp[hz]]at h9;rw[<-h9,<-Array.foldl_toList,Array.toList_zipIdx]
   have r1:Rds w Fr β (cs.take o++p.cells++cs.drop (o+n)) ((v.cells.zipIdx).foldl (fun(cs:Array Value)(x:Value×Nat)=>cs.setIfInBounds (o+x.2) x.1) cells).toList:=by
    rw[e];exact((h.take o).append d1).append (h.drop (o+n))
   have r2:Ones ((v.cells.zipIdx).foldl (fun(cs:Array Value)(x:Value×Nat)=>cs.setIfInBounds (o+x.2) x.1) cells).toList:=by
    rw[e];exact((ho.take o).append d2).append (ho.drop (o+n))
   obtain⟨cells',k1,k2,k3⟩:=z66 (place:=place) r s _ _ cs' h3 r1 r2 hf;refine⟨cells',?_,k2,k3⟩;unfold Instr.fill;rw[h1];dsimp only;rw[if_neg (by rw[hz];simp;omega)];exact k1
  ·cases hf
end
end Nun
namespace Nun
open Go Go.RowKit
section
variable {P:Program} {w:World} {Fr:Nat→Nat} {β:List Nat}
theorem zfq{k:IntKind}{n:Int}:(asIntOf (.int k n)).run P w=.ok (k,n) w:=rfl
theorem zy2{p:PV}{v:Value}{n:Int}(h:Rd w Fr β p v)(hn:zpw p=some n):∃k,v=.int k n:=by
 unfold zpw at hn;split at hn
 ·cases hn;obtain⟨rfl,_⟩:=zbc h;exact⟨_,rfl⟩
 ·cases hn
theorem zo9{v:Value}{k:IntKind}{i:Int}{y:Nat}{c:BoundsCode}(hv:v=.int k i)(h:0<=i/\i<=(y:Int)):(Instr.sliceBound v y c).run P w=.ok i.toNat w:=by
 subst hv;simp only[Instr.sliceBound,wav,zfq,waw,if_pos h];rfl
theorem zeu{isS:Bool}{len cap:Nat}{lo hi:Option Value}{plo phi:Option PV}{l h:Nat}(hcap:len<=cap)(hlo:(lo=none/\plo=none)\/∃v p,lo=some v/\plo=some p/\Rd w Fr β p v)(hhi:(hi=none/\phi=none)\/∃v p,hi=some v/\phi=some p/\Rd w Fr β p v)
 (hb:zbt len plo phi=some (l,h)):(Instr.sliceBounds isS len cap lo hi none).run P w=.ok (l,h,cap) w/\l<=h/\h<=len:=by
 unfold zbt at hb;obtain⟨h',h1,h2⟩:=qb hb;obtain⟨l',h3,h4⟩:=qm h2;cases h4;have hH:h<=len/\(hi=none->h=len)/\∀v,hi=some v->∀c,(Instr.sliceBound v cap c).run P w=.ok h w:=by
  rcases hhi with⟨rfl,rfl⟩|⟨v,p,rfl,rfl,hr⟩
  ·cases h1;exact⟨wab _,fun _=>rfl,fun _ e=>by cases e⟩
  ·dsimp only at h1
   obtain⟨n,hn,hc⟩:=qb h1;obtain⟨k,rfl⟩:=zy2 hr hn;split at hc
   ·rename_i hh;cases hc
    exact⟨by omega,(fun e=>by cases e),fun v e c=>by cases e;exact zo9 rfl ⟨hh.1,by omega⟩⟩
   ·cases hc
 have hL:l<=h/\(lo=none->l=0)/\∀v,lo=some v->∀c,(Instr.sliceBound v h c).run P w=.ok l w:=by
  rcases hlo with⟨rfl,rfl⟩|⟨v,p,rfl,rfl,hr⟩
  ·cases h3;exact⟨wa7 _,fun _=>rfl,fun _ e=>by cases e⟩
  ·dsimp only at h3
   obtain⟨n,hn,hc⟩:=qb h3;obtain⟨k,rfl⟩:=zy2 hr hn;split at hc
   ·rename_i hh;cases hc
    exact⟨by omega,(fun e=>by cases e),fun v e c=>by cases e;exact zo9 rfl ⟨hh.1,by omega⟩⟩
   ·cases hc
 refine⟨?_,hL.1,hH.1⟩;have p1:∀(n:Nat),(pure n:Sem Nat).run P w=.ok n w:=fun _=>rfl
 unfold Instr.sliceBounds;cases hi with
 |none=>
  obtain rfl:=hH.2.1 rfl;cases lo with
  |none=>obtain rfl:=hL.2.1 rfl;rfl
  |some v=>simp only[wav,p1,waw,hL.2.2 v rfl];rfl
 |some u=>
  cases lo with
  |none=>obtain rfl:=hL.2.1 rfl;simp only[wav,p1,waw,hH.2.2 u rfl];rfl
  |some v=>simp only[wav,p1,waw,hH.2.2 u rfl,hL.2.2 v rfl];rfl
theorem yj7{n size l h:Nat}{cs:List PV}{v:Value}{elem:TypeId}(hr:Rd w Fr β (.slc n cs) v)(hlen:cs.length=n* size)(hs:0<size)(hl:l<=h)(hh:h<=n):
 ∃a cap,v=.slice a n cap/\n<=cap/\Rd w Fr β (.slc (h - l) ((cs.take (h* size)).drop (l* size))) (.slice (if cap=l then a else a.map (·.add (l* size))) (h - l) (cap - l)):=by
 simp only[Rd]at hr;obtain⟨a,cap,rfl,hc,hv⟩:=hr;refine⟨a,cap,rfl,hc,?_⟩;simp only[Rd];refine⟨_,_,rfl,by omega,?_⟩;by_cases he:h=l
 ·subst he
  left;refine⟨?_,by omega⟩;rw[List.drop_eq_nil_iff,wa2];omega
 ·right
  have hn:0<n:=by omega
  rcases hv with⟨_,h0⟩|⟨g,o,vs,rfl,hrow,hrd,hone⟩
  ·omega
  ·rw[if_neg (by omega)]
   refine⟨g,o+l* size,(vs.take (h* size)).drop (l* size),?_,(hrow.take _).drop _,(hrd.take _).drop _,(hone.take _).drop _⟩;simp only[wau,Addr.add];split
   ·rename_i h0;rw[h0];rfl
   ·rfl
theorem zsf{a:Act}{sl:List (Nat×PV)}(h:∀i,Rd w Fr β (look sl i) (a.tmps.getD i undef)){x:Option Operand}{y:Option X}(hx:coO x=some y):(x.map a.eval=none/\y.map (·.ev sl)=none)\/∃v p,x.map a.eval=some v/\y.map (·.ev sl)=some p/\Rd w Fr β p v:=by
 cases x with
 |none=>simp only[coO,war]at hx;subst hx;exact .inl ⟨rfl,rfl⟩
 |some x=>
  obtain⟨y',hy,rfl⟩:=qm hx;exact .inr ⟨_,_,rfl,rfl,zbo h hy⟩
theorem z67{a:Act}{sl:List (Nat×PV)}(h:∀i,Rd w Fr β (look sl i) (a.tmps.getD i undef)):∀{l:List Operand}{ys:List X},l.mapM coX=some ys->Rds w Fr β (ys.map (·.ev sl)) (l.map a.eval)
 |[],ys,hx=>by simp at hx;subst hx;simp[Rds]
 |x::l,ys,hx=>by
  rw[wa8]at hx;obtain⟨y,hy,hx⟩:=qb hx;obtain⟨r,hr,hx⟩:=qb hx;cases hx;simp only[wax,Rds];exact⟨_,_,rfl,zbo h hy,z67 h hr⟩
theorem z09{t:TypeId}{zs:List PV}(h:zpx P t=some zs):∃z,(zeroValue t).run P w=.ok z w/\Rds w Fr β zs z.cells.toList/\Ones z.cells.toList:=by
 unfold zpx at h;obtain⟨z,hz,hc⟩:=qb h;obtain⟨i,hi,hz⟩:=qb hz;split at hc
 case isFalse=>cases hc
 rename_i hall;cases hc;refine⟨z,by simp[zeroValue,typeInfo,program,hi,hz,Sem.run],?_⟩;have:∀vs:List Value,Rds w Fr β (vs.map ofValue) vs:=by
  intro vs
  induction vs with
  |nil=>simp[Rds]
  |cons v vs ih=>simp only[wax,Rds];exact⟨v,vs,rfl,zy1 v,ih⟩
 exact⟨this _,fun v hv=>wa9.1 hall v hv⟩
theorem z1a{t:TypeId}{b:Bool}{n o:Nat}{vs:List Value}(ha:zdv P t=some b)(hn:szOf P t=some n)(hb:b=true)(hl:o+n<=vs.length):(part t vs.toArray o).run P w=.ok (.agg ((vs.drop o).take n).toArray) w:=by
 subst hb;simp only[part,wav,zvn ha,run_sizeOf hn,waw,if_true];simp only[pure,Sem.run,Result.ok.injEq,Value.agg.injEq,and_true];apply wba;simp[List.extract_eq_take_drop]
theorem zvo{t:TypeId}{o:Nat}{vs:List Value}{v:Value}(ha:zdv P t=some false)(hv:vs[o]?=some v):(part t vs.toArray o).run P w=.ok v w:=by
 simp only[part,wav,zvn ha,waw];simp[hv,pure,Sem.run]
end
end Nun
namespace Nun
open Go Go.RowKit
section
variable {P:Program} {w:World} {Fr:Nat→Nat} {β:List Nat}
theorem z68{place:Nat->Option (Nat×Nat)}{a:Act}{sl:List (Nat×PV)}(hs:∀i,Rd w Fr β (look sl i) (a.tmps.getD i undef)):∀{ps:List (Nat×Operand)}{qs:List (Nat×Nat×X)},coPs place ps=some qs->
 yqx w Fr β place (ps.map fun q=>(q.1,a.eval q.2)) (qs.map fun q=>(q.1,q.2.1,q.2.2.ev sl))
 |[],qs,h=>by simp only[coPs,war]at h;subst h;trivial
 |(i,x)::r,qs,h=>by
  simp only[coPs]at h;obtain⟨p,h1,h⟩:=qb h;obtain⟨y,h2,h⟩:=qb h;obtain⟨s,h3,rfl⟩:=qm h;exact⟨h1,zbo hs h2,z68 hs h3⟩
theorem yj8{t:TypeId}{ps:Array (Nat×Operand)}{qs:List (Nat×Nat×X)}{zs cs':List PV}(h:z64 P t ps.toList=some qs)(hz:zpx P t=some zs){a:Act}{sl:List (Nat×PV)}(hs:∀i,Rd w Fr β (look sl i) (a.tmps.getD i undef))
 (hf:zpv zs (qs.map fun q=>(q.1,q.2.1,q.2.2.ev sl))=some cs'):∃cells',(Instr.build t (ps.map fun(i,x)=>(i,a.eval x))).run P w=.ok (.agg cells') w/\Rds w Fr β cs' cells'.toList/\Ones cells'.toList:=by
 obtain⟨z,z1,z2,z3⟩:=z09 (w:=w) (Fr:=Fr) (β:=β) hz;have hz0:=hz;unfold zpx at hz0;obtain⟨z',hz1,_⟩:=qb hz0;obtain⟨it,hit,hzz⟩:=qb hz1;have ez:z'=z:=by
  have:(zeroValue t).run P w=.ok z' w:=by simp[zeroValue,typeInfo,program,hit,hzz,Sem.run]
  rw[this]at z1;cases z1;rfl
 subst ez;have hpl:(ps.map fun(i,x)=>(i,a.eval x)).toList=ps.toList.map fun q=>(q.1,a.eval q.2):=by simp
 have fin:∀place,coPs place ps.toList=some qs->(∀parts,Instr.fill place z'.cells parts=P.built t parts)->∃cells',(Instr.build t (ps.map fun(i,x)=>(i,a.eval x))).run P w=.ok (.agg cells') w/\Rds w Fr β cs' cells'.toList/\Ones cells'.toList:=fun place hq hb=>by
  obtain⟨cells',f1,f2,f3⟩:=z66 _ _ _ _ _ (z68 hs hq) z2 z3 hf;exact⟨cells',run_build w t _ _ (by rw[hpl,<-hb];exact f1),f2,f3⟩
 unfold z64 at h;split at h
 ·rename_i fs hu
  obtain⟨places,hp,h⟩:=qb h;refine fin _ h fun parts=>?_
  unfold Program.built;simp only[hit,hu,hzz,hp]
 ·rename_i k e hu
  obtain⟨ie,hie,h⟩:=qb h;refine fin _ h fun parts=>?_
  unfold Program.built;simp only[hit,hu,hzz,hie]
 ·cases h
theorem z3r{t:TypeId}(ht:P.underlying t=some .bool)(d:Nat)(u v:Bool):(Op.equalIn (d+1) t (.bool u) (.bool v)).run P w=.ok (u==v) w:=by
 simp only[Op.equalIn,wav,run_underlying ht,waw];rfl
theorem z9e:∀{k ks:List LK}{cs ds:List PV}{r:Bool},eqCs (k++ks) cs ds=some r->∃r1 r2,eqCs k (cs.take k.length) (ds.take k.length)=some r1/\eqCs ks (cs.drop k.length) (ds.drop k.length)=some r2/\r=(r1&&r2)/\k.length<=cs.length/\k.length<=ds.length
 |[],ks,cs,ds,r,h=>⟨true,r,by simp[eqCs],by simpa using h,by simp,by simp,by simp⟩
 |x::k,ks,cs,ds,r,h=>by
  have step:∀{t:Bool}{cs ds:List PV}{r:Bool},(eqCs (k++ks) cs ds).map (t&& ·)=some r->∃r1 r2,(eqCs k (cs.take k.length) (ds.take k.length)).map (t&& ·)=some r1/\eqCs ks (cs.drop k.length) (ds.drop k.length)=some r2/\r=(r1&&r2)/\k.length<=cs.length/\k.length<=ds.length:=fun h=>by
   obtain⟨q,h1,rfl⟩:=qm h;obtain⟨r1,r2,h2,h3,rfl,h4,h5⟩:=z9e h1;exact⟨_,r2,by rw[h2];rfl,h3,by rw[wbb],h4,h5⟩
  rw[wai]at h;unfold eqCs at h;split at h
  ·rename_i e;exact absurd e (by simp)
  ·rename_i e;cases e
   obtain⟨r1,r2,h1,h2,h3,h4,h5⟩:=step h;exact⟨r1,r2,by simpa[eqCs]using h1,by simpa using h2,h3,by simpa using h4,by simpa using h5⟩
  ·rename_i e;cases e
   obtain⟨r1,r2,h1,h2,h3,h4,h5⟩:=step h;exact⟨r1,r2,by simpa[eqCs]using h1,by simpa using h2,h3,by simpa using h4,by simpa using h5⟩
  ·rename_i e;cases e
   split at h
   ·rename_i hk
    obtain⟨r1,r2,h1,h2,h3,h4,h5⟩:=step h;exact⟨r1,r2,by simpa[eqCs,hk]using h1,by simpa using h2,h3,by simpa using h4,by simpa using h5⟩
   ·cases h
  ·cases h
def zy3(P:Program)(w:World)(Fr:Nat->Nat)(β:List Nat)(t:TypeId)(cs:List PV)(v:Value):Prop:=
 (zdv P t=some true/\∃vs,v=.agg vs.toArray/\Rds w Fr β cs vs)\/(zdv P t=some false/\∃p,cs=[p]/\Rd w Fr β p v)
theorem z9f{sh:TypeId->Option (List LK)}{eq:TypeId->Value->Value->Sem Bool}{xs ys:List Value}(hsz:∀t k,sh t=some k->zdv P t=some true\/(zdv P t=some false/\k.length=1))
 (H:∀t k cs ds u v r,sh t=some k->zy3 P w Fr β t cs u->zy3 P w Fr β t ds v->eqCs k cs ds=some r->(eq t u v).run P w=.ok r w):∀(fs:List Field)(o:Nat)(ks:List LK)(cs ds:List PV)(r:Bool),shFs P sh fs o=some ks->Rds w Fr β cs (xs.drop o)->Rds w Fr β ds (ys.drop o)->eqCs ks cs ds=some r->
 ((do
   let __s <-forIn fs ((none,()):Option Bool×Unit) fun f __s=>
    if f.name≠"_" then do
     let a <-part f.type xs.toArray f.offset
     let b <-part f.type ys.toArray f.offset
     let c <-eq f.type a b
     if(!c)=true then pure (ForInStep.done (some false,()))else pure (ForInStep.yield (none,()))
    else pure (ForInStep.yield (none,()))
   match __s.1 with
   |some r=>pure r
   |none=>pure true:Sem Bool)).run P w=.ok r w
 |[],o,ks,cs,ds,r,h,h1,h2,he=>by
  simp only[shFs,war]at h;subst h;have:r=true:=by
   unfold eqCs at he;split at he<;>simp_all
  subst this;rfl
 |f::fs,o,ks,cs,ds,r,h,h1,h2,he=>by
  simp only[shFs]at h;split at h
  case isFalse=>cases h
  rename_i hf;obtain⟨k,hk,h⟩:=qb h;split at h
  case isFalse=>cases h
  rename_i hs;obtain⟨hs,hne⟩:=hs;have hkp:0<k.length:=List.length_pos_iff.2 hne;obtain⟨ks',hks,rfl⟩:=qm h;obtain⟨r1,r2,e1,e2,rfl,l1,l2⟩:=z9e he;have part_of:∀{xs:List Value}{cs:List PV},Rds w Fr β cs (xs.drop o)->k.length<=cs.length->∃v,(part f.type xs.toArray f.offset).run P w=.ok v w/\zy3 P w Fr β f.type (cs.take k.length) v:=fun{xs cs} hx hl=>by
   have hxl:=hx.length;rw[wbc]at hxl;rcases hsz _ _ hk with ha|⟨ha,h1⟩
   ·refine⟨_,z1a ha hs rfl (by rw[hf.1];omega),.inl ⟨ha,_,rfl,?_⟩⟩
    rw[hf.1];exact hx.take _
   ·obtain⟨p,hp⟩:∃p,cs[0]?=some p:=⟨_,qe (by omega)⟩
    obtain⟨v,q1,q2⟩:=hx.get 0 p hp;rw[wal,wa6]at q1;refine⟨v,zvo ha (by rw[hf.1];exact q1),.inr ⟨ha,p,?_,q2⟩⟩;rw[h1];cases cs with
    |nil=>simp at hp
    |cons c cs=>simp at hp;subst hp;simp
  obtain⟨u,u1,u2⟩:=part_of h1 l1;obtain⟨v,v1,v2⟩:=part_of h2 l2;have hr:=H _ _ _ _ _ _ _ hk u2 v2 e1;have ih:=z9f hsz H fs (o+k.length) ks' _ _ r2 hks (by have:=h1.drop k.length;rwa[wbd]at this) (by have:=h2.drop k.length;rwa[wbd]at this) e2;rw[List.forIn_cons];simp only[wav,hf.2,ne_eq,not_false_eq_true,if_true,u1,v1,hr,waw];cases r1 with
  |false=>rfl
  |true=>
   simp only[wav]at ih;simp only[wbe,wbf,if_false,wbg,waw,wbh];exact ih
theorem yj9{d:Nat}{t:TypeId}{k:List LK}(h:shOf P d t=some k):zdv P t=some true\/(zdv P t=some false/\k.length=1):=by
 cases d with
 |zero=>cases h
 |succ d=>
  unfold shOf at h;unfold zdv;split at h
  ·rename_i e;rw[e];cases h;exact .inr ⟨rfl,rfl⟩
  ·rename_i e;rw[e];cases h;exact .inr ⟨rfl,rfl⟩
  ·rename_i e;rw[e];cases h;exact .inr ⟨rfl,rfl⟩
  ·rename_i e;rw[e];exact .inl rfl
  ·cases h
theorem zvp:∀(d d':Nat)(t:TypeId)(k:List LK)(cs ds:List PV)(u v:Value)(r:Bool),d<=d'->shOf P d t=some k->zy3 P w Fr β t cs u->zy3 P w Fr β t ds v->eqCs k cs ds=some r->(Op.equalIn d' t u v).run P w=.ok r w
 |0,d',t,k,cs,ds,u,v,r,_,h,_,_,_=>by cases h
 |d+1,0,t,k,cs,ds,u,v,r,hd,_,_,_,_=>by omega
 |d+1,d'+1,t,k,cs,ds,u,v,r,hd,h,hu,hv,he=>by
  have h0:=h;unfold shOf at h;have leaf:zdv P t=some false->∃p q,cs=[p]/\ds=[q]/\Rd w Fr β p u/\Rd w Fr β q v:=fun ha=>by
   rcases hu with⟨ha',_⟩|⟨_,p,rfl,hp⟩
   ·rw[ha]at ha';cases ha'
   rcases hv with⟨ha',_⟩|⟨_,q,rfl,hq⟩
   ·rw[ha]at ha';cases ha'
   exact⟨p,q,rfl,rfl,hp,hq⟩
  split at h
  ·rename_i e;cases h
   obtain⟨p,q,rfl,rfl,hp,hq⟩:=leaf (by unfold zdv;rw[e];rfl);unfold eqCs at he;split at he
   ·rename_i e2 _ _;cases e2
   ·rename_i e1 e2 e3;cases e1;cases e2;cases e3
    obtain⟨rfl,_⟩:=zbc hp;obtain⟨rfl,_⟩:=zbc hq;simp only[eqCs,wau,wbi,war]at he;subst he;simp only[Op.equalIn,wav,run_underlying e,waw];rfl
   ·rename_i e1 e2 e3;cases e1
   ·rename_i e1 e2 e3;cases e1
   ·cases he
  ·rename_i e;cases h
   obtain⟨p,q,rfl,rfl,hp,hq⟩:=leaf (by unfold zdv;rw[e];rfl);unfold eqCs at he;split at he
   ·rename_i e2 _ _;cases e2
   ·rename_i e1 e2 e3;cases e1
   ·rename_i e1 e2 e3;cases e1;cases e2;cases e3
    obtain⟨rfl,_⟩:=zbc hp;obtain⟨rfl,_⟩:=zbc hq;simp only[eqCs,wau,wbi,war]at he;subst he;simp only[Op.equalIn,wav,run_underlying e,waw];rfl
   ·rename_i e1 e2 e3;cases e1
   ·cases he
  ·rename_i e;cases h
   obtain⟨p,q,rfl,rfl,hp,hq⟩:=leaf (by unfold zdv;rw[e];rfl);unfold eqCs at he;split at he
   ·rename_i e2 _ _;cases e2
   ·rename_i e1 e2 e3;cases e1
   ·rename_i e1 e2 e3;cases e1
   ·rename_i e1 e2 e3;cases e1;cases e2;cases e3
    obtain⟨rfl,_⟩:=zbc hp;obtain⟨rfl,_⟩:=zbc hq;split at he
    ·rename_i hk
     obtain⟨rfl,rfl⟩:=hk;simp only[eqCs,wau,wbi,war]at he;subst he;simp only[Op.equalIn,wav,run_underlying e,waw,if_true];rfl
    ·cases he
   ·cases he
  ·rename_i fs e
   split at h
   ·cases h
   rename_i hst;have ha:zdv P t=some true:=by unfold zdv;rw[e];rfl
   have st:∀{v:Value}{cs:List PV},zy3 P w Fr β t cs v->∃vs,v=.agg vs.toArray/\Rds w Fr β cs vs:=fun h=>by
    rcases h with⟨_,h⟩|⟨h,_⟩
    ·exact h
    ·rw[ha]at h;cases h
   obtain⟨xs,rfl,hx⟩:=st hu;obtain⟨ys,rfl,hy⟩:=st hv;have:=z9f (P:=P) (w:=w) (Fr:=Fr) (β:=β) (sh:=shOf P d) (eq:=Op.equalIn d') (xs:=xs) (ys:=ys) (fun t k h=>yj9 h) (fun t k cs ds u v r h1 h2 h3 h4=>zvp d d' t k cs ds u v r (by omega) h1 h2 h3 h4) fs.toList 0 k cs ds r h (by simpa using hx) (by simpa using hy) he;rw[Array.forIn_toList]at this;have hp:∀w:World,(program:Sem Program).run P w=.ok P w:=fun _=>rfl
   simp only[Op.equalIn,wav,run_underlying e,waw,hp,hst,if_false,wbf];simp only[wav]at this;refine Eq.trans ?_ this;congr 1;funext a w';obtain⟨_|_,_⟩:=a<;>rfl
  ·cases h
theorem z3s{o:Oper}{c:COp}(hc:zcw P o.op=some c){a:Act}{sl:List (Nat×PV)}(hs:∀i,Rd w Fr β (look sl i) (a.tmps.getD i undef)){p:PV}(hp:zao c (·.ev sl)=some p):
 ∃v,(execOp a.eval o).run P w=.ok (.value v) w/\Rd w Fr β p v:=by
 obtain⟨dst,op,ty,pos,after,guard⟩:=o;have val:∀{s:Sem Value}{v:Value},s.run P w=.ok v w->(do pure (Next.value (<-s)):Sem Next).run P w=.ok (.value v) w:=fun h=>by
  simp only[wav,h,waw];rfl
 cases op with
 |move x=>
  obtain⟨y,hy,rfl⟩:=qm hc;cases hp;exact⟨_,rfl,zbo hs hy⟩
 |assign x=>
  obtain⟨y,hy,rfl⟩:=qm hc;cases hp;exact⟨_,rfl,zbo hs hy⟩
 |pick x y z=>
  obtain⟨x',hx,hc⟩:=qb hc;obtain⟨y',hy,hc⟩:=qb hc;obtain⟨z',hz,rfl⟩:=qm hc;simp only[zao]at hp;split at hp
  ·rename_i b hb
   cases hp;have h1:=zbo hs hx;rw[hb]at h1;obtain⟨h1,_⟩:=zbc h1;refine⟨if b then a.eval y else a.eval z,?_,?_⟩
   ·simp only[execOp,h1];rfl
   ·split
    ·exact zbo hs hy
    ·exact zbo hs hz
  ·cases hp
 |binOp op t x y yt=>
  obtain⟨x',hx,hc⟩:=qb hc;obtain⟨y',hy,hc⟩:=qb hc;have h1:=zbo hs hx;have h2:=zbo hs hy;have bin:c=.bin op x' y'->∃v,(execOp a.eval ⟨dst,.binOp op t x y yt,ty,pos,after,guard⟩).run P w=.ok (.value v) w/\Rd w Fr β p v:=fun e=>by
   subst e;simp only[zao]at hp;split at hp
   ·rename_i u v e1 e2
    rw[e1]at h1;rw[e2]at h2;obtain⟨h1,_⟩:=zbc h1;obtain⟨h2,_⟩:=zbc h2;obtain⟨r,hr,rfl⟩:=qm hp;obtain⟨k1,k2⟩:=z65 (P:=P) (w:=w) hr t x y;refine⟨r,val ?_,zdd k2⟩;rw[h1,h2];exact k1
   ·cases hp
  have beq:∀ne:Bool,P.underlying t=some .bool->op=(if ne then .neq else .eql)->c=.beq ne x' y'->∃v,(execOp a.eval ⟨dst,.binOp op t x y yt,ty,pos,after,guard⟩).run P w=.ok (.value v) w/\Rd w Fr β p v:=fun ne ht ho e=>by
   subst e;simp only[zao]at hp;split at hp
   ·rename_i u v e1 e2
    rw[e1]at h1;rw[e2]at h2;obtain⟨h1,_⟩:=zbc h1;obtain⟨h2,_⟩:=zbc h2;cases hp;refine⟨_,val ?_,zdd rfl⟩;rw[h1,h2];have hg:∀op,(eqGuard op t x y (.bool u) (.bool v)).run P w=.ok () w:=fun op=>by unfold eqGuard;split<;>rfl
    have hq:(Op.equal t (.bool u) (.bool v)).run P w=.ok (u==v) w:=by
     exact z3r ht 9999 u v
    subst ho;simp only[wav,hg,waw];cases ne
    ·show(do pure (.bool (<-Op.equal t (.bool u) (.bool v))):Sem Value).run P w=_
     simp only[wav,hq,waw];rfl
    ·show(do pure (.bool (!(<-Op.equal t (.bool u) (.bool v)))):Sem Value).run P w=_
     simp only[wav,hq,waw];rfl
   ·cases hp
  have eqs:∀(ne:Bool)(ks:List LK)(fs:Array Field),P.underlying t=some (.struct fs)->P.eqGuardType P.depth t=false->shOf P 50 t=some ks->op=(if ne then .neq else .eql)->c=.eqS ne ks x' y'->∃v,(execOp a.eval ⟨dst,.binOp op t x y yt,ty,pos,after,guard⟩).run P w=.ok (.value v) w/\Rd w Fr β p v:=fun ne ks fs ht hgt hk ho e=>by
   subst e;simp only[zao]at hp;split at hp
   case h_2=>cases hp
   rename_i cs ds e1 e2;rw[e1]at h1;rw[e2]at h2;simp only[Rd]at h1 h2;obtain⟨us,h1,hu,_⟩:=h1;obtain⟨vs,h2,hv,_⟩:=h2;obtain⟨r,hr,rfl⟩:=qm hp;refine⟨_,val ?_,zdd rfl⟩;rw[h1,h2];have hp':∀w:World,(program:Sem Program).run P w=.ok P w:=fun _=>rfl
   have hg:∀op,(eqGuard op t x y (.agg us.toArray) (.agg vs.toArray)).run P w=.ok () w:=fun op=>by
    cases op<;>first
     |rfl
     |(simp only[eqGuard,wbe,wbf,if_false,wav,hp',waw,hgt,wbj,if_true];rfl)
   have ha:zdv P t=some true:=by unfold zdv;rw[ht];rfl
   have hq:(Op.equal t (.agg us.toArray) (.agg vs.toArray)).run P w=.ok r w:=zvp 50 10000 t ks cs ds _ _ r (by omega) hk (.inl ⟨ha,us,rfl,hu⟩) (.inl ⟨ha,vs,rfl,hv⟩) hr;subst ho;simp only[wav,hg,waw];cases ne
   ·show(do pure (.bool (<-Op.equal t (.agg us.toArray) (.agg vs.toArray))):Sem Value).run P w=_
    simp only[wav,hq,waw];rfl
   ·show(do pure (.bool (!(<-Op.equal t (.agg us.toArray) (.agg vs.toArray)))):Sem Value).run P w=_
    simp only[wav,hq,waw];rfl
  split at hc
  ·cases hc;exact bin rfl
  ·cases hc;exact bin rfl
  ·rename_i ht
   split at hc
   ·cases hc;exact beq false ht rfl rfl
   ·cases hc;exact beq true ht rfl rfl
   ·cases hc
  ·rename_i fs ht
   split at hc
   case isFalse=>cases hc
   rename_i hg;split at hc
   ·obtain⟨ks,hk,rfl⟩:=qm hc
    exact eqs false ks fs ht hg hk rfl rfl
   ·obtain⟨ks,hk,rfl⟩:=qm hc
    exact eqs true ks fs ht hg hk rfl rfl
   ·cases hc
  ·cases hc
 |nilCheck x=>
  obtain⟨y,hy,rfl⟩:=qm hc;have h1:=zbo hs hy;simp only[zao]at hp;split at hp
  ·rename_i b o e;cases hp
   rw[e]at h1;have h2:=h1;simp only[Rd]at h2;obtain⟨g,_,h3⟩:=h2;exact⟨a.eval x,by simp only[execOp,h3];rfl,h1⟩
  ·rename_i cs e;cases hp
   rw[e]at h1;have h2:=h1;simp only[Rd]at h2;obtain⟨g,o,vs,h3,_⟩:=h2;exact⟨a.eval x,by simp only[execOp,h3];rfl,h1⟩
  ·rename_i f cs e;cases hp
   rw[e]at h1;have h2:=h1;simp only[Rd]at h2;obtain⟨vs,h3,_⟩:=h2;exact⟨a.eval x,by simp only[execOp,h3];rfl,h1⟩
  ·rename_i b e;cases hp
   rw[e]at h1;have h2:=h1;simp only[Rd]at h2;obtain⟨g,_,h3⟩:=h2;exact⟨a.eval x,by simp only[execOp,h3];rfl,h1⟩
  ·cases hp
 |unOp op t x=>
  obtain⟨y,hy,rfl⟩:=qm hc;have h1:=zbo hs hy;simp only[zao]at hp;split at hp
  ·rename_i u e1
   rw[e1]at h1;obtain⟨h1,_⟩:=zbc h1;obtain⟨r,hr,rfl⟩:=qm hp;obtain⟨k1,k2⟩:=ybx (P:=P) (w:=w) hr;exact⟨r,val (by rw[h1];exact k1),zdd k2⟩
  ·cases hp
 |convert src dst x=>
  obtain⟨y,hy,hc⟩:=qb hc;have h1:=zbo hs hy;split at hc
  ·rename_i k0 k hsrc hdst
   cases hc;simp only[zao]at hp;split at hp
   ·rename_i k' n e
    cases hp;rw[e]at h1;obtain⟨h1,_⟩:=zbc h1;refine⟨_,val ?_,zdd rfl⟩;rw[h1];simp only[convert,wav,run_underlying hsrc,run_underlying hdst,waw];rfl
   ·cases hp
  ·rename_i hsrc hdst
   cases hc;simp only[zao]at hp;split at hp
   ·rename_i s e
    cases hp;rw[e]at h1;obtain⟨h1,_⟩:=zbc h1;refine⟨_,val ?_,zdd rfl⟩;rw[h1];simp only[convert,wav,run_underlying hsrc,run_underlying hdst,waw];rfl
   ·cases hp
  ·cases hc
 |build t ps=>
  obtain⟨zs,hz,hc⟩:=qb hc;obtain⟨qs,hq,rfl⟩:=qm hc;obtain⟨cs',hf,rfl⟩:=qm hp;obtain⟨cells',f1,f2,f3⟩:=yj8 (w:=w) (Fr:=Fr) (β:=β) hq hz hs hf;exact⟨.agg cells',val f1,by simp only[Rd];exact⟨cells'.toList,by simp,f2,f3⟩⟩
 |fieldAddr s x f=>
  obtain⟨fs,h0,hc⟩:=qb hc;obtain⟨fl,h1,hc⟩:=qb hc;obtain⟨n,h2,hc⟩:=qb hc;split at hc
  ·cases hc
  ·rename_i hn
   obtain⟨y,hy,rfl⟩:=qm hc;have hx:=zbo hs hy;have hu:P.underlying s=some (.struct fs):=by
    unfold fieldsOf at h0;split at h0
    ·rename_i fs' e;cases h0;exact e
    ·cases h0
   have run:∀g o,a.eval x=.pointer (some ⟨g,o,none⟩)->(Instr.fieldAt s (a.eval x) f).run P w=.ok (.pointer (some ⟨g,o+fl.offset,none⟩)) w:=fun g o e=>by
    rw[e];simp only[Instr.fieldAt,wav,run_underlying hu,waw,h1,Instr.sureAddr,fieldPlace,run_sizeOf h2,wbg,if_neg hn];simp only[Addr.add];split
    ·rename_i h0;rw[h0];rfl
    ·rfl
   simp only[zao]at hp;split at hp
   ·rename_i b o e;cases hp
    rw[e]at hx;simp only[Rd]at hx;obtain⟨g,hg,hx⟩:=hx;exact⟨_,val (run g o hx),by simp only[Rd];exact⟨g,hg,rfl⟩⟩
   ·rename_i cs e;cases hp
    rw[e]at hx;simp only[Rd]at hx;obtain⟨g,o,vs,hx,r1,r2,r3⟩:=hx;exact⟨_,val (run g o hx),by simp only[Rd];exact⟨g,o+fl.offset,vs.drop fl.offset,rfl,r1.drop _,r2.drop _,r3.drop _⟩⟩
   ·cases hp
 |field s x f=>
  obtain⟨fs,h0,hc⟩:=qb hc;obtain⟨fl,h1,hc⟩:=qb hc;obtain⟨n,h2,hc⟩:=qb hc;obtain⟨g,h3,hc⟩:=qb hc;obtain⟨y,hy,rfl⟩:=qm hc;have hx:=zbo hs hy;have hu:P.underlying s=some (.struct fs):=by
   unfold fieldsOf at h0;split at h0
   ·rename_i fs' e;cases h0;exact e
   ·cases h0
  cases g with
  |true=>
   simp only[zao]at hp;split at hp
   ·rename_i cs e
    split at hp
    ·rename_i hle;cases hp
     rw[e]at hx;simp only[Rd]at hx;obtain⟨vs,hx,r1,r2⟩:=hx;have hl:=r1.length;refine⟨_,val ?_,by simp only[Rd];exact⟨(vs.drop fl.offset).take n,rfl,(r1.drop _).take _,(r2.drop _).take _⟩⟩;rw[hx];simp only[Instr.field,wav,run_underlying hu,waw,h1,asAgg];have:=z1a (w:=w) h3 h2 rfl (vs:=vs) (o:=fl.offset) (by omega);simp only[show(pure vs.toArray:Sem (Array Value)).run P w=.ok vs.toArray w from rfl,waw];exact this
    ·cases hp
   ·cases hp
  |false=>
   simp only[zao]at hp;split at hp
   ·rename_i cs e
    rw[e]at hx;simp only[Rd]at hx;obtain⟨vs,hx,r1,r2⟩:=hx;obtain⟨v,hv,hr⟩:=r1.get _ _ hp;refine⟨v,val ?_,hr⟩;rw[hx];simp only[Instr.field,wav,run_underlying hu,waw,h1,asAgg];have:=zvo (w:=w) h3 hv;simp only[show(pure vs.toArray:Sem (Array Value)).run P w=.ok vs.toArray w from rfl,waw];exact this
   ·cases hp
 |indexAddr t x i=>
  simp only[zcw]at hc;split at hc
  ·rename_i e he
   obtain⟨n,h2,hc⟩:=qb hc;obtain⟨x',hx',hc⟩:=qb hc;obtain⟨i',hi',rfl⟩:=qm hc;have hx:=zbo hs hx';have hi:=zbo hs hi';simp only[zao]at hp;split at hp
   ·rename_i m cs k j e1 e2
    split at hp
    ·rename_i hb;cases hp
     rw[e1]at hx;rw[e2]at hi;obtain⟨hi,_⟩:=zbc hi;simp only[Rd]at hx;obtain⟨b,cap,hx,_,hv⟩:=hx;rcases hv with⟨_,h0⟩|⟨g,o,vs,rfl,r1,r2,r3⟩
     ·subst h0;omega
     ·refine⟨.pointer (some ⟨g,o+j.toNat* n,none⟩),val ?_,by simp only[Rd];exact⟨g,o+j.toNat* n,vs.drop (j.toNat* n),rfl,r1.drop _,r2.drop _,r3.drop _⟩⟩
      rw[hx,hi];simp only[Instr.indexAt,wav,zfq,run_underlying he,waw,wbg,if_pos hb,run_sizeOf h2];simp only[Addr.add];split
      ·rename_i h0;rw[h0];rfl
      ·rfl
    ·cases hp
   ·rename_i b o m k j e1 e2
    split at hp
    ·rename_i hb;cases hp
     rw[e1]at hx;rw[e2]at hi;obtain⟨hi,_⟩:=zbc hi;simp only[Rd]at hx;obtain⟨g,a0,cap,hg,hx,_,hv⟩:=hx;have ha:a0=some ⟨g,o,none⟩:=hv.resolve_left (by omega);subst ha;refine⟨.pointer (some ⟨g,o+j.toNat* n,none⟩),val ?_,by simp only[Rd];exact⟨g,hg,rfl⟩⟩;rw[hx,hi];simp only[Instr.indexAt,wav,zfq,run_underlying he,waw,wbg,if_pos hb,run_sizeOf h2];simp only[Addr.add];split
     ·rename_i h0;rw[h0];rfl
     ·rfl
    ·cases hp
   ·cases hp
  ·rename_i len e he
   obtain⟨n,h2,hc⟩:=qb hc;obtain⟨x',hx',hc⟩:=qb hc;obtain⟨i',hi',rfl⟩:=qm hc;have hx:=zbo hs hx';have hi:=zbo hs hi';simp only[zao]at hp;split at hp
   ·rename_i b o k j e1 e2
    split at hp
    ·rename_i hb;cases hp
     rw[e1]at hx;rw[e2]at hi;obtain⟨hi,_⟩:=zbc hi;simp only[Rd]at hx;obtain⟨g,hg,hx⟩:=hx;refine⟨.pointer (some ⟨g,o+j.toNat* n,none⟩),val ?_,by simp only[Rd];exact⟨g,hg,rfl⟩⟩;rw[hx,hi];simp only[Instr.indexAt,wav,zfq,run_underlying he,Instr.sureAddr,waw,wbg,if_pos hb,run_sizeOf h2];simp only[Addr.add];split
     ·rename_i h0;rw[h0];rfl
     ·rfl
    ·cases hp
   ·cases hp
  ·cases hc
 |index t x i=>
  simp only[zcw]at hc;split at hc
  ·rename_i he
   obtain⟨x',hx',hc⟩:=qb hc;obtain⟨i',hi',rfl⟩:=qm hc;have hx:=zbo hs hx';have hi:=zbo hs hi';simp only[zao]at hp;split at hp
   ·rename_i s k j e1 e2
    split at hp
    ·rename_i hb
     obtain⟨ch,h1,rfl⟩:=qm hp;rw[e1]at hx;rw[e2]at hi;obtain⟨hi,_⟩:=zbc hi;obtain⟨hx,_⟩:=zbc hx;refine⟨_,val ?_,zdd rfl⟩;rw[hx,hi];simp only[Instr.index,wav,zfq,run_underlying he,waw,if_pos hb,h1];rfl
    ·cases hp
   ·cases hp
  ·rename_i len e he
   obtain⟨n,h2,hc⟩:=qb hc;obtain⟨g,h3,hc⟩:=qb hc;obtain⟨x',hx',hc⟩:=qb hc;obtain⟨i',hi',rfl⟩:=qm hc;have hx:=zbo hs hx';have hi:=zbo hs hi';simp only[zao]at hp;split at hp
   ·rename_i cs k j e1 e2
    split at hp
    ·rename_i hb
     obtain⟨hb1,hb2,hb3⟩:=hb;rw[e1]at hx;rw[e2]at hi;obtain⟨hi,_⟩:=zbc hi;simp only[Rd]at hx;obtain⟨vs,hx,r1,r2⟩:=hx;have hl:=r1.length;cases g with
     |true=>
      cases hp;refine⟨_,val ?_,by simp only[Rd];exact⟨(vs.drop (j.toNat* n)).take n,rfl,(r1.drop _).take _,(r2.drop _).take _⟩⟩;rw[hx,hi];simp only[Instr.index,wav,zfq,run_underlying he,waw,if_pos (And.intro hb1 hb2),run_sizeOf h2];exact z1a (w:=w) h3 h2 rfl (vs:=vs) (o:=j.toNat* n) (by omega)
     |false=>
      obtain⟨v,hv,hr⟩:=r1.get _ _ hp;refine⟨v,val ?_,hr⟩;rw[hx,hi];simp only[Instr.index,wav,zfq,run_underlying he,waw,if_pos (And.intro hb1 hb2),run_sizeOf h2];exact zvo (w:=w) h3 hv
    ·cases hp
   ·cases hp
  ·cases hc
 |slice t x lo hi mx=>
  cases mx with
  |some _=>cases hc
  |none=>
   simp only[zcw]at hc;split at hc
   ·rename_i he
    obtain⟨x',hx',hc⟩:=qb hc;obtain⟨lo',hlo',hc⟩:=qb hc;obtain⟨hi',hhi',rfl⟩:=qm hc;have hx:=zbo hs hx';have hlo:=zsf hs hlo';have hhi:=zsf hs hhi';simp only[zao]at hp;split at hp
    ·rename_i s e1
     obtain⟨⟨l,h⟩,hb,rfl⟩:=qm hp;rw[e1]at hx;obtain⟨hx,_⟩:=zbc hx;obtain⟨k1,k2,k3⟩:=zeu (P:=P) (isS:=false) (wab _) hlo hhi hb;refine⟨.string (s.extract l h),val ?_,zdd rfl⟩;rw[hx];simp only[Instr.sliceAt,Instr.slice,wav,run_underlying he,waw];rw[if_neg (by simp)];simp only[wav];rw[k1];rfl
    ·cases hp
   ·rename_i el he
    obtain⟨n,h2,hc⟩:=qb hc;obtain⟨x',hx',hc⟩:=qb hc;obtain⟨lo',hlo',hc⟩:=qb hc;obtain⟨hi',hhi',rfl⟩:=qm hc;have hx:=zbo hs hx';have hlo:=zsf hs hlo';have hhi:=zsf hs hhi';simp only[zao]at hp;split at hp
    ·rename_i m cs e1
     split at hp
     ·rename_i hsz
      obtain⟨⟨l,h⟩,hb,rfl⟩:=qm hp;rw[e1]at hx;have hmc:∃b cap,a.eval x=.slice b m cap/\m<=cap:=by
       simp only[Rd]at hx;obtain⟨b,cap,h1,h3,_⟩:=hx;exact⟨b,cap,h1,h3⟩
      obtain⟨_,cap0,_,hcap0⟩:=hmc;obtain⟨_,k2,k3⟩:=zeu (P:=P) (isS:=true) hcap0 hlo hhi hb;obtain⟨b,cap,hx1,hcap,hr⟩:=yj7 (elem:=el) hx hsz.1 hsz.2 k2 k3;obtain⟨k1,_,_⟩:=zeu (P:=P) (isS:=true) hcap hlo hhi hb;refine⟨_,val ?_,hr⟩;rw[hx1];simp only[Instr.sliceAt,Instr.slice,wav,run_underlying he,waw];rw[show(none:Option Operand).map a.eval=none from rfl,k1];simp only[waw,run_sizeOf h2];rfl
     ·cases hp
    ·rename_i b o m e1
     obtain⟨⟨l,h⟩,hb,rfl⟩:=qm hp;rw[e1]at hx;simp only[Rd]at hx;obtain⟨g,a0,cap,hg,hx,hcap,hv⟩:=hx;obtain⟨k1,k2,k3⟩:=zeu (P:=P) (isS:=true) hcap hlo hhi hb;refine⟨.slice (if cap=l then a0 else a0.map (·.add (l* n))) (h - l) (cap - l),val ?_,?_⟩
     ·rw[hx]
      simp only[Instr.sliceAt,Instr.slice,wav,run_underlying he,waw];rw[show(none:Option Operand).map a.eval=none from rfl,k1];simp only[waw,run_sizeOf h2];rfl
     ·simp only[Rd]
      refine⟨g,_,_,hg,rfl,by omega,?_⟩;by_cases h0:h - l=0
      ·exact .inl h0
      ·right
       rw[hv.resolve_left (by omega),if_neg (by omega)];simp only[wau,Addr.add];split
       ·rename_i h9;rw[h9];rfl
       ·rfl
    ·cases hp
   ·rename_i len el he
    obtain⟨n,h2,hc⟩:=qb hc;obtain⟨x',hx',hc⟩:=qb hc;obtain⟨lo',hlo',hc⟩:=qb hc;obtain⟨hi',hhi',rfl⟩:=qm hc;have hx:=zbo hs hx';have hlo:=zsf hs hlo';have hhi:=zsf hs hhi';simp only[zao]at hp;split at hp
    ·rename_i b o e1
     obtain⟨⟨l,h⟩,hb,rfl⟩:=qm hp;rw[e1]at hx;simp only[Rd]at hx;obtain⟨g,hg,hx⟩:=hx;obtain⟨k1,k2,k3⟩:=zeu (P:=P) (isS:=false) (wab _) hlo hhi hb;refine⟨.slice (some (if len=l then⟨g,o,none⟩else(⟨g,o,none⟩:Addr).add (l* n))) (h - l) (len - l),val ?_,?_⟩
     ·rw[hx]
      simp only[Instr.sliceAt,Instr.sureAddr,wav,wbg,run_underlying he,waw];rw[show(none:Option Operand).map a.eval=none from rfl,k1];simp only[waw,run_sizeOf h2]
     ·simp only[Rd]
      refine⟨g,_,_,hg,rfl,by omega,?_⟩;by_cases h0:h - l=0
      ·exact .inl h0
      ·right
       rw[if_neg (by omega)];simp only[Addr.add];split
       ·rename_i h9;rw[h9];rfl
       ·rfl
    ·cases hp
   ·cases hc
 |extract x i=>
  obtain⟨y,hy,rfl⟩:=qm hc;have hx:=zbo hs hy;simp only[zao]at hp;split at hp
  ·rename_i vs e
   rw[e]at hx;simp only[Rd]at hx;obtain⟨us,hx,r1⟩:=hx;obtain⟨v,hv,hr⟩:=r1.get _ _ hp;refine⟨v,val ?_,hr⟩;rw[hx];simp only[Instr.extract];simp only[List.getElem?_toArray,hv];rfl
  ·cases hp
 |makeFunc fn first caps=>
  cases fn with
  |func f=>
   simp only[zcw]at hc;split at hc
   ·rename_i h0
    obtain⟨ys,hy,rfl⟩:=qm hc;cases hp;have hr:=z67 hs hy;refine⟨.func (.func f) #[] (caps.map a.eval),val ?_,by simp only[Rd];exact⟨caps.toList.map a.eval,by apply congrArg;apply wba;simp,hr⟩⟩;have:first=#[]:=by simpa using h0
    subst this;simp[Instr.makeFunc]
   ·cases hc
  |_=>cases hc
 |call cl=>
  obtain⟨callee,args,ats⟩:=cl;have two:∀{x y:Operand},args.toList=[x,y]->args=#[x,y]:=fun h=>by
   apply wba;rw[h]
  cases callee with
  |value f=>cases hc
  |invoke r m=>cases hc
  |builtin b=>
   cases b with
   |len=>
    simp only[zcw]at hc;split at hc
    ·rename_i x t e1 e2
     have ea:args=#[x]:=by apply wba;rw[e1]
     have et:ats=#[t]:=by apply wba;rw[e2]
     subst ea;subst et;split at hc
     ·rename_i ht
      obtain⟨y,hy,rfl⟩:=qm hc;have hx:=zbo hs hy;simp only[zao]at hp;split at hp
      ·rename_i s e;cases hp
       rw[e]at hx;obtain⟨hx,_⟩:=zbc hx;refine⟨_,?_,zdd rfl⟩;have:(Builtin.len_ #[t] ty #[a.eval x]).run P w=.ok (.int .i64 s.size) w:=by
        rw[hx];simp[Builtin.len_,run_underlying ht,goInt]
       have e9:Array.map a.eval #[x]=#[a.eval x]:=by simp
       show(do let d <-resolve a.eval ⟨.builtin .len,#[x],#[t]⟩ ty;invoke d.target d.args:Sem Next).run P w=_;simp only[resolve,wav,wbg,waw,invoke,builtin,e9,this]
      ·cases hp
     ·rename_i el ht
      obtain⟨y,hy,rfl⟩:=qm hc;have hx:=zbo hs hy;simp only[zao]at hp;split at hp
      ·rename_i n cs e;cases hp
       rw[e]at hx;simp only[Rd]at hx;obtain⟨b,cap,hx,_⟩:=hx;refine⟨_,?_,zdd rfl⟩;have:(Builtin.len_ #[t] ty #[a.eval x]).run P w=.ok (.int .i64 n) w:=by
        rw[hx];simp[Builtin.len_,run_underlying ht,goInt]
       have e9:Array.map a.eval #[x]=#[a.eval x]:=by simp
       show(do let d <-resolve a.eval ⟨.builtin .len,#[x],#[t]⟩ ty;invoke d.target d.args:Sem Next).run P w=_;simp only[resolve,wav,wbg,waw,invoke,builtin,e9,this]
      ·rename_i b o n e;cases hp
       rw[e]at hx;simp only[Rd]at hx;obtain⟨g,a0,cap,_,hx,_⟩:=hx;refine⟨_,?_,zdd rfl⟩;have:(Builtin.len_ #[t] ty #[a.eval x]).run P w=.ok (.int .i64 n) w:=by
        rw[hx];simp[Builtin.len_,run_underlying ht,goInt]
       have e9:Array.map a.eval #[x]=#[a.eval x]:=by simp
       show(do let d <-resolve a.eval ⟨.builtin .len,#[x],#[t]⟩ ty;invoke d.target d.args:Sem Next).run P w=_;simp only[resolve,wav,wbg,waw,invoke,builtin,e9,this]
      ·rename_i e;cases hp
       rw[e]at hx;obtain⟨hx,_⟩:=zbc hx;refine⟨_,?_,zdd rfl⟩;have:(Builtin.len_ #[t] ty #[a.eval x]).run P w=.ok (.int .i64 0) w:=by
        rw[hx];simp[Builtin.len_,run_underlying ht,goInt]
       have e9:Array.map a.eval #[x]=#[a.eval x]:=by simp
       show(do let d <-resolve a.eval ⟨.builtin .len,#[x],#[t]⟩ ty;invoke d.target d.args:Sem Next).run P w=_;simp only[resolve,wav,wbg,waw,invoke,builtin,e9,this]
      ·cases hp
     ·cases hc
    ·cases hc
   |max=>
    simp only[zcw]at hc;split at hc
    ·rename_i x y e1
     have ea:=two e1;subst ea;obtain⟨x',hx',hc⟩:=qb hc;obtain⟨y',hy',rfl⟩:=qm hc;have hx:=zbo hs hx';have hy:=zbo hs hy';simp only[zao]at hp;split at hp
     ·rename_i k m k' n e2 e3
      split at hp
      ·rename_i hk;cases hp;subst hk
       rw[e2]at hx;rw[e3]at hy;obtain⟨hx,_⟩:=zbc hx;obtain⟨hy,_⟩:=zbc hy;refine⟨.int k (if n>m then n else m),?_,zdd rfl⟩;have:(Builtin.max_ ats ty #[a.eval x,a.eval y]).run P w=.ok (.int k (if n>m then n else m)) w:=by
        rw[hx,hy];rfl
       have e9:Array.map a.eval #[x,y]=#[a.eval x,a.eval y]:=by simp
       show(do let d <-resolve a.eval ⟨.builtin .max,#[x,y],ats⟩ ty;invoke d.target d.args:Sem Next).run P w=_;simp only[resolve,wav,wbg,waw,invoke,builtin,e9,this]
      ·cases hp
     ·cases hp
    ·cases hc
   |min=>
    simp only[zcw]at hc;split at hc
    ·rename_i x y e1
     have ea:=two e1;subst ea;obtain⟨x',hx',hc⟩:=qb hc;obtain⟨y',hy',rfl⟩:=qm hc;have hx:=zbo hs hx';have hy:=zbo hs hy';simp only[zao]at hp;split at hp
     ·rename_i k m k' n e2 e3
      split at hp
      ·rename_i hk;cases hp;subst hk
       rw[e2]at hx;rw[e3]at hy;obtain⟨hx,_⟩:=zbc hx;obtain⟨hy,_⟩:=zbc hy;refine⟨.int k (if n<m then n else m),?_,zdd rfl⟩;have:(Builtin.min_ ats ty #[a.eval x,a.eval y]).run P w=.ok (.int k (if n<m then n else m)) w:=by
        rw[hx,hy];rfl
       have e9:Array.map a.eval #[x,y]=#[a.eval x,a.eval y]:=by simp
       show(do let d <-resolve a.eval ⟨.builtin .min,#[x,y],ats⟩ ty;invoke d.target d.args:Sem Next).run P w=_;simp only[resolve,wav,wbg,waw,invoke,builtin,e9,this]
      ·cases hp
     ·cases hp
    ·cases hc
   |_=>cases hc
 |_=>cases hc
end
end Nun
namespace Nun
open Go Go.RowKit
structure S0 where
 base:Nat
 M:Nat→Prop
 w0:World
 F0:Nat→Nat
 nt:Nat
 sw:World
 sF:Nat→Nat
 sβ:List Nat
 T:List Deferred
def Rl(P:Program)(S:S0)(st:St)(a:Act)(w:World):Prop:=∃Fr β,Rel P S.T S.base S.M S.w0 S.F0 S.nt st a w Fr β/\Le S.sw S.sF S.sβ w Fr β
def yby(P:Program):Op->Option COp
 | .alloc elem=>(zpx P elem).map (.alloc elem)
 | .box elem x=>(szOf P elem).bind fun n=>(coX x).map fun x=>.box elem n x
 | .buildSlice t len ps=>match P.underlying t with
   |some (.slice e)=>(szOf P e).bind fun n=>if 0<n/\len* n<=16777216 then(zpx P e).bind fun zs=>if zs.length=n then(coPs (fun i=>some (i* n,n)) ps.toList).map fun qs=>.mksl (e==U8 P) len n ((List.range (len* n)).map fun i=>zs.getD (i % n) .unk) qs else none else none
   |_=>none
 | .convert src dst x=>(coX x).bind fun x=>match P.underlying src,P.underlying dst with
   |some (.slice e),some .string=>match P.underlying e with|some (.int .u8)=>some (.b2s x)|_=>none
   |_,_=>none
 | .load t x=>(zdv P t).bind fun g=>(szOf P t).bind fun n=>if g=true\/n=1 then(coX x).map fun x=>.load g n x else none
 | .store t x y=>(szOf P t).bind fun n=>(coX x).bind fun x=>(coX y).bind fun y=>if 0<n then some (.store n x y)else none
 | .call {callee:=.builtin .append,args,argTypes}=>match args.toList,argTypes.toList with
   |[x,y],[t,t']=>(match P.underlying t,P.underlying t' with
    |some (.slice e),some .string=>(P.info? e).bind fun i=>if e=U8 P/\i.size=1/\i.bytes<=32768/\(i.zero.map fun z=>z.cells.size)=some i.size then(coX x).bind fun x=>(coX y).map fun y=>.appendS x y else none
    |some (.slice e),some (.slice _)=>(P.info? e).bind fun i=>if 0<i.size/\i.bytes<=32768/\(i.zero.map fun z=>z.cells.size)=some i.size then(coX x).bind fun x=>(coX y).map fun y=>(.append (e==U8 P) i.size x y)else none
    |_,_=>none)
   |_,_=>none
 |_=>none
section
variable {P:Program} {w w':World} {Fr Fr':Nat→Nat} {β β':List Nat} {T:List Deferred} {base nt:Nat} {M:Nat→Prop} {w0:World} {F0:Nat→Nat} {st st':St} {a a':Act}
theorem zmy{p:PV}(h:zby p=true):p=.flat (.slice none 0 0):=by
 unfold zby at h;split at h
 ·rfl
 ·cases h
theorem yqy{p:PV}(h:zby p=false):wk p=p:=by simp[wk,h]
theorem yd6:Rd w Fr β (.slc 0 []) (.slice none 0 0):=by simp only[Rd];exact⟨none,0,rfl,wab _,.inl ⟨trivial,trivial⟩⟩
theorem z1b:OwnV P w Fr (.slc 0 []) (.slice none 0 0):=⟨0,[],rfl,.inl rfl⟩
theorem yka{p:PV}{v:Value}(h:Rd w Fr β p v):Rd w Fr β (wk p) v:=by
 unfold wk;split
 ·rename_i e
  rw[zmy e]at h;obtain⟨rfl,_⟩:=zbc h;exact yd6
 ·exact h
theorem Rds.weak:∀(ps:List PV)(vs:List Value),Rds w Fr β ps vs->Rds w Fr β (zff ps) vs
 |[],_,h=>by simpa only[zff]using h
 |p::ps,vs,h=>by
  simp only[zff,Rds]at h⊢;obtain⟨v,r,h1,h2,h3⟩:=h;exact⟨v,r,h1,yka h2,Rds.weak ps r h3⟩
theorem Rd.weak(p:PV)(v:Value)(h:Rd w Fr β p v):Rd w Fr β p.weak v:=by
 cases p with
 |flat a=>exact yka h
 |agg cs=>
  simp only[PV.weak,Rd]at h⊢;obtain⟨vs,h1,hs,ho⟩:=h;exact⟨vs,h1,Rds.weak cs vs hs,ho⟩
 |_=>exact h
theorem zqt:∀l:List PV,l.map wk=zff l
 |[]=>rfl
 |p::r=>by rw[wax,zqt r];rfl
theorem zvq:∀ps:List PV,(zff ps).length=ps.length
 |[]=>by simp only[zff]
 |p::r=>by simp only[zff,waf,zvq r]
theorem ztj{b:Nat}:∀{ps:List PV}{o:Nat}{L:Loc},L∈za5 b o ps->∃j,L=.cell b (o+j)/\ps[j]?=some (.flat (.slice none 0 0))
 |[],o,L,h=>by simp[za5]at h
 |p::r,o,L,h=>by
  have tl:L∈za5 b (o+1) r->∃j,L=.cell b (o+j)/\(p::r)[j]?=some (.flat (.slice none 0 0)):=fun h=>by
   obtain⟨j,h1,h2⟩:=ztj h;exact⟨j+1,by rw[h1];congr 1;omega,by simpa using h2⟩
  unfold za5 at h;split at h
  ·rename_i e
   rcases waq.1 h with rfl|h
   ·exact⟨0,rfl,by rw[zmy e];rfl⟩
   ·exact tl h
  ·exact tl h
theorem yd7:∀{pre mid post:List PV}{vs:List Value},Rds w Fr β (pre++mid++post) vs->Rds w Fr β (pre++mid.map wk++post) vs
 |p::pre,mid,post,vs,h=>by
  simp only[wai,Rds]at h⊢;obtain⟨v,r,h1,h2,h3⟩:=h;exact⟨v,r,h1,h2,yd7 h3⟩
 |[],[],post,vs,h=>h
 |[],p::mid,post,vs,h=>by
  simp only[wa5,wax,wai,Rds]at h⊢;obtain⟨v,r,h1,h2,h3⟩:=h;exact⟨v,r,h1,yka h2,yd7 (pre:=[]) h3⟩
theorem yd8{p:PV}(hp:zby p=false):∀{pre mid post:List PV}{j:Nat},(pre++mid++post)[j]?=some p->(pre++mid.map wk++post)[j]?=some p
 |q::pre,mid,post,0,h=>by simpa using h
 |q::pre,mid,post,j+1,h=>by
  simp only[wai,wbk]at h⊢;exact yd8 hp h
 |[],[],post,j,h=>h
 |[],q::mid,post,0,h=>by
  simp only[wa5,wai,wbl,war,wax]at h⊢;rw[h];exact yqy hp
 |[],q::mid,post,j+1,h=>by
  simp only[wa5,wai,wbk,wax]at h⊢;exact yd8 hp (pre:=[]) h
theorem OwnV.slc{p:PV}{v:Value}(h:OwnV P w Fr p v):zby p=false:=by
 obtain⟨n,cs,rfl,_⟩:=h;rfl
theorem Rel.wkCells(R:Rel P T base M w0 F0 nt st a w Fr β){b e:Nat}{pre mid post:List PV}(hb:st.bx[b]?=some (e,pre++mid++post)):
 Rel P T base M w0 F0 nt {st with bx:=st.bx.set b (e,pre++mid.map wk++post),ow:=za5 b pre.length mid++st.ow} a w Fr β:=by
 have hlt:b<st.bx.length:=(qg hb).1;obtain⟨g,hg,hF,hat⟩:=R.bx.2 b _ hb;have hat':zvm P w Fr β (e,pre++mid.map wk++post) g:=by
  rcases hat with⟨vs,e',h1,h2,h3,h4⟩|⟨f,k,s,live,snap,h0,h1⟩
  ·exact .inl ⟨vs,e',h1,yd7 h2,h3,h4⟩
  ·have hm:mid.map wk=mid:=by
    have:mid.map wk=mid.map id:=wbm fun p hp=>by
     have hp':p∈pre++mid++post:=by simp[hp]
     dsimp only at h0;rw[h0,wbn]at hp';rw[hp'];rfl
    rw[this,List.map_id]
   exact .inr ⟨f,k,s,live,snap,by dsimp only at h0⊢;rw[hm];exact h0,h1⟩
 refine R.next (Le.refl _ _ _) R.sl R.nt rfl ⟨by rw[wbo];exact R.bx.1,fun b' cs' hcs'=>?_⟩ R.nd (fun g h=>.inl h) some (fun L hL=>?_) (fun L _ L' _ hne L0 h h'=>hne (by cases h;cases h';rfl)) (fun L _ L' _ _ h=>by cases h) R.al (fun _ _ _ _=>⟨rfl,rfl⟩) rfl rfl rfl
 ·by_cases he:b'=b
  ·subst he
   rw[wbp hlt]at hcs';cases hcs';exact⟨g,hg,hF,hat'⟩
  ·rw[wbq (was he)]at hcs'
   exact R.bx.2 b' cs' hcs'
 ·rcases wak.1 hL with h|h
  ·obtain⟨j,rfl,hj⟩:=ztj h
   have hjl:=(qg hj).1;have hin:(pre++mid++post)[pre.length+j]?=some (.flat (.slice none 0 0)):=by
    rw[wa4,wbr (by omega),waa (by omega)];rw[wbs];exact hj
   have hval:w.cell? ⟨g,pre.length+j,none⟩=some (.slice none 0 0):=by
    rcases hat with⟨vs,e',h1,h2,h3,h4⟩|⟨f,k,s,live,snap,h0,h1⟩
    ·obtain⟨v,v1,v2⟩:=h2.get _ _ hin
     obtain⟨rfl,_⟩:=zbc v2;rw[cell_of_row _ _ _ _ _ _ h1];simpa using v1
    ·dsimp only at h0
     have:=wao hin;rw[h0,wbn]at this;cases this
   refine⟨.slice none 0 0,.slc 0 [],by simp only[zay,hg,wat];exact hval,?_,z1b,fun k hk=>by cases hk⟩;simp only[pvAt];rw[wbp hlt];simp only[wat];rw[wa4,wbr (by omega),waa (by rw[wbt];omega),wbs,wbu,hj];rfl
  ·obtain⟨u,q,k1,k2,k3⟩:=R.own L h
   refine⟨u,q,k1,?_,k3,fun g hg=>.inr ⟨L,h,rfl,u,k1,hg⟩⟩;cases L with
   |slot i=>exact k2
   |cell b' j=>
    simp only[pvAt]at k2⊢;by_cases he:b'=b
    ·subst he
     rw[hb]at k2;rw[wbp hlt];simp only[wat]at k2⊢;exact yd8 k3.slc k2
    ·rw[wbq (was he)];exact k2
theorem zvr:∀(l:List (Nat×PV))(i:Nat),look (l.map fun q=>(q.1,wk q.2)) i=wk (look l i)
 |[],i=>rfl
 |(j,v)::r,i=>by
  simp only[wax,look];split
  ·rfl
  ·exact zvr r i
theorem Rel.nrm(R:Rel P T base M w0 F0 nt st a w Fr β)(live:List Nat):Rel P T base M w0 F0 nt (st.nrm live) a w Fr β:=by
 refine R.next (Le.refl _ _ _) (fun i=>by simp only[St.nrm,zvr];exact yka (R.sl i)) R.nt rfl R.bx R.nd (fun g h=>.inl h) some (fun L hL=>?_) (fun L _ L' _ hne L0 h h'=>hne (by cases h;cases h';rfl)) (fun L _ L' _ _ h=>by cases h) R.al (fun _ _ _ _=>⟨rfl,rfl⟩) rfl rfl rfl;rcases wak.1 hL with h|h
 ·obtain⟨i,hi,rfl⟩:=wbv.1 h
  have hn:=zmy (wbw.1 hi).2;have h2:=R.sl i;rw[hn]at h2;obtain⟨h2,_⟩:=zbc h2;exact⟨.slice none 0 0,.slc 0 [],by simp only[zay,h2],by simp only[pvAt,St.nrm,zvr,hn];rfl,z1b,fun k hk=>by cases hk⟩
 ·obtain⟨u,q,k1,k2,k3⟩:=R.own L h
  refine⟨u,q,k1,?_,k3,fun g hg=>.inr ⟨L,h,rfl,u,k1,hg⟩⟩;cases L with
  |slot i=>
   simp only[pvAt,war,St.nrm,zvr]at k2⊢;rw[k2];exact yqy k3.slc
  |cell b' j=>exact k2
theorem Rl.nrm{S:S0}(h:Rl P S st a w)(live:List Nat):Rl P S (st.nrm live) a w:=by
 obtain⟨Fr,β,R,hl⟩:=h;exact⟨Fr,β,R.nrm live,hl⟩
def upd(Fr:Nat->Nat)(g n:Nat):Nat->Nat:=fun k=>if k=g then n else Fr k
theorem zsg{Fr:Nat->Nat}{g n k:Nat}(h:k<g):upd Fr g n k=Fr k:=if_neg (Nat.ne_of_lt h)
theorem zil(w:World)(o:Obj):Below w.heap.size w (w.alloc o):=(Below.refl _ w).alloc (wab _) o
theorem yqz(w:World)(vs:List Value)(e:TypeId)(β:List Nat)(Fr:Nat->Nat):Row (w.alloc (.cells vs.toArray e)) (upd Fr w.heap.size vs.length) w.heap.size 0 vs:=fun j v hj=>by
 have hl:=(qg hj).1;refine⟨by rw[upd,if_pos rfl];omega,?_⟩;rw[wbx,cell_of_row _ _ _ _ _ _ (heap_alloc_new w _)];simpa using hj
theorem Rel.lt(R:Rel P T base M w0 F0 nt st a w Fr β):∀g∈β,g<w.heap.size:=fun g hg=>R.bx.lt hg
theorem Rel.addBox(R:Rel P T base M w0 F0 nt st a w Fr β)(hb:Below w.heap.size w w')(hf:∀g,g<w.heap.size->Fr' g=Fr g){l:Nat}{cs:Nat×List PV}(hl1:w.heap.size<=l)(hF:Fr' l=0)(hat:Le w Fr β w' Fr' (β++[l])->zvm P w' Fr' (β++[l]) cs l):
 Rel P T base M w0 F0 nt {st with bx:=st.bx++[cs]} a w' Fr' (β++[l])/\Le w Fr β w' Fr' (β++[l]):=by
 have hβ:=R.lt;have hl:Le w Fr β w' Fr' (β++[l]):=⟨hb.size,fun b h=>by rw[hf b h];exact wab _,fun b o h _=>hb.cell (p:=⟨b,o,none⟩) h,fun i g h=>by rw[waa (qg h).1];exact h,fun g r h=>⟨r,(hb.block g (wan.1 h).1).trans h⟩⟩;have hbl:st.bx.length=β.length:=R.bx.1;have hval:∀L v,zay a w β L=some v->zay a w' (β++[l]) L=some v:=fun L v hv=>by
  cases L with
  |slot i=>exact hv
  |cell b j=>
   simp only[zay]at hv⊢;obtain⟨g,h1,h2⟩:=qb hv;rw[waa (qg h1).1,h1];exact(hb.cell (p:=⟨g,j,none⟩) (hβ g (wao h1))).trans h2
 have hpv:∀L p,pvAt st L=some p->pvAt {st with bx:=st.bx++[cs]} L=some p:=fun L p hp=>by
  cases L with
  |slot i=>exact hp
  |cell b j=>
   simp only[pvAt]at hp⊢;obtain⟨g,h1,h2⟩:=qb hp;rw[waa (qg h1).1,h1];exact h2
 refine⟨R.next hl (fun i=>(R.sl i).mono hl) R.nt rfl ⟨by simp[hbl],fun b cs' hcs'=>?_⟩ ?_ ?_ some (fun L hL=>?_) (fun L _ L' _ hne L0 h h'=>hne (by cases h;cases h';rfl)) (fun L _ L' _ _ h=>by cases h) (fun q hq=>hval _ _ (R.al q hq)) (fun b h _ _=>⟨hb.block b h,hf b h⟩) hb.os hb.tape hb.output,hl⟩
 ·have hcs:(st.bx++[cs])[b]?=some cs':=hcs'
  by_cases h:b<st.bx.length
  ·rw[waa h]at hcs
   obtain⟨g,h1,h2,h3⟩:=R.bx.2 b cs' hcs;have hg:=hβ g (wao h1);exact⟨g,by rw[waa (by omega)];exact h1,(hf g hg).trans h2,h3.kept hl (hb.block g hg)⟩
  ·have hlt:=(qg hcs).1
   simp at hlt;obtain rfl:b=st.bx.length:=by omega
   rw[wbr (wab _)]at hcs;simp at hcs;subst hcs;exact⟨l,by rw[hbl,wbr (wab _)];simp,hF,hat hl⟩
 ·exact List.nodup_append.2 ⟨R.nd,by simp,fun x hx y hy=>by simp at hy;have:=hβ x hx;omega⟩
 ·intro g hg
  rcases wak.1 hg with h|h
  ·exact .inl h
  ·simp at h;exact .inr (by omega)
 ·obtain⟨u,q,k1,k2,k3⟩:=R.own L hL
  exact⟨u,q,hval L u k1,hpv L q k2,k3.kept fun g hg=>⟨hb.block g (k3.lt hg),hf g (k3.lt hg)⟩,fun g hg=>.inr ⟨L,hL,rfl,u,k1,hg⟩⟩
theorem Rel.newBox(R:Rel P T base M w0 F0 nt st a w Fr β){d:Nat}(hd:d<nt){zs:List PV}{vs:List Value}{e:TypeId}(hz:Rds w Fr β zs vs)(ho:Ones vs):
 let w':=w.alloc (.cells vs.toArray e)
 Rel P T base M w0 F0 nt {(st.put d (.ptr st.bx.length 0))with bx:=st.bx++[(e,zs)]} (a.put (some d) (.pointer (some ⟨w.heap.size,0,none⟩))) w' (upd Fr w.heap.size 0) (β++[w.heap.size])/\Le w Fr β w' (upd Fr w.heap.size 0) (β++[w.heap.size]):=by
 intro w';have hb:Below w.heap.size w w':=zil w _;obtain⟨R1,hl⟩:=R.addBox (Fr':=upd Fr w.heap.size 0) (cs:=(e,zs)) hb (fun g h=>zsg h) (wab _) (by simp[upd]) fun hl=>.inl ⟨vs,e,heap_alloc_new w _,hz.mono hl,ho,rfl⟩
 have hbl:st.bx.length=β.length:=R.bx.1;refine⟨?_,hl⟩;have:=R1.put hd (p:=.ptr st.bx.length 0) (v:=.pointer (some ⟨w.heap.size,0,none⟩)) (by
  simp only[Rd];exact⟨w.heap.size,by rw[hbl,wbr (wab _)];simp,rfl⟩)
 exact this
theorem ykb{D D':Nat}(h:mark D=mark D'):D=D':=by
 have:=congrArg Deferred.target h;simp only[mark]at this;injection this
theorem zvs{T:List Deferred}:∀{Ds Es:List Nat},Ds.map mark++T=Es.map mark++T->Ds=Es
 |[],[],_=>rfl
 |[],e::Es,h=>by have:=congrArg List.length h;simp at this;omega
 |d::Ds,[],h=>by have:=congrArg List.length h;simp at this;omega
 |d::Ds,e::Es,h=>by
  simp only[wax,wai,wby]at h;rw[ykb h.1,zvs h.2]
theorem Rel.addMark(R:Rel P T base M w0 F0 nt st a w Fr β){D:Nat}(h1:base<=D)(h2:w.heap[D]?=some (.deferred (some [])))(h3:∀Ds:List Nat,a.defers=Ds.map mark++T->D∉Ds):Rel P T base M w0 F0 nt st {a with defers:=mark D::a.defers} w Fr β:=by
 have hv:∀L,zay {a with defers:=mark D::a.defers} w β L=zay a w β L:=fun L=>by cases L<;>rfl
 refine⟨R.sl,R.nt,?_,R.bx,R.nd,fun L hL=>by rw[hv];exact R.own L hL,fun L hL L' hL' hne v v' g=>by rw[hv,hv];exact R.sep L hL L' hL' hne v v' g,fun L hL v g=>by rw[hv];exact R.out L hL v g,fun q hq=>by rw[hv];exact R.al q hq,fun g hg=>R.may g (hg.imp id fun⟨L,hL,v,k1,k2⟩=>⟨L,hL,v,by rw[<-hv];exact k1,k2⟩),R.old,R.ge,R.os,R.tape,R.output⟩;obtain⟨Ds,k1,k2,k3⟩:=R.df;refine⟨D::Ds,List.nodup_cons.2 ⟨h3 Ds k2,k1⟩,by rw[k2];rfl,fun D' hD'=>?_⟩;rcases waq.1 hD' with rfl|h
 ·exact⟨h1,h2⟩
 ·exact k3 D' h
theorem zy4{α:Type}{l m:List α}{o n j:Nat}(hm:m.length=n)(hl:o+n<=l.length)(hj:¬(o<=j/\j<o+n)):(l.take o++m++l.drop (o+n))[j]?=l[j]?:=by
 have h1:(l.take o).length=o:=by rw[wa2];omega
 by_cases h:j<o
 ·rw[wa4,waa (by omega),wbz h]
 ·have h2:(l.take o++m).length=o+n:=by rw[wb0,h1,hm]
  rw[wbr (by omega),h2,wal];congr 1;omega
theorem z3t{α:Type}{l m:List α}{o n j:Nat}(hm:m.length=n)(hl:o+n<=l.length)(hj:j<n):(l.take o++m++l.drop (o+n))[o+j]?=m[j]?:=by
 have h1:(l.take o).length=o:=by rw[wa2];omega
 rw[wa4,wbr (by omega),h1,waa (by omega)];congr 1;omega
theorem zy5{α:Type}{l m:List α}{o n:Nat}(hm:m.length=n)(hl:o+n<=l.length):(l.take o++m++l.drop (o+n)).length=l.length:=by
 rw[wb0,wb0,wa2,wbc,hm];omega
theorem zy6{b o n b' j:Nat}(h:ze0 b o n (.cell b' j)=false):b'≠b\/¬(o<=j/\j<o+n):=by
 simp only[ze0]at h;by_cases hb:b'=b
 ·right;rintro⟨h1,h2⟩;simp[hb,h1,h2]at h
 ·exact .inl hb
theorem Rel.store(R:Rel P T base M w0 F0 nt st a w Fr β){b o n g:Nat}{cs ps:List PV}{vs us:List Value}{e:TypeId}(hb:st.bx[b]?=some (e,cs))(hg:β[b]?=some g)(hh:w.heap[g]?=some (.cells vs.toArray e (0,0)))(hv:Rds w Fr β cs vs)(hvo:Ones vs)
 (hp:Rds w Fr β ps us) (hpo:Ones us) (hn:us.length=n) (hn1:0<n) (hle:o+n<=cs.length) (K:Option Nat)
 (hK:∀s,K=some s->∃v p,us=[v]/\ps=[p]/\(Loc.slot s∈st.ow/\a.tmps.getD s undef=v/\look st.sl s=p))
 (st':St) (h1:st'.sl=st.sl) (h2:st'.bx=st.bx.set b (e,cs.take o++ps++cs.drop (o+n)))
 (h3:∀L∈st'.ow,(L∈st.ow/\ze0 b o n L=false/\∀s,K=some s->L≠.slot s)\/(L=.cell b o/\(K.isSome\/(us=[.slice none 0 0]/\ps=[.slc 0 []]))))
 (h4:∀q∈st'.al,q∈st.al/\ze0 b o n q.2=false):
 let w':=w.setRow g (vs.take o++us++vs.drop (o+n)).toArray
 Rel P T base M w0 F0 nt st' a w' Fr β/\Le w Fr β w' Fr β:=by
 intro w';have hvl:vs.length=cs.length:=hv.length;have hpl:ps.length=n:=by rw[<-hp.length];exact hn
 have hoth:∀k,k≠g->w'.heap[k]?=w.heap[k]?:=fun k hk=>setRow_other w g k _ hk
 have hrow:w'.heap[g]?=some (.cells (vs.take o++us++vs.drop (o+n)).toArray e (0,0)):=setRow_heap w g _ _ e (0,0) hh;have hgm:g∈β:=wao hg;obtain⟨g0,b1,hF,_⟩:=R.bx.2 b _ hb;rw[hg]at b1;cases b1;have hl:Le w Fr β w' Fr β:=⟨by simp[w',World.setRow],fun _ _=>wab _,fun k j hk hj=>by
  have hne:k≠g:=fun e=>by rw[e,hF]at hj;omega
  simp only[World.cell?,hoth k hne],fun _ _ h=>h,fun k r hk=>⟨r,(hoth k fun e=>by rw[e,hh]at hk;cases hk).trans hk⟩⟩
 have hcell:∀b' j g',β[b']?=some g'->(b'≠b\/¬(o<=j/\j<o+n))->w'.cell? ⟨g',j,none⟩=w.cell? ⟨g',j,none⟩:=fun b' j g' hg' hj=>by
  by_cases he:g'=g
  ·subst he
   have hbb:b'=b:=by
    have l1:=(qg hg').1;have l2:=(qg hg).1;exact(List.getElem?_inj l1 R.nd).1 (hg'.trans hg.symm)
   have hj':¬(o<=j/\j<o+n):=hj.resolve_left (fun h=>h hbb);rw[cell_of_row _ _ _ _ _ _ hrow,cell_of_row _ _ _ _ _ _ hh];have:=zy4 (l:=vs) (m:=us) hn (by omega) hj';simpa using this
  ·simp only[World.cell?,hoth g' he]
 have hval:∀L,ze0 b o n L=false->zay a w' β L=zay a w β L:=fun L hL=>by
  cases L with
  |slot i=>rfl
  |cell b' j=>
   simp only[zay];cases hb':β[b']? with
   |none=>rfl
   |some g'=>simp only[wat,hcell b' j g' hb' (zy6 hL)]
 have hpv:∀L,ze0 b o n L=false->pvAt st' L=pvAt st L:=fun L hL=>by
  cases L with
  |slot i=>simp only[pvAt,h1]
  |cell b' j=>
   simp only[pvAt,h2];by_cases he:b'=b
   ·subst he
    have hj:=(zy6 hL).resolve_left (fun h=>h rfl);rw[wbp (qg hb).1,hb];simp only[wat];exact zy4 hpl hle hj
   ·rw[wbq (was he)]
 have hkept:∀L∈st.ow,∀v p,zay a w β L=some v->OwnV P w Fr p v->OwnV P w' Fr p v:=fun L hL v p hv ho=>ho.kept fun k hk=>⟨hoth k fun e=>R.out L hL v k hv hk (e▸hgm),rfl⟩
 have hcell0:∀L,ze0 b o n L=false->L≠.cell b o:=fun L hL e=>by subst e;simp[ze0]at hL;omega
 refine⟨R.next hl (fun i=>by rw[h1];exact(R.sl i).mono hl) R.nt rfl ⟨by rw[h2,wbo];exact R.bx.1,fun b' cs' hcs'=>?_⟩ R.nd (fun g h=>.inl h) (fun L=>match K with|some s=>some (if L=.cell b o then .slot s else L)|none=>if L=.cell b o then none else some L) (fun L hL=>?_) (fun L hL L' hL' hne L0 h h'=>?_) (fun L hL L' hL' hne h h'=>?_) (fun q hq=>?_) (fun k hk hM _=>?_) rfl rfl rfl,hl⟩
 ·rw[h2]at hcs'
  by_cases he:b'=b
  ·subst he
   rw[wbp (qg hb).1]at hcs';cases hcs';exact⟨g,hg,hF,.inl ⟨_,e,hrow,(((hv.take o).append hp).append (hv.drop (o+n))).mono hl,((hvo.take o).append hpo).append (hvo.drop (o+n)),rfl⟩⟩
  ·rw[wbq (was he)]at hcs'
   obtain⟨g',k1,k5,k2⟩:=R.bx.2 b' cs' hcs';have hne:g'≠g:=fun e=>by
    subst e;exact he ((List.getElem?_inj (qg k1).1 R.nd).1 (k1.trans hg.symm))
   exact⟨g',k1,k5,k2.kept hl (hoth g' hne)⟩
 ·rcases h3 L hL with⟨m1,m2,m3⟩|⟨rfl,m2⟩
  ·obtain⟨v,p,k1,k2,k3⟩:=R.own L m1
   have hnc:=hcell0 L m2;refine⟨v,p,by rw[hval L m2];exact k1,by rw[hpv L m2];exact k2,hkept L m1 v p k1 k3,fun k hk=>.inr ⟨L,m1,?_,v,k1,hk⟩⟩;cases K<;>simp[hnc]
  ·have hv0:∀u,us=[u]->zay a w' β (.cell b o)=some u:=fun u hu=>by
    subst hu;have hn':n=1:=hn.symm;simp only[zay,hg,wat];rw[cell_of_row _ _ _ _ _ _ hrow];have:=z3t (l:=vs) (m:=[u]) (o:=o) (n:=n) (j:=0) hn (by omega) hn1;simpa using this
   have hp0:∀q,ps=[q]->pvAt st' (.cell b o)=some q:=fun q hq=>by
    subst hq;simp only[pvAt,h2];rw[wbp (qg hb).1];simp only[wat];have:=z3t (l:=cs) (m:=[q]) (o:=o) (n:=n) (j:=0) hpl hle hn1;rw[wa6]at this;simpa using this
   cases K with
   |none=>
    rcases m2 with h|⟨hu,hq⟩
    ·cases h
    ·exact⟨_,_,hv0 _ hu,hp0 _ hq,⟨0,[],rfl,.inl rfl⟩,fun k hk=>by cases hk⟩
   |some s=>
    obtain⟨v,p,hu,hq,hs,ha,hlk⟩:=hK s rfl;obtain⟨v',p',k1,k2,k3⟩:=R.own _ hs;simp only[zay,ha,war]at k1;simp only[pvAt,hlk,war]at k2;subst k1;subst k2;have hva:zay a w β (.slot s)=some v:=by simp only[zay,ha]
    exact⟨v,p,hv0 _ hu,hp0 _ hq,hkept _ hs v p hva k3,fun k hk=>.inr ⟨.slot s,hs,by simp,v,hva,hk⟩⟩
 ·have old:∀K',K'∈st'.ow->K'≠.cell b o->K'∈st.ow/\∀s,K=some s->K'≠.slot s:=fun K' hK' hne'=>by
   rcases h3 K' hK' with⟨m1,_,m3⟩|⟨e,_⟩
   ·exact⟨m1,m3⟩
   ·exact absurd e hne'
  cases K with
  |none=>
   dsimp only at h h';split at h
   ·cases h
   ·split at h'
    ·cases h'
    ·cases h;cases h';exact hne rfl
  |some s=>
   simp only[war]at h h';split at h
   ·rename_i e
    split at h'
    ·rename_i e';exact hne (e.trans e'.symm)
    ·rename_i e';exact(old L' hL' e').2 s rfl (h'.trans h.symm)
   ·rename_i e
    split at h'
    ·exact(old L hL e).2 s rfl (h.trans h'.symm)
    ·exact hne (h.trans h'.symm)
 ·cases K with
  |none=>
   dsimp only at h h';split at h
   ·rename_i e
    split at h'
    ·rename_i e';exact absurd (e.trans e'.symm) hne
    ·cases h'
   ·cases h
  |some s=>cases h
 ·obtain⟨q1,q2⟩:=h4 q hq
  rw[hval _ q2];exact R.al q q1
 ·exact⟨hoth k fun e=>hM (e▸hgm),rfl⟩
end
end Nun
namespace Nun
open Go Go.RowKit
section
variable {P:Program} {w w':World} {Fr Fr':Nat→Nat} {β β':List Nat} {T:List Deferred} {base nt:Nat} {M:Nat→Prop} {w0:World} {F0:Nat→Nat} {st st':St} {a a':Act}
theorem zy7(g o j:Nat):(⟨g,o,none⟩:Addr).add j=⟨g,o+j,none⟩:=by
 unfold Addr.add;split
 ·rename_i h;subst h;rfl
 ·rfl
theorem ypu{m size:Nat}{ds:List PV}{v:Value}{tx e':TypeId}(hk:P.underlying tx=some (.slice e'))(h:Rd w Fr β (.slc m ds) v)(hl:ds.length=m* size):∃news,Src P size tx v m news w/\Rds w Fr β ds news/\Ones news:=by
 simp only[Rd]at h;obtain⟨b,cap,rfl,hc,hv⟩:=h;rcases hv with⟨h0,h00⟩|⟨g,o,vs,rfl,r1,r2,r3⟩
 ·subst h0;subst h00
  refine⟨[],?_,by simp[Rds],fun u hu=>by cases hu⟩;cases b with
  |none=>exact Src.ofNil w hk cap
  |some b=>exact Src.ofSlice w hk b 0 cap [] (by simp) (fun j u hj=>by cases hj) (fun u hu=>by cases hu)
 ·exact⟨vs,Src.ofSlice w hk _ m cap vs (by rw[r2.length,hl]) (fun j u hj=>by rw[zy7];exact(r1 j u hj).2) r3,r2,r3⟩
theorem zuk(t tx ty e e2:TypeId)(i:TypeInfo)(ht:P.underlying t=some (.slice e))(hi:P.info? e=some i)(g sLen sCap:Nat)(cur:Array Value)(hg:w.heap[g]?=some (.cells cur e2 (0,0)))
 (x:Value) (m:Nat) (news:List Value) (hs:Src P i.size tx x m news w) (hroom:sLen+m<=sCap) (hfit:sLen* i.size+news.length<=cur.size):
 (Builtin.append_ #[t,tx] ty #[.slice (some ⟨g,0,none⟩) sLen sCap,x]).run P w=.ok (.slice (some ⟨g,0,none⟩) (sLen+m) sCap) (w.setRow g (cur.toList.take (sLen* i.size)++news++cur.toList.drop (sLen* i.size+news.length)).toArray):=by
 have hst:=run_storeCells_at P g (sLen* i.size) e2 news 0 cur w hg (by simpa using hfit) hs.one;simp only[wa6]at hst;rcases hs.kind with⟨e',hk⟩|hk<;>simp[Builtin.append_,run_underlying ht,run_underlying hk,Go.sizeOf,typeInfo,hi,hs.len,hroom,hs.cells,Addr.add_lit,hst]
theorem zim(t tx ty e:TypeId)(i:TypeInfo)(ht:P.underlying t=some (.slice e))(hi:P.info? e=some i)(x:Value)(news:List Value)(hs:Src P i.size tx x 0 news w):
 (Builtin.append_ #[t,tx] ty #[.slice none 0 0,x]).run P w=.ok (.slice none 0 0) w:=by
 rcases hs.kind with⟨e',hk⟩|hk<;>simp[Builtin.append_,run_underlying ht,run_underlying hk,Go.sizeOf,typeInfo,hi,hs.len,hs.cells]
theorem zpy:∀{cs ds:List PV},noU8 cs=true->noU8 ds=true->noU8 (cs++ds)=true
 |[],ds,_,h=>h
 |p::cs,ds,h,h'=>by
  simp only[noU8,wb1,wai]at h⊢;exact⟨h.1,zpy h.2 h'⟩
theorem yq0:∀{cs:List PV},zj1 cs=true->noU8 cs=true->cs=[]
 |[],_,_=>rfl
 |p::cs,h,h'=>by
  simp only[noU8,zj1,wb1,wb2]at h h';rw[h'.1]at h;cases h.1
structure Appended (P:Program) (w:World) (Fr:Nat→Nat) (β:List Nat) (v:Value) (p:PV) (v':Value) (w':World) (Fr':Nat→Nat):Prop where
 le:Le w Fr β w' Fr' β
 rd:Rd w' Fr' β p v'
 own:OwnV P w' Fr' p v'
 blk:∀ k,v'.ownBlock=some k→v.ownBlock=some k∨w.heap.size≤k
 old:∀ k,k<w.heap.size→v.ownBlock≠some k→w'.heap[k]? =w.heap[k]? ∧Fr' k=Fr k
 os:w'.os=w.os
 tape:w'.tape=w.tape
 output:w'.output=w.output
theorem zoc{t tx ty e:TypeId}{i:TypeInfo}{z:Value}(ht:P.underlying t=some (.slice e))(hi:P.info? e=some i)(hz:i.zero=some z)(hzs:z.cells.size=i.size)(hsz:0<i.size)(hby:i.bytes<=32768)
 {n m:Nat} {cs ds:List PV} {v x:Value} (hv:Rd w Fr β (.slc n cs) v) (ho:OwnV P w Fr (.slc n cs) v) {news:List Value} (hsrc:Src P i.size tx x m news w) (hnr:Rds w Fr β ds news) (hno:Ones news) (hc:cs.length=n* i.size) (hd:ds.length=m* i.size) (h8:(e=U8 P/\zj1 cs=true)\/i.size≠1\/(noU8 cs=true/\noU8 ds=true)) (hb:n+m<=bound):
 ∃v' w' Fr',(Builtin.append_ #[t,tx] ty #[v,x]).run P w=.ok v' w'/\Appended P w Fr β v (.slc (n+m) (cs++ds)) v' w' Fr':=by
 have hnl:news.length=m* i.size:=by rw[hnr.length,hd]
 have hbd:n+m<=4294967296:=hb;obtain⟨olds,hol,hold,hat⟩:∃olds,Rds w Fr β cs olds/\Ones olds/\∀g o cap,v=.slice (some ⟨g,o,none⟩) n cap->Row w Fr g o olds:=by
  simp only[Rd]at hv;obtain⟨b,cap,rfl,_,hv⟩:=hv;rcases hv with⟨h0,_⟩|⟨g,o,vs,hbe,r1,r2,r3⟩
  ·subst h0;exact⟨[],by simp[Rds],(fun u hu=>by cases hu),fun g o cap _ j u hj=>by cases hj⟩
  ·exact⟨vs,r2,r3,fun g' o' cap' he=>by cases he;cases hbe;exact r1⟩
 have hoL:olds.length=n* i.size:=by rw[hol.length,hc]
 have grow:∀(bs:Option Addr)(cap:Nat),v=.slice bs n cap->(Builtin.firstCells i.size n (.slice bs n cap)).run P w.drew=.ok olds.toArray w.drew->cap<n+m->∃v' w' Fr',(Builtin.append_ #[t,tx] ty #[v,x]).run P w=.ok v' w'/\Appended P w Fr β v (.slc (n+m) (cs++ds)) v' w' Fr':=by
  intro bs cap hve hf hlt;subst hve;have h48:Builtin.nextslicecap (n+m) cap* i.bytes<=281474976710656:=by
   have h1:=nextslicecap_le (need:=n+m) (old:=cap) hlt
   calc Builtin.nextslicecap (n+m) cap* i.bytes<=(2* (n+m))* 32768:=wb3 h1 hby
    _<=_:=by omega
  have hrun:=run_append_grow_src (P:=P) w t tx ty e i z ht hi hz bs n cap olds hf x m news hsrc hlt (by omega) h48;obtain⟨C,hC⟩:∃C,(olds++news).toArray++Builtin.zeroCells z.cells (grownCap w (n+m) cap e - (n+m))=C:=⟨_,rfl⟩;rw[hC]at hrun;have hge:=grownCap_ge w (n+m) cap e;have hmx:grownCap w (n+m) cap e<=maxLen:=grownCap_le_maxLen w _ _ _ (by unfold maxLen;omega);have hbel:Below w.heap.size w (w.drew.alloc (.cells C e)):=(show Below w.heap.size w w.drew from⟨rfl,rfl,rfl,wab _,fun _ _=>rfl⟩).alloc (wab _) _;have hrow:(w.drew.alloc (.cells C e)).heap[w.heap.size]?=some (.cells C e (0,0)):=heap_alloc_new w.drew _;have hCl:C.toList=(olds++news)++(Builtin.zeroCells z.cells (grownCap w (n+m) cap e - (n+m))).toList:=by rw[<-hC];simp
  have hlen:(olds++news).length=(n+m)* i.size:=by rw[wb0,hoL,hnl,wb4]
  have hle:Le w Fr β (w.drew.alloc (.cells C e)) (upd Fr w.heap.size ((n+m)* i.size)) β:=⟨hbel.size,fun b h=>by rw[zsg h];exact wab _,fun b o h _=>hbel.cell (p:=⟨b,o,none⟩) h,fun _ _ h=>h,fun g r h=>⟨r,(hbel.block g (wan.1 h).1).trans h⟩⟩;have hCs:C.size=grownCap w (n+m) cap e* i.size:=by
   rw[<-wb5,hCl,wb0,hlen,wb5,size_zeroCells,hzs,<-wb4];congr 1;omega
  refine⟨_,_,_,hrun,⟨hle,?_,⟨n+m,cs++ds,rfl,.inr ⟨w.heap.size,_,C,e,i.size,rfl,hrow,hge,hmx,hCs,by rw[upd,if_pos rfl,wb0,hc,hd,wb4],by rw[wb0,hc,hd,wb4],(fun h=>by omega),fun h=>h8.elim (fun h=>.inr h.1) fun h9=>.inl (h9.elim (fun h9=>absurd h h9) fun h9=>zpy h9.1 h9.2)⟩⟩,(fun k hk=>by cases hk;exact .inr (wab _)),(fun k hk _=>⟨hbel.block k hk,zsg hk⟩),rfl,rfl,rfl⟩⟩;simp only[Rd];refine⟨_,_,rfl,hge,.inr ⟨w.heap.size,0,olds++news,rfl,fun j u hj=>?_,(hol.append hnr).mono hle,hold.append hno⟩⟩;have hjl:=(qg hj).1;rw[hlen]at hjl;refine⟨by rw[upd,if_pos rfl];omega,?_⟩;rw[wbx,cell_of_row _ _ _ _ _ _ hrow,<-wb6,hCl,waa (by omega)];exact hj
 rcases ho with⟨n',cs',hpe,hv0|⟨g,cap,cur,e2,sz,hv0,hg,h1,h2,h3,h4,h5,h6,h7⟩⟩
 ·cases hpe
  subst hv0;have hn0:n=0/\cs=[]:=by
   simp only[Rd]at hv;obtain⟨b,cap,he,hc2,hv⟩:=hv;cases he;refine⟨rfl,qz (by rw[hc];simp)⟩
  obtain⟨rfl,rfl⟩:=hn0;have ho0:olds=[]:=qz (by rw[hoL];simp);subst ho0;by_cases hm:m=0
  ·subst hm
   have hd0:ds=[]:=qz (by rw[hd];simp);subst hd0;exact⟨_,w,Fr,zim t tx ty e i ht hi x news hsrc,⟨Le.refl _ _ _,by simp only[Rd];exact⟨none,0,rfl,wab _,.inl ⟨by simp,by simp⟩⟩,⟨0,[],rfl,.inl rfl⟩,(fun k hk=>by cases hk),(fun k hk _=>⟨rfl,rfl⟩),rfl,rfl,rfl⟩⟩
  ·exact grow none 0 rfl (run_firstCells_none w.drew i.size 0 0 0) (by omega)
 ·cases hpe
  subst hv0;have hsz2:n=0\/sz=i.size:=by
   rcases wb7 n with h|h
   ·exact .inl h
   ·right;exact Nat.eq_of_mul_eq_mul_left h (h5.symm.trans hc)
  by_cases hroom:n+m<=cap
  ·have hs':sz=i.size\/(n=0/\m=0):=by
    rcases hsz2 with h|h
    ·right;have:=h6 h;omega
    ·exact .inl h
   have hfit:n* i.size+news.length<=cur.size:=by
    rw[h3,hnl];rcases hs' with h|⟨h,h'⟩
    ·rw[h,<-wb4];exact wb3 hroom (wab _)
    ·subst h;subst h';simp
   have hrun:=zuk (P:=P) (w:=w) t tx ty e e2 i ht hi g n cap cur hg x m news hsrc hroom hfit;obtain⟨C,hC⟩:∃C,(cur.toList.take (n* i.size)++news++cur.toList.drop (n* i.size+news.length)).toArray=C:=⟨_,rfl⟩;rw[hC]at hrun;have hrow:(w.setRow g C).heap[g]?=some (.cells C e2 (0,0)):=setRow_heap w g _ _ e2 (0,0) hg;have hoth:∀k,k≠g->(w.setRow g C).heap[k]?=w.heap[k]?:=fun k hk=>setRow_other w g k _ hk
   have hr:=hat g 0 cap rfl;have hcur:cur.toList.take (n* i.size)=olds:=by
    apply List.ext_getElem?;intro j;by_cases hj:j<n* i.size
    ·have hjo:j<olds.length:=by omega
     have h7:=(hr j _ (qe hjo)).2;rw[wbx,cell_of_row _ _ _ _ _ _ hg]at h7;rw[wbz hj,qe hjo,wb6];exact h7
    ·rw[wb8 (by rw[wa2];omega),wb8 (by omega)]
   have hCl:C.toList=(olds++news)++cur.toList.drop (n* i.size+news.length):=by rw[<-hC,hcur]
   have hCs:C.size=cap* sz:=by
    have:C.toList.length=cur.toList.length:=by rw[<-hC];exact zy5 rfl (by simpa using hfit)
    rw[<-h3,<-wb5,this,wb5]
   have hlen:(olds++news).length=(n+m)* i.size:=by rw[wb0,hoL,hnl,wb4]
   have hcell:∀j u,(olds++news)[j]?=some u->(w.setRow g C).cell? ⟨g,j,none⟩=some u:=fun j u hj=>by
    rw[cell_of_row _ _ _ _ _ _ hrow,<-wb6,hCl,waa (qg hj).1];exact hj
   have hle:Le w Fr β (w.setRow g C) (upd Fr g ((n+m)* i.size)) β:=by
    refine⟨by simp[World.setRow],fun b h=>?_,fun b o h ho=>?_,fun _ _ h=>h,fun k r hk=>⟨r,(hoth k fun e=>by rw[e,hg]at hk;cases hk).trans hk⟩⟩
    ·unfold upd;split
     ·rename_i he;rw[he,h4,hc,wb4];omega
     ·exact wab _
    ·by_cases he:b=g
     ·subst he
      rw[h4,hc]at ho;have hjo:o<olds.length:=by omega
      have h7:=hr o _ (qe hjo);rw[wbx]at h7;rw[h7.2];exact hcell o _ (by rw[waa hjo];exact qe hjo)
     ·simp only[World.cell?,hoth b he]
   refine⟨_,_,_,hrun,⟨hle,?_,⟨n+m,cs++ds,rfl,.inr ⟨g,cap,C,e2,sz,rfl,hrow,hroom,h2,hCs,by rw[upd,if_pos rfl,wb0,hc,hd,wb4],?_,(fun h=>by have:=h6 (by omega);omega),fun h=>?_⟩⟩,(fun k hk=>.inl hk),(fun k hk hne=>?_),rfl,rfl,rfl⟩⟩
   ·simp only[Rd]
    refine⟨_,_,rfl,hroom,.inr ⟨g,0,olds++news,rfl,fun j u hj=>?_,(hol.append hnr).mono hle,hold.append hno⟩⟩;have hjl:=(qg hj).1;rw[hlen]at hjl;exact⟨by rw[upd,if_pos rfl];omega,by rw[wbx];exact hcell j u hj⟩
   ·rw[wb0,hc,hd,<-wb4]
    rcases hs' with h|⟨h,h'⟩
    ·rw[h]
    ·subst h;subst h';simp
   ·have nul:n=0->m=0->noU8 (cs++ds)=true:=fun h h'=>by
     have e1:cs=[]:=qz (by rw[hc,h];simp);have e2:ds=[]:=qz (by rw[hd,h'];simp);rw[e1,e2];rfl
    rcases h7 h with k1|k1
    ·left
     rcases h8 with⟨_,k2⟩|k2|k2
     ·have e1:=yq0 k2 k1
      have:n=0:=by
       have h9:=h5;rw[e1,h]at h9;simpa using h9.symm
      have:=h6 this;exact nul (by omega) (by omega)
     ·rcases hs' with k3|k3
      ·exact absurd (k3.symm.trans h) k2
      ·exact nul k3.1 k3.2
     ·exact zpy k2.1 k2.2
    ·exact .inr k1
   ·have:k≠g:=fun e=>hne (by rw[e];rfl)
    exact⟨hoth k this,if_neg this⟩
  ·refine grow _ cap rfl ?_ (by omega)
   refine run_firstCells_some w.drew i.size n _ n cap olds hoL fun j u hj=>?_
   have h7:=(hat g 0 cap rfl j u hj).2;rw[zy7];exact h7
end
end Nun
namespace Nun
open Go Go.RowKit
def zgx:COp->Bool
 | .mvA _| .asg (.t _)| .alloc .. | .box .. | .mksl .. | .b2s _| .load .. | .loadA _| .loadM _| .store .. | .append .. | .appendS .. | .call .. | .callv ..=>false
 |_=>true
theorem zdk{cf:Callee}{st:St}{dst:Option Nat}{c:COp}(h:zgx c=true):zaa cf st dst c=(zao c (·.ev st.sl)).map (st.putD dst):=by
 cases c
 case asg x=>
  cases x with
  |t i=>cases h
  |c v=>rfl
 all_goals first|rfl|(cases h;done)
section
variable {P:Program} {w w':World} {r:Option Nat} {Fr Fr':Nat→Nat} {β β':List Nat} {T:List Deferred} {base nt:Nat} {M:Nat→Prop} {w0:World} {F0:Nat→Nat} {st st':St} {a a':Act} {cf:Callee}
theorem zy8(R:Rel P T base M w0 F0 nt st a w Fr β){s:Nat}{L:Loc}(h:origin st s=some L):zay a w β L=some (a.tmps.getD s undef):=by
 unfold origin at h;split at h
 ·cases h;rfl
 ·obtain⟨p,hp,rfl⟩:=qm h
  have h1:=List.mem_of_find?_eq_some hp;have h2:=List.find?_some hp;have h3:p.1=s:=by simpa using h2
  rw[<-h3];exact R.al p h1
theorem Rl.of{S:S0}{st':St}{a':Act}{w w':World}{Fr Fr':Nat->Nat}{β β':List Nat}(R:Rel P S.T S.base S.M S.w0 S.F0 S.nt st' a' w' Fr' β')(hl:Le S.sw S.sF S.sβ w Fr β)(hl':Le w Fr β w' Fr' β'):Rl P S st' a' w':=⟨Fr',β',R,hl.trans hl'⟩
def fw(r:Option Nat):Fence:={Fence.wide with round:=r}
theorem z9g{r:Option Nat}{n:Nat}{f:FuncId}{args:Array Value}{w:World}{R:Ending->World->Prop}:CallsIn (fw r) n P f args w R ↔ Calls P f args w R:=callsIn_wide (n:=n)
theorem zu3{o:Oper}{c:Call}(h:o.op=.defer c){n:Next}(hn:(execOp a.eval o).run P w=.ok n w'):∃d,n=.defer d:=by
 unfold execOp at hn;rw[h]at hn;simp only[wav]at hn;cases hr:(resolve a.eval c o.type).run P w with
 |ok d w1=>rw[hr]at hn;simp only[waw]at hn;cases hn;exact⟨d,rfl⟩
 |halt x w1=>rw[hr]at hn;cases hn
theorem zc9{r:Option Nat}{o:Oper}{K:Act->World->Prop}{Q:Exit->Act->World->Prop}{v:Value}(hr:(execOp a.eval o).run P w=.ok (.value v) w')(h:K (a.put o.dst v) w'):o.wpIn (fw r) 0 P a w K Q:=by
 refine⟨fun _ _=>trivial,?_⟩;rw[Oper.semAt_eq _ _ _ fun c hc=>by obtain⟨d,hd⟩:=zu3 hc hr;cases hd];rw[hr];exact h
theorem upon_skip{r:Option Nat}{o:Oper}{K:Act->World->Prop}{Q:Exit->Act->World->Prop}(hr:(execOp a.eval o).run P w=.ok .skip w')(h:K (a.put o.dst undef) w'):o.wpIn (fw r) 0 P a w K Q:=by
 refine⟨fun _ _=>trivial,?_⟩;rw[Oper.semAt_eq _ _ _ fun c hc=>by obtain⟨d,hd⟩:=zu3 hc hr;cases hd];rw[hr];exact h
theorem z1c{x:Operand}{s:Nat}(h:coX x=some (.t s)):x=.tmp s:=by
 cases x with
 |tmp t=>simp only[coX,war,X.t.injEq]at h;rw[h]
 |const v=>cases h
 |global g=>cases h
 |func f=>cases h
theorem zpa{op:Op}{c:COp}(hc:zcw P op=some c):(∃x,op=.move x)\/(∃x,op=.assign x)\/zgx c=true:=by
 cases op with
 |move x=>exact .inl ⟨x,rfl⟩
 |assign x=>exact .inr (.inl ⟨x,rfl⟩)
 |pick x y z=>
  obtain⟨_,_,hc⟩:=qb hc;obtain⟨_,_,hc⟩:=qb hc;obtain⟨_,_,rfl⟩:=qm hc;exact .inr (.inr rfl)
 |binOp op t x y yt=>
  obtain⟨_,_,hc⟩:=qb hc;obtain⟨_,_,hc⟩:=qb hc;split at hc
  ·cases hc;exact .inr (.inr rfl)
  ·cases hc;exact .inr (.inr rfl)
  ·split at hc
   ·cases hc;exact .inr (.inr rfl)
   ·cases hc;exact .inr (.inr rfl)
   ·cases hc
  ·split at hc
   case isFalse=>cases hc
   split at hc
   ·obtain⟨_,_,rfl⟩:=qm hc;exact .inr (.inr rfl)
   ·obtain⟨_,_,rfl⟩:=qm hc;exact .inr (.inr rfl)
   ·cases hc
  ·cases hc
 |nilCheck x=>obtain⟨_,_,rfl⟩:=qm hc;exact .inr (.inr rfl)
 |unOp op t x=>obtain⟨_,_,rfl⟩:=qm hc;exact .inr (.inr rfl)
 |convert src dst x=>
  obtain⟨_,_,hc⟩:=qb hc;split at hc
  ·cases hc;exact .inr (.inr rfl)
  ·cases hc;exact .inr (.inr rfl)
  ·cases hc
 |build t ps=>
  obtain⟨_,_,hc⟩:=qb hc;obtain⟨_,_,rfl⟩:=qm hc;exact .inr (.inr rfl)
 |fieldAddr s x f=>
  obtain⟨_,_,hc⟩:=qb hc;obtain⟨_,_,hc⟩:=qb hc;obtain⟨_,_,hc⟩:=qb hc;split at hc
  ·cases hc
  ·obtain⟨_,_,rfl⟩:=qm hc;exact .inr (.inr rfl)
 |field s x f=>
  obtain⟨_,_,hc⟩:=qb hc;obtain⟨_,_,hc⟩:=qb hc;obtain⟨_,_,hc⟩:=qb hc;obtain⟨_,_,hc⟩:=qb hc;obtain⟨_,_,rfl⟩:=qm hc;exact .inr (.inr rfl)
 |indexAddr t x i=>
  simp only[zcw]at hc;split at hc
  ·obtain⟨_,_,hc⟩:=qb hc
   obtain⟨_,_,hc⟩:=qb hc;obtain⟨_,_,rfl⟩:=qm hc;exact .inr (.inr rfl)
  ·obtain⟨_,_,hc⟩:=qb hc
   obtain⟨_,_,hc⟩:=qb hc;obtain⟨_,_,rfl⟩:=qm hc;exact .inr (.inr rfl)
  ·cases hc
 |index t x i=>
  simp only[zcw]at hc;split at hc
  ·obtain⟨_,_,hc⟩:=qb hc
   obtain⟨_,_,rfl⟩:=qm hc;exact .inr (.inr rfl)
  ·obtain⟨_,_,hc⟩:=qb hc
   obtain⟨_,_,hc⟩:=qb hc;obtain⟨_,_,hc⟩:=qb hc;obtain⟨_,_,rfl⟩:=qm hc;exact .inr (.inr rfl)
  ·cases hc
 |slice t x lo hi mx=>
  cases mx with
  |some _=>cases hc
  |none=>
   simp only[zcw]at hc;split at hc
   ·obtain⟨_,_,hc⟩:=qb hc
    obtain⟨_,_,hc⟩:=qb hc;obtain⟨_,_,rfl⟩:=qm hc;exact .inr (.inr rfl)
   ·obtain⟨_,_,hc⟩:=qb hc
    obtain⟨_,_,hc⟩:=qb hc;obtain⟨_,_,hc⟩:=qb hc;obtain⟨_,_,rfl⟩:=qm hc;exact .inr (.inr rfl)
   ·obtain⟨_,_,hc⟩:=qb hc
    obtain⟨_,_,hc⟩:=qb hc;obtain⟨_,_,hc⟩:=qb hc;obtain⟨_,_,rfl⟩:=qm hc;exact .inr (.inr rfl)
   ·cases hc
 |extract x i=>obtain⟨_,_,rfl⟩:=qm hc;exact .inr (.inr rfl)
 |makeFunc fn first caps=>
  cases fn with
  |func f=>
   simp only[zcw]at hc;split at hc
   ·obtain⟨_,_,rfl⟩:=qm hc;exact .inr (.inr rfl)
   ·cases hc
  |_=>cases hc
 |call cl=>
  obtain⟨callee,args,ats⟩:=cl;cases callee with
  |value f=>cases hc
  |invoke r m=>cases hc
  |builtin b=>
   cases b with
   |len=>
    simp only[zcw]at hc;split at hc
    ·split at hc
     ·obtain⟨_,_,rfl⟩:=qm hc;exact .inr (.inr rfl)
     ·obtain⟨_,_,rfl⟩:=qm hc;exact .inr (.inr rfl)
     ·cases hc
    ·cases hc
   |max=>
    simp only[zcw]at hc;split at hc
    ·obtain⟨_,_,hc⟩:=qb hc
     obtain⟨_,_,rfl⟩:=qm hc;exact .inr (.inr rfl)
    ·cases hc
   |min=>
    simp only[zcw]at hc;split at hc
    ·obtain⟨_,_,hc⟩:=qb hc
     obtain⟨_,_,rfl⟩:=qm hc;exact .inr (.inr rfl)
    ·cases hc
   |_=>cases hc
 |_=>cases hc
theorem zvt{S:S0}{o:Oper}{c:COp}(hc:zcw P o.op=some c)(hs:zaa cf st o.dst c=some st')(hd:∀d,o.dst=some d->d<S.nt)(hr:Rl P S st a w){K:Act->World->Prop}{Q:Exit->Act->World->Prop}
 (hK:∀a' w',Rl P S st' a' w'->K a' w'):o.wpIn (fw r) 0 P a w K Q:=by
 obtain⟨Fr,β,R,hl⟩:=hr;have plain:zgx c=true->o.wpIn (fw r) 0 P a w K Q:=fun hp=>by
  rw[zdk hp]at hs;obtain⟨p,h1,rfl⟩:=qm hs;obtain⟨v,h2,h3⟩:=z3s hc R.sl h1;refine zc9 h2 (hK _ _ ?_);cases hdst:o.dst with
  |none=>exact⟨Fr,β,R,hl⟩
  |some d=>exact⟨Fr,β,R.put (hd d hdst) h3,hl⟩
 have asg:∀x:Operand,∀s,o.op=.assign x->coX x=some (.t s)->c=.asg (.t s)->o.wpIn (fw r) 0 P a w K Q:=fun x s ho hx hcc=>by
  subst hcc;simp only[zaa]at hs;cases hdst:o.dst with
  |none=>rw[hdst]at hs;cases hs
  |some d=>
   rw[hdst]at hs;simp only at hs;split at hs
   ·cases hs
   ·rename_i hsd
    have hrun:(execOp a.eval o).run P w=.ok (.value (a.tmps.getD s undef)) w:=by
     unfold execOp;rw[ho,z1c hx];rfl
    refine zc9 hrun ?_;rw[hdst];split at hs
    ·rename_i hown
     cases hs;exact hK _ _ ⟨Fr,β,R.move (hd d hdst) hsd hown,hl⟩
    ·cases hs
     exact hK _ _ ⟨Fr,β,R.put (hd d hdst) (R.sl s),hl⟩
 obtain⟨dst,op,ty,pos,after,guard⟩:=o;cases hp:zgx c with
 |true=>exact plain hp
 |false=>
  cases op
  case move x=>
   obtain⟨y,hy,rfl⟩:=qm hc;cases hp
  case assign x=>
   obtain⟨y,hy,rfl⟩:=qm hc;cases y with
   |t s=>exact asg x s rfl hy rfl
   |c v=>cases hp
  all_goals
   rcases zpa hc with⟨x,hx⟩|⟨x,hx⟩|hx
   ·cases hx
   ·cases hx
   ·rw[hp]at hx;cases hx
end
end Nun
namespace Nun
open Go Go.RowKit
section
variable {P:Program} {w w':World} {r:Option Nat} {Fr Fr':Nat→Nat} {β β':List Nat} {T:List Deferred} {base nt:Nat} {M:Nat→Prop} {w0:World} {F0:Nat→Nat} {st st':St} {a a':Act} {cf:Callee}
theorem yd9{f:Nat->PV}{g:Nat->Value}:∀l:List Nat,(∀i∈l,Rd w Fr β (f i) (g i))->Rds w Fr β (l.map f) (l.map g)
 |[],_=>by simp[Rds]
 |i::l,h=>by
  simp only[wax,Rds];exact⟨_,_,rfl,h i (by simp),yd9 l fun j hj=>h j (by simp[hj])⟩
theorem zlh{t:TypeId}{g:Bool}{n b o:Nat}{vs:List Value}(hg:zdv P t=some g)(hn:szOf P t=some n)(hl:vs.length=n)(hv:∀j v,vs[j]?=some v->w.cell? ⟨b,o+j,none⟩=some v)(h1:g=true\/n=1):
 (loadVar t ⟨b,o,none⟩).run P w=.ok (if g then .agg vs.toArray else vs.getD 0 undef) w:=by
 simp only[loadVar,wav,zvn hg,waw];cases g with
 |true=>
  have:=run_loadCells_list (P:=P) w ⟨b,o,none⟩ vs fun j v hj=>by rw[zy7];exact hv j v hj
  rw[hl]at this;simp only[if_true,wav,run_sizeOf hn,waw,this];rfl
 |false=>
  have hn1:n=1:=h1.resolve_left (by simp);subst hn1
  match vs,hl with
  |[v],_=>
   have:=hv 0 v rfl;rw[wa6]at this;simp only[wbf,if_false,run_load,this];rfl
theorem z3u:∀{qs:List (Nat×Nat×PV)}{cs cs':List PV},zpv cs qs=some cs'->cs'.length=cs.length
 |[],cs,cs',h=>by simp only[zpv,war]at h;rw[h]
 |(o,n,p)::r,cs,cs',h=>by
  unfold zpv at h;split at h
  ·rename_i hc
   rw[z3u h];exact zy5 hc.2.1 hc.2.2
  ·cases h
theorem z1d{n:Nat}{ps:List PV}{vs:List Value}(h:Rds w Fr β ps vs)(hn:n=1){p:PV}(hp:ps[0]?=some p):∃v,vs.take n=[v]/\Rd w Fr β p v:=by
 subst hn;obtain⟨v,h1,h2⟩:=h.get 0 p hp;refine⟨v,?_,h2⟩
 match vs,h1 with
 |u::r,h1=>simp at h1;subst h1;rfl
theorem Rel.rdAt(R:Rel P T base M w0 F0 nt st a w Fr β){L:Loc}{v:Value}{p:PV}(h1:zay a w β L=some v)(h2:pvAt st L=some p):Rd w Fr β p v:=by
 cases L with
 |slot i=>
  simp only[zay,pvAt,war]at h1 h2;rw[<-h1,<-h2];exact R.sl i
 |cell b j=>
  simp only[zay,pvAt]at h1 h2;obtain⟨g,g1,g2⟩:=qb h1;obtain⟨cs,c1,c2⟩:=qb h2;obtain⟨g',b1,b5,hat⟩:=R.bx.2 b cs c1;rw[g1]at b1;cases b1;rcases hat with⟨vs,e,b2,b3,b4,_⟩|⟨f,k,s,live,snap,_,r,b2,_⟩
  rotate_left
  ·simp[World.cell?,b2]at g2
  obtain⟨u,u1,u2⟩:=b3.get j p c2;rw[cell_of_row _ _ _ _ _ _ b2]at g2;have:u=v:=by
   have h9:vs.toArray[j]?=some u:=by simpa using u1
   rw[h9]at g2;exact wb9 g2
  rw[<-this];exact u2
theorem Rel.appended(R:Rel P T base M w0 F0 nt st a w Fr β){d:Nat}(hd:d<nt){L:Loc}(hin:L∈st.ow){v v':Value}(hv:zay a w β L=some v){p:PV}(A:Appended P w Fr β v p v' w' Fr'):
 Rel P T base M w0 F0 nt {st with sl:=(d,p)::st.sl,ow:=.slot d::zac d (st.ow.filter (·≠L)),al:=za8 d (st.al.filter fun p=>p.2≠L)} (a.put (some d) v') w' Fr' β:=by
 have hda:d<a.tmps.size:=by rw[R.nt];exact hd
 have hβ:=R.lt;have hne:∀g∈β,v.ownBlock≠some g:=fun g hg e=>R.out L hin v g hv e hg
 have hval:∀K,zay a w' β K=zay a w β K:=fun K=>zse fun g hg=>(A.old g (hβ g hg) (hne g hg)).1
 have oth:∀K∈st.ow,K≠L->∀u,zay a w β K=some u->∀g,u.ownBlock=some g->v.ownBlock≠some g:=fun K hK hKL u hu g hg e=>R.sep K hK L hin hKL u v g hu hv hg e
 have hmem:∀K,K∈zac d (st.ow.filter (·≠L))->K∈st.ow/\K≠L/\ment d K=false:=fun K hK=>by
  obtain⟨h1,h2⟩:=zco.1 hK;have h3:K∈st.ow/\K≠L:=by simpa using h1
  exact⟨h3.1,h3.2,h2⟩
 refine R.next A.le (z9d R A.le hd A.rd) (by rw[size_put];exact R.nt) (zob _ _ _) (R.bx.kept A.le fun g hg=>A.old g (hβ g hg) (hne g hg)) R.nd (fun g h=>.inl h) (fun K=>if K=.slot d then(if v'.ownBlock=v.ownBlock then some L else none)else some K) (fun K hK=>?_) (fun K hK K' hK' hne' L0 h h'=>?_) (fun K hK K' hK' hne' h h'=>?_) (fun q hq=>?_) (fun b hb _ hM2=>?_) A.os A.tape A.output
 ·rcases waq.1 hK with rfl|hK
  ·refine⟨v',p,?_,?_,A.own,fun g hg=>?_⟩
   ·simp only[zay,zfl a d v' d hda,if_true]
   ·simp only[pvAt,za4,if_true]
   ·rcases A.blk g hg with h|h
    ·right
     exact⟨L,hin,by rw[if_pos rfl,if_pos (hg.trans h.symm)],v,hv,h⟩
    ·left
     refine⟨h,fun hm=>by have:=hβ g hm;omega,?_⟩;rw[if_pos rfl,if_neg];intro e;obtain⟨u,q,k1,k2,k3⟩:=R.own L hin;rw[hv]at k1;cases k1;have:=k3.lt (e▸hg);omega
  ·obtain⟨m1,m2,m3⟩:=hmem K hK
   obtain⟨u,q,k1,k2,k3⟩:=R.own K m1;exact⟨u,q,by rw[zet hda m3,hval];exact k1,(zu2 m3).trans k2,k3.kept fun g hg=>A.old g (k3.lt hg) (oth K m1 m2 u k1 g hg),fun g hg=>.inr ⟨K,m1,by rw[if_neg (zmx m3)],u,k1,hg⟩⟩
 ·have key:∀K,K∈Loc.slot d::zac d (st.ow.filter (·≠L))->K≠.slot d->K≠L:=fun K hK hne=>by
   rcases waq.1 hK with e|hK
   ·exact absurd e hne
   ·exact(hmem K hK).2.1
  by_cases e:K=.slot d
  ·subst e
   rw[if_pos rfl]at h;rw[if_neg (was hne')]at h';split at h
   ·cases h;cases h';exact key _ hK' (was hne') rfl
   ·cases h
  ·rw[if_neg e]at h
   by_cases e':K'=.slot d
   ·subst e'
    rw[if_pos rfl]at h';split at h'
    ·cases h;cases h';exact key _ hK e rfl
    ·cases h'
   ·rw[if_neg e']at h'
    cases h;cases h';exact hne' rfl
 ·by_cases e:K=.slot d
  ·by_cases e':K'=.slot d
   ·exact absurd (e.trans e'.symm) hne'
   ·rw[if_neg e']at h';cases h'
  ·rw[if_neg e]at h;cases h
 ·obtain⟨h1,h2,h3⟩:=zgw.1 hq
  have h4:q∈st.al:=(wbw.1 h1).1;rw[zet hda h3,hval,zfl a d _ _ hda,if_neg (fun e=>h2 e.symm)];exact R.al q h4
 ·exact A.old b hb (hM2 L hin v hv)
theorem ykc{S:S0}{o:Oper}{c:COp}(hc:yby P o.op=some c)(hs:zaa cf st o.dst c=some st')(hd:∀d,o.dst=some d->d<S.nt)(hr:Rl P S st a w){K:Act->World->Prop}{Q:Exit->Act->World->Prop}
 (hK:∀a' w',Rl P S st' a' w'->K a' w'):o.wpIn (fw r) 0 P a w K Q:=by
 obtain⟨Fr,β,R,hl⟩:=hr;obtain⟨dst,op,ty,pos,after,guard⟩:=o;have val:∀{s:Sem Value}{v:Value}{w':World},s.run P w=.ok v w'->(do pure (Next.value (<-s)):Sem Next).run P w=.ok (.value v) w':=fun h=>by
  simp only[wav,h,waw];rfl
 dsimp only at hc hs hd;cases op with
 |alloc elem=>
  obtain⟨zs,hz,rfl⟩:=qm hc;simp only[zaa]at hs;obtain⟨d,rfl,rfl⟩:=qm hs;obtain⟨z,z1,z2,z3⟩:=z09 (w:=w) (Fr:=Fr) (β:=β) hz;have hrun:(execOp a.eval ⟨some d,.alloc elem,ty,pos,after,guard⟩).run P w=.ok (.value (.pointer (some ⟨w.heap.size,0,none⟩))) (w.alloc (.cells z.cells elem)):=by
   refine val ?_;simp only[Instr.alloc,wav,z1,waw];rfl
  obtain⟨R',hl'⟩:=R.newBox (hd d rfl) (e:=elem) z2 z3;have R2:=R'.wkCells (b:=st.bx.length) (e:=elem) (pre:=[]) (mid:=zs) (post:=[]) (by simp);refine zc9 hrun (hK _ _ (Rl.of (S:=S) ?_ hl hl'));simpa[St.put]using R2
 |box elem x=>
  obtain⟨n,hn,hc⟩:=qb hc;obtain⟨y,hy,rfl⟩:=qm hc;simp only[zaa]at hs;obtain⟨d,rfl,hs⟩:=qb hs;split at hs
  ·rename_i hcond
   cases hs;obtain⟨c1,c2⟩:=z08 (zbo R.sl hy) hcond.1;have hrun:(execOp a.eval ⟨some d,.box elem x,ty,pos,after,guard⟩).run P w=.ok (.value (.pointer (some ⟨w.heap.size,0,none⟩))) (w.alloc (.cells (a.eval x).cells elem)):=val rfl;obtain⟨R',hl'⟩:=R.newBox (hd d rfl) (e:=elem) c1 c2;have R2:=R'.wkCells (b:=st.bx.length) (e:=elem) (pre:=[]) (mid:=(y.ev st.sl).cells) (post:=[]) (by simp);refine zc9 hrun (hK _ _ (Rl.of (S:=S) ?_ hl hl'));simpa[St.put]using R2
  ·cases hs
 |buildSlice t len ps=>
  simp only[yby]at hc;split at hc
  ·rename_i e he
   obtain⟨n,hn,hc⟩:=qb hc;split at hc
   ·rename_i hb
    obtain⟨zs,hz,hc⟩:=qb hc;split at hc
    ·rename_i hzl
     obtain⟨qs,hq,rfl⟩:=qm hc;simp only[zaa]at hs;obtain⟨d,hdst,hs2⟩:=qb hs;clear hs;subst hdst;obtain⟨cs,hf,hs⟩:=qb hs2;clear hs2;split at hs
     case isFalse=>cases hs
     rename_i hby;cases hs;obtain⟨z,z1,z2,z3⟩:=z09 (w:=w) (Fr:=Fr) (β:=β) hz;have hzs:z.cells.size=n:=by rw[<-hzl,<-z2.length];simp
     obtain⟨Z,hZ⟩:∃Z:Array Value,(Array.range (len* n)).map (fun i=>z.cells[i % z.cells.size]!)=Z:=⟨_,rfl⟩;have hZr:Rds w Fr β ((List.range (len* n)).map fun i=>zs.getD (i % n) .unk) Z.toList:=by
      rw[<-hZ,Array.toList_map,Array.toList_range];refine yd9 _ fun i _=>?_
      have hlt:i % n<zs.length:=by rw[hzl];exact Nat.mod_lt _ hb.1
      obtain⟨v,k1,k2⟩:=z2.get (i % n) _ (qe hlt);have e1:zs.getD (i % n) .unk=zs[i % n]:=by rw[wca,qe hlt];rfl
      have e2:z.cells[i % z.cells.size]! =v:=by
       rw[hzs];have:z.cells[i % n]?=some v:=by rw[<-wb6];exact k1
       rw[getElem!_def,this]
      rw[e1,e2];exact k2
     have hZo:Ones Z.toList:=fun v hv=>by
      rw[<-hZ,Array.toList_map]at hv;obtain⟨i,_,rfl⟩:=wbv.1 hv;have hlt:i % n<z.cells.size:=by rw[hzs];exact Nat.mod_lt _ hb.1
      refine z3 _ ?_;rw[hzs];have:z.cells[i % n]! =z.cells[i % n]:=by rw[getElem!_pos z.cells _ hlt]
      rw[this];simp
     obtain⟨C,f1,f2,f3⟩:=z66 _ _ _ _ _ (z68 R.sl hq) hZr hZo hf;have hrun:(execOp a.eval ⟨some d,.buildSlice t len ps,ty,pos,after,guard⟩).run P w=.ok (.value (.slice (some ⟨w.heap.size,0,none⟩) len len)) (w.alloc (.cells C e)):=by
      refine val ?_;have hpl:(ps.map fun(i,x)=>(i,a.eval x)).toList=ps.toList.map fun q=>(q.1,a.eval q.2):=by simp
      simp only[Instr.buildSlice,wav,run_underlying he,waw,run_sizeOf hn];rw[if_neg (by omega)];by_cases h0:len* n=0
      ·rw[if_pos h0]
       have e1:(Array.range (len* n)).map (fun i=>(#[]:Array Value)[i % (#[]:Array Value).size]!)=Z:=by rw[<-hZ,h0];simp
       simp only[wav,wbg,waw,e1,hpl,f1];rfl
      ·rw[if_neg h0]
       simp only[wav,wbg,z1,waw,hZ,hpl,f1];rfl
     have hCl:C.toList.length=len* n:=by rw[f2.length,z3u hf];simp
     have hbel:Below w.heap.size w (w.alloc (.cells C e)):=zil w _;have hrow:=yqz w C.toList e β Fr;simp only[Array.toArray_toList]at hrow;have hle:Le w Fr β (w.alloc (.cells C e)) (upd Fr w.heap.size C.toList.length) β:=⟨hbel.size,fun b h=>by rw[zsg h];exact wab _,fun b o h _=>hbel.cell (p:=⟨b,o,none⟩) h,fun _ _ h=>h,fun g r h=>⟨r,(hbel.block g (wan.1 h).1).trans h⟩⟩;have hrd:Rd (w.alloc (.cells C e)) (upd Fr w.heap.size C.toList.length) β (.slc len (zff cs)) (.slice (some ⟨w.heap.size,0,none⟩) len len):=by
      simp only[Rd];exact⟨_,_,rfl,wab _,.inr ⟨w.heap.size,0,C.toList,rfl,hrow,Rds.weak _ _ (f2.mono hle),f3⟩⟩
     have hcl:cs.length=len* n:=by rw[<-f2.length,hCl]
     have hmx:len<=maxLen:=by
      have h9:len* 1<=len* n:=wb3 (wab _) hb.1;unfold maxLen;omega
     have how:OwnV P (w.alloc (.cells C e)) (upd Fr w.heap.size C.toList.length) (.slc len (zff cs)) (.slice (some ⟨w.heap.size,0,none⟩) len len):=
      ⟨len,zff cs,rfl,.inr ⟨w.heap.size,len,C,e,n,rfl,heap_alloc_new w _,wab _,hmx,by rw[<-wb5,hCl],by rw[upd,if_pos rfl,hCl,zvq,hcl],by rw[zvq];exact hcl,fun h=>h,fun h=>hby.elim (fun h9=>.inr (by simpa using h9)) fun h9=>.inl (h9.resolve_left fun h9=>h9 h)⟩⟩
     exact zc9 hrun (hK _ _ (Rl.of (S:=S) (R.putOwn hbel (fun g hg=>zsg hg) (hd d rfl) hrd how (fun g hg=>by cases hg;exact wab _)) hl hle))
    ·cases hc
   ·cases hc
  ·cases hc
 |load t x=>
  obtain⟨g,hg,hc⟩:=qb hc;obtain⟨n,hn,hc⟩:=qb hc;split at hc
  ·rename_i h1
   obtain⟨y,hy,rfl⟩:=qm hc;have hx:=zbo R.sl hy;simp only[zaa]at hs;obtain⟨d,hdst,hs2⟩:=qb hs;clear hs;subst hdst;obtain⟨q,hs,rfl⟩:=qm hs2;clear hs2;unfold zyf at hs
   have run:∀b o(vs:List Value),a.eval x=.pointer (some ⟨b,o,none⟩)->vs.length=n->(∀j v,vs[j]?=some v->w.cell? ⟨b,o+j,none⟩=some v)->
    (execOp a.eval ⟨some d,.load t x,ty,pos,after,guard⟩).run P w=.ok (.value (if g then .agg vs.toArray else vs.getD 0 undef)) w:=fun b o vs e l h=>by
    refine val ?_;simp only[Instr.loadAt,wav,e,Instr.sureAddr,wbg,waw];exact zlh hg hn l h h1
   split at hs
   ·rename_i cs e1
    rw[e1]at hx;simp only[Rd]at hx;obtain⟨b,o,vs,hx,r1,r2,r3⟩:=hx;split at hs
    ·rename_i hle
     have hvl:=r2.length;have hrun:=run b o (vs.take n) hx (by rw[wa2];omega) (fun j v hj=>(r1.take n j v hj).2);refine zc9 hrun ?_;cases g with
     |true=>
      cases hs;exact hK _ _ ⟨Fr,β,R.put (hd d rfl) (by simp only[Rd,if_true];exact⟨_,rfl,r2.take n,r3.take n⟩),hl⟩
     |false=>
      have hn1:n=1:=h1.resolve_left (by simp);obtain⟨v,k1,k2⟩:=z1d r2 hn1 hs;exact hK _ _ ⟨Fr,β,R.put (hd d rfl) (by simp only[wbf,if_false,k1];exact k2),hl⟩
    ·cases hs
   ·rename_i b o e1
    rw[e1]at hx;simp only[Rd]at hx;obtain⟨gb,hgb,hx⟩:=hx;obtain⟨cs,hcs,hs2⟩:=qb hs;clear hs;have hs:=hs2;clear hs2;split at hs
    ·rename_i hle
     obtain⟨hcs,_,g',vs,e,b1,b2,b3,b4,b5,_⟩:=R.bx.cells hcs;rw[hgb]at b1;cases b1;have hvl:=b3.length;have hcell:∀j v,((vs.drop o).take n)[j]?=some v->w.cell? ⟨gb,o+j,none⟩=some v:=fun j v hj=>by
      rw[List.getElem?_take]at hj;split at hj
      ·rw[wal]at hj
       rw[cell_of_row _ _ _ _ _ _ b2];simpa using hj
      ·cases hj
     have hrun:=run gb o ((vs.drop o).take n) hx (by rw[wa2,wbc];omega) hcell;refine zc9 hrun ?_;cases g with
     |true=>
      cases hs;exact hK _ _ ⟨Fr,β,R.put (hd d rfl) (by simp only[Rd,if_true];exact⟨_,rfl,(b3.drop o).take n,(b4.drop o).take n⟩),hl⟩
     |false=>
      have hn1:n=1:=h1.resolve_left (by simp);obtain⟨v,k1,k2⟩:=z1d (b3.drop o) hn1 (p:=q) (by rw[wal,wa6];exact hs);exact hK _ _ ⟨Fr,β,R.put (hd d rfl) (by simp only[wbf,if_false,k1];exact k2),hl⟩
    ·cases hs
   ·cases hs
  ·cases hc
 |convert src dst' x=>
  obtain⟨y,hy,hc⟩:=qb hc;have h1:=zbo R.sl hy;split at hc
  ·rename_i e hsrc hdst
   split at hc
   ·rename_i he
    cases hc;simp only[zaa]at hs;obtain⟨p,hp,rfl⟩:=qm hs;clear hs;have fin:∀v,(convert src dst' (a.eval x)).run P w=.ok v w->Rd w Fr β p v->Oper.wpIn (fw r) 0 P ⟨dst,.convert src dst' x,ty,pos,after,guard⟩ a w K Q:=fun v h2 h3=>by
     refine zc9 (v:=v) (w':=w) ?_ ?_
     ·show(do pure (Next.value (<-convert src dst' (a.eval x))):Sem Next).run P w=_
      simp only[wav,h2,waw];rfl
     ·cases dst with
      |none=>exact hK _ _ ⟨Fr,β,R,hl⟩
      |some d=>exact hK _ _ ⟨Fr,β,R.put (hd d rfl) h3,hl⟩
    have fin2:∀(l:List UInt8)(a0:Addr)(cap:Nat),a.eval x=.slice (some a0) l.length cap->p=.flat (.string ⟨l.toArray⟩)->(∀j(hj:j<l.length),w.cell? (a0.add j)=some (.int .u8 (l[j].toNat:Int)))->Oper.wpIn (fw r) 0 P ⟨dst,.convert src dst' x,ty,pos,after,guard⟩ a w K Q:=fun l a0 cap h2 h3 h4=>by
     refine fin (.string ⟨l.toArray⟩) ?_ (by rw[h3];exact zdd rfl);rw[h2];exact run_convert_bytes_back w src dst' e a0 cap l hsrc he hdst h4
    unfold b2sV at hp;split at hp
    ·rename_i e1
     cases hp;rw[e1]at h1;obtain⟨h1,_⟩:=zbc h1;exact fin _ (by rw[h1];exact run_convert_bytes_nil (w:=w) src e hsrc he 0 0 dst' hdst) (zdd rfl)
    ·rename_i n cs e1
     split at hp
     ·rename_i hn
      obtain⟨l,hl',rfl⟩:=qm hp;rw[e1]at h1;simp only[Rd]at h1;obtain⟨b,cap,hx,_,hv⟩:=h1;rcases hv with⟨h0,h00⟩|⟨g,o,vs,rfl,r1,r2,r3⟩
      ·subst h0;subst h00
       simp only[bytesOf,war]at hl';subst hl';cases b with
       |none=>exact fin _ (by rw[hx];exact run_convert_bytes_nil (w:=w) src e hsrc he 0 cap dst' hdst) (zdd rfl)
       |some b=>exact fin2 [] b cap hx rfl (fun j hj=>by cases hj)
      ·have hb:=zlg hl' r2
       have hln:l.length=n:=by rw[<-hn,<-r2.length,hb,wbt]
       subst hln;refine fin2 l ⟨g,o,none⟩ cap hx rfl fun j hj=>?_
       have:=(r1 j (.int .u8 l[j].toNat) (by rw[hb,wbu,qe hj];rfl)).2;rw[zy7];exact this
     ·cases hp
    ·rename_i b o n e1
     obtain⟨cs,hcs,hp⟩:=qb hp;split at hp
     ·rename_i hle
      obtain⟨l,hl',rfl⟩:=qm hp;rw[e1]at h1;simp only[Rd]at h1;obtain⟨g,a0,cap,hg,hx,_,hv⟩:=h1;obtain⟨hcs,_,g',vs,e0,b1,b2,b3,b4,b5,_⟩:=R.bx.cells hcs;rw[hg]at b1;cases b1;have hvl:=b3.length;have hb:=zlg hl' ((b3.drop o).take n);have hln:l.length=n:=by
       have:=congrArg List.length hb;rw[wbt,wa2,wbc]at this;omega
      subst hln;rcases hv with h0|rfl
      ·have hl0:l=[]:=qz h0
       subst hl0;cases a0 with
       |none=>exact fin _ (by rw[hx];exact run_convert_bytes_nil (w:=w) src e hsrc he 0 cap dst' hdst) (zdd rfl)
       |some a0=>exact fin2 [] a0 cap hx rfl (fun j hj=>by cases hj)
      ·refine fin2 l ⟨g,o,none⟩ cap hx rfl fun j hj=>?_
       rw[zy7,cell_of_row _ _ _ _ _ _ b2];have h8:((vs.drop o).take l.length)[j]?=some (.int .u8 l[j].toNat):=by rw[hb,wbu,qe hj];rfl
       rw[wbz hj,wal]at h8;simpa using h8
     ·cases hp
    ·cases hp
   ·cases hc
  ·cases hc
 |store t x y=>
  obtain⟨n,hn,hc⟩:=qb hc;obtain⟨x',hx',hc⟩:=qb hc;obtain⟨y',hy',hc⟩:=qb hc;split at hc
  case isFalse=>cases hc
  rename_i hn1;cases hc;have hx:=zbo R.sl hx';have hy:=zbo R.sl hy';simp only[zaa]at hs;split at hs
  ·rename_i b o e1
   obtain⟨cs,hcs,hs⟩:=qb hs;split at hs
   ·rename_i hcond
    obtain⟨hgood,hcl,hle⟩:=hcond;rw[e1]at hx;simp only[Rd]at hx;obtain⟨gb,hgb,hx⟩:=hx;obtain⟨e0,cs⟩:=cs;obtain⟨hcs,_,g',vs,e,b1,b2,b3,b4,b5,e00⟩:=R.bx.cells hcs;rw[hgb]at b1;cases b1;dsimp only at e00 b3 hle;subst e00;obtain⟨c1,c2⟩:=z08 hy hgood;have hul:(a.eval y).cells.toList.length=n:=by rw[c1.length,hcl]
    have hvl:=b3.length;have hrun:(execOp a.eval ⟨none,.store t x y,ty,pos,after,guard⟩).run P w=.ok .skip (w.setRow gb (vs.take o++(a.eval y).cells.toList++vs.drop (o+n)).toArray):=by
     have hst:=run_storeCells_at P gb o e0 (a.eval y).cells.toList 0 vs.toArray w b2 (by rw[hul,wa6];simp;omega) c2;rw[wa6,hul]at hst;have hz:¬((a.eval y).cells.size≠n):=by rw[<-wb5,hul];simp
     show(do (do storeVar t (<-Instr.sureAddr (a.eval x)) (a.eval y));pure Next.skip:Sem Next).run P w=_;simp only[wav,hx,Instr.sureAddr,wbg,waw,storeVar,run_sizeOf hn];rw[if_neg hz];simp only[hst,waw]
    have fin:∀(K':Option Nat)(st1:St),(∀s,K'=some s->∃v p,(a.eval y).cells.toList=[v]/\(y'.ev st.sl).cells=[p]/\(Loc.slot s∈st.ow/\a.tmps.getD s undef=v/\look st.sl s=p))->
     st1.sl=st.sl->st1.bx=st.bx.set b (e0,cs.take o++(y'.ev st.sl).cells++cs.drop (o+n))->
     (∀L∈st1.ow,(L∈st.ow/\ze0 b o n L=false/\∀s,K'=some s->L≠.slot s)\/(L=.cell b o/\(K'.isSome\/((a.eval y).cells.toList=[.slice none 0 0]/\(y'.ev st.sl).cells=[.slc 0 []]))))->
     (∀q∈st1.al,q∈st.al/\ze0 b o n q.2=false)->
     st'={st1 with bx:=st.bx.set b (e0,cs.take o++(y'.ev st.sl).cells.map wk++cs.drop (o+n)),ow:=za5 b o (y'.ev st.sl).cells++st1.ow}->Oper.wpIn (fw r) 0 P ⟨none,.store t x y,ty,pos,after,guard⟩ a w K Q:=fun K' st1 k1 k2 k3 k4 k5 k6=>by
     obtain⟨R',hl'⟩:=R.store hcs hgb b2 b3 b4 c1 c2 hul hn1 hle K' k1 st1 k2 k3 k4 k5;have hlt:=(qg hcs).1;have hto:(cs.take o).length=o:=by rw[wa2];omega
     have R2:=R'.wkCells (b:=b) (e:=e0) (pre:=cs.take o) (mid:=(y'.ev st.sl).cells) (post:=cs.drop (o+n)) (by rw[k3,wbp hlt]);rw[hto,k3,wcb]at R2;rw[k6]at hK;exact upon_skip hrun (hK _ _ (Rl.of (S:=S) R2 hl hl'))
    have memf:∀L,L∈st.ow.filter (fun L=>!ze0 b o n L)->L∈st.ow/\ze0 b o n L=false:=fun L hL=>by simpa using hL
    have mema:∀q,q∈st.al.filter (fun p=>!ze0 b o n p.2)->q∈st.al/\ze0 b o n q.2=false:=fun q hq=>by simpa using hq
    cases y' with
    |t s=>
     dsimp only at hs;split at hs
     ·rename_i hown
      cases hs;obtain⟨v,p,k1,k2,k3⟩:=R.own _ hown;obtain⟨nn,cc,hpe,hvv⟩:=k3;simp only[pvAt,war]at k2;simp only[zay,war]at k1;have hye:a.eval y=v:=by rw[z1c hy',<-k1];rfl
      have hvc:v.cells=#[v]:=by
       rcases hvv with h|⟨_,_,_,_,_,h,_⟩<;>rw[h]<;>rfl
      have hpc:((X.t s).ev st.sl).cells=[p]:=by
       show(look st.sl s).cells=[p];rw[k2,hpe];rfl
      have hnil:za5 b o ((X.t s).ev st.sl).cells=[]:=by rw[hpc,hpe];rfl
      refine fin (some s) {st with bx:=st.bx.set b (e0,cs.take o++((X.t s).ev st.sl).cells++cs.drop (o+n)),ow:=.cell b o::zac s (st.ow.filter fun L=>!ze0 b o n L),al:=za8 s (st.al.filter fun p=>!ze0 b o n p.2)} (fun s' e'=>?_) rfl rfl (fun L hL=>?_) (fun q hq=>?_) ?_
      ·cases e'
       exact⟨v,p,by rw[hye,hvc],hpc,hown,k1,k2⟩
      ·rcases waq.1 hL with rfl|hL
       ·exact .inr ⟨rfl,.inl rfl⟩
       ·obtain⟨m1,m2⟩:=zco.1 hL
        obtain⟨m3,m4⟩:=memf L m1;exact .inl ⟨m3,m4,fun s' e'=>by cases e';exact zmx m2⟩
      ·obtain⟨m1,m2,m3⟩:=zgw.1 hq
       exact mema q m1
      ·rw[hnil];rfl
     ·cases hs
      exact fin none {st with bx:=st.bx.set b (e0,cs.take o++((X.t s).ev st.sl).cells++cs.drop (o+n)),ow:=st.ow.filter fun L=>!ze0 b o n L,al:=st.al.filter fun p=>!ze0 b o n p.2} (fun _ e=>by cases e) rfl rfl (fun L hL=>.inl ⟨(memf L hL).1,(memf L hL).2,fun _ e=>by cases e⟩) (fun q hq=>mema q hq) rfl
    |c pv=>
     cases hs;exact fin none {st with bx:=st.bx.set b (e0,cs.take o++((X.c pv).ev st.sl).cells++cs.drop (o+n)),ow:=st.ow.filter fun L=>!ze0 b o n L,al:=st.al.filter fun p=>!ze0 b o n p.2} (fun _ e=>by cases e) rfl rfl (fun L hL=>.inl ⟨(memf L hL).1,(memf L hL).2,fun _ e=>by cases e⟩) (fun q hq=>mema q hq) rfl
   ·cases hs
  ·cases hs
 |call cl=>
  obtain⟨callee,args,ats⟩:=cl;cases callee with
  |value f=>cases hc
  |invoke r m=>cases hc
  |builtin b=>
   cases b with
   |append=>
    simp only[yby]at hc;split at hc
    ·rename_i x y t t' e1 e2
     have ea:args=#[x,y]:=by apply wba;rw[e1]
     have et:ats=#[t,t']:=by apply wba;rw[e2]
     subst ea;subst et;clear e1 e2;split at hc
     ·rename_i e ht hk
      obtain⟨i,hi,hc⟩:=qb hc;split at hc
      ·rename_i hcond
       obtain⟨heU,hsz1,hby,hzz⟩:=hcond;obtain⟨z,hz,hzs⟩:=qm hzz;obtain⟨x',hx',hc⟩:=qb hc;obtain⟨y',hy',rfl⟩:=qm hc;clear hc;have hx:=zbo R.sl hx';have hy:=zbo R.sl hy';have hsr:∀zs:ByteArray,y'.ev st.sl=.flat (.string zs)->Src P i.size t' (a.eval y) zs.size (byteCells zs) w/\Rds w Fr β (zhh zs) (byteCells zs)/\(zhh zs).length=zs.size/\zj1 (zhh zs)=true:=fun zs e2=>by
        rw[e2]at hy;obtain⟨hy,_⟩:=zbc hy;have hnr:Rds w Fr β (zhh zs) (byteCells zs):=by
         unfold zhh byteCells;generalize zs.data.toList=l
         induction l with
         |nil=>simp[Rds]
         |cons c l ih=>simp only[wax,Rds];exact⟨_,_,rfl,zdd rfl,ih⟩
        exact⟨by rw[hy,hsz1];exact Src.ofString w hk zs,hnr,by rw[<-hnr.length];exact byteCells_length zs,by
         unfold zhh;generalize zs.data.toList=l
         induction l with
         |nil=>rfl
         |cons c l ih=>simp only[wax,zj1,ih];rfl⟩
       have run:∀v v' w',a.eval x=v->(Builtin.append_ #[t,t'] ty #[v,a.eval y]).run P w=.ok v' w'->(execOp a.eval ⟨dst,.call {callee:=.builtin .append,args:=#[x,y],argTypes:=#[t,t']},ty,pos,after,guard⟩).run P w=.ok (.value v') w':=fun v v' w' hxv hrun=>by
        have e9:Array.map a.eval #[x,y]=#[v,a.eval y]:=by simp[hxv]
        show(do let d <-resolve a.eval ⟨.builtin .append,#[x,y],#[t,t']⟩ ty;invoke d.target d.args:Sem Next).run P w=_;simp only[resolve,wav,wbg,waw,invoke,builtin,e9,hrun]
       simp only[zaa]at hs;split at hs
       ·rename_i hnx
        rw[zmy hnx]at hx;obtain⟨hx,_⟩:=zbc hx;split at hs
        ·rename_i zs e2
         split at hs
         ·rename_i hb
          obtain⟨d,rfl,rfl⟩:=qm hs;obtain⟨hsrc,hnr,hbl,hu⟩:=hsr zs e2;split at hK
          ·rename_i h0
           rw[h0]at hsrc;have hc0:byteCells zs=[]:=qz (by rw[byteCells_length,h0]);rw[hc0]at hsrc;exact zc9 (run _ _ _ hx (zim t t' ty e i ht hi (a.eval y) (byteCells zs) (by rw[hc0];exact hsrc))) (hK _ _ ⟨Fr,β,R.put (hd d rfl) (zdd rfl),hl⟩)
          ·obtain⟨v',w',Fr',hrun,A⟩:=zoc (P:=P) (ty:=ty) ht hi hz hzs (by omega) hby (yd6 (w:=w) (Fr:=Fr) (β:=β)) z1b hsrc hnr hsrc.one (by simp) (by rw[hsz1];omega) (.inl ⟨heU,rfl⟩) (by unfold bound at*;omega)
           rw[wbx,wa5]at A;exact zc9 (run _ _ _ hx hrun) (hK _ _ (Rl.of (S:=S) (R.putOwn ⟨A.os,A.tape,A.output,A.le.size,fun k hk=>(A.old k hk (by simp[Value.ownBlock])).1⟩ (fun k hk=>(A.old k hk (by simp[Value.ownBlock])).2) (hd d rfl) A.rd A.own (fun k hk=>(A.blk k hk).resolve_left (by simp[Value.ownBlock]))) hl A.le))
         ·cases hs
        ·cases hs
       ·cases x' with
        |c pv=>cases hs
        |t s=>
         dsimp only at hs;obtain⟨L,e3,hs2⟩:=qb hs;obtain⟨d,hdst,hs3⟩:=qb hs2;clear hs hs2;subst hdst;split at hs3
         ·rename_i n cs zs e1 e2
          split at hs3
          ·rename_i hcond
           obtain⟨hb,hcl,hin,hu8⟩:=hcond;obtain⟨v,p,k1,k2,how⟩:=R.own L hin;rw[e1]at k2;cases k2;have hxv:a.eval x=v:=by
            have:=zy8 R e3;rw[k1]at this;rw[z1c hx'];exact(wb9 this).symm
           have hrx:=R.rdAt k1 e1;obtain⟨hsrc,hnr,hbl,hu⟩:=hsr zs e2;obtain⟨v',w',Fr',hrun,A⟩:=zoc (ty:=ty) ht hi hz hzs (by omega) hby hrx how hsrc hnr hsrc.one (by rw[hsz1];omega) (by rw[hsz1];omega) (.inl ⟨heU,hu8⟩) hb;cases hs3;exact zc9 (run _ _ _ hxv hrun) (hK _ _ (Rl.of (S:=S) (R.appended (hd d rfl) hin k1 A) hl A.le))
          ·cases hs3
         ·cases hs3
      ·cases hc
     ·rename_i e e' ht hk
      obtain⟨i,hi,hc⟩:=qb hc;split at hc
      ·rename_i hcond
       obtain⟨hsz,hby,hzz⟩:=hcond;obtain⟨z,hz,hzs⟩:=qm hzz;obtain⟨x',hx',hc⟩:=qb hc;obtain⟨y',hy',rfl⟩:=qm hc;clear hc;have hx:=zbo R.sl hx';have hy:=Rd.weak _ _ (zbo R.sl hy');have run:∀v v' w',a.eval x=v->(Builtin.append_ #[t,t'] ty #[v,a.eval y]).run P w=.ok v' w'->(execOp a.eval ⟨dst,.call {callee:=.builtin .append,args:=#[x,y],argTypes:=#[t,t']},ty,pos,after,guard⟩).run P w=.ok (.value v') w':=fun v v' w' hxv hrun=>by
        have e9:Array.map a.eval #[x,y]=#[v,a.eval y]:=by simp[hxv]
        show(do let d <-resolve a.eval ⟨.builtin .append,#[x,y],#[t,t']⟩ ty;invoke d.target d.args:Sem Next).run P w=_;simp only[resolve,wav,wbg,waw,invoke,builtin,e9,hrun]
       have h8:∀cs ds,tyOk (e==U8 P) i.size cs ds=true->(e=U8 P/\zj1 cs=true)\/i.size≠1\/(noU8 cs=true/\noU8 ds=true):=fun cs ds h=>by
        unfold tyOk at h;split at h
        ·rename_i h9;exact .inl ⟨by simpa using h9,h⟩
        ·simp only[wcc,wb1,bne_iff_ne]at h;exact .inr h
       simp only[zaa]at hs;split at hs
       ·rename_i hnx
        rw[zmy hnx]at hx;obtain⟨hx,_⟩:=zbc hx;split at hs
        ·rename_i m ds e2
         split at hs
         ·rename_i hcond
          obtain⟨hb,hdl,hty⟩:=hcond;obtain⟨d,rfl,rfl⟩:=qm hs;rw[e2]at hy;obtain⟨news,hsrc,hnr,hno⟩:=ypu hk hy hdl;split at hK
          ·rename_i h0
           subst h0;exact zc9 (run _ _ _ hx (zim t t' ty e i ht hi (a.eval y) news hsrc)) (hK _ _ ⟨Fr,β,R.put (hd d rfl) (zdd rfl),hl⟩)
          ·obtain⟨v',w',Fr',hrun,A⟩:=zoc (P:=P) (ty:=ty) ht hi hz hzs hsz hby (yd6 (w:=w) (Fr:=Fr) (β:=β)) z1b hsrc hnr hno (by simp) hdl (h8 _ _ hty) (by unfold bound at*;omega)
           rw[wbx,wa5]at A;exact zc9 (run _ _ _ hx hrun) (hK _ _ (Rl.of (S:=S) (R.putOwn ⟨A.os,A.tape,A.output,A.le.size,fun k hk=>(A.old k hk (by simp[Value.ownBlock])).1⟩ (fun k hk=>(A.old k hk (by simp[Value.ownBlock])).2) (hd d rfl) A.rd A.own (fun k hk=>(A.blk k hk).resolve_left (by simp[Value.ownBlock]))) hl A.le))
         ·cases hs
        ·cases hs
       ·cases x' with
        |c pv=>cases hs
        |t s=>
         dsimp only at hs;obtain⟨L,e3,hs2⟩:=qb hs;obtain⟨d,hdst,hs3⟩:=qb hs2;clear hs hs2;subst hdst;split at hs3
         ·rename_i n cs m ds e1 e2
          split at hs3
          ·rename_i hcond
           obtain⟨hb,hcl,hdl,hin,hty⟩:=hcond;obtain⟨v,p,k1,k2,how⟩:=R.own L hin;rw[e1]at k2;cases k2;have hxv:a.eval x=v:=by
            have:=zy8 R e3;rw[k1]at this;rw[z1c hx'];exact(wb9 this).symm
           have hrx:=R.rdAt k1 e1;rw[e2]at hy;obtain⟨news,hsrc,hnr,hno⟩:=ypu hk hy hdl;obtain⟨v',w',Fr',hrun,A⟩:=zoc (ty:=ty) ht hi hz hzs hsz hby hrx how hsrc hnr hno hcl hdl (h8 _ _ hty) hb;cases hs3;exact zc9 (run _ _ _ hxv hrun) (hK _ _ (Rl.of (S:=S) (R.appended (hd d rfl) hin k1 A) hl A.le))
          ·cases hs3
         ·cases hs3
      ·cases hc
     ·cases hc
    ·cases hc
   |_=>cases hc
 |_=>cases hc
end
end Nun
end

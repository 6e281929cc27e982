/- Texts of this proof, merged. -/
import Derived.KernelRfl
import Derived.Calls
import Derived.Below
import Derived.Still
import Derived.Laws.AppendOwn
import Derived.RangeFuncRecord
import Derived.Laws.Entries
import Derived.Laws.Cells
import Derived.Laws.IdiomStrings
import Derived.Lib.Strings
import Derived.Laws.BytesArg
import Derived.Deep.AppendSrc
import Derived.RangeFuncIn
import Derived.OrdersIn
import Derived.Orders
import Derived.ReadAgain
import Derived.ChangeSame
import Derived.ChangeReads
import Derived.DataReads
import Derived.WideShapes
set_option linter.all false
open Go Go.RowKit
def aa{p:Prop}(h:p:=by omega):p:=h
def ea{p:Prop}(h:p:=by simp):p:=h
def ha{p:Prop}(h:p:=by decide):p:=h
def ca{p:Prop}(h:p:=by kernel_rfl):p:=h
def Fb{p:Prop}(h:p:=by decide+kernel):p:=h
def ra{p:Prop}(h:p:=by rfl):p:=h
def Ma{p:Prop}(h:p:=by simp;omega):p:=h
def na{p:Prop}(h:p:=by grind):p:=h
def Hg{p:Prop}(h:p:=by dsimp only;omega):p:=h
def bh{p:Prop}(h:p:=by simp_all):p:=h
def zw:=@Option.bind_eq_some_iff
def QA:=@Option.map_eq_some_iff
def ql:=@List.getElem?_append_left
def Aa:=@Nat.le_refl
def Xf:=@Nat.le_trans
def mh:=@Nat.lt_of_lt_of_le
def Et:=@Go.World.block_lt_of_cell?
def ua:=@List.length_cons
def Aw:=@List.take_succ_cons
def Zl:=@List.drop_succ_cons
def Ha:=@List.cons_append
def RA:=@List.mem_of_mem_take
def Ue:=@List.mem_append
def kg:=@List.getElem?_drop
def nh:=@List.mem_of_getElem?
def Kh:=@Array.getElem?_eq_some_iff
def po:=@Array.getD_eq_getD_getElem?
def wb:=@List.mem_cons
def fd:=@Option.map_some
def Wb:=@Option.some.injEq
def Qb:=@Go.Sem.run_bind
def Rb:=@Go.Result.andThen_ok
def gc:=@List.map_cons
def Cg:=@List.foldl_cons
def tk:=@Nat.add_assoc
def oo:=@List.take_succ_eq_append_getElem
def Dt:=@List.set_append_right
def Se:=@List.length_take
def pi:=@Nat.add_zero
def Qp:=@List.mapM_cons
def Bg:=@List.all_eq_true
def fc:=@List.length_drop
def yd:=@List.drop_drop
def sk:=@Bool.and_true
def La:=@Bool.false_eq_true
def am:=@Bool.not_true
def gn:=@Bool.not_false
def Lh:=@Go.Sem.run_pure
def qi:=@Array.ext'
def Ra:=@List.nil_append
def vk:=@List.getElem?_cons_succ
def rl:=@List.map_congr_left
def so:=@List.mem_singleton
def Kc:=@List.length_set
def WA:=@List.getElem?_set_ne
def Yf:=@Ne.symm
def vc:=@List.append_assoc
def Pf:=@List.getElem?_append_right
def ri:=@Nat.add_sub_cancel_left
def Tg:=@List.getElem?_set_self
def Ja:=@Option.bind_some
def jn:=@List.length_map
def XA:=@List.getElem?_map
def si:=@List.mem_map
def Yc:=@List.mem_filter
def Dr:=@List.cons.injEq
def Ba:=@List.length_append
def bc:=@Bool.and_eq_true
def Dw:=@Array.length_toList
def ld:=@Nat.zero_add
def YA:=@Array.getElem?_toList
def UA:=@List.getD_eq_getElem?_getD
def qo:=@List.set_set
def jf:=@Option.some.inj
def VA:=@List.filter_eq_self
def Bw:=@List.mem_filterMap
def Ri:=@List.mem_range
def yf:=@List.drop_zero
def uk:=@List.take_of_length_le
def Sg:=@List.append_nil
def ro:=@List.getElem?_cons_zero
def Gt:=@Classical.byContradiction
def aB:=@Option.isSome_iff_exists
def Sp:=@Bool.or_eq_true
def Ew:=@List.getElem?_take_of_lt
def Pd:=@List.drop_eq_getElem_cons
def Mh:=@Nat.lt_or_ge
def xk:=@List.drop_eq_nil_iff
def Ht:=@Array.getElem?_eq_getElem
def bm:=@List.filter_filter
def uo:=@List.filter_congr
def VI:=@List.length_filter_lt_length_iff_exists
def kn:=@List.mem_cons_of_mem
def Ug:=@Bool.false_or
def It:=@List.mem_cons_self
def Fw:=@Bool.not_eq_true'
def ln:=@Go.World.size_alloc
def Cb:=@Nat.zero_le
def Si:=@Nat.le_max_left
def yk:=@Nat.le_max_right
def wct:=@List.take_append_drop
def zk:=@List.all_cons
def Qf:=@List.getElem?_eq_none
def Ti:=@Option.map_none
def Ca:=@List.length_nil
def Gw:=@List.set_cons_zero
def od:=@Bool.true_and
def Zh:=@Bool.and_false
def De:=@Bool.false_and
def ZA:=@Int.cast_ofNat_Int
def Ft:=@ByteArray.ext
def UI:=@Nat.shiftLeft_add_eq_or_of_lt
def tl:=@List.isPrefixOf_iff_prefix
def Xb:=@UInt8.toNat_inj
def Rp:=@Int.ofNat_le
def Er:=@Int.ofNat_inj
def ic:=@Int.toNat_natCast
def cm:=@List.take_length
def nn:=@Bool.or_true
def Up:=@Bool.true_or
def pn:=@Bool.or_false
def Ee:=@Int.natCast_add
def qn:=@Int.natCast_one
def Jw:=@List.drop_append_of_le_length
def Ve:=@List.map_nil
def Gr:=@Nat.pow_le_pow_right
def Vp:=@List.drop_length
def Jt:=@Nat.and_two_pow_sub_one_eq_mod
def Kt:=@Go.Oper.upon_value
def vo:=@Bool.eq_false_iff
def Hr:=@List.drop_eq_nil_of_le
def Ir:=@Bool.eq_iff_iff
def Zf:=@List.map_append
def Kw:=@Bool.not_eq_false
def Nh:=@Bool.eq_false_or_eq_true
def ul:=@List.getElem?_eq_none_iff
def Jr:=@List.drop_take
def Vg:=@List.flatMap_nil
def Lt:=@List.length_singleton
def dm:=@List.map_drop
def fm:=@List.flatMap_cons
def Mt:=@List.drop_left
def Nt:=@List.not_mem_nil
def Ej:=@List.drop_of_length_le
def pb:=@Classical.em
def bB:=@Bool.or_eq_false_iff
def Hw:=@List.takeWhile_prefix
def Dg:=@Bool.and_self
def Iw:=@Bool.true_eq_false
def cB:=@Go.World.ownsRow_nil
def dB:=@ByteArray.size_extract
def mn:=@ByteArray.toList_data_append
def Tp:=@ByteArray.size_append
def Ot:=@List.foldlM_cons
def Mw:=@List.all_append
def eB:=@UInt8.le_iff_toNat_le
def fB:=@List.dropWhile_cons
def Nw:=@List.size_toArray
def Ow:=@Array.replicate_succ
def Pw:=@Array.replicate_zero
def Qw:=@List.push_toArray
def Rw:=@List.append_toArray
def Eg:=@List.map_singleton
def Pt:=@Classical.choose_spec
def Kr:=@List.range_succ
def qa{a b:Nat}(h:Nat.ble a b=true):a<=b:=Nat.le_of_ble_eq_true h
def qb{α β:Type _}{x:Option α}{f:α->Option β}{b:β}(h:x.bind f=some b):∃a,x=some a/\f a=some b:=zw.1 h
def qm{α β:Type _}{x:Option α}{f:α->β}{b:β}(h:x.map f=some b):∃a,x=some a/\f a=b:=QA.1 h
def qz{α:Type _}{l:List α}(h:l.length=0):l=[]:=List.eq_nil_of_length_eq_zero h
def qg{α:Type _}{l:List α}{i:Nat}{a:α}(h:l[i]?=some a):∃k:i<l.length,l[i]=a:=List.getElem?_eq_some_iff.1 h
def qe{α:Type _}{l:List α}{i:Nat}(h:i<l.length):l[i]?=some l[i]:=List.getElem?_eq_getElem h
namespace ya
inductive Ww where
 | exit (id:Nat)
 | ret
inductive gq where
 | ready
 | busy
 | done (j:Ww)
 | over
inductive PV where
 | Hd
 | flat (v:Value)
 | ia (len:Nat) (cells:List PV)
 | agg (cells:List PV)
 | Jc (vs:List PV)
 | ptr (b off:Nat)
 | vd (cells:List PV)
 | ib (f:FuncId) (fb:List PV)
 | tag (k:Nat) (cs:List PV)
 | Sa (b:Nat)
 | ve (b off n:Nat)
 | lp (f k:Nat) (s:gq) (live:List Nat) (snap:List PV)
 deriving Inhabited
inductive Loc where
 | slot (i:Nat)
 | cell (b j:Nat)
 deriving DecidableEq
abbrev Oa:=List (Nat×List PV)
structure St where
 sl:List (Nat × PV)
 ow:List Loc
 al:List (Nat × Loc)
 bx:Oa
inductive X where
 | t (i:Nat)
 | c (v:PV)
inductive LK where
 | b
 | s
 | i (k:IntKind)
 deriving DecidableEq
inductive Ea where
 | mv (x:X)
 | mvA (s:Nat)
 | asg (x:X)
 | pick (c a b:X)
 | bin (op:BinOp) (x y:X)
 | beq (ne:Bool) (x y:X)
 | Cn (ne:Bool) (ks:List LK) (x y:X)
 | jr (x:X)
 | Um (x:X)
 | un (op:UnOp) (x:X)
 | conv (k:IntKind) (x:X)
 | b2s (x:X)
 | alloc (e:Nat) (zs:List PV)
 | box (e n:Nat) (x:X)
 | build (zs:List PV) (parts:List (Nat × Nat × X))
 | mksl (byte:Bool) (len size:Nat) (zs:List PV) (parts:List (Nat × Nat × X))
 | load (agg:Bool) (n:Nat) (a:X)
 | loadA (a:X)
 | loadM (a:X)
 | store (n:Nat) (a x:X)
 | fp (off:Nat) (a:X)
 | In (agg:Bool) (off n:Nat) (x:X)
 | Rk (size:Nat) (x i:X)
 | idx (x i:X)
 | Lm (agg:Bool) (len size:Nat) (x i:X)
 | Yn (len size:Nat) (x i:X)
 | sliceP (len size:Nat) (x:X) (lo hi:Option X)
 | appendS (x y:X)
 | slice (size:Nat) (x:X) (lo hi:Option X)
 | sliceS (x:X) (lo hi:Option X)
 | ext (x:X) (i:Nat)
 | len (x:X)
 | tp (x:X)
 | append (byte:Bool) (size:Nat) (x y:X)
 | mm (mx:Bool) (x y:X)
 | call (f:FuncId) (args:List X)
 | callv (g:X) (args:List X)
 | clos (f:FuncId) (fb:List X)
 | mkt (k:Nat) (cs:List X)
 | calli (Eh:List (Nat × Nat)) (x:X) (args:List X)
structure Wa where
 dst:Option Nat
 g:Option (Nat × Bool)
 op:Ea
inductive BT where
 | done
 | one (o:Wa) (t:BT)
 | two (o:Wa) (t r:BT)
inductive ka where
 | skip
 | Ab (live:List Nat) (pre tail:List Wa)
 | Od (live:List Nat) (pre:List Wa) (t:BT)
 | seq (a b:ka)
 | cond (c:X) (a b:ka)
 | block (id:Nat) (b:ka)
 | loop (live:List Nat) (b:ka)
 | range (f k:Nat) (live:List Nat) (g:X)
 | exit (id:Nat) (live:List Nat)
 | ret (live:List Nat)
def Bc:Value->Bool
 | .bool _| .int .. | .string _| .pointer none| .nilFunc| .nilIface| .slice none 0 0=>true
 |_=>false
def ofValue:Value->PV
 | .slice none 0 0=>.flat (.slice none 0 0)
 | .bool b=>.flat (.bool b)
 | .int k n=>.flat (.int k n)
 | .string s=>.flat (.string s)
 | .pointer none=>.flat (.pointer none)
 | .nilFunc=>.flat .nilFunc
 | .nilIface=>.flat .nilIface
 |_=>.Hd
mutual
def PV.pj:PV->Bool
 | .flat _=>true
 | .ia _ cs| .agg cs| .Jc cs| .vd cs| .tag _ cs=>Ib cs
 |_=>false
def Ib:List PV->Bool
 |[]=>true
 |v::r=>v.pj&&Ib r
end
mutual
def PV.low(nb:Nat):PV->Bool
 | .ptr b _=>decide (b<nb)
 | .ia _ cs| .agg cs| .Jc cs| .vd cs| .ib _ cs| .tag _ cs| .lp _ _ _ _ cs=>Ia nb cs
 | .Sa b| .ve b _ _=>decide (b<nb)
 |_=>true
def Ia(nb:Nat):List PV->Bool
 |[]=>true
 |v::r=>v.low nb&&Ia nb r
end
def trim(nb:Nat)(vs:List PV)(bx:Oa):Oa:=if bx.length=nb then bx else if Ia nb vs&&(bx.take nb).all (fun q=>Ia nb q.2)then bx.take nb else bx
def Tq:List PV->Bool
 | .lp _ _ _ _ _::_=>true
 |_=>false
def td(bx:Oa)(b:Nat):Option (Nat×List PV):=(bx[b]?).bind fun q=>if Tq q.2 then none else some q
theorem KC{bx z}{b}{cs}(h:td bx b=some cs):td (bx++z) b=some cs:=by
 unfold td at h⊢;obtain⟨c,a,d⟩:=qb h;rw[ql (qg a).1,a];exact d
def Dc:PV->Bool
 | .flat (.slice none 0 0)=>true
 |_=>false
def wk(p:PV):PV:=if Dc p then .ia 0 []else p
def zd:List PV->List PV
 |[]=>[]
 |p::r=>wk p::zd r
def PV.jb:PV->PV
 | .flat v=>wk (.flat v)
 | .agg cs=>.agg (zd cs)
 |p=>p
def Zc(b:Nat):Nat->List PV->List Loc
 |_,[]=>[]
 |o,p::r=>if Dc p then .cell b o::Zc b (o+1) r else Zc b (o+1) r
def Ll(ps:List PV):Bool:=ps.all fun p=>!Dc p
def dh:PV->Bool
 | .flat (.int .u8 _)=>true
 |_=>false
def sd:List PV->Bool
 |[]=>true
 |p::r=>!dh p&&sd r
def ng:List PV->Bool
 |[]=>true
 |p::r=>dh p&&ng r
def Xl(a:Bool)(size:Nat)(cs b:List PV):Bool:=if a then ng cs else size !=1||(sd cs&&sd b)
def look:List (Nat×PV)->Nat->PV
 |[],_=>.Hd
 |(j,v)::r,i=>if j=i then v else look r i
def X.ev(sl:List (Nat×PV)):X->PV
 | .t i=>look sl i
 | .c v=>v
def za:Nat:=4294967296
def He{p:Prop}(h:p:=by unfold za;omega):p:=h
def Tc(op:BinOp):Value->Value->Option Value
 | .int k a,.int k' b=>
   match op with
   | .shl=>if b<0 then none else some (.int k (k.wrap (a* 2^(min b.toNat k.bits))))
   | .shr=>if b<0 then none else some (.int k (a.fdiv (2^(min b.toNat k.bits))))
   |op=>if k≠k' then none else
    match op with
    | .add=>some (.int k (k.wrap (a+b)))
    | .sub=>some (.int k (k.wrap (a - b)))
    | .mul=>some (.int k (k.wrap (a* b)))
    | .quo=>if b=0 then none else some (.int k (k.wrap (a.tdiv b)))
    | .rem=>if b=0 then none else some (.int k (a.tmod b))
    | .and=>some (.int k (k.wrap (BitVec.ofInt k.bits a&&&BitVec.ofInt k.bits b).toNat))
    | .or=>some (.int k (k.wrap (BitVec.ofInt k.bits a|||BitVec.ofInt k.bits b).toNat))
    | .xor=>some (.int k (k.wrap (BitVec.ofInt k.bits a ^^^ BitVec.ofInt k.bits b).toNat))
    | .andNot=>some (.int k (k.wrap (BitVec.ofInt k.bits a&&&~~~(BitVec.ofInt k.bits b)).toNat))
    | .eql=>some (.bool (a==b))
    | .neq=>some (.bool (a !=b))
    | .lss=>some (.bool (a<b))
    | .leq=>some (.bool (a<=b))
    | .gtr=>some (.bool (a>b))
    | .geq=>some (.bool (a>=b))
    |_=>none
 | .string a,.string b=>
   match op with
   | .add=>if a.size+b.size<=za then some (.string (a++b))else none
   | .eql=>some (.bool (a.toList==b.toList))
   | .neq=>some (.bool !(a.toList==b.toList))
   | .lss=>some (.bool (Op.bytesLess a.toList b.toList))
   | .leq=>some (.bool (Op.bytesLess a.toList b.toList||a.toList==b.toList))
   | .gtr=>some (.bool !(Op.bytesLess a.toList b.toList||a.toList==b.toList))
   | .geq=>some (.bool !Op.bytesLess a.toList b.toList)
   |_=>none
 |_,_=>none
def ip(op:UnOp):Value->Option Value
 | .int k n=>match op with
   | .neg=>some (.int k (k.wrap (0 - n)))
   |_=>none
 | .bool b=>match op with
   | .not=>some (.bool !b)
   |_=>none
 |_=>none
def PV.cells:PV->List PV
 | .agg cs=>cs
 |v=>[v]
def PV.fi:PV->Bool
 | .Hd| .Jc _| .lp ..=>false
 |_=>true
def zi:List PV->List (Nat×Nat×PV)->Option (List PV)
 |cs,[]=>some cs
 |cs,(o,n,v)::r=>if v.fi=true/\v.cells.length=n/\o+n<=cs.length then zi (cs.take o++v.cells++cs.drop (o+n)) r else none
def Rq:PV->Option Int
 | .flat (.int _ n)=>some n
 |_=>none
def bytesOf:List PV->Option (List UInt8)
 |[]=>some []
 | .flat (.int .u8 n)::r=>if 0<=n/\n<256 then(bytesOf r).map (UInt8.ofNat n.toNat::·)else none
 |_=>none
def Mc:List LK->List PV->List PV->Option Bool
 |[],[],[]=>some true
 | .b::ks,.flat (.bool a)::cs,.flat (.bool b)::c=>(Mc ks cs c).map ((a==b)&& ·)
 | .s::ks,.flat (.string a)::cs,.flat (.string b)::c=>(Mc ks cs c).map ((a==b)&& ·)
 | .i k::ks,.flat (.int d a)::cs,.flat (.int e b)::c=>if d=k/\e=k then(Mc ks cs c).map ((a==b)&& ·)else none
 |_,_,_=>none
def Nf(len:Nat)(b a:Option PV):Option (Nat×Nat):=
 (match a with|none=>some len|some h=>(Rq h).bind fun h=>if 0<=h/\h<=len then some h.toNat else none).bind fun h=>
 (match b with|none=>some 0|some l=>(Rq l).bind fun l=>if 0<=l/\l<=h then some l.toNat else none).map fun l=>(l,h)
def cb:Ea->(X->PV)->Option PV
 | .mv x,ρ| .asg x,ρ=>some (ρ x)
 | .pick c a b,ρ=>match ρ c with| .flat (.bool t)=>some (if t then ρ a else ρ b)|_=>none
 | .bin op x y,ρ=>match ρ x,ρ y with| .flat a,.flat b=>(Tc op a b).map .flat|_,_=>none
 | .beq g x y,ρ=>match ρ x,ρ y with| .flat (.bool a),.flat (.bool b)=>some (.flat (.bool (if g then !(a==b)else a==b)))|_,_=>none
 | .Um x,ρ=>match ρ x with| .ptr b o=>some (.ptr b o)| .vd cs=>some (.vd cs)| .ib f cs=>some (.ib f cs)| .tag k cs=>some (.tag k cs)| .Sa b=>some (.Sa b)|_=>none
 | .un op x,ρ=>match ρ x with| .flat a=>(ip op a).map .flat|_=>none
 | .conv k x,ρ=>match ρ x with| .flat (.int _ n)=>some (.flat (.int k (k.wrap n)))|_=>none
 | .build zs ps,ρ=>(zi zs (ps.map fun q=>(q.1,q.2.1,ρ q.2.2))).map .agg
 | .fp o a,ρ=>match ρ a with| .ptr b h=>some (.ptr b (h+o))| .vd cs=>some (.vd (cs.drop o))|_=>none
 | .In true o n x,ρ=>match ρ x with| .agg cs=>if o+n<=cs.length then some (.agg ((cs.drop o).take n))else none|_=>none
 | .In false o _ x,ρ=>match ρ x with| .agg cs=>cs[o]?|_=>none
 | .Rk size x i,ρ=>match ρ x,ρ i with
   | .ia n cs,.flat (.int _ i)=>if 0<=i/\i<n then some (.vd (cs.drop (i.toNat* size)))else none
   | .ve b o n,.flat (.int _ i)=>if 0<=i/\i<n then some (.ptr b (o+i.toNat* size))else none
   |_,_=>none
 | .Yn len size x i,ρ=>match ρ x,ρ i with
   | .ptr b o,.flat (.int _ i)=>if 0<=i/\i<len then some (.ptr b (o+i.toNat* size))else none
   |_,_=>none
 | .Lm agg len size x i,ρ=>match ρ x,ρ i with
   | .agg cs,.flat (.int _ i)=>if 0<=i/\i<len/\i.toNat* size+size<=cs.length then(match agg with|true=>some (.agg ((cs.drop (i.toNat* size)).take size))|false=>cs[i.toNat* size]?)else none
   |_,_=>none
 | .sliceP len size x e d,ρ=>match ρ x with
   | .ptr b o=>(Nf len (e.map ρ) (d.map ρ)).map fun q=>.ve b (o+q.1* size) (q.2 - q.1)
   |_=>none
 | .idx x i,ρ=>match ρ x,ρ i with| .flat (.string s),.flat (.int _ i)=>if 0<=i then(s[i.toNat]?).map fun c=>.flat (.int .u8 c.toNat)else none|_,_=>none
 | .sliceS x e d,ρ=>match ρ x with
   | .flat (.string s)=>(Nf s.size (e.map ρ) (d.map ρ)).map fun q=>.flat (.string (s.extract q.1 q.2))
   |_=>none
 | .slice size x e d,ρ=>match ρ x with
   | .ia n cs=>if cs.length=n* size/\0<size then(Nf n (e.map ρ) (d.map ρ)).map fun q=>.ia (q.2 - q.1) ((cs.take (q.2* size)).drop (q.1* size))else none
   | .ve b o n=>(Nf n (e.map ρ) (d.map ρ)).map fun q=>.ve b (o+q.1* size) (q.2 - q.1)
   |_=>none
 | .ext x i,ρ=>match ρ x with| .Jc vs=>vs[i]?|_=>none
 | .len x,ρ=>match ρ x with| .ia n _| .ve _ _ n=>some (.flat (.int .i64 n))| .flat (.slice none 0 0)=>some (.flat (.int .i64 0))|_=>none
 | .tp x,ρ=>match ρ x with| .flat (.string s)=>some (.flat (.int .i64 s.size))|_=>none
 | .Cn g ks x y,ρ=>match ρ x,ρ y with| .agg cs,.agg h=>(Mc ks cs h).map fun t=>.flat (.bool (if g then !t else t))|_,_=>none
 | .jr x,ρ=>match ρ x with| .flat (.string s)=>some (.flat (.string s))|_=>none
 | .mm h x y,ρ=>match ρ x,ρ y with
   | .flat (.int k a),.flat (.int k' b)=>if k=k' then some (.flat (.int k (if h then(if b>a then b else a)else(if b<a then b else a))))else none
   |_,_=>none
 | .clos f cs,ρ=>some (.ib f (cs.map ρ))
 | .mkt k cs,ρ=>some (.tag k (cs.map ρ))
 |_,_=>none
def Vd(d:Nat):Loc->Bool
 | .slot i=>i==d
 | .cell ..=>false
def Va(d:Nat)(l:List Loc):List Loc:=l.filter fun L=>!Vd d L
def Jb(d:Nat)(l:List (Nat×Loc)):List (Nat×Loc):=l.filter fun p=>p.1 !=d&& !Vd d p.2
def St.put(st:St)(d:Nat)(v:PV):St:={st with sl:=(d,v)::st.sl,ow:=Va d st.ow,al:=Jb d st.al}
def St.Ic(st:St)(d:Nat)(v:PV):St:={st with sl:=(d,v)::st.sl,ow:=.slot d::Va d st.ow,al:=Jb d st.al}
def St.Nd(st:St):Option Nat->PV->St
 |none,_=>st
 |some d,v=>st.put d v
def Md(b o n:Nat):Loc->Bool
 | .slot _=>false
 | .cell a j=>a==b&&o<=j&&j<o+n
abbrev Fe:=List PV×Bool×Oa×List Loc
abbrev Callee:=FuncId->List PV->Oa->List Loc->Option Fe
def Da:Loc->Bool
 | .cell ..=>true
 |_=>false
def ed:List PV->PV
 |[v]=>v
 |vs=>.Jc vs
def Lc(cf:Callee)(st:St)(dst:Option Nat)(f:FuncId)(args:List PV):Option St:=
 (cf f args st.bx (st.ow.filter Da)).map fun(vs,os,bx,oc)=>
   let st':St:={st with bx,ow:=oc.filter Da++st.ow.filter (fun L=>!Da L),al:=st.al.filter fun p=>!Da p.2}
   match dst with
   |none=>st'
   |some d=>if os then st'.Ic d (ed vs)else st'.put d (ed vs)
def Sc(cf:Callee)(st:St)(dst:Option Nat)(f:FuncId)(args:List PV):Option St:=
 if Ib args then
  (cf f args [] []).bind fun(vs,os,_,_)=>if Ib vs then
    (match dst with
     |none=>some st
     |some d=>some (if os then st.Ic d (ed vs)else st.put d (ed vs)))else Lc cf st dst f args
 else Lc cf st dst f args
def kb:FuncId:=4611686018427387904
def bb(st:St):Loc->Option PV
 | .slot i=>some (look st.sl i)
 | .cell b j=>(st.bx[b]?).bind fun q=>q.2[j]?
def origin(st:St)(t:Nat):Option Loc:=
 if .slot t∈st.ow then some (.slot t)else(st.al.find? fun p=>p.1==t).map (·.2)
def Om(agg:Bool)(n:Nat)(p:PV)(bx:Oa):Option PV:=match p with
 | .vd cs=>if n<=cs.length then(match agg with|true=>some (.agg (cs.take n))|false=>cs[0]?)else none
 | .ptr b o=>(td bx b).bind fun q=>if o+n<=q.2.length then(match agg with|true=>some (.agg ((q.2.drop o).take n))|false=>q.2[o]?)else none
 |_=>none
def um(p:PV)(bx:Oa):Option PV:=match p with
 | .flat (.slice none 0 0)=>some (.flat (.string ⟨#[]⟩))
 | .ia n cs=>if cs.length=n then(bytesOf cs).map fun l=>.flat (.string ⟨l.toArray⟩)else none
 | .ve b o n=>(td bx b).bind fun q=>if o+n<=q.2.length then(bytesOf ((q.2.drop o).take n)).map fun l=>.flat (.string ⟨l.toArray⟩)else none
 |_=>none
def ci(s:ByteArray):List PV:=s.data.toList.map fun b=>.flat (.int .u8 b.toNat)
def oa(cf:Callee)(st:St)(dst:Option Nat)(op:Ea):Option St:=
 match op with
 | .mvA s=>dst.bind fun d=>if s=d then none else some {(st.put d (look st.sl s))with al:=(d,.slot s)::Jb d st.al}
 | .asg (.t s)=>match dst with
   |none=>none
   |some d=>if s=d then none else
    if .slot s∈st.ow then some {st with sl:=(d,look st.sl s)::st.sl,ow:=.slot d::Va s (Va d st.ow),al:=Jb s (Jb d st.al)}else some (st.put d (look st.sl s))
 | .alloc e zs=>dst.map fun d=>{(st.put d (.ptr st.bx.length 0))with bx:=st.bx++[(e,zs.map wk)],ow:=Zc st.bx.length 0 zs++Va d st.ow}
 | .box e n x=>dst.bind fun d=>if(x.ev st.sl).fi=true/\(x.ev st.sl).cells.length=n then some {(st.put d (.ptr st.bx.length 0))with bx:=st.bx++[(e,(x.ev st.sl).cells.map wk)],ow:=Zc st.bx.length 0 (x.ev st.sl).cells++Va d st.ow}else none
 | .mksl c n size zs ps=>dst.bind fun d=>(zi zs (ps.map fun q=>(q.1,q.2.1,q.2.2.ev st.sl))).bind fun cs=>if c=true\/size≠1\/sd (zd cs)=true then some (st.Ic d (.ia n (zd cs)))else none
 | .b2s x=>(um (x.ev st.sl) st.bx).map (st.Nd dst)
 | .load agg n a=>dst.bind fun d=>(Om agg n (a.ev st.sl) st.bx).map (st.put d)
 | .loadA a=>dst.bind fun d=>match a.ev st.sl with
   | .ptr b o=>((td st.bx b).bind fun q=>q.2[o]?).map fun v=>{(st.put d v)with al:=(d,.cell b o)::Jb d st.al}
   |_=>none
 | .loadM a=>dst.bind fun d=>match a.ev st.sl with
   | .ptr b o=>((td st.bx b).bind fun q=>q.2[o]?).bind fun v=>if .cell b o∈st.ow then some {(st.put d v)with ow:=.slot d::(Va d st.ow).filter (·≠.cell b o),al:=[]}else none
   |_=>none
 | .store n a x=>match dst,a.ev st.sl with
   |none,.ptr b o=>(td st.bx b).bind fun q=>if(x.ev st.sl).fi=true/\(x.ev st.sl).cells.length=n/\o+n<=q.2.length then
    let bx:=st.bx.set b (q.1,q.2.take o++(x.ev st.sl).cells.map wk++q.2.drop (o+n))
    let ow:=Zc b o (x.ev st.sl).cells++st.ow.filter fun L=>!Md b o n L
    let al:=st.al.filter fun p=>!Md b o n p.2
    match x with
    | .t s=>if .slot s∈st.ow then some {st with bx,ow:=.cell b o::Va s ow,al:=Jb s al}else some {st with bx,ow,al}
    | .c _=>some {st with bx,ow,al}
    else none
   |_,_=>none
 | .append c size x y=>if Dc (x.ev st.sl)then
  (match(y.ev st.sl).jb with
   | .ia m h=>if m<=za/\h.length=m* size/\Xl c size [] h=true then dst.map fun d=>if m=0 then st.put d (.flat (.slice none 0 0))else st.Ic d (.ia m h)else none
   |_=>none)
   else match x with
   | .t s=>(origin st s).bind fun L=>dst.bind fun d=>match bb st L,(y.ev st.sl).jb with
     |some (.ia n cs),.ia m h=>if n+m<=za/\cs.length=n* size/\h.length=m* size/\L∈st.ow/\Xl c size cs h=true then
      some {st with sl:=(d,.ia (n+m) (cs++h))::st.sl,ow:=.slot d::Va d (st.ow.filter (·≠L)),al:=Jb d (st.al.filter fun p=>p.2≠L)}else none
     |_,_=>none
   |_=>none
 | .appendS x y=>if Dc (x.ev st.sl)then
  (match y.ev st.sl with
   | .flat (.string z)=>if z.size<=za then dst.map fun d=>if z.size=0 then st.put d (.flat (.slice none 0 0))else st.Ic d (.ia z.size (ci z))else none
   |_=>none)
   else match x with
   | .t s=>(origin st s).bind fun L=>dst.bind fun d=>match bb st L,y.ev st.sl with
     |some (.ia n cs),.flat (.string z)=>if n+z.size<=za/\cs.length=n/\L∈st.ow/\ng cs=true then
      some {st with sl:=(d,.ia (n+z.size) (cs++ci z))::st.sl,ow:=.slot d::Va d (st.ow.filter (·≠L)),al:=Jb d (st.al.filter fun p=>p.2≠L)}else none
     |_,_=>none
   |_=>none
 | .call f args=>Sc cf st dst f (args.map fun x=>(x.ev st.sl).jb)
 | .callv g args=>match g.ev st.sl with
   | .ib f fb=>if f=kb then none else Sc cf st dst f ((args.map fun x=>(x.ev st.sl).jb)++fb)
   | .tag k cs=>if k % 2=0/\k/2≠kb then Sc cf st dst (k/2) (cs++args.map fun x=>(x.ev st.sl).jb)else none
   | .Sa b=>Lc cf st dst kb (.Sa b::args.map fun x=>(x.ev st.sl).jb)
   |_=>none
 | .calli Eh x args=>match x.ev st.sl with
   | .tag k [v]=>(Eh.lookup k).bind fun f=>if f=kb then none else Sc cf st dst f (v.jb::args.map fun x=>(x.ev st.sl).jb)
   |_=>none
 |op=>(cb op (·.ev st.sl)).map (st.Nd dst)
def xh(st:St):Option (Nat×Bool)->Option Bool
 |none=>some true
 |some (s,a)=>match look st.sl s with
  | .flat (.bool b)=>some (b==a)
  | .Jc []=>some false
  |_=>none
def stepG(cf:Callee)(st:St)(o:Wa):Option St:=(xh st o.g).bind fun b=>if b then oa cf st o.dst o.op else some (st.Nd o.dst (.Jc []))
def Hc(cf:Callee):List Wa->St->Option St
 |[],st=>some st
 |o::r,st=>(stepG cf st o).bind (Hc cf r)
def wj(cf:Callee)(f:FuncId)(args:List PV):Bool:=Ib args&&match cf f args [] []with
 |some (vs,_)=>Ib vs
 |none=>false
def ob(cf:Callee)(sl:List (Nat×PV)):Ea->Bool
 | .call f args=>wj cf f (args.map fun x=>(x.ev sl).jb)
 | .callv g args=>match g.ev sl with
   | .ib f fb=>f !=kb&&wj cf f ((args.map fun x=>(x.ev sl).jb)++fb)
   |_=>false
 | .alloc _ zs=>Ll zs
 | .box _ _ x=>Ll (x.ev sl).cells
 | .calli ..=>false
 |_=>true
def ce(cf:Callee)(st:St)(o:Wa):Option St:=(xh st o.g).bind fun b=>if b then(if ob cf st.sl o.op then oa cf st o.dst o.op else none)else some (st.Nd o.dst (.Jc []))
def tg(cf:Callee):List Wa->St->Option St
 |[],st=>some st
 |o::r,st=>(ce cf st o).bind (tg cf r)
open Classical in
noncomputable def same{α:Type}(a b:Option α):Option α:=if a=b then a else none
inductive Out where
 | normal
 | exit (id:Nat)
 | ret
def St.qr(st:St)(live:List Nat)(nb:Nat):St:=
 let bx:=trim nb (live.map (look st.sl)) st.bx
 {sl:=live.map fun i=>(i,look st.sl i),ow:=(live.filter fun i=>decide (.slot i∈st.ow)).map .slot++st.ow.filter (fun| .slot _=>false| .cell b _=>decide (b<bx.length)),al:=[],bx}
def St.Xq(st:St)(live:List Nat):St:=
 {sl:=live.map fun i=>(i,look st.sl i),ow:=(live.filter fun i=>decide (.slot i∈st.ow)).map .slot++st.ow.filter Da,al:=[],bx:=st.bx}
def St.ck(st:St)(live:List Nat):St:={st with sl:=st.sl.map fun q=>(q.1,wk q.2),ow:=((live.filter fun i=>Dc (look st.sl i)).map .slot)++st.ow}
def St.only(st:St)(live:List Nat)(nb:Nat):St:=(st.ck live).qr live nb
def St.Ye(st:St)(live:List Nat):St:=(st.ck live).Xq live
def St.xi(st:St)(nb:Nat):St:=
 let bx:=trim nb (st.sl.map (·.2)) st.bx
 {st with bx,ow:=if bx.length=st.bx.length then st.ow else st.ow.filter (fun| .slot _=>true| .cell b _=>decide (b<bx.length)),al:=[]}
open Classical in
noncomputable def Pc(cf:Callee)(st:St)(o:Wa):Option St:=match o.op,o.dst with
 | .call _ _,some d=>(stepG cf st o).bind fun s'=>if s'.bx=st.bx/\s'.ow.filter Da=st.ow.filter Da then some (st.put d (look s'.sl d))else none
 |_,_=>stepG cf st o
noncomputable def Tf(cf:Callee):List Wa->St->Option St
 |[],st=>some st
 |o::r,st=>(Pc cf st o).bind (Tf cf r)
noncomputable def wd(cf:Callee)(live:List Nat):BT->St->Option St
 | .done,st=>some (st.Ye live)
 | .one o t,st=>(stepG cf st o).bind (wd cf live t)
 | .two o t r,st=>same ((stepG cf st o).bind (wd cf live t)) (wd cf live r st)
def Ac(body:St->Option (Out×St))(live:List Nat)(nb:Nat):Nat->St->Option (Out×St)
 |0,_=>none
 |n+1,st=>(body st).bind fun
  |(.normal,st')=>Ac body live nb n (st'.only live nb)
  |r=>some r
def Lk(cf:Callee)(f k:Nat)(live:List Nat)(g:PV)(st:St):Option (Out×St):=match g with
 | .ib h fb=>if h=kb then none else
   (Lc cf {st with bx:=st.bx++[(0,[.lp f k .ready live (live.map (look st.sl))])]} none h (.Sa st.bx.length::fb)).bind fun a=>
     match a.bx[st.bx.length]? with
     |some (_,[.lp f' k' s live' snap'])=>
      let b:St:={a with bx:=a.bx.set st.bx.length (0,[.lp f' k' .over live' snap'])}
      match s with
      | .ready=>some (.normal,b)
      | .done (.exit i)=>some (.exit i,b)
      | .done .ret=>some (.ret,b)
      |_=>none
     |_=>none
 |_=>none
noncomputable def ma(cf:Callee)(n:Nat):ka->St->Option (Out×St)
 | .skip,st=>some (.normal,st)
 | .Ab live pre d,st=>((tg cf pre st).bind (Hc cf d)).map fun st=>(.normal,st.Ye live)
 | .Od live pre t,st=>((Tf cf pre st).bind (wd cf live t)).map fun st=>(.normal,st)
 | .seq a b,st=>(ma cf n a st).bind fun
   |(.normal,st')=>ma cf n b st'
   |r=>some r
 | .cond c a b,st=>match c.ev st.sl with
   | .flat (.bool t)=>if t then ma cf n a st else ma cf n b st
   |_=>none
 | .block id b,st=>(ma cf n b st).map fun
   |(.exit j,st')=>if j=id then(.normal,st'.xi st.bx.length)else(.exit j,st')
   |(.normal,st')=>(.normal,st'.xi st.bx.length)
   |r=>r
 | .loop live b,st=>Ac (ma cf n b) live st.bx.length n (st.only live st.bx.length)
 | .range f k live g,st=>Lk cf f k live (g.ev st.sl) st
 | .exit id live,st=>some (.exit id,st.Ye live)
 | .ret live,st=>some (.ret,st.Ye live)
structure pa where
 nt:Nat
 Ua:List (Sum Nat (Nat × Bool × Nat))
 body:ka
 bo:List (List Nat × ka × ka)
def Hi(st:St):Sum Nat (Nat×Bool×Nat)->Option PV
 | .inl i=>some (look st.sl i)
 | .inr (i,agg,n)=>match look st.sl i with
   | .ptr b o=>match td st.bx b with
     |some q=>if o+n<=q.2.length then(if agg then some (.agg ((q.2.drop o).take n))else q.2[o]?)else none
     |none=>none
   |_=>none
def yh:Nat->List PV->List (Nat×PV)
 |_,[]=>[]
 |i,v::r=>(i,v)::yh (i+1) r
def Ol(rs:List (Sum Nat (Nat×Bool×Nat)))(ow:List Loc):Bool:=match rs with
 |[.inl s]=>decide (.slot s∈ow)
 |_=>false
def dj(n:Nat)(ow:List Loc):List Loc:=ow.filter fun| .slot _=>false| .cell b _=>decide (b<n)
noncomputable def Bl(cf:Callee)(code:FuncId->Option pa)(n:Nat)(args:List PV)(bx:Oa)(oc:List Loc):Option Fe:=match args with
 | .Sa b::az=>match bx[b]? with
   |some (_,[.lp f k .ready live e])=>(code f).bind fun c=>(c.bo[k]?).bind fun q=>
    if az.length=q.1.length then
     (ma cf n q.2.1 {sl:=(q.1.zip az).foldl (fun l p=>p::l) (live.zip e),ow:=oc,al:=[],bx}).bind fun(j,s1)=>
       match j,s1.bx[b]? with
       | .normal,some (_,[.lp g h .ready a d])=>
         (ma cf n q.2.2 {s1 with bx:=s1.bx.set b (0,[.lp g h .busy a d])}).bind fun(o,st)=>
           match st.bx[b]? with
           |some (_,[.lp f' k' .busy live' snap'])=>
            let r:gq×Bool:=match o with
             | .normal=>(.ready,true)
             | .exit i=>(.done (.exit i),false)
             | .ret=>(.done .ret,false)
            let bx':=trim bx.length [.flat (.bool r.2)] (st.bx.set b (0,[.lp f' k' r.1 live' snap']))
            some ([.flat (.bool r.2)],false,bx',dj bx'.length st.ow)
           |_=>none
       |_,_=>none
    else none
   |_=>none
 |_=>none
noncomputable def Df(code:FuncId->Option pa)(lib:Callee):Nat->Callee
 |0,_,_,_,_=>none
 |n+1,f,args,bx,oc=>match code f with
  |none=>if f=kb then Bl (Df code lib n) code n args bx oc else lib f args bx oc
  |some c=>
   if args.length<=c.nt then
    (ma (Df code lib n) n c.body {sl:=yh 0 args,ow:=oc,al:=[],bx}).bind fun(o,st)=>
      match o with
      | .exit _=>none
      |_=>(c.Ua.mapM (Hi st)).map fun vs=>
       (vs,Ol c.Ua st.ow,trim bx.length vs st.bx,dj (trim bx.length vs st.bx).length st.ow)
   else none
def Row(w:World)(Fr:Nat->Nat)(g o:Nat)(vs:List Value):Prop:=∀(j:Nat)(v:Value),vs[j]?=some v->o+j<Fr g/\w.cell? ⟨g,o+j,none⟩=some v
def gd(vs:List Value):Prop:=∀v∈vs,v.oneCell'=true
def jo(k:Nat)(vs:List Value):Value:=if k % 2=0 then .func (.func (k/2)) vs.toArray #[]else .iface (k/2) (vs.headD undef)
def zeP(k)(vs):jo k vs=.func (.func (k/2)) vs.toArray #[]\/jo k vs=.iface (k/2) (vs.headD undef):=by unfold jo;split;exact .inl rfl;exact .inr rfl
mutual
def Rd(w:World)(Fr:Nat->Nat)(β:List Nat):PV->Value->Prop
 | .Hd,_=>True
 | .flat a,v=>v=a/\Bc a=true
 | .ia n cs,v=>∃a c,v=.slice a n c/\n<=c/\((cs=[]/\n=0)\/∃g o vs,a=some ⟨g,o,none⟩/\Row w Fr g o vs/\ta w Fr β cs vs/\gd vs)
 | .agg cs,v=>∃vs,v=.agg vs.toArray/\ta w Fr β cs vs/\gd vs
 | .Jc cs,v=>∃vs,v=.tuple vs.toArray/\ta w Fr β cs vs
 | .ptr b o,v=>∃g,β[b]?=some g/\v=.pointer (some ⟨g,o,none⟩)
 | .vd cs,v=>∃g o vs,v=.pointer (some ⟨g,o,none⟩)/\Row w Fr g o vs/\ta w Fr β cs vs/\gd vs
 | .ib f fb,v=>∃vs,v=.func (.func f) #[] vs.toArray/\ta w Fr β fb vs
 | .tag k cs,v=>∃vs,v=jo k vs/\ta w Fr β cs vs
 | .Sa b,v=>∃g,β[b]?=some g/\v=.func (.yield g) #[] #[]
 | .ve b d n,v=>∃g a c,β[b]?=some g/\v=.slice a n c/\n<=c/\(n=0\/a=some ⟨g,d,none⟩)
 | .lp _ _ _ _ _,_=>False
def ta(w:World)(Fr:Nat->Nat)(β:List Nat):List PV->List Value->Prop
 |[],vs=>vs=[]
 |p::ps,vs=>∃v r,vs=v::r/\Rd w Fr β p v/\ta w Fr β ps r
end
structure Le (w:World) (Fr:Nat→Nat) (β:List Nat) (w':World) (Fr':Nat→Nat) (β':List Nat):Prop where
 size:w.heap.size≤w'.heap.size
 fr:∀ b,b<w.heap.size→Fr b≤Fr' b
 cell:∀ b o,b<w.heap.size→o<Fr b→w'.cell? ⟨b,o,none⟩=w.cell? ⟨b,o,none⟩
 box:∀ i g:Nat,β[i]? =some g→β'[i]? =some g
 lp:∀ (g:Nat) (r:Loop),w.heap[g]? =some (Obj.loop r)→∃ r':Loop,w'.heap[g]? =some (Obj.loop r')
theorem Le.refl(w)(Fr)(β):Le w Fr β w Fr β:=⟨Aa _,fun _ _=>Aa _,fun _ _ _ _=>rfl,fun _ _ h=>h,fun _ r h=>⟨r,h⟩⟩
theorem Le.trans{w w' e}{Fr Fr' a}{β β' c}(h:Le w Fr β w' Fr' β')(k:Le w' Fr' β' e a c):Le w Fr β e a c:=
 ⟨Xf h.size k.size,fun b d=>Xf (h.fr b d) (k.fr b (mh d h.size)),fun b o d j=>(k.cell b o (mh d h.size) (mh j (h.fr b d))).trans (h.cell b o d j),fun i g n=>k.box i g (h.box i g n),fun g r hr=>by obtain⟨r1,l⟩:=h.lp g r hr;exact k.lp g r1 l⟩
section
variable {w w':World} {Fr Fr':Nat→Nat} {β β':List Nat}
theorem Row.mono(d:Le w Fr β w' Fr' β'){g o}{vs}(h:Row w Fr g o vs):Row w' Fr' g o vs:=fun j v e=>by
 obtain⟨a,b⟩:=h j v e;have c:g<w.heap.size:=Et w _ b;exact⟨mh a (d.fr g c),(d.cell g _ c a).trans b⟩
mutual
theorem Rd.mono(d:Le w Fr β w' Fr' β'):∀(p:PV)(v:Value),Rd w Fr β p v->Rd w' Fr' β' p v
 | .Hd,_,h=>by simp[Rd]
 | .flat a,v,h=>by grind [Rd]
 | .ia n cs,v,h=>by
   obtain⟨a,i,c,e,k⟩:=h;refine⟨a,i,c,e,k.imp id ?_⟩;rintro⟨g,o,vs,l,hr,hs,j⟩;exact⟨g,o,vs,l,hr.mono d,ta.mono d cs vs hs,j⟩
 | .agg cs,v,h=>by
   obtain⟨vs,c,hs,j⟩:=h;exact⟨vs,c,ta.mono d cs vs hs,j⟩
 | .Jc cs,v,h=>by
   obtain⟨vs,c,hs⟩:=h;exact⟨vs,c,ta.mono d cs vs hs⟩
 | .ptr b o,v,h=>by
   obtain⟨g,c,e⟩:=h;exact⟨g,d.box _ _ c,e⟩
 | .vd cs,v,h=>by
   obtain⟨g,o,vs,c,hr,hs,j⟩:=h;exact⟨g,o,vs,c,hr.mono d,ta.mono d cs vs hs,j⟩
 | .ib f fb,v,h=>by
   obtain⟨vs,c,hs⟩:=h;exact⟨vs,c,ta.mono d fb vs hs⟩
 | .tag f fb,v,h=>by
   obtain⟨vs,c,hs⟩:=h;exact⟨vs,c,ta.mono d fb vs hs⟩
 | .Sa b,v,h=>by
   obtain⟨g,c,e⟩:=h;exact⟨g,d.box _ _ c,e⟩
 | .ve b l n,v,h=>by
   obtain⟨g,a,i,c,e⟩:=h;exact⟨g,a,i,d.box _ _ c,e⟩
 | .lp _ _ _ _ _,v,h=>by grind [Rd]
theorem ta.mono(d:Le w Fr β w' Fr' β'):∀(ps:List PV)(vs:List Value),ta w Fr β ps vs->ta w' Fr' β' ps vs
 |[],_,h=>by grind [ta]
 |p::ps,vs,h=>by
  obtain⟨v,r,c,e,k⟩:=h;exact⟨v,r,c,Rd.mono d p v e,ta.mono d ps r k⟩
end
theorem ta.length:∀{ps}{vs},ta w Fr β ps vs->vs.length=ps.length
 |[],_,h=>by grind [ta]
 |p::ps,vs,h=>by
  obtain⟨v,r,a,c,b⟩:=h;rw[a,ua,ua,ta.length b]
theorem ta.get:∀{ps}{vs},ta w Fr β ps vs->∀(j:Nat)(p),ps[j]?=some p->∃v,vs[j]?=some v/\Rd w Fr β p v
 |[],_,h,j,p,a=>by grind
 |p::ps,vs,h,0,q,a=>by
  grind [ta]
 |p::ps,vs,h,j+1,q,a=>by
  obtain⟨v,r,c,d,b⟩:=h;obtain⟨u,e,g⟩:=ta.get b j q a
  grind
theorem ta.take:∀{ps}{vs}(k),ta w Fr β ps vs->ta w Fr β (ps.take k) (vs.take k)
 |[],_,k,h=>by grind [ta]
 |p::ps,vs,0,h=>by rfl
 |p::ps,vs,k+1,h=>by
  obtain⟨v,r,a,b,c⟩:=h;rw[a,Aw,Aw];exact⟨v,_,rfl,b,ta.take k c⟩
theorem ta.drop:∀{ps}{vs}(k),ta w Fr β ps vs->ta w Fr β (ps.drop k) (vs.drop k)
 |[],_,k,h=>by grind [ta]
 |p::ps,vs,0,h=>by grind
 |p::ps,vs,k+1,h=>by
  obtain⟨v,r,a,c,b⟩:=h;rw[a,Zl,Zl];exact ta.drop k b
theorem ta.append:∀{ps qs}{vs us},ta w Fr β ps vs->ta w Fr β qs us->ta w Fr β (ps++qs) (vs++us)
 |[],qs,vs,us,h,k=>by grind [ta]
 |p::ps,qs,vs,us,h,k=>by
  obtain⟨v,r,a,b,c⟩:=h;rw[a,Ha,Ha];exact⟨v,_,rfl,b,ta.append c k⟩
end
theorem gd.take{vs}(h:gd vs)(k):gd (vs.take k):=fun v a=>h v (RA a)
theorem gd.drop{vs}(h:gd vs)(k):gd (vs.drop k):=fun v a=>h v (List.mem_of_mem_drop a)
def gd.append{vs us}(h:gd vs)(k:gd us):gd (vs++us):=fun v a=>(Ue.1 a).elim (h v) (k v)
theorem Row.drop{w}{Fr}{g o}{vs}(h:Row w Fr g o vs)(k):Row w Fr g (o+k) (vs.drop k):=fun j v a=>by
 rw[kg]at a;have:=h (k+j) v a
 grind
theorem Row.take{w}{Fr}{g o}{vs}(h:Row w Fr g o vs)(k):Row w Fr g o (vs.take k):=fun j v a=>by
 rw[List.getElem?_take]at a;split at a
 ·exact h j v a
 grind
def U8(P:Program):TypeId:=((List.range P.types.size).find? fun t=>match P.underlying t with|some (.int .u8)=>true|_=>false).getD 0
def mg(P:Program)(w:World)(Fr:Nat->Nat)(p:PV)(v:Value):Prop:=∃n cs,p=.ia n cs/\(v=.slice none 0 0\/
 ∃g a b e c,v=.slice (some ⟨g,0,none⟩) n a/\w.heap[g]?=some (.cells b e (0,0))/\n<=a/\a<=maxLen/\b.size=a* c/\Fr g=cs.length/\cs.length=n* c/\(n=0->a=0)/\(c=1->sd cs=true\/e=U8 P))
def Ga(a:Act)(w:World)(β:List Nat):Loc->Option Value
 | .slot i=>some (a.tmps.getD i undef)
 | .cell b j=>(β[b]?).bind fun g=>w.cell? ⟨g,j,none⟩
def Yb:Code->List (Operand×Array Tmp×Code×Code)
 | .seq a b=>Yb a++Yb b
 | .cond _ a b=>Yb a++Yb b
 | .block _ b| .loop b| .scope b=>Yb b
 | .rangeFunc g ps az b=>(g,ps,az,b)::(Yb az++Yb b)
 |_=>[]
def Ql(P:Program)(f k:Nat):Option (Operand×Array Tmp×Code×Code):=((P.funcs[f]?).bind (·.body)).bind fun c=>(Yb c)[k]?
def Ww.code:Ww->Code
 | .exit i=>.exit i
 | .ret=>.ret
def gq.of:gq->Loop->Prop
 | .ready,r=>r.state=.ready/\r.pending=none
 | .busy,r=>r.state=.busy
 | .done j,r=>r.state=.done/\r.pending=some j.code
 | .over,_=>True
def Pr(P:Program)(w:World)(Fr:Nat->Nat)(β:List Nat)(f k:Nat)(s:gq)(live:List Nat)(a:List PV)(g:Nat):Prop:=
 ∃r,w.heap[g]?=some (Obj.loop r)/\(∃fn,P.funcs[f]?=some fn/\r.tmps.size=fn.ntmps)/\(∃x,Ql P f k=some (x,r.params,r.assign,r.body))/\s.of r/\∀i,Rd w Fr β (look (live.zip a) i) (r.tmps.getD i undef)
def Bk(P:Program)(w:World)(Fr:Nat->Nat)(β:List Nat)(q:Nat×List PV)(g:Nat):Prop:=
 (∃vs e,w.heap[g]?=some (.cells vs.toArray e (0,0))/\ta w Fr β q.2 vs/\gd vs/\q.1=e)\/∃f k s live a,q.2=[.lp f k s live a]/\Pr P w Fr β f k s live a g
def vl(P:Program)(w:World)(Fr:Nat->Nat)(β:List Nat)(bx:Oa):Prop:=bx.length=β.length/\
 ∀(b:Nat)(cs:Nat×List PV),bx[b]?=some cs->∃g,β[b]?=some g/\Fr g=0/\Bk P w Fr β cs g
section
variable {P:Program} {w w':World} {Fr Fr':Nat→Nat} {β β':List Nat} {bx:Oa}
theorem vl.cells(h:vl P w Fr β bx){b}{q}(j:td bx b=some q):bx[b]?=some q/\Tq q.2=false/\∃g vs e,β[b]?=some g/\w.heap[g]?=some (.cells vs.toArray e (0,0))/\ta w Fr β q.2 vs/\gd vs/\Fr g=0/\q.1=e:=by
 obtain⟨t,c,a⟩:=qb j;split at a
 ·cases a
 ·cases a
  obtain⟨g,n,o,d⟩:=h.2 b q c;refine⟨c,na,?_⟩;rcases d with⟨vs,e,d,p,r,l⟩|⟨f,k,s,live,i,l,_⟩
  ·grind
  ·grind [Tq]
theorem Bk.block{cs}{g}(h:Bk P w Fr β cs g):∃o,w.heap[g]?=some o/\∀b,o≠.deferred b:=by
 rcases h with⟨vs,e,h,_⟩|⟨f,k,s,live,a,_,r,h,_⟩
 ·grind
 grind
def Bk.kept{cs}{g}(h:Bk P w Fr β cs g)(l:Le w Fr β w' Fr' β')(j:w'.heap[g]?=w.heap[g]?):Bk P w' Fr' β' cs g:=by
 rcases h with⟨vs,e,b,c,d⟩|⟨f,k,s,live,a,n,r,b,c,d,o,p⟩
 ·exact .inl ⟨vs,e,j.trans b,c.mono l,d⟩
 ·exact .inr ⟨f,k,s,live,a,n,r,j.trans b,c,d,o,fun i=>(p i).mono l⟩
def vl.at(h:vl P w Fr β bx){g}(c:g∈β):∃o,w.heap[g]?=some o/\∀b,o≠.deferred b:=by
 obtain⟨i,d⟩:=List.getElem?_of_mem c;have a:i<bx.length:=by rw[h.1];exact(qg d).1
 obtain⟨e,j,_,k⟩:=h.2 i _ (qe a)
 grind [Bk.block]
theorem vl.lt(h:vl P w Fr β bx){g}(a:g∈β):g<w.heap.size:=by
 obtain⟨o,b,_⟩:=h.at a
 grind
theorem vl.kept(h:vl P w Fr β bx)(j:Le w Fr β w' Fr' β)(i:∀g∈β,w'.heap[g]?=w.heap[g]?/\Fr' g=Fr g):vl P w' Fr' β bx:=by
 refine⟨h.1,fun b cs a=>?_⟩;obtain⟨g,c,d,e⟩:=h.2 b cs a;obtain⟨k,l⟩:=i g (nh c);exact⟨g,c,l.trans d,e.kept j k⟩
end
def mark(D:Nat):Deferred:={target:=.collected D,args:=#[]}
def Marks(T:List Deferred)(base:Nat)(w:World)(b:List Deferred):Prop:=∃a:List Nat,a.Nodup/\b=a.map mark++T/\∀D∈a,base<=D/\w.heap[D]?=some (.deferred (some []))
structure Rel (P:Program) (T:List Deferred) (base:Nat) (M:Nat→Prop) (w0:World) (F0:Nat→Nat) (nt:Nat) (st:St) (a:Act) (w:World) (Fr:Nat→Nat) (β:List Nat):Prop where
 sl:∀ i,Rd w Fr β (look st.sl i) (a.tmps.getD i undef)
 nt:a.tmps.size=nt
 df:Marks T base w a.defers
 bx:vl P w Fr β st.bx
 nd:β.Nodup
 own:∀ L∈st.ow,∃ v p,Ga a w β L=some v∧bb st L=some p∧mg P w Fr p v
 sep:∀ L∈st.ow,∀ L'∈st.ow,L≠L'→∀ v v' g,Ga a w β L=some v→Ga a w β L'=some v'→v.ownBlock=some g→v'.ownBlock≠some g
 out:∀ L∈st.ow,∀ v g,Ga a w β L=some v→v.ownBlock=some g→g ∉ β
 al:∀ p∈st.al,Ga a w β p.2=some (a.tmps.getD p.1 undef)
 may:∀ g,(g∈β∨∃ L∈st.ow,∃ v,Ga a w β L=some v∧v.ownBlock=some g)→base≤g∨M g
 old:∀ b,b<base→¬ M b→w.heap[b]? =w0.heap[b]? ∧Fr b=F0 b
 ge:base≤w.heap.size
 os:w.os=w0.os
 tape:w.tape=w0.tape
 output:w.output=w0.output
theorem mg.lt{P}{w}{Fr}{p}{v}(h:mg P w Fr p v){g}(a:v.ownBlock=some g):g<w.heap.size:=by
 obtain⟨n,cs,_,h|⟨i,b,c,e,k,d,j,_⟩⟩:=h
 ·subst h;cases a
 ·subst d;cases a
  grind
def Rel.next{P}{T}{base nt}{M}{w0 w w'}{F0}{st st'}{a a'}{Fr Fr'}{β β'}(R:Rel P T base M w0 F0 nt st a w Fr β)(hlZ:Le w Fr β w' Fr' β')
 (hsl:∀i,Rd w' Fr' β' (look st'.sl i) (a'.tmps.getD i undef)) (hnt:a'.tmps.size=nt) (hdf:a'.defers=a.defers) (Z:vl P w' Fr' β' st'.bx) (hnd:β'.Nodup) (O:∀g∈β',g∈β\/w.heap.size<=g)
 (l:Loc->Option Loc)
 (j:∀L∈st'.ow,∃v p,Ga a' w' β' L=some v/\bb st' L=some p/\mg P w' Fr' p v/\
   (∀g,v.ownBlock=some g->(w.heap.size<=g/\g∉β'/\l L=none)\/∃c∈st.ow,l L=some c/\∃v0,Ga a w β c=some v0/\v0.ownBlock=some g))
 (K:∀L∈st'.ow,∀x∈st'.ow,L≠x->∀c,l L=some c->l x≠some c)
 (S:∀L∈st'.ow,∀x∈st'.ow,L≠x->l L=none->l x=none->∀v v'Z g,Ga a' w' β' L=some v->Ga a' w' β' x=some v'Z->v.ownBlock=some g->v'Z.ownBlock≠some g)
 (Y:∀p∈st'.al,Ga a' w' β' p.2=some (a'.tmps.getD p.1 undef))
 (r:∀b,b<w.heap.size->b∉β->(∀L∈st.ow,∀v,Ga a w β L=some v->v.ownBlock≠some b)->w'.heap[b]?=w.heap[b]?/\Fr' b=Fr b) (hos:w'.os=w.os) (C:w'.tape=w.tape) (N:w'.output=w.output):Rel P T base M w0 F0 nt st' a' w' Fr' β':=by
 have fa:∀c∈st.ow,∀v0 g,Ga a w β c=some v0->v0.ownBlock=some g->g<w.heap.size:=fun c h0Z v0 g t d=>by
  obtain⟨v,p,k,h2Z,Q⟩:=R.own c h0Z;rw[t]at k;cases k;exact Q.lt d
 have z:∀b,b<base->¬M b->w'.heap[b]?=w.heap[b]?/\Fr' b=Fr b:=fun b y B=>
  r b (mh y R.ge) (fun h=>(R.may b (.inl h)).elim (fun h=>by omega) B) fun L q v t d=>(R.may b (.inr ⟨L,q,v,t,d⟩)).elim (fun h=>by omega) B
 have J:Marks T base w' a'.defers:=by
  obtain⟨DsZ,k,h2Z,Q⟩:=R.df;refine⟨DsZ,k,hdf.trans h2Z,fun D hDZ=>⟨(Q D hDZ).1,?_⟩⟩;have A:=(Q D hDZ).2;rw[(r D (Kh.1 A).1 (fun h=>?_) fun L q v t d=>?_).1]
  ·exact A
  ·obtain⟨o,X,k2Z⟩:=R.bx.at h
   grind
  ·obtain⟨u,p,X,_,n,cs,_,k2Z⟩:=R.own L q
   rw[t]at X;cases X;rcases k2Z with rfl|⟨g'Z,cap,cur,e,szZ,rfl,k3Z,_⟩
   ·cases d
   ·cases d;rw[A]at k3Z;cases k3Z
 refine⟨hsl,hnt,J,Z,hnd,fun L q=>?_,fun L q x I hne v v'Z g t hv' d hg'=>?_,fun L q v g t d y=>?_,Y,fun g d=>?_,fun b y B=>⟨(z b y B).1.trans (R.old b y B).1,(z b y B).2.trans (R.old b y B).2⟩,Xf R.ge hlZ.size,hos.trans R.os,C.trans R.tape,N.trans R.output⟩
 ·grind
 ·obtain⟨u,p,k,_,_,H⟩:=j L q
  obtain⟨u'Z,p'Z,A,_,_,X⟩:=j x I;rw[t]at k;cases k;rw[hv']at A;cases A;rcases H g d with⟨U,V,a3⟩|⟨c,E,W,v0,F,G⟩
  ·grind
  ·rcases X g hg' with⟨c1,c2,c3⟩|⟨L1Z,d1Z,d2Z,v1Z,d3Z,d4Z⟩
   ·have:=fa c E v0 g F G;omega
   ·by_cases heZ:c=L1Z
    ·subst heZ;exact K L q x I hne c W d2Z
    ·exact R.sep c E L1Z d1Z heZ v0 v1Z g F d3Z G d4Z
 ·obtain⟨u,p,k,_,_,H⟩:=j L q
  rw[t]at k;cases k;rcases H g d with⟨U,V,a3⟩|⟨c,E,W,v0,F,G⟩
  ·exact V y
  ·rcases O g y with h|h
   ·exact R.out c E v0 g F G h
   grind
 ·have fin:∀g,w.heap.size<=g->base<=g\/M g:=fun g h=>.inl (Xf R.ge h)
  rcases d with d|⟨L,q,v,t,d⟩
  ·rcases O g d with h|h
   ·exact R.may g (.inl h)
   ·exact fin g h
  ·obtain⟨u,p,k,_,_,H⟩:=j L q
   rw[t]at k;cases k;rcases H g d with⟨U,V,a3⟩|⟨c,E,W,v0,F,G⟩
   ·exact fin g U
   ·exact R.may g (.inr ⟨c,E,v0,F,G⟩)
theorem wv{d}{L}(h:Vd d L=false):L≠.slot d:=by grind [Vd]
theorem Jl{d}{l}{L}:L∈Va d l ↔ L∈l/\Vd d L=false:=by simp[Va]
def gr{d}{l}{p}:p∈Jb d l ↔ p∈l/\p.1≠d/\Vd d p.2=false:=by simp[Jb]
theorem Nk(a:Act)(d)(v)(i)(b:d<a.tmps.size):(a.put (some d) v).tmps.getD i undef=if d=i then v else a.tmps.getD i undef:=by
 simp only[Act.put,po,Array.getElem?_setIfInBounds]
 grind
theorem Yl{a}{w}{β}{d}{v}{L}(b:d<a.tmps.size)(h:Vd d L=false):Ga (a.put (some d) v) w β L=Ga a w β L:=by
 cases L<;>grind [Vd,Ga,Nk]
def gA{st}{d}{p}{L}(h:Vd d L=false):bb {st with sl:=(d,p)::st.sl} L=bb st L:=by
 cases L<;>grind [Vd,bb,look]
theorem AT{st st'}{L}(h:st'.sl=st.sl)(a:st'.bx=st.bx):bb st' L=bb st L:=by cases L<;>simp[bb,h,a]
theorem size_put(a:Act)(d:Option Nat)(v):(a.put d v).tmps.size=a.tmps.size:=by cases d<;>simp[Act.put]
def ly(a:Act)(d:Option Nat)(v):(a.put d v).defers=a.defers:=by cases d<;>simp[Act.put]
theorem Ae(d)(p)(l)(i):look ((d,p)::l) i=if d=i then p else look l i:=rfl
section
variable {P:Program} {T:List Deferred} {base nt:Nat} {M:Nat→Prop} {w0 w w':World} {F0:Nat→Nat} {st st':St} {a a':Act} {Fr Fr':Nat→Nat} {β β':List Nat}
def xA(R:Rel P T base M w0 F0 nt st a w Fr β)(b:Le w Fr β w' Fr' β'){d}(e:d<nt){p}{v}(c:Rd w' Fr' β' p v)(i):
 Rd w' Fr' β' (look ((d,p)::st.sl) i) ((a.put (some d) v).tmps.getD i undef):=by
 rw[Nk a d v i (by grind [Rel.nt]),Ae];split
 ·exact c
 ·exact(R.sl i).mono b
theorem Rel.put(R:Rel P T base M w0 F0 nt st a w Fr β){d}(k:d<nt){p}{v}(t:Rd w Fr β p v):Rel P T base M w0 F0 nt (st.put d p) (a.put (some d) v) w Fr β:=by
 have b:d<a.tmps.size:=by rw[R.nt];exact k
 refine R.next (Le.refl _ _ _) (xA R (Le.refl _ _ _) k t) (by grind [size_put,nt]) (ly _ _ _) R.bx R.nd (fun g h=>.inl h) some (fun L o=>?_) (fun L _ l _ j A h B=>j na) (fun L _ l _ _ h=>by cases h) (fun q r=>?_) (fun _ _ _ _=>⟨rfl,rfl⟩) rfl rfl rfl
 ·obtain⟨c,i⟩:=Jl.1 o
  obtain⟨u,q,x,y,z⟩:=R.own L c;exact⟨u,q,by grind [Yl],(gA i).trans y,z,fun g n=>.inr ⟨L,c,rfl,u,x,n⟩⟩
 ·obtain⟨c,i,n⟩:=gr.1 r
  rw[Yl b n,Nk a d v _ b,if_neg (fun e=>i e.symm)];exact R.al q c
def Rel.zT(R:Rel P T base M w0 F0 nt st a w Fr β){d}(g:d<nt){p}{v}(k:Rd w Fr β p v){L}(i:Vd d L=false)(j:Ga a w β L=some v):Rel P T base M w0 F0 nt {(st.put d p)with al:=(d,L)::Jb d st.al} (a.put (some d) v) w Fr β:=by
 have b:=R.put g k;have c:d<a.tmps.size:=by rw[R.nt];exact g
 refine⟨b.sl,b.nt,b.df,b.bx,b.nd,fun K h=>?_,b.sep,b.out,fun q e=>?_,b.may,b.old,b.ge,b.os,b.tape,b.output⟩
 ·obtain⟨u,q,l,n,o⟩:=b.own K h
  grind [AT]
 ·rcases wb.1 e with rfl|e
  ·rw[Yl c i,j,Nk a d v _ c,if_pos rfl]
  ·exact b.al q e
def Rel.move(R:Rel P T base M w0 F0 nt st a w Fr β){d s}(l:d<nt)(A:s≠d)(hs:Loc.slot s∈st.ow):
 Rel P T base M w0 F0 nt {st with sl:=(d,look st.sl s)::st.sl,ow:=.slot d::Va s (Va d st.ow),al:=Jb s (Jb d st.al)} (a.put (some d) (a.tmps.getD s undef)) w Fr β:=by
 have b:d<a.tmps.size:=by rw[R.nt];exact l
 refine R.next (Le.refl _ _ _) (xA R (Le.refl _ _ _) l (R.sl s)) (by grind [size_put,nt]) (ly _ _ _) R.bx R.nd (fun g h=>.inl h) (fun L=>some (if L=.slot d then .slot s else L)) (fun L c=>?_) (fun L c r v y B h C=>?_) (fun L _ r _ _ h=>by cases h) (fun q z=>?_) (fun _ _ _ _=>⟨rfl,rfl⟩) rfl rfl rfl
 ·rcases wb.1 c with rfl|c
  ·obtain⟨u,q,n,o,p⟩:=R.own _ hs
   grind [Ga,Nk,bb,Ae]
  ·obtain⟨i,t⟩:=Jl.1 c
   obtain⟨j,k⟩:=Jl.1 i;obtain⟨u,q,n,o,p⟩:=R.own L j;exact⟨u,q,by grind [Yl],(gA k).trans o,p,fun g x=>.inr ⟨L,j,by grind [wv],u,n,x⟩⟩
 ·grind [wv,Jl]
 ·obtain⟨i,t,j⟩:=gr.1 z
  obtain⟨k,n,o⟩:=gr.1 i;rw[Yl b o,Nk a d _ _ b,if_neg (fun e=>n e.symm)];exact R.al q k
def mg.kept{p}{v}(h:mg P w Fr p v)(d:∀g,v.ownBlock=some g->w'.heap[g]?=w.heap[g]?/\Fr' g=Fr g):mg P w' Fr' p v:=by
 obtain⟨n,cs,i,j⟩:=h;refine⟨n,cs,i,j.imp id ?_⟩;rintro⟨g,a,b,e,z,c,k,l,o,q,r,t,u⟩;obtain⟨x,y⟩:=d g (by rw[c];rfl)
 grind
def LI{L}(b:∀g∈β,w'.heap[g]?=w.heap[g]?):Ga a w' β L=Ga a w β L:=by
 cases L<;>grind [Ga,World.cell?]
def Rel.grow(R:Rel P T base M w0 F0 nt st a w Fr β)(d:Below w.heap.size w w')(hf:∀g,g<w.heap.size->Fr' g=Fr g):Rel P T base M w0 F0 nt st a w' Fr' β/\Le w Fr β w' Fr' β:=by
 have k:Le w Fr β w' Fr' β:=⟨d.size,fun b h=>by grind,fun b o h _=>d.cell (p:=⟨b,o,none⟩) h,fun _ _ h=>h,fun g r h=>⟨r,(d.block g (Kh.1 h).1).trans h⟩⟩;have e:∀g∈β,g<w.heap.size:=fun g c=>R.bx.lt c
 have j:∀L,Ga a w' β L=Ga a w β L:=fun L=>LI fun g c=>d.block g (e g c)
 refine⟨R.next k (fun i=>(R.sl i).mono k) R.nt rfl (R.bx.kept k fun g c=>⟨d.block g (e g c),hf g (e g c)⟩) R.nd (fun g h=>.inl h) some (fun L t=>?_) (fun L _ v _ l A h B=>l na) (fun L _ v _ _ h=>by cases h) (fun q x=>by rw[j];exact R.al q x) (fun b h _ _=>⟨d.block b h,hf b h⟩) d.os d.tape d.output,k⟩;obtain⟨u,q,y,z,n⟩:=R.own L t;exact⟨u,q,na,z,n.kept fun g c=>⟨d.block g (n.lt c),hf g (n.lt c)⟩,fun g c=>.inr ⟨L,t,rfl,u,y,c⟩⟩
theorem Rel.Ic(R:Rel P T base M w0 F0 nt st a w Fr β)(i:Below w.heap.size w w')(hf:∀g,g<w.heap.size->Fr' g=Fr g){d}(y:d<nt){p}{v}(F:Rd w' Fr' β p v)(K:mg P w' Fr' p v)(J:∀g,v.ownBlock=some g->w.heap.size<=g):
 Rel P T base M w0 F0 nt (st.Ic d p) (a.put (some d) v) w' Fr' β:=by
 obtain⟨B,z⟩:=R.grow i hf;have j:d<a.tmps.size:=by rw[R.nt];exact y
 have t:∀g∈β,g<w.heap.size:=fun g c=>R.bx.lt c
 have k:∀L,Ga a w' β L=Ga a w β L:=fun L=>LI fun g c=>i.block g (t g c)
 refine R.next z (xA R z y F) (by grind [size_put,nt]) (ly _ _ _) B.bx R.nd (fun g h=>.inl h) (fun L=>if L=.slot d then none else some L) (fun L n=>?_) (fun L n A D r I h C=>?_) (fun L _ A _ r h C=>?_) (fun q E=>?_) (fun b h _ _=>⟨i.block b h,hf b h⟩) i.os i.tape i.output
 ·rcases wb.1 n with rfl|n
  ·grind [Ga,Nk,bb,St.Ic,Ae]
  ·obtain⟨l,o⟩:=Jl.1 n
   obtain⟨u,q,G,H,x⟩:=R.own L l;exact⟨u,q,by grind [Yl],(gA o).trans H,x.kept fun g c=>⟨i.block g (x.lt c),hf g (x.lt c)⟩,fun g c=>.inr ⟨L,l,by grind [wv],u,G,c⟩⟩
 ·grind
 ·grind
 ·obtain⟨l,o,x⟩:=gr.1 E
  rw[Yl j x,k,Nk a d v _ j,if_neg (fun e=>o e.symm)];exact R.al q l
end
def Rg(P:Program)(t:TypeId):Option Nat:=(P.info? t).map (·.size)
def Me(P:Program)(t:TypeId):Option Bool:=(P.underlying t).map fun| .struct _| .array _ _=>true|_=>false
def yb:Operand->Option X
 | .tmp t=>some (.t t)
 | .const v=>some (.c (ofValue v))
 | .func f=>some (.c (.ib f []))
 | .global _=>none
def Ro(l:Array Operand):Option (List X):=l.toList.mapM yb
def Qo:Option Operand->Option (Option X)
 |none=>some none
 |some x=>(yb x).map some
def Vw(P:Program)(t:TypeId):Option (List PV):=((P.info? t).bind (·.zero)).bind fun v=>if v.cells.toList.all (·.oneCell')then some (v.cells.toList.map ofValue)else none
def fieldsOf(P:Program)(t:TypeId):Option (Array Field):=match P.underlying t with|some (.struct a)=>some a|_=>none
def wq(place:Nat->Option (Nat×Nat)):List (Nat×Operand)->Option (List (Nat×Nat×X))
 |[]=>some []
 |(i,x)::r=>(place i).bind fun p=>(yb x).bind fun x=>(wq place r).map fun s=>(p.1,p.2,x)::s
def ZC(P:Program)(t:TypeId)(ps:List (Nat×Operand)):Option (List (Nat×Nat×X)):=match P.underlying t with
 |some (.struct b)=>(b.toList.mapM fun f=>(P.info? f.type).map fun i=>(f.offset,i.size)).bind fun a=>wq (a.toArray[·]?) ps
 |some (.array _ e)=>(P.info? e).bind fun a=>wq (fun i=>some (i* a.size,a.size)) ps
 |_=>none
def Tv(P:Program)(sh:TypeId->Option (List LK)):List Field->Nat->Option (List LK)
 |[],_=>some []
 |f::a,o=>if f.offset=o/\f.name≠ "_" then(sh f.type).bind fun k=>if Rg P f.type=some k.length/\k≠[]then(Tv P sh a (o+k.length)).map (k++·)else none else none
def co(P:Program):Nat->TypeId->Option (List LK)
 |0,_=>none
 |d+1,t=>match P.underlying t with
  |some .bool=>some [.b]
  |some .string=>some [.s]
  |some (.int k)=>some [.i k]
  |some (.struct a)=>if P.stoodInHeld t=true then none else Tv P (co P d) a.toList 0
  |_=>none
def cg(P:Program):Op->Option Ea
 | .move x=>(yb x).map .mv
 | .assign x=>(yb x).map .asg
 | .pick c a b=>(yb c).bind fun c=>(yb a).bind fun a=>(yb b).map fun b=>.pick c a b
 | .binOp op t x y _=>(yb x).bind fun x=>(yb y).bind fun y=>match P.underlying t with
   |some (.int _)|some .string=>some (.bin op x y)
   |some .bool=>(match op with| .eql=>some (.beq false x y)| .neq=>some (.beq true x y)|_=>none)
   |some (.struct _)=>if P.eqGuardType P.depth t=false then(match op with| .eql=>(co P 50 t).map fun ks=>.Cn false ks x y| .neq=>(co P 50 t).map fun ks=>.Cn true ks x y|_=>none)else none
   |_=>none
 | .nilCheck x=>(yb x).map .Um
 | .unOp op _ x=>(yb x).map fun x=>.un op x
 | .convert d dst x=>(yb x).bind fun x=>match P.underlying d,P.underlying dst with
   |some (.int _),some (.int k)=>some (.conv k x)
   |some .string,some .string=>some (.jr x)
   |_,_=>none
 | .build t ps=>(Vw P t).bind fun zs=>(ZC P t ps.toList).map fun ps=>.build zs ps
 | .fieldAddr s x f=>(fieldsOf P s).bind fun l=>(l[f]?).bind fun j=>(Rg P j.type).bind fun n=>if n=0 then none else(yb x).map fun x=>.fp j.offset x
 | .field s x f=>(fieldsOf P s).bind fun l=>(l[f]?).bind fun j=>(Rg P j.type).bind fun n=>(Me P j.type).bind fun g=>(yb x).map fun x=>.In g j.offset n x
 | .indexAddr t x i=>match P.underlying t with
   |some (.slice e)=>(Rg P e).bind fun n=>(yb x).bind fun x=>(yb i).map fun i=>.Rk n x i
   |some (.array len e)=>(Rg P e).bind fun n=>(yb x).bind fun x=>(yb i).map fun i=>.Yn len n x i
   |_=>none
 | .index t x i=>match P.underlying t with
   |some .string=>(yb x).bind fun x=>(yb i).map fun i=>.idx x i
   |some (.array len e)=>(Rg P e).bind fun n=>(Me P e).bind fun g=>(yb x).bind fun x=>(yb i).map fun i=>.Lm g len n x i
   |_=>none
 | .slice t x h d none=>match P.underlying t with
   |some .string=>(yb x).bind fun x=>(Qo h).bind fun h=>(Qo d).map fun d=>.sliceS x h d
   |some (.slice e)=>(Rg P e).bind fun n=>(yb x).bind fun x=>(Qo h).bind fun h=>(Qo d).map fun d=>.slice n x h d
   |some (.array len e)=>(Rg P e).bind fun n=>(yb x).bind fun x=>(Qo h).bind fun h=>(Qo d).map fun d=>.sliceP len n x h d
   |_=>none
 | .extract x i=>(yb x).map fun x=>.ext x i
 | .call {callee:=.builtin .len,args,argTypes}=>match args.toList,argTypes.toList with
   |[x],[t]=>(match P.underlying t with|some .string=>(yb x).map .tp|some (.slice _)=>(yb x).map .len|_=>none)
   |_,_=>none
 | .call {callee:=.builtin .max,args,argTypes}=>match args.toList with
   |[x,y]=>(yb x).bind fun x=>(yb y).map fun y=>.mm true x y
   |_=>none
 | .call {callee:=.builtin .min,args,argTypes}=>match args.toList with
   |[x,y]=>(yb x).bind fun x=>(yb y).map fun y=>.mm false x y
   |_=>none
 | .makeFunc (.func f) first fb=>if first.size=0 then(Ro fb).map fun cs=>.clos f cs else if fb.size=0 then(Ro first).map fun cs=>.mkt (2* f) cs else none
 | .makeInterface t x=>match P.underlying t with
   |some (.interface _)|none=>none
   |_=>(yb x).map fun x=>.mkt (2* t+1) [x]
 |_=>none
section
variable {P:Program} {w:World} {Fr:Nat→Nat} {β:List Nat}
theorem GS(v):Rd w Fr β (ofValue v) v:=by
 unfold ofValue
 grind [Rd,Bc]
theorem cc{a:Act}{sl}(h:∀i,Rd w Fr β (look sl i) (a.tmps.getD i undef)){x}{y}(b:yb x=some y):Rd w Fr β (y.ev sl) (a.eval x):=by
 cases x<;>grind [yb,GS,X.ev,Rd,Act.eval,ta]
def Oc{v u}(h:Rd w Fr β (.flat v) u):u=v/\Bc v=true:=by grind [Rd]
def eg{v}(h:Bc v=true):Rd w Fr β (.flat v) v:=by simp[Rd,h]
def run_sizeOf{t}{n}(h:Rg P t=some n):(Go.sizeOf t).run P w=.ok n w:=by
 unfold Rg at h;cases a:P.info? t with
 |none=>grind
 |some i=>
  rw[a]at h;simp only[fd,Wb]at h;simp[Go.sizeOf,typeInfo,program,a,h,Sem.run]
def aI{t}{b}(h:Me P t=some b):(isAgg t).run P w=.ok b w:=by
 unfold Me at h;cases a:P.underlying t with
 |none=>grind
 |some i=>
  rw[a]at h;simp only[fd,Wb]at h;simp only[isAgg,Qb,run_underlying a,Rb];subst h;cases i<;>rfl
def A3{op}{a b v}(h:Tc op a b=some v)(t)(x y):((do eqGuard op t x y a b;binOp op t a b:Sem Value)).run P w=.ok v w/\Bc v=true:=by
 unfold Tc at h;split at h
 ·rename_i k a k' b
  have e:(eqGuard op t x y (.int k a) (.int k' b)).run P w=.ok () w:=by
   unfold eqGuard;split<;>rfl
  simp only[Qb,e,Rb];cases op
  case shl=>
   simp only at h;split at h
   ·cases h
   ·rename_i c;cases h;simp[binOp,Op.shift,c,Bc,Sem.run,pure]
  case shr=>
   simp only at h;split at h
   ·cases h
   ·rename_i c;cases h;simp[binOp,Op.shift,c,Bc,Sem.run,pure]
  all_goals
   simp only at h;split at h
   ·cases h
   ·rename_i g
    have d:k=k':=by simpa using g
    subst d
    first
     |(cases h;simp[binOp,Op.intArith,Op.intBits,Op.intCmp,Bc,Sem.run,pure];done)
     |(split at h
       ·cases h
       ·rename_i c;cases h;simp[binOp,Op.intDiv,c,Bc,Sem.run,pure])
 ·rename_i a b
  cases op
  case add=>
   simp only at h;split at h
   ·rename_i c;cases h
    have d:¬(((a.size+b.size:Nat):Int)>IntKind.i64.max):=by
     have:IntKind.i64.max=9223372036854775807:=rfl;unfold za at c;omega
    refine⟨?_,rfl⟩;show Sem.run P (Op.stringOp .add a b) w=_;simp only[Op.stringOp,if_neg d];rfl
   grind
  all_goals
   simp only at h;cases h
   try (refine⟨?_,rfl⟩;rfl)
 grind
def C3{op}{a v}(h:ip op a=some v):(Op.unary op a).run P w=.ok v w/\Bc v=true:=by
 unfold ip at h;split at h
 ·split at h
  ·cases h;exact⟨rfl,rfl⟩
  grind
 ·split at h
  ·cases h;exact⟨rfl,rfl⟩
  grind
 grind
theorem Kx:∀{cs}{l}{vs},bytesOf cs=some l->ta w Fr β cs vs->vs=l.map fun c=>.int .u8 c.toNat
 |[],l,vs,h,k=>by
  grind [bytesOf,ta]
 |p::r,l,vs,h,k=>by
  unfold bytesOf at h;split at h
  ·grind
  ·rename_i n r' e
   cases e;split at h
   ·obtain⟨l',a,rfl⟩:=qm h
    obtain⟨v,u,rfl,b,d⟩:=k;obtain⟨rfl,_⟩:=Oc b;rw[Kx a d,gc];congr 2;simp;omega
   grind
  grind
def VC{p}{v}(h:Rd w Fr β p v)(e:p.fi=true):ta w Fr β p.cells v.cells.toList/\gd v.cells.toList:=by
 have one:∀{q:PV},q.cells=[q]->v.cells=#[v]->v.oneCell'=true->Rd w Fr β q v->ta w Fr β q.cells v.cells.toList/\gd v.cells.toList:=fun j l r t=>by
  refine⟨by grind [ta],fun u i=>?_⟩
  grind
 cases p with
 |Hd=>cases e
 |Jc vs=>cases e
 |flat u=>
  obtain⟨rfl,hf⟩:=Oc h;refine one rfl ?_ ?_ h
  ·cases v<;>first|rfl|grind [Bc]
  ·cases v<;>first|rfl|(simp[Bc]at hf)
 |ia n cs=>
  have c:=h;obtain⟨a,d,rfl,_⟩:=c;exact one rfl rfl rfl h
 |agg cs=>
  grind [Rd,PV.cells,Value.cells]
 |ptr b o=>
  have c:=h;obtain⟨g,_,rfl⟩:=c;exact one rfl rfl rfl h
 |tag k cs=>
  have c:=h;obtain⟨vs,rfl,_⟩:=c;refine one rfl ?_ ?_ h<;>(unfold jo;split<;>rfl)
 |vd cs=>
  have c:=h;obtain⟨g,o,vs,rfl,_⟩:=c;exact one rfl rfl rfl h
 |ib f cs=>
  have c:=h;obtain⟨vs,rfl,_⟩:=c;exact one rfl rfl rfl h
 |Sa b=>
  have c:=h;obtain⟨g,_,rfl⟩:=c;exact one rfl rfl rfl h
 |ve b i n=>
  have c:=h;obtain⟨g,a,d,_,rfl,_⟩:=c;exact one rfl rfl rfl h
 |lp f k s live i=>cases e
theorem pU:∀(vs)(cells:Array Value)(o k),o+k+vs.length<=cells.size->
 ((vs.zipIdx k).foldl (fun(cs:Array Value)(x:Value×Nat)=>cs.setIfInBounds (o+x.2) x.1) cells).toList=cells.toList.take (o+k)++vs++cells.toList.drop (o+k+vs.length)
 |[],cells,o,k,h=>by simp
 |v::vs,cells,o,k,h=>by
  rw[List.zipIdx_cons,Cg,pU vs _ o (k+1) na];simp only[Array.toList_setIfInBounds];have a:o+k<cells.toList.length:=by simp at h⊢;omega
  rw[List.take_set,List.drop_set,if_pos aa,<-tk,oo a,Dt _ _ na];have:o+k - (cells.toList.take (o+k)).length=0:=by rw[Se];omega
  grind
def pB(w:World)(Fr:Nat->Nat)(β:List Nat)(place:Nat->Option (Nat×Nat)):List (Nat×Value)->List (Nat×Nat×PV)->Prop
 |[],[]=>True
 |(i,v)::r,(o,n,p)::s=>place i=some (o,n)/\Rd w Fr β p v/\pB w Fr β place r s
 |_,_=>False
theorem VD{place}:∀(ps)(qs)(cells)(cs b),pB w Fr β place ps qs->ta w Fr β cs cells.toList->gd cells.toList->zi cs qs=some b->
 ∃a,Instr.fill place cells ps=some a/\ta w Fr β b a.toList/\gd a.toList
 |[],[],cells,cs,b,_,h,c,hf=>by
  simp only[zi,Wb]at hf;subst hf;exact⟨cells,rfl,h,c⟩
 |[],_::_,_,_,_,h,_,_,_=>h.elim
 |_::_,[],_,_,_,h,_,_,_=>h.elim
 |(i,v)::r,(o,n,p)::s,cells,cs,b,u,h,c,hf=>by
  obtain⟨z,k,l⟩:=u;unfold zi at hf;split at hf
  ·rename_i q
   obtain⟨c1,c2,c3⟩:=q;obtain⟨d,j⟩:=VC k c1;have y:v.cells.size=n:=by rw[<-c2,<-d.length];simp
   have t:cells.size=cs.length:=by rw[<-h.length];simp
   have e:((v.cells.zipIdx).foldl (fun(cs:Array Value)(x:Value×Nat)=>cs.setIfInBounds (o+x.2) x.1) cells).toList=cells.toList.take o++v.cells.toList++cells.toList.drop (o+n):=by
    have g:=pU v.cells.toList cells o 0 na;rw[pi,show v.cells.toList.length=n by simp[y]]at g;rw[<-g,<-Array.foldl_toList,Array.toList_zipIdx]
   have r1:ta w Fr β (cs.take o++p.cells++cs.drop (o+n)) ((v.cells.zipIdx).foldl (fun(cs:Array Value)(x:Value×Nat)=>cs.setIfInBounds (o+x.2) x.1) cells).toList:=by
    rw[e];exact((h.take o).append d).append (h.drop (o+n))
   have r2:gd ((v.cells.zipIdx).foldl (fun(cs:Array Value)(x:Value×Nat)=>cs.setIfInBounds (o+x.2) x.1) cells).toList:=by
    rw[e];exact((c.take o).append j).append (c.drop (o+n))
   obtain⟨a,A,B,C⟩:=VD (place:=place) r s _ _ b l r1 r2 hf
   grind [Instr.fill]
  grind
end
section
variable {P:Program} {w:World} {Fr:Nat→Nat} {β:List Nat}
def mq{k}{n}:(asIntOf (.int k n)).run P w=.ok (k,n) w:=rfl
theorem MQ{p}{v}{n}(h:Rd w Fr β p v)(a:Rq p=some n):∃k,v=.int k n:=by
 unfold Rq at a;split at a
 ·cases a;obtain⟨rfl,_⟩:=Oc h;simp
 grind
theorem GU{v}{k}{i}{y:Nat}{c}(a:v=.int k i)(h:0<=i/\i<=(y:Int)):(Instr.sliceBound v y c).run P w=.ok i.toNat w:=by
 subst a;simp only[Instr.sliceBound,Qb,mq,Rb,if_pos h];rfl
theorem Xv{isS}{len a}{b g}{e d}{l h}(k:len<=a)(j:(b=none/\e=none)\/∃v p,b=some v/\e=some p/\Rd w Fr β p v)(i:(g=none/\d=none)\/∃v p,g=some v/\d=some p/\Rd w Fr β p v)
 (z:Nf len e d=some (l,h)):(Instr.sliceBounds isS len a b g none).run P w=.ok (l,h,a) w/\l<=h/\h<=len:=by
 obtain⟨C,o,q⟩:=qb z;obtain⟨l',r,t⟩:=qm q;cases t;have x:h<=len/\(g=none->h=len)/\∀v,g=some v->∀c,(Instr.sliceBound v a c).run P w=.ok h w:=by
  rcases i with⟨rfl,rfl⟩|⟨v,p,rfl,rfl,hr⟩
  ·grind
  ·obtain⟨n,B,A⟩:=qb o
   grind [MQ,GU]
 have y:l<=h/\(b=none->l=0)/\∀v,b=some v->∀c,(Instr.sliceBound v h c).run P w=.ok l w:=by
  rcases j with⟨rfl,rfl⟩|⟨v,p,rfl,rfl,hr⟩
  ·grind
  ·obtain⟨n,B,A⟩:=qb r
   grind [MQ,GU]
 refine⟨?_,y.1,x.1⟩;unfold Instr.sliceBounds;cases g with
 |none=>
  cases b with
  |none=>simp_all
  |some v=>simp_all
 |some u=>
  cases b with
  |none=>simp_all
  |some v=>simp_all
def zcQ{n size l h}{cs}{v}{elem:TypeId}(hr:Rd w Fr β (.ia n cs) v)(i:cs.length=n* size)(hs:0<size)(t:l<=h)(r:h<=n):
 ∃a b,v=.slice a n b/\n<=b/\Rd w Fr β (.ia (h - l) ((cs.take (h* size)).drop (l* size))) (.slice (if b=l then a else a.map (·.add (l* size))) (h - l) (b - l)):=by
 obtain⟨a,b,rfl,j,k⟩:=hr;refine⟨a,b,rfl,j,?_⟩;refine⟨_,_,rfl,aa,?_⟩;by_cases q:h=l
 ·grind
 ·right
  rcases k with⟨_,p⟩|⟨g,o,vs,rfl,d,e,c⟩
  ·omega
  ·refine⟨g,o+l* size,(vs.take (h* size)).drop (l* size),?_,(d.take _).drop _,(e.take _).drop _,(c.take _).drop _⟩
   grind [Addr.add]
def bt{a:Act}{sl}(h:∀i,Rd w Fr β (look sl i) (a.tmps.getD i undef)){x}{y}(b:Qo x=some y):(x.map a.eval=none/\y.map (·.ev sl)=none)\/∃v p,x.map a.eval=some v/\y.map (·.ev sl)=some p/\Rd w Fr β p v:=by
 cases x<;>grind [Qo,Option.map_eq_some_iff,cc]
theorem Zx{a:Act}{sl}(h:∀i,Rd w Fr β (look sl i) (a.tmps.getD i undef)):∀{l:List Operand}{ys},l.mapM yb=some ys->ta w Fr β (ys.map (·.ev sl)) (l.map a.eval)
 |[],ys,b=>by grind [ta]
 |x::l,ys,b=>by
  rw[Qp]at b;obtain⟨y,c,b⟩:=qb b;obtain⟨r,hr,b⟩:=qb b;cases b;exact⟨_,_,rfl,cc h c,Zx h hr⟩
def hJ{t}{zs}(h:Vw P t=some zs):∃z,(zeroValue t).run P w=.ok z w/\ta w Fr β zs z.cells.toList/\gd z.cells.toList:=by
 obtain⟨z,c,b⟩:=qb h;obtain⟨i,d,c⟩:=qb c;split at b
 case isFalse=>cases b
 rename_i a;cases b;refine⟨z,by simp[zeroValue,typeInfo,program,d,c,Sem.run],?_⟩;have:∀vs:List Value,ta w Fr β (vs.map ofValue) vs:=by
  intro vs
  induction vs with
  |nil=>rfl
  |cons v vs g=>grind [ta,GS]
 exact⟨this _,fun v e=>Bg.1 a v e⟩
theorem EH{t}{b}{n o}{vs:List Value}(a:Me P t=some b)(d:Rg P t=some n)(c:b=true)(e:o+n<=vs.length):(part t vs.toArray o).run P w=.ok (.agg ((vs.drop o).take n).toArray) w:=by
 subst c;simp only[part,Qb,aI a,run_sizeOf d,Rb,if_true];simp
def FH{t}{o}{vs:List Value}{v}(a:Me P t=some false)(b:vs[o]?=some v):(part t vs.toArray o).run P w=.ok v w:=by
 simp only[part,Qb,aI a,Rb];simp_all
end
section
variable {P:Program} {w:World} {Fr:Nat→Nat} {β:List Nat}
theorem aD{place}{a:Act}{sl}(hs:∀i,Rd w Fr β (look sl i) (a.tmps.getD i undef)):∀{ps}{qs},wq place ps=some qs->
 pB w Fr β place (ps.map fun q=>(q.1,a.eval q.2)) (qs.map fun q=>(q.1,q.2.1,q.2.2.ev sl))
 |[],qs,h=>by simp only[wq,Wb]at h;subst h;trivial
 |(i,x)::r,qs,h=>by
  obtain⟨p,b,h⟩:=qb h;obtain⟨y,c,h⟩:=qb h;obtain⟨s,d,rfl⟩:=qm h;exact⟨b,cc hs c,aD hs d⟩
def pX{t}{ps:Array (Nat×Operand)}{qs}{zs d}(h:ZC P t ps.toList=some qs)(l:Vw P t=some zs){a:Act}{sl}(hs:∀i,Rd w Fr β (look sl i) (a.tmps.getD i undef))
 (hf:zi zs (qs.map fun q=>(q.1,q.2.1,q.2.2.ev sl))=some d):∃b,(Instr.build t (ps.map fun(i,x)=>(i,a.eval x))).run P w=.ok (.agg b) w/\ta w Fr β d b.toList/\gd b.toList:=by
 obtain⟨z,n,r,z3⟩:=hJ (w:=w) (Fr:=Fr) (β:=β) l;have e:=l;obtain⟨k,g,_⟩:=qb e;obtain⟨C,hit,j⟩:=qb g;have u:k=z:=by
  have:(zeroValue t).run P w=.ok k w:=by simp[zeroValue,typeInfo,program,hit,j,Sem.run]
  rw[this]at n;cases n;rfl
 have o:(ps.map fun(i,x)=>(i,a.eval x)).toList=ps.toList.map fun q=>(q.1,a.eval q.2):=ea
 have fin:∀place,wq place ps.toList=some qs->(∀c,Instr.fill place k.cells c=P.built t c)->∃b,(Instr.build t (ps.map fun(i,x)=>(i,a.eval x))).run P w=.ok (.agg b) w/\ta w Fr β d b.toList/\gd b.toList:=fun place p B=>by
  obtain⟨b,v,y,A⟩:=VD _ _ _ _ _ (aD hs p) r z3 hf
  grind [run_build]
 unfold ZC at h
 grind [Option.bind_eq_some_iff,Program.built]
def g2{t}(ht:P.underlying t=some .bool)(d)(u v):(Op.equalIn (d+1) t (.bool u) (.bool v)).run P w=.ok (u==v) w:=by
 simp only[Op.equalIn,Qb,run_underlying ht,Rb];rfl
theorem XO:∀{k ks}{cs a}{r},Mc (k++ks) cs a=some r->∃r1 r2,Mc k (cs.take k.length) (a.take k.length)=some r1/\Mc ks (cs.drop k.length) (a.drop k.length)=some r2/\r=(r1&&r2)/\k.length<=cs.length/\k.length<=a.length
 |[],ks,cs,a,r,h=>⟨true,r,ra,na,ea,ea,ea⟩
 |x::k,ks,cs,a,r,h=>by
  have step:∀{t:Bool}{cs a:List PV}{r:Bool},(Mc (k++ks) cs a).map (t&& ·)=some r->∃r1 r2,(Mc k (cs.take k.length) (a.take k.length)).map (t&& ·)=some r1/\Mc ks (cs.drop k.length) (a.drop k.length)=some r2/\r=(r1&&r2)/\k.length<=cs.length/\k.length<=a.length:=fun h=>by
   obtain⟨q,b,rfl⟩:=qm h;obtain⟨r1,r2,c,d,rfl,g,i⟩:=XO b
   grind
  unfold Mc at h;split at h
  ·grind
  ·rename_i e;cases e
   obtain⟨r1,r2,b,c,d,g,i⟩:=step h
   grind [Mc]
  ·grind [Mc]
  ·rename_i e;cases e
   split at h
   ·obtain⟨r1,r2,b,c,d,g,i⟩:=step h
    grind [Mc]
   grind
  grind
def Lr(P:Program)(w:World)(Fr:Nat->Nat)(β:List Nat)(t:TypeId)(cs:List PV)(v:Value):Prop:=
 (Me P t=some true/\∃vs,v=.agg vs.toArray/\ta w Fr β cs vs)\/(Me P t=some false/\∃p,cs=[p]/\Rd w Fr β p v)
theorem YO{sh}{eq:TypeId->Value->Value->Sem Bool}{xs ys:List Value}(i:∀t k,sh t=some k->Me P t=some true\/(Me P t=some false/\k.length=1))
 (H:∀t k cs e u v r,sh t=some k->Lr P w Fr β t cs u->Lr P w Fr β t e v->Mc k cs e=some r->(eq t u v).run P w=.ok r w):∀(j)(o)(ks)(cs e)(r),Tv P sh j o=some ks->ta w Fr β cs (xs.drop o)->ta w Fr β e (ys.drop o)->Mc ks cs e=some r->
 ((do
   let d <-forIn j ((none,()):Option Bool×Unit) fun f d=>
    if f.name≠ "_" then do
     let a <-part f.type xs.toArray f.offset
     let b <-part f.type ys.toArray f.offset
     let c <-eq f.type a b
     if(!c)=true then pure (ForInStep.done (some false,()))else pure (ForInStep.yield (none,()))
    else pure (ForInStep.yield (none,()))
   match d.1 with
   |some r=>pure r
   |none=>pure true:Sem Bool)).run P w=.ok r w
 |[],o,ks,cs,e,r,h,l,q,n=>by
  simp only[Tv,Wb]at h;have:r=true:=by
   unfold Mc at n;split at n<;>simp_all
  simp_all
 |f::j,o,ks,cs,e,r,h,l,q,n=>by
  simp only[Tv]at h;split at h
  case isFalse=>cases h
  rename_i hf;obtain⟨k,C,h⟩:=qb h;split at h
  case isFalse=>cases h
  rename_i hs;obtain⟨hs,y⟩:=hs;have E:0<k.length:=List.length_pos_iff.2 y;obtain⟨B,x,rfl⟩:=qm h;obtain⟨r1,r2,e1,e2,rfl,G,I⟩:=XO n;have d:∀{xs:List Value}{cs:List PV},ta w Fr β cs (xs.drop o)->k.length<=cs.length->∃v,(part f.type xs.toArray f.offset).run P w=.ok v w/\Lr P w Fr β f.type (cs.take k.length) v:=fun{xs cs} z O=>by
   have A:=z.length;rw[fc]at A;rcases i _ _ C with g|⟨g,l⟩
   ·refine⟨_,EH g hs rfl aa,.inl ⟨g,_,rfl,?_⟩⟩
    rw[hf.1];exact z.take _
   ·obtain⟨p,F⟩:∃p,cs[0]?=some p:=⟨_,qe aa⟩
    obtain⟨v,Q,J⟩:=z.get 0 p F;refine⟨v,FH g na,.inr ⟨g,p,?_,J⟩⟩;cases cs<;>grind
  obtain⟨u,K,L⟩:=d l G;obtain⟨v,M,N⟩:=d q I;have hr:=H _ _ _ _ _ _ _ C L N e1;have D:=YO i H j (o+k.length) B _ _ r2 x (by have:=l.drop k.length;rwa[yd]at this) (by have:=q.drop k.length;rwa[yd]at this) e2;rw[List.forIn_cons];simp only[Qb,hf.2,ne_eq,not_false_eq_true,if_true,K,M,hr,Rb];cases r1 with
  |false=>rfl
  |true=>
   simp only[Qb]at D;exact D
def zcB{d}{t}{k}(h:co P d t=some k):Me P t=some true\/(Me P t=some false/\k.length=1):=by
 cases d<;>grind [co,Me]
theorem ZO:∀(d i)(t)(k)(cs c)(u v)(r),d<=i->co P d t=some k->Lr P w Fr β t cs u->Lr P w Fr β t c v->Mc k cs c=some r->(Op.equalIn i t u v).run P w=.ok r w
 |0,i,t,k,cs,c,u,v,r,_,h,_,_,_=>by cases h
 |d+1,0,t,k,cs,c,u,v,r,D,_,_,_,_=>by omega
 |d+1,i+1,t,k,cs,c,u,v,r,D,h,n,o,a=>by
  unfold co at h;have b:Me P t=some false->∃p q,cs=[p]/\c=[q]/\Rd w Fr β p u/\Rd w Fr β q v:=fun C=>by
   rcases n with⟨l,_⟩|⟨_,p,rfl,g⟩
   ·grind
   rcases o with⟨l,_⟩|⟨_,q,rfl,j⟩<;>grind
  split at h
  ·rename_i e;cases h
   obtain⟨p,q,rfl,rfl,g,j⟩:=b (by grind [Me]);unfold Mc at a;split at a
   ·grind
   ·rename_i e1 e2 e3;cases e1;cases e2;cases e3
    obtain⟨rfl,_⟩:=Oc g;obtain⟨rfl,_⟩:=Oc j;simp only[Mc,fd,sk,Wb]at a;subst a;simp only[Op.equalIn,Qb,run_underlying e,Rb];rfl
   ·grind
   ·grind
   grind
  ·rename_i e;cases h
   obtain⟨p,q,rfl,rfl,g,j⟩:=b (by grind [Me]);unfold Mc at a;split at a
   ·grind
   ·grind
   ·rename_i e1 e2 e3;cases e1;cases e2;cases e3
    obtain⟨rfl,_⟩:=Oc g;obtain⟨rfl,_⟩:=Oc j;simp only[Mc,fd,sk,Wb]at a;subst a;simp only[Op.equalIn,Qb,run_underlying e,Rb];rfl
   ·grind
   grind
  ·rename_i e;cases h
   obtain⟨p,q,rfl,rfl,g,j⟩:=b (by grind [Me]);unfold Mc at a;split at a
   ·grind
   ·grind
   ·grind
   ·rename_i e1 e2 e3;cases e1;cases e2;cases e3
    obtain⟨rfl,_⟩:=Oc g;obtain⟨rfl,_⟩:=Oc j;split at a
    ·rename_i l
     obtain⟨rfl,rfl⟩:=l;simp only[Mc,fd,sk,Wb]at a;subst a;simp only[Op.equalIn,Qb,run_underlying e,Rb,if_true];rfl
    grind
   grind
  ·rename_i x e
   split at h
   ·cases h
   rename_i l;have C:Me P t=some true:=by unfold Me;rw[e];rfl
   have st:∀{v:Value}{cs:List PV},Lr P w Fr β t cs v->∃vs,v=.agg vs.toArray/\ta w Fr β cs vs:=fun h=>by
    rcases h with⟨_,h⟩|⟨h,_⟩<;>grind
   obtain⟨xs,rfl,E⟩:=st n;obtain⟨ys,rfl,F⟩:=st o;have:=YO (P:=P) (w:=w) (Fr:=Fr) (β:=β) (sh:=co P d) (eq:=Op.equalIn i) (xs:=xs) (ys:=ys) (fun t k h=>zcB h) (fun t k cs c u v r y z A B=>ZO d i t k cs c u v r aa y z A B) x.toList 0 k cs c r h na na a;have g:∀w:World,(program:Sem Program).run P w=.ok P w:=fun _=>rfl
   simp only[Op.equalIn,Qb,run_underlying e,Rb,g,l,if_false,La]
   grind [Sem.run_bind]
  grind
theorem zcO{o}{c}(q:cg P o.op=some c){a:Act}{sl}(hs:∀i,Rd w Fr β (look sl i) (a.tmps.getD i undef)){p}(B:cb c (·.ev sl)=some p):
 ∃v,(execOp a.eval o).run P w=.ok (.value v) w/\Rd w Fr β p v:=by
 obtain⟨dst,op,ty,pos,O,guard⟩:=o;have val:∀{s:Sem Value}{v:Value},s.run P w=.ok v w->(do pure (Next.value (<-s)):Sem Next).run P w=.ok (.value v) w:=fun h=>by
  simp_all
 cases op with
 |move x=>
  obtain⟨y,E,rfl⟩:=qm q;cases B;exact⟨_,rfl,cc hs E⟩
 |assign x=>
  obtain⟨y,E,rfl⟩:=qm q;cases B;exact⟨_,rfl,cc hs E⟩
 |pick x y z=>
  obtain⟨S,A,q⟩:=qb q;obtain⟨y'Z,E,q⟩:=qb q;obtain⟨K,hzZ,rfl⟩:=qm q;simp only[cb]at B;split at B
  ·rename_i b J
   cases B;have C:=cc hs A;rw[J]at C;obtain⟨C,_⟩:=Oc C;refine⟨if b then a.eval y else a.eval z,?_,?_⟩
   ·simp only[execOp,C];rfl
   grind [cc]
  grind
 |binOp op t x y U=>
  obtain⟨S,A,q⟩:=qb q;obtain⟨y'Z,E,q⟩:=qb q;have C:=cc hs A;have D:=cc hs E;have bin:c=.bin op S y'Z->∃v,(execOp a.eval ⟨dst,.binOp op t x y U,ty,pos,O,guard⟩).run P w=.ok (.value v) w/\Rd w Fr β p v:=fun e=>by
   subst e;simp only[cb]at B;split at B
   ·rename_i u v e1 e2
    rw[e1]at C;rw[e2]at D;obtain⟨C,_⟩:=Oc C;obtain⟨D,_⟩:=Oc D;obtain⟨r,hr,rfl⟩:=qm B;obtain⟨X,Y⟩:=A3 (P:=P) (w:=w) hr t x y;refine⟨r,val ?_,eg Y⟩
    grind
   grind
  have beq:∀K:Bool,P.underlying t=some .bool->op=(if K then .neq else .eql)->c=.beq K S y'Z->∃v,(execOp a.eval ⟨dst,.binOp op t x y U,ty,pos,O,guard⟩).run P w=.ok (.value v) w/\Rd w Fr β p v:=fun K ht Q e=>by
   subst e;simp only[cb]at B;split at B
   ·rename_i u v e1 e2
    rw[e1]at C;rw[e2]at D;obtain⟨C,_⟩:=Oc C;obtain⟨D,_⟩:=Oc D;cases B;refine⟨_,val ?_,eg rfl⟩;rw[C,D];have hqZ:(Op.equal t (.bool u) (.bool v)).run P w=.ok (u==v) w:=by
     exact g2 ht 9999 u v
    subst Q;cases K
    ·show(do pure (.bool (<-Op.equal t (.bool u) (.bool v))):Sem Value).run P w=_
     simp_all
    ·show(do pure (.bool (!(<-Op.equal t (.bool u) (.bool v)))):Sem Value).run P w=_
     simp_all
   grind
  have eqs:∀(K:Bool)(ks:List LK)(fsZ:Array Field),P.underlying t=some (.struct fsZ)->P.eqGuardType P.depth t=false->co P 50 t=some ks->op=(if K then .neq else .eql)->c=.Cn K ks S y'Z->∃v,(execOp a.eval ⟨dst,.binOp op t x y U,ty,pos,O,guard⟩).run P w=.ok (.value v) w/\Rd w Fr β p v:=fun K ks fsZ ht L hkZ Q e=>by
   subst e;simp only[cb]at B;split at B
   case h_2=>cases B
   rename_i cs Z e1 e2;rw[e1]at C;rw[e2]at D;obtain⟨us,C,W,_⟩:=C;obtain⟨vs,D,V,_⟩:=D;obtain⟨r,hr,rfl⟩:=qm B;refine⟨_,val ?_,eg rfl⟩;rw[C,D];have R:∀w:World,(program:Sem Program).run P w=.ok P w:=fun _=>rfl
   have hgZ:∀op,(eqGuard op t x y (.agg us.toArray) (.agg vs.toArray)).run P w=.ok () w:=fun op=>by
    cases op<;>first
     |rfl
     |(simp only[eqGuard,am,La,if_false,Qb,R,Rb,L,gn,if_true];rfl)
   have haZ:Me P t=some true:=by unfold Me;rw[ht];rfl
   have hqZ:(Op.equal t (.agg us.toArray) (.agg vs.toArray)).run P w=.ok r w:=ZO 50 10000 t ks cs Z _ _ r aa hkZ (.inl ⟨haZ,us,rfl,W⟩) (.inl ⟨haZ,vs,rfl,V⟩) hr;subst Q;simp only[Qb,hgZ,Rb];cases K
   ·show(do pure (.bool (<-Op.equal t (.agg us.toArray) (.agg vs.toArray))):Sem Value).run P w=_
    simp_all
   ·show(do pure (.bool (!(<-Op.equal t (.agg us.toArray) (.agg vs.toArray)))):Sem Value).run P w=_
    simp_all
  grind [Option.map_eq_some_iff]
 |nilCheck x=>
  obtain⟨y,E,rfl⟩:=qm q;have C:=cc hs E;simp only[cb]at B;split at B
  ·rename_i b o e;cases B
   rw[e]at C;have D:=C;obtain⟨g,_,M⟩:=D;exact⟨a.eval x,by simp only[execOp,M];rfl,C⟩
  ·rename_i cs e;cases B
   rw[e]at C;have D:=C;obtain⟨g,o,vs,M,_⟩:=D;exact⟨a.eval x,by simp only[execOp,M];rfl,C⟩
  ·rename_i f cs e;cases B
   rw[e]at C;have D:=C;obtain⟨vs,M,_⟩:=D;exact⟨a.eval x,by simp only[execOp,M];rfl,C⟩
  ·rename_i f cs e;cases B
   rw[e]at C;have D:=C;obtain⟨vs,M,_⟩:=D;exact⟨a.eval x,by simp only[execOp,M];rcases zeP f vs with e|e<;>rw[e]<;>rfl,C⟩
  ·rename_i b e;cases B
   rw[e]at C;have D:=C;obtain⟨g,_,M⟩:=D;exact⟨a.eval x,by simp only[execOp,M];rfl,C⟩
  grind
 |unOp op t x=>
  obtain⟨y,E,rfl⟩:=qm q;have C:=cc hs E;simp only[cb]at B;split at B
  ·rename_i u e1
   rw[e1]at C;obtain⟨C,_⟩:=Oc C;obtain⟨r,hr,rfl⟩:=qm B;obtain⟨X,Y⟩:=C3 (P:=P) (w:=w) hr;exact⟨r,val na,eg Y⟩
  grind
 |convert Q dst x=>
  obtain⟨y,E,q⟩:=qb q;have C:=cc hs E;split at q
  ·rename_i R k L K
   cases q;simp only[cb]at B;split at B
   ·rename_i k' n e
    cases B;rw[e]at C;obtain⟨C,_⟩:=Oc C;refine⟨_,val ?_,eg rfl⟩;rw[C];simp only[convert,Qb,run_underlying L,run_underlying K,Rb];rfl
   grind
  ·rename_i L K
   cases q;simp only[cb]at B;split at B
   ·rename_i s e
    cases B;rw[e]at C;obtain⟨C,_⟩:=Oc C;refine⟨_,val ?_,eg rfl⟩;rw[C];simp only[convert,Qb,run_underlying L,run_underlying K,Rb];rfl
   grind
  grind
 |build t ps=>
  obtain⟨zs,hzZ,q⟩:=qb q;obtain⟨qs,hqZ,rfl⟩:=qm q;obtain⟨L,hf,rfl⟩:=qm B;obtain⟨K,Q,R,U⟩:=pX (w:=w) (Fr:=Fr) (β:=β) hqZ hzZ hs hf;exact⟨.agg K,val Q,by grind [Rd]⟩
 |fieldAddr s x f=>
  obtain⟨fsZ,T,q⟩:=qb q;obtain⟨flZ,C,q⟩:=qb q;obtain⟨n,D,q⟩:=qb q;split at q
  ·cases q
  ·rename_i hnZ
   obtain⟨y,E,rfl⟩:=qm q;have A:=cc hs E;have W:P.underlying s=some (.struct fsZ):=by
    unfold fieldsOf at T;split at T
    ·grind
    ·cases T
   have K:∀g o,a.eval x=.pointer (some ⟨g,o,none⟩)->(Instr.fieldAt s (a.eval x) f).run P w=.ok (.pointer (some ⟨g,o+flZ.offset,none⟩)) w:=fun g o e=>by
    rw[e];simp only[Instr.fieldAt,Qb,run_underlying W,Rb,C,Instr.sureAddr,fieldPlace,run_sizeOf D,Lh,if_neg hnZ]
    grind [Addr.add]
   simp only[cb]at B;split at B
   ·rename_i b o e;cases B
    rw[e]at A;obtain⟨g,hgZ,A⟩:=A;exact⟨_,val (K g o A),by grind [Rd]⟩
   ·rename_i cs e;cases B
    rw[e]at A;obtain⟨g,o,vs,A,r1,r2,r3⟩:=A;exact⟨_,val (K g o A),by exact⟨g,o+flZ.offset,vs.drop flZ.offset,rfl,r1.drop _,r2.drop _,r3.drop _⟩⟩
   grind
 |field s x f=>
  obtain⟨fsZ,T,q⟩:=qb q;obtain⟨flZ,C,q⟩:=qb q;obtain⟨n,D,q⟩:=qb q;obtain⟨g,M,q⟩:=qb q;obtain⟨y,E,rfl⟩:=qm q;have A:=cc hs E;have W:P.underlying s=some (.struct fsZ):=by
   unfold fieldsOf at T;split at T
   ·grind
   ·cases T
  cases g with
  |true=>
   simp only[cb]at B;split at B
   ·rename_i cs e
    split at B
    ·cases B
     rw[e]at A;obtain⟨vs,A,r1,r2⟩:=A;have hlZ:=r1.length;refine⟨_,val ?_,by exact⟨(vs.drop flZ.offset).take n,rfl,(r1.drop _).take _,(r2.drop _).take _⟩⟩;simp only[Instr.field,Qb,run_underlying W,Rb,C,asAgg];have:=EH (w:=w) M D rfl (vs:=vs) (o:=flZ.offset) aa;simp_all
    grind
   grind
  |false=>
   simp only[cb]at B;split at B
   ·rename_i cs e
    rw[e]at A;obtain⟨vs,A,r1,r2⟩:=A;obtain⟨v,V,hr⟩:=r1.get _ _ B;refine⟨v,val ?_,hr⟩;simp only[Instr.field,Qb,run_underlying W,Rb,C,asAgg];have:=FH (w:=w) M V;simp_all
   grind
 |indexAddr t x i=>
  simp only[cg]at q;split at q
  ·rename_i e N
   obtain⟨n,D,q⟩:=qb q;obtain⟨S,F,q⟩:=qb q;obtain⟨i'Z,I,rfl⟩:=qm q;have A:=cc hs F;have H:=cc hs I;simp only[cb]at B;split at B
   ·rename_i m cs k j e1 e2
    split at B
    ·rename_i J;cases B
     rw[e1]at A;rw[e2]at H;obtain⟨H,_⟩:=Oc H;obtain⟨b,G,A,_,V⟩:=A;rcases V with⟨_,T⟩|⟨g,o,vs,rfl,r1,r2,r3⟩
     ·omega
     ·refine⟨.pointer (some ⟨g,o+j.toNat* n,none⟩),val ?_,by exact⟨g,o+j.toNat* n,vs.drop (j.toNat* n),rfl,r1.drop _,r2.drop _,r3.drop _⟩⟩
      rw[A,H];simp only[Instr.indexAt,Qb,mq,run_underlying N,Rb,Lh,if_pos J,run_sizeOf D]
      grind [Addr.add]
    grind
   ·rename_i b o m k j e1 e2
    split at B
    ·rename_i J;cases B
     rw[e1]at A;rw[e2]at H;obtain⟨H,_⟩:=Oc H;obtain⟨g,a0,G,hgZ,A,_,V⟩:=A;have haZ:a0=some ⟨g,o,none⟩:=V.resolve_left aa;subst haZ;refine⟨.pointer (some ⟨g,o+j.toNat* n,none⟩),val ?_,by grind [Rd]⟩;rw[A,H];simp only[Instr.indexAt,Qb,mq,run_underlying N,Rb,Lh,if_pos J,run_sizeOf D]
     grind [Addr.add]
    grind
   grind
  ·rename_i len e N
   obtain⟨n,D,q⟩:=qb q;obtain⟨S,F,q⟩:=qb q;obtain⟨i'Z,I,rfl⟩:=qm q;have A:=cc hs F;have H:=cc hs I;simp only[cb]at B;split at B
   ·rename_i b o k j e1 e2
    split at B
    ·rename_i J;cases B
     rw[e1]at A;rw[e2]at H;obtain⟨H,_⟩:=Oc H;obtain⟨g,hgZ,A⟩:=A;refine⟨.pointer (some ⟨g,o+j.toNat* n,none⟩),val ?_,by grind [Rd]⟩;rw[A,H];simp only[Instr.indexAt,Qb,mq,run_underlying N,Instr.sureAddr,Rb,Lh,if_pos J,run_sizeOf D]
     grind [Addr.add]
    grind
   grind
  grind
 |index t x i=>
  simp only[cg]at q;split at q
  ·rename_i N
   obtain⟨S,F,q⟩:=qb q;obtain⟨i'Z,I,rfl⟩:=qm q;have A:=cc hs F;have H:=cc hs I;simp only[cb]at B;split at B
   ·rename_i s k j e1 e2
    split at B
    ·rename_i J
     obtain⟨K,C,rfl⟩:=qm B;rw[e1]at A;rw[e2]at H;obtain⟨H,_⟩:=Oc H;obtain⟨A,_⟩:=Oc A;refine⟨_,val ?_,eg rfl⟩;rw[A,H];simp only[Instr.index,Qb,mq,run_underlying N,Rb,if_pos J,C];rfl
    grind
   grind
  ·rename_i len e N
   obtain⟨n,D,q⟩:=qb q;obtain⟨g,M,q⟩:=qb q;obtain⟨S,F,q⟩:=qb q;obtain⟨i'Z,I,rfl⟩:=qm q;have A:=cc hs F;have H:=cc hs I;simp only[cb]at B;split at B
   ·rename_i cs k j e1 e2
    split at B
    ·rename_i J
     obtain⟨K,L,Q⟩:=J;rw[e1]at A;rw[e2]at H;obtain⟨H,_⟩:=Oc H;obtain⟨vs,A,r1,r2⟩:=A;have hlZ:=r1.length;cases g with
     |true=>
      cases B;refine⟨_,val ?_,by exact⟨(vs.drop (j.toNat* n)).take n,rfl,(r1.drop _).take _,(r2.drop _).take _⟩⟩;rw[A,H];simp only[Instr.index,Qb,mq,run_underlying N,Rb,if_pos (And.intro K L),run_sizeOf D]
      grind [EH]
     |false=>
      obtain⟨v,V,hr⟩:=r1.get _ _ B;refine⟨v,val ?_,hr⟩;rw[A,H];simp only[Instr.index,Qb,mq,run_underlying N,Rb,if_pos (And.intro K L),run_sizeOf D];exact FH (w:=w) M V
    grind
   grind
  grind
 |slice t x loZ H mxZ=>
  cases mxZ with
  |some _=>cases q
  |none=>
   simp only[cg]at q;split at q
   ·rename_i N
    obtain⟨S,F,q⟩:=qb q;obtain⟨lo',L,q⟩:=qb q;obtain⟨I,K,rfl⟩:=qm q;have A:=cc hs F;have R:=bt hs L;have Q:=bt hs K;simp only[cb]at B;split at B
    ·rename_i s e1
     obtain⟨⟨l,h⟩,J,rfl⟩:=qm B;rw[e1]at A;obtain⟨A,_⟩:=Oc A;obtain⟨X,Y,k3Z⟩:=Xv (P:=P) (isS:=false) (Aa _) R Q J;refine⟨.string (s.extract l h),val ?_,eg rfl⟩;simp only[Instr.sliceAt,Instr.slice,Qb,run_underlying N,Rb];simp_all
    grind
   ·rename_i elZ N
    obtain⟨n,D,q⟩:=qb q;obtain⟨S,F,q⟩:=qb q;obtain⟨lo',L,q⟩:=qb q;obtain⟨I,K,rfl⟩:=qm q;have A:=cc hs F;have R:=bt hs L;have Q:=bt hs K;simp only[cb]at B;split at B
    ·rename_i m cs e1
     split at B
     ·rename_i hsz
      obtain⟨⟨l,h⟩,J,rfl⟩:=qm B;rw[e1]at A;have hmc:∃b G,a.eval x=.slice b m G/\m<=G:=by
       simp only[Rd]at A;obtain⟨b,G,C,M,_⟩:=A;exact⟨b,G,C,M⟩
      obtain⟨_,cap0,_,Z⟩:=hmc;obtain⟨_,Y,k3Z⟩:=Xv (P:=P) (isS:=true) Z R Q J;obtain⟨b,G,hx1,U,hr⟩:=zcQ (elem:=elZ) A hsz.1 hsz.2 Y k3Z;obtain⟨X,_,_⟩:=Xv (P:=P) (isS:=true) U R Q J;refine⟨_,val ?_,hr⟩;rw[hx1];simp only[Instr.sliceAt,Instr.slice,Qb,run_underlying N,Rb];rw[show(none:Option Operand).map a.eval=none from rfl,X];simp only[Rb,run_sizeOf D];rfl
     grind
    ·rename_i b o m e1
     obtain⟨⟨l,h⟩,J,rfl⟩:=qm B;rw[e1]at A;obtain⟨g,a0,G,hgZ,A,U,V⟩:=A;obtain⟨X,Y,k3Z⟩:=Xv (P:=P) (isS:=true) U R Q J;refine⟨.slice (if G=l then a0 else a0.map (·.add (l* n))) (h - l) (G - l),val ?_,?_⟩
     ·rw[A]
      simp only[Instr.sliceAt,Instr.slice,Qb,run_underlying N,Rb];rw[show(none:Option Operand).map a.eval=none from rfl,X];simp only[Rb,run_sizeOf D];rfl
     grind [Rd,Addr.add]
    grind
   ·rename_i len elZ N
    obtain⟨n,D,q⟩:=qb q;obtain⟨S,F,q⟩:=qb q;obtain⟨lo',L,q⟩:=qb q;obtain⟨I,K,rfl⟩:=qm q;have A:=cc hs F;have R:=bt hs L;have Q:=bt hs K;simp only[cb]at B;split at B
    ·rename_i b o e1
     obtain⟨⟨l,h⟩,J,rfl⟩:=qm B;rw[e1]at A;obtain⟨g,hgZ,A⟩:=A;obtain⟨X,Y,k3Z⟩:=Xv (P:=P) (isS:=false) (Aa _) R Q J;refine⟨.slice (some (if len=l then⟨g,o,none⟩else(⟨g,o,none⟩:Addr).add (l* n))) (h - l) (len - l),val ?_,?_⟩
     ·rw[A]
      simp only[Instr.sliceAt,Instr.sureAddr,Qb,Lh,run_underlying N,Rb];rw[show(none:Option Operand).map a.eval=none from rfl,X];simp only[Rb,run_sizeOf D]
     grind [Rd,Addr.add]
    grind
   grind
 |extract x i=>
  obtain⟨y,E,rfl⟩:=qm q;have A:=cc hs E;simp only[cb]at B;split at B
  ·rename_i vs e
   rw[e]at A;obtain⟨us,A,r1⟩:=A;obtain⟨v,V,hr⟩:=r1.get _ _ B;refine⟨v,val ?_,hr⟩;simp only[Instr.extract];simp_all
  grind
 |makeFunc fn first fb=>
  cases fn with
  |func f=>
   simp only[cg]at q;split at q
   ·rename_i T
    obtain⟨ys,E,rfl⟩:=qm q;cases B;have hr:=Zx hs E;refine⟨.func (.func f) #[] (fb.map a.eval),val ?_,by exact⟨fb.toList.map a.eval,by apply congrArg;grind,hr⟩⟩;have:first=#[]:=by simpa using T
    subst this;simp[Instr.makeFunc]
   split at q
   ·rename_i T
    obtain⟨ys,E,rfl⟩:=qm q;cases B;have hr:=Zx hs E;refine⟨.func (.func f) (first.map a.eval) #[],val ?_,by exact⟨first.toList.map a.eval,by unfold jo;rw[if_pos (Nat.mul_mod_right 2 f),Nat.mul_div_cancel_left f ha];apply congrArg (fun z=>Value.func (.func f) z #[]);apply qi;simp,hr⟩⟩;have:fb=#[]:=by simpa using T
    subst this;simp[Instr.makeFunc]
   grind
  |_=>cases q
 |makeInterface t x=>
  simp only[cg]at q;split at q
  ·cases q
  ·cases q
  ·rename_i d K hnZ
   obtain⟨y,E,rfl⟩:=qm q;cases B;have A:=cc hs E;have e1:∀n:Nat,(2* n+1)/2=n/\¬(2* n+1) % 2=0:=fun n=>by omega
   refine⟨.iface t (a.eval x),val ?_,⟨[a.eval x],by unfold jo;rw[if_neg (e1 t).2,(e1 t).1];rfl,⟨_,_,rfl,A,rfl⟩⟩⟩;cases W:P.underlying t with
   |none=>exact absurd W (by assumption)
   |some d=>
    simp only[Instr.makeInterface,Qb,run_underlying W,Rb];cases d<;>first|rfl|exact absurd W na
 |call cl=>
  obtain⟨callee,args,K⟩:=cl;have two:∀{x y:Operand},args.toList=[x,y]->args=#[x,y]:=fun h=>by
   grind
  cases callee with
  |value f=>cases q
  |invoke r m=>cases q
  |builtin b=>
   cases b with
   |len=>
    simp only[cg]at q;split at q
    ·rename_i x t e1 e2
     have Q:args=#[x]:=by apply qi;rw[e1]
     have R:K=#[t]:=by apply qi;rw[e2]
     subst Q;subst R;split at q
     ·rename_i ht
      obtain⟨y,E,rfl⟩:=qm q;have A:=cc hs E;simp only[cb]at B;split at B
      ·rename_i s e;cases B
       rw[e]at A;obtain⟨A,_⟩:=Oc A;refine⟨_,?_,eg rfl⟩;have:(Builtin.len_ #[t] ty #[a.eval x]).run P w=.ok (.int .i64 s.size) w:=by
        rw[A];simp[Builtin.len_,run_underlying ht,goInt]
       show(do let d <-resolve a.eval ⟨.builtin .len,#[x],#[t]⟩ ty;invoke d.target d.args:Sem Next).run P w=_
       grind [resolve,invoke,builtin]
      grind
     ·rename_i elZ ht
      obtain⟨y,E,rfl⟩:=qm q;have A:=cc hs E;simp only[cb]at B;split at B
      ·rename_i n cs e;cases B
       rw[e]at A;obtain⟨b,G,A,_⟩:=A;refine⟨_,?_,eg rfl⟩;have:(Builtin.len_ #[t] ty #[a.eval x]).run P w=.ok (.int .i64 n) w:=by
        rw[A];simp[Builtin.len_,run_underlying ht,goInt]
       show(do let d <-resolve a.eval ⟨.builtin .len,#[x],#[t]⟩ ty;invoke d.target d.args:Sem Next).run P w=_
       grind [resolve,invoke,builtin]
      ·rename_i b o n e;cases B
       rw[e]at A;obtain⟨g,a0,G,_,A,_⟩:=A;refine⟨_,?_,eg rfl⟩;have:(Builtin.len_ #[t] ty #[a.eval x]).run P w=.ok (.int .i64 n) w:=by
        rw[A];simp[Builtin.len_,run_underlying ht,goInt]
       show(do let d <-resolve a.eval ⟨.builtin .len,#[x],#[t]⟩ ty;invoke d.target d.args:Sem Next).run P w=_
       grind [resolve,invoke,builtin]
      ·rename_i e;cases B
       rw[e]at A;obtain⟨A,_⟩:=Oc A;refine⟨_,?_,eg rfl⟩;have:(Builtin.len_ #[t] ty #[a.eval x]).run P w=.ok (.int .i64 0) w:=by
        rw[A];simp[Builtin.len_,run_underlying ht,goInt]
       show(do let d <-resolve a.eval ⟨.builtin .len,#[x],#[t]⟩ ty;invoke d.target d.args:Sem Next).run P w=_
       grind [resolve,invoke,builtin]
      grind
     grind
    grind
   |max=>
    simp only[cg]at q;split at q
    ·rename_i x y e1
     have Q:=two e1;subst Q;obtain⟨S,F,q⟩:=qb q;obtain⟨y'Z,L,rfl⟩:=qm q;have A:=cc hs F;have E:=cc hs L;simp only[cb]at B;split at B
     ·rename_i k m k' n e2 e3
      split at B
      ·cases B;rw[e2]at A;rw[e3]at E
       obtain⟨A,_⟩:=Oc A;obtain⟨E,_⟩:=Oc E;refine⟨.int k (if n>m then n else m),?_,eg rfl⟩;have:(Builtin.max_ K ty #[a.eval x,a.eval y]).run P w=.ok (.int k (if n>m then n else m)) w:=by
        rw[A,E];rfl
       show(do let d <-resolve a.eval ⟨.builtin .max,#[x,y],K⟩ ty;invoke d.target d.args:Sem Next).run P w=_
       grind [resolve,invoke,builtin]
      grind
     grind
    grind
   |min=>
    simp only[cg]at q;split at q
    ·rename_i x y e1
     have Q:=two e1;subst Q;obtain⟨S,F,q⟩:=qb q;obtain⟨y'Z,L,rfl⟩:=qm q;have A:=cc hs F;have E:=cc hs L;simp only[cb]at B;split at B
     ·rename_i k m k' n e2 e3
      split at B
      ·cases B;rw[e2]at A;rw[e3]at E
       obtain⟨A,_⟩:=Oc A;obtain⟨E,_⟩:=Oc E;refine⟨.int k (if n<m then n else m),?_,eg rfl⟩;have:(Builtin.min_ K ty #[a.eval x,a.eval y]).run P w=.ok (.int k (if n<m then n else m)) w:=by
        rw[A,E];rfl
       show(do let d <-resolve a.eval ⟨.builtin .min,#[x,y],K⟩ ty;invoke d.target d.args:Sem Next).run P w=_
       grind [resolve,invoke,builtin]
      grind
     grind
    grind
   |_=>cases q
 |_=>cases q
end
structure S0 where
 base:Nat
 M:Nat→Prop
 w0:World
 F0:Nat→Nat
 nt:Nat
 sw:World
 sF:Nat→Nat
 sβ:List Nat
 T:List Deferred
def Rl(P:Program)(S:S0)(st:St)(a:Act)(w:World):Prop:=∃Fr β,Rel P S.T S.base S.M S.w0 S.F0 S.nt st a w Fr β/\Le S.sw S.sF S.sβ w Fr β
def gs(P:Program):Op->Option Ea
 | .alloc elem=>(Vw P elem).map (.alloc elem)
 | .box elem x=>(Rg P elem).bind fun n=>(yb x).map fun x=>.box elem n x
 | .buildSlice t len ps=>match P.underlying t with
   |some (.slice e)=>(Rg P e).bind fun n=>if 0<n/\len* n<=16777216 then(Vw P e).bind fun zs=>if zs.length=n then(wq (fun i=>some (i* n,n)) ps.toList).map fun qs=>.mksl (e==U8 P) len n ((List.range (len* n)).map fun i=>zs.getD (i % n) .Hd) qs else none else none
   |_=>none
 | .convert a dst x=>(yb x).bind fun x=>match P.underlying a,P.underlying dst with
   |some (.slice e),some .string=>match P.underlying e with|some (.int .u8)=>some (.b2s x)|_=>none
   |_,_=>none
 | .load t x=>(Me P t).bind fun g=>(Rg P t).bind fun n=>if g=true\/n=1 then(yb x).map fun x=>.load g n x else none
 | .store t x y=>(Rg P t).bind fun n=>(yb x).bind fun x=>(yb y).bind fun y=>if 0<n then some (.store n x y)else none
 | .call {callee:=.builtin .append,args,argTypes}=>match args.toList,argTypes.toList with
   |[x,y],[t,a]=>(match P.underlying t,P.underlying a with
    |some (.slice e),some .string=>(P.info? e).bind fun i=>if e=U8 P/\i.size=1/\i.bytes<=32768/\(i.zero.map fun z=>z.cells.size)=some i.size then(yb x).bind fun x=>(yb y).map fun y=>.appendS x y else none
    |some (.slice e),some (.slice _)=>(P.info? e).bind fun i=>if 0<i.size/\i.bytes<=32768/\(i.zero.map fun z=>z.cells.size)=some i.size then(yb x).bind fun x=>(yb y).map fun y=>(.append (e==U8 P) i.size x y)else none
    |_,_=>none)
   |_,_=>none
 |_=>none
section
variable {P:Program} {w w':World} {Fr Fr':Nat→Nat} {β β':List Nat} {T:List Deferred} {base nt:Nat} {M:Nat→Prop} {w0:World} {F0:Nat→Nat} {st st':St} {a a':Act}
theorem Su{p}(h:Dc p=true):p=.flat (.slice none 0 0):=by
 grind [Dc]
theorem YI{p}(h:Dc p=false):wk p=p:=by simp[wk,h]
def WG:Rd w Fr β (.ia 0 []) (.slice none 0 0):=by grind [Rd]
def Iz:mg P w Fr (.ia 0 []) (.slice none 0 0):=⟨0,[],rfl,.inl rfl⟩
theorem gB{p}{v}(h:Rd w Fr β p v):Rd w Fr β (wk p) v:=by
 unfold wk;split
 ·rename_i e
  rw[Su e]at h;obtain⟨rfl,_⟩:=Oc h;exact WG
 omega
theorem ta.jb:∀(ps)(vs),ta w Fr β ps vs->ta w Fr β (zd ps) vs
 |[],_,h=>by grind [zd]
 |p::ps,vs,h=>by
  simp only[zd,ta]at h⊢;obtain⟨v,r,a,b,c⟩:=h;exact⟨v,r,a,gB b,ta.jb ps r c⟩
theorem Rd.jb(p)(v)(h:Rd w Fr β p v):Rd w Fr β p.jb v:=by
 cases p<;>grind [gB,PV.jb,Rd,ta.jb]
theorem Lw:∀l,l.map wk=zd l
 |[]=>rfl
 |p::r=>by rw[gc,Lw r];rfl
theorem WI:∀ps,(zd ps).length=ps.length
 |[]=>by rfl
 |p::r=>by simp only[zd,ua,WI r]
theorem SR{b}:∀{ps}{o}{L},L∈Zc b o ps->∃j,L=.cell b (o+j)/\ps[j]?=some (.flat (.slice none 0 0))
 |[],o,L,h=>by grind [Zc]
 |p::r,o,L,h=>by
  have d:L∈Zc b (o+1) r->∃j,L=.cell b (o+j)/\(p::r)[j]?=some (.flat (.slice none 0 0)):=fun h=>by
   obtain⟨j,a,c⟩:=SR h;exact⟨j+1,na,na⟩
  unfold Zc at h;split at h
  ·rename_i e
   rcases wb.1 h with rfl|h
   ·exact⟨0,rfl,by grind [Su]⟩
   grind
  grind
theorem QH:∀{pre mid post}{vs},ta w Fr β (pre++mid++post) vs->ta w Fr β (pre++mid.map wk++post) vs
 |p::pre,mid,post,vs,h=>by
  simp only[Ha,ta]at h⊢;obtain⟨v,r,a,b,c⟩:=h;exact⟨v,r,a,b,QH c⟩
 |[],[],post,vs,h=>h
 |[],p::mid,post,vs,h=>by
  simp only[Ra,gc,Ha,ta]at h⊢;obtain⟨v,r,a,b,c⟩:=h;exact⟨v,r,a,gB b,QH (pre:=[]) c⟩
theorem gE{p}(a:Dc p=false):∀{pre mid post:List PV}{j:Nat},(pre++mid++post)[j]?=some p->(pre++mid.map wk++post)[j]?=some p
 |q::pre,mid,post,0,h=>by grind
 |q::pre,mid,post,j+1,h=>by
  simp only[Ha,vk]at h⊢;exact gE a h
 |[],[],post,j,h=>h
 |[],q::mid,post,0,h=>by
  grind [YI]
 |[],q::mid,post,j+1,h=>by
  simp only[Ra,Ha,vk,gc]at h⊢;exact gE a (pre:=[]) h
theorem mg.ia{p}{v}(h:mg P w Fr p v):Dc p=false:=by
 obtain⟨n,cs,rfl,_⟩:=h;rfl
def Rel.XI(R:Rel P T base M w0 F0 nt st a w Fr β){b e}{pre mid post}(E:st.bx[b]?=some (e,pre++mid++post)):
 Rel P T base M w0 F0 nt {st with bx:=st.bx.set b (e,pre++mid.map wk++post),ow:=Zc b pre.length mid++st.ow} a w Fr β:=by
 have fa:b<st.bx.length:=(qg E).1;obtain⟨g,F,hF,l⟩:=R.bx.2 b _ E;have D:Bk P w Fr β (e,pre++mid.map wk++post) g:=by
  rcases l with⟨vs,A,i,r,B,C⟩|⟨f,k,s,live,d,o,i⟩
  ·exact .inl ⟨vs,A,i,QH r,B,C⟩
  ·have v:mid.map wk=mid:=by
    have:mid.map wk=mid.map id:=rl fun p t=>by
     have j:p∈pre++mid++post:=by simp[t]
     dsimp only at o;rw[o,so]at j;rw[j];rfl
    rw[this,List.map_id]
   exact .inr ⟨f,k,s,live,d,na,i⟩
 refine R.next (Le.refl _ _ _) R.sl R.nt rfl ⟨by rw[Kc];exact R.bx.1,fun z n c=>?_⟩ R.nd (fun g h=>.inl h) some (fun L I=>?_) (fun L _ H _ y O h Q=>y na) (fun L _ H _ _ h=>by cases h) R.al (fun _ _ _ _=>⟨rfl,rfl⟩) rfl rfl rfl
 ·by_cases j:z=b
  ·grind
  ·rw[WA (Yf j)]at c
   exact R.bx.2 z n c
 ·rcases Ue.1 I with h|h
  ·obtain⟨j,rfl,x⟩:=SR h
   have J:=(qg x).1;have t:(pre++mid++post)[pre.length+j]?=some (.flat (.slice none 0 0)):=by
    rw[vc,Pf aa,ql aa];rw[ri];exact x
   have G:w.cell? ⟨g,pre.length+j,none⟩=some (.slice none 0 0):=by
    rcases l with⟨vs,A,i,r,B,C⟩|⟨f,k,s,live,d,o,i⟩
    ·obtain⟨v,S,N⟩:=r.get _ _ t
     obtain⟨rfl,_⟩:=Oc N;rw[cell_of_row _ _ _ _ _ _ i];grind
    ·grind
   refine⟨.slice none 0 0,.ia 0 [],by grind [Ga],?_,Iz,fun k K=>by cases K⟩;simp only[bb];rw[Tg fa];simp only[Ja];rw[vc,Pf aa,ql (by rw[jn];omega),ri,XA,x];rfl
  ·obtain⟨u,q,j,v,t⟩:=R.own L h
   refine⟨u,q,j,?_,t,fun g F=>.inr ⟨L,h,rfl,u,j,F⟩⟩;cases L<;>grind [bb,gE,mg.ia]
theorem rv:∀(l)(i),look (l.map fun q=>(q.1,wk q.2)) i=wk (look l i)
 |[],i=>rfl
 |(j,v)::r,i=>by
  simp only[gc,look];split
  ·rfl
  ·exact rv r i
theorem Rel.ck(R:Rel P T base M w0 F0 nt st a w Fr β)(live):Rel P T base M w0 F0 nt (st.ck live) a w Fr β:=by
 refine R.next (Le.refl _ _ _) (fun i=>by simp only[St.ck,rv];exact gB (R.sl i)) R.nt rfl R.bx R.nd (fun g h=>.inl h) some (fun L j=>?_) (fun L _ e _ c o h p=>c na) (fun L _ e _ _ h=>by cases h) R.al (fun _ _ _ _=>⟨rfl,rfl⟩) rfl rfl rfl;rcases Ue.1 j with h|h
 ·obtain⟨i,l,rfl⟩:=si.1 h
  have d:=Su (Yc.1 l).2;have b:=R.sl i;rw[d]at b;obtain⟨b,_⟩:=Oc b;exact⟨.slice none 0 0,.ia 0 [],by grind [Ga],by simp only[bb,St.ck,rv,d];rfl,Iz,fun k n=>by cases n⟩
 ·obtain⟨u,q,b,n,l⟩:=R.own L h
  refine⟨u,q,b,?_,l,fun g d=>.inr ⟨L,h,rfl,u,b,d⟩⟩;cases L<;>grind [bb,St.ck,rv,YI,mg.ia]
theorem Rl.ck{S}(h:Rl P S st a w)(live):Rl P S (st.ck live) a w:=by
 obtain⟨Fr,β,R,b⟩:=h;exact⟨Fr,β,R.ck live,b⟩
def Of(Fr:Nat->Nat)(g n:Nat):Nat->Nat:=fun k=>if k=g then n else Fr k
theorem At{Fr}{g n k}(h:k<g):Of Fr g n k=Fr k:=if_neg (Nat.ne_of_lt h)
theorem fu(w)(o):Below w.heap.size w (w.alloc o):=(Below.refl _ w).alloc (Aa _) o
def zch(w:World)(vs)(e)(β:List Nat)(Fr):Row (w.alloc (.cells vs.toArray e)) (Of Fr w.heap.size vs.length) w.heap.size 0 vs:=fun j v a=>by
 have b:=(qg a).1;refine⟨by grind [Of.eq_1],?_⟩;simp_all
theorem Rel.lt(R:Rel P T base M w0 F0 nt st a w Fr β):∀g∈β,g<w.heap.size:=fun g b=>R.bx.lt b
theorem Rel.tJ(R:Rel P T base M w0 F0 nt st a w Fr β)(c:Below w.heap.size w w')(hf:∀g,g<w.heap.size->Fr' g=Fr g){l}{cs}(I:w.heap.size<=l)(hF:Fr' l=0)(G:Le w Fr β w' Fr' (β++[l])->Bk P w' Fr' (β++[l]) cs l):
 Rel P T base M w0 F0 nt {st with bx:=st.bx++[cs]} a w' Fr' (β++[l])/\Le w Fr β w' Fr' (β++[l]):=by
 have x:=R.lt;have y:Le w Fr β w' Fr' (β++[l]):=⟨c.size,fun b h=>by grind,fun b o h _=>c.cell (p:=⟨b,o,none⟩) h,fun i g h=>by grind,fun g r h=>⟨r,(c.block g (Kh.1 h).1).trans h⟩⟩;have H:st.bx.length=β.length:=R.bx.1;have d:∀L v,Ga a w β L=some v->Ga a w' (β++[l]) L=some v:=fun L v C=>by
  cases L with
  |slot i=>exact C
  |cell b j=>
   simp only[Ga]at C⊢;obtain⟨g,n,z⟩:=qb C;rw[ql (qg n).1,n];exact(c.cell (p:=⟨g,j,none⟩) (x g (nh n))).trans z
 have B:∀L p,bb st L=some p->bb {st with bx:=st.bx++[cs]} L=some p:=fun L p Q=>by
  cases L<;>grind [bb]
 refine⟨R.next y (fun i=>(R.sl i).mono y) R.nt rfl ⟨na,fun b k t=>?_⟩ ?_ ?_ some (fun L D=>?_) (fun L _ F _ A N h O=>A na) (fun L _ F _ _ h=>by cases h) (fun q J=>d _ _ (R.al q J)) (fun b h _ _=>⟨c.block b h,hf b h⟩) c.os c.tape c.output,y⟩
 ·have j:(st.bx++[cs])[b]?=some k:=t
  by_cases h:b<st.bx.length
  ·rw[ql h]at j
   obtain⟨g,n,z,E⟩:=R.bx.2 b k j;have e:=x g (nh n);exact⟨g,na,(hf g e).trans z,E.kept y (c.block g e)⟩
  grind
 ·grind [nd]
 ·grind
 ·obtain⟨u,q,E,K,j⟩:=R.own L D
  exact⟨u,q,d L u E,B L q K,j.kept fun g e=>⟨c.block g (j.lt e),hf g (j.lt e)⟩,fun g e=>.inr ⟨L,D,rfl,u,E,e⟩⟩
def Rel.fS(R:Rel P T base M w0 F0 nt st a w Fr β){d}(k:d<nt){zs}{vs}{e}(n:ta w Fr β zs vs)(l:gd vs):
 let w':=w.alloc (.cells vs.toArray e)
 Rel P T base M w0 F0 nt {(st.put d (.ptr st.bx.length 0))with bx:=st.bx++[(e,zs)]} (a.put (some d) (.pointer (some ⟨w.heap.size,0,none⟩))) w' (Of Fr w.heap.size 0) (β++[w.heap.size])/\Le w Fr β w' (Of Fr w.heap.size 0) (β++[w.heap.size]):=by
 intro w';have i:Below w.heap.size w w':=fu w _;obtain⟨c,b⟩:=R.tJ (Fr':=Of Fr w.heap.size 0) (cs:=(e,zs)) i (fun g h=>At h) (Aa _) (by simp[Of]) fun b=>.inl ⟨vs,e,heap_alloc_new w _,n.mono b,l,rfl⟩
 have j:st.bx.length=β.length:=R.bx.1;refine⟨?_,b⟩;have:=c.put k (p:=.ptr st.bx.length 0) (v:=.pointer (some ⟨w.heap.size,0,none⟩)) (by
  grind [Rd])
 exact this
def w9{D a}(h:mark D=mark a):D=a:=by
 grind [mark]
theorem QG{T}:∀{a b:List Nat},a.map mark++T=b.map mark++T->a=b
 |[],[],_=>rfl
 |[],e::b,h=>by have:=congrArg List.length h;grind
 |d::a,[],h=>by have:=congrArg List.length h;grind
 |d::a,e::b,h=>by
  simp only[gc,Ha,Dr]at h;rw[w9 h.1,QG h.2]
def Rel.oW(R:Rel P T base M w0 F0 nt st a w Fr β){D}(u:base<=D)(x:w.heap[D]?=some (.deferred (some [])))(l:∀c:List Nat,a.defers=c.map mark++T->D∉c):Rel P T base M w0 F0 nt st {a with defers:=mark D::a.defers} w Fr β:=by
 have d:∀L,Ga {a with defers:=mark D::a.defers} w β L=Ga a w β L:=fun L=>by rfl
 refine⟨R.sl,R.nt,?_,R.bx,R.nd,fun L b=>by rw[d];exact R.own L b,fun L b k e h v r g=>by rw[d,d];exact R.sep L b k e h v r g,fun L b v g=>by rw[d];exact R.out L b v g,fun q p=>by rw[d];exact R.al q p,fun g o=>R.may g (o.imp id fun⟨L,b,v,j,i⟩=>⟨L,b,v,na,i⟩),R.old,R.ge,R.os,R.tape,R.output⟩;obtain⟨c,j,i,y⟩:=R.df;refine⟨D::c,List.nodup_cons.2 ⟨l c i,j⟩,na,fun t n=>?_⟩
 grind
def LU{α:Type}{l m:List α}{o n j}(c:m.length=n)(e:o+n<=l.length)(d:¬(o<=j/\j<o+n)):(l.take o++m++l.drop (o+n))[j]?=l[j]?:=by
 have a:(l.take o).length=o:=by rw[Se];omega
 by_cases h:j<o
 ·grind
 ·have b:(l.take o++m).length=o+n:=by rw[Ba,a,c]
  rw[Pf aa,b,kg]
  grind
def KU{α:Type}{l m:List α}{o n j}(c:m.length=n)(b:o+n<=l.length)(a:j<n):(l.take o++m++l.drop (o+n))[o+j]?=m[j]?:=by
 grind
def zdE{α:Type}{l m:List α}{o n}(b:m.length=n)(a:o+n<=l.length):(l.take o++m++l.drop (o+n)).length=l.length:=by
 grind
theorem TR{b o n a j}(h:Md b o n (.cell a j)=false):a≠b\/¬(o<=j/\j<o+n):=by
 grind [Md]
theorem Rel.store(R:Rel P T base M w0 F0 nt st a w Fr β){b o n g:Nat}{cs ps}{vs us}{e:TypeId}(J:st.bx[b]?=some (e,cs))(G:β[b]?=some g)(hhZ:w.heap[g]?=some (.cells vs.toArray e (0,0)))(V:ta w Fr β cs vs)(W:gd vs)
 (hpZ:ta w Fr β ps us) (hpo:gd us) (hnZ:us.length=n) (S:0<n) (Q:o+n<=cs.length) (K)
 (hKZ:∀s,K=some s->∃v p,us=[v]/\ps=[p]/\(Loc.slot s∈st.ow/\a.tmps.getD s undef=v/\look st.sl s=p))
 (st':St) (h1Z:st'.sl=st.sl) (Z:st'.bx=st.bx.set b (e,cs.take o++ps++cs.drop (o+n)))
 (h3Z:∀L∈st'.ow,(L∈st.ow/\Md b o n L=false/\∀s,K=some s->L≠.slot s)\/(L=.cell b o/\(K.isSome\/(us=[.slice none 0 0]/\ps=[.ia 0 []]))))
 (h4Z:∀q∈st'.al,q∈st.al/\Md b o n q.2=false):
 let w':=w.setRow g (vs.take o++us++vs.drop (o+n)).toArray
 Rel P T base M w0 F0 nt st' a w' Fr β/\Le w Fr β w' Fr β:=by
 intro w';have hvl:vs.length=cs.length:=V.length;have U:ps.length=n:=by rw[<-hpZ.length];exact hnZ
 have d:∀k,k≠g->w'.heap[k]?=w.heap[k]?:=fun k t=>setRow_other w g k _ t
 have y:w'.heap[g]?=some (.cells (vs.take o++us++vs.drop (o+n)).toArray e (0,0)):=setRow_heap w g _ _ e (0,0) hhZ;have hgm:g∈β:=nh G;obtain⟨g0Z,b1Z,hF,_⟩:=R.bx.2 b _ J;rw[G]at b1Z;cases b1Z;have O:Le w Fr β w' Fr β:=⟨by simp[w',World.setRow],fun _ _=>Aa _,fun k j t hjZ=>by
  have x:k≠g:=fun e=>by grind
  simp only[World.cell?,d k x],fun _ _ h=>h,fun k r t=>⟨r,(d k fun e=>by grind).trans t⟩⟩
 have Ub:∀A j z,β[A]?=some z->(A≠b\/¬(o<=j/\j<o+n))->w'.cell? ⟨z,j,none⟩=w.cell? ⟨z,j,none⟩:=fun A j z N hjZ=>by
  by_cases E:z=g
  ·subst E
   have Y:A=b:=by
    have l1Z:=(qg N).1;have l2Z:=(qg G).1;exact(List.getElem?_inj l1Z R.nd).1 (N.trans G.symm)
   have hj':¬(o<=j/\j<o+n):=hjZ.resolve_left (fun h=>h Y);rw[cell_of_row _ _ _ _ _ _ y,cell_of_row _ _ _ _ _ _ hhZ];have:=LU (l:=vs) (m:=us) hnZ aa hj';simpa using this
  ·simp only[World.cell?,d z E]
 have D:∀L,Md b o n L=false->Ga a w' β L=Ga a w β L:=fun L B=>by
  cases L<;>grind [Ga,TR]
 have hpv:∀L,Md b o n L=false->bb st' L=bb st L:=fun L B=>by
  cases L with
  |slot i=>simp only[bb,h1Z]
  |cell A j=>
   simp only[bb,Z];by_cases E:A=b
   ·subst E
    have hjZ:=(TR B).resolve_left (fun h=>h rfl);rw[Tg (qg J).1,J];simp only[Ja];exact LU U Q hjZ
   ·grind
 have F:∀L∈st.ow,∀v p,Ga a w β L=some v->mg P w Fr p v->mg P w' Fr p v:=fun L B v p V hoZ=>hoZ.kept fun k t=>⟨d k fun e=>R.out L B v k V t (e▸hgm),rfl⟩
 have C:∀L,Md b o n L=false->L≠.cell b o:=fun L B e=>by grind [Md]
 refine⟨R.next O (fun i=>by rw[h1Z];exact(R.sl i).mono O) R.nt rfl ⟨by rw[Z,Kc];exact R.bx.1,fun A cs' c=>?_⟩ R.nd (fun g h=>.inl h) (fun L=>match K with|some s=>some (if L=.cell b o then .slot s else L)|none=>if L=.cell b o then none else some L) (fun L B=>?_) (fun L B L'Z hL' x L0Z h h'Z=>?_) (fun L B L'Z hL' x h h'Z=>?_) (fun q H=>?_) (fun k t hMZ _=>?_) rfl rfl rfl,O⟩
 ·rw[Z]at c
  by_cases E:A=b
  ·subst E
   rw[Tg (qg J).1]at c;cases c;exact⟨g,G,hF,.inl ⟨_,e,y,(((V.take o).append hpZ).append (V.drop (o+n))).mono O,((W.take o).append hpo).append (W.drop (o+n)),rfl⟩⟩
  ·rw[WA (Yf E)]at c
   obtain⟨z,I,Y,k2Z⟩:=R.bx.2 A cs' c;have x:z≠g:=fun e=>by
    subst e
    grind [List.getElem?_inj,nd]
   exact⟨z,I,Y,k2Z.kept O (d z x)⟩
 ·rcases h3Z L B with⟨X,Y,m3Z⟩|⟨rfl,Y⟩
  ·obtain⟨v,p,I,k2Z,k3Z⟩:=R.own L X
   have hnc:=C L Y;refine⟨v,p,by rw[D L Y];exact I,by rw[hpv L Y];exact k2Z,F L X v p I k3Z,fun k t=>.inr ⟨L,X,?_,v,I,t⟩⟩;cases K<;>simp[hnc]
  ·have hv0:∀u,us=[u]->Ga a w' β (.cell b o)=some u:=fun u huZ=>by
    subst huZ;have hn':n=1:=hnZ.symm;simp only[Ga,G,Ja];rw[cell_of_row _ _ _ _ _ _ y];have:=KU (l:=vs) (m:=[u]) (o:=o) (n:=n) (j:=0) hnZ aa S;simpa using this
   have hp0:∀q,ps=[q]->bb st' (.cell b o)=some q:=fun q H=>by
    subst H;simp only[bb,Z];rw[Tg (qg J).1];simp only[Ja];have:=KU (l:=cs) (m:=[q]) (o:=o) (n:=n) (j:=0) U Q S;rw[pi]at this;simpa using this
   cases K with
   |none=>
    rcases Y with h|⟨huZ,H⟩
    ·cases h
    ·exact⟨_,_,hv0 _ huZ,hp0 _ H,⟨0,[],rfl,.inl rfl⟩,fun k t=>by cases t⟩
   |some s=>
    obtain⟨v,p,huZ,H,hs,haZ,hlk⟩:=hKZ s rfl;obtain⟨v'Z,p'Z,I,k2Z,k3Z⟩:=R.own _ hs
    grind [Ga,bb]
 ·have old:∀K',K'∈st'.ow->K'≠.cell b o->K'∈st.ow/\∀s,K=some s->K'≠.slot s:=fun K' Y hne'=>by
   rcases h3Z K' Y with⟨X,_,m3Z⟩|⟨e,_⟩
   ·exact⟨X,m3Z⟩
   grind
  cases K<;>grind
 ·cases K<;>grind
 ·obtain⟨Y,q2Z⟩:=h4Z q H
  rw[D _ q2Z];exact R.al q Y
 grind
end
section
variable {P:Program} {w w':World} {Fr Fr':Nat→Nat} {β β':List Nat} {T:List Deferred} {base nt:Nat} {M:Nat→Prop} {w0:World} {F0:Nat→Nat} {st st':St} {a a':Act}
theorem add_eq(g o j):(⟨g,o,none⟩:Addr).add j=⟨g,o+j,none⟩:=by
 grind [Addr.add]
def NU{m size}{d}{v}{e i}(p:P.underlying e=some (.slice i))(h:Rd w Fr β (.ia m d) v)(q:d.length=m* size):∃a,Src P size e v m a w/\ta w Fr β d a/\gd a:=by
 obtain⟨b,c,rfl,t,r⟩:=h;rcases r with⟨k,l⟩|⟨g,o,vs,rfl,r1,r2,r3⟩
 ·subst k;refine⟨[],?_,ra,fun u j=>by cases j⟩
  cases b<;>grind [Src.ofNil,Src.ofSlice]
 ·exact⟨vs,Src.ofSlice w p _ m c vs (by rw[r2.length,q]) (fun j u n=>by rw[add_eq];exact(r1 j u n).2) r3,r2,r3⟩
def zcm(t n ty e e2)(i)(ht:P.underlying t=some (.slice e))(p:P.info? e=some i)(g a d)(c)(o:w.heap[g]?=some (.cells c e2 (0,0)))
 (x) (m) (b) (hs:Src P i.size n x m b w) (h:a+m<=d) (k:a* i.size+b.length<=c.size):
 (Builtin.append_ #[t,n] ty #[.slice (some ⟨g,0,none⟩) a d,x]).run P w=.ok (.slice (some ⟨g,0,none⟩) (a+m) d) (w.setRow g (c.toList.take (a* i.size)++b++c.toList.drop (a* i.size+b.length)).toArray):=by
 have j:=run_storeCells_at P g (a* i.size) e2 b 0 c w o aa hs.one;simp only[pi]at j;rcases hs.kind with⟨q,l⟩|l<;>simp[Builtin.append_,run_underlying ht,run_underlying l,Go.sizeOf,typeInfo,p,hs.len,h,hs.cells,Addr.add_lit,j]
def YH(t c ty e)(i)(ht:P.underlying t=some (.slice e))(d:P.info? e=some i)(x)(a)(hs:Src P i.size c x 0 a w):
 (Builtin.append_ #[t,c] ty #[.slice none 0 0,x]).run P w=.ok (.slice none 0 0) w:=by
 rcases hs.kind with⟨g,b⟩|b<;>simp[Builtin.append_,run_underlying ht,run_underlying b,Go.sizeOf,typeInfo,d,hs.len,hs.cells]
theorem XG:∀{cs a},sd cs=true->sd a=true->sd (cs++a)=true
 |[],a,_,h=>h
 |p::cs,a,h,b=>by
  simp only[sd,bc,Ha]at h⊢;exact⟨h.1,XG h.2 b⟩
theorem zfl:∀{cs},ng cs=true->sd cs=true->cs=[]
 |[],_,_=>rfl
 |p::cs,h,a=>by
  grind [sd,ng]
structure jB (P:Program) (w:World) (Fr:Nat→Nat) (β:List Nat) (v:Value) (p:PV) (v':Value) (w':World) (Fr':Nat→Nat):Prop where
 le:Le w Fr β w' Fr' β
 rd:Rd w' Fr' β p v'
 own:mg P w' Fr' p v'
 JC:∀ k,v'.ownBlock=some k→v.ownBlock=some k∨w.heap.size≤k
 old:∀ k,k<w.heap.size→v.ownBlock≠some k→w'.heap[k]? =w.heap[k]? ∧Fr' k=Fr k
 os:w'.os=w.os
 tape:w'.tape=w.tape
 output:w'.output=w.output
def tx{t S ty e}{i}{z}(ht:P.underlying t=some (.slice e))(hiZ:P.info? e=some i)(hzZ:i.zero=some z)(hzs:z.cells.size=i.size)(hsz:0<i.size)(hby:i.bytes<=32768)
 {n m} {cs G} {v x} (R:Rd w Fr β (.ia n cs) v) (hoZ:mg P w Fr (.ia n cs) v) {a} (F:Src P i.size S x m a w) (L:ta w Fr β G a) (W:gd a) (hcZ:cs.length=n* i.size) (hdZ:G.length=m* i.size) (h8Z:(e=U8 P/\ng cs=true)\/i.size≠1\/(sd cs=true/\sd G=true)) (hbZ:n+m<=za):
 ∃v'Z w' Fr',(Builtin.append_ #[t,S] ty #[v,x]).run P w=.ok v'Z w'/\jB P w Fr β v (.ia (n+m) (cs++G)) v'Z w' Fr':=by
 have V:a.length=m* i.size:=by rw[L.length,hdZ]
 have hbd:n+m<=4294967296:=hbZ;obtain⟨d,M,J,T⟩:∃d,ta w Fr β cs d/\gd d/\∀g o c,v=.slice (some ⟨g,o,none⟩) n c->Row w Fr g o d:=by
  obtain⟨b,c,rfl,_,R⟩:=R;rcases R with⟨l,_⟩|⟨g,o,vs,I,r1,r2,r3⟩
  ·subst l;exact⟨[],ra,(fun u O=>by cases O),fun g o c _ j u D=>by cases D⟩
  grind
 have X:d.length=n* i.size:=by rw[M.length,hcZ]
 have grow:∀(bsZ:Option Addr)(c:Nat),v=.slice bsZ n c->(Builtin.firstCells i.size n (.slice bsZ n c)).run P w.drew=.ok d.toArray w.drew->c<n+m->∃v'Z w' Fr',(Builtin.append_ #[t,S] ty #[v,x]).run P w=.ok v'Z w'/\jB P w Fr β v (.ia (n+m) (cs++G)) v'Z w' Fr':=by
  intro bsZ c hve hf fa;subst hve;have Z:Builtin.nextslicecap (n+m) c* i.bytes<=281474976710656:=by
   have h1Z:=nextslicecap_le (need:=n+m) (old:=c) fa
   calc Builtin.nextslicecap (n+m) c* i.bytes<=(2* (n+m))* 32768:=Nat.mul_le_mul h1Z hby
    _<=_:=aa
  have y:=run_append_grow_src (P:=P) w t S ty e i z ht hiZ hzZ bsZ n c d hf x m a F fa aa Z;obtain⟨C,Q⟩:∃C,(d++a).toArray++Builtin.zeroCells z.cells (grownCap w (n+m) c e - (n+m))=C:=⟨_,rfl⟩;rw[Q]at y;have U:=grownCap_ge w (n+m) c e;have hmx:grownCap w (n+m) c e<=maxLen:=grownCap_le_maxLen w _ _ _ (by grind [maxLen]);have l:Below w.heap.size w (w.drew.alloc (.cells C e)):=(show Below w.heap.size w w.drew from⟨rfl,rfl,rfl,Aa _,fun _ _=>rfl⟩).alloc (Aa _) _;have q:(w.drew.alloc (.cells C e)).heap[w.heap.size]?=some (.cells C e (0,0)):=heap_alloc_new w.drew _;have H:C.toList=(d++a)++(Builtin.zeroCells z.cells (grownCap w (n+m) c e - (n+m))).toList:=by rw[<-Q];simp
  have I:(d++a).length=(n+m)* i.size:=by rw[Ba,X,V,Nat.add_mul]
  have E:Le w Fr β (w.drew.alloc (.cells C e)) (Of Fr w.heap.size ((n+m)* i.size)) β:=⟨l.size,fun b h=>by grind [At],fun b o h _=>l.cell (p:=⟨b,o,none⟩) h,fun _ _ h=>h,fun g r h=>⟨r,(l.block g (Kh.1 h).1).trans h⟩⟩;have K:C.size=grownCap w (n+m) c e* i.size:=by
   rw[<-Dw,H,Ba,I,Dw,size_zeroCells,hzs,<-Nat.add_mul];congr 1;omega
  refine⟨_,_,_,y,⟨E,?_,⟨n+m,cs++G,rfl,.inr ⟨w.heap.size,_,C,e,i.size,rfl,q,U,hmx,K,by grind [Of.eq_1],na,(fun h=>by omega),fun h=>h8Z.elim (fun h=>.inr h.1) fun O=>.inl (O.elim (fun O=>absurd h O) fun O=>XG O.1 O.2)⟩⟩,(fun k A=>by cases A<;>grind),(fun k A _=>⟨l.block k A,At A⟩),rfl,rfl,rfl⟩⟩;simp only[Rd];refine⟨_,_,rfl,U,.inr ⟨w.heap.size,0,d++a,rfl,fun j u D=>?_,(M.append L).mono E,J.append W⟩⟩;have hjl:=(qg D).1;rw[I]at hjl;refine⟨by grind [Of.eq_1],?_⟩;rw[ld,cell_of_row _ _ _ _ _ _ q,<-YA,H,ql aa];exact D
 rcases hoZ with⟨n'Z,cs',Y,N|⟨g,c,B,e2,szZ,N,hgZ,h1Z,h2Z,h3Z,h4Z,h5Z,h6Z,h7Z⟩⟩
 ·cases Y
  subst N;have I:n=0/\cs=[]:=by
   simp only[Rd]at R;obtain⟨b,c,heZ,l,R⟩:=R;cases heZ;refine⟨rfl,qz aa⟩
  obtain⟨rfl,rfl⟩:=I;by_cases O:m=0
  ·subst O
   have l:G=[]:=qz aa;subst l;exact⟨_,w,Fr,YH t S ty e i ht hiZ x a F,⟨Le.refl _ _ _,na,⟨0,[],rfl,.inl rfl⟩,(fun k A=>by cases A),(fun k A _=>⟨rfl,rfl⟩),rfl,rfl,rfl⟩⟩
  grind [run_firstCells_none]
 ·cases Y
  subst N;have Z:n=0\/szZ=i.size:=by
   rcases Nat.eq_zero_or_pos n with h|h
   ·omega
   ·right;exact Nat.eq_of_mul_eq_mul_left h (h5Z.symm.trans hcZ)
  by_cases l:n+m<=c
  ·have hs':szZ=i.size\/(n=0/\m=0):=by
    rcases Z with h|h
    ·omega
    ·omega
   have U:n* i.size+a.length<=B.size:=by
    rw[h3Z,V];rcases hs' with h|⟨h,h'Z⟩
    ·rw[h,<-Nat.add_mul];exact Nat.mul_le_mul l (Aa _)
    ·subst h;subst h'Z;simp
   have y:=zcm (P:=P) (w:=w) t S ty e e2 i ht hiZ g n c B hgZ x m a F l U;obtain⟨C,Q⟩:∃C,(B.toList.take (n* i.size)++a++B.toList.drop (n* i.size+a.length)).toArray=C:=⟨_,rfl⟩;rw[Q]at y;have q:(w.setRow g C).heap[g]?=some (.cells C e2 (0,0)):=setRow_heap w g _ _ e2 (0,0) hgZ;have I:∀k,k≠g->(w.setRow g C).heap[k]?=w.heap[k]?:=fun k A=>setRow_other w g k _ A
   have hr:=T g 0 c rfl;have O:B.toList.take (n* i.size)=d:=by
    apply List.ext_getElem?;intro j;by_cases D:j<n* i.size
    ·have hjo:j<d.length:=aa
     have h7Z:=(hr j _ (qe hjo)).2
     grind [cell_of_row]
    ·grind
   have H:C.toList=(d++a)++B.toList.drop (n* i.size+a.length):=by rw[<-Q,O]
   have K:C.size=c* szZ:=by
    have:C.toList.length=B.toList.length:=by rw[<-Q];exact zdE rfl aa
    rw[<-h3Z,<-Dw,this,Dw]
   have Ub:∀j u,(d++a)[j]?=some u->(w.setRow g C).cell? ⟨g,j,none⟩=some u:=fun j u D=>by
    rw[cell_of_row _ _ _ _ _ _ q,<-YA,H,ql (qg D).1];exact D
   have E:Le w Fr β (w.setRow g C) (Of Fr g ((n+m)* i.size)) β:=by
    refine⟨ea,fun b h=>?_,fun b o h hoZ=>?_,fun _ _ h=>h,fun k r A=>⟨r,(I k fun e=>by rw[e,hgZ]at A;cases A).trans A⟩⟩
    ·unfold Of;grind
    ·by_cases heZ:b=g<;>grind [World.cell?]
   refine⟨_,_,_,y,⟨E,?_,⟨n+m,cs++G,rfl,.inr ⟨g,c,C,e2,szZ,rfl,q,l,h2Z,K,by grind [Of.eq_1],?_,(fun h=>by omega),fun h=>?_⟩⟩,(fun k A=>.inl A),(fun k A hne=>?_),rfl,rfl,rfl⟩⟩
   ·refine⟨_,_,rfl,l,.inr ⟨g,0,d++a,rfl,fun j u D=>?_,(M.append L).mono E,J.append W⟩⟩
    grind [Of.eq_1]
   ·grind
   ·have nul:n=0->m=0->sd (cs++G)=true:=fun h h'Z=>by
     have e1:cs=[]:=qz na;have e2:G=[]:=qz (by rw[hdZ,h'Z];simp);rw[e1,e2];rfl
    grind [zfl,XG]
   ·have:k≠g:=fun e=>hne (by rw[e];rfl)
    exact⟨I k this,if_neg this⟩
  ·refine grow _ c rfl ?_ aa
   refine run_firstCells_some w.drew i.size n _ n c d X fun j u D=>?_
   have h7Z:=(T g 0 c rfl j u D).2;rw[add_eq];exact h7Z
end
def ik:Ea->Bool
 | .mvA _| .asg (.t _)| .alloc .. | .box .. | .mksl .. | .b2s _| .load .. | .loadA _| .loadM _| .store .. | .append .. | .appendS .. | .call .. | .callv .. | .calli ..=>false
 |_=>true
theorem io{cf}{st}{dst}{c}(h:ik c=true):oa cf st dst c=(cb c (·.ev st.sl)).map (st.Nd dst):=by
 cases c
 case asg x=>
  cases x with
  |t i=>cases h
  |c v=>rfl
 all_goals first|rfl|(cases h;done)
section
variable {P:Program} {w w':World} {r:Option Nat} {Fr Fr':Nat→Nat} {β β':List Nat} {T:List Deferred} {base nt:Nat} {M:Nat→Prop} {w0:World} {F0:Nat→Nat} {st st':St} {a a':Act} {cf:Callee}
def dT(R:Rel P T base M w0 F0 nt st a w Fr β){s}{L}(h:origin st s=some L):Ga a w β L=some (a.tmps.getD s undef):=by
 unfold origin at h;split at h
 ·cases h;rfl
 ·obtain⟨p,b,rfl⟩:=qm h
  have c:=List.mem_of_find?_eq_some b;have d:=List.find?_some b;have e:p.1=s:=by simpa using d
  rw[<-e];exact R.al p c
def Rl.of{S}{st'}{a'}{w w'}{Fr Fr'}{β β'}(R:Rel P S.T S.base S.M S.w0 S.F0 S.nt st' a' w' Fr' β')(b:Le S.sw S.sF S.sβ w Fr β)(a:Le w Fr β w' Fr' β'):Rl P S st' a' w':=⟨Fr',β',R,b.trans a⟩
def fw(r:Option Nat):Fence:={Fence.wide with round:=r}
def PP{r}{n}{f}{args}{w}{R}:CallsIn (fw r) n P f args w R ↔ Calls P f args w R:=callsIn_wide (n:=n)
theorem AD{o}{c}(h:o.op=.defer c){n}(b:(execOp a.eval o).run P w=.ok n w'):∃d,n=.defer d:=by
 unfold execOp at b;rw[h]at b;simp only[Qb]at b;cases hr:(resolve a.eval c o.type).run P w with
 |ok d e=>rw[hr]at b;cases b;simp
 |halt x e=>simp_all
def Ih{r}{o}{K}{Q}{v}(hr:(execOp a.eval o).run P w=.ok (.value v) w')(h:K (a.put o.dst v) w'):o.wpIn (fw r) 0 P a w K Q:=by
 refine⟨fun _ _=>trivial,?_⟩;rw[Oper.semAt_eq _ _ _ fun c b=>by grind [AD]];rw[hr];exact h
def upon_skip{r}{o}{K}{Q}(hr:(execOp a.eval o).run P w=.ok .skip w')(h:K (a.put o.dst undef) w'):o.wpIn (fw r) 0 P a w K Q:=by
 refine⟨fun _ _=>trivial,?_⟩;rw[Oper.semAt_eq _ _ _ fun c b=>by grind [AD]];rw[hr];exact h
def Yx{x}{s}(h:yb x=some (.t s)):x=.tmp s:=by
 cases x<;>grind [yb]
def yN{op}{c}(a:cg P op=some c):(∃x,op=.move x)\/(∃x,op=.assign x)\/ik c=true:=by
 cases op with
 |move x=>simp
 |assign x=>simp
 |pick x y z=>
  obtain⟨_,_,a⟩:=qb a;obtain⟨_,_,a⟩:=qb a;obtain⟨_,_,rfl⟩:=qm a;exact .inr (.inr rfl)
 |binOp op t x y d=>
  obtain⟨_,_,a⟩:=qb a;obtain⟨_,_,a⟩:=qb a;split at a
  ·cases a;exact .inr (.inr rfl)
  ·cases a;exact .inr (.inr rfl)
  ·split at a
   ·cases a;exact .inr (.inr rfl)
   ·cases a;exact .inr (.inr rfl)
   grind
  ·split at a
   case isFalse=>cases a
   split at a
   ·obtain⟨_,_,rfl⟩:=qm a;exact .inr (.inr rfl)
   ·obtain⟨_,_,rfl⟩:=qm a;exact .inr (.inr rfl)
   grind
  grind
 |nilCheck x=>obtain⟨_,_,rfl⟩:=qm a;exact .inr (.inr rfl)
 |unOp op t x=>obtain⟨_,_,rfl⟩:=qm a;exact .inr (.inr rfl)
 |convert d dst x=>
  obtain⟨_,_,a⟩:=qb a;split at a
  ·cases a;exact .inr (.inr rfl)
  ·cases a;exact .inr (.inr rfl)
  grind
 |build t ps=>
  obtain⟨_,_,a⟩:=qb a;obtain⟨_,_,rfl⟩:=qm a;exact .inr (.inr rfl)
 |fieldAddr s x f=>
  obtain⟨_,_,a⟩:=qb a;obtain⟨_,_,a⟩:=qb a;obtain⟨_,_,a⟩:=qb a;split at a
  ·cases a
  ·obtain⟨_,_,rfl⟩:=qm a;exact .inr (.inr rfl)
 |field s x f=>
  obtain⟨_,_,a⟩:=qb a;obtain⟨_,_,a⟩:=qb a;obtain⟨_,_,a⟩:=qb a;obtain⟨_,_,a⟩:=qb a;obtain⟨_,_,rfl⟩:=qm a;exact .inr (.inr rfl)
 |indexAddr t x i=>
  simp only[cg]at a;split at a
  ·obtain⟨_,_,a⟩:=qb a
   obtain⟨_,_,a⟩:=qb a;obtain⟨_,_,rfl⟩:=qm a;exact .inr (.inr rfl)
  ·obtain⟨_,_,a⟩:=qb a
   obtain⟨_,_,a⟩:=qb a;obtain⟨_,_,rfl⟩:=qm a;exact .inr (.inr rfl)
  grind
 |index t x i=>
  simp only[cg]at a;split at a
  ·obtain⟨_,_,a⟩:=qb a
   obtain⟨_,_,rfl⟩:=qm a;exact .inr (.inr rfl)
  ·obtain⟨_,_,a⟩:=qb a
   obtain⟨_,_,a⟩:=qb a;obtain⟨_,_,a⟩:=qb a;obtain⟨_,_,rfl⟩:=qm a;exact .inr (.inr rfl)
  grind
 |slice t x g e d=>
  cases d with
  |some _=>cases a
  |none=>
   simp only[cg]at a;split at a
   ·obtain⟨_,_,a⟩:=qb a
    obtain⟨_,_,a⟩:=qb a;obtain⟨_,_,rfl⟩:=qm a;exact .inr (.inr rfl)
   ·obtain⟨_,_,a⟩:=qb a
    obtain⟨_,_,a⟩:=qb a;obtain⟨_,_,a⟩:=qb a;obtain⟨_,_,rfl⟩:=qm a;exact .inr (.inr rfl)
   ·obtain⟨_,_,a⟩:=qb a
    obtain⟨_,_,a⟩:=qb a;obtain⟨_,_,a⟩:=qb a;obtain⟨_,_,rfl⟩:=qm a;exact .inr (.inr rfl)
   grind
 |extract x i=>obtain⟨_,_,rfl⟩:=qm a;exact .inr (.inr rfl)
 |makeFunc fn first fb=>
  cases fn with
  |func f=>
   simp only[cg]at a;split at a
   ·obtain⟨_,_,rfl⟩:=qm a;exact .inr (.inr rfl)
   split at a
   ·obtain⟨_,_,rfl⟩:=qm a;exact .inr (.inr rfl)
   grind
  |_=>cases a
 |makeInterface t x=>
  simp only[cg]at a;split at a
  ·cases a
  ·cases a
  ·obtain⟨_,_,rfl⟩:=qm a;exact .inr (.inr rfl)
 |call cl=>
  obtain⟨callee,args,d⟩:=cl;cases callee with
  |value f=>cases a
  |invoke r m=>cases a
  |builtin b=>
   cases b with
   |len=>
    simp only[cg]at a;split at a
    ·split at a
     ·obtain⟨_,_,rfl⟩:=qm a;exact .inr (.inr rfl)
     ·obtain⟨_,_,rfl⟩:=qm a;exact .inr (.inr rfl)
     grind
    grind
   |max=>
    simp only[cg]at a;split at a
    ·obtain⟨_,_,a⟩:=qb a
     obtain⟨_,_,rfl⟩:=qm a;exact .inr (.inr rfl)
    grind
   |min=>
    simp only[cg]at a;split at a
    ·obtain⟨_,_,a⟩:=qb a
     obtain⟨_,_,rfl⟩:=qm a;exact .inr (.inr rfl)
    grind
   |_=>cases a
 |_=>cases a
theorem CU{S}{o:Oper}{c}(j:cg P o.op=some c)(hs:oa cf st o.dst c=some st')(u:∀d,o.dst=some d->d<S.nt)(hr:Rl P S st a w){K}{Q}
 (n:∀a' w',Rl P S st' a' w'->K a' w'):o.wpIn (fw r) 0 P a w K Q:=by
 obtain⟨Fr,β,R,k⟩:=hr;have z:ik c=true->o.wpIn (fw r) 0 P a w K Q:=fun h=>by
  rw[io h]at hs;obtain⟨p,g,rfl⟩:=qm hs;obtain⟨v,i,y⟩:=zcO j R.sl g;refine Ih i (n _ _ ?_);cases b:o.dst with
  |none=>exact⟨Fr,β,R,k⟩
  |some d=>exact⟨Fr,β,R.put (u d b) y,k⟩
 have asg:∀x:Operand,∀s,o.op=.assign x->yb x=some (.t s)->c=.asg (.t s)->o.wpIn (fw r) 0 P a w K Q:=fun x s A e q=>by
  subst q;simp only[oa]at hs;cases b:o.dst with
  |none=>grind
  |some d=>
   rw[b]at hs;simp only at hs;split at hs
   ·cases hs
   ·rename_i y
    have i:(execOp a.eval o).run P w=.ok (.value (a.tmps.getD s undef)) w:=by
     unfold execOp;rw[A,Yx e];rfl
    refine Ih i ?_;rw[b];split at hs
    ·rename_i g
     cases hs;exact n _ _ ⟨Fr,β,R.move (u d b) y g,k⟩
    ·cases hs
     exact n _ _ ⟨Fr,β,R.put (u d b) (R.sl s),k⟩
 obtain⟨dst,op,ty,B,l,guard⟩:=o;cases h:ik c with
 |true=>grind
 |false=>
  cases op
  case move x=>
   obtain⟨y,g,rfl⟩:=qm j;cases h
  case assign x=>
   obtain⟨y,g,rfl⟩:=qm j;cases y with
   |t s=>grind
   |c v=>cases h
  all_goals
   rcases yN j with⟨x,e⟩|⟨x,e⟩|e
   ·cases e
   ·cases e
   ·rw[h]at e;cases e
end
section
variable {P:Program} {w w':World} {r:Option Nat} {Fr Fr':Nat→Nat} {β β':List Nat} {T:List Deferred} {base nt:Nat} {M:Nat→Prop} {w0:World} {F0:Nat→Nat} {st st':St} {a a':Act} {cf:Callee}
theorem PT{f}{g}:∀l:List Nat,(∀i∈l,Rd w Fr β (f i) (g i))->ta w Fr β (l.map f) (l.map g)
 |[],_=>by rfl
 |i::l,h=>by
  exact⟨_,_,rfl,h i ea,PT l fun j a=>h j (by simp[a])⟩
theorem pA{t}{g}{n b o}{vs:List Value}(a:Me P t=some g)(d:Rg P t=some n)(c:vs.length=n)(i:∀j v,vs[j]?=some v->w.cell? ⟨b,o+j,none⟩=some v)(e:g=true\/n=1):
 (loadVar t ⟨b,o,none⟩).run P w=.ok (if g then .agg vs.toArray else vs.getD 0 undef) w:=by
 simp only[loadVar,Qb,aI a,Rb];cases g with
 |true=>
  have:=run_loadCells_list (P:=P) w ⟨b,o,none⟩ vs fun j v h=>by grind [add_eq]
  rw[c]at this;simp only[if_true,Qb,run_sizeOf d,Rb,this];rfl
 |false=>
  grind [run_load]
theorem qP:∀{qs}{cs a},zi cs qs=some a->a.length=cs.length
 |[],cs,a,h=>by grind [zi]
 |(o,n,p)::r,cs,a,h=>by
  unfold zi at h;split at h
  ·rw[qP h];grind
  grind
def fE{n}{ps}{vs}(h:ta w Fr β ps vs)(d:n=1){p}(c:ps[0]?=some p):∃v,vs.take n=[v]/\Rd w Fr β p v:=by
 obtain⟨v,a,b⟩:=h.get 0 p c;refine⟨v,?_,b⟩
 match vs,a with
 |u::r,a=>grind
def Rel.PH(R:Rel P T base M w0 F0 nt st a w Fr β){L}{v}{p}(c:Ga a w β L=some v)(d:bb st L=some p):Rd w Fr β p v:=by
 cases L with
 |slot i=>
  simp only[Ga,bb,Wb]at c d;rw[<-c,<-d];exact R.sl i
 |cell b j=>
  obtain⟨g,g1,t⟩:=qb c;obtain⟨cs,c1,c2⟩:=qb d;obtain⟨z,l,y,h⟩:=R.bx.2 b cs c1;rw[g1]at l;cases l;rcases h with⟨vs,e,n,q,x,_⟩|⟨f,k,s,live,o,_,r,n,_⟩
  rotate_left
  ·grind [World.cell?]
  obtain⟨u,A,B⟩:=q.get j p c2;rw[cell_of_row _ _ _ _ _ _ n]at t
  grind
def Rel.appended(R:Rel P T base M w0 F0 nt st a w Fr β){d}(F:d<nt){L}(j:L∈st.ow){v x}(C:Ga a w β L=some v){p}(A:jB P w Fr β v p x w' Fr'):
 Rel P T base M w0 F0 nt {st with sl:=(d,p)::st.sl,ow:=.slot d::Va d (st.ow.filter (·≠L)),al:=Jb d (st.al.filter fun p=>p.2≠L)} (a.put (some d) x) w' Fr' β:=by
 have k:d<a.tmps.size:=by rw[R.nt];exact F
 have t:=R.lt;have n:∀g∈β,v.ownBlock≠some g:=fun g c e=>R.out L j v g C e c
 have r:∀K,Ga a w' β K=Ga a w β K:=fun K=>LI fun g c=>(A.old g (t g c) (n g c)).1
 have E:∀K∈st.ow,K≠L->∀u,Ga a w β K=some u->∀g,u.ownBlock=some g->v.ownBlock≠some g:=fun K i z u Q g c e=>R.sep K i L j z u v g Q C c e
 have l:∀K,K∈Va d (st.ow.filter (·≠L))->K∈st.ow/\K≠L/\Vd d K=false:=fun K i=>by
  grind [Jl]
 refine R.next A.le (xA R A.le F A.rd) (by grind [size_put,nt]) (ly _ _ _) (R.bx.kept A.le fun g c=>A.old g (t g c) (n g c)) R.nd (fun g h=>.inl h) (fun K=>if K=.slot d then(if x.ownBlock=v.ownBlock then some L else none)else some K) (fun K i=>?_) (fun K i K' y o V h I=>?_) (fun K i K' y o h I=>?_) (fun q O=>?_) (fun b N _ B=>?_) A.os A.tape A.output
 ·rcases wb.1 i with rfl|i
  ·refine⟨x,p,?_,?_,A.own,fun g c=>?_⟩
   ·grind [Ga,Nk]
   ·grind [bb,Ae]
   ·rcases A.JC g c with h|h<;>grind
  ·obtain⟨D,S,U⟩:=l K i
   obtain⟨u,q,G,J,H⟩:=R.own K D;exact⟨u,q,by grind [Yl],(gA U).trans J,H.kept fun g c=>A.old g (H.lt c) (E K D S u G g c),fun g c=>.inr ⟨K,D,by grind [wv],u,G,c⟩⟩
 ·grind
 ·grind
 ·obtain⟨D,G,H⟩:=gr.1 O
  have J:q∈st.al:=(Yc.1 D).1;rw[Yl k H,r,Nk a d _ _ k,if_neg (fun e=>G e.symm)];exact R.al q J
 ·exact A.old b N (B L j v C)
theorem A9{S}{o:Oper}{c}(D:gs P o.op=some c)(hs:oa cf st o.dst c=some st')(hdZ:∀d,o.dst=some d->d<S.nt)(hr:Rl P S st a w){K}{Q}
 (T:∀a' w',Rl P S st' a' w'->K a' w'):o.wpIn (fw r) 0 P a w K Q:=by
 obtain⟨Fr,β,R,Y⟩:=hr;obtain⟨dst,op,ty,N,F,guard⟩:=o;have val:∀{s:Sem Value}{v:Value}{w':World},s.run P w=.ok v w'->(do pure (Next.value (<-s)):Sem Next).run P w=.ok (.value v) w':=fun h=>by
  simp_all
 dsimp only at D hs hdZ;cases op with
 |alloc elem=>
  obtain⟨zs,hzZ,rfl⟩:=qm D;obtain⟨d,rfl,rfl⟩:=qm hs;obtain⟨z,z1Z,z2Z,z3⟩:=hJ (w:=w) (Fr:=Fr) (β:=β) hzZ;have u:(execOp a.eval ⟨some d,.alloc elem,ty,N,F,guard⟩).run P w=.ok (.value (.pointer (some ⟨w.heap.size,0,none⟩))) (w.alloc (.cells z.cells elem)):=by
   refine val ?_;simp only[Instr.alloc,Qb,z1Z,Rb];rfl
  obtain⟨R'Z,J⟩:=R.fS (hdZ d rfl) (e:=elem) z2Z z3;have R2Z:=R'Z.XI (b:=st.bx.length) (e:=elem) (pre:=[]) (mid:=zs) (post:=[]) ea;refine Ih u (T _ _ (Rl.of (S:=S) ?_ Y J));simpa[St.put]using R2Z
 |box elem x=>
  obtain⟨n,hnZ,D⟩:=qb D;obtain⟨y,hyZ,rfl⟩:=qm D;simp only[oa]at hs;obtain⟨d,rfl,hs⟩:=qb hs;split at hs
  ·rename_i B
   cases hs;obtain⟨c1,c2⟩:=VC (cc R.sl hyZ) B.1;have u:(execOp a.eval ⟨some d,.box elem x,ty,N,F,guard⟩).run P w=.ok (.value (.pointer (some ⟨w.heap.size,0,none⟩))) (w.alloc (.cells (a.eval x).cells elem)):=val rfl;obtain⟨R'Z,J⟩:=R.fS (hdZ d rfl) (e:=elem) c1 c2;have R2Z:=R'Z.XI (b:=st.bx.length) (e:=elem) (pre:=[]) (mid:=(y.ev st.sl).cells) (post:=[]) ea;refine Ih u (T _ _ (Rl.of (S:=S) ?_ Y J));simpa[St.put]using R2Z
  grind
 |buildSlice t len ps=>
  simp only[gs]at D;split at D
  ·rename_i e heZ
   obtain⟨n,hnZ,D⟩:=qb D;split at D
   ·rename_i hbZ
    obtain⟨zs,hzZ,D⟩:=qb D;split at D
    ·rename_i hzl
     obtain⟨qs,hqZ,rfl⟩:=qm D;obtain⟨d,G,U⟩:=qb hs;subst G;obtain⟨cs,hf,hs⟩:=qb U;split at hs
     case isFalse=>cases hs
     rename_i hby;cases hs;obtain⟨z,z1Z,z2Z,z3⟩:=hJ (w:=w) (Fr:=Fr) (β:=β) hzZ;have W:z.cells.size=n:=by rw[<-hzl,<-z2Z.length];simp
     obtain⟨Z,hZZ⟩:∃Z:Array Value,(Array.range (len* n)).map (fun i=>z.cells[i % z.cells.size]!)=Z:=⟨_,rfl⟩;have hZr:ta w Fr β ((List.range (len* n)).map fun i=>zs.getD (i % n) .Hd) Z.toList:=by
      rw[<-hZZ,Array.toList_map,Array.toList_range];refine PT _ fun i _=>?_
      have fa:i % n<zs.length:=by rw[hzl];exact Nat.mod_lt _ hbZ.1
      obtain⟨v,k1Z,k2Z⟩:=z2Z.get (i % n) _ (qe fa);have e1:zs.getD (i % n) .Hd=zs[i % n]:=by rw[UA,qe fa];rfl
      have e2:z.cells[i % z.cells.size]! =v:=by
       rw[W];have:z.cells[i % n]?=some v:=by rw[<-YA];exact k1Z
       rw[getElem!_def,this]
      rw[e1,e2];exact k2Z
     have hZo:gd Z.toList:=fun v hvZ=>by
      rw[<-hZZ,Array.toList_map]at hvZ;obtain⟨i,_,rfl⟩:=si.1 hvZ;have fa:i % n<z.cells.size:=by rw[W];exact Nat.mod_lt _ hbZ.1
      refine z3 _ ?_
      grind
     obtain⟨C,f1Z,f2Z,f3Z⟩:=VD _ _ _ _ _ (aD R.sl hqZ) hZr hZo hf;have u:(execOp a.eval ⟨some d,.buildSlice t len ps,ty,N,F,guard⟩).run P w=.ok (.value (.slice (some ⟨w.heap.size,0,none⟩) len len)) (w.alloc (.cells C e)):=by
      refine val ?_;have hpl:(ps.map fun(i,x)=>(i,a.eval x)).toList=ps.toList.map fun q=>(q.1,a.eval q.2):=ea
      simp only[Instr.buildSlice,Qb,run_underlying heZ,Rb,run_sizeOf hnZ];rw[if_neg aa];by_cases h0Z:len* n=0
      ·rw[if_pos h0Z]
       have e1:(Array.range (len* n)).map (fun i=>(#[]:Array Value)[i % (#[]:Array Value).size]!)=Z:=by rw[<-hZZ,h0Z];simp
       simp only[Qb,Lh,Rb,e1,hpl,f1Z];rfl
      ·rw[if_neg h0Z]
       simp only[Qb,Lh,z1Z,Rb,hZZ,hpl,f1Z];rfl
     have hCl:C.toList.length=len* n:=by rw[f2Z.length,qP hf];simp
     have I:Below w.heap.size w (w.alloc (.cells C e)):=fu w _;have hrow:=zch w C.toList e β Fr;have hle:Le w Fr β (w.alloc (.cells C e)) (Of Fr w.heap.size C.toList.length) β:=⟨I.size,fun b h=>by grind [At],fun b o h _=>I.cell (p:=⟨b,o,none⟩) h,fun _ _ h=>h,fun g r h=>⟨r,(I.block g (Kh.1 h).1).trans h⟩⟩;have hrd:Rd (w.alloc (.cells C e)) (Of Fr w.heap.size C.toList.length) β (.ia len (zd cs)) (.slice (some ⟨w.heap.size,0,none⟩) len len):=by
      simp only[Rd];exact⟨_,_,rfl,Aa _,.inr ⟨w.heap.size,0,C.toList,rfl,hrow,ta.jb _ _ (f2Z.mono hle),f3Z⟩⟩
     have hcl:cs.length=len* n:=by rw[<-f2Z.length,hCl]
     have hmx:len<=maxLen:=by
      have V:len* 1<=len* n:=Nat.mul_le_mul (Aa _) hbZ.1;unfold maxLen;omega
     have how:mg P (w.alloc (.cells C e)) (Of Fr w.heap.size C.toList.length) (.ia len (zd cs)) (.slice (some ⟨w.heap.size,0,none⟩) len len):=
      ⟨len,zd cs,rfl,.inr ⟨w.heap.size,len,C,e,n,rfl,heap_alloc_new w _,Aa _,hmx,aa,by grind [Of.eq_1,WI],by grind [WI],fun h=>h,fun h=>hby.elim (fun V=>.inr na) fun V=>.inl (V.resolve_left fun V=>V h)⟩⟩
     exact Ih u (T _ _ (Rl.of (S:=S) (R.Ic I (fun g hgZ=>At hgZ) (hdZ d rfl) hrd how (fun g hgZ=>by cases hgZ<;>grind)) Y hle))
    grind
   grind
  grind
 |load t x=>
  obtain⟨g,hgZ,D⟩:=qb D;obtain⟨n,hnZ,D⟩:=qb D;split at D
  ·rename_i h1Z
   obtain⟨y,hyZ,rfl⟩:=qm D;have H:=cc R.sl hyZ;obtain⟨d,G,U⟩:=qb hs;clear hs;subst G;obtain⟨q,hs,rfl⟩:=qm U;unfold Om at hs
   have O:∀b o(vs:List Value),a.eval x=.pointer (some ⟨b,o,none⟩)->vs.length=n->(∀j v,vs[j]?=some v->w.cell? ⟨b,o+j,none⟩=some v)->
    (execOp a.eval ⟨some d,.load t x,ty,N,F,guard⟩).run P w=.ok (.value (if g then .agg vs.toArray else vs.getD 0 undef)) w:=fun b o vs e l h=>by
    refine val ?_
    grind [Instr.loadAt,Instr.sureAddr,pA]
   split at hs
   ·rename_i cs e1
    rw[e1]at H;obtain⟨b,o,vs,H,r1,r2,r3⟩:=H;split at hs
    ·have hvl:=r2.length
     have u:=O b o (vs.take n) H na (fun j v hjZ=>(r1.take n j v hjZ).2);refine Ih u ?_;cases g with
     |true=>
      cases hs;exact T _ _ ⟨Fr,β,R.put (hdZ d rfl) (by exact⟨_,rfl,r2.take n,r3.take n⟩),Y⟩
     |false=>
      have hn1:n=1:=h1Z.resolve_left ea;obtain⟨v,k1Z,k2Z⟩:=fE r2 hn1 hs;exact T _ _ ⟨Fr,β,R.put (hdZ d rfl) na,Y⟩
    grind
   ·rename_i b o e1
    rw[e1]at H;obtain⟨gb,hgb,H⟩:=H;obtain⟨cs,M,U⟩:=qb hs;have hs:=U;split at hs
    ·obtain⟨M,_,g'Z,vs,e,b1Z,b2Z,b3Z,b4Z,b5Z,_⟩:=R.bx.cells M
     rw[hgb]at b1Z;cases b1Z;have hvl:=b3Z.length;have Ub:∀j v,((vs.drop o).take n)[j]?=some v->w.cell? ⟨gb,o+j,none⟩=some v:=fun j v hjZ=>by
      rw[List.getElem?_take]at hjZ;split at hjZ
      ·rw[cell_of_row _ _ _ _ _ _ b2Z];grind
      grind
     have u:=O gb o ((vs.drop o).take n) H (by rw[Se,fc];omega) Ub;refine Ih u ?_;cases g with
     |true=>
      cases hs;exact T _ _ ⟨Fr,β,R.put (hdZ d rfl) (by exact⟨_,rfl,(b3Z.drop o).take n,(b4Z.drop o).take n⟩),Y⟩
     |false=>
      have hn1:n=1:=h1Z.resolve_left ea;obtain⟨v,k1Z,k2Z⟩:=fE (b3Z.drop o) hn1 (p:=q) na;exact T _ _ ⟨Fr,β,R.put (hdZ d rfl) na,Y⟩
    grind
   grind
  grind
 |convert src I x=>
  obtain⟨y,hyZ,D⟩:=qb D;have h1Z:=cc R.sl hyZ;split at D
  ·rename_i e E G
   split at D
   ·rename_i heZ
    cases D;obtain⟨p,hpZ,rfl⟩:=qm hs;have fin:∀v,(convert src I (a.eval x)).run P w=.ok v w->Rd w Fr β p v->Oper.wpIn (fw r) 0 P ⟨dst,.convert src I x,ty,N,F,guard⟩ a w K Q:=fun v h2Z h3Z=>by
     refine Ih (v:=v) (w':=w) ?_ ?_
     ·show(do pure (Next.value (<-convert src I (a.eval x))):Sem Next).run P w=_
      grind
     ·cases dst with
      |none=>exact T _ _ ⟨Fr,β,R,Y⟩
      |some d=>exact T _ _ ⟨Fr,β,R.put (hdZ d rfl) h3Z,Y⟩
    have fin2:∀(l:List UInt8)(a0:Addr)(V:Nat),a.eval x=.slice (some a0) l.length V->p=.flat (.string ⟨l.toArray⟩)->(∀j(hjZ:j<l.length),w.cell? (a0.add j)=some (.int .u8 (l[j].toNat:Int)))->Oper.wpIn (fw r) 0 P ⟨dst,.convert src I x,ty,N,F,guard⟩ a w K Q:=fun l a0 V h2Z h3Z h4Z=>by
     refine fin (.string ⟨l.toArray⟩) ?_ (by rw[h3Z];exact eg rfl)
     grind [run_convert_bytes_back]
    unfold um at hpZ;split at hpZ
    ·rename_i e1
     cases hpZ;rw[e1]at h1Z;obtain⟨h1Z,_⟩:=Oc h1Z;exact fin _ (by rw[h1Z];exact run_convert_bytes_nil (w:=w) src e E heZ 0 0 I G) (eg rfl)
    ·rename_i n cs e1
     split at hpZ
     ·rename_i hnZ
      obtain⟨l,J,rfl⟩:=qm hpZ;rw[e1]at h1Z;obtain⟨b,V,H,_,hvZ⟩:=h1Z;rcases hvZ with⟨h0Z,h00⟩|⟨g,o,vs,rfl,r1,r2,r3⟩
      ·subst h0Z;subst h00
       simp only[bytesOf,Wb]at J;subst J;cases b with
       |none=>exact fin _ (by rw[H];exact run_convert_bytes_nil (w:=w) src e E heZ 0 V I G) (eg rfl)
       |some b=>grind
      ·have hbZ:=Kx J r2
       have hln:l.length=n:=by rw[<-hnZ,<-r2.length,hbZ,jn]
       subst hln;refine fin2 l ⟨g,o,none⟩ V H rfl fun j hjZ=>?_
       have:=(r1 j (.int .u8 l[j].toNat) na).2;rw[add_eq];omega
     grind
    ·rename_i b o n e1
     obtain⟨cs,M,hpZ⟩:=qb hpZ;split at hpZ
     ·obtain⟨l,J,rfl⟩:=qm hpZ
      rw[e1]at h1Z;obtain⟨g,a0,V,hgZ,H,_,hvZ⟩:=h1Z;obtain⟨M,_,g'Z,vs,e0Z,b1Z,b2Z,b3Z,b4Z,b5Z,_⟩:=R.bx.cells M;rw[hgZ]at b1Z;cases b1Z;have hvl:=b3Z.length;have hbZ:=Kx J ((b3Z.drop o).take n);have hln:l.length=n:=by
       have:=congrArg List.length hbZ;rw[jn,Se,fc]at this;omega
      subst hln;rcases hvZ with h0Z|rfl
      ·have hl0:l=[]:=qz h0Z
       subst hl0;cases a0 with
       |none=>exact fin _ (by rw[H];exact run_convert_bytes_nil (w:=w) src e E heZ 0 V I G) (eg rfl)
       |some a0=>grind
      ·refine fin2 l ⟨g,o,none⟩ V H rfl fun j hjZ=>?_
       rw[add_eq,cell_of_row _ _ _ _ _ _ b2Z];have h8Z:((vs.drop o).take l.length)[j]?=some (.int .u8 l[j].toNat):=by rw[hbZ,XA,qe hjZ];rfl
       grind
     grind
    grind
   grind
  grind
 |store t x y=>
  obtain⟨n,hnZ,D⟩:=qb D;obtain⟨x'Z,hx',D⟩:=qb D;obtain⟨y'Z,hy',D⟩:=qb D;split at D
  case isFalse=>cases D
  rename_i hn1;cases D;have H:=cc R.sl hx';have hyZ:=cc R.sl hy';simp only[oa]at hs;split at hs
  ·rename_i b o e1
   obtain⟨cs,M,hs⟩:=qb hs;split at hs
   ·rename_i B
    obtain⟨hgood,hcl,hle⟩:=B;rw[e1]at H;obtain⟨gb,hgb,H⟩:=H;obtain⟨e0Z,cs⟩:=cs;obtain⟨M,_,g'Z,vs,e,b1Z,b2Z,b3Z,b4Z,b5Z,e00⟩:=R.bx.cells M;rw[hgb]at b1Z;cases b1Z;dsimp only at e00 b3Z hle;subst e00;obtain⟨c1,c2⟩:=VC hyZ hgood;have hul:(a.eval y).cells.toList.length=n:=by rw[c1.length,hcl]
    have hvl:=b3Z.length;have u:(execOp a.eval ⟨none,.store t x y,ty,N,F,guard⟩).run P w=.ok .skip (w.setRow gb (vs.take o++(a.eval y).cells.toList++vs.drop (o+n)).toArray):=by
     have hst:=run_storeCells_at P gb o e0Z (a.eval y).cells.toList 0 vs.toArray w b2Z na c2;rw[pi,hul]at hst;have hzZ:¬((a.eval y).cells.size≠n):=by rw[<-Dw,hul];simp
     show(do (do storeVar t (<-Instr.sureAddr (a.eval x)) (a.eval y));pure Next.skip:Sem Next).run P w=_;simp only[Qb,H,Instr.sureAddr,Lh,Rb,storeVar,run_sizeOf hnZ];rw[if_neg hzZ];simp only[hst,Rb]
    have fin:∀(K':Option Nat)(I:St),(∀s,K'=some s->∃v p,(a.eval y).cells.toList=[v]/\(y'Z.ev st.sl).cells=[p]/\(Loc.slot s∈st.ow/\a.tmps.getD s undef=v/\look st.sl s=p))->
     I.sl=st.sl->I.bx=st.bx.set b (e0Z,cs.take o++(y'Z.ev st.sl).cells++cs.drop (o+n))->
     (∀L∈I.ow,(L∈st.ow/\Md b o n L=false/\∀s,K'=some s->L≠.slot s)\/(L=.cell b o/\(K'.isSome\/((a.eval y).cells.toList=[.slice none 0 0]/\(y'Z.ev st.sl).cells=[.ia 0 []]))))->
     (∀q∈I.al,q∈st.al/\Md b o n q.2=false)->
     st'={I with bx:=st.bx.set b (e0Z,cs.take o++(y'Z.ev st.sl).cells.map wk++cs.drop (o+n)),ow:=Zc b o (y'Z.ev st.sl).cells++I.ow}->Oper.wpIn (fw r) 0 P ⟨none,.store t x y,ty,N,F,guard⟩ a w K Q:=fun K' I k1Z k2Z k3Z k4Z k5Z k6Z=>by
     obtain⟨R'Z,J⟩:=R.store M hgb b2Z b3Z b4Z c1 c2 hul hn1 hle K' k1Z I k2Z k3Z k4Z k5Z;have fa:=(qg M).1;have hto:(cs.take o).length=o:=by rw[Se];omega
     have R2Z:=R'Z.XI (b:=b) (e:=e0Z) (pre:=cs.take o) (mid:=(y'Z.ev st.sl).cells) (post:=cs.drop (o+n)) (by rw[k3Z,Tg fa]);rw[hto,k3Z,qo]at R2Z;rw[k6Z]at T;exact upon_skip u (T _ _ (Rl.of (S:=S) R2Z Y J))
    have V:∀L,L∈st.ow.filter (fun L=>!Md b o n L)->L∈st.ow/\Md b o n L=false:=fun L hLZ=>by simpa using hLZ
    have mema:∀q,q∈st.al.filter (fun p=>!Md b o n p.2)->q∈st.al/\Md b o n q.2=false:=fun q hqZ=>by simpa using hqZ
    cases y'Z with
    |t s=>
     dsimp only at hs;split at hs
     ·rename_i hown
      cases hs;obtain⟨v,p,k1Z,k2Z,k3Z⟩:=R.own _ hown;obtain⟨nnZ,ccZ,hpe,hvv⟩:=k3Z;simp only[bb,Wb]at k2Z;simp only[Ga,Wb]at k1Z;have hye:a.eval y=v:=by rw[Yx hy',<-k1Z];rfl
      have hvc:v.cells=#[v]:=by
       rcases hvv with h|⟨_,_,_,_,_,h,_⟩<;>rw[h]<;>rfl
      have hpc:((X.t s).ev st.sl).cells=[p]:=by
       show(look st.sl s).cells=[p];rw[k2Z,hpe];rfl
      have hnil:Zc b o ((X.t s).ev st.sl).cells=[]:=by rw[hpc,hpe];rfl
      refine fin (some s) {st with bx:=st.bx.set b (e0Z,cs.take o++((X.t s).ev st.sl).cells++cs.drop (o+n)),ow:=.cell b o::Va s (st.ow.filter fun L=>!Md b o n L),al:=Jb s (st.al.filter fun p=>!Md b o n p.2)} (fun s' e'Z=>?_) rfl rfl (fun L hLZ=>?_) (fun q hqZ=>?_) ?_
      ·grind
      ·grind [Jl,wv]
      ·obtain⟨m1Z,m2Z,m3Z⟩:=gr.1 hqZ
       exact mema q m1Z
      ·rw[hnil];rfl
     ·cases hs
      exact fin none {st with bx:=st.bx.set b (e0Z,cs.take o++((X.t s).ev st.sl).cells++cs.drop (o+n)),ow:=st.ow.filter fun L=>!Md b o n L,al:=st.al.filter fun p=>!Md b o n p.2} (fun _ e=>by cases e) rfl rfl (fun L hLZ=>.inl ⟨(V L hLZ).1,(V L hLZ).2,fun _ e=>by cases e⟩) (fun q hqZ=>mema q hqZ) rfl
    |c pvZ=>
     cases hs;exact fin none {st with bx:=st.bx.set b (e0Z,cs.take o++((X.c pvZ).ev st.sl).cells++cs.drop (o+n)),ow:=st.ow.filter fun L=>!Md b o n L,al:=st.al.filter fun p=>!Md b o n p.2} (fun _ e=>by cases e) rfl rfl (fun L hLZ=>.inl ⟨(V L hLZ).1,(V L hLZ).2,fun _ e=>by cases e⟩) (fun q hqZ=>mema q hqZ) rfl
   grind
  grind
 |call cl=>
  obtain⟨callee,args,ats⟩:=cl;cases callee with
  |value f=>cases D
  |invoke r m=>cases D
  |builtin b=>
   cases b with
   |append=>
    simp only[gs]at D;split at D
    ·rename_i x y t t'Z e1 e2
     have eaZ:args=#[x,y]:=by apply qi;rw[e1]
     have etZ:ats=#[t,t'Z]:=by apply qi;rw[e2]
     subst eaZ;subst etZ;split at D
     ·rename_i e ht V
      obtain⟨i,hiZ,D⟩:=qb D;split at D
      ·rename_i B
       obtain⟨heU,hsz1,hby,hzz⟩:=B;obtain⟨z,hzZ,W⟩:=qm hzz;obtain⟨x'Z,hx',D⟩:=qb D;obtain⟨y'Z,hy',rfl⟩:=qm D;have H:=cc R.sl hx';have hyZ:=cc R.sl hy';have hsr:∀zs:ByteArray,y'Z.ev st.sl=.flat (.string zs)->Src P i.size t'Z (a.eval y) zs.size (byteCells zs) w/\ta w Fr β (ci zs) (byteCells zs)/\(ci zs).length=zs.size/\ng (ci zs)=true:=fun zs e2=>by
        rw[e2]at hyZ;obtain⟨hyZ,_⟩:=Oc hyZ;have I:ta w Fr β (ci zs) (byteCells zs):=by
         unfold ci byteCells;generalize zs.data.toList=l
         induction l with
         |nil=>rfl
         |cons c l ihZ=>exact⟨_,_,rfl,eg rfl,ihZ⟩
        exact⟨by grind [Src.ofString],I,by grind [ta.length,byteCells_length],by
         unfold ci;generalize zs.data.toList=l
         induction l with
         |nil=>rfl
         |cons c l ihZ=>simp only[gc,ng,ihZ];rfl⟩
       have O:∀v v'Z w',a.eval x=v->(Builtin.append_ #[t,t'Z] ty #[v,a.eval y]).run P w=.ok v'Z w'->(execOp a.eval ⟨dst,.call {callee:=.builtin .append,args:=#[x,y],argTypes:=#[t,t'Z]},ty,N,F,guard⟩).run P w=.ok (.value v'Z) w':=fun v v'Z w' hxv u=>by
        show(do let d <-resolve a.eval ⟨.builtin .append,#[x,y],#[t,t'Z]⟩ ty;invoke d.target d.args:Sem Next).run P w=_
        grind [resolve,invoke,builtin]
       simp only[oa]at hs;split at hs
       ·rename_i hnx
        rw[Su hnx]at H;obtain⟨H,_⟩:=Oc H;split at hs
        ·rename_i zs e2
         split at hs
         ·obtain⟨d,rfl,rfl⟩:=qm hs
          obtain⟨E,I,hbl,huZ⟩:=hsr zs e2;split at T
          ·exact Ih (O _ _ _ H (YH t t'Z ty e i ht hiZ (a.eval y) (byteCells zs) na)) (T _ _ ⟨Fr,β,R.put (hdZ d rfl) (eg rfl),Y⟩)
          ·obtain⟨v'Z,w',Fr',u,A⟩:=tx (P:=P) (ty:=ty) ht hiZ hzZ W aa hby (WG (w:=w) (Fr:=Fr) (β:=β)) Iz E I E.one ea na (.inl ⟨heU,rfl⟩) aa
           rw[ld,Ra]at A;exact Ih (O _ _ _ H u) (T _ _ (Rl.of (S:=S) (R.Ic ⟨A.os,A.tape,A.output,A.le.size,fun k V=>(A.old k V (by simp[Value.ownBlock])).1⟩ (fun k V=>(A.old k V (by simp[Value.ownBlock])).2) (hdZ d rfl) A.rd A.own (fun k V=>(A.JC k V).resolve_left (by simp[Value.ownBlock]))) Y A.le))
         grind
        grind
       ·cases x'Z with
        |c pvZ=>cases hs
        |t s=>
         obtain⟨L,e3,U⟩:=qb hs;obtain⟨d,G,hs3⟩:=qb U;subst G;split at hs3
         ·rename_i n cs zs e1 e2
          split at hs3
          ·rename_i B
           obtain⟨hbZ,hcl,hin,hu8⟩:=B;obtain⟨v,p,k1Z,k2Z,how⟩:=R.own L hin;rw[e1]at k2Z;cases k2Z;have hxv:a.eval x=v:=by
            have:=dT R e3;rw[k1Z]at this;rw[Yx hx'];exact(jf this).symm
           have hrx:=R.PH k1Z e1;obtain⟨E,I,hbl,huZ⟩:=hsr zs e2;obtain⟨v'Z,w',Fr',u,A⟩:=tx (ty:=ty) ht hiZ hzZ W aa hby hrx how E I E.one na na (.inl ⟨heU,hu8⟩) hbZ;cases hs3;exact Ih (O _ _ _ hxv u) (T _ _ (Rl.of (S:=S) (R.appended (hdZ d rfl) hin k1Z A) Y A.le))
          grind
         grind
      grind
     ·rename_i e e'Z ht V
      obtain⟨i,hiZ,D⟩:=qb D;split at D
      ·rename_i B
       obtain⟨hsz,hby,hzz⟩:=B;obtain⟨z,hzZ,W⟩:=qm hzz;obtain⟨x'Z,hx',D⟩:=qb D;obtain⟨y'Z,hy',rfl⟩:=qm D;have H:=cc R.sl hx';have hyZ:=Rd.jb _ _ (cc R.sl hy');have O:∀v v'Z w',a.eval x=v->(Builtin.append_ #[t,t'Z] ty #[v,a.eval y]).run P w=.ok v'Z w'->(execOp a.eval ⟨dst,.call {callee:=.builtin .append,args:=#[x,y],argTypes:=#[t,t'Z]},ty,N,F,guard⟩).run P w=.ok (.value v'Z) w':=fun v v'Z w' hxv u=>by
        show(do let d <-resolve a.eval ⟨.builtin .append,#[x,y],#[t,t'Z]⟩ ty;invoke d.target d.args:Sem Next).run P w=_
        grind [resolve,invoke,builtin]
       have h8Z:∀cs dsZ,Xl (e==U8 P) i.size cs dsZ=true->(e=U8 P/\ng cs=true)\/i.size≠1\/(sd cs=true/\sd dsZ=true):=fun cs dsZ h=>by
        grind [Xl]
       simp only[oa]at hs;split at hs
       ·rename_i hnx
        rw[Su hnx]at H;obtain⟨H,_⟩:=Oc H;split at hs
        ·rename_i m dsZ e2
         split at hs
         ·rename_i B
          obtain⟨hbZ,hdl,hty⟩:=B;obtain⟨d,rfl,rfl⟩:=qm hs;rw[e2]at hyZ;obtain⟨news,E,I,hno⟩:=NU V hyZ hdl;split at T
          ·rename_i h0Z
           subst h0Z;exact Ih (O _ _ _ H (YH t t'Z ty e i ht hiZ (a.eval y) news E)) (T _ _ ⟨Fr,β,R.put (hdZ d rfl) (eg rfl),Y⟩)
          ·obtain⟨v'Z,w',Fr',u,A⟩:=tx (P:=P) (ty:=ty) ht hiZ hzZ W hsz hby (WG (w:=w) (Fr:=Fr) (β:=β)) Iz E I hno ea hdl (h8Z _ _ hty) aa
           rw[ld,Ra]at A;exact Ih (O _ _ _ H u) (T _ _ (Rl.of (S:=S) (R.Ic ⟨A.os,A.tape,A.output,A.le.size,fun k V=>(A.old k V (by simp[Value.ownBlock])).1⟩ (fun k V=>(A.old k V (by simp[Value.ownBlock])).2) (hdZ d rfl) A.rd A.own (fun k V=>(A.JC k V).resolve_left (by simp[Value.ownBlock]))) Y A.le))
         grind
        grind
       ·cases x'Z with
        |c pvZ=>cases hs
        |t s=>
         obtain⟨L,e3,U⟩:=qb hs;obtain⟨d,G,hs3⟩:=qb U;subst G;split at hs3
         ·rename_i n cs m dsZ e1 e2
          split at hs3
          ·rename_i B
           obtain⟨hbZ,hcl,hdl,hin,hty⟩:=B;obtain⟨v,p,k1Z,k2Z,how⟩:=R.own L hin;rw[e1]at k2Z;cases k2Z;have hxv:a.eval x=v:=by
            have:=dT R e3;rw[k1Z]at this;rw[Yx hx'];exact(jf this).symm
           have hrx:=R.PH k1Z e1;rw[e2]at hyZ;obtain⟨news,E,I,hno⟩:=NU V hyZ hdl;obtain⟨v'Z,w',Fr',u,A⟩:=tx (ty:=ty) ht hiZ hzZ W hsz hby hrx how E I hno hcl hdl (h8Z _ _ hty) hbZ;cases hs3;exact Ih (O _ _ _ hxv u) (T _ _ (Rl.of (S:=S) (R.appended (hdZ d rfl) hin k1Z A) Y A.le))
          grind
         grind
      grind
     grind
    grind
   |_=>cases D
 |_=>cases D
end
end ya

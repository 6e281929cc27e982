/- Texts of this proof, merged. -/
import Derived.KernelRfl
import Derived.Calls
import Derived.Below
import Derived.Still
import Derived.Laws.AppendOwn
import Derived.RangeFuncRecord
import Derived.Laws.Entries
import Derived.Laws.Cells
import Derived.Laws.IdiomStrings
import Derived.Lib.Strings
import Derived.Laws.BytesArg
import Derived.Deep.AppendSrc
import Derived.RangeFuncIn
import Derived.OrdersIn
import Derived.Orders
import Derived.ReadAgain
import Derived.ChangeSame
import Derived.ChangeReads
import Derived.DataReads
import Derived.WideShapes
set_option linter.all false
open Go Go.RowKit
def aa{p:Prop}(h:p:=by omega):p:=h
def ea{p:Prop}(h:p:=by simp):p:=h
def ha{p:Prop}(h:p:=by decide):p:=h
def ca{p:Prop}(h:p:=by kernel_rfl):p:=h
def Hb{p:Prop}(h:p:=by decide+kernel):p:=h
def pa{p:Prop}(h:p:=by rfl):p:=h
def La{p:Prop}(h:p:=by simp;omega):p:=h
def la{p:Prop}(h:p:=by grind):p:=h
def wh{p:Prop}(h:p:=by dsimp only;omega):p:=h
def dh{p:Prop}(h:p:=by simp_all):p:=h
def wJ:=@Option.bind_eq_some_iff
def LW:=@Option.map_eq_some_iff
def yl:=@List.getElem?_append_left
def Aa:=@Nat.le_refl
def Vf:=@Nat.le_trans
def Ug:=@Nat.lt_of_lt_of_le
def eu:=@Go.World.block_lt_of_cell?
def sa:=@List.length_cons
def dx:=@List.take_succ_cons
def lm:=@List.drop_succ_cons
def Fa:=@List.cons_append
def nB:=@List.mem_of_mem_take
def We:=@List.mem_append
def lg:=@List.getElem?_drop
def di:=@List.mem_of_getElem?
def Nh:=@Array.getElem?_eq_some_iff
def yo:=@Array.getD_eq_getD_getElem?
def wb:=@List.mem_cons
def jd:=@Option.map_some
def Pb:=@Option.some.injEq
def Fb:=@Go.Sem.run_bind
def Nb:=@Go.Result.andThen_ok
def Xb:=@List.map_cons
def Pf:=@List.foldl_cons
def Ij:=@Nat.add_assoc
def xo:=@List.take_succ_eq_append_getElem
def du:=@List.set_append_right
def Ue:=@List.length_take
def ci:=@Nat.add_zero
def kq:=@List.mapM_cons
def Ag:=@List.all_eq_true
def fc:=@List.length_drop
def Cd:=@List.drop_drop
def vk:=@Bool.and_true
def Ha:=@Bool.false_eq_true
def nm:=@Bool.not_true
def pn:=@Bool.not_false
def qh:=@Go.Sem.run_pure
def ei:=@Array.ext'
def Ma:=@List.nil_append
def yk:=@List.getElem?_cons_succ
def zl:=@List.map_congr_left
def Ao:=@List.mem_singleton
def Kc:=@List.length_set
def rB:=@List.getElem?_set_ne
def Wf:=@Ne.symm
def Ac:=@List.append_assoc
def Af:=@List.getElem?_append_right
def yi:=@Nat.add_sub_cancel_left
def Vg:=@List.getElem?_set_self
def Ja:=@Option.bind_some
def qn:=@List.length_map
def jx:=@List.getElem?_map
def zi:=@List.mem_map
def Yc:=@List.mem_filter
def Wr:=@List.cons.injEq
def Da:=@List.length_append
def cc:=@Bool.and_eq_true
def kx:=@Array.length_toList
def Zc:=@Nat.zero_add
def sB:=@Array.getElem?_toList
def qB:=@List.getD_eq_getElem?_getD
def zo:=@List.set_set
def Xe:=@Option.some.inj
def fx:=@List.filter_eq_self
def gx:=@List.mem_filterMap
def Zi:=@List.mem_range
def zf:=@List.drop_zero
def xk:=@List.take_of_length_le
def Vr:=@Nat.add_comm
def ph:=@List.append_nil
def Bo:=@List.getElem?_cons_zero
def gu:=@Classical.byContradiction
def vB:=@Option.isSome_iff_exists
def mq:=@Bool.or_eq_true
def lx:=@List.getElem?_take_of_lt
def Qd:=@List.drop_eq_getElem_cons
def Oh:=@Nat.lt_or_ge
def Ak:=@List.drop_eq_nil_iff
def hu:=@Array.getElem?_eq_getElem
def om:=@List.filter_filter
def Co:=@List.filter_congr
def DJ:=@List.length_filter_lt_length_iff_exists
def rn:=@List.mem_cons_of_mem
def Wg:=@Bool.false_or
def iu:=@List.mem_cons_self
def nx:=@Bool.not_eq_true'
def sn:=@Go.World.size_alloc
def Ab:=@Nat.zero_le
def Bk:=@Nat.le_max_left
def Al:=@Nat.le_max_right
def wcu:=@List.take_append_drop
def Ck:=@List.all_cons
def Qf:=@List.getElem?_eq_none
def aj:=@Option.map_none
def Ca:=@List.length_nil
def pd:=@Bool.true_and
def fi:=@Bool.and_false
def De:=@Bool.false_and
def uB:=@Int.cast_ofNat_Int
def fu:=@ByteArray.ext
def CJ:=@Nat.shiftLeft_add_eq_or_of_lt
def zk:=@List.isPrefixOf_iff_prefix
def Yb:=@UInt8.toNat_inj
def lq:=@Int.ofNat_le
def Xr:=@Int.ofNat_inj
def gc:=@Int.toNat_natCast
def pm:=@List.take_length
def tn:=@Bool.or_true
def oq:=@Bool.true_or
def vn:=@Bool.or_false
def Ee:=@Int.natCast_add
def wn:=@Int.natCast_one
def qx:=@List.drop_append_of_le_length
def Fe:=@List.map_nil
def Yr:=@Nat.pow_le_pow_right
def pq:=@List.drop_length
def ku:=@Nat.and_two_pow_sub_one_eq_mod
def lu:=@Go.Oper.upon_value
def Do:=@Bool.eq_false_iff
def Zr:=@List.drop_eq_nil_of_le
def bs:=@Bool.eq_iff_iff
def rx:=@List.prefix_append
def Xf:=@List.map_append
def sx:=@Bool.not_eq_false
def Ph:=@Bool.eq_false_or_eq_true
def Bl:=@List.getElem?_eq_none_iff
def ds:=@List.drop_take
def mg:=@List.flatMap_nil
def mu:=@List.length_singleton
def rm:=@List.map_drop
def xn:=@List.flatMap_cons
def es:=@List.drop_left
def ju:=@List.not_mem_nil
def Jj:=@List.drop_of_length_le
def xB:=@List.isSuffixOf_iff_suffix
def mb:=@Classical.em
def yB:=@Bool.or_eq_false_iff
def ox:=@List.takeWhile_prefix
def Bg:=@Bool.and_self
def px:=@Bool.true_eq_false
def zB:=@Go.World.ownsRow_nil
def BB:=@ByteArray.size_extract
def yn:=@ByteArray.toList_data_append
def qq:=@ByteArray.size_append
def nu:=@List.foldlM_cons
def ux:=@List.all_append
def CB:=@UInt8.le_iff_toNat_le
def DB:=@List.dropWhile_cons
def ou:=@List.size_toArray
def pu:=@Array.replicate_succ
def qu:=@Array.replicate_zero
def ru:=@List.push_toArray
def tu:=@List.append_toArray
def Cg:=@List.map_singleton
def uu:=@Classical.choose_spec
def fs:=@List.range_succ
def qa{a b:Nat}(h:Nat.ble a b=true):a<=b:=Nat.le_of_ble_eq_true h
def qb{α β:Type _}{x:Option α}{f:α->Option β}{b:β}(h:x.bind f=some b):∃a,x=some a/\f a=some b:=wJ.1 h
def qm{α β:Type _}{x:Option α}{f:α->β}{b:β}(h:x.map f=some b):∃a,x=some a/\f a=b:=LW.1 h
def qz{α:Type _}{l:List α}(h:l.length=0):l=[]:=List.eq_nil_of_length_eq_zero h
def qg{α:Type _}{l:List α}{i:Nat}{a:α}(h:l[i]?=some a):∃k:i<l.length,l[i]=a:=List.getElem?_eq_some_iff.1 h
def qe{α:Type _}{l:List α}{i:Nat}(h:i<l.length):l[i]?=some l[i]:=List.getElem?_eq_getElem h
namespace ya
inductive zx where
 | exit (id:Nat)
 | ret
inductive yq where
 | ready
 | busy
 | done (j:zx)
 | over
inductive PV where
 | Ad
 | flat (v:Value)
 | ga (len:Nat) (cells:List PV)
 | agg (cells:List PV)
 | Jc (vs:List PV)
 | ptr (b off:Nat)
 | xd (cells:List PV)
 | cb (f:FuncId) (Ya:List PV)
 | tag (k:Nat) (cs:List PV)
 | Oa (b:Nat)
 | we (b off n:Nat)
 | lp (f k:Nat) (s:yq) (live:List Nat) (snap:List PV)
 deriving Inhabited
inductive Loc where
 | slot (i:Nat)
 | cell (b j:Nat)
 deriving DecidableEq
abbrev Na:=List (Nat×List PV)
structure St where
 sl:List (Nat × PV)
 ow:List Loc
 al:List (Nat × Loc)
 bx:Na
inductive X where
 | t (i:Nat)
 | c (v:PV)
inductive LK where
 | b
 | s
 | i (k:IntKind)
 deriving DecidableEq
inductive Ea where
 | mv (x:X)
 | mvA (s:Nat)
 | asg (x:X)
 | pick (c a b:X)
 | bin (op:BinOp) (x y:X)
 | beq (ne:Bool) (x y:X)
 | Qm (ne:Bool) (ks:List LK) (x y:X)
 | Rp (x:X)
 | Wl (x:X)
 | un (op:UnOp) (x:X)
 | conv (k:IntKind) (x:X)
 | b2s (x:X)
 | alloc (e:Nat) (zs:List PV)
 | box (e n:Nat) (x:X)
 | build (zs:List PV) (parts:List (Nat × Nat × X))
 | mksl (byte:Bool) (len size:Nat) (zs:List PV) (parts:List (Nat × Nat × X))
 | load (agg:Bool) (n:Nat) (a:X)
 | loadA (a:X)
 | loadM (a:X)
 | store (n:Nat) (a x:X)
 | Vm (off:Nat) (a:X)
 | Wm (agg:Bool) (off n:Nat) (x:X)
 | Ji (size:Nat) (x i:X)
 | idx (x i:X)
 | Yj (agg:Bool) (len size:Nat) (x i:X)
 | jn (len size:Nat) (x i:X)
 | sliceP (len size:Nat) (x:X) (lo hi:Option X)
 | appendS (x y:X)
 | slice (size:Nat) (x:X) (lo hi:Option X)
 | sliceS (x:X) (lo hi:Option X)
 | ext (x:X) (i:Nat)
 | len (x:X)
 | Vn (x:X)
 | append (byte:Bool) (size:Nat) (x y:X)
 | mm (mx:Bool) (x y:X)
 | call (f:FuncId) (args:List X)
 | callv (g:X) (args:List X)
 | clos (f:FuncId) (Ya:List X)
 | mkt (k:Nat) (cs:List X)
 | calli (Ih:List (Nat × Nat)) (x:X) (args:List X)
structure Ta where
 dst:Option Nat
 g:Option (Nat × Bool)
 op:Ea
inductive BT where
 | done
 | one (o:Ta) (t:BT)
 | two (o:Ta) (t r:BT)
inductive ka where
 | skip
 | kb (live:List Nat) (pre tail:List Ta)
 | jg (live:List Nat) (pre:List Ta) (t:BT)
 | seq (a b:ka)
 | cond (c:X) (a b:ka)
 | block (id:Nat) (b:ka)
 | loop (live:List Nat) (b:ka)
 | range (f k:Nat) (live:List Nat) (g:X)
 | exit (id:Nat) (live:List Nat)
 | ret (live:List Nat)
def yc:Value->Bool
 | .bool _| .int .. | .string _| .pointer none| .nilFunc| .nilIface| .slice none 0 0=>true
 |_=>false
def ofValue:Value->PV
 | .slice none 0 0=>.flat (.slice none 0 0)
 | .bool b=>.flat (.bool b)
 | .int k n=>.flat (.int k n)
 | .string s=>.flat (.string s)
 | .pointer none=>.flat (.pointer none)
 | .nilFunc=>.flat .nilFunc
 | .nilIface=>.flat .nilIface
 |_=>.Ad
mutual
def PV.sj:PV->Bool
 | .flat _=>true
 | .ga _ cs| .agg cs| .Jc cs| .xd cs| .tag _ cs=>Eb cs
 |_=>false
def Eb:List PV->Bool
 |[]=>true
 |v::r=>v.sj&&Eb r
end
mutual
def PV.low(nb:Nat):PV->Bool
 | .ptr b _=>decide (b<nb)
 | .ga _ cs| .agg cs| .Jc cs| .xd cs| .cb _ cs| .tag _ cs| .lp _ _ _ _ cs=>Ia nb cs
 | .Oa b| .we b _ _=>decide (b<nb)
 |_=>true
def Ia(nb:Nat):List PV->Bool
 |[]=>true
 |v::r=>v.low nb&&Ia nb r
end
def trim(nb:Nat)(vs:List PV)(bx:Na):Na:=if bx.length=nb then bx else if Ia nb vs&&(bx.take nb).all (fun q=>Ia nb q.2)then bx.take nb else bx
def nr:List PV->Bool
 | .lp _ _ _ _ _::_=>true
 |_=>false
def vd(bx:Na)(b:Nat):Option (Nat×List PV):=(bx[b]?).bind fun q=>if nr q.2 then none else some q
theorem hD{bx z}{b}{cs}(h:vd bx b=some cs):vd (bx++z) b=some cs:=by
 unfold vd at h⊢;obtain⟨c,a,d⟩:=qb h;rw[yl (qg a).1,a];exact d
def Ec:PV->Bool
 | .flat (.slice none 0 0)=>true
 |_=>false
def wk(p:PV):PV:=if Ec p then .ga 0 []else p
def Dd:List PV->List PV
 |[]=>[]
 |p::r=>wk p::Dd r
def PV.ib:PV->PV
 | .flat v=>wk (.flat v)
 | .agg cs=>.agg (Dd cs)
 |p=>p
def gd(b:Nat):Nat->List PV->List Loc
 |_,[]=>[]
 |o,p::r=>if Ec p then .cell b o::gd b (o+1) r else gd b (o+1) r
def Xl(ps:List PV):Bool:=ps.all fun p=>!Ec p
def gh:PV->Bool
 | .flat (.int .u8 _)=>true
 |_=>false
def td:List PV->Bool
 |[]=>true
 |p::r=>!gh p&&td r
def pg:List PV->Bool
 |[]=>true
 |p::r=>gh p&&pg r
def jm(a:Bool)(size:Nat)(cs b:List PV):Bool:=if a then pg cs else size !=1||(td cs&&td b)
def look:List (Nat×PV)->Nat->PV
 |[],_=>.Ad
 |(j,v)::r,i=>if j=i then v else look r i
def X.ev(sl:List (Nat×PV)):X->PV
 | .t i=>look sl i
 | .c v=>v
def za:Nat:=4294967296
def Ie{p:Prop}(h:p:=by unfold za;omega):p:=h
def Uc(op:BinOp):Value->Value->Option Value
 | .int k a,.int k' b=>
   match op with
   | .shl=>if b<0 then none else some (.int k (k.wrap (a* 2^(min b.toNat k.bits))))
   | .shr=>if b<0 then none else some (.int k (a.fdiv (2^(min b.toNat k.bits))))
   |op=>if k≠k' then none else
    match op with
    | .add=>some (.int k (k.wrap (a+b)))
    | .sub=>some (.int k (k.wrap (a - b)))
    | .mul=>some (.int k (k.wrap (a* b)))
    | .quo=>if b=0 then none else some (.int k (k.wrap (a.tdiv b)))
    | .rem=>if b=0 then none else some (.int k (a.tmod b))
    | .and=>some (.int k (k.wrap (BitVec.ofInt k.bits a&&&BitVec.ofInt k.bits b).toNat))
    | .or=>some (.int k (k.wrap (BitVec.ofInt k.bits a|||BitVec.ofInt k.bits b).toNat))
    | .xor=>some (.int k (k.wrap (BitVec.ofInt k.bits a ^^^ BitVec.ofInt k.bits b).toNat))
    | .andNot=>some (.int k (k.wrap (BitVec.ofInt k.bits a&&&~~~(BitVec.ofInt k.bits b)).toNat))
    | .eql=>some (.bool (a==b))
    | .neq=>some (.bool (a !=b))
    | .lss=>some (.bool (a<b))
    | .leq=>some (.bool (a<=b))
    | .gtr=>some (.bool (a>b))
    | .geq=>some (.bool (a>=b))
    |_=>none
 | .string a,.string b=>
   match op with
   | .add=>if a.size+b.size<=za then some (.string (a++b))else none
   | .eql=>some (.bool (a.toList==b.toList))
   | .neq=>some (.bool !(a.toList==b.toList))
   | .lss=>some (.bool (Op.bytesLess a.toList b.toList))
   | .leq=>some (.bool (Op.bytesLess a.toList b.toList||a.toList==b.toList))
   | .gtr=>some (.bool !(Op.bytesLess a.toList b.toList||a.toList==b.toList))
   | .geq=>some (.bool !Op.bytesLess a.toList b.toList)
   |_=>none
 |_,_=>none
def zp(op:UnOp):Value->Option Value
 | .int k n=>match op with
   | .neg=>some (.int k (k.wrap (0 - n)))
   |_=>none
 | .bool b=>match op with
   | .not=>some (.bool !b)
   |_=>none
 |_=>none
def PV.cells:PV->List PV
 | .agg cs=>cs
 |v=>[v]
def PV.mi:PV->Bool
 | .Ad| .Jc _| .lp ..=>false
 |_=>true
def Hi:List PV->List (Nat×Nat×PV)->Option (List PV)
 |cs,[]=>some cs
 |cs,(o,n,v)::r=>if v.mi=true/\v.cells.length=n/\o+n<=cs.length then Hi (cs.take o++v.cells++cs.drop (o+n)) r else none
def lr:PV->Option Int
 | .flat (.int _ n)=>some n
 |_=>none
def bytesOf:List PV->Option (List UInt8)
 |[]=>some []
 | .flat (.int .u8 n)::r=>if 0<=n/\n<256 then(bytesOf r).map (UInt8.ofNat n.toNat::·)else none
 |_=>none
def Mc:List LK->List PV->List PV->Option Bool
 |[],[],[]=>some true
 | .b::ks,.flat (.bool a)::cs,.flat (.bool b)::c=>(Mc ks cs c).map ((a==b)&& ·)
 | .s::ks,.flat (.string a)::cs,.flat (.string b)::c=>(Mc ks cs c).map ((a==b)&& ·)
 | .i k::ks,.flat (.int d a)::cs,.flat (.int e b)::c=>if d=k/\e=k then(Mc ks cs c).map ((a==b)&& ·)else none
 |_,_,_=>none
def Of(len:Nat)(b a:Option PV):Option (Nat×Nat):=
 (match a with|none=>some len|some h=>(lr h).bind fun h=>if 0<=h/\h<=len then some h.toNat else none).bind fun h=>
 (match b with|none=>some 0|some l=>(lr l).bind fun l=>if 0<=l/\l<=h then some l.toNat else none).map fun l=>(l,h)
def bb:Ea->(X->PV)->Option PV
 | .mv x,ρ| .asg x,ρ=>some (ρ x)
 | .pick c a b,ρ=>match ρ c with| .flat (.bool t)=>some (if t then ρ a else ρ b)|_=>none
 | .bin op x y,ρ=>match ρ x,ρ y with| .flat a,.flat b=>(Uc op a b).map .flat|_,_=>none
 | .beq g x y,ρ=>match ρ x,ρ y with| .flat (.bool a),.flat (.bool b)=>some (.flat (.bool (if g then !(a==b)else a==b)))|_,_=>none
 | .Wl x,ρ=>match ρ x with| .ptr b o=>some (.ptr b o)| .xd cs=>some (.xd cs)| .cb f cs=>some (.cb f cs)| .tag k cs=>some (.tag k cs)| .Oa b=>some (.Oa b)|_=>none
 | .un op x,ρ=>match ρ x with| .flat a=>(zp op a).map .flat|_=>none
 | .conv k x,ρ=>match ρ x with| .flat (.int _ n)=>some (.flat (.int k (k.wrap n)))|_=>none
 | .build zs ps,ρ=>(Hi zs (ps.map fun q=>(q.1,q.2.1,ρ q.2.2))).map .agg
 | .Vm o a,ρ=>match ρ a with| .ptr b h=>some (.ptr b (h+o))| .xd cs=>some (.xd (cs.drop o))|_=>none
 | .Wm true o n x,ρ=>match ρ x with| .agg cs=>if o+n<=cs.length then some (.agg ((cs.drop o).take n))else none|_=>none
 | .Wm false o _ x,ρ=>match ρ x with| .agg cs=>cs[o]?|_=>none
 | .Ji size x i,ρ=>match ρ x,ρ i with
   | .ga n cs,.flat (.int _ i)=>if 0<=i/\i<n then some (.xd (cs.drop (i.toNat* size)))else none
   | .we b o n,.flat (.int _ i)=>if 0<=i/\i<n then some (.ptr b (o+i.toNat* size))else none
   |_,_=>none
 | .jn len size x i,ρ=>match ρ x,ρ i with
   | .ptr b o,.flat (.int _ i)=>if 0<=i/\i<len then some (.ptr b (o+i.toNat* size))else none
   |_,_=>none
 | .Yj agg len size x i,ρ=>match ρ x,ρ i with
   | .agg cs,.flat (.int _ i)=>if 0<=i/\i<len/\i.toNat* size+size<=cs.length then(match agg with|true=>some (.agg ((cs.drop (i.toNat* size)).take size))|false=>cs[i.toNat* size]?)else none
   |_,_=>none
 | .sliceP len size x e d,ρ=>match ρ x with
   | .ptr b o=>(Of len (e.map ρ) (d.map ρ)).map fun q=>.we b (o+q.1* size) (q.2 - q.1)
   |_=>none
 | .idx x i,ρ=>match ρ x,ρ i with| .flat (.string s),.flat (.int _ i)=>if 0<=i then(s[i.toNat]?).map fun c=>.flat (.int .u8 c.toNat)else none|_,_=>none
 | .sliceS x e d,ρ=>match ρ x with
   | .flat (.string s)=>(Of s.size (e.map ρ) (d.map ρ)).map fun q=>.flat (.string (s.extract q.1 q.2))
   |_=>none
 | .slice size x e d,ρ=>match ρ x with
   | .ga n cs=>if cs.length=n* size/\0<size then(Of n (e.map ρ) (d.map ρ)).map fun q=>.ga (q.2 - q.1) ((cs.take (q.2* size)).drop (q.1* size))else none
   | .we b o n=>(Of n (e.map ρ) (d.map ρ)).map fun q=>.we b (o+q.1* size) (q.2 - q.1)
   |_=>none
 | .ext x i,ρ=>match ρ x with| .Jc vs=>vs[i]?|_=>none
 | .len x,ρ=>match ρ x with| .ga n _| .we _ _ n=>some (.flat (.int .i64 n))| .flat (.slice none 0 0)=>some (.flat (.int .i64 0))|_=>none
 | .Vn x,ρ=>match ρ x with| .flat (.string s)=>some (.flat (.int .i64 s.size))|_=>none
 | .Qm g ks x y,ρ=>match ρ x,ρ y with| .agg cs,.agg h=>(Mc ks cs h).map fun t=>.flat (.bool (if g then !t else t))|_,_=>none
 | .Rp x,ρ=>match ρ x with| .flat (.string s)=>some (.flat (.string s))|_=>none
 | .mm h x y,ρ=>match ρ x,ρ y with
   | .flat (.int k a),.flat (.int k' b)=>if k=k' then some (.flat (.int k (if h then(if b>a then b else a)else(if b<a then b else a))))else none
   |_,_=>none
 | .clos f cs,ρ=>some (.cb f (cs.map ρ))
 | .mkt k cs,ρ=>some (.tag k (cs.map ρ))
 |_,_=>none
def Xd(d:Nat):Loc->Bool
 | .slot i=>i==d
 | .cell ..=>false
def Va(d:Nat)(l:List Loc):List Loc:=l.filter fun L=>!Xd d L
def Lb(d:Nat)(l:List (Nat×Loc)):List (Nat×Loc):=l.filter fun p=>p.1 !=d&& !Xd d p.2
def St.put(st:St)(d:Nat)(v:PV):St:={st with sl:=(d,v)::st.sl,ow:=Va d st.ow,al:=Lb d st.al}
def St.Ic(st:St)(d:Nat)(v:PV):St:={st with sl:=(d,v)::st.sl,ow:=.slot d::Va d st.ow,al:=Lb d st.al}
def St.Pd(st:St):Option Nat->PV->St
 |none,_=>st
 |some d,v=>st.put d v
def Od(b o n:Nat):Loc->Bool
 | .slot _=>false
 | .cell a j=>a==b&&o<=j&&j<o+n
abbrev Ye:=List PV×Bool×Na×List Loc
abbrev Callee:=FuncId->List PV->Na->List Loc->Option Ye
def Ba:Loc->Bool
 | .cell ..=>true
 |_=>false
def Rc:List PV->PV
 |[v]=>v
 |vs=>.Jc vs
def Lc(cf:Callee)(st:St)(dst:Option Nat)(f:FuncId)(args:List PV):Option St:=
 (cf f args st.bx (st.ow.filter Ba)).map fun(vs,os,bx,oc)=>
   let st':St:={st with bx,ow:=oc.filter Ba++st.ow.filter (fun L=>!Ba L),al:=st.al.filter fun p=>!Ba p.2}
   match dst with
   |none=>st'
   |some d=>if os then st'.Ic d (Rc vs)else st'.put d (Rc vs)
def Tc(cf:Callee)(st:St)(dst:Option Nat)(f:FuncId)(args:List PV):Option St:=
 if Eb args then
  (cf f args [] []).bind fun(vs,os,_,_)=>if Eb vs then
    (match dst with
     |none=>some st
     |some d=>some (if os then st.Ic d (Rc vs)else st.put d (Rc vs)))else Lc cf st dst f args
 else Lc cf st dst f args
def hb:FuncId:=4611686018427387904
def ab(st:St):Loc->Option PV
 | .slot i=>some (look st.sl i)
 | .cell b j=>(st.bx[b]?).bind fun q=>q.2[j]?
def origin(st:St)(t:Nat):Option Loc:=
 if .slot t∈st.ow then some (.slot t)else(st.al.find? fun p=>p.1==t).map (·.2)
def Ym(agg:Bool)(n:Nat)(p:PV)(bx:Na):Option PV:=match p with
 | .xd cs=>if n<=cs.length then(match agg with|true=>some (.agg (cs.take n))|false=>cs[0]?)else none
 | .ptr b o=>(vd bx b).bind fun q=>if o+n<=q.2.length then(match agg with|true=>some (.agg ((q.2.drop o).take n))|false=>q.2[o]?)else none
 |_=>none
def Dm(p:PV)(bx:Na):Option PV:=match p with
 | .flat (.slice none 0 0)=>some (.flat (.string ⟨#[]⟩))
 | .ga n cs=>if cs.length=n then(bytesOf cs).map fun l=>.flat (.string ⟨l.toArray⟩)else none
 | .we b o n=>(vd bx b).bind fun q=>if o+n<=q.2.length then(bytesOf ((q.2.drop o).take n)).map fun l=>.flat (.string ⟨l.toArray⟩)else none
 |_=>none
def ii(s:ByteArray):List PV:=s.data.toList.map fun b=>.flat (.int .u8 b.toNat)
def ma(cf:Callee)(st:St)(dst:Option Nat)(op:Ea):Option St:=
 match op with
 | .mvA s=>dst.bind fun d=>if s=d then none else some {(st.put d (look st.sl s))with al:=(d,.slot s)::Lb d st.al}
 | .asg (.t s)=>match dst with
   |none=>none
   |some d=>if s=d then none else
    if .slot s∈st.ow then some {st with sl:=(d,look st.sl s)::st.sl,ow:=.slot d::Va s (Va d st.ow),al:=Lb s (Lb d st.al)}else some (st.put d (look st.sl s))
 | .alloc e zs=>dst.map fun d=>{(st.put d (.ptr st.bx.length 0))with bx:=st.bx++[(e,zs.map wk)],ow:=gd st.bx.length 0 zs++Va d st.ow}
 | .box e n x=>dst.bind fun d=>if(x.ev st.sl).mi=true/\(x.ev st.sl).cells.length=n then some {(st.put d (.ptr st.bx.length 0))with bx:=st.bx++[(e,(x.ev st.sl).cells.map wk)],ow:=gd st.bx.length 0 (x.ev st.sl).cells++Va d st.ow}else none
 | .mksl c n size zs ps=>dst.bind fun d=>(Hi zs (ps.map fun q=>(q.1,q.2.1,q.2.2.ev st.sl))).bind fun cs=>if c=true\/size≠1\/td (Dd cs)=true then some (st.Ic d (.ga n (Dd cs)))else none
 | .b2s x=>(Dm (x.ev st.sl) st.bx).map (st.Pd dst)
 | .load agg n a=>dst.bind fun d=>(Ym agg n (a.ev st.sl) st.bx).map (st.put d)
 | .loadA a=>dst.bind fun d=>match a.ev st.sl with
   | .ptr b o=>((vd st.bx b).bind fun q=>q.2[o]?).map fun v=>{(st.put d v)with al:=(d,.cell b o)::Lb d st.al}
   |_=>none
 | .loadM a=>dst.bind fun d=>match a.ev st.sl with
   | .ptr b o=>((vd st.bx b).bind fun q=>q.2[o]?).bind fun v=>if .cell b o∈st.ow then some {(st.put d v)with ow:=.slot d::(Va d st.ow).filter (·≠.cell b o),al:=[]}else none
   |_=>none
 | .store n a x=>match dst,a.ev st.sl with
   |none,.ptr b o=>(vd st.bx b).bind fun q=>if(x.ev st.sl).mi=true/\(x.ev st.sl).cells.length=n/\o+n<=q.2.length then
    let bx:=st.bx.set b (q.1,q.2.take o++(x.ev st.sl).cells.map wk++q.2.drop (o+n))
    let ow:=gd b o (x.ev st.sl).cells++st.ow.filter fun L=>!Od b o n L
    let al:=st.al.filter fun p=>!Od b o n p.2
    match x with
    | .t s=>if .slot s∈st.ow then some {st with bx,ow:=.cell b o::Va s ow,al:=Lb s al}else some {st with bx,ow,al}
    | .c _=>some {st with bx,ow,al}
    else none
   |_,_=>none
 | .append c size x y=>if Ec (x.ev st.sl)then
  (match(y.ev st.sl).ib with
   | .ga m h=>if m<=za/\h.length=m* size/\jm c size [] h=true then dst.map fun d=>if m=0 then st.put d (.flat (.slice none 0 0))else st.Ic d (.ga m h)else none
   |_=>none)
   else match x with
   | .t s=>(origin st s).bind fun L=>dst.bind fun d=>match ab st L,(y.ev st.sl).ib with
     |some (.ga n cs),.ga m h=>if n+m<=za/\cs.length=n* size/\h.length=m* size/\L∈st.ow/\jm c size cs h=true then
      some {st with sl:=(d,.ga (n+m) (cs++h))::st.sl,ow:=.slot d::Va d (st.ow.filter (·≠L)),al:=Lb d (st.al.filter fun p=>p.2≠L)}else none
     |_,_=>none
   |_=>none
 | .appendS x y=>if Ec (x.ev st.sl)then
  (match y.ev st.sl with
   | .flat (.string z)=>if z.size<=za then dst.map fun d=>if z.size=0 then st.put d (.flat (.slice none 0 0))else st.Ic d (.ga z.size (ii z))else none
   |_=>none)
   else match x with
   | .t s=>(origin st s).bind fun L=>dst.bind fun d=>match ab st L,y.ev st.sl with
     |some (.ga n cs),.flat (.string z)=>if n+z.size<=za/\cs.length=n/\L∈st.ow/\pg cs=true then
      some {st with sl:=(d,.ga (n+z.size) (cs++ii z))::st.sl,ow:=.slot d::Va d (st.ow.filter (·≠L)),al:=Lb d (st.al.filter fun p=>p.2≠L)}else none
     |_,_=>none
   |_=>none
 | .call f args=>Tc cf st dst f (args.map fun x=>(x.ev st.sl).ib)
 | .callv g args=>match g.ev st.sl with
   | .cb f Ya=>if f=hb then none else Tc cf st dst f ((args.map fun x=>(x.ev st.sl).ib)++Ya)
   | .tag k cs=>if k % 2=0/\k/2≠hb then Tc cf st dst (k/2) (cs++args.map fun x=>(x.ev st.sl).ib)else none
   | .Oa b=>Lc cf st dst hb (.Oa b::args.map fun x=>(x.ev st.sl).ib)
   |_=>none
 | .calli Ih x args=>match x.ev st.sl with
   | .tag k [v]=>(Ih.lookup k).bind fun f=>if f=hb then none else Tc cf st dst f (v.ib::args.map fun x=>(x.ev st.sl).ib)
   |_=>none
 |op=>(bb op (·.ev st.sl)).map (st.Pd dst)
def fh(st:St):Option (Nat×Bool)->Option Bool
 |none=>some true
 |some (s,a)=>match look st.sl s with
  | .flat (.bool b)=>some (b==a)
  | .Jc []=>some false
  |_=>none
def stepG(cf:Callee)(st:St)(o:Ta):Option St:=(fh st o.g).bind fun b=>if b then ma cf st o.dst o.op else some (st.Pd o.dst (.Jc []))
def Hc(cf:Callee):List Ta->St->Option St
 |[],st=>some st
 |o::r,st=>(stepG cf st o).bind (Hc cf r)
def yj(cf:Callee)(f:FuncId)(args:List PV):Bool:=Eb args&&match cf f args [] []with
 |some (vs,_)=>Eb vs
 |none=>false
def jb(cf:Callee)(sl:List (Nat×PV)):Ea->Bool
 | .call f args=>yj cf f (args.map fun x=>(x.ev sl).ib)
 | .callv g args=>match g.ev sl with
   | .cb f Ya=>f !=hb&&yj cf f ((args.map fun x=>(x.ev sl).ib)++Ya)
   |_=>false
 | .alloc _ zs=>Xl zs
 | .box _ _ x=>Xl (x.ev sl).cells
 | .calli ..=>false
 |_=>true
def ce(cf:Callee)(st:St)(o:Ta):Option St:=(fh st o.g).bind fun b=>if b then(if jb cf st.sl o.op then ma cf st o.dst o.op else none)else some (st.Pd o.dst (.Jc []))
def tg(cf:Callee):List Ta->St->Option St
 |[],st=>some st
 |o::r,st=>(ce cf st o).bind (tg cf r)
open Classical in
noncomputable def same{α:Type}(a b:Option α):Option α:=if a=b then a else none
inductive Out where
 | normal
 | exit (id:Nat)
 | ret
def St.Jr(st:St)(live:List Nat)(nb:Nat):St:=
 let bx:=trim nb (live.map (look st.sl)) st.bx
 {sl:=live.map fun i=>(i,look st.sl i),ow:=(live.filter fun i=>decide (.slot i∈st.ow)).map .slot++st.ow.filter (fun| .slot _=>false| .cell b _=>decide (b<bx.length)),al:=[],bx}
def St.sr(st:St)(live:List Nat):St:=
 {sl:=live.map fun i=>(i,look st.sl i),ow:=(live.filter fun i=>decide (.slot i∈st.ow)).map .slot++st.ow.filter Ba,al:=[],bx:=st.bx}
def St.ik(st:St)(live:List Nat):St:={st with sl:=st.sl.map fun q=>(q.1,wk q.2),ow:=((live.filter fun i=>Ec (look st.sl i)).map .slot)++st.ow}
def St.only(st:St)(live:List Nat)(nb:Nat):St:=(st.ik live).Jr live nb
def St.Gf(st:St)(live:List Nat):St:=(st.ik live).sr live
def St.Ei(st:St)(nb:Nat):St:=
 let bx:=trim nb (st.sl.map (·.2)) st.bx
 {st with bx,ow:=if bx.length=st.bx.length then st.ow else st.ow.filter (fun| .slot _=>true| .cell b _=>decide (b<bx.length)),al:=[]}
open Classical in
noncomputable def Qc(cf:Callee)(st:St)(o:Ta):Option St:=match o.op,o.dst with
 | .call _ _,some d=>(stepG cf st o).bind fun s'=>if s'.bx=st.bx/\s'.ow.filter Ba=st.ow.filter Ba then some (st.put d (look s'.sl d))else none
 |_,_=>stepG cf st o
noncomputable def bg(cf:Callee):List Ta->St->Option St
 |[],st=>some st
 |o::r,st=>(Qc cf st o).bind (bg cf r)
noncomputable def yd(cf:Callee)(live:List Nat):BT->St->Option St
 | .done,st=>some (st.Gf live)
 | .one o t,st=>(stepG cf st o).bind (yd cf live t)
 | .two o t r,st=>same ((stepG cf st o).bind (yd cf live t)) (yd cf live r st)
def Cc(body:St->Option (Out×St))(live:List Nat)(nb:Nat):Nat->St->Option (Out×St)
 |0,_=>none
 |n+1,st=>(body st).bind fun
  |(.normal,st')=>Cc body live nb n (st'.only live nb)
  |r=>some r
def Ok(cf:Callee)(f k:Nat)(live:List Nat)(g:PV)(st:St):Option (Out×St):=match g with
 | .cb h Ya=>if h=hb then none else
   (Lc cf {st with bx:=st.bx++[(0,[.lp f k .ready live (live.map (look st.sl))])]} none h (.Oa st.bx.length::Ya)).bind fun a=>
     match a.bx[st.bx.length]? with
     |some (_,[.lp f' k' s live' snap'])=>
      let b:St:={a with bx:=a.bx.set st.bx.length (0,[.lp f' k' .over live' snap'])}
      match s with
      | .ready=>some (.normal,b)
      | .done (.exit i)=>some (.exit i,b)
      | .done .ret=>some (.ret,b)
      |_=>none
     |_=>none
 |_=>none
noncomputable def oa(cf:Callee)(n:Nat):ka->St->Option (Out×St)
 | .skip,st=>some (.normal,st)
 | .kb live pre d,st=>((tg cf pre st).bind (Hc cf d)).map fun st=>(.normal,st.Gf live)
 | .jg live pre t,st=>((bg cf pre st).bind (yd cf live t)).map fun st=>(.normal,st)
 | .seq a b,st=>(oa cf n a st).bind fun
   |(.normal,st')=>oa cf n b st'
   |r=>some r
 | .cond c a b,st=>match c.ev st.sl with
   | .flat (.bool t)=>if t then oa cf n a st else oa cf n b st
   |_=>none
 | .block id b,st=>(oa cf n b st).map fun
   |(.exit j,st')=>if j=id then(.normal,st'.Ei st.bx.length)else(.exit j,st')
   |(.normal,st')=>(.normal,st'.Ei st.bx.length)
   |r=>r
 | .loop live b,st=>Cc (oa cf n b) live st.bx.length n (st.only live st.bx.length)
 | .range f k live g,st=>Ok cf f k live (g.ev st.sl) st
 | .exit id live,st=>some (.exit id,st.Gf live)
 | .ret live,st=>some (.ret,st.Gf live)
structure na where
 nt:Nat
 ub:List (Sum Nat (Nat × Bool × Nat))
 body:ka
 oo:List (List Nat × ka × ka)
def Bj(st:St):Sum Nat (Nat×Bool×Nat)->Option PV
 | .inl i=>some (look st.sl i)
 | .inr (i,agg,n)=>match look st.sl i with
   | .ptr b o=>match vd st.bx b with
     |some q=>if o+n<=q.2.length then(if agg then some (.agg ((q.2.drop o).take n))else q.2[o]?)else none
     |none=>none
   |_=>none
def Bh:Nat->List PV->List (Nat×PV)
 |_,[]=>[]
 |i,v::r=>(i,v)::Bh (i+1) r
def jo(rs:List (Sum Nat (Nat×Bool×Nat)))(ow:List Loc):Bool:=match rs with
 |[.inl s]=>decide (.slot s∈ow)
 |_=>false
def Th(n:Nat)(ow:List Loc):List Loc:=ow.filter fun| .slot _=>false| .cell b _=>decide (b<n)
noncomputable def Jl(cf:Callee)(code:FuncId->Option na)(n:Nat)(args:List PV)(bx:Na)(oc:List Loc):Option Ye:=match args with
 | .Oa b::az=>match bx[b]? with
   |some (_,[.lp f k .ready live e])=>(code f).bind fun c=>(c.oo[k]?).bind fun q=>
    if az.length=q.1.length then
     (oa cf n q.2.1 {sl:=(q.1.zip az).foldl (fun l p=>p::l) (live.zip e),ow:=oc,al:=[],bx}).bind fun(o1,s1)=>
       match o1,s1.bx[b]? with
       | .normal,some (_,[.lp g h .ready a d])=>
         (oa cf n q.2.2 {s1 with bx:=s1.bx.set b (0,[.lp g h .busy a d])}).bind fun(o,st)=>
           match st.bx[b]? with
           |some (_,[.lp f' k' .busy live' snap'])=>
            let r:yq×Bool:=match o with
             | .normal=>(.ready,true)
             | .exit i=>(.done (.exit i),false)
             | .ret=>(.done .ret,false)
            let bx':=trim bx.length [.flat (.bool r.2)] (st.bx.set b (0,[.lp f' k' r.1 live' snap']))
            some ([.flat (.bool r.2)],false,bx',Th bx'.length st.ow)
           |_=>none
       |_,_=>none
    else none
   |_=>none
 |_=>none
noncomputable def Df(code:FuncId->Option na)(lib:Callee):Nat->Callee
 |0,_,_,_,_=>none
 |n+1,f,args,bx,oc=>match code f with
  |none=>if f=hb then Jl (Df code lib n) code n args bx oc else lib f args bx oc
  |some c=>
   if args.length<=c.nt then
    (oa (Df code lib n) n c.body {sl:=Bh 0 args,ow:=oc,al:=[],bx}).bind fun(o,st)=>
      match o with
      | .exit _=>none
      |_=>(c.ub.mapM (Bj st)).map fun vs=>
       (vs,jo c.ub st.ow,trim bx.length vs st.bx,Th (trim bx.length vs st.bx).length st.ow)
   else none
def Row(w:World)(Fr:Nat->Nat)(g o:Nat)(vs:List Value):Prop:=∀(j:Nat)(v:Value),vs[j]?=some v->o+j<Fr g/\w.cell? ⟨g,o+j,none⟩=some v
def fd(vs:List Value):Prop:=∀v∈vs,v.oneCell'=true
def uo(k:Nat)(vs:List Value):Value:=if k % 2=0 then .func (.func (k/2)) vs.toArray #[]else .iface (k/2) (vs.headD undef)
def zgb(k)(vs):uo k vs=.func (.func (k/2)) vs.toArray #[]\/uo k vs=.iface (k/2) (vs.headD undef):=by unfold uo;split;exact .inl rfl;exact .inr rfl
mutual
def Rd(w:World)(Fr:Nat->Nat)(β:List Nat):PV->Value->Prop
 | .Ad,_=>True
 | .flat a,v=>v=a/\yc a=true
 | .ga n cs,v=>∃a c,v=.slice a n c/\n<=c/\((cs=[]/\n=0)\/∃g o vs,a=some ⟨g,o,none⟩/\Row w Fr g o vs/\ra w Fr β cs vs/\fd vs)
 | .agg cs,v=>∃vs,v=.agg vs.toArray/\ra w Fr β cs vs/\fd vs
 | .Jc cs,v=>∃vs,v=.tuple vs.toArray/\ra w Fr β cs vs
 | .ptr b o,v=>∃g,β[b]?=some g/\v=.pointer (some ⟨g,o,none⟩)
 | .xd cs,v=>∃g o vs,v=.pointer (some ⟨g,o,none⟩)/\Row w Fr g o vs/\ra w Fr β cs vs/\fd vs
 | .cb f Ya,v=>∃vs,v=.func (.func f) #[] vs.toArray/\ra w Fr β Ya vs
 | .tag k cs,v=>∃vs,v=uo k vs/\ra w Fr β cs vs
 | .Oa b,v=>∃g,β[b]?=some g/\v=.func (.yield g) #[] #[]
 | .we b d n,v=>∃g a c,β[b]?=some g/\v=.slice a n c/\n<=c/\(n=0\/a=some ⟨g,d,none⟩)
 | .lp _ _ _ _ _,_=>False
def ra(w:World)(Fr:Nat->Nat)(β:List Nat):List PV->List Value->Prop
 |[],vs=>vs=[]
 |p::ps,vs=>∃v r,vs=v::r/\Rd w Fr β p v/\ra w Fr β ps r
end
structure Le (w:World) (Fr:Nat→Nat) (β:List Nat) (w':World) (Fr':Nat→Nat) (β':List Nat):Prop where
 size:w.heap.size≤w'.heap.size
 fr:∀ b,b<w.heap.size→Fr b≤Fr' b
 cell:∀ b o,b<w.heap.size→o<Fr b→w'.cell? ⟨b,o,none⟩=w.cell? ⟨b,o,none⟩
 box:∀ i g:Nat,β[i]? =some g→β'[i]? =some g
 lp:∀ (g:Nat) (r:Loop),w.heap[g]? =some (Obj.loop r)→∃ r':Loop,w'.heap[g]? =some (Obj.loop r')
theorem Le.refl(w)(Fr)(β):Le w Fr β w Fr β:=⟨Aa _,fun _ _=>Aa _,fun _ _ _ _=>rfl,fun _ _ h=>h,fun _ r h=>⟨r,h⟩⟩
theorem Le.trans{w w' e}{Fr Fr' a}{β β' c}(h:Le w Fr β w' Fr' β')(k:Le w' Fr' β' e a c):Le w Fr β e a c:=
 ⟨Vf h.size k.size,fun b d=>Vf (h.fr b d) (k.fr b (Ug d h.size)),fun b o d j=>(k.cell b o (Ug d h.size) (Ug j (h.fr b d))).trans (h.cell b o d j),fun i g n=>k.box i g (h.box i g n),fun g r hr=>by obtain⟨r1,l⟩:=h.lp g r hr;exact k.lp g r1 l⟩
section
variable {w w':World} {Fr Fr':Nat→Nat} {β β':List Nat}
def Row.mono(d:Le w Fr β w' Fr' β'){g o}{vs}(h:Row w Fr g o vs):Row w' Fr' g o vs:=fun j v e=>by
 obtain⟨a,b⟩:=h j v e;have c:g<w.heap.size:=eu w _ b;exact⟨Ug a (d.fr g c),(d.cell g _ c a).trans b⟩
mutual
theorem Rd.mono(d:Le w Fr β w' Fr' β'):∀(p:PV)(v:Value),Rd w Fr β p v->Rd w' Fr' β' p v
 | .Ad,_,h=>by simp[Rd]
 | .flat a,v,h=>by grind [Rd]
 | .ga n cs,v,h=>by
   obtain⟨a,i,c,e,k⟩:=h;refine⟨a,i,c,e,k.imp id ?_⟩;rintro⟨g,o,vs,l,hr,hs,j⟩;exact⟨g,o,vs,l,hr.mono d,ra.mono d cs vs hs,j⟩
 | .agg cs,v,h=>by
   obtain⟨vs,c,hs,j⟩:=h;exact⟨vs,c,ra.mono d cs vs hs,j⟩
 | .Jc cs,v,h=>by
   obtain⟨vs,c,hs⟩:=h;exact⟨vs,c,ra.mono d cs vs hs⟩
 | .ptr b o,v,h=>by
   obtain⟨g,c,e⟩:=h;exact⟨g,d.box _ _ c,e⟩
 | .xd cs,v,h=>by
   obtain⟨g,o,vs,c,hr,hs,j⟩:=h;exact⟨g,o,vs,c,hr.mono d,ra.mono d cs vs hs,j⟩
 | .cb f Ya,v,h=>by
   obtain⟨vs,c,hs⟩:=h;exact⟨vs,c,ra.mono d Ya vs hs⟩
 | .tag f Ya,v,h=>by
   obtain⟨vs,c,hs⟩:=h;exact⟨vs,c,ra.mono d Ya vs hs⟩
 | .Oa b,v,h=>by
   obtain⟨g,c,e⟩:=h;exact⟨g,d.box _ _ c,e⟩
 | .we b l n,v,h=>by
   obtain⟨g,a,i,c,e⟩:=h;exact⟨g,a,i,d.box _ _ c,e⟩
 | .lp _ _ _ _ _,v,h=>by grind [Rd]
theorem ra.mono(d:Le w Fr β w' Fr' β'):∀(ps:List PV)(vs:List Value),ra w Fr β ps vs->ra w' Fr' β' ps vs
 |[],_,h=>by grind [ra]
 |p::ps,vs,h=>by
  obtain⟨v,r,c,e,k⟩:=h;exact⟨v,r,c,Rd.mono d p v e,ra.mono d ps r k⟩
end
theorem ra.length:∀{ps}{vs},ra w Fr β ps vs->vs.length=ps.length
 |[],_,h=>by grind [ra]
 |p::ps,vs,h=>by
  obtain⟨v,r,a,c,b⟩:=h;rw[a,sa,sa,ra.length b]
theorem ra.get:∀{ps}{vs},ra w Fr β ps vs->∀(j:Nat)(p),ps[j]?=some p->∃v,vs[j]?=some v/\Rd w Fr β p v
 |[],_,h,j,p,a=>by grind
 |p::ps,vs,h,0,q,a=>by
  grind [ra]
 |p::ps,vs,h,j+1,q,a=>by
  obtain⟨v,r,c,d,b⟩:=h;obtain⟨u,e,g⟩:=ra.get b j q a
  grind
theorem ra.take:∀{ps}{vs}(k),ra w Fr β ps vs->ra w Fr β (ps.take k) (vs.take k)
 |[],_,k,h=>by grind [ra]
 |p::ps,vs,0,h=>by rfl
 |p::ps,vs,k+1,h=>by
  obtain⟨v,r,a,b,c⟩:=h;rw[a,dx,dx];exact⟨v,_,rfl,b,ra.take k c⟩
theorem ra.drop:∀{ps}{vs}(k),ra w Fr β ps vs->ra w Fr β (ps.drop k) (vs.drop k)
 |[],_,k,h=>by grind [ra]
 |p::ps,vs,0,h=>by grind
 |p::ps,vs,k+1,h=>by
  obtain⟨v,r,a,c,b⟩:=h;rw[a,lm,lm];exact ra.drop k b
theorem ra.append:∀{ps qs}{vs us},ra w Fr β ps vs->ra w Fr β qs us->ra w Fr β (ps++qs) (vs++us)
 |[],qs,vs,us,h,k=>by grind [ra]
 |p::ps,qs,vs,us,h,k=>by
  obtain⟨v,r,a,b,c⟩:=h;rw[a,Fa,Fa];exact⟨v,_,rfl,b,ra.append c k⟩
end
theorem fd.take{vs}(h:fd vs)(k):fd (vs.take k):=fun v a=>h v (nB a)
theorem fd.drop{vs}(h:fd vs)(k):fd (vs.drop k):=fun v a=>h v (List.mem_of_mem_drop a)
def fd.append{vs us}(h:fd vs)(k:fd us):fd (vs++us):=fun v a=>(We.1 a).elim (h v) (k v)
theorem Row.drop{w}{Fr}{g o}{vs}(h:Row w Fr g o vs)(k):Row w Fr g (o+k) (vs.drop k):=fun j v a=>by
 rw[lg]at a;have:=h (k+j) v a
 grind
theorem Row.take{w}{Fr}{g o}{vs}(h:Row w Fr g o vs)(k):Row w Fr g o (vs.take k):=fun j v a=>by
 rw[List.getElem?_take]at a;split at a
 ·exact h j v a
 grind
def U8(P:Program):TypeId:=((List.range P.types.size).find? fun t=>match P.underlying t with|some (.int .u8)=>true|_=>false).getD 0
def og(P:Program)(w:World)(Fr:Nat->Nat)(p:PV)(v:Value):Prop:=∃n cs,p=.ga n cs/\(v=.slice none 0 0\/
 ∃g a b e c,v=.slice (some ⟨g,0,none⟩) n a/\w.heap[g]?=some (.cells b e (0,0))/\n<=a/\a<=maxLen/\b.size=a* c/\Fr g=cs.length/\cs.length=n* c/\(n=0->a=0)/\(c=1->td cs=true\/e=U8 P))
def Ga(a:Act)(w:World)(β:List Nat):Loc->Option Value
 | .slot i=>some (a.tmps.getD i undef)
 | .cell b j=>(β[b]?).bind fun g=>w.cell? ⟨g,j,none⟩
def Vb:Code->List (Operand×Array Tmp×Code×Code)
 | .seq a b=>Vb a++Vb b
 | .cond _ a b=>Vb a++Vb b
 | .block _ b| .loop b| .scope b=>Vb b
 | .rangeFunc g ps az b=>(g,ps,az,b)::(Vb az++Vb b)
 |_=>[]
def ol(P:Program)(f k:Nat):Option (Operand×Array Tmp×Code×Code):=((P.funcs[f]?).bind (·.body)).bind fun c=>(Vb c)[k]?
def zx.code:zx->Code
 | .exit i=>.exit i
 | .ret=>.ret
def yq.of:yq->Loop->Prop
 | .ready,r=>r.state=.ready/\r.pending=none
 | .busy,r=>r.state=.busy
 | .done j,r=>r.state=.done/\r.pending=some j.code
 | .over,_=>True
def ms(P:Program)(w:World)(Fr:Nat->Nat)(β:List Nat)(f k:Nat)(s:yq)(live:List Nat)(a:List PV)(g:Nat):Prop:=
 ∃r,w.heap[g]?=some (Obj.loop r)/\(∃fn,P.funcs[f]?=some fn/\r.tmps.size=fn.ntmps)/\(∃x,ol P f k=some (x,r.params,r.assign,r.body))/\s.of r/\∀i,Rd w Fr β (look (live.zip a) i) (r.tmps.getD i undef)
def Dk(P:Program)(w:World)(Fr:Nat->Nat)(β:List Nat)(q:Nat×List PV)(g:Nat):Prop:=
 (∃vs e,w.heap[g]?=some (.cells vs.toArray e (0,0))/\ra w Fr β q.2 vs/\fd vs/\q.1=e)\/∃f k s live a,q.2=[.lp f k s live a]/\ms P w Fr β f k s live a g
def Cl(P:Program)(w:World)(Fr:Nat->Nat)(β:List Nat)(bx:Na):Prop:=bx.length=β.length/\
 ∀(b:Nat)(cs:Nat×List PV),bx[b]?=some cs->∃g,β[b]?=some g/\Fr g=0/\Dk P w Fr β cs g
section
variable {P:Program} {w w':World} {Fr Fr':Nat→Nat} {β β':List Nat} {bx:Na}
theorem Cl.cells(h:Cl P w Fr β bx){b}{q}(j:vd bx b=some q):bx[b]?=some q/\nr q.2=false/\∃g vs e,β[b]?=some g/\w.heap[g]?=some (.cells vs.toArray e (0,0))/\ra w Fr β q.2 vs/\fd vs/\Fr g=0/\q.1=e:=by
 obtain⟨t,c,a⟩:=qb j;split at a
 ·cases a
 ·cases a
  obtain⟨g,n,o,d⟩:=h.2 b q c;refine⟨c,la,?_⟩;rcases d with⟨vs,e,d,p,r,l⟩|⟨f,k,s,live,i,l,_⟩
  ·grind
  ·grind [nr]
theorem Dk.block{cs}{g}(h:Dk P w Fr β cs g):∃o,w.heap[g]?=some o/\∀b,o≠.deferred b:=by
 rcases h with⟨vs,e,h,_⟩|⟨f,k,s,live,a,_,r,h,_⟩
 ·grind
 grind
def Dk.kept{cs}{g}(h:Dk P w Fr β cs g)(l:Le w Fr β w' Fr' β')(j:w'.heap[g]?=w.heap[g]?):Dk P w' Fr' β' cs g:=by
 rcases h with⟨vs,e,b,c,d⟩|⟨f,k,s,live,a,n,r,b,c,d,o,p⟩
 ·exact .inl ⟨vs,e,j.trans b,c.mono l,d⟩
 ·exact .inr ⟨f,k,s,live,a,n,r,j.trans b,c,d,o,fun i=>(p i).mono l⟩
def Cl.at(h:Cl P w Fr β bx){g}(c:g∈β):∃o,w.heap[g]?=some o/\∀b,o≠.deferred b:=by
 obtain⟨i,d⟩:=List.getElem?_of_mem c;have a:i<bx.length:=by rw[h.1];exact(qg d).1
 obtain⟨e,j,_,k⟩:=h.2 i _ (qe a)
 grind [Dk.block]
theorem Cl.lt(h:Cl P w Fr β bx){g}(a:g∈β):g<w.heap.size:=by
 obtain⟨o,b,_⟩:=h.at a
 grind
theorem Cl.kept(h:Cl P w Fr β bx)(j:Le w Fr β w' Fr' β)(i:∀g∈β,w'.heap[g]?=w.heap[g]?/\Fr' g=Fr g):Cl P w' Fr' β bx:=by
 refine⟨h.1,fun b cs a=>?_⟩;obtain⟨g,c,d,e⟩:=h.2 b cs a;obtain⟨k,l⟩:=i g (di c);exact⟨g,c,l.trans d,e.kept j k⟩
end
def mark(D:Nat):Deferred:={target:=.collected D,args:=#[]}
def Marks(T:List Deferred)(base:Nat)(w:World)(b:List Deferred):Prop:=∃a:List Nat,a.Nodup/\b=a.map mark++T/\∀D∈a,base<=D/\w.heap[D]?=some (.deferred (some []))
structure Rel (P:Program) (T:List Deferred) (base:Nat) (M:Nat→Prop) (w0:World) (F0:Nat→Nat) (nt:Nat) (st:St) (a:Act) (w:World) (Fr:Nat→Nat) (β:List Nat):Prop where
 sl:∀ i,Rd w Fr β (look st.sl i) (a.tmps.getD i undef)
 nt:a.tmps.size=nt
 df:Marks T base w a.defers
 bx:Cl P w Fr β st.bx
 nd:β.Nodup
 own:∀ L∈st.ow,∃ v p,Ga a w β L=some v∧ab st L=some p∧og P w Fr p v
 sep:∀ L∈st.ow,∀ L'∈st.ow,L≠L'→∀ v v' g,Ga a w β L=some v→Ga a w β L'=some v'→v.ownBlock=some g→v'.ownBlock≠some g
 out:∀ L∈st.ow,∀ v g,Ga a w β L=some v→v.ownBlock=some g→g ∉ β
 al:∀ p∈st.al,Ga a w β p.2=some (a.tmps.getD p.1 undef)
 may:∀ g,(g∈β∨∃ L∈st.ow,∃ v,Ga a w β L=some v∧v.ownBlock=some g)→base≤g∨M g
 old:∀ b,b<base→¬ M b→w.heap[b]? =w0.heap[b]? ∧Fr b=F0 b
 ge:base≤w.heap.size
 os:w.os=w0.os
 tape:w.tape=w0.tape
 output:w.output=w0.output
theorem og.lt{P}{w}{Fr}{p}{v}(h:og P w Fr p v){g}(a:v.ownBlock=some g):g<w.heap.size:=by
 obtain⟨n,cs,_,h|⟨i,b,c,e,k,d,j,_⟩⟩:=h
 ·subst h;cases a
 ·subst d;cases a
  grind
def Rel.next{P}{T}{base nt}{M}{w0 w w'}{F0}{st st'}{a a'}{Fr Fr'}{β β'}(R:Rel P T base M w0 F0 nt st a w Fr β)(hlZ:Le w Fr β w' Fr' β')
 (hsl:∀i,Rd w' Fr' β' (look st'.sl i) (a'.tmps.getD i undef)) (hnt:a'.tmps.size=nt) (Z:a'.defers=a.defers) (Y:Cl P w' Fr' β' st'.bx) (hnd:β'.Nodup) (N:∀g∈β',g∈β\/w.heap.size<=g)
 (l:Loc->Option Loc)
 (j:∀L∈st'.ow,∃v p,Ga a' w' β' L=some v/\ab st' L=some p/\og P w' Fr' p v/\
   (∀g,v.ownBlock=some g->(w.heap.size<=g/\g∉β'/\l L=none)\/∃c∈st.ow,l L=some c/\∃v0,Ga a w β c=some v0/\v0.ownBlock=some g))
 (J:∀L∈st'.ow,∀x∈st'.ow,L≠x->∀c,l L=some c->l x≠some c)
 (Q:∀L∈st'.ow,∀x∈st'.ow,L≠x->l L=none->l x=none->∀v v'Z g,Ga a' w' β' L=some v->Ga a' w' β' x=some v'Z->v.ownBlock=some g->v'Z.ownBlock≠some g)
 (X:∀p∈st'.al,Ga a' w' β' p.2=some (a'.tmps.getD p.1 undef))
 (r:∀b,b<w.heap.size->b∉β->(∀L∈st.ow,∀v,Ga a w β L=some v->v.ownBlock≠some b)->w'.heap[b]?=w.heap[b]?/\Fr' b=Fr b) (hos:w'.os=w.os) (C:w'.tape=w.tape) (K:w'.output=w.output):Rel P T base M w0 F0 nt st' a' w' Fr' β':=by
 have fa:∀c∈st.ow,∀v0 g,Ga a w β c=some v0->v0.ownBlock=some g->g<w.heap.size:=fun c h0Z v0 g t d=>by
  obtain⟨v,p,k,h2Z,O⟩:=R.own c h0Z;rw[t]at k;cases k;exact O.lt d
 have z:∀b,b<base->¬M b->w'.heap[b]?=w.heap[b]?/\Fr' b=Fr b:=fun b y B=>
  r b (Ug y R.ge) (fun h=>(R.may b (.inl h)).elim (fun h=>by omega) B) fun L q v t d=>(R.may b (.inr ⟨L,q,v,t,d⟩)).elim (fun h=>by omega) B
 have I:Marks T base w' a'.defers:=by
  obtain⟨DsZ,k,h2Z,O⟩:=R.df;refine⟨DsZ,k,Z.trans h2Z,fun D hDZ=>⟨(O D hDZ).1,?_⟩⟩;have A:=(O D hDZ).2;rw[(r D (Nh.1 A).1 (fun h=>?_) fun L q v t d=>?_).1]
  ·exact A
  ·obtain⟨o,W,k2Z⟩:=R.bx.at h
   grind
  ·obtain⟨u,p,W,_,n,cs,_,k2Z⟩:=R.own L q
   rw[t]at W;cases W;rcases k2Z with rfl|⟨g'Z,cap,cur,e,szZ,rfl,k3Z,_⟩
   ·cases d
   ·cases d;rw[A]at k3Z;cases k3Z
 refine⟨hsl,hnt,I,Y,hnd,fun L q=>?_,fun L q x H hne v v'Z g t hv' d hg'=>?_,fun L q v g t d y=>?_,X,fun g d=>?_,fun b y B=>⟨(z b y B).1.trans (R.old b y B).1,(z b y B).2.trans (R.old b y B).2⟩,Vf R.ge hlZ.size,hos.trans R.os,C.trans R.tape,K.trans R.output⟩
 ·grind
 ·obtain⟨u,p,k,_,_,G⟩:=j L q
  obtain⟨u'Z,p'Z,A,_,_,W⟩:=j x H;rw[t]at k;cases k;rw[hv']at A;cases A;rcases G g d with⟨S,U,a3⟩|⟨c,b1,V,v0,E,F⟩
  ·grind
  ·rcases W g hg' with⟨c1,c2,c3⟩|⟨L1Z,d1Z,d2Z,v1Z,d3Z,d4Z⟩
   ·have:=fa c b1 v0 g E F;omega
   ·by_cases heZ:c=L1Z
    ·subst heZ;exact J L q x H hne c V d2Z
    ·exact R.sep c b1 L1Z d1Z heZ v0 v1Z g E d3Z F d4Z
 ·obtain⟨u,p,k,_,_,G⟩:=j L q
  rw[t]at k;cases k;rcases G g d with⟨S,U,a3⟩|⟨c,b1,V,v0,E,F⟩
  ·exact U y
  ·rcases N g y with h|h
   ·exact R.out c b1 v0 g E F h
   grind
 ·have fin:∀g,w.heap.size<=g->base<=g\/M g:=fun g h=>.inl (Vf R.ge h)
  rcases d with d|⟨L,q,v,t,d⟩
  ·rcases N g d with h|h
   ·exact R.may g (.inl h)
   ·exact fin g h
  ·obtain⟨u,p,k,_,_,G⟩:=j L q
   rw[t]at k;cases k;rcases G g d with⟨S,U,a3⟩|⟨c,b1,V,v0,E,F⟩
   ·exact fin g S
   ·exact R.may g (.inr ⟨c,b1,v0,E,F⟩)
theorem aw{d}{L}(h:Xd d L=false):L≠.slot d:=by grind [Xd]
theorem Ul{d}{l}{L}:L∈Va d l ↔ L∈l/\Xd d L=false:=by simp[Va]
def Ar{d}{l}{p}:p∈Lb d l ↔ p∈l/\p.1≠d/\Xd d p.2=false:=by simp[Lb]
theorem Qk(a:Act)(d)(v)(i)(b:d<a.tmps.size):(a.put (some d) v).tmps.getD i undef=if d=i then v else a.tmps.getD i undef:=by
 simp only[Act.put,yo,Array.getElem?_setIfInBounds]
 grind
theorem km{a}{w}{β}{d}{v}{L}(b:d<a.tmps.size)(h:Xd d L=false):Ga (a.put (some d) v) w β L=Ga a w β L:=by
 cases L<;>grind [Xd,Ga,Qk]
def EA{st}{d}{p}{L}(h:Xd d L=false):ab {st with sl:=(d,p)::st.sl} L=ab st L:=by
 cases L<;>grind [Xd,ab,look]
theorem IU{st st'}{L}(h:st'.sl=st.sl)(a:st'.bx=st.bx):ab st' L=ab st L:=by cases L<;>simp[ab,h,a]
theorem size_put(a:Act)(d:Option Nat)(v):(a.put d v).tmps.size=a.tmps.size:=by cases d<;>simp[Act.put]
theorem Om(a:Act)(d:Option Nat)(v):(a.put d v).defers=a.defers:=by cases d<;>simp[Act.put]
theorem me(d)(p)(l)(i):look ((d,p)::l) i=if d=i then p else look l i:=rfl
section
variable {P:Program} {T:List Deferred} {base nt:Nat} {M:Nat→Prop} {w0 w w':World} {F0:Nat→Nat} {st st':St} {a a':Act} {Fr Fr':Nat→Nat} {β β':List Nat}
def UA(R:Rel P T base M w0 F0 nt st a w Fr β)(b:Le w Fr β w' Fr' β'){d}(e:d<nt){p}{v}(c:Rd w' Fr' β' p v)(i):
 Rd w' Fr' β' (look ((d,p)::st.sl) i) ((a.put (some d) v).tmps.getD i undef):=by
 rw[Qk a d v i (by grind [Rel.nt]),me];split
 ·exact c
 ·exact(R.sl i).mono b
theorem Rel.put(R:Rel P T base M w0 F0 nt st a w Fr β){d}(k:d<nt){p}{v}(t:Rd w Fr β p v):Rel P T base M w0 F0 nt (st.put d p) (a.put (some d) v) w Fr β:=by
 have b:d<a.tmps.size:=by rw[R.nt];exact k
 refine R.next (Le.refl _ _ _) (UA R (Le.refl _ _ _) k t) (by grind [size_put,nt]) (Om _ _ _) R.bx R.nd (fun g h=>.inl h) some (fun L o=>?_) (fun L _ l _ j A h B=>j la) (fun L _ l _ _ h=>by cases h) (fun q r=>?_) (fun _ _ _ _=>⟨rfl,rfl⟩) rfl rfl rfl
 ·obtain⟨c,i⟩:=Ul.1 o
  obtain⟨u,q,x,y,z⟩:=R.own L c;exact⟨u,q,by grind [km],(EA i).trans y,z,fun g n=>.inr ⟨L,c,rfl,u,x,n⟩⟩
 ·obtain⟨c,i,n⟩:=Ar.1 r
  rw[km b n,Qk a d v _ b,if_neg (fun e=>i e.symm)];exact R.al q c
def Rel.HU(R:Rel P T base M w0 F0 nt st a w Fr β){d}(g:d<nt){p}{v}(k:Rd w Fr β p v){L}(i:Xd d L=false)(j:Ga a w β L=some v):Rel P T base M w0 F0 nt {(st.put d p)with al:=(d,L)::Lb d st.al} (a.put (some d) v) w Fr β:=by
 have b:=R.put g k;have c:d<a.tmps.size:=by rw[R.nt];exact g
 refine⟨b.sl,b.nt,b.df,b.bx,b.nd,fun K h=>?_,b.sep,b.out,fun q e=>?_,b.may,b.old,b.ge,b.os,b.tape,b.output⟩
 ·obtain⟨u,q,l,n,o⟩:=b.own K h
  grind [IU]
 ·rcases wb.1 e with rfl|e
  ·rw[km c i,j,Qk a d v _ c,if_pos rfl]
  ·exact b.al q e
def Rel.move(R:Rel P T base M w0 F0 nt st a w Fr β){d s}(l:d<nt)(A:s≠d)(hs:Loc.slot s∈st.ow):
 Rel P T base M w0 F0 nt {st with sl:=(d,look st.sl s)::st.sl,ow:=.slot d::Va s (Va d st.ow),al:=Lb s (Lb d st.al)} (a.put (some d) (a.tmps.getD s undef)) w Fr β:=by
 have b:d<a.tmps.size:=by rw[R.nt];exact l
 refine R.next (Le.refl _ _ _) (UA R (Le.refl _ _ _) l (R.sl s)) (by grind [size_put,nt]) (Om _ _ _) R.bx R.nd (fun g h=>.inl h) (fun L=>some (if L=.slot d then .slot s else L)) (fun L c=>?_) (fun L c r v y B h C=>?_) (fun L _ r _ _ h=>by cases h) (fun q z=>?_) (fun _ _ _ _=>⟨rfl,rfl⟩) rfl rfl rfl
 ·rcases wb.1 c with rfl|c
  ·obtain⟨u,q,n,o,p⟩:=R.own _ hs
   grind [Ga,Qk,ab,me]
  ·obtain⟨i,t⟩:=Ul.1 c
   obtain⟨j,k⟩:=Ul.1 i;obtain⟨u,q,n,o,p⟩:=R.own L j;exact⟨u,q,by grind [km],(EA k).trans o,p,fun g x=>.inr ⟨L,j,by grind [aw],u,n,x⟩⟩
 ·grind [aw,Ul]
 ·obtain⟨i,t,j⟩:=Ar.1 z
  obtain⟨k,n,o⟩:=Ar.1 i;rw[km b o,Qk a d _ _ b,if_neg (fun e=>n e.symm)];exact R.al q k
def og.kept{p}{v}(h:og P w Fr p v)(d:∀g,v.ownBlock=some g->w'.heap[g]?=w.heap[g]?/\Fr' g=Fr g):og P w' Fr' p v:=by
 obtain⟨n,cs,i,j⟩:=h;refine⟨n,cs,i,j.imp id ?_⟩;rintro⟨g,a,b,e,z,c,k,l,o,q,r,t,u⟩;obtain⟨x,y⟩:=d g (by rw[c];rfl)
 grind
def qJ{L}(b:∀g∈β,w'.heap[g]?=w.heap[g]?):Ga a w' β L=Ga a w β L:=by
 cases L<;>grind [Ga,World.cell?]
def Rel.grow(R:Rel P T base M w0 F0 nt st a w Fr β)(d:Below w.heap.size w w')(l:∀g,g<w.heap.size->Fr' g=Fr g):Rel P T base M w0 F0 nt st a w' Fr' β/\Le w Fr β w' Fr' β:=by
 have k:Le w Fr β w' Fr' β:=⟨d.size,fun b h=>by grind,fun b o h _=>d.cell (p:=⟨b,o,none⟩) h,fun _ _ h=>h,fun g r h=>⟨r,(d.block g (Nh.1 h).1).trans h⟩⟩;have e:∀g∈β,g<w.heap.size:=fun g c=>R.bx.lt c
 have j:∀L,Ga a w' β L=Ga a w β L:=fun L=>qJ fun g c=>d.block g (e g c)
 refine⟨R.next k (fun i=>(R.sl i).mono k) R.nt rfl (R.bx.kept k fun g c=>⟨d.block g (e g c),l g (e g c)⟩) R.nd (fun g h=>.inl h) some (fun L v=>?_) (fun L _ x _ n B h C=>n la) (fun L _ x _ _ h=>by cases h) (fun q y=>by rw[j];exact R.al q y) (fun b h _ _=>⟨d.block b h,l b h⟩) d.os d.tape d.output,k⟩;obtain⟨u,q,z,A,t⟩:=R.own L v;exact⟨u,q,la,A,t.kept fun g c=>⟨d.block g (t.lt c),l g (t.lt c)⟩,fun g c=>.inr ⟨L,v,rfl,u,z,c⟩⟩
theorem Rel.Ic(R:Rel P T base M w0 F0 nt st a w Fr β)(i:Below w.heap.size w w')(r:∀g,g<w.heap.size->Fr' g=Fr g){d}(z:d<nt){p}{v}(G:Rd w' Fr' β p v)(N:og P w' Fr' p v)(K:∀g,v.ownBlock=some g->w.heap.size<=g):
 Rel P T base M w0 F0 nt (st.Ic d p) (a.put (some d) v) w' Fr' β:=by
 obtain⟨C,A⟩:=R.grow i r;have j:d<a.tmps.size:=by rw[R.nt];exact z
 have x:∀g∈β,g<w.heap.size:=fun g c=>R.bx.lt c
 have k:∀L,Ga a w' β L=Ga a w β L:=fun L=>qJ fun g c=>i.block g (x g c)
 refine R.next A (UA R A z G) (by grind [size_put,nt]) (Om _ _ _) C.bx R.nd (fun g h=>.inl h) (fun L=>if L=.slot d then none else some L) (fun L n=>?_) (fun L n B E t J h D=>?_) (fun L _ B _ t h D=>?_) (fun q F=>?_) (fun b h _ _=>⟨i.block b h,r b h⟩) i.os i.tape i.output
 ·rcases wb.1 n with rfl|n
  ·grind [Ga,Qk,ab,St.Ic,me]
  ·obtain⟨l,o⟩:=Ul.1 n
   obtain⟨u,q,H,I,y⟩:=R.own L l;exact⟨u,q,by grind [km],(EA o).trans I,y.kept fun g c=>⟨i.block g (y.lt c),r g (y.lt c)⟩,fun g c=>.inr ⟨L,l,by grind [aw],u,H,c⟩⟩
 ·grind
 ·grind
 ·obtain⟨l,o,y⟩:=Ar.1 F
  rw[km j y,k,Qk a d v _ j,if_neg (fun e=>o e.symm)];exact R.al q l
end
def Tg(P:Program)(t:TypeId):Option Nat:=(P.info? t).map (·.size)
def Oe(P:Program)(t:TypeId):Option Bool:=(P.underlying t).map fun| .struct _| .array _ _=>true|_=>false
def xb:Operand->Option X
 | .tmp t=>some (.t t)
 | .const v=>some (.c (ofValue v))
 | .func f=>some (.c (.cb f []))
 | .global _=>none
def bp(l:Array Operand):Option (List X):=l.toList.mapM xb
def ap:Option Operand->Option (Option X)
 |none=>some none
 |some x=>(xb x).map some
def yx(P:Program)(t:TypeId):Option (List PV):=((P.info? t).bind (·.zero)).bind fun v=>if v.cells.toList.all (·.oneCell')then some (v.cells.toList.map ofValue)else none
def fieldsOf(P:Program)(t:TypeId):Option (Array Field):=match P.underlying t with|some (.struct a)=>some a|_=>none
def Oq(place:Nat->Option (Nat×Nat)):List (Nat×Operand)->Option (List (Nat×Nat×X))
 |[]=>some []
 |(i,x)::r=>(place i).bind fun p=>(xb x).bind fun x=>(Oq place r).map fun s=>(p.1,p.2,x)::s
def wD(P:Program)(t:TypeId)(ps:List (Nat×Operand)):Option (List (Nat×Nat×X)):=match P.underlying t with
 |some (.struct b)=>(b.toList.mapM fun f=>(P.info? f.type).map fun i=>(f.offset,i.size)).bind fun a=>Oq (a.toArray[·]?) ps
 |some (.array _ e)=>(P.info? e).bind fun a=>Oq (fun i=>some (i* a.size,a.size)) ps
 |_=>none
def Dw(P:Program)(sh:TypeId->Option (List LK)):List Field->Nat->Option (List LK)
 |[],_=>some []
 |f::a,o=>if f.offset=o/\f.name≠ "_" then(sh f.type).bind fun k=>if Tg P f.type=some k.length/\k≠[]then(Dw P sh a (o+k.length)).map (k++·)else none else none
def po(P:Program):Nat->TypeId->Option (List LK)
 |0,_=>none
 |d+1,t=>match P.underlying t with
  |some .bool=>some [.b]
  |some .string=>some [.s]
  |some (.int k)=>some [.i k]
  |some (.struct a)=>if P.stoodInHeld t=true then none else Dw P (po P d) a.toList 0
  |_=>none
def ag(P:Program):Op->Option Ea
 | .move x=>(xb x).map .mv
 | .assign x=>(xb x).map .asg
 | .pick c a b=>(xb c).bind fun c=>(xb a).bind fun a=>(xb b).map fun b=>.pick c a b
 | .binOp op t x y _=>(xb x).bind fun x=>(xb y).bind fun y=>match P.underlying t with
   |some (.int _)|some .string=>some (.bin op x y)
   |some .bool=>(match op with| .eql=>some (.beq false x y)| .neq=>some (.beq true x y)|_=>none)
   |some (.struct _)=>if P.eqGuardType P.depth t=false then(match op with| .eql=>(po P 50 t).map fun ks=>.Qm false ks x y| .neq=>(po P 50 t).map fun ks=>.Qm true ks x y|_=>none)else none
   |_=>none
 | .nilCheck x=>(xb x).map .Wl
 | .unOp op _ x=>(xb x).map fun x=>.un op x
 | .convert d dst x=>(xb x).bind fun x=>match P.underlying d,P.underlying dst with
   |some (.int _),some (.int k)=>some (.conv k x)
   |some .string,some .string=>some (.Rp x)
   |_,_=>none
 | .build t ps=>(yx P t).bind fun zs=>(wD P t ps.toList).map fun ps=>.build zs ps
 | .fieldAddr s x f=>(fieldsOf P s).bind fun l=>(l[f]?).bind fun j=>(Tg P j.type).bind fun n=>if n=0 then none else(xb x).map fun x=>.Vm j.offset x
 | .field s x f=>(fieldsOf P s).bind fun l=>(l[f]?).bind fun j=>(Tg P j.type).bind fun n=>(Oe P j.type).bind fun g=>(xb x).map fun x=>.Wm g j.offset n x
 | .indexAddr t x i=>match P.underlying t with
   |some (.slice e)=>(Tg P e).bind fun n=>(xb x).bind fun x=>(xb i).map fun i=>.Ji n x i
   |some (.array len e)=>(Tg P e).bind fun n=>(xb x).bind fun x=>(xb i).map fun i=>.jn len n x i
   |_=>none
 | .index t x i=>match P.underlying t with
   |some .string=>(xb x).bind fun x=>(xb i).map fun i=>.idx x i
   |some (.array len e)=>(Tg P e).bind fun n=>(Oe P e).bind fun g=>(xb x).bind fun x=>(xb i).map fun i=>.Yj g len n x i
   |_=>none
 | .slice t x h d none=>match P.underlying t with
   |some .string=>(xb x).bind fun x=>(ap h).bind fun h=>(ap d).map fun d=>.sliceS x h d
   |some (.slice e)=>(Tg P e).bind fun n=>(xb x).bind fun x=>(ap h).bind fun h=>(ap d).map fun d=>.slice n x h d
   |some (.array len e)=>(Tg P e).bind fun n=>(xb x).bind fun x=>(ap h).bind fun h=>(ap d).map fun d=>.sliceP len n x h d
   |_=>none
 | .extract x i=>(xb x).map fun x=>.ext x i
 | .call {callee:=.builtin .len,args,argTypes}=>match args.toList,argTypes.toList with
   |[x],[t]=>(match P.underlying t with|some .string=>(xb x).map .Vn|some (.slice _)=>(xb x).map .len|_=>none)
   |_,_=>none
 | .call {callee:=.builtin .max,args,argTypes}=>match args.toList with
   |[x,y]=>(xb x).bind fun x=>(xb y).map fun y=>.mm true x y
   |_=>none
 | .call {callee:=.builtin .min,args,argTypes}=>match args.toList with
   |[x,y]=>(xb x).bind fun x=>(xb y).map fun y=>.mm false x y
   |_=>none
 | .makeFunc (.func f) first Ya=>if first.size=0 then(bp Ya).map fun cs=>.clos f cs else if Ya.size=0 then(bp first).map fun cs=>.mkt (2* f) cs else none
 | .makeInterface t x=>match P.underlying t with
   |some (.interface _)|none=>none
   |_=>(xb x).map fun x=>.mkt (2* t+1) [x]
 |_=>none
section
variable {P:Program} {w:World} {Fr:Nat→Nat} {β:List Nat}
theorem KT(v):Rd w Fr β (ofValue v) v:=by
 unfold ofValue
 grind [Rd,yc]
theorem dc{a:Act}{sl}(h:∀i,Rd w Fr β (look sl i) (a.tmps.getD i undef)){x}{y}(b:xb x=some y):Rd w Fr β (y.ev sl) (a.eval x):=by
 cases x<;>grind [xb,KT,X.ev,Rd,Act.eval,ra]
def Oc{v u}(h:Rd w Fr β (.flat v) u):u=v/\yc v=true:=by grind [Rd]
def dg{v}(h:yc v=true):Rd w Fr β (.flat v) v:=by simp[Rd,h]
def run_sizeOf{t}{n}(h:Tg P t=some n):(Go.sizeOf t).run P w=.ok n w:=by
 unfold Tg at h;cases a:P.info? t with
 |none=>grind
 |some i=>
  rw[a]at h;simp only[jd,Pb]at h;simp[Go.sizeOf,typeInfo,program,a,h,Sem.run]
def JI{t}{b}(h:Oe P t=some b):(isAgg t).run P w=.ok b w:=by
 unfold Oe at h;cases a:P.underlying t with
 |none=>grind
 |some i=>
  rw[a]at h;simp only[jd,Pb]at h;simp only[isAgg,Fb,run_underlying a,Nb];subst h;cases i<;>rfl
def X4{op}{a b v}(h:Uc op a b=some v)(t)(x y):((do eqGuard op t x y a b;binOp op t a b:Sem Value)).run P w=.ok v w/\yc v=true:=by
 unfold Uc at h;split at h
 ·rename_i k a k' b
  have e:(eqGuard op t x y (.int k a) (.int k' b)).run P w=.ok () w:=by
   unfold eqGuard;split<;>rfl
  simp only[Fb,e,Nb];cases op
  case shl=>
   simp only at h;split at h
   ·cases h
   ·rename_i c;cases h;simp[binOp,Op.shift,c,yc,Sem.run,pure]
  case shr=>
   simp only at h;split at h
   ·cases h
   ·rename_i c;cases h;simp[binOp,Op.shift,c,yc,Sem.run,pure]
  all_goals
   simp only at h;split at h
   ·cases h
   ·rename_i g
    have d:k=k':=by simpa using g
    subst d
    first
     |(cases h;simp[binOp,Op.intArith,Op.intBits,Op.intCmp,yc,Sem.run,pure];done)
     |(split at h
       ·cases h
       ·rename_i c;cases h;simp[binOp,Op.intDiv,c,yc,Sem.run,pure])
 ·rename_i a b
  cases op
  case add=>
   simp only at h;split at h
   ·rename_i c;cases h
    have d:¬(((a.size+b.size:Nat):Int)>IntKind.i64.max):=by
     have:IntKind.i64.max=9223372036854775807:=rfl;unfold za at c;omega
    refine⟨?_,rfl⟩;show Sem.run P (Op.stringOp .add a b) w=_;simp only[Op.stringOp,if_neg d];rfl
   grind
  all_goals
   simp only at h;cases h
   try (refine⟨?_,rfl⟩;rfl)
 grind
def Z4{op}{a v}(h:zp op a=some v):(Op.unary op a).run P w=.ok v w/\yc v=true:=by
 unfold zp at h;split at h
 ·split at h
  ·cases h;exact⟨rfl,rfl⟩
  grind
 ·split at h
  ·cases h;exact⟨rfl,rfl⟩
  grind
 grind
theorem my:∀{cs}{l}{vs},bytesOf cs=some l->ra w Fr β cs vs->vs=l.map fun c=>.int .u8 c.toNat
 |[],l,vs,h,k=>by
  grind [bytesOf,ra]
 |p::r,l,vs,h,k=>by
  unfold bytesOf at h;split at h
  ·grind
  ·rename_i n r' e
   cases e;split at h
   ·obtain⟨l',a,rfl⟩:=qm h
    obtain⟨v,u,rfl,b,d⟩:=k;obtain⟨rfl,_⟩:=Oc b;rw[my a d,Xb];congr 2;simp;omega
   grind
  grind
def tD{p}{v}(h:Rd w Fr β p v)(e:p.mi=true):ra w Fr β p.cells v.cells.toList/\fd v.cells.toList:=by
 have one:∀{q:PV},q.cells=[q]->v.cells=#[v]->v.oneCell'=true->Rd w Fr β q v->ra w Fr β q.cells v.cells.toList/\fd v.cells.toList:=fun j l r t=>by
  refine⟨by grind [ra],fun u i=>?_⟩
  grind
 cases p with
 |Ad=>cases e
 |Jc vs=>cases e
 |flat u=>
  obtain⟨rfl,i⟩:=Oc h;refine one rfl ?_ ?_ h
  ·cases v<;>first|rfl|grind [yc]
  ·cases v<;>first|rfl|(simp[yc]at i)
 |ga n cs=>
  have c:=h;obtain⟨a,d,rfl,_⟩:=c;exact one rfl rfl rfl h
 |agg cs=>
  grind [Rd,PV.cells,Value.cells]
 |ptr b o=>
  have c:=h;obtain⟨g,_,rfl⟩:=c;exact one rfl rfl rfl h
 |tag k cs=>
  have c:=h;obtain⟨vs,rfl,_⟩:=c;refine one rfl ?_ ?_ h<;>(unfold uo;split<;>rfl)
 |xd cs=>
  have c:=h;obtain⟨g,o,vs,rfl,_⟩:=c;exact one rfl rfl rfl h
 |cb f cs=>
  have c:=h;obtain⟨vs,rfl,_⟩:=c;exact one rfl rfl rfl h
 |Oa b=>
  have c:=h;obtain⟨g,_,rfl⟩:=c;exact one rfl rfl rfl h
 |we b i n=>
  have c:=h;obtain⟨g,a,d,_,rfl,_⟩:=c;exact one rfl rfl rfl h
 |lp f k s live i=>cases e
theorem uV:∀(vs)(cells:Array Value)(o k),o+k+vs.length<=cells.size->
 ((vs.zipIdx k).foldl (fun(cs:Array Value)(x:Value×Nat)=>cs.setIfInBounds (o+x.2) x.1) cells).toList=cells.toList.take (o+k)++vs++cells.toList.drop (o+k+vs.length)
 |[],cells,o,k,h=>by simp
 |v::vs,cells,o,k,h=>by
  rw[List.zipIdx_cons,Pf,uV vs _ o (k+1) la];simp only[Array.toList_setIfInBounds];have a:o+k<cells.toList.length:=by simp at h⊢;omega
  rw[List.take_set,List.drop_set,if_pos aa,<-Ij,xo a,du _ _ la];have:o+k - (cells.toList.take (o+k)).length=0:=by rw[Ue];omega
  grind
def PB(w:World)(Fr:Nat->Nat)(β:List Nat)(place:Nat->Option (Nat×Nat)):List (Nat×Value)->List (Nat×Nat×PV)->Prop
 |[],[]=>True
 |(i,v)::r,(o,n,p)::s=>place i=some (o,n)/\Rd w Fr β p v/\PB w Fr β place r s
 |_,_=>False
theorem qE{place}:∀(ps)(qs)(cells)(cs b),PB w Fr β place ps qs->ra w Fr β cs cells.toList->fd cells.toList->Hi cs qs=some b->
 ∃a,Instr.fill place cells ps=some a/\ra w Fr β b a.toList/\fd a.toList
 |[],[],cells,cs,b,_,h,d,c=>by
  simp only[Hi,Pb]at c;subst c;exact⟨cells,rfl,h,d⟩
 |[],_::_,_,_,_,h,_,_,_=>h.elim
 |_::_,[],_,_,_,h,_,_,_=>h.elim
 |(i,v)::r,(o,n,p)::s,cells,cs,b,y,h,d,c=>by
  obtain⟨A,l,q⟩:=y;unfold Hi at c;split at c
  ·rename_i t
   obtain⟨c1,c2,c3⟩:=t;obtain⟨g,k⟩:=tD l c1;have z:v.cells.size=n:=by rw[<-c2,<-g.length];simp
   have u:cells.size=cs.length:=by rw[<-h.length];simp
   have e:((v.cells.zipIdx).foldl (fun(cs:Array Value)(x:Value×Nat)=>cs.setIfInBounds (o+x.2) x.1) cells).toList=cells.toList.take o++v.cells.toList++cells.toList.drop (o+n):=by
    have j:=uV v.cells.toList cells o 0 la;rw[ci,show v.cells.toList.length=n by simp[z]]at j;rw[<-j,<-Array.foldl_toList,Array.toList_zipIdx]
   have r1:ra w Fr β (cs.take o++p.cells++cs.drop (o+n)) ((v.cells.zipIdx).foldl (fun(cs:Array Value)(x:Value×Nat)=>cs.setIfInBounds (o+x.2) x.1) cells).toList:=by
    rw[e];exact((h.take o).append g).append (h.drop (o+n))
   have r2:fd ((v.cells.zipIdx).foldl (fun(cs:Array Value)(x:Value×Nat)=>cs.setIfInBounds (o+x.2) x.1) cells).toList:=by
    rw[e];exact((d.take o).append k).append (d.drop (o+n))
   obtain⟨a,B,C,D⟩:=qE (place:=place) r s _ _ b q r1 r2 c
   grind [Instr.fill]
  grind
end
section
variable {P:Program} {w:World} {Fr:Nat→Nat} {β:List Nat}
def Dq{k}{n}:(asIntOf (.int k n)).run P w=.ok (k,n) w:=rfl
theorem NR{p}{v}{n}(h:Rd w Fr β p v)(a:lr p=some n):∃k,v=.int k n:=by
 unfold lr at a;split at a
 ·cases a;obtain⟨rfl,_⟩:=Oc h;simp
 grind
theorem IV{v}{k}{i}{y:Nat}{c}(a:v=.int k i)(h:0<=i/\i<=(y:Int)):(Instr.sliceBound v y c).run P w=.ok i.toNat w:=by
 subst a;simp only[Instr.sliceBound,Fb,Dq,Nb,if_pos h];rfl
theorem Gw{isS}{len a}{b g}{e d}{l h}(k:len<=a)(j:(b=none/\e=none)\/∃v p,b=some v/\e=some p/\Rd w Fr β p v)(i:(g=none/\d=none)\/∃v p,g=some v/\d=some p/\Rd w Fr β p v)
 (z:Of len e d=some (l,h)):(Instr.sliceBounds isS len a b g none).run P w=.ok (l,h,a) w/\l<=h/\h<=len:=by
 obtain⟨C,o,q⟩:=qb z;obtain⟨l',r,t⟩:=qm q;cases t;have x:h<=len/\(g=none->h=len)/\∀v,g=some v->∀c,(Instr.sliceBound v a c).run P w=.ok h w:=by
  rcases i with⟨rfl,rfl⟩|⟨v,p,rfl,rfl,hr⟩
  ·grind
  ·obtain⟨n,B,A⟩:=qb o
   grind [NR,IV]
 have y:l<=h/\(b=none->l=0)/\∀v,b=some v->∀c,(Instr.sliceBound v h c).run P w=.ok l w:=by
  rcases j with⟨rfl,rfl⟩|⟨v,p,rfl,rfl,hr⟩
  ·grind
  ·obtain⟨n,B,A⟩:=qb r
   grind [NR,IV]
 refine⟨?_,y.1,x.1⟩;unfold Instr.sliceBounds;cases g with
 |none=>
  cases b with
  |none=>simp_all
  |some v=>simp_all
 |some u=>
  cases b with
  |none=>simp_all
  |some v=>simp_all
def zec{n size l h}{cs}{v}{elem:TypeId}(hr:Rd w Fr β (.ga n cs) v)(i:cs.length=n* size)(hs:0<size)(t:l<=h)(r:h<=n):
 ∃a b,v=.slice a n b/\n<=b/\Rd w Fr β (.ga (h - l) ((cs.take (h* size)).drop (l* size))) (.slice (if b=l then a else a.map (·.add (l* size))) (h - l) (b - l)):=by
 obtain⟨a,b,rfl,j,k⟩:=hr;refine⟨a,b,rfl,j,?_⟩;refine⟨_,_,rfl,aa,?_⟩;by_cases q:h=l
 ·grind
 ·right
  rcases k with⟨_,p⟩|⟨g,o,vs,rfl,d,e,c⟩
  ·omega
  ·refine⟨g,o+l* size,(vs.take (h* size)).drop (l* size),?_,(d.take _).drop _,(e.take _).drop _,(c.take _).drop _⟩
   grind [Addr.add]
def At{a:Act}{sl}(h:∀i,Rd w Fr β (look sl i) (a.tmps.getD i undef)){x}{y}(b:ap x=some y):(x.map a.eval=none/\y.map (·.ev sl)=none)\/∃v p,x.map a.eval=some v/\y.map (·.ev sl)=some p/\Rd w Fr β p v:=by
 cases x<;>grind [ap,Option.map_eq_some_iff,dc]
theorem zy{a:Act}{sl}(h:∀i,Rd w Fr β (look sl i) (a.tmps.getD i undef)):∀{l:List Operand}{ys},l.mapM xb=some ys->ra w Fr β (ys.map (·.ev sl)) (l.map a.eval)
 |[],ys,b=>by grind [ra]
 |x::l,ys,b=>by
  rw[kq]at b;obtain⟨y,c,b⟩:=qb b;obtain⟨r,hr,b⟩:=qb b;cases b;exact⟨_,_,rfl,dc h c,zy h hr⟩
def OJ{t}{zs}(h:yx P t=some zs):∃z,(zeroValue t).run P w=.ok z w/\ra w Fr β zs z.cells.toList/\fd z.cells.toList:=by
 obtain⟨z,c,b⟩:=qb h;obtain⟨i,d,c⟩:=qb c;split at b
 case isFalse=>cases b
 rename_i a;cases b;refine⟨z,by simp[zeroValue,typeInfo,program,d,c,Sem.run],?_⟩;have:∀vs:List Value,ra w Fr β (vs.map ofValue) vs:=by
  intro vs
  induction vs with
  |nil=>rfl
  |cons v vs g=>grind [ra,KT]
 exact⟨this _,fun v e=>Ag.1 a v e⟩
theorem iI{t}{b}{n o}{vs:List Value}(a:Oe P t=some b)(d:Tg P t=some n)(c:b=true)(e:o+n<=vs.length):(part t vs.toArray o).run P w=.ok (.agg ((vs.drop o).take n).toArray) w:=by
 subst c;simp only[part,Fb,JI a,run_sizeOf d,Nb,if_true];simp
def jI{t}{o}{vs:List Value}{v}(a:Oe P t=some false)(b:vs[o]?=some v):(part t vs.toArray o).run P w=.ok v w:=by
 simp only[part,Fb,JI a,Nb];simp_all
end
section
variable {P:Program} {w:World} {Fr:Nat→Nat} {β:List Nat}
theorem xD{place}{a:Act}{sl}(hs:∀i,Rd w Fr β (look sl i) (a.tmps.getD i undef)):∀{ps}{qs},Oq place ps=some qs->
 PB w Fr β place (ps.map fun q=>(q.1,a.eval q.2)) (qs.map fun q=>(q.1,q.2.1,q.2.2.ev sl))
 |[],qs,h=>by simp only[Oq,Pb]at h;subst h;trivial
 |(i,x)::r,qs,h=>by
  obtain⟨p,b,h⟩:=qb h;obtain⟨y,c,h⟩:=qb h;obtain⟨s,d,rfl⟩:=qm h;exact⟨b,dc hs c,xD hs d⟩
def vY{t}{ps:Array (Nat×Operand)}{qs}{zs d}(h:wD P t ps.toList=some qs)(l:yx P t=some zs){a:Act}{sl}(hs:∀i,Rd w Fr β (look sl i) (a.tmps.getD i undef))
 (o:Hi zs (qs.map fun q=>(q.1,q.2.1,q.2.2.ev sl))=some d):∃b,(Instr.build t (ps.map fun(i,x)=>(i,a.eval x))).run P w=.ok (.agg b) w/\ra w Fr β d b.toList/\fd b.toList:=by
 obtain⟨z,n,u,z3⟩:=OJ (w:=w) (Fr:=Fr) (β:=β) l;have e:=l;obtain⟨k,g,_⟩:=qb e;obtain⟨D,hit,j⟩:=qb g;have v:k=z:=by
  have:(zeroValue t).run P w=.ok k w:=by simp[zeroValue,typeInfo,program,hit,j,Sem.run]
  rw[this]at n;cases n;rfl
 have p:(ps.map fun(i,x)=>(i,a.eval x)).toList=ps.toList.map fun q=>(q.1,a.eval q.2):=ea
 have fin:∀place,Oq place ps.toList=some qs->(∀c,Instr.fill place k.cells c=P.built t c)->∃b,(Instr.build t (ps.map fun(i,x)=>(i,a.eval x))).run P w=.ok (.agg b) w/\ra w Fr β d b.toList/\fd b.toList:=fun place r C=>by
  obtain⟨b,y,A,B⟩:=qE _ _ _ _ _ (xD hs r) u z3 o
  grind [run_build]
 unfold wD at h
 grind [Option.bind_eq_some_iff,Program.built]
def B3{t}(ht:P.underlying t=some .bool)(d)(u v):(Op.equalIn (d+1) t (.bool u) (.bool v)).run P w=.ok (u==v) w:=by
 simp only[Op.equalIn,Fb,run_underlying ht,Nb];rfl
theorem bQ:∀{k ks}{cs a}{r},Mc (k++ks) cs a=some r->∃r1 r2,Mc k (cs.take k.length) (a.take k.length)=some r1/\Mc ks (cs.drop k.length) (a.drop k.length)=some r2/\r=(r1&&r2)/\k.length<=cs.length/\k.length<=a.length
 |[],ks,cs,a,r,h=>⟨true,r,pa,la,ea,ea,ea⟩
 |x::k,ks,cs,a,r,h=>by
  have step:∀{t:Bool}{cs a:List PV}{r:Bool},(Mc (k++ks) cs a).map (t&& ·)=some r->∃r1 r2,(Mc k (cs.take k.length) (a.take k.length)).map (t&& ·)=some r1/\Mc ks (cs.drop k.length) (a.drop k.length)=some r2/\r=(r1&&r2)/\k.length<=cs.length/\k.length<=a.length:=fun h=>by
   obtain⟨q,b,rfl⟩:=qm h;obtain⟨r1,r2,c,d,rfl,g,i⟩:=bQ b
   grind
  unfold Mc at h;split at h
  ·grind
  ·rename_i e;cases e
   obtain⟨r1,r2,b,c,d,g,i⟩:=step h
   grind [Mc]
  ·grind [Mc]
  ·rename_i e;cases e
   split at h
   ·obtain⟨r1,r2,b,c,d,g,i⟩:=step h
    grind [Mc]
   grind
  grind
def gs(P:Program)(w:World)(Fr:Nat->Nat)(β:List Nat)(t:TypeId)(cs:List PV)(v:Value):Prop:=
 (Oe P t=some true/\∃vs,v=.agg vs.toArray/\ra w Fr β cs vs)\/(Oe P t=some false/\∃p,cs=[p]/\Rd w Fr β p v)
theorem cQ{sh}{eq:TypeId->Value->Value->Sem Bool}{xs ys:List Value}(i:∀t k,sh t=some k->Oe P t=some true\/(Oe P t=some false/\k.length=1))
 (H:∀t k cs e u v r,sh t=some k->gs P w Fr β t cs u->gs P w Fr β t e v->Mc k cs e=some r->(eq t u v).run P w=.ok r w):∀(j)(o)(ks)(cs e)(r),Dw P sh j o=some ks->ra w Fr β cs (xs.drop o)->ra w Fr β e (ys.drop o)->Mc ks cs e=some r->
 ((do
   let d <-forIn j ((none,()):Option Bool×Unit) fun f d=>
    if f.name≠ "_" then do
     let a <-part f.type xs.toArray f.offset
     let b <-part f.type ys.toArray f.offset
     let c <-eq f.type a b
     if(!c)=true then pure (ForInStep.done (some false,()))else pure (ForInStep.yield (none,()))
    else pure (ForInStep.yield (none,()))
   match d.1 with
   |some r=>pure r
   |none=>pure true:Sem Bool)).run P w=.ok r w
 |[],o,ks,cs,e,r,h,l,q,n=>by
  simp only[Dw,Pb]at h;have:r=true:=by
   unfold Mc at n;split at n<;>simp_all
  simp_all
 |f::j,o,ks,cs,e,r,h,l,q,n=>by
  simp only[Dw]at h;split at h
  case isFalse=>cases h
  rename_i C;obtain⟨k,D,h⟩:=qb h;split at h
  case isFalse=>cases h
  rename_i hs;obtain⟨hs,y⟩:=hs;have F:0<k.length:=List.length_pos_iff.2 y;obtain⟨B,x,rfl⟩:=qm h;obtain⟨r1,r2,e1,e2,rfl,I,J⟩:=bQ n;have d:∀{xs:List Value}{cs:List PV},ra w Fr β cs (xs.drop o)->k.length<=cs.length->∃v,(part f.type xs.toArray f.offset).run P w=.ok v w/\gs P w Fr β f.type (cs.take k.length) v:=fun{xs cs} z Q=>by
   have A:=z.length;rw[fc]at A;rcases i _ _ D with g|⟨g,l⟩
   ·refine⟨_,iI g hs rfl aa,.inl ⟨g,_,rfl,?_⟩⟩
    rw[C.1];exact z.take _
   ·obtain⟨p,G⟩:∃p,cs[0]?=some p:=⟨_,qe aa⟩
    obtain⟨v,R,K⟩:=z.get 0 p G;refine⟨v,jI g la,.inr ⟨g,p,?_,K⟩⟩;cases cs<;>grind
  obtain⟨u,L,M⟩:=d l I;obtain⟨v,N,O⟩:=d q J;have hr:=H _ _ _ _ _ _ _ D M O e1;have E:=cQ i H j (o+k.length) B _ _ r2 x (by have:=l.drop k.length;rwa[Cd]at this) (by have:=q.drop k.length;rwa[Cd]at this) e2;rw[List.forIn_cons];simp only[Fb,C.2,ne_eq,not_false_eq_true,if_true,L,N,hr,Nb];cases r1 with
  |false=>rfl
  |true=>
   simp only[Fb]at E;exact E
def zdZ{d}{t}{k}(h:po P d t=some k):Oe P t=some true\/(Oe P t=some false/\k.length=1):=by
 cases d<;>grind [po,Oe]
theorem dQ:∀(d i)(t)(k)(cs c)(u v)(r),d<=i->po P d t=some k->gs P w Fr β t cs u->gs P w Fr β t c v->Mc k cs c=some r->(Op.equalIn i t u v).run P w=.ok r w
 |0,i,t,k,cs,c,u,v,r,_,h,_,_,_=>by cases h
 |d+1,0,t,k,cs,c,u,v,r,D,_,_,_,_=>by omega
 |d+1,i+1,t,k,cs,c,u,v,r,D,h,n,o,a=>by
  unfold po at h;have b:Oe P t=some false->∃p q,cs=[p]/\c=[q]/\Rd w Fr β p u/\Rd w Fr β q v:=fun C=>by
   rcases n with⟨l,_⟩|⟨_,p,rfl,g⟩
   ·grind
   rcases o with⟨l,_⟩|⟨_,q,rfl,j⟩<;>grind
  split at h
  ·rename_i e;cases h
   obtain⟨p,q,rfl,rfl,g,j⟩:=b (by grind [Oe]);unfold Mc at a;split at a
   ·grind
   ·rename_i e1 e2 e3;cases e1;cases e2;cases e3
    obtain⟨rfl,_⟩:=Oc g;obtain⟨rfl,_⟩:=Oc j;simp only[Mc,jd,vk,Pb]at a;subst a;simp only[Op.equalIn,Fb,run_underlying e,Nb];rfl
   ·grind
   ·grind
   grind
  ·rename_i e;cases h
   obtain⟨p,q,rfl,rfl,g,j⟩:=b (by grind [Oe]);unfold Mc at a;split at a
   ·grind
   ·grind
   ·rename_i e1 e2 e3;cases e1;cases e2;cases e3
    obtain⟨rfl,_⟩:=Oc g;obtain⟨rfl,_⟩:=Oc j;simp only[Mc,jd,vk,Pb]at a;subst a;simp only[Op.equalIn,Fb,run_underlying e,Nb];rfl
   ·grind
   grind
  ·rename_i e;cases h
   obtain⟨p,q,rfl,rfl,g,j⟩:=b (by grind [Oe]);unfold Mc at a;split at a
   ·grind
   ·grind
   ·grind
   ·rename_i e1 e2 e3;cases e1;cases e2;cases e3
    obtain⟨rfl,_⟩:=Oc g;obtain⟨rfl,_⟩:=Oc j;split at a
    ·rename_i l
     obtain⟨rfl,rfl⟩:=l;simp only[Mc,jd,vk,Pb]at a;subst a;simp only[Op.equalIn,Fb,run_underlying e,Nb,if_true];rfl
    grind
   grind
  ·rename_i x e
   split at h
   ·cases h
   rename_i l;have C:Oe P t=some true:=by unfold Oe;rw[e];rfl
   have st:∀{v:Value}{cs:List PV},gs P w Fr β t cs v->∃vs,v=.agg vs.toArray/\ra w Fr β cs vs:=fun h=>by
    rcases h with⟨_,h⟩|⟨h,_⟩<;>grind
   obtain⟨xs,rfl,E⟩:=st n;obtain⟨ys,rfl,F⟩:=st o;have:=cQ (P:=P) (w:=w) (Fr:=Fr) (β:=β) (sh:=po P d) (eq:=Op.equalIn i) (xs:=xs) (ys:=ys) (fun t k h=>zdZ h) (fun t k cs c u v r y z A B=>dQ d i t k cs c u v r aa y z A B) x.toList 0 k cs c r h la la a;have g:∀w:World,(program:Sem Program).run P w=.ok P w:=fun _=>rfl
   simp only[Op.equalIn,Fb,run_underlying e,Nb,g,l,if_false,Ha]
   grind [Sem.run_bind]
  grind
theorem zea{o}{c}(q:ag P o.op=some c){a:Act}{sl}(hs:∀i,Rd w Fr β (look sl i) (a.tmps.getD i undef)){p}(B:bb c (·.ev sl)=some p):
 ∃v,(execOp a.eval o).run P w=.ok (.value v) w/\Rd w Fr β p v:=by
 obtain⟨dst,op,ty,pos,O,guard⟩:=o;have val:∀{s:Sem Value}{v:Value},s.run P w=.ok v w->(do pure (Next.value (<-s)):Sem Next).run P w=.ok (.value v) w:=fun h=>by
  simp_all
 cases op with
 |move x=>
  obtain⟨y,E,rfl⟩:=qm q;cases B;exact⟨_,rfl,dc hs E⟩
 |assign x=>
  obtain⟨y,E,rfl⟩:=qm q;cases B;exact⟨_,rfl,dc hs E⟩
 |pick x y z=>
  obtain⟨S,A,q⟩:=qb q;obtain⟨y'Z,E,q⟩:=qb q;obtain⟨K,hzZ,rfl⟩:=qm q;simp only[bb]at B;split at B
  ·rename_i b J
   cases B;have C:=dc hs A;rw[J]at C;obtain⟨C,_⟩:=Oc C;refine⟨if b then a.eval y else a.eval z,?_,?_⟩
   ·simp only[execOp,C];rfl
   grind [dc]
  grind
 |binOp op t x y U=>
  obtain⟨S,A,q⟩:=qb q;obtain⟨y'Z,E,q⟩:=qb q;have C:=dc hs A;have D:=dc hs E;have bin:c=.bin op S y'Z->∃v,(execOp a.eval ⟨dst,.binOp op t x y U,ty,pos,O,guard⟩).run P w=.ok (.value v) w/\Rd w Fr β p v:=fun e=>by
   subst e;simp only[bb]at B;split at B
   ·rename_i u v e1 e2
    rw[e1]at C;rw[e2]at D;obtain⟨C,_⟩:=Oc C;obtain⟨D,_⟩:=Oc D;obtain⟨r,hr,rfl⟩:=qm B;obtain⟨X,Y⟩:=X4 (P:=P) (w:=w) hr t x y;refine⟨r,val ?_,dg Y⟩
    grind
   grind
  have beq:∀K:Bool,P.underlying t=some .bool->op=(if K then .neq else .eql)->c=.beq K S y'Z->∃v,(execOp a.eval ⟨dst,.binOp op t x y U,ty,pos,O,guard⟩).run P w=.ok (.value v) w/\Rd w Fr β p v:=fun K ht Q e=>by
   subst e;simp only[bb]at B;split at B
   ·rename_i u v e1 e2
    rw[e1]at C;rw[e2]at D;obtain⟨C,_⟩:=Oc C;obtain⟨D,_⟩:=Oc D;cases B;refine⟨_,val ?_,dg rfl⟩;rw[C,D];have hqZ:(Op.equal t (.bool u) (.bool v)).run P w=.ok (u==v) w:=by
     exact B3 ht 9999 u v
    subst Q;cases K
    ·show(do pure (.bool (<-Op.equal t (.bool u) (.bool v))):Sem Value).run P w=_
     simp_all
    ·show(do pure (.bool (!(<-Op.equal t (.bool u) (.bool v)))):Sem Value).run P w=_
     simp_all
   grind
  have eqs:∀(K:Bool)(ks:List LK)(fsZ:Array Field),P.underlying t=some (.struct fsZ)->P.eqGuardType P.depth t=false->po P 50 t=some ks->op=(if K then .neq else .eql)->c=.Qm K ks S y'Z->∃v,(execOp a.eval ⟨dst,.binOp op t x y U,ty,pos,O,guard⟩).run P w=.ok (.value v) w/\Rd w Fr β p v:=fun K ks fsZ ht L hkZ Q e=>by
   subst e;simp only[bb]at B;split at B
   case h_2=>cases B
   rename_i cs Z e1 e2;rw[e1]at C;rw[e2]at D;obtain⟨us,C,W,_⟩:=C;obtain⟨vs,D,V,_⟩:=D;obtain⟨r,hr,rfl⟩:=qm B;refine⟨_,val ?_,dg rfl⟩;rw[C,D];have R:∀w:World,(program:Sem Program).run P w=.ok P w:=fun _=>rfl
   have hgZ:∀op,(eqGuard op t x y (.agg us.toArray) (.agg vs.toArray)).run P w=.ok () w:=fun op=>by
    cases op<;>first
     |rfl
     |(simp only[eqGuard,nm,Ha,if_false,Fb,R,Nb,L,pn,if_true];rfl)
   have haZ:Oe P t=some true:=by unfold Oe;rw[ht];rfl
   have hqZ:(Op.equal t (.agg us.toArray) (.agg vs.toArray)).run P w=.ok r w:=dQ 50 10000 t ks cs Z _ _ r aa hkZ (.inl ⟨haZ,us,rfl,W⟩) (.inl ⟨haZ,vs,rfl,V⟩) hr;subst Q;simp only[Fb,hgZ,Nb];cases K
   ·show(do pure (.bool (<-Op.equal t (.agg us.toArray) (.agg vs.toArray))):Sem Value).run P w=_
    simp_all
   ·show(do pure (.bool (!(<-Op.equal t (.agg us.toArray) (.agg vs.toArray)))):Sem Value).run P w=_
    simp_all
  grind [Option.map_eq_some_iff]
 |nilCheck x=>
  obtain⟨y,E,rfl⟩:=qm q;have C:=dc hs E;simp only[bb]at B;split at B
  ·rename_i b o e;cases B
   rw[e]at C;have D:=C;obtain⟨g,_,M⟩:=D;exact⟨a.eval x,by simp only[execOp,M];rfl,C⟩
  ·rename_i cs e;cases B
   rw[e]at C;have D:=C;obtain⟨g,o,vs,M,_⟩:=D;exact⟨a.eval x,by simp only[execOp,M];rfl,C⟩
  ·rename_i f cs e;cases B
   rw[e]at C;have D:=C;obtain⟨vs,M,_⟩:=D;exact⟨a.eval x,by simp only[execOp,M];rfl,C⟩
  ·rename_i f cs e;cases B
   rw[e]at C;have D:=C;obtain⟨vs,M,_⟩:=D;exact⟨a.eval x,by simp only[execOp,M];rcases zgb f vs with e|e<;>rw[e]<;>rfl,C⟩
  ·rename_i b e;cases B
   rw[e]at C;have D:=C;obtain⟨g,_,M⟩:=D;exact⟨a.eval x,by simp only[execOp,M];rfl,C⟩
  grind
 |unOp op t x=>
  obtain⟨y,E,rfl⟩:=qm q;have C:=dc hs E;simp only[bb]at B;split at B
  ·rename_i u e1
   rw[e1]at C;obtain⟨C,_⟩:=Oc C;obtain⟨r,hr,rfl⟩:=qm B;obtain⟨X,Y⟩:=Z4 (P:=P) (w:=w) hr;exact⟨r,val la,dg Y⟩
  grind
 |convert Q dst x=>
  obtain⟨y,E,q⟩:=qb q;have C:=dc hs E;split at q
  ·rename_i R k L K
   cases q;simp only[bb]at B;split at B
   ·rename_i k' n e
    cases B;rw[e]at C;obtain⟨C,_⟩:=Oc C;refine⟨_,val ?_,dg rfl⟩;rw[C];simp only[convert,Fb,run_underlying L,run_underlying K,Nb];rfl
   grind
  ·rename_i L K
   cases q;simp only[bb]at B;split at B
   ·rename_i s e
    cases B;rw[e]at C;obtain⟨C,_⟩:=Oc C;refine⟨_,val ?_,dg rfl⟩;rw[C];simp only[convert,Fb,run_underlying L,run_underlying K,Nb];rfl
   grind
  grind
 |build t ps=>
  obtain⟨zs,hzZ,q⟩:=qb q;obtain⟨qs,hqZ,rfl⟩:=qm q;obtain⟨L,R,rfl⟩:=qm B;obtain⟨K,Q,U,Z⟩:=vY (w:=w) (Fr:=Fr) (β:=β) hqZ hzZ hs R;exact⟨.agg K,val Q,by grind [Rd]⟩
 |fieldAddr s x f=>
  obtain⟨fsZ,T,q⟩:=qb q;obtain⟨flZ,C,q⟩:=qb q;obtain⟨n,D,q⟩:=qb q;split at q
  ·cases q
  ·rename_i hnZ
   obtain⟨y,E,rfl⟩:=qm q;have A:=dc hs E;have W:P.underlying s=some (.struct fsZ):=by
    unfold fieldsOf at T;split at T
    ·grind
    ·cases T
   have K:∀g o,a.eval x=.pointer (some ⟨g,o,none⟩)->(Instr.fieldAt s (a.eval x) f).run P w=.ok (.pointer (some ⟨g,o+flZ.offset,none⟩)) w:=fun g o e=>by
    rw[e];simp only[Instr.fieldAt,Fb,run_underlying W,Nb,C,Instr.sureAddr,fieldPlace,run_sizeOf D,qh,if_neg hnZ]
    grind [Addr.add]
   simp only[bb]at B;split at B
   ·rename_i b o e;cases B
    rw[e]at A;obtain⟨g,hgZ,A⟩:=A;exact⟨_,val (K g o A),by grind [Rd]⟩
   ·rename_i cs e;cases B
    rw[e]at A;obtain⟨g,o,vs,A,r1,r2,r3⟩:=A;exact⟨_,val (K g o A),by exact⟨g,o+flZ.offset,vs.drop flZ.offset,rfl,r1.drop _,r2.drop _,r3.drop _⟩⟩
   grind
 |field s x f=>
  obtain⟨fsZ,T,q⟩:=qb q;obtain⟨flZ,C,q⟩:=qb q;obtain⟨n,D,q⟩:=qb q;obtain⟨g,M,q⟩:=qb q;obtain⟨y,E,rfl⟩:=qm q;have A:=dc hs E;have W:P.underlying s=some (.struct fsZ):=by
   unfold fieldsOf at T;split at T
   ·grind
   ·cases T
  cases g with
  |true=>
   simp only[bb]at B;split at B
   ·rename_i cs e
    split at B
    ·cases B
     rw[e]at A;obtain⟨vs,A,r1,r2⟩:=A;have hlZ:=r1.length;refine⟨_,val ?_,by exact⟨(vs.drop flZ.offset).take n,rfl,(r1.drop _).take _,(r2.drop _).take _⟩⟩;simp only[Instr.field,Fb,run_underlying W,Nb,C,asAgg];have:=iI (w:=w) M D rfl (vs:=vs) (o:=flZ.offset) aa;simp_all
    grind
   grind
  |false=>
   simp only[bb]at B;split at B
   ·rename_i cs e
    rw[e]at A;obtain⟨vs,A,r1,r2⟩:=A;obtain⟨v,V,hr⟩:=r1.get _ _ B;refine⟨v,val ?_,hr⟩;simp only[Instr.field,Fb,run_underlying W,Nb,C,asAgg];have:=jI (w:=w) M V;simp_all
   grind
 |indexAddr t x i=>
  simp only[ag]at q;split at q
  ·rename_i e N
   obtain⟨n,D,q⟩:=qb q;obtain⟨S,F,q⟩:=qb q;obtain⟨i'Z,I,rfl⟩:=qm q;have A:=dc hs F;have H:=dc hs I;simp only[bb]at B;split at B
   ·rename_i m cs k j e1 e2
    split at B
    ·rename_i J;cases B
     rw[e1]at A;rw[e2]at H;obtain⟨H,_⟩:=Oc H;obtain⟨b,G,A,_,V⟩:=A;rcases V with⟨_,T⟩|⟨g,o,vs,rfl,r1,r2,r3⟩
     ·omega
     ·refine⟨.pointer (some ⟨g,o+j.toNat* n,none⟩),val ?_,by exact⟨g,o+j.toNat* n,vs.drop (j.toNat* n),rfl,r1.drop _,r2.drop _,r3.drop _⟩⟩
      rw[A,H];simp only[Instr.indexAt,Fb,Dq,run_underlying N,Nb,qh,if_pos J,run_sizeOf D]
      grind [Addr.add]
    grind
   ·rename_i b o m k j e1 e2
    split at B
    ·rename_i J;cases B
     rw[e1]at A;rw[e2]at H;obtain⟨H,_⟩:=Oc H;obtain⟨g,a0,G,hgZ,A,_,V⟩:=A;have haZ:a0=some ⟨g,o,none⟩:=V.resolve_left aa;subst haZ;refine⟨.pointer (some ⟨g,o+j.toNat* n,none⟩),val ?_,by grind [Rd]⟩;rw[A,H];simp only[Instr.indexAt,Fb,Dq,run_underlying N,Nb,qh,if_pos J,run_sizeOf D]
     grind [Addr.add]
    grind
   grind
  ·rename_i len e N
   obtain⟨n,D,q⟩:=qb q;obtain⟨S,F,q⟩:=qb q;obtain⟨i'Z,I,rfl⟩:=qm q;have A:=dc hs F;have H:=dc hs I;simp only[bb]at B;split at B
   ·rename_i b o k j e1 e2
    split at B
    ·rename_i J;cases B
     rw[e1]at A;rw[e2]at H;obtain⟨H,_⟩:=Oc H;obtain⟨g,hgZ,A⟩:=A;refine⟨.pointer (some ⟨g,o+j.toNat* n,none⟩),val ?_,by grind [Rd]⟩;rw[A,H];simp only[Instr.indexAt,Fb,Dq,run_underlying N,Instr.sureAddr,Nb,qh,if_pos J,run_sizeOf D]
     grind [Addr.add]
    grind
   grind
  grind
 |index t x i=>
  simp only[ag]at q;split at q
  ·rename_i N
   obtain⟨S,F,q⟩:=qb q;obtain⟨i'Z,I,rfl⟩:=qm q;have A:=dc hs F;have H:=dc hs I;simp only[bb]at B;split at B
   ·rename_i s k j e1 e2
    split at B
    ·rename_i J
     obtain⟨K,C,rfl⟩:=qm B;rw[e1]at A;rw[e2]at H;obtain⟨H,_⟩:=Oc H;obtain⟨A,_⟩:=Oc A;refine⟨_,val ?_,dg rfl⟩;rw[A,H];simp only[Instr.index,Fb,Dq,run_underlying N,Nb,if_pos J,C];rfl
    grind
   grind
  ·rename_i len e N
   obtain⟨n,D,q⟩:=qb q;obtain⟨g,M,q⟩:=qb q;obtain⟨S,F,q⟩:=qb q;obtain⟨i'Z,I,rfl⟩:=qm q;have A:=dc hs F;have H:=dc hs I;simp only[bb]at B;split at B
   ·rename_i cs k j e1 e2
    split at B
    ·rename_i J
     obtain⟨K,L,Q⟩:=J;rw[e1]at A;rw[e2]at H;obtain⟨H,_⟩:=Oc H;obtain⟨vs,A,r1,r2⟩:=A;have hlZ:=r1.length;cases g with
     |true=>
      cases B;refine⟨_,val ?_,by exact⟨(vs.drop (j.toNat* n)).take n,rfl,(r1.drop _).take _,(r2.drop _).take _⟩⟩;rw[A,H];simp only[Instr.index,Fb,Dq,run_underlying N,Nb,if_pos (And.intro K L),run_sizeOf D]
      grind [iI]
     |false=>
      obtain⟨v,V,hr⟩:=r1.get _ _ B;refine⟨v,val ?_,hr⟩;rw[A,H];simp only[Instr.index,Fb,Dq,run_underlying N,Nb,if_pos (And.intro K L),run_sizeOf D];exact jI (w:=w) M V
    grind
   grind
  grind
 |slice t x loZ H mxZ=>
  cases mxZ with
  |some _=>cases q
  |none=>
   simp only[ag]at q;split at q
   ·rename_i N
    obtain⟨S,F,q⟩:=qb q;obtain⟨lo',L,q⟩:=qb q;obtain⟨I,K,rfl⟩:=qm q;have A:=dc hs F;have R:=At hs L;have Q:=At hs K;simp only[bb]at B;split at B
    ·rename_i s e1
     obtain⟨⟨l,h⟩,J,rfl⟩:=qm B;rw[e1]at A;obtain⟨A,_⟩:=Oc A;obtain⟨X,Y,k3Z⟩:=Gw (P:=P) (isS:=false) (Aa _) R Q J;refine⟨.string (s.extract l h),val ?_,dg rfl⟩;simp only[Instr.sliceAt,Instr.slice,Fb,run_underlying N,Nb];simp_all
    grind
   ·rename_i elZ N
    obtain⟨n,D,q⟩:=qb q;obtain⟨S,F,q⟩:=qb q;obtain⟨lo',L,q⟩:=qb q;obtain⟨I,K,rfl⟩:=qm q;have A:=dc hs F;have R:=At hs L;have Q:=At hs K;simp only[bb]at B;split at B
    ·rename_i m cs e1
     split at B
     ·rename_i hsz
      obtain⟨⟨l,h⟩,J,rfl⟩:=qm B;rw[e1]at A;have hmc:∃b G,a.eval x=.slice b m G/\m<=G:=by
       simp only[Rd]at A;obtain⟨b,G,C,M,_⟩:=A;exact⟨b,G,C,M⟩
      obtain⟨_,cap0,_,Z⟩:=hmc;obtain⟨_,Y,k3Z⟩:=Gw (P:=P) (isS:=true) Z R Q J;obtain⟨b,G,hx1,U,hr⟩:=zec (elem:=elZ) A hsz.1 hsz.2 Y k3Z;obtain⟨X,_,_⟩:=Gw (P:=P) (isS:=true) U R Q J;refine⟨_,val ?_,hr⟩;rw[hx1];simp only[Instr.sliceAt,Instr.slice,Fb,run_underlying N,Nb];rw[show(none:Option Operand).map a.eval=none from rfl,X];simp only[Nb,run_sizeOf D];rfl
     grind
    ·rename_i b o m e1
     obtain⟨⟨l,h⟩,J,rfl⟩:=qm B;rw[e1]at A;obtain⟨g,a0,G,hgZ,A,U,V⟩:=A;obtain⟨X,Y,k3Z⟩:=Gw (P:=P) (isS:=true) U R Q J;refine⟨.slice (if G=l then a0 else a0.map (·.add (l* n))) (h - l) (G - l),val ?_,?_⟩
     ·rw[A]
      simp only[Instr.sliceAt,Instr.slice,Fb,run_underlying N,Nb];rw[show(none:Option Operand).map a.eval=none from rfl,X];simp only[Nb,run_sizeOf D];rfl
     grind [Rd,Addr.add]
    grind
   ·rename_i len elZ N
    obtain⟨n,D,q⟩:=qb q;obtain⟨S,F,q⟩:=qb q;obtain⟨lo',L,q⟩:=qb q;obtain⟨I,K,rfl⟩:=qm q;have A:=dc hs F;have R:=At hs L;have Q:=At hs K;simp only[bb]at B;split at B
    ·rename_i b o e1
     obtain⟨⟨l,h⟩,J,rfl⟩:=qm B;rw[e1]at A;obtain⟨g,hgZ,A⟩:=A;obtain⟨X,Y,k3Z⟩:=Gw (P:=P) (isS:=false) (Aa _) R Q J;refine⟨.slice (some (if len=l then⟨g,o,none⟩else(⟨g,o,none⟩:Addr).add (l* n))) (h - l) (len - l),val ?_,?_⟩
     ·rw[A]
      simp only[Instr.sliceAt,Instr.sureAddr,Fb,qh,run_underlying N,Nb];rw[show(none:Option Operand).map a.eval=none from rfl,X];simp only[Nb,run_sizeOf D]
     grind [Rd,Addr.add]
    grind
   grind
 |extract x i=>
  obtain⟨y,E,rfl⟩:=qm q;have A:=dc hs E;simp only[bb]at B;split at B
  ·rename_i vs e
   rw[e]at A;obtain⟨us,A,r1⟩:=A;obtain⟨v,V,hr⟩:=r1.get _ _ B;refine⟨v,val ?_,hr⟩;simp only[Instr.extract];simp_all
  grind
 |makeFunc fn first Ya=>
  cases fn with
  |func f=>
   simp only[ag]at q;split at q
   ·rename_i T
    obtain⟨ys,E,rfl⟩:=qm q;cases B;have hr:=zy hs E;refine⟨.func (.func f) #[] (Ya.map a.eval),val ?_,by exact⟨Ya.toList.map a.eval,by apply congrArg;grind,hr⟩⟩;have:first=#[]:=by simpa using T
    subst this;simp[Instr.makeFunc]
   split at q
   ·rename_i T
    obtain⟨ys,E,rfl⟩:=qm q;cases B;have hr:=zy hs E;refine⟨.func (.func f) (first.map a.eval) #[],val ?_,by exact⟨first.toList.map a.eval,by unfold uo;rw[if_pos (Nat.mul_mod_right 2 f),Nat.mul_div_cancel_left f ha];apply congrArg (fun z=>Value.func (.func f) z #[]);apply ei;simp,hr⟩⟩;have:Ya=#[]:=by simpa using T
    subst this;simp[Instr.makeFunc]
   grind
  |_=>cases q
 |makeInterface t x=>
  simp only[ag]at q;split at q
  ·cases q
  ·cases q
  ·rename_i d K hnZ
   obtain⟨y,E,rfl⟩:=qm q;cases B;have A:=dc hs E;have e1:∀n:Nat,(2* n+1)/2=n/\¬(2* n+1) % 2=0:=fun n=>by omega
   refine⟨.iface t (a.eval x),val ?_,⟨[a.eval x],by unfold uo;rw[if_neg (e1 t).2,(e1 t).1];rfl,⟨_,_,rfl,A,rfl⟩⟩⟩;cases W:P.underlying t with
   |none=>exact absurd W (by assumption)
   |some d=>
    simp only[Instr.makeInterface,Fb,run_underlying W,Nb];cases d<;>first|rfl|exact absurd W la
 |call cl=>
  obtain⟨callee,args,K⟩:=cl;have two:∀{x y:Operand},args.toList=[x,y]->args=#[x,y]:=fun h=>by
   grind
  cases callee with
  |value f=>cases q
  |invoke r m=>cases q
  |builtin b=>
   cases b with
   |len=>
    simp only[ag]at q;split at q
    ·rename_i x t e1 e2
     have Q:args=#[x]:=by apply ei;rw[e1]
     have R:K=#[t]:=by apply ei;rw[e2]
     subst Q;subst R;split at q
     ·rename_i ht
      obtain⟨y,E,rfl⟩:=qm q;have A:=dc hs E;simp only[bb]at B;split at B
      ·rename_i s e;cases B
       rw[e]at A;obtain⟨A,_⟩:=Oc A;refine⟨_,?_,dg rfl⟩;have:(Builtin.len_ #[t] ty #[a.eval x]).run P w=.ok (.int .i64 s.size) w:=by
        rw[A];simp[Builtin.len_,run_underlying ht,goInt]
       show(do let d <-resolve a.eval ⟨.builtin .len,#[x],#[t]⟩ ty;invoke d.target d.args:Sem Next).run P w=_
       grind [resolve,invoke,builtin]
      grind
     ·rename_i elZ ht
      obtain⟨y,E,rfl⟩:=qm q;have A:=dc hs E;simp only[bb]at B;split at B
      ·rename_i n cs e;cases B
       rw[e]at A;obtain⟨b,G,A,_⟩:=A;refine⟨_,?_,dg rfl⟩;have:(Builtin.len_ #[t] ty #[a.eval x]).run P w=.ok (.int .i64 n) w:=by
        rw[A];simp[Builtin.len_,run_underlying ht,goInt]
       show(do let d <-resolve a.eval ⟨.builtin .len,#[x],#[t]⟩ ty;invoke d.target d.args:Sem Next).run P w=_
       grind [resolve,invoke,builtin]
      ·rename_i b o n e;cases B
       rw[e]at A;obtain⟨g,a0,G,_,A,_⟩:=A;refine⟨_,?_,dg rfl⟩;have:(Builtin.len_ #[t] ty #[a.eval x]).run P w=.ok (.int .i64 n) w:=by
        rw[A];simp[Builtin.len_,run_underlying ht,goInt]
       show(do let d <-resolve a.eval ⟨.builtin .len,#[x],#[t]⟩ ty;invoke d.target d.args:Sem Next).run P w=_
       grind [resolve,invoke,builtin]
      ·rename_i e;cases B
       rw[e]at A;obtain⟨A,_⟩:=Oc A;refine⟨_,?_,dg rfl⟩;have:(Builtin.len_ #[t] ty #[a.eval x]).run P w=.ok (.int .i64 0) w:=by
        rw[A];simp[Builtin.len_,run_underlying ht,goInt]
       show(do let d <-resolve a.eval ⟨.builtin .len,#[x],#[t]⟩ ty;invoke d.target d.args:Sem Next).run P w=_
       grind [resolve,invoke,builtin]
      grind
     grind
    grind
   |max=>
    simp only[ag]at q;split at q
    ·rename_i x y e1
     have Q:=two e1;subst Q;obtain⟨S,F,q⟩:=qb q;obtain⟨y'Z,L,rfl⟩:=qm q;have A:=dc hs F;have E:=dc hs L;simp only[bb]at B;split at B
     ·rename_i k m k' n e2 e3
      split at B
      ·cases B;rw[e2]at A;rw[e3]at E
       obtain⟨A,_⟩:=Oc A;obtain⟨E,_⟩:=Oc E;refine⟨.int k (if n>m then n else m),?_,dg rfl⟩;have:(Builtin.max_ K ty #[a.eval x,a.eval y]).run P w=.ok (.int k (if n>m then n else m)) w:=by
        rw[A,E];rfl
       show(do let d <-resolve a.eval ⟨.builtin .max,#[x,y],K⟩ ty;invoke d.target d.args:Sem Next).run P w=_
       grind [resolve,invoke,builtin]
      grind
     grind
    grind
   |min=>
    simp only[ag]at q;split at q
    ·rename_i x y e1
     have Q:=two e1;subst Q;obtain⟨S,F,q⟩:=qb q;obtain⟨y'Z,L,rfl⟩:=qm q;have A:=dc hs F;have E:=dc hs L;simp only[bb]at B;split at B
     ·rename_i k m k' n e2 e3
      split at B
      ·cases B;rw[e2]at A;rw[e3]at E
       obtain⟨A,_⟩:=Oc A;obtain⟨E,_⟩:=Oc E;refine⟨.int k (if n<m then n else m),?_,dg rfl⟩;have:(Builtin.min_ K ty #[a.eval x,a.eval y]).run P w=.ok (.int k (if n<m then n else m)) w:=by
        rw[A,E];rfl
       show(do let d <-resolve a.eval ⟨.builtin .min,#[x,y],K⟩ ty;invoke d.target d.args:Sem Next).run P w=_
       grind [resolve,invoke,builtin]
      grind
     grind
    grind
   |_=>cases q
 |_=>cases q
end
structure S0 where
 base:Nat
 M:Nat→Prop
 w0:World
 F0:Nat→Nat
 nt:Nat
 sw:World
 sF:Nat→Nat
 sβ:List Nat
 T:List Deferred
def Rl(P:Program)(S:S0)(st:St)(a:Act)(w:World):Prop:=∃Fr β,Rel P S.T S.base S.M S.w0 S.F0 S.nt st a w Fr β/\Le S.sw S.sF S.sβ w Fr β
def Nq(P:Program):Op->Option Ea
 | .alloc elem=>(yx P elem).map (.alloc elem)
 | .box elem x=>(Tg P elem).bind fun n=>(xb x).map fun x=>.box elem n x
 | .buildSlice t len ps=>match P.underlying t with
   |some (.slice e)=>(Tg P e).bind fun n=>if 0<n/\len* n<=16777216 then(yx P e).bind fun zs=>if zs.length=n then(Oq (fun i=>some (i* n,n)) ps.toList).map fun qs=>.mksl (e==U8 P) len n ((List.range (len* n)).map fun i=>zs.getD (i % n) .Ad) qs else none else none
   |_=>none
 | .convert a dst x=>(xb x).bind fun x=>match P.underlying a,P.underlying dst with
   |some (.slice e),some .string=>match P.underlying e with|some (.int .u8)=>some (.b2s x)|_=>none
   |_,_=>none
 | .load t x=>(Oe P t).bind fun g=>(Tg P t).bind fun n=>if g=true\/n=1 then(xb x).map fun x=>.load g n x else none
 | .store t x y=>(Tg P t).bind fun n=>(xb x).bind fun x=>(xb y).bind fun y=>if 0<n then some (.store n x y)else none
 | .call {callee:=.builtin .append,args,argTypes}=>match args.toList,argTypes.toList with
   |[x,y],[t,a]=>(match P.underlying t,P.underlying a with
    |some (.slice e),some .string=>(P.info? e).bind fun i=>if e=U8 P/\i.size=1/\i.bytes<=32768/\(i.zero.map fun z=>z.cells.size)=some i.size then(xb x).bind fun x=>(xb y).map fun y=>.appendS x y else none
    |some (.slice e),some (.slice _)=>(P.info? e).bind fun i=>if 0<i.size/\i.bytes<=32768/\(i.zero.map fun z=>z.cells.size)=some i.size then(xb x).bind fun x=>(xb y).map fun y=>(.append (e==U8 P) i.size x y)else none
    |_,_=>none)
   |_,_=>none
 |_=>none
section
variable {P:Program} {w w':World} {Fr Fr':Nat→Nat} {β β':List Nat} {T:List Deferred} {base nt:Nat} {M:Nat→Prop} {w0:World} {F0:Nat→Nat} {st st':St} {a a':Act}
theorem zv{p}(h:Ec p=true):p=.flat (.slice none 0 0):=by
 grind [Ec]
theorem GJ{p}(h:Ec p=false):wk p=p:=by simp[wk,h]
def vH:Rd w Fr β (.ga 0 []) (.slice none 0 0):=by grind [Rd]
def eA:og P w Fr (.ga 0 []) (.slice none 0 0):=⟨0,[],rfl,.inl rfl⟩
theorem EB{p}{v}(h:Rd w Fr β p v):Rd w Fr β (wk p) v:=by
 unfold wk;split
 ·rename_i e
  rw[zv e]at h;obtain⟨rfl,_⟩:=Oc h;exact vH
 omega
theorem ra.ib:∀(ps)(vs),ra w Fr β ps vs->ra w Fr β (Dd ps) vs
 |[],_,h=>by grind [Dd]
 |p::ps,vs,h=>by
  simp only[Dd,ra]at h⊢;obtain⟨v,r,a,b,c⟩:=h;exact⟨v,r,a,EB b,ra.ib ps r c⟩
theorem Rd.ib(p)(v)(h:Rd w Fr β p v):Rd w Fr β p.ib v:=by
 cases p<;>grind [EB,PV.ib,Rd,ra.ib]
theorem tx:∀l,l.map wk=Dd l
 |[]=>rfl
 |p::r=>by rw[Xb,tx r];rfl
theorem EJ:∀ps,(Dd ps).length=ps.length
 |[]=>by rfl
 |p::r=>by simp only[Dd,sa,EJ r]
theorem WS{b}:∀{ps}{o}{L},L∈gd b o ps->∃j,L=.cell b (o+j)/\ps[j]?=some (.flat (.slice none 0 0))
 |[],o,L,h=>by grind [gd]
 |p::r,o,L,h=>by
  have d:L∈gd b (o+1) r->∃j,L=.cell b (o+j)/\(p::r)[j]?=some (.flat (.slice none 0 0)):=fun h=>by
   obtain⟨j,a,c⟩:=WS h;exact⟨j+1,la,la⟩
  unfold gd at h;split at h
  ·rename_i e
   rcases wb.1 h with rfl|h
   ·exact⟨0,rfl,by grind [zv]⟩
   grind
  grind
theorem uI:∀{pre mid post}{vs},ra w Fr β (pre++mid++post) vs->ra w Fr β (pre++mid.map wk++post) vs
 |p::pre,mid,post,vs,h=>by
  simp only[Fa,ra]at h⊢;obtain⟨v,r,a,b,c⟩:=h;exact⟨v,r,a,b,uI c⟩
 |[],[],post,vs,h=>h
 |[],p::mid,post,vs,h=>by
  simp only[Ma,Xb,Fa,ra]at h⊢;obtain⟨v,r,a,b,c⟩:=h;exact⟨v,r,a,EB b,uI (pre:=[]) c⟩
theorem AE{p}(a:Ec p=false):∀{pre mid post:List PV}{j:Nat},(pre++mid++post)[j]?=some p->(pre++mid.map wk++post)[j]?=some p
 |q::pre,mid,post,0,h=>by grind
 |q::pre,mid,post,j+1,h=>by
  simp only[Fa,yk]at h⊢;exact AE a h
 |[],[],post,j,h=>h
 |[],q::mid,post,0,h=>by
  grind [GJ]
 |[],q::mid,post,j+1,h=>by
  simp only[Ma,Fa,yk,Xb]at h⊢;exact AE a (pre:=[]) h
theorem og.ga{p}{v}(h:og P w Fr p v):Ec p=false:=by
 obtain⟨n,cs,rfl,_⟩:=h;rfl
def Rel.FJ(R:Rel P T base M w0 F0 nt st a w Fr β){b e}{pre mid post}(E:st.bx[b]?=some (e,pre++mid++post)):
 Rel P T base M w0 F0 nt {st with bx:=st.bx.set b (e,pre++mid.map wk++post),ow:=gd b pre.length mid++st.ow} a w Fr β:=by
 have fa:b<st.bx.length:=(qg E).1;obtain⟨g,F,hF,l⟩:=R.bx.2 b _ E;have D:Dk P w Fr β (e,pre++mid.map wk++post) g:=by
  rcases l with⟨vs,A,i,r,B,C⟩|⟨f,k,s,live,d,o,i⟩
  ·exact .inl ⟨vs,A,i,uI r,B,C⟩
  ·have v:mid.map wk=mid:=by
    have:mid.map wk=mid.map id:=zl fun p t=>by
     have j:p∈pre++mid++post:=by simp[t]
     dsimp only at o;rw[o,Ao]at j;rw[j];rfl
    rw[this,List.map_id]
   exact .inr ⟨f,k,s,live,d,la,i⟩
 refine R.next (Le.refl _ _ _) R.sl R.nt rfl ⟨by rw[Kc];exact R.bx.1,fun z n c=>?_⟩ R.nd (fun g h=>.inl h) some (fun L I=>?_) (fun L _ H _ y O h Q=>y la) (fun L _ H _ _ h=>by cases h) R.al (fun _ _ _ _=>⟨rfl,rfl⟩) rfl rfl rfl
 ·by_cases j:z=b
  ·grind
  ·rw[rB (Wf j)]at c
   exact R.bx.2 z n c
 ·rcases We.1 I with h|h
  ·obtain⟨j,rfl,x⟩:=WS h
   have J:=(qg x).1;have t:(pre++mid++post)[pre.length+j]?=some (.flat (.slice none 0 0)):=by
    rw[Ac,Af aa,yl aa];rw[yi];exact x
   have G:w.cell? ⟨g,pre.length+j,none⟩=some (.slice none 0 0):=by
    rcases l with⟨vs,A,i,r,B,C⟩|⟨f,k,s,live,d,o,i⟩
    ·obtain⟨v,S,N⟩:=r.get _ _ t
     obtain⟨rfl,_⟩:=Oc N;rw[cell_of_row _ _ _ _ _ _ i];grind
    ·grind
   refine⟨.slice none 0 0,.ga 0 [],by grind [Ga],?_,eA,fun k K=>by cases K⟩;simp only[ab];rw[Vg fa];simp only[Ja];rw[Ac,Af aa,yl (by rw[qn];omega),yi,jx,x];rfl
  ·obtain⟨u,q,j,v,t⟩:=R.own L h
   refine⟨u,q,j,?_,t,fun g F=>.inr ⟨L,h,rfl,u,j,F⟩⟩;cases L<;>grind [ab,AE,og.ga]
theorem Wv:∀(l)(i),look (l.map fun q=>(q.1,wk q.2)) i=wk (look l i)
 |[],i=>rfl
 |(j,v)::r,i=>by
  simp only[Xb,look];split
  ·rfl
  ·exact Wv r i
theorem Rel.ik(R:Rel P T base M w0 F0 nt st a w Fr β)(live):Rel P T base M w0 F0 nt (st.ik live) a w Fr β:=by
 refine R.next (Le.refl _ _ _) (fun i=>by simp only[St.ik,Wv];exact EB (R.sl i)) R.nt rfl R.bx R.nd (fun g h=>.inl h) some (fun L j=>?_) (fun L _ e _ c o h p=>c la) (fun L _ e _ _ h=>by cases h) R.al (fun _ _ _ _=>⟨rfl,rfl⟩) rfl rfl rfl;rcases We.1 j with h|h
 ·obtain⟨i,l,rfl⟩:=zi.1 h
  have d:=zv (Yc.1 l).2;have b:=R.sl i;rw[d]at b;obtain⟨b,_⟩:=Oc b;exact⟨.slice none 0 0,.ga 0 [],by grind [Ga],by simp only[ab,St.ik,Wv,d];rfl,eA,fun k n=>by cases n⟩
 ·obtain⟨u,q,b,n,l⟩:=R.own L h
  refine⟨u,q,b,?_,l,fun g d=>.inr ⟨L,h,rfl,u,b,d⟩⟩;cases L<;>grind [ab,St.ik,Wv,GJ,og.ga]
theorem Rl.ik{S}(h:Rl P S st a w)(live):Rl P S (st.ik live) a w:=by
 obtain⟨Fr,β,R,b⟩:=h;exact⟨Fr,β,R.ik live,b⟩
def kf(Fr:Nat->Nat)(g n:Nat):Nat->Nat:=fun k=>if k=g then n else Fr k
theorem Sr{Fr}{g n k}(h:k<g):kf Fr g n k=Fr k:=if_neg (Nat.ne_of_lt h)
theorem Iu(w)(o):Below w.heap.size w (w.alloc o):=(Below.refl _ w).alloc (Aa _) o
def zdA(w:World)(vs)(e)(β:List Nat)(Fr):Row (w.alloc (.cells vs.toArray e)) (kf Fr w.heap.size vs.length) w.heap.size 0 vs:=fun j v a=>by
 have b:=(qg a).1;refine⟨by grind [kf.eq_1],?_⟩;simp_all
theorem Rel.lt(R:Rel P T base M w0 F0 nt st a w Fr β):∀g∈β,g<w.heap.size:=fun g b=>R.bx.lt b
theorem Rel.TB(R:Rel P T base M w0 F0 nt st a w Fr β)(c:Below w.heap.size w w')(A:∀g,g<w.heap.size->Fr' g=Fr g){l}{cs}(J:w.heap.size<=l)(hF:Fr' l=0)(H:Le w Fr β w' Fr' (β++[l])->Dk P w' Fr' (β++[l]) cs l):
 Rel P T base M w0 F0 nt {st with bx:=st.bx++[cs]} a w' Fr' (β++[l])/\Le w Fr β w' Fr' (β++[l]):=by
 have x:=R.lt;have y:Le w Fr β w' Fr' (β++[l]):=⟨c.size,fun b h=>by grind,fun b o h _=>c.cell (p:=⟨b,o,none⟩) h,fun i g h=>by grind,fun g r h=>⟨r,(c.block g (Nh.1 h).1).trans h⟩⟩;have I:st.bx.length=β.length:=R.bx.1;have d:∀L v,Ga a w β L=some v->Ga a w' (β++[l]) L=some v:=fun L v D=>by
  cases L with
  |slot i=>exact D
  |cell b j=>
   simp only[Ga]at D⊢;obtain⟨g,n,z⟩:=qb D;rw[yl (qg n).1,n];exact(c.cell (p:=⟨g,j,none⟩) (x g (di n))).trans z
 have C:∀L p,ab st L=some p->ab {st with bx:=st.bx++[cs]} L=some p:=fun L p S=>by
  cases L<;>grind [ab]
 refine⟨R.next y (fun i=>(R.sl i).mono y) R.nt rfl ⟨la,fun b k t=>?_⟩ ?_ ?_ some (fun L E=>?_) (fun L _ G _ B O h Q=>B la) (fun L _ G _ _ h=>by cases h) (fun q K=>d _ _ (R.al q K)) (fun b h _ _=>⟨c.block b h,A b h⟩) c.os c.tape c.output,y⟩
 ·have j:(st.bx++[cs])[b]?=some k:=t
  by_cases h:b<st.bx.length
  ·rw[yl h]at j
   obtain⟨g,n,z,F⟩:=R.bx.2 b k j;have e:=x g (di n);exact⟨g,la,(A g e).trans z,F.kept y (c.block g e)⟩
  grind
 ·grind [nd]
 ·grind
 ·obtain⟨u,q,F,N,j⟩:=R.own L E
  exact⟨u,q,d L u F,C L q N,j.kept fun g e=>⟨c.block g (j.lt e),A g (j.lt e)⟩,fun g e=>.inr ⟨L,E,rfl,u,F,e⟩⟩
def Rel.jT(R:Rel P T base M w0 F0 nt st a w Fr β){d}(k:d<nt){zs}{vs}{e}(n:ra w Fr β zs vs)(l:fd vs):
 let w':=w.alloc (.cells vs.toArray e)
 Rel P T base M w0 F0 nt {(st.put d (.ptr st.bx.length 0))with bx:=st.bx++[(e,zs)]} (a.put (some d) (.pointer (some ⟨w.heap.size,0,none⟩))) w' (kf Fr w.heap.size 0) (β++[w.heap.size])/\Le w Fr β w' (kf Fr w.heap.size 0) (β++[w.heap.size]):=by
 intro w';have i:Below w.heap.size w w':=Iu w _;obtain⟨c,b⟩:=R.TB (Fr':=kf Fr w.heap.size 0) (cs:=(e,zs)) i (fun g h=>Sr h) (Aa _) (by simp[kf]) fun b=>.inl ⟨vs,e,heap_alloc_new w _,n.mono b,l,rfl⟩
 have j:st.bx.length=β.length:=R.bx.1;refine⟨?_,b⟩;have:=c.put k (p:=.ptr st.bx.length 0) (v:=.pointer (some ⟨w.heap.size,0,none⟩)) (by
  grind [Rd])
 exact this
def G_{D a}(h:mark D=mark a):D=a:=by
 grind [mark]
theorem nH{T}:∀{a b:List Nat},a.map mark++T=b.map mark++T->a=b
 |[],[],_=>rfl
 |[],e::b,h=>by have:=congrArg List.length h;grind
 |d::a,[],h=>by have:=congrArg List.length h;grind
 |d::a,e::b,h=>by
  simp only[Xb,Fa,Wr]at h;rw[G_ h.1,nH h.2]
def Rel.uX(R:Rel P T base M w0 F0 nt st a w Fr β){D}(u:base<=D)(x:w.heap[D]?=some (.deferred (some [])))(l:∀c:List Nat,a.defers=c.map mark++T->D∉c):Rel P T base M w0 F0 nt st {a with defers:=mark D::a.defers} w Fr β:=by
 have d:∀L,Ga {a with defers:=mark D::a.defers} w β L=Ga a w β L:=fun L=>by rfl
 refine⟨R.sl,R.nt,?_,R.bx,R.nd,fun L b=>by rw[d];exact R.own L b,fun L b k e h v r g=>by rw[d,d];exact R.sep L b k e h v r g,fun L b v g=>by rw[d];exact R.out L b v g,fun q p=>by rw[d];exact R.al q p,fun g o=>R.may g (o.imp id fun⟨L,b,v,j,i⟩=>⟨L,b,v,la,i⟩),R.old,R.ge,R.os,R.tape,R.output⟩;obtain⟨c,j,i,y⟩:=R.df;refine⟨D::c,List.nodup_cons.2 ⟨l c i,j⟩,la,fun t n=>?_⟩
 grind
def NV{α:Type}{l m:List α}{o n j}(c:m.length=n)(e:o+n<=l.length)(d:¬(o<=j/\j<o+n)):(l.take o++m++l.drop (o+n))[j]?=l[j]?:=by
 have a:(l.take o).length=o:=by rw[Ue];omega
 by_cases h:j<o
 ·grind
 ·have b:(l.take o++m).length=o+n:=by rw[Da,a,c]
  rw[Af aa,b,lg]
  grind
def MV{α:Type}{l m:List α}{o n j}(c:m.length=n)(b:o+n<=l.length)(a:j<n):(l.take o++m++l.drop (o+n))[o+j]?=m[j]?:=by
 grind
def ze0{α:Type}{l m:List α}{o n}(b:m.length=n)(a:o+n<=l.length):(l.take o++m++l.drop (o+n)).length=l.length:=by
 grind
theorem XS{b o n a j}(h:Od b o n (.cell a j)=false):a≠b\/¬(o<=j/\j<o+n):=by
 grind [Od]
theorem Rel.store(R:Rel P T base M w0 F0 nt st a w Fr β){b o n g:Nat}{cs ps}{vs us}{e:TypeId}(N:st.bx[b]?=some (e,cs))(H:β[b]?=some g)(hhZ:w.heap[g]?=some (.cells vs.toArray e (0,0)))(W:ra w Fr β cs vs)(X:fd vs)
 (hpZ:ra w Fr β ps us) (hpo:fd us) (hnZ:us.length=n) (U:0<n) (S:o+n<=cs.length) (K)
 (hKZ:∀s,K=some s->∃v p,us=[v]/\ps=[p]/\(Loc.slot s∈st.ow/\a.tmps.getD s undef=v/\look st.sl s=p))
 (st':St) (h1Z:st'.sl=st.sl) (Z:st'.bx=st.bx.set b (e,cs.take o++ps++cs.drop (o+n)))
 (h3Z:∀L∈st'.ow,(L∈st.ow/\Od b o n L=false/\∀s,K=some s->L≠.slot s)\/(L=.cell b o/\(K.isSome\/(us=[.slice none 0 0]/\ps=[.ga 0 []]))))
 (h4Z:∀q∈st'.al,q∈st.al/\Od b o n q.2=false):
 let w':=w.setRow g (vs.take o++us++vs.drop (o+n)).toArray
 Rel P T base M w0 F0 nt st' a w' Fr β/\Le w Fr β w' Fr β:=by
 intro w';have hvl:vs.length=cs.length:=W.length;have V:ps.length=n:=by rw[<-hpZ.length];exact hnZ
 have d:∀k,k≠g->w'.heap[k]?=w.heap[k]?:=fun k t=>setRow_other w g k _ t
 have y:w'.heap[g]?=some (.cells (vs.take o++us++vs.drop (o+n)).toArray e (0,0)):=setRow_heap w g _ _ e (0,0) hhZ;have hgm:g∈β:=di H;obtain⟨g0Z,b1,hF,_⟩:=R.bx.2 b _ N;rw[H]at b1;cases b1;have Q:Le w Fr β w' Fr β:=⟨by simp[w',World.setRow],fun _ _=>Aa _,fun k j t hjZ=>by
  have x:k≠g:=fun e=>by grind
  simp only[World.cell?,d k x],fun _ _ h=>h,fun k r t=>⟨r,(d k fun e=>by grind).trans t⟩⟩
 have Jd:∀A j z,β[A]?=some z->(A≠b\/¬(o<=j/\j<o+n))->w'.cell? ⟨z,j,none⟩=w.cell? ⟨z,j,none⟩:=fun A j z O hjZ=>by
  by_cases E:z=g
  ·subst E
   have G:A=b:=by
    have l1Z:=(qg O).1;have l2Z:=(qg H).1;exact(List.getElem?_inj l1Z R.nd).1 (O.trans H.symm)
   have hj':¬(o<=j/\j<o+n):=hjZ.resolve_left (fun h=>h G);rw[cell_of_row _ _ _ _ _ _ y,cell_of_row _ _ _ _ _ _ hhZ];have:=NV (l:=vs) (m:=us) hnZ aa hj';simpa using this
  ·simp only[World.cell?,d z E]
 have D:∀L,Od b o n L=false->Ga a w' β L=Ga a w β L:=fun L B=>by
  cases L<;>grind [Ga,XS]
 have hpv:∀L,Od b o n L=false->ab st' L=ab st L:=fun L B=>by
  cases L with
  |slot i=>simp only[ab,h1Z]
  |cell A j=>
   simp only[ab,Z];by_cases E:A=b
   ·subst E
    have hjZ:=(XS B).resolve_left (fun h=>h rfl);rw[Vg (qg N).1,N];simp only[Ja];exact NV V S hjZ
   ·grind
 have F:∀L∈st.ow,∀v p,Ga a w β L=some v->og P w Fr p v->og P w' Fr p v:=fun L B v p W hoZ=>hoZ.kept fun k t=>⟨d k fun e=>R.out L B v k W t (e▸hgm),rfl⟩
 have C:∀L,Od b o n L=false->L≠.cell b o:=fun L B e=>by grind [Od]
 refine⟨R.next Q (fun i=>by rw[h1Z];exact(R.sl i).mono Q) R.nt rfl ⟨by rw[Z,Kc];exact R.bx.1,fun A cs' c=>?_⟩ R.nd (fun g h=>.inl h) (fun L=>match K with|some s=>some (if L=.cell b o then .slot s else L)|none=>if L=.cell b o then none else some L) (fun L B=>?_) (fun L B L'Z hL' x L0Z h h'Z=>?_) (fun L B L'Z hL' x h h'Z=>?_) (fun q I=>?_) (fun k t hMZ _=>?_) rfl rfl rfl,Q⟩
 ·rw[Z]at c
  by_cases E:A=b
  ·subst E
   rw[Vg (qg N).1]at c;cases c;exact⟨g,H,hF,.inl ⟨_,e,y,(((W.take o).append hpZ).append (W.drop (o+n))).mono Q,((X.take o).append hpo).append (X.drop (o+n)),rfl⟩⟩
  ·rw[rB (Wf E)]at c
   obtain⟨z,J,G,k2Z⟩:=R.bx.2 A cs' c;have x:z≠g:=fun e=>by
    subst e
    grind [List.getElem?_inj,nd]
   exact⟨z,J,G,k2Z.kept Q (d z x)⟩
 ·rcases h3Z L B with⟨Y,G,m3Z⟩|⟨rfl,G⟩
  ·obtain⟨v,p,J,k2Z,k3Z⟩:=R.own L Y
   have hnc:=C L G;refine⟨v,p,by rw[D L G];exact J,by rw[hpv L G];exact k2Z,F L Y v p J k3Z,fun k t=>.inr ⟨L,Y,?_,v,J,t⟩⟩;cases K<;>simp[hnc]
  ·have hv0:∀u,us=[u]->Ga a w' β (.cell b o)=some u:=fun u huZ=>by
    subst huZ;have hn':n=1:=hnZ.symm;simp only[Ga,H,Ja];rw[cell_of_row _ _ _ _ _ _ y];have:=MV (l:=vs) (m:=[u]) (o:=o) (n:=n) (j:=0) hnZ aa U;simpa using this
   have hp0:∀q,ps=[q]->ab st' (.cell b o)=some q:=fun q I=>by
    subst I;simp only[ab,Z];rw[Vg (qg N).1];simp only[Ja];have:=MV (l:=cs) (m:=[q]) (o:=o) (n:=n) (j:=0) V S U;rw[ci]at this;simpa using this
   cases K with
   |none=>
    rcases G with h|⟨huZ,I⟩
    ·cases h
    ·exact⟨_,_,hv0 _ huZ,hp0 _ I,⟨0,[],rfl,.inl rfl⟩,fun k t=>by cases t⟩
   |some s=>
    obtain⟨v,p,huZ,I,hs,haZ,hlk⟩:=hKZ s rfl;obtain⟨v'Z,p'Z,J,k2Z,k3Z⟩:=R.own _ hs
    grind [Ga,ab]
 ·have old:∀G,G∈st'.ow->G≠.cell b o->G∈st.ow/\∀s,K=some s->G≠.slot s:=fun G hK' hne'=>by
   rcases h3Z G hK' with⟨Y,_,m3Z⟩|⟨e,_⟩
   ·exact⟨Y,m3Z⟩
   grind
  cases K<;>grind
 ·cases K<;>grind
 ·obtain⟨G,q2Z⟩:=h4Z q I
  rw[D _ q2Z];exact R.al q G
 grind
end
section
variable {P:Program} {w w':World} {Fr Fr':Nat→Nat} {β β':List Nat} {T:List Deferred} {base nt:Nat} {M:Nat→Prop} {w0:World} {F0:Nat→Nat} {st st':St} {a a':Act}
theorem add_eq(g o j):(⟨g,o,none⟩:Addr).add j=⟨g,o+j,none⟩:=by
 grind [Addr.add]
def QV{m size}{d}{v}{e i}(p:P.underlying e=some (.slice i))(h:Rd w Fr β (.ga m d) v)(q:d.length=m* size):∃a,Src P size e v m a w/\ra w Fr β d a/\fd a:=by
 obtain⟨b,c,rfl,t,r⟩:=h;rcases r with⟨k,l⟩|⟨g,o,vs,rfl,r1,r2,r3⟩
 ·subst k;refine⟨[],?_,pa,fun u j=>by cases j⟩
  cases b<;>grind [Src.ofNil,Src.ofSlice]
 ·exact⟨vs,Src.ofSlice w p _ m c vs (by rw[r2.length,q]) (fun j u n=>by rw[add_eq];exact(r1 j u n).2) r3,r2,r3⟩
def zdF(t n ty e e2)(i)(ht:P.underlying t=some (.slice e))(p:P.info? e=some i)(g a d)(c)(o:w.heap[g]?=some (.cells c e2 (0,0)))
 (x) (m) (b) (hs:Src P i.size n x m b w) (h:a+m<=d) (k:a* i.size+b.length<=c.size):
 (Builtin.append_ #[t,n] ty #[.slice (some ⟨g,0,none⟩) a d,x]).run P w=.ok (.slice (some ⟨g,0,none⟩) (a+m) d) (w.setRow g (c.toList.take (a* i.size)++b++c.toList.drop (a* i.size+b.length)).toArray):=by
 have j:=run_storeCells_at P g (a* i.size) e2 b 0 c w o aa hs.one;simp only[ci]at j;rcases hs.kind with⟨q,l⟩|l<;>simp[Builtin.append_,run_underlying ht,run_underlying l,Go.sizeOf,typeInfo,p,hs.len,h,hs.cells,Addr.add_lit,j]
def HI(t c ty e)(i)(ht:P.underlying t=some (.slice e))(d:P.info? e=some i)(x)(a)(hs:Src P i.size c x 0 a w):
 (Builtin.append_ #[t,c] ty #[.slice none 0 0,x]).run P w=.ok (.slice none 0 0) w:=by
 rcases hs.kind with⟨g,b⟩|b<;>simp[Builtin.append_,run_underlying ht,run_underlying b,Go.sizeOf,typeInfo,d,hs.len,hs.cells]
theorem wH:∀{cs a},td cs=true->td a=true->td (cs++a)=true
 |[],a,_,h=>h
 |p::cs,a,h,b=>by
  simp only[td,cc,Fa]at h⊢;exact⟨h.1,wH h.2 b⟩
theorem zhn:∀{cs},pg cs=true->td cs=true->cs=[]
 |[],_,_=>rfl
 |p::cs,h,a=>by
  grind [td,pg]
structure HB (P:Program) (w:World) (Fr:Nat→Nat) (β:List Nat) (v:Value) (p:PV) (v':Value) (w':World) (Fr':Nat→Nat):Prop where
 le:Le w Fr β w' Fr' β
 rd:Rd w' Fr' β p v'
 own:og P w' Fr' p v'
 gD:∀ k,v'.ownBlock=some k→v.ownBlock=some k∨w.heap.size≤k
 old:∀ k,k<w.heap.size→v.ownBlock≠some k→w'.heap[k]? =w.heap[k]? ∧Fr' k=Fr k
 os:w'.os=w.os
 tape:w'.tape=w.tape
 output:w'.output=w.output
def Ux{t S ty e}{i}{z}(ht:P.underlying t=some (.slice e))(hiZ:P.info? e=some i)(hzZ:i.zero=some z)(hzs:z.cells.size=i.size)(hsz:0<i.size)(hby:i.bytes<=32768)
 {n m} {cs G} {v x} (R:Rd w Fr β (.ga n cs) v) (hoZ:og P w Fr (.ga n cs) v) {a} (F:Src P i.size S x m a w) (L:ra w Fr β G a) (W:fd a) (hcZ:cs.length=n* i.size) (hdZ:G.length=m* i.size) (h8Z:(e=U8 P/\pg cs=true)\/i.size≠1\/(td cs=true/\td G=true)) (hbZ:n+m<=za):
 ∃v'Z w' Fr',(Builtin.append_ #[t,S] ty #[v,x]).run P w=.ok v'Z w'/\HB P w Fr β v (.ga (n+m) (cs++G)) v'Z w' Fr':=by
 have V:a.length=m* i.size:=by rw[L.length,hdZ]
 have hbd:n+m<=4294967296:=hbZ;obtain⟨d,M,J,T⟩:∃d,ra w Fr β cs d/\fd d/\∀g o c,v=.slice (some ⟨g,o,none⟩) n c->Row w Fr g o d:=by
  obtain⟨b,c,rfl,_,R⟩:=R;rcases R with⟨l,_⟩|⟨g,o,vs,I,r1,r2,r3⟩
  ·subst l;exact⟨[],pa,(fun u O=>by cases O),fun g o c _ j u D=>by cases D⟩
  grind
 have X:d.length=n* i.size:=by rw[M.length,hcZ]
 have grow:∀(bsZ:Option Addr)(c:Nat),v=.slice bsZ n c->(Builtin.firstCells i.size n (.slice bsZ n c)).run P w.drew=.ok d.toArray w.drew->c<n+m->∃v'Z w' Fr',(Builtin.append_ #[t,S] ty #[v,x]).run P w=.ok v'Z w'/\HB P w Fr β v (.ga (n+m) (cs++G)) v'Z w' Fr':=by
  intro bsZ c hve hfZ fa;subst hve;have Z:Builtin.nextslicecap (n+m) c* i.bytes<=281474976710656:=by
   have h1Z:=nextslicecap_le (need:=n+m) (old:=c) fa
   calc Builtin.nextslicecap (n+m) c* i.bytes<=(2* (n+m))* 32768:=Nat.mul_le_mul h1Z hby
    _<=_:=aa
  have y:=run_append_grow_src (P:=P) w t S ty e i z ht hiZ hzZ bsZ n c d hfZ x m a F fa aa Z;obtain⟨C,Q⟩:∃C,(d++a).toArray++Builtin.zeroCells z.cells (grownCap w (n+m) c e - (n+m))=C:=⟨_,rfl⟩;rw[Q]at y;have U:=grownCap_ge w (n+m) c e;have hmx:grownCap w (n+m) c e<=maxLen:=grownCap_le_maxLen w _ _ _ (by grind [maxLen]);have l:Below w.heap.size w (w.drew.alloc (.cells C e)):=(show Below w.heap.size w w.drew from⟨rfl,rfl,rfl,Aa _,fun _ _=>rfl⟩).alloc (Aa _) _;have q:(w.drew.alloc (.cells C e)).heap[w.heap.size]?=some (.cells C e (0,0)):=heap_alloc_new w.drew _;have H:C.toList=(d++a)++(Builtin.zeroCells z.cells (grownCap w (n+m) c e - (n+m))).toList:=by rw[<-Q];simp
  have I:(d++a).length=(n+m)* i.size:=by rw[Da,X,V,Nat.add_mul]
  have E:Le w Fr β (w.drew.alloc (.cells C e)) (kf Fr w.heap.size ((n+m)* i.size)) β:=⟨l.size,fun b h=>by grind [Sr],fun b o h _=>l.cell (p:=⟨b,o,none⟩) h,fun _ _ h=>h,fun g r h=>⟨r,(l.block g (Nh.1 h).1).trans h⟩⟩;have K:C.size=grownCap w (n+m) c e* i.size:=by
   rw[<-kx,H,Da,I,kx,size_zeroCells,hzs,<-Nat.add_mul];congr 1;omega
  refine⟨_,_,_,y,⟨E,?_,⟨n+m,cs++G,rfl,.inr ⟨w.heap.size,_,C,e,i.size,rfl,q,U,hmx,K,by grind [kf.eq_1],la,(fun h=>by omega),fun h=>h8Z.elim (fun h=>.inr h.1) fun O=>.inl (O.elim (fun O=>absurd h O) fun O=>wH O.1 O.2)⟩⟩,(fun k A=>by cases A<;>grind),(fun k A _=>⟨l.block k A,Sr A⟩),rfl,rfl,rfl⟩⟩;simp only[Rd];refine⟨_,_,rfl,U,.inr ⟨w.heap.size,0,d++a,rfl,fun j u D=>?_,(M.append L).mono E,J.append W⟩⟩;have hjl:=(qg D).1;rw[I]at hjl;refine⟨by grind [kf.eq_1],?_⟩;rw[Zc,cell_of_row _ _ _ _ _ _ q,<-sB,H,yl aa];exact D
 rcases hoZ with⟨n'Z,cs',Y,N|⟨g,c,B,e2,szZ,N,hgZ,h1Z,h2Z,h3Z,h4Z,h5Z,h6Z,h7Z⟩⟩
 ·cases Y
  subst N;have I:n=0/\cs=[]:=by
   simp only[Rd]at R;obtain⟨b,c,heZ,l,R⟩:=R;cases heZ;refine⟨rfl,qz aa⟩
  obtain⟨rfl,rfl⟩:=I;by_cases O:m=0
  ·subst O
   have l:G=[]:=qz aa;subst l;exact⟨_,w,Fr,HI t S ty e i ht hiZ x a F,⟨Le.refl _ _ _,la,⟨0,[],rfl,.inl rfl⟩,(fun k A=>by cases A),(fun k A _=>⟨rfl,rfl⟩),rfl,rfl,rfl⟩⟩
  grind [run_firstCells_none]
 ·cases Y
  subst N;have Z:n=0\/szZ=i.size:=by
   rcases Nat.eq_zero_or_pos n with h|h
   ·omega
   ·right;exact Nat.eq_of_mul_eq_mul_left h (h5Z.symm.trans hcZ)
  by_cases l:n+m<=c
  ·have hs':szZ=i.size\/(n=0/\m=0):=by
    rcases Z with h|h
    ·omega
    ·omega
   have U:n* i.size+a.length<=B.size:=by
    rw[h3Z,V];rcases hs' with h|⟨h,h'Z⟩
    ·rw[h,<-Nat.add_mul];exact Nat.mul_le_mul l (Aa _)
    ·subst h;subst h'Z;simp
   have y:=zdF (P:=P) (w:=w) t S ty e e2 i ht hiZ g n c B hgZ x m a F l U;obtain⟨C,Q⟩:∃C,(B.toList.take (n* i.size)++a++B.toList.drop (n* i.size+a.length)).toArray=C:=⟨_,rfl⟩;rw[Q]at y;have q:(w.setRow g C).heap[g]?=some (.cells C e2 (0,0)):=setRow_heap w g _ _ e2 (0,0) hgZ;have I:∀k,k≠g->(w.setRow g C).heap[k]?=w.heap[k]?:=fun k A=>setRow_other w g k _ A
   have hr:=T g 0 c rfl;have O:B.toList.take (n* i.size)=d:=by
    apply List.ext_getElem?;intro j;by_cases D:j<n* i.size
    ·have hjo:j<d.length:=aa
     have h7Z:=(hr j _ (qe hjo)).2
     grind [cell_of_row]
    ·grind
   have H:C.toList=(d++a)++B.toList.drop (n* i.size+a.length):=by rw[<-Q,O]
   have K:C.size=c* szZ:=by
    have:C.toList.length=B.toList.length:=by rw[<-Q];exact ze0 rfl aa
    rw[<-h3Z,<-kx,this,kx]
   have Jd:∀j u,(d++a)[j]?=some u->(w.setRow g C).cell? ⟨g,j,none⟩=some u:=fun j u D=>by
    rw[cell_of_row _ _ _ _ _ _ q,<-sB,H,yl (qg D).1];exact D
   have E:Le w Fr β (w.setRow g C) (kf Fr g ((n+m)* i.size)) β:=by
    refine⟨ea,fun b h=>?_,fun b o h hoZ=>?_,fun _ _ h=>h,fun k r A=>⟨r,(I k fun e=>by rw[e,hgZ]at A;cases A).trans A⟩⟩
    ·unfold kf;grind
    ·by_cases heZ:b=g<;>grind [World.cell?]
   refine⟨_,_,_,y,⟨E,?_,⟨n+m,cs++G,rfl,.inr ⟨g,c,C,e2,szZ,rfl,q,l,h2Z,K,by grind [kf.eq_1],?_,(fun h=>by omega),fun h=>?_⟩⟩,(fun k A=>.inl A),(fun k A hne=>?_),rfl,rfl,rfl⟩⟩
   ·refine⟨_,_,rfl,l,.inr ⟨g,0,d++a,rfl,fun j u D=>?_,(M.append L).mono E,J.append W⟩⟩
    grind [kf.eq_1]
   ·grind
   ·have nul:n=0->m=0->td (cs++G)=true:=fun h h'Z=>by
     have e1:cs=[]:=qz la;have e2:G=[]:=qz (by rw[hdZ,h'Z];simp);rw[e1,e2];rfl
    grind [zhn,wH]
   ·have:k≠g:=fun e=>hne (by rw[e];rfl)
    exact⟨I k this,if_neg this⟩
  ·refine grow _ c rfl ?_ aa
   refine run_firstCells_some w.drew i.size n _ n c d X fun j u D=>?_
   have h7Z:=(T g 0 c rfl j u D).2;rw[add_eq];exact h7Z
end
def zj:Ea->Bool
 | .mvA _| .asg (.t _)| .alloc .. | .box .. | .mksl .. | .b2s _| .load .. | .loadA _| .loadM _| .store .. | .append .. | .appendS .. | .call .. | .callv .. | .calli ..=>false
 |_=>true
theorem so{cf}{st}{dst}{c}(h:zj c=true):ma cf st dst c=(bb c (·.ev st.sl)).map (st.Pd dst):=by
 cases c
 case asg x=>
  cases x with
  |t i=>cases h
  |c v=>rfl
 all_goals first|rfl|(cases h;done)
section
variable {P:Program} {w w':World} {r:Option Nat} {Fr Fr':Nat→Nat} {β β':List Nat} {T:List Deferred} {base nt:Nat} {M:Nat→Prop} {w0:World} {F0:Nat→Nat} {st st':St} {a a':Act} {cf:Callee}
def jU(R:Rel P T base M w0 F0 nt st a w Fr β){s}{L}(h:origin st s=some L):Ga a w β L=some (a.tmps.getD s undef):=by
 unfold origin at h;split at h
 ·cases h;rfl
 ·obtain⟨p,b,rfl⟩:=qm h
  have c:=List.mem_of_find?_eq_some b;have d:=List.find?_some b;have e:p.1=s:=by simpa using d
  rw[<-e];exact R.al p c
def Rl.of{S}{st'}{a'}{w w'}{Fr Fr'}{β β'}(R:Rel P S.T S.base S.M S.w0 S.F0 S.nt st' a' w' Fr' β')(b:Le S.sw S.sF S.sβ w Fr β)(a:Le w Fr β w' Fr' β'):Rl P S st' a' w':=⟨Fr',β',R,b.trans a⟩
def fw(r:Option Nat):Fence:={Fence.wide with round:=r}
def xE{r}{n}{f}{args}{w}{R}:CallsIn (fw r) n P f args w R ↔ Calls P f args w R:=callsIn_wide (n:=n)
theorem Iy{o}{c}(h:o.op=.defer c){n}(b:(execOp a.eval o).run P w=.ok n w'):∃d,n=.defer d:=by
 unfold execOp at b;rw[h]at b;simp only[Fb]at b;cases hr:(resolve a.eval c o.type).run P w with
 |ok d e=>rw[hr]at b;cases b;simp
 |halt x e=>simp_all
def Lh{r}{o}{K}{Q}{v}(hr:(execOp a.eval o).run P w=.ok (.value v) w')(h:K (a.put o.dst v) w'):o.wpIn (fw r) 0 P a w K Q:=by
 refine⟨fun _ _=>trivial,?_⟩;rw[Oper.semAt_eq _ _ _ fun c b=>by grind [Iy]];rw[hr];exact h
def upon_skip{r}{o}{K}{Q}(hr:(execOp a.eval o).run P w=.ok .skip w')(h:K (a.put o.dst undef) w'):o.wpIn (fw r) 0 P a w K Q:=by
 refine⟨fun _ _=>trivial,?_⟩;rw[Oper.semAt_eq _ _ _ fun c b=>by grind [Iy]];rw[hr];exact h
def yy{x}{s}(h:xb x=some (.t s)):x=.tmp s:=by
 cases x<;>grind [xb]
def AD{op}{c}(a:ag P op=some c):(∃x,op=.move x)\/(∃x,op=.assign x)\/zj c=true:=by
 cases op with
 |move x=>simp
 |assign x=>simp
 |pick x y z=>
  obtain⟨_,_,a⟩:=qb a;obtain⟨_,_,a⟩:=qb a;obtain⟨_,_,rfl⟩:=qm a;exact .inr (.inr rfl)
 |binOp op t x y d=>
  obtain⟨_,_,a⟩:=qb a;obtain⟨_,_,a⟩:=qb a;split at a
  ·cases a;exact .inr (.inr rfl)
  ·cases a;exact .inr (.inr rfl)
  ·split at a
   ·cases a;exact .inr (.inr rfl)
   ·cases a;exact .inr (.inr rfl)
   grind
  ·split at a
   case isFalse=>cases a
   split at a
   ·obtain⟨_,_,rfl⟩:=qm a;exact .inr (.inr rfl)
   ·obtain⟨_,_,rfl⟩:=qm a;exact .inr (.inr rfl)
   grind
  grind
 |nilCheck x=>obtain⟨_,_,rfl⟩:=qm a;exact .inr (.inr rfl)
 |unOp op t x=>obtain⟨_,_,rfl⟩:=qm a;exact .inr (.inr rfl)
 |convert d dst x=>
  obtain⟨_,_,a⟩:=qb a;split at a
  ·cases a;exact .inr (.inr rfl)
  ·cases a;exact .inr (.inr rfl)
  grind
 |build t ps=>
  obtain⟨_,_,a⟩:=qb a;obtain⟨_,_,rfl⟩:=qm a;exact .inr (.inr rfl)
 |fieldAddr s x f=>
  obtain⟨_,_,a⟩:=qb a;obtain⟨_,_,a⟩:=qb a;obtain⟨_,_,a⟩:=qb a;split at a
  ·cases a
  ·obtain⟨_,_,rfl⟩:=qm a;exact .inr (.inr rfl)
 |field s x f=>
  obtain⟨_,_,a⟩:=qb a;obtain⟨_,_,a⟩:=qb a;obtain⟨_,_,a⟩:=qb a;obtain⟨_,_,a⟩:=qb a;obtain⟨_,_,rfl⟩:=qm a;exact .inr (.inr rfl)
 |indexAddr t x i=>
  simp only[ag]at a;split at a
  ·obtain⟨_,_,a⟩:=qb a
   obtain⟨_,_,a⟩:=qb a;obtain⟨_,_,rfl⟩:=qm a;exact .inr (.inr rfl)
  ·obtain⟨_,_,a⟩:=qb a
   obtain⟨_,_,a⟩:=qb a;obtain⟨_,_,rfl⟩:=qm a;exact .inr (.inr rfl)
  grind
 |index t x i=>
  simp only[ag]at a;split at a
  ·obtain⟨_,_,a⟩:=qb a
   obtain⟨_,_,rfl⟩:=qm a;exact .inr (.inr rfl)
  ·obtain⟨_,_,a⟩:=qb a
   obtain⟨_,_,a⟩:=qb a;obtain⟨_,_,a⟩:=qb a;obtain⟨_,_,rfl⟩:=qm a;exact .inr (.inr rfl)
  grind
 |slice t x g e d=>
  cases d with
  |some _=>cases a
  |none=>
   simp only[ag]at a;split at a
   ·obtain⟨_,_,a⟩:=qb a
    obtain⟨_,_,a⟩:=qb a;obtain⟨_,_,rfl⟩:=qm a;exact .inr (.inr rfl)
   ·obtain⟨_,_,a⟩:=qb a
    obtain⟨_,_,a⟩:=qb a;obtain⟨_,_,a⟩:=qb a;obtain⟨_,_,rfl⟩:=qm a;exact .inr (.inr rfl)
   ·obtain⟨_,_,a⟩:=qb a
    obtain⟨_,_,a⟩:=qb a;obtain⟨_,_,a⟩:=qb a;obtain⟨_,_,rfl⟩:=qm a;exact .inr (.inr rfl)
   grind
 |extract x i=>obtain⟨_,_,rfl⟩:=qm a;exact .inr (.inr rfl)
 |makeFunc fn first Ya=>
  cases fn with
  |func f=>
   simp only[ag]at a;split at a
   ·obtain⟨_,_,rfl⟩:=qm a;exact .inr (.inr rfl)
   split at a
   ·obtain⟨_,_,rfl⟩:=qm a;exact .inr (.inr rfl)
   grind
  |_=>cases a
 |makeInterface t x=>
  simp only[ag]at a;split at a
  ·cases a
  ·cases a
  ·obtain⟨_,_,rfl⟩:=qm a;exact .inr (.inr rfl)
 |call cl=>
  obtain⟨callee,args,d⟩:=cl;cases callee with
  |value f=>cases a
  |invoke r m=>cases a
  |builtin b=>
   cases b with
   |len=>
    simp only[ag]at a;split at a
    ·split at a
     ·obtain⟨_,_,rfl⟩:=qm a;exact .inr (.inr rfl)
     ·obtain⟨_,_,rfl⟩:=qm a;exact .inr (.inr rfl)
     grind
    grind
   |max=>
    simp only[ag]at a;split at a
    ·obtain⟨_,_,a⟩:=qb a
     obtain⟨_,_,rfl⟩:=qm a;exact .inr (.inr rfl)
    grind
   |min=>
    simp only[ag]at a;split at a
    ·obtain⟨_,_,a⟩:=qb a
     obtain⟨_,_,rfl⟩:=qm a;exact .inr (.inr rfl)
    grind
   |_=>cases a
 |_=>cases a
theorem EV{S}{o:Oper}{c}(j:ag P o.op=some c)(hs:ma cf st o.dst c=some st')(u:∀d,o.dst=some d->d<S.nt)(hr:Rl P S st a w){K}{Q}
 (n:∀a' w',Rl P S st' a' w'->K a' w'):o.wpIn (fw r) 0 P a w K Q:=by
 obtain⟨Fr,β,R,k⟩:=hr;have z:zj c=true->o.wpIn (fw r) 0 P a w K Q:=fun h=>by
  rw[so h]at hs;obtain⟨p,g,rfl⟩:=qm hs;obtain⟨v,i,y⟩:=zea j R.sl g;refine Lh i (n _ _ ?_);cases b:o.dst with
  |none=>exact⟨Fr,β,R,k⟩
  |some d=>exact⟨Fr,β,R.put (u d b) y,k⟩
 have asg:∀x:Operand,∀s,o.op=.assign x->xb x=some (.t s)->c=.asg (.t s)->o.wpIn (fw r) 0 P a w K Q:=fun x s A e q=>by
  subst q;simp only[ma]at hs;cases b:o.dst with
  |none=>grind
  |some d=>
   rw[b]at hs;simp only at hs;split at hs
   ·cases hs
   ·rename_i y
    have i:(execOp a.eval o).run P w=.ok (.value (a.tmps.getD s undef)) w:=by
     unfold execOp;rw[A,yy e];rfl
    refine Lh i ?_;rw[b];split at hs
    ·rename_i g
     cases hs;exact n _ _ ⟨Fr,β,R.move (u d b) y g,k⟩
    ·cases hs
     exact n _ _ ⟨Fr,β,R.put (u d b) (R.sl s),k⟩
 obtain⟨dst,op,ty,B,l,guard⟩:=o;cases h:zj c with
 |true=>grind
 |false=>
  cases op
  case move x=>
   obtain⟨y,g,rfl⟩:=qm j;cases h
  case assign x=>
   obtain⟨y,g,rfl⟩:=qm j;cases y with
   |t s=>grind
   |c v=>cases h
  all_goals
   rcases AD j with⟨x,e⟩|⟨x,e⟩|e
   ·cases e
   ·cases e
   ·rw[h]at e;cases e
end
section
variable {P:Program} {w w':World} {r:Option Nat} {Fr Fr':Nat→Nat} {β β':List Nat} {T:List Deferred} {base nt:Nat} {M:Nat→Prop} {w0:World} {F0:Nat→Nat} {st st':St} {a a':Act} {cf:Callee}
theorem UU{f}{g}:∀l:List Nat,(∀i∈l,Rd w Fr β (f i) (g i))->ra w Fr β (l.map f) (l.map g)
 |[],_=>by rfl
 |i::l,h=>by
  exact⟨_,_,rfl,h i ea,UU l fun j a=>h j (by simp[a])⟩
theorem MA{t}{g}{n b o}{vs:List Value}(a:Oe P t=some g)(d:Tg P t=some n)(c:vs.length=n)(i:∀j v,vs[j]?=some v->w.cell? ⟨b,o+j,none⟩=some v)(e:g=true\/n=1):
 (loadVar t ⟨b,o,none⟩).run P w=.ok (if g then .agg vs.toArray else vs.getD 0 undef) w:=by
 simp only[loadVar,Fb,JI a,Nb];cases g with
 |true=>
  have:=run_loadCells_list (P:=P) w ⟨b,o,none⟩ vs fun j v h=>by grind [add_eq]
  rw[c]at this;simp only[if_true,Fb,run_sizeOf d,Nb,this];rfl
 |false=>
  grind [run_load]
theorem tQ:∀{qs}{cs a},Hi cs qs=some a->a.length=cs.length
 |[],cs,a,h=>by grind [Hi]
 |(o,n,p)::r,cs,a,h=>by
  unfold Hi at h;split at h
  ·rw[tQ h];grind
  grind
def zE{n}{ps}{vs}(h:ra w Fr β ps vs)(d:n=1){p}(c:ps[0]?=some p):∃v,vs.take n=[v]/\Rd w Fr β p v:=by
 obtain⟨v,a,b⟩:=h.get 0 p c;refine⟨v,?_,b⟩
 match vs,a with
 |u::r,a=>grind
def Rel.tI(R:Rel P T base M w0 F0 nt st a w Fr β){L}{v}{p}(c:Ga a w β L=some v)(d:ab st L=some p):Rd w Fr β p v:=by
 cases L with
 |slot i=>
  simp only[Ga,ab,Pb]at c d;rw[<-c,<-d];exact R.sl i
 |cell b j=>
  obtain⟨g,g1,q⟩:=qb c;obtain⟨cs,c1,c2⟩:=qb d;obtain⟨y,b1,x,h⟩:=R.bx.2 b cs c1;rw[g1]at b1;cases b1;rcases h with⟨vs,e,l,o,t,_⟩|⟨f,k,s,live,n,_,r,l,_⟩
  rotate_left
  ·grind [World.cell?]
  obtain⟨u,z,A⟩:=o.get j p c2;rw[cell_of_row _ _ _ _ _ _ l]at q
  grind
def Rel.appended(R:Rel P T base M w0 F0 nt st a w Fr β){d}(F:d<nt){L}(j:L∈st.ow){v x}(C:Ga a w β L=some v){p}(A:HB P w Fr β v p x w' Fr'):
 Rel P T base M w0 F0 nt {st with sl:=(d,p)::st.sl,ow:=.slot d::Va d (st.ow.filter (·≠L)),al:=Lb d (st.al.filter fun p=>p.2≠L)} (a.put (some d) x) w' Fr' β:=by
 have k:d<a.tmps.size:=by rw[R.nt];exact F
 have t:=R.lt;have n:∀g∈β,v.ownBlock≠some g:=fun g c e=>R.out L j v g C e c
 have r:∀K,Ga a w' β K=Ga a w β K:=fun K=>qJ fun g c=>(A.old g (t g c) (n g c)).1
 have E:∀K∈st.ow,K≠L->∀u,Ga a w β K=some u->∀g,u.ownBlock=some g->v.ownBlock≠some g:=fun K i z u S g c e=>R.sep K i L j z u v g S C c e
 have l:∀K,K∈Va d (st.ow.filter (·≠L))->K∈st.ow/\K≠L/\Xd d K=false:=fun K i=>by
  grind [Ul]
 refine R.next A.le (UA R A.le F A.rd) (by grind [size_put,nt]) (Om _ _ _) (R.bx.kept A.le fun g c=>A.old g (t g c) (n g c)) R.nd (fun g h=>.inl h) (fun K=>if K=.slot d then(if x.ownBlock=v.ownBlock then some L else none)else some K) (fun K i=>?_) (fun K i I y o W h J=>?_) (fun K i I y o h J=>?_) (fun q Q=>?_) (fun b O _ B=>?_) A.os A.tape A.output
 ·rcases wb.1 i with rfl|i
  ·refine⟨x,p,?_,?_,A.own,fun g c=>?_⟩
   ·grind [Ga,Qk]
   ·grind [ab,me]
   ·rcases A.gD g c with h|h<;>grind
  ·obtain⟨D,U,V⟩:=l K i
   obtain⟨u,q,G,N,H⟩:=R.own K D;exact⟨u,q,by grind [km],(EA V).trans N,H.kept fun g c=>A.old g (H.lt c) (E K D U u G g c),fun g c=>.inr ⟨K,D,by grind [aw],u,G,c⟩⟩
 ·grind
 ·grind
 ·obtain⟨D,G,H⟩:=Ar.1 Q
  have N:q∈st.al:=(Yc.1 D).1;rw[km k H,r,Qk a d _ _ k,if_neg (fun e=>G e.symm)];exact R.al q N
 ·exact A.old b O (B L j v C)
theorem J_{S}{o:Oper}{c}(D:Nq P o.op=some c)(hs:ma cf st o.dst c=some st')(hdZ:∀d,o.dst=some d->d<S.nt)(hr:Rl P S st a w){K}{Q}
 (T:∀a' w',Rl P S st' a' w'->K a' w'):o.wpIn (fw r) 0 P a w K Q:=by
 obtain⟨Fr,β,R,Y⟩:=hr;obtain⟨dst,op,ty,N,F,guard⟩:=o;have val:∀{s:Sem Value}{v:Value}{w':World},s.run P w=.ok v w'->(do pure (Next.value (<-s)):Sem Next).run P w=.ok (.value v) w':=fun h=>by
  simp_all
 dsimp only at D hs hdZ;cases op with
 |alloc elem=>
  obtain⟨zs,hzZ,rfl⟩:=qm D;obtain⟨d,rfl,rfl⟩:=qm hs;obtain⟨z,z1Z,z2Z,z3⟩:=OJ (w:=w) (Fr:=Fr) (β:=β) hzZ;have u:(execOp a.eval ⟨some d,.alloc elem,ty,N,F,guard⟩).run P w=.ok (.value (.pointer (some ⟨w.heap.size,0,none⟩))) (w.alloc (.cells z.cells elem)):=by
   refine val ?_;simp only[Instr.alloc,Fb,z1Z,Nb];rfl
  obtain⟨R'Z,J⟩:=R.jT (hdZ d rfl) (e:=elem) z2Z z3;have R2Z:=R'Z.FJ (b:=st.bx.length) (e:=elem) (pre:=[]) (mid:=zs) (post:=[]) ea;refine Lh u (T _ _ (Rl.of (S:=S) ?_ Y J));simpa[St.put]using R2Z
 |box elem x=>
  obtain⟨n,hnZ,D⟩:=qb D;obtain⟨y,hyZ,rfl⟩:=qm D;simp only[ma]at hs;obtain⟨d,rfl,hs⟩:=qb hs;split at hs
  ·rename_i B
   cases hs;obtain⟨c1,c2⟩:=tD (dc R.sl hyZ) B.1;have u:(execOp a.eval ⟨some d,.box elem x,ty,N,F,guard⟩).run P w=.ok (.value (.pointer (some ⟨w.heap.size,0,none⟩))) (w.alloc (.cells (a.eval x).cells elem)):=val rfl;obtain⟨R'Z,J⟩:=R.jT (hdZ d rfl) (e:=elem) c1 c2;have R2Z:=R'Z.FJ (b:=st.bx.length) (e:=elem) (pre:=[]) (mid:=(y.ev st.sl).cells) (post:=[]) ea;refine Lh u (T _ _ (Rl.of (S:=S) ?_ Y J));simpa[St.put]using R2Z
  grind
 |buildSlice t len ps=>
  simp only[Nq]at D;split at D
  ·rename_i e heZ
   obtain⟨n,hnZ,D⟩:=qb D;split at D
   ·rename_i hbZ
    obtain⟨zs,hzZ,D⟩:=qb D;split at D
    ·rename_i hzl
     obtain⟨qs,hqZ,rfl⟩:=qm D;obtain⟨d,G,U⟩:=qb hs;subst G;obtain⟨cs,hfZ,hs⟩:=qb U;split at hs
     case isFalse=>cases hs
     rename_i hby;cases hs;obtain⟨z,z1Z,z2Z,z3⟩:=OJ (w:=w) (Fr:=Fr) (β:=β) hzZ;have W:z.cells.size=n:=by rw[<-hzl,<-z2Z.length];simp
     obtain⟨Z,hZZ⟩:∃Z:Array Value,(Array.range (len* n)).map (fun i=>z.cells[i % z.cells.size]!)=Z:=⟨_,rfl⟩;have hZr:ra w Fr β ((List.range (len* n)).map fun i=>zs.getD (i % n) .Ad) Z.toList:=by
      rw[<-hZZ,Array.toList_map,Array.toList_range];refine UU _ fun i _=>?_
      have fa:i % n<zs.length:=by rw[hzl];exact Nat.mod_lt _ hbZ.1
      obtain⟨v,k1Z,k2Z⟩:=z2Z.get (i % n) _ (qe fa);have e1:zs.getD (i % n) .Ad=zs[i % n]:=by rw[qB,qe fa];rfl
      have e2:z.cells[i % z.cells.size]! =v:=by
       rw[W];have:z.cells[i % n]?=some v:=by rw[<-sB];exact k1Z
       rw[getElem!_def,this]
      rw[e1,e2];exact k2Z
     have hZo:fd Z.toList:=fun v hvZ=>by
      rw[<-hZZ,Array.toList_map]at hvZ;obtain⟨i,_,rfl⟩:=zi.1 hvZ;have fa:i % n<z.cells.size:=by rw[W];exact Nat.mod_lt _ hbZ.1
      refine z3 _ ?_
      grind
     obtain⟨C,f1Z,f2Z,f3Z⟩:=qE _ _ _ _ _ (xD R.sl hqZ) hZr hZo hfZ;have u:(execOp a.eval ⟨some d,.buildSlice t len ps,ty,N,F,guard⟩).run P w=.ok (.value (.slice (some ⟨w.heap.size,0,none⟩) len len)) (w.alloc (.cells C e)):=by
      refine val ?_;have hpl:(ps.map fun(i,x)=>(i,a.eval x)).toList=ps.toList.map fun q=>(q.1,a.eval q.2):=ea
      simp only[Instr.buildSlice,Fb,run_underlying heZ,Nb,run_sizeOf hnZ];rw[if_neg aa];by_cases h0Z:len* n=0
      ·rw[if_pos h0Z]
       have e1:(Array.range (len* n)).map (fun i=>(#[]:Array Value)[i % (#[]:Array Value).size]!)=Z:=by rw[<-hZZ,h0Z];simp
       simp only[Fb,qh,Nb,e1,hpl,f1Z];rfl
      ·rw[if_neg h0Z]
       simp only[Fb,qh,z1Z,Nb,hZZ,hpl,f1Z];rfl
     have hCl:C.toList.length=len* n:=by rw[f2Z.length,tQ hfZ];simp
     have I:Below w.heap.size w (w.alloc (.cells C e)):=Iu w _;have hrow:=zdA w C.toList e β Fr;have hle:Le w Fr β (w.alloc (.cells C e)) (kf Fr w.heap.size C.toList.length) β:=⟨I.size,fun b h=>by grind [Sr],fun b o h _=>I.cell (p:=⟨b,o,none⟩) h,fun _ _ h=>h,fun g r h=>⟨r,(I.block g (Nh.1 h).1).trans h⟩⟩;have hrd:Rd (w.alloc (.cells C e)) (kf Fr w.heap.size C.toList.length) β (.ga len (Dd cs)) (.slice (some ⟨w.heap.size,0,none⟩) len len):=by
      simp only[Rd];exact⟨_,_,rfl,Aa _,.inr ⟨w.heap.size,0,C.toList,rfl,hrow,ra.ib _ _ (f2Z.mono hle),f3Z⟩⟩
     have hcl:cs.length=len* n:=by rw[<-f2Z.length,hCl]
     have hmx:len<=maxLen:=by
      have V:len* 1<=len* n:=Nat.mul_le_mul (Aa _) hbZ.1;unfold maxLen;omega
     have how:og P (w.alloc (.cells C e)) (kf Fr w.heap.size C.toList.length) (.ga len (Dd cs)) (.slice (some ⟨w.heap.size,0,none⟩) len len):=
      ⟨len,Dd cs,rfl,.inr ⟨w.heap.size,len,C,e,n,rfl,heap_alloc_new w _,Aa _,hmx,aa,by grind [kf.eq_1,EJ],by grind [EJ],fun h=>h,fun h=>hby.elim (fun V=>.inr la) fun V=>.inl (V.resolve_left fun V=>V h)⟩⟩
     exact Lh u (T _ _ (Rl.of (S:=S) (R.Ic I (fun g hgZ=>Sr hgZ) (hdZ d rfl) hrd how (fun g hgZ=>by cases hgZ<;>grind)) Y hle))
    grind
   grind
  grind
 |load t x=>
  obtain⟨g,hgZ,D⟩:=qb D;obtain⟨n,hnZ,D⟩:=qb D;split at D
  ·rename_i h1Z
   obtain⟨y,hyZ,rfl⟩:=qm D;have H:=dc R.sl hyZ;obtain⟨d,G,U⟩:=qb hs;clear hs;subst G;obtain⟨q,hs,rfl⟩:=qm U;unfold Ym at hs
   have O:∀b o(vs:List Value),a.eval x=.pointer (some ⟨b,o,none⟩)->vs.length=n->(∀j v,vs[j]?=some v->w.cell? ⟨b,o+j,none⟩=some v)->
    (execOp a.eval ⟨some d,.load t x,ty,N,F,guard⟩).run P w=.ok (.value (if g then .agg vs.toArray else vs.getD 0 undef)) w:=fun b o vs e l h=>by
    refine val ?_
    grind [Instr.loadAt,Instr.sureAddr,MA]
   split at hs
   ·rename_i cs e1
    rw[e1]at H;obtain⟨b,o,vs,H,r1,r2,r3⟩:=H;split at hs
    ·have hvl:=r2.length
     have u:=O b o (vs.take n) H la (fun j v hjZ=>(r1.take n j v hjZ).2);refine Lh u ?_;cases g with
     |true=>
      cases hs;exact T _ _ ⟨Fr,β,R.put (hdZ d rfl) (by exact⟨_,rfl,r2.take n,r3.take n⟩),Y⟩
     |false=>
      have hn1:n=1:=h1Z.resolve_left ea;obtain⟨v,k1Z,k2Z⟩:=zE r2 hn1 hs;exact T _ _ ⟨Fr,β,R.put (hdZ d rfl) la,Y⟩
    grind
   ·rename_i b o e1
    rw[e1]at H;obtain⟨gbZ,hgb,H⟩:=H;obtain⟨cs,M,U⟩:=qb hs;have hs:=U;split at hs
    ·obtain⟨M,_,g'Z,vs,e,b1,b2Z,b3Z,b4Z,b5Z,_⟩:=R.bx.cells M
     rw[hgb]at b1;cases b1;have hvl:=b3Z.length;have Jd:∀j v,((vs.drop o).take n)[j]?=some v->w.cell? ⟨gbZ,o+j,none⟩=some v:=fun j v hjZ=>by
      rw[List.getElem?_take]at hjZ;split at hjZ
      ·rw[cell_of_row _ _ _ _ _ _ b2Z];grind
      grind
     have u:=O gbZ o ((vs.drop o).take n) H (by rw[Ue,fc];omega) Jd;refine Lh u ?_;cases g with
     |true=>
      cases hs;exact T _ _ ⟨Fr,β,R.put (hdZ d rfl) (by exact⟨_,rfl,(b3Z.drop o).take n,(b4Z.drop o).take n⟩),Y⟩
     |false=>
      have hn1:n=1:=h1Z.resolve_left ea;obtain⟨v,k1Z,k2Z⟩:=zE (b3Z.drop o) hn1 (p:=q) la;exact T _ _ ⟨Fr,β,R.put (hdZ d rfl) la,Y⟩
    grind
   grind
  grind
 |convert src I x=>
  obtain⟨y,hyZ,D⟩:=qb D;have h1Z:=dc R.sl hyZ;split at D
  ·rename_i e E G
   split at D
   ·rename_i heZ
    cases D;obtain⟨p,hpZ,rfl⟩:=qm hs;have fin:∀v,(convert src I (a.eval x)).run P w=.ok v w->Rd w Fr β p v->Oper.wpIn (fw r) 0 P ⟨dst,.convert src I x,ty,N,F,guard⟩ a w K Q:=fun v h2Z h3Z=>by
     refine Lh (v:=v) (w':=w) ?_ ?_
     ·show(do pure (Next.value (<-convert src I (a.eval x))):Sem Next).run P w=_
      grind
     ·cases dst with
      |none=>exact T _ _ ⟨Fr,β,R,Y⟩
      |some d=>exact T _ _ ⟨Fr,β,R.put (hdZ d rfl) h3Z,Y⟩
    have fin2:∀(l:List UInt8)(a0:Addr)(V:Nat),a.eval x=.slice (some a0) l.length V->p=.flat (.string ⟨l.toArray⟩)->(∀j(hjZ:j<l.length),w.cell? (a0.add j)=some (.int .u8 (l[j].toNat:Int)))->Oper.wpIn (fw r) 0 P ⟨dst,.convert src I x,ty,N,F,guard⟩ a w K Q:=fun l a0 V h2Z h3Z h4Z=>by
     refine fin (.string ⟨l.toArray⟩) ?_ (by rw[h3Z];exact dg rfl)
     grind [run_convert_bytes_back]
    unfold Dm at hpZ;split at hpZ
    ·rename_i e1
     cases hpZ;rw[e1]at h1Z;obtain⟨h1Z,_⟩:=Oc h1Z;exact fin _ (by rw[h1Z];exact run_convert_bytes_nil (w:=w) src e E heZ 0 0 I G) (dg rfl)
    ·rename_i n cs e1
     split at hpZ
     ·rename_i hnZ
      obtain⟨l,J,rfl⟩:=qm hpZ;rw[e1]at h1Z;obtain⟨b,V,H,_,hvZ⟩:=h1Z;rcases hvZ with⟨h0Z,h00⟩|⟨g,o,vs,rfl,r1,r2,r3⟩
      ·subst h0Z;subst h00
       simp only[bytesOf,Pb]at J;subst J;cases b with
       |none=>exact fin _ (by rw[H];exact run_convert_bytes_nil (w:=w) src e E heZ 0 V I G) (dg rfl)
       |some b=>grind
      ·have hbZ:=my J r2
       have hln:l.length=n:=by rw[<-hnZ,<-r2.length,hbZ,qn]
       subst hln;refine fin2 l ⟨g,o,none⟩ V H rfl fun j hjZ=>?_
       have:=(r1 j (.int .u8 l[j].toNat) la).2;rw[add_eq];omega
     grind
    ·rename_i b o n e1
     obtain⟨cs,M,hpZ⟩:=qb hpZ;split at hpZ
     ·obtain⟨l,J,rfl⟩:=qm hpZ
      rw[e1]at h1Z;obtain⟨g,a0,V,hgZ,H,_,hvZ⟩:=h1Z;obtain⟨M,_,g'Z,vs,e0Z,b1,b2Z,b3Z,b4Z,b5Z,_⟩:=R.bx.cells M;rw[hgZ]at b1;cases b1;have hvl:=b3Z.length;have hbZ:=my J ((b3Z.drop o).take n);have hln:l.length=n:=by
       have:=congrArg List.length hbZ;rw[qn,Ue,fc]at this;omega
      subst hln;rcases hvZ with h0Z|rfl
      ·have hl0:l=[]:=qz h0Z
       subst hl0;cases a0 with
       |none=>exact fin _ (by rw[H];exact run_convert_bytes_nil (w:=w) src e E heZ 0 V I G) (dg rfl)
       |some a0=>grind
      ·refine fin2 l ⟨g,o,none⟩ V H rfl fun j hjZ=>?_
       rw[add_eq,cell_of_row _ _ _ _ _ _ b2Z];have h8Z:((vs.drop o).take l.length)[j]?=some (.int .u8 l[j].toNat):=by rw[hbZ,jx,qe hjZ];rfl
       grind
     grind
    grind
   grind
  grind
 |store t x y=>
  obtain⟨n,hnZ,D⟩:=qb D;obtain⟨x'Z,hx',D⟩:=qb D;obtain⟨y'Z,hy',D⟩:=qb D;split at D
  case isFalse=>cases D
  rename_i hn1;cases D;have H:=dc R.sl hx';have hyZ:=dc R.sl hy';simp only[ma]at hs;split at hs
  ·rename_i b o e1
   obtain⟨cs,M,hs⟩:=qb hs;split at hs
   ·rename_i B
    obtain⟨hgood,hcl,hle⟩:=B;rw[e1]at H;obtain⟨gbZ,hgb,H⟩:=H;obtain⟨e0Z,cs⟩:=cs;obtain⟨M,_,g'Z,vs,e,b1,b2Z,b3Z,b4Z,b5Z,e00⟩:=R.bx.cells M;rw[hgb]at b1;cases b1;dsimp only at e00 b3Z hle;subst e00;obtain⟨c1,c2⟩:=tD hyZ hgood;have hul:(a.eval y).cells.toList.length=n:=by rw[c1.length,hcl]
    have hvl:=b3Z.length;have u:(execOp a.eval ⟨none,.store t x y,ty,N,F,guard⟩).run P w=.ok .skip (w.setRow gbZ (vs.take o++(a.eval y).cells.toList++vs.drop (o+n)).toArray):=by
     have hst:=run_storeCells_at P gbZ o e0Z (a.eval y).cells.toList 0 vs.toArray w b2Z la c2;rw[ci,hul]at hst;have hzZ:¬((a.eval y).cells.size≠n):=by rw[<-kx,hul];simp
     show(do (do storeVar t (<-Instr.sureAddr (a.eval x)) (a.eval y));pure Next.skip:Sem Next).run P w=_;simp only[Fb,H,Instr.sureAddr,qh,Nb,storeVar,run_sizeOf hnZ];rw[if_neg hzZ];simp only[hst,Nb]
    have fin:∀(K'Z:Option Nat)(I:St),(∀s,K'Z=some s->∃v p,(a.eval y).cells.toList=[v]/\(y'Z.ev st.sl).cells=[p]/\(Loc.slot s∈st.ow/\a.tmps.getD s undef=v/\look st.sl s=p))->
     I.sl=st.sl->I.bx=st.bx.set b (e0Z,cs.take o++(y'Z.ev st.sl).cells++cs.drop (o+n))->
     (∀L∈I.ow,(L∈st.ow/\Od b o n L=false/\∀s,K'Z=some s->L≠.slot s)\/(L=.cell b o/\(K'Z.isSome\/((a.eval y).cells.toList=[.slice none 0 0]/\(y'Z.ev st.sl).cells=[.ga 0 []]))))->
     (∀q∈I.al,q∈st.al/\Od b o n q.2=false)->
     st'={I with bx:=st.bx.set b (e0Z,cs.take o++(y'Z.ev st.sl).cells.map wk++cs.drop (o+n)),ow:=gd b o (y'Z.ev st.sl).cells++I.ow}->Oper.wpIn (fw r) 0 P ⟨none,.store t x y,ty,N,F,guard⟩ a w K Q:=fun K'Z I k1Z k2Z k3Z k4Z k5Z k6Z=>by
     obtain⟨R'Z,J⟩:=R.store M hgb b2Z b3Z b4Z c1 c2 hul hn1 hle K'Z k1Z I k2Z k3Z k4Z k5Z;have fa:=(qg M).1;have hto:(cs.take o).length=o:=by rw[Ue];omega
     have R2Z:=R'Z.FJ (b:=b) (e:=e0Z) (pre:=cs.take o) (mid:=(y'Z.ev st.sl).cells) (post:=cs.drop (o+n)) (by rw[k3Z,Vg fa]);rw[hto,k3Z,zo]at R2Z;rw[k6Z]at T;exact upon_skip u (T _ _ (Rl.of (S:=S) R2Z Y J))
    have V:∀L,L∈st.ow.filter (fun L=>!Od b o n L)->L∈st.ow/\Od b o n L=false:=fun L hLZ=>by simpa using hLZ
    have mema:∀q,q∈st.al.filter (fun p=>!Od b o n p.2)->q∈st.al/\Od b o n q.2=false:=fun q hqZ=>by simpa using hqZ
    cases y'Z with
    |t s=>
     dsimp only at hs;split at hs
     ·rename_i hown
      cases hs;obtain⟨v,p,k1Z,k2Z,k3Z⟩:=R.own _ hown;obtain⟨nnZ,ccZ,hpe,hvv⟩:=k3Z;simp only[ab,Pb]at k2Z;simp only[Ga,Pb]at k1Z;have hye:a.eval y=v:=by rw[yy hy',<-k1Z];rfl
      have hvc:v.cells=#[v]:=by
       rcases hvv with h|⟨_,_,_,_,_,h,_⟩<;>rw[h]<;>rfl
      have hpc:((X.t s).ev st.sl).cells=[p]:=by
       show(look st.sl s).cells=[p];rw[k2Z,hpe];rfl
      have hnil:gd b o ((X.t s).ev st.sl).cells=[]:=by rw[hpc,hpe];rfl
      refine fin (some s) {st with bx:=st.bx.set b (e0Z,cs.take o++((X.t s).ev st.sl).cells++cs.drop (o+n)),ow:=.cell b o::Va s (st.ow.filter fun L=>!Od b o n L),al:=Lb s (st.al.filter fun p=>!Od b o n p.2)} (fun s' e'Z=>?_) rfl rfl (fun L hLZ=>?_) (fun q hqZ=>?_) ?_
      ·grind
      ·grind [Ul,aw]
      ·obtain⟨m1Z,m2Z,m3Z⟩:=Ar.1 hqZ
       exact mema q m1Z
      ·rw[hnil];rfl
     ·cases hs
      exact fin none {st with bx:=st.bx.set b (e0Z,cs.take o++((X.t s).ev st.sl).cells++cs.drop (o+n)),ow:=st.ow.filter fun L=>!Od b o n L,al:=st.al.filter fun p=>!Od b o n p.2} (fun _ e=>by cases e) rfl rfl (fun L hLZ=>.inl ⟨(V L hLZ).1,(V L hLZ).2,fun _ e=>by cases e⟩) (fun q hqZ=>mema q hqZ) rfl
    |c pvZ=>
     cases hs;exact fin none {st with bx:=st.bx.set b (e0Z,cs.take o++((X.c pvZ).ev st.sl).cells++cs.drop (o+n)),ow:=st.ow.filter fun L=>!Od b o n L,al:=st.al.filter fun p=>!Od b o n p.2} (fun _ e=>by cases e) rfl rfl (fun L hLZ=>.inl ⟨(V L hLZ).1,(V L hLZ).2,fun _ e=>by cases e⟩) (fun q hqZ=>mema q hqZ) rfl
   grind
  grind
 |call cl=>
  obtain⟨callee,args,ats⟩:=cl;cases callee with
  |value f=>cases D
  |invoke r m=>cases D
  |builtin b=>
   cases b with
   |append=>
    simp only[Nq]at D;split at D
    ·rename_i x y t t'Z e1 e2
     have eaZ:args=#[x,y]:=by apply ei;rw[e1]
     have etZ:ats=#[t,t'Z]:=by apply ei;rw[e2]
     subst eaZ;subst etZ;split at D
     ·rename_i e ht V
      obtain⟨i,hiZ,D⟩:=qb D;split at D
      ·rename_i B
       obtain⟨heU,hsz1,hby,hzz⟩:=B;obtain⟨z,hzZ,W⟩:=qm hzz;obtain⟨x'Z,hx',D⟩:=qb D;obtain⟨y'Z,hy',rfl⟩:=qm D;have H:=dc R.sl hx';have hyZ:=dc R.sl hy';have hsr:∀zs:ByteArray,y'Z.ev st.sl=.flat (.string zs)->Src P i.size t'Z (a.eval y) zs.size (byteCells zs) w/\ra w Fr β (ii zs) (byteCells zs)/\(ii zs).length=zs.size/\pg (ii zs)=true:=fun zs e2=>by
        rw[e2]at hyZ;obtain⟨hyZ,_⟩:=Oc hyZ;have I:ra w Fr β (ii zs) (byteCells zs):=by
         unfold ii byteCells;generalize zs.data.toList=l
         induction l with
         |nil=>rfl
         |cons c l ihZ=>exact⟨_,_,rfl,dg rfl,ihZ⟩
        exact⟨by grind [Src.ofString],I,by grind [ra.length,byteCells_length],by
         unfold ii;generalize zs.data.toList=l
         induction l with
         |nil=>rfl
         |cons c l ihZ=>simp only[Xb,pg,ihZ];rfl⟩
       have O:∀v v'Z w',a.eval x=v->(Builtin.append_ #[t,t'Z] ty #[v,a.eval y]).run P w=.ok v'Z w'->(execOp a.eval ⟨dst,.call {callee:=.builtin .append,args:=#[x,y],argTypes:=#[t,t'Z]},ty,N,F,guard⟩).run P w=.ok (.value v'Z) w':=fun v v'Z w' hxv u=>by
        show(do let d <-resolve a.eval ⟨.builtin .append,#[x,y],#[t,t'Z]⟩ ty;invoke d.target d.args:Sem Next).run P w=_
        grind [resolve,invoke,builtin]
       simp only[ma]at hs;split at hs
       ·rename_i hnx
        rw[zv hnx]at H;obtain⟨H,_⟩:=Oc H;split at hs
        ·rename_i zs e2
         split at hs
         ·obtain⟨d,rfl,rfl⟩:=qm hs
          obtain⟨E,I,hbl,huZ⟩:=hsr zs e2;split at T
          ·exact Lh (O _ _ _ H (HI t t'Z ty e i ht hiZ (a.eval y) (byteCells zs) la)) (T _ _ ⟨Fr,β,R.put (hdZ d rfl) (dg rfl),Y⟩)
          ·obtain⟨v'Z,w',Fr',u,A⟩:=Ux (P:=P) (ty:=ty) ht hiZ hzZ W aa hby (vH (w:=w) (Fr:=Fr) (β:=β)) eA E I E.one ea la (.inl ⟨heU,rfl⟩) aa
           rw[Zc,Ma]at A;exact Lh (O _ _ _ H u) (T _ _ (Rl.of (S:=S) (R.Ic ⟨A.os,A.tape,A.output,A.le.size,fun k V=>(A.old k V (by simp[Value.ownBlock])).1⟩ (fun k V=>(A.old k V (by simp[Value.ownBlock])).2) (hdZ d rfl) A.rd A.own (fun k V=>(A.gD k V).resolve_left (by simp[Value.ownBlock]))) Y A.le))
         grind
        grind
       ·cases x'Z with
        |c pvZ=>cases hs
        |t s=>
         obtain⟨L,e3,U⟩:=qb hs;obtain⟨d,G,hs3⟩:=qb U;subst G;split at hs3
         ·rename_i n cs zs e1 e2
          split at hs3
          ·rename_i B
           obtain⟨hbZ,hcl,hin,hu8⟩:=B;obtain⟨v,p,k1Z,k2Z,how⟩:=R.own L hin;rw[e1]at k2Z;cases k2Z;have hxv:a.eval x=v:=by
            have:=jU R e3;rw[k1Z]at this;rw[yy hx'];exact(Xe this).symm
           have hrx:=R.tI k1Z e1;obtain⟨E,I,hbl,huZ⟩:=hsr zs e2;obtain⟨v'Z,w',Fr',u,A⟩:=Ux (ty:=ty) ht hiZ hzZ W aa hby hrx how E I E.one la la (.inl ⟨heU,hu8⟩) hbZ;cases hs3;exact Lh (O _ _ _ hxv u) (T _ _ (Rl.of (S:=S) (R.appended (hdZ d rfl) hin k1Z A) Y A.le))
          grind
         grind
      grind
     ·rename_i e e'Z ht V
      obtain⟨i,hiZ,D⟩:=qb D;split at D
      ·rename_i B
       obtain⟨hsz,hby,hzz⟩:=B;obtain⟨z,hzZ,W⟩:=qm hzz;obtain⟨x'Z,hx',D⟩:=qb D;obtain⟨y'Z,hy',rfl⟩:=qm D;have H:=dc R.sl hx';have hyZ:=Rd.ib _ _ (dc R.sl hy');have O:∀v v'Z w',a.eval x=v->(Builtin.append_ #[t,t'Z] ty #[v,a.eval y]).run P w=.ok v'Z w'->(execOp a.eval ⟨dst,.call {callee:=.builtin .append,args:=#[x,y],argTypes:=#[t,t'Z]},ty,N,F,guard⟩).run P w=.ok (.value v'Z) w':=fun v v'Z w' hxv u=>by
        show(do let d <-resolve a.eval ⟨.builtin .append,#[x,y],#[t,t'Z]⟩ ty;invoke d.target d.args:Sem Next).run P w=_
        grind [resolve,invoke,builtin]
       have h8Z:∀cs dsZ,jm (e==U8 P) i.size cs dsZ=true->(e=U8 P/\pg cs=true)\/i.size≠1\/(td cs=true/\td dsZ=true):=fun cs dsZ h=>by
        grind [jm]
       simp only[ma]at hs;split at hs
       ·rename_i hnx
        rw[zv hnx]at H;obtain⟨H,_⟩:=Oc H;split at hs
        ·rename_i m dsZ e2
         split at hs
         ·rename_i B
          obtain⟨hbZ,hdl,hty⟩:=B;obtain⟨d,rfl,rfl⟩:=qm hs;rw[e2]at hyZ;obtain⟨news,E,I,hno⟩:=QV V hyZ hdl;split at T
          ·rename_i h0Z
           subst h0Z;exact Lh (O _ _ _ H (HI t t'Z ty e i ht hiZ (a.eval y) news E)) (T _ _ ⟨Fr,β,R.put (hdZ d rfl) (dg rfl),Y⟩)
          ·obtain⟨v'Z,w',Fr',u,A⟩:=Ux (P:=P) (ty:=ty) ht hiZ hzZ W hsz hby (vH (w:=w) (Fr:=Fr) (β:=β)) eA E I hno ea hdl (h8Z _ _ hty) aa
           rw[Zc,Ma]at A;exact Lh (O _ _ _ H u) (T _ _ (Rl.of (S:=S) (R.Ic ⟨A.os,A.tape,A.output,A.le.size,fun k V=>(A.old k V (by simp[Value.ownBlock])).1⟩ (fun k V=>(A.old k V (by simp[Value.ownBlock])).2) (hdZ d rfl) A.rd A.own (fun k V=>(A.gD k V).resolve_left (by simp[Value.ownBlock]))) Y A.le))
         grind
        grind
       ·cases x'Z with
        |c pvZ=>cases hs
        |t s=>
         obtain⟨L,e3,U⟩:=qb hs;obtain⟨d,G,hs3⟩:=qb U;subst G;split at hs3
         ·rename_i n cs m dsZ e1 e2
          split at hs3
          ·rename_i B
           obtain⟨hbZ,hcl,hdl,hin,hty⟩:=B;obtain⟨v,p,k1Z,k2Z,how⟩:=R.own L hin;rw[e1]at k2Z;cases k2Z;have hxv:a.eval x=v:=by
            have:=jU R e3;rw[k1Z]at this;rw[yy hx'];exact(Xe this).symm
           have hrx:=R.tI k1Z e1;rw[e2]at hyZ;obtain⟨news,E,I,hno⟩:=QV V hyZ hdl;obtain⟨v'Z,w',Fr',u,A⟩:=Ux (ty:=ty) ht hiZ hzZ W hsz hby hrx how E I hno hcl hdl (h8Z _ _ hty) hbZ;cases hs3;exact Lh (O _ _ _ hxv u) (T _ _ (Rl.of (S:=S) (R.appended (hdZ d rfl) hin k1Z A) Y A.le))
          grind
         grind
      grind
     grind
    grind
   |_=>cases D
 |_=>cases D
end
end ya

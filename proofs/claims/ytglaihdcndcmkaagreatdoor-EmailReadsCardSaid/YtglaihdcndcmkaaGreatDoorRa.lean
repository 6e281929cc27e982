/- Texts of this proof, merged. -/
import Derived.KernelRfl
import Derived.Calls
import Derived.Below
import Derived.Still
import Derived.Laws.AppendOwn
import Derived.RangeFuncRecord
import Derived.Laws.Entries
import Derived.Laws.Cells
import Derived.Laws.IdiomStrings
import Derived.Lib.Strings
import Derived.Laws.BytesArg
import Derived.Deep.AppendSrc
import Derived.RangeFuncIn
import Derived.OrdersIn
import Derived.Orders
import Derived.ReadAgain
import Derived.ChangeSame
import Derived.ChangeReads
import Derived.DataReads
import Derived.WideShapes
set_option linter.all false
open Go Go.RowKit
def aa{p:Prop}(h:p:=by omega):p:=h
def da{p:Prop}(h:p:=by simp):p:=h
def ga{p:Prop}(h:p:=by decide):p:=h
def ca{p:Prop}(h:p:=by kernel_rfl):p:=h
def lc{p:Prop}(h:p:=by decide+kernel):p:=h
def ja{p:Prop}(h:p:=by rfl):p:=h
def Sa{p:Prop}(h:p:=by simp;omega):p:=h
def ia{p:Prop}(h:p:=by grind):p:=h
def Fg{p:Prop}(h:p:=by dsimp only;omega):p:=h
def ie{p:Prop}(h:p:=by simp_all):p:=h
def aI:=@Option.bind_eq_some_iff
def hU:=@Option.map_eq_some_iff
def Hk:=@List.getElem?_append_left
def la:=@Nat.le_refl
def Ob:=@Nat.le_trans
def Qf:=@Nat.lt_of_lt_of_le
def Et:=@Go.World.block_lt_of_cell?
def za:=@List.length_cons
def Ft:=@List.take_succ_cons
def ir:=@List.drop_succ_cons
def ub:=@List.cons_append
def zw:=@List.mem_of_mem_take
def wg:=@List.mem_append
def Fj:=@List.getElem?_drop
def Ah:=@List.mem_of_getElem?
def xg:=@Array.getElem?_eq_some_iff
def Im:=@Array.getD_eq_getD_getElem?
def Wb:=@List.mem_cons
def kd:=@Option.map_some
def Xb:=@Option.some.injEq
def Qb:=@Go.Sem.run_bind
def Tb:=@Go.Result.andThen_ok
def kc:=@List.map_cons
def Jm:=@List.foldl_cons
def Dp:=@Nat.add_assoc
def Km:=@List.take_succ_eq_append_getElem
def io:=@List.set_append_right
def Ac:=@List.length_take
def Cj:=@Nat.add_zero
def Cp:=@List.mapM_cons
def Dj:=@List.all_eq_true
def DA:=@List.length_pos_iff
def Ya:=@List.length_drop
def rf:=@List.drop_drop
def Ej:=@Bool.and_true
def Fa:=@Bool.false_eq_true
def Ui:=@Bool.not_true
def Gj:=@Bool.not_false
def Bh:=@Go.Sem.run_pure
def Sg:=@Array.ext'
def Gb:=@List.nil_append
def kr:=@List.getElem?_cons_succ
def Fl:=@List.map_congr_left
def Bc:=@List.length_set
def HA:=@List.getElem?_set_ne
def yi:=@Ne.symm
def sf:=@List.append_assoc
def He:=@List.getElem?_append_right
def oh:=@Nat.add_sub_cancel_left
def yg:=@List.getElem?_set_self
def Ra:=@Option.bind_some
def Hj:=@List.length_map
def Bw:=@List.getElem?_map
def Ik:=@List.mem_map
def Hc:=@List.mem_filter
def It:=@List.cons.injEq
def Ja:=@List.length_append
def Vc:=@Bool.and_eq_true
def Jt:=@Nat.mul_le_mul
def Cw:=@Array.length_toList
def sc:=@Nat.zero_add
def IA:=@Array.getElem?_toList
def Ep:=@Nat.eq_zero_or_pos
def FA:=@List.getD_eq_getElem?_getD
def jo:=@List.set_set
def ko:=@Option.some.inj
def Aw:=@List.filter_eq_self
def Ye:=@List.append_nil
def jr:=@Option.getD_some
def Ht:=@Classical.byContradiction
def GA:=@Option.isSome_iff_exists
def mo:=@List.mem_range
def Lt:=@List.getElem?_take_of_lt
def ld:=@List.drop_eq_getElem_cons
def ai:=@Nat.lt_or_ge
def Rf:=@List.take_of_length_le
def Dw:=@Array.getElem?_eq_getElem
def Gl:=@List.filter_filter
def oo:=@List.filter_congr
def iI:=@List.length_filter_lt_length_iff_exists
def Ew:=@List.length_filter_le
def po:=@List.mem_cons_of_mem
def Ch:=@Bool.false_or
def Mt:=@List.mem_cons_self
def Lm:=@Go.World.size_alloc
def Fp:=@Prod.mk.injEq
def Za:=@Nat.zero_le
def qo:=@Nat.sub_zero
def zi:=@Nat.le_max_left
def Jj:=@Nat.le_max_right
def jI:=@List.take_append_drop
def Mm:=@List.all_cons
def Ie:=@List.getElem?_eq_none
def Dh:=@BEq.rfl
def Vi:=@Option.map_none
def ya:=@List.length_nil
def Af:=@List.drop_zero
def pc:=@Bool.true_and
def fg:=@Bool.and_false
def Wc:=@Bool.false_and
def JA:=@Int.cast_ofNat_Int
def Jk:=@ByteArray.ext
def Ij:=@List.isPrefixOf_iff_prefix
def KA:=@List.prefix_iff_eq_take
def Yb:=@UInt8.toNat_inj
def Kk:=@Int.ofNat_le
def Kt:=@Int.ofNat_inj
def cc:=@Int.toNat_natCast
def Eh:=@List.take_length
def Ip:=@Bool.or_true
def lr:=@Bool.true_or
def Pm:=@Bool.or_false
def Wi:=@Int.natCast_add
def Xi:=@Int.natCast_one
def Bf:=@List.map_nil
def Jp:=@Nat.pow_le_pow_right
def Kp:=@List.drop_length
def Pt:=@Nat.and_two_pow_sub_one_eq_mod
def Qt:=@Go.Oper.upon_value
def mr:=@Bool.eq_false_iff
def Ka:=@Classical.em
def Qm:=@List.getElem_mem
def Yi:=@List.map_drop
def NA:=@List.takeWhile_cons
def Ai:=@List.drop_of_length_le
def kI:=@List.takeWhile_prefix
def Lp:=@List.drop_take
def OA:=@List.set_append_left
def lI:=@List.take_append_of_le_length
def tf:=@Bool.and_self
def ph:=@List.flatMap_nil
def Mp:=@Option.getD_none
def Hw:=@Bool.true_eq_false
def Tt:=@Option.isSome_none
def Nt:=@Option.isSome_some
def Om:=@Bool.eq_false_or_eq_true
def LA:=@Go.World.ownsRow_nil
def Ot:=@Go.World.ownsRow.kept
def Fw:=@Go.World.ownsRow_made
def Gw:=@List.foldlM_cons
def Gp:=@Bool.eq_iff_iff
def Kj:=@ByteArray.size_extract
def MA:=@List.dropWhile_cons
def Hp:=@UInt8.le_iff_toNat_le
def PA:=@Bool.and_eq_false_iff
def Ut:=@List.size_toArray
def Vt:=@Array.replicate_succ
def Wt:=@Array.replicate_zero
def Xt:=@List.push_toArray
def Yt:=@List.append_toArray
def gg:=@List.map_append
def ig:=@List.map_singleton
def zg:=@Go.World.grownBy_alloc
def Np:=@Nat.lt_succ_self
def Zt:=@List.not_mem_nil
def Rm:=@ByteArray.toList_data_append
def Tm:=@ByteArray.size_append
def nr:=@List.range_succ
def qa{a b:Nat}(h:Nat.ble a b=true):a<=b:=Nat.le_of_ble_eq_true h
def qb{α β:Type _}{x:Option α}{f:α->Option β}{b:β}(h:x.bind f=some b):∃a,x=some a/\f a=some b:=aI.1 h
def qm{α β:Type _}{x:Option α}{f:α->β}{b:β}(h:x.map f=some b):∃a,x=some a/\f a=b:=hU.1 h
def qz{α:Type _}{l:List α}(h:l.length=0):l=[]:=List.eq_nil_of_length_eq_zero h
def qg{α:Type _}{l:List α}{i:Nat}{a:α}(h:l[i]?=some a):∃k:i<l.length,l[i]=a:=List.getElem?_eq_some_iff.1 h
def qe{α:Type _}{l:List α}{i:Nat}(h:i<l.length):l[i]?=some l[i]:=List.getElem?_eq_getElem h
namespace wa
inductive Mw where
 | exit (id:Nat)
 | ret
inductive Tp where
 | ready
 | busy
 | done (j:Mw)
 | over
inductive PV where
 | hd
 | flat (v:Value)
 | ha (len:Nat) (cells:List PV)
 | agg (cells:List PV)
 | Mb (vs:List PV)
 | ptr (b off:Nat)
 | xd (cells:List PV)
 | fb (f:FuncId) (Oa:List PV)
 | Ma (b:Nat)
 | se (b off n:Nat)
 | lp (f k:Nat) (s:Tp) (live:List Nat) (snap:List PV)
 deriving Inhabited
inductive Loc where
 | slot (i:Nat)
 | cell (b j:Nat)
 deriving DecidableEq
abbrev Ha:=List (Nat×List PV)
structure St where
 sl:List (Nat × PV)
 ow:List Loc
 al:List (Nat × Loc)
 bx:Ha
inductive X where
 | t (i:Nat)
 | c (v:PV)
inductive LK where
 | b
 | s
 | i (k:IntKind)
 deriving DecidableEq
inductive Ea where
 | mv (x:X)
 | mvA (s:Nat)
 | asg (x:X)
 | pick (c a b:X)
 | bin (op:BinOp) (x y:X)
 | beq (ne:Bool) (x y:X)
 | Sk (ne:Bool) (ks:List LK) (x y:X)
 | sp (x:X)
 | qk (x:X)
 | un (op:UnOp) (x:X)
 | conv (k:IntKind) (x:X)
 | b2s (x:X)
 | alloc (e:Nat) (zs:List PV)
 | box (e n:Nat) (x:X)
 | build (zs:List PV) (parts:List (Nat × Nat × X))
 | mksl (byte:Bool) (len size:Nat) (zs:List PV) (parts:List (Nat × Nat × X))
 | load (agg:Bool) (n:Nat) (a:X)
 | loadA (a:X)
 | loadM (a:X)
 | store (n:Nat) (a x:X)
 | im (off:Nat) (a:X)
 | jm (agg:Bool) (off n:Nat) (x:X)
 | Jg (size:Nat) (x i:X)
 | idx (x i:X)
 | om (agg:Bool) (len size:Nat) (x i:X)
 | xm (len size:Nat) (x i:X)
 | sliceP (len size:Nat) (x:X) (lo hi:Option X)
 | appendS (x y:X)
 | slice (size:Nat) (x:X) (lo hi:Option X)
 | sliceS (x:X) (lo hi:Option X)
 | ext (x:X) (i:Nat)
 | len (x:X)
 | Gn (x:X)
 | append (byte:Bool) (size:Nat) (x y:X)
 | mm (mx:Bool) (x y:X)
 | call (f:FuncId) (args:List X)
 | callv (g:X) (args:List X)
 | clos (f:FuncId) (Oa:List X)
structure Qa where
 dst:Option Nat
 g:Option (Nat × Bool)
 op:Ea
inductive BT where
 | done
 | one (o:Qa) (t:BT)
 | two (o:Qa) (t r:BT)
inductive oa where
 | skip
 | Ld (live:List Nat) (pre tail:List Qa)
 | dg (live:List Nat) (pre:List Qa) (t:BT)
 | seq (a b:oa)
 | cond (c:X) (a b:oa)
 | block (id:Nat) (b:oa)
 | loop (live:List Nat) (b:oa)
 | range (f k:Nat) (live:List Nat) (g:X)
 | exit (id:Nat) (live:List Nat)
 | ret (live:List Nat)
def Ab:Value->Bool
 | .bool _| .int .. | .string _| .pointer none| .nilFunc| .nilIface| .slice none 0 0=>true
 |_=>false
def ofValue:Value->PV
 | .slice none 0 0=>.flat (.slice none 0 0)
 | .bool b=>.flat (.bool b)
 | .int k n=>.flat (.int k n)
 | .string s=>.flat (.string s)
 | .pointer none=>.flat (.pointer none)
 | .nilFunc=>.flat .nilFunc
 | .nilIface=>.flat .nilIface
 |_=>.hd
mutual
def PV.pl:PV->Bool
 | .flat _=>true
 | .ha _ cs| .agg cs| .Mb cs| .xd cs=>gc cs
 |_=>false
def gc:List PV->Bool
 |[]=>true
 |v::r=>v.pl&&gc r
end
mutual
def PV.low(nb:Nat):PV->Bool
 | .ptr b _=>decide (b<nb)
 | .ha _ cs| .agg cs| .Mb cs| .xd cs| .fb _ cs| .lp _ _ _ _ cs=>La nb cs
 | .Ma b| .se b _ _=>decide (b<nb)
 |_=>true
def La(nb:Nat):List PV->Bool
 |[]=>true
 |v::r=>v.low nb&&La nb r
end
def trim(nb:Nat)(vs:List PV)(bx:Ha):Ha:=if bx.length=nb then bx else if La nb vs&&(bx.take nb).all (fun q=>La nb q.2)then bx.take nb else bx
def Dq:List PV->Bool
 | .lp _ _ _ _ _::_=>true
 |_=>false
def vd(bx:Ha)(b:Nat):Option (Nat×List PV):=(bx[b]?).bind fun q=>if Dq q.2 then none else some q
theorem lC{bx z}{b}{cs}(h:vd bx b=some cs):vd (bx++z) b=some cs:=by
 unfold vd at h⊢;obtain⟨c,a,d⟩:=qb h;rw[Hk (qg a).1,a];exact d
def xc:PV->Bool
 | .flat (.slice none 0 0)=>true
 |_=>false
def wk(p:PV):PV:=if xc p then .ha 0 []else p
def ae:List PV->List PV
 |[]=>[]
 |p::r=>wk p::ae r
def PV.Hb:PV->PV
 | .flat v=>wk (.flat v)
 | .agg cs=>.agg (ae cs)
 |p=>p
def fd(b:Nat):Nat->List PV->List Loc
 |_,[]=>[]
 |o,p::r=>if xc p then .cell b o::fd b (o+1) r else fd b (o+1) r
def ol(ps:List PV):Bool:=ps.all fun p=>!xc p
def dh:PV->Bool
 | .flat (.int .u8 _)=>true
 |_=>false
def Ad:List PV->Bool
 |[]=>true
 |p::r=>!dh p&&Ad r
def Uf:List PV->Bool
 |[]=>true
 |p::r=>dh p&&Uf r
def Cl(a:Bool)(size:Nat)(cs b:List PV):Bool:=if a then Uf cs else size !=1||(Ad cs&&Ad b)
def look:List (Nat×PV)->Nat->PV
 |[],_=>.hd
 |(j,v)::r,i=>if j=i then v else look r i
def X.ev(sl:List (Nat×PV)):X->PV
 | .t i=>look sl i
 | .c v=>v
def Da:Nat:=4294967296
def Me{p:Prop}(h:p:=by unfold Da;omega):p:=h
def Ic(op:BinOp):Value->Value->Option Value
 | .int k a,.int k' b=>
   match op with
   | .shl=>if b<0 then none else some (.int k (k.wrap (a* 2^(min b.toNat k.bits))))
   | .shr=>if b<0 then none else some (.int k (a.fdiv (2^(min b.toNat k.bits))))
   |op=>if k≠k' then none else
    match op with
    | .add=>some (.int k (k.wrap (a+b)))
    | .sub=>some (.int k (k.wrap (a - b)))
    | .mul=>some (.int k (k.wrap (a* b)))
    | .quo=>if b=0 then none else some (.int k (k.wrap (a.tdiv b)))
    | .rem=>if b=0 then none else some (.int k (a.tmod b))
    | .and=>some (.int k (k.wrap (BitVec.ofInt k.bits a&&&BitVec.ofInt k.bits b).toNat))
    | .or=>some (.int k (k.wrap (BitVec.ofInt k.bits a|||BitVec.ofInt k.bits b).toNat))
    | .xor=>some (.int k (k.wrap (BitVec.ofInt k.bits a ^^^ BitVec.ofInt k.bits b).toNat))
    | .andNot=>some (.int k (k.wrap (BitVec.ofInt k.bits a&&&~~~(BitVec.ofInt k.bits b)).toNat))
    | .eql=>some (.bool (a==b))
    | .neq=>some (.bool (a !=b))
    | .lss=>some (.bool (a<b))
    | .leq=>some (.bool (a<=b))
    | .gtr=>some (.bool (a>b))
    | .geq=>some (.bool (a>=b))
    |_=>none
 | .string a,.string b=>
   match op with
   | .add=>if a.size+b.size<=Da then some (.string (a++b))else none
   | .eql=>some (.bool (a.toList==b.toList))
   | .neq=>some (.bool !(a.toList==b.toList))
   | .lss=>some (.bool (Op.bytesLess a.toList b.toList))
   | .leq=>some (.bool (Op.bytesLess a.toList b.toList||a.toList==b.toList))
   | .gtr=>some (.bool !(Op.bytesLess a.toList b.toList||a.toList==b.toList))
   | .geq=>some (.bool !Op.bytesLess a.toList b.toList)
   |_=>none
 |_,_=>none
def ep(op:UnOp):Value->Option Value
 | .int k n=>match op with
   | .neg=>some (.int k (k.wrap (0 - n)))
   |_=>none
 | .bool b=>match op with
   | .not=>some (.bool !b)
   |_=>none
 |_=>none
def PV.cells:PV->List PV
 | .agg cs=>cs
 |v=>[v]
def PV.li:PV->Bool
 | .hd| .Mb _| .lp ..=>false
 |_=>true
def ki:List PV->List (Nat×Nat×PV)->Option (List PV)
 |cs,[]=>some cs
 |cs,(o,n,v)::r=>if v.li=true/\v.cells.length=n/\o+n<=cs.length then ki (cs.take o++v.cells++cs.drop (o+n)) r else none
def Cq:PV->Option Int
 | .flat (.int _ n)=>some n
 |_=>none
def bytesOf:List PV->Option (List UInt8)
 |[]=>some []
 | .flat (.int .u8 n)::r=>if 0<=n/\n<256 then(bytesOf r).map (UInt8.ofNat n.toNat::·)else none
 |_=>none
def Ec:List LK->List PV->List PV->Option Bool
 |[],[],[]=>some true
 | .b::d,.flat (.bool a)::cs,.flat (.bool b)::c=>(Ec d cs c).map ((a==b)&& ·)
 | .s::d,.flat (.string a)::cs,.flat (.string b)::c=>(Ec d cs c).map ((a==b)&& ·)
 | .i k::d,.flat (.int e a)::cs,.flat (.int g b)::c=>if e=k/\g=k then(Ec d cs c).map ((a==b)&& ·)else none
 |_,_,_=>none
def nf(len:Nat)(b a:Option PV):Option (Nat×Nat):=
 (match a with|none=>some len|some h=>(Cq h).bind fun h=>if 0<=h/\h<=len then some h.toNat else none).bind fun h=>
 (match b with|none=>some 0|some l=>(Cq l).bind fun l=>if 0<=l/\l<=h then some l.toNat else none).map fun l=>(l,h)
def eb:Ea->(X->PV)->Option PV
 | .mv x,ρ| .asg x,ρ=>some (ρ x)
 | .pick c a b,ρ=>match ρ c with| .flat (.bool t)=>some (if t then ρ a else ρ b)|_=>none
 | .bin op x y,ρ=>match ρ x,ρ y with| .flat a,.flat b=>(Ic op a b).map .flat|_,_=>none
 | .beq g x y,ρ=>match ρ x,ρ y with| .flat (.bool a),.flat (.bool b)=>some (.flat (.bool (if g then !(a==b)else a==b)))|_,_=>none
 | .qk x,ρ=>match ρ x with| .ptr b o=>some (.ptr b o)| .xd cs=>some (.xd cs)| .fb f cs=>some (.fb f cs)| .Ma b=>some (.Ma b)|_=>none
 | .un op x,ρ=>match ρ x with| .flat a=>(ep op a).map .flat|_=>none
 | .conv k x,ρ=>match ρ x with| .flat (.int _ n)=>some (.flat (.int k (k.wrap n)))|_=>none
 | .build zs ps,ρ=>(ki zs (ps.map fun q=>(q.1,q.2.1,ρ q.2.2))).map .agg
 | .im o a,ρ=>match ρ a with| .ptr b h=>some (.ptr b (h+o))| .xd cs=>some (.xd (cs.drop o))|_=>none
 | .jm true o n x,ρ=>match ρ x with| .agg cs=>if o+n<=cs.length then some (.agg ((cs.drop o).take n))else none|_=>none
 | .jm false o _ x,ρ=>match ρ x with| .agg cs=>cs[o]?|_=>none
 | .Jg size x i,ρ=>match ρ x,ρ i with
   | .ha n cs,.flat (.int _ i)=>if 0<=i/\i<n then some (.xd (cs.drop (i.toNat* size)))else none
   | .se b o n,.flat (.int _ i)=>if 0<=i/\i<n then some (.ptr b (o+i.toNat* size))else none
   |_,_=>none
 | .xm len size x i,ρ=>match ρ x,ρ i with
   | .ptr b o,.flat (.int _ i)=>if 0<=i/\i<len then some (.ptr b (o+i.toNat* size))else none
   |_,_=>none
 | .om agg len size x i,ρ=>match ρ x,ρ i with
   | .agg cs,.flat (.int _ i)=>if 0<=i/\i<len/\i.toNat* size+size<=cs.length then(match agg with|true=>some (.agg ((cs.drop (i.toNat* size)).take size))|false=>cs[i.toNat* size]?)else none
   |_,_=>none
 | .sliceP len size x e d,ρ=>match ρ x with
   | .ptr b o=>(nf len (e.map ρ) (d.map ρ)).map fun q=>.se b (o+q.1* size) (q.2 - q.1)
   |_=>none
 | .idx x i,ρ=>match ρ x,ρ i with| .flat (.string s),.flat (.int _ i)=>if 0<=i then(s[i.toNat]?).map fun c=>.flat (.int .u8 c.toNat)else none|_,_=>none
 | .sliceS x e d,ρ=>match ρ x with
   | .flat (.string s)=>(nf s.size (e.map ρ) (d.map ρ)).map fun q=>.flat (.string (s.extract q.1 q.2))
   |_=>none
 | .slice size x e d,ρ=>match ρ x with
   | .ha n cs=>if cs.length=n* size/\0<size then(nf n (e.map ρ) (d.map ρ)).map fun q=>.ha (q.2 - q.1) ((cs.take (q.2* size)).drop (q.1* size))else none
   | .se b o n=>(nf n (e.map ρ) (d.map ρ)).map fun q=>.se b (o+q.1* size) (q.2 - q.1)
   |_=>none
 | .ext x i,ρ=>match ρ x with| .Mb vs=>vs[i]?|_=>none
 | .len x,ρ=>match ρ x with| .ha n _| .se _ _ n=>some (.flat (.int .i64 n))| .flat (.slice none 0 0)=>some (.flat (.int .i64 0))|_=>none
 | .Gn x,ρ=>match ρ x with| .flat (.string s)=>some (.flat (.int .i64 s.size))|_=>none
 | .Sk g j x y,ρ=>match ρ x,ρ y with| .agg cs,.agg h=>(Ec j cs h).map fun t=>.flat (.bool (if g then !t else t))|_,_=>none
 | .sp x,ρ=>match ρ x with| .flat (.string s)=>some (.flat (.string s))|_=>none
 | .mm h x y,ρ=>match ρ x,ρ y with
   | .flat (.int k a),.flat (.int k' b)=>if k=k' then some (.flat (.int k (if h then(if b>a then b else a)else(if b<a then b else a))))else none
   |_,_=>none
 | .clos f cs,ρ=>some (.fb f (cs.map ρ))
 |_,_=>none
def Xd(d:Nat):Loc->Bool
 | .slot i=>i==d
 | .cell ..=>false
def Ta(d:Nat)(l:List Loc):List Loc:=l.filter fun L=>!Xd d L
def Jb(d:Nat)(l:List (Nat×Loc)):List (Nat×Loc):=l.filter fun p=>p.1 !=d&& !Xd d p.2
def St.put(st:St)(d:Nat)(v:PV):St:={st with sl:=(d,v)::st.sl,ow:=Ta d st.ow,al:=Jb d st.al}
def St.yc(st:St)(d:Nat)(v:PV):St:={st with sl:=(d,v)::st.sl,ow:=.slot d::Ta d st.ow,al:=Jb d st.al}
def St.Uc(st:St):Option Nat->PV->St
 |none,_=>st
 |some d,v=>st.put d v
def Nd(b o n:Nat):Loc->Bool
 | .slot _=>false
 | .cell a j=>a==b&&o<=j&&j<o+n
abbrev Cg:=List PV×Bool×Ha×List Loc
abbrev Callee:=FuncId->List PV->Ha->List Loc->Option Cg
def Ca:Loc->Bool
 | .cell ..=>true
 |_=>false
def Nc:List PV->PV
 |[v]=>v
 |vs=>.Mb vs
def Dc(cf:Callee)(st:St)(dst:Option Nat)(f:FuncId)(args:List PV):Option St:=
 (cf f args st.bx (st.ow.filter Ca)).map fun(vs,os,bx,oc)=>
   let st':St:={st with bx,ow:=oc.filter Ca++st.ow.filter (fun L=>!Ca L),al:=st.al.filter fun p=>!Ca p.2}
   match dst with
   |none=>st'
   |some d=>if os then st'.yc d (Nc vs)else st'.put d (Nc vs)
def Sd(cf:Callee)(st:St)(dst:Option Nat)(f:FuncId)(args:List PV):Option St:=
 if gc args then
  (cf f args [] []).bind fun(vs,os,_,_)=>if gc vs then
    (match dst with
     |none=>some st
     |some d=>some (if os then st.yc d (Nc vs)else st.put d (Nc vs)))else Dc cf st dst f args
 else Dc cf st dst f args
def hb:FuncId:=4611686018427387904
def ab(st:St):Loc->Option PV
 | .slot i=>some (look st.sl i)
 | .cell b j=>(st.bx[b]?).bind fun q=>q.2[j]?
def origin(st:St)(t:Nat):Option Loc:=
 if .slot t∈st.ow then some (.slot t)else(st.al.find? fun p=>p.1==t).map (·.2)
def sm(agg:Bool)(n:Nat)(p:PV)(bx:Ha):Option PV:=match p with
 | .xd cs=>if n<=cs.length then(match agg with|true=>some (.agg (cs.take n))|false=>cs[0]?)else none
 | .ptr b o=>(vd bx b).bind fun q=>if o+n<=q.2.length then(match agg with|true=>some (.agg ((q.2.drop o).take n))|false=>q.2[o]?)else none
 |_=>none
def Vl(p:PV)(bx:Ha):Option PV:=match p with
 | .flat (.slice none 0 0)=>some (.flat (.string ⟨#[]⟩))
 | .ha n cs=>if cs.length=n then(bytesOf cs).map fun l=>.flat (.string ⟨l.toArray⟩)else none
 | .se b o n=>(vd bx b).bind fun q=>if o+n<=q.2.length then(bytesOf ((q.2.drop o).take n)).map fun l=>.flat (.string ⟨l.toArray⟩)else none
 |_=>none
def Jh(s:ByteArray):List PV:=s.data.toList.map fun b=>.flat (.int .u8 b.toNat)
def na(cf:Callee)(st:St)(dst:Option Nat)(op:Ea):Option St:=
 match op with
 | .mvA s=>dst.bind fun d=>if s=d then none else some {(st.put d (look st.sl s))with al:=(d,.slot s)::Jb d st.al}
 | .asg (.t s)=>match dst with
   |none=>none
   |some d=>if s=d then none else
    if .slot s∈st.ow then some {st with sl:=(d,look st.sl s)::st.sl,ow:=.slot d::Ta s (Ta d st.ow),al:=Jb s (Jb d st.al)}else some (st.put d (look st.sl s))
 | .alloc e zs=>dst.map fun d=>{(st.put d (.ptr st.bx.length 0))with bx:=st.bx++[(e,zs.map wk)],ow:=fd st.bx.length 0 zs++Ta d st.ow}
 | .box e n x=>dst.bind fun d=>if(x.ev st.sl).li=true/\(x.ev st.sl).cells.length=n then some {(st.put d (.ptr st.bx.length 0))with bx:=st.bx++[(e,(x.ev st.sl).cells.map wk)],ow:=fd st.bx.length 0 (x.ev st.sl).cells++Ta d st.ow}else none
 | .mksl c n size zs ps=>dst.bind fun d=>(ki zs (ps.map fun q=>(q.1,q.2.1,q.2.2.ev st.sl))).bind fun cs=>if c=true\/size≠1\/Ad (ae cs)=true then some (st.yc d (.ha n (ae cs)))else none
 | .b2s x=>(Vl (x.ev st.sl) st.bx).map (st.Uc dst)
 | .load agg n a=>dst.bind fun d=>(sm agg n (a.ev st.sl) st.bx).map (st.put d)
 | .loadA a=>dst.bind fun d=>match a.ev st.sl with
   | .ptr b o=>((vd st.bx b).bind fun q=>q.2[o]?).map fun v=>{(st.put d v)with al:=(d,.cell b o)::Jb d st.al}
   |_=>none
 | .loadM a=>dst.bind fun d=>match a.ev st.sl with
   | .ptr b o=>((vd st.bx b).bind fun q=>q.2[o]?).bind fun v=>if .cell b o∈st.ow then some {(st.put d v)with ow:=.slot d::(Ta d st.ow).filter (·≠.cell b o),al:=[]}else none
   |_=>none
 | .store n a x=>match dst,a.ev st.sl with
   |none,.ptr b o=>(vd st.bx b).bind fun q=>if(x.ev st.sl).li=true/\(x.ev st.sl).cells.length=n/\o+n<=q.2.length then
    let bx:=st.bx.set b (q.1,q.2.take o++(x.ev st.sl).cells.map wk++q.2.drop (o+n))
    let ow:=fd b o (x.ev st.sl).cells++st.ow.filter fun L=>!Nd b o n L
    let al:=st.al.filter fun p=>!Nd b o n p.2
    match x with
    | .t s=>if .slot s∈st.ow then some {st with bx,ow:=.cell b o::Ta s ow,al:=Jb s al}else some {st with bx,ow,al}
    | .c _=>some {st with bx,ow,al}
    else none
   |_,_=>none
 | .append c size x y=>if xc (x.ev st.sl)then
  (match(y.ev st.sl).Hb with
   | .ha m h=>if m<=Da/\h.length=m* size/\Cl c size [] h=true then dst.map fun d=>if m=0 then st.put d (.flat (.slice none 0 0))else st.yc d (.ha m h)else none
   |_=>none)
   else match x with
   | .t s=>(origin st s).bind fun L=>dst.bind fun d=>match ab st L,(y.ev st.sl).Hb with
     |some (.ha n cs),.ha m h=>if n+m<=Da/\cs.length=n* size/\h.length=m* size/\L∈st.ow/\Cl c size cs h=true then
      some {st with sl:=(d,.ha (n+m) (cs++h))::st.sl,ow:=.slot d::Ta d (st.ow.filter (·≠L)),al:=Jb d (st.al.filter fun p=>p.2≠L)}else none
     |_,_=>none
   |_=>none
 | .appendS x y=>if xc (x.ev st.sl)then
  (match y.ev st.sl with
   | .flat (.string z)=>if z.size<=Da then dst.map fun d=>if z.size=0 then st.put d (.flat (.slice none 0 0))else st.yc d (.ha z.size (Jh z))else none
   |_=>none)
   else match x with
   | .t s=>(origin st s).bind fun L=>dst.bind fun d=>match ab st L,y.ev st.sl with
     |some (.ha n cs),.flat (.string z)=>if n+z.size<=Da/\cs.length=n/\L∈st.ow/\Uf cs=true then
      some {st with sl:=(d,.ha (n+z.size) (cs++Jh z))::st.sl,ow:=.slot d::Ta d (st.ow.filter (·≠L)),al:=Jb d (st.al.filter fun p=>p.2≠L)}else none
     |_,_=>none
   |_=>none
 | .call f args=>Sd cf st dst f (args.map fun x=>(x.ev st.sl).Hb)
 | .callv g args=>match g.ev st.sl with
   | .fb f Oa=>if f=hb then none else Sd cf st dst f ((args.map fun x=>(x.ev st.sl).Hb)++Oa)
   | .Ma b=>Dc cf st dst hb (.Ma b::args.map fun x=>(x.ev st.sl).Hb)
   |_=>none
 |op=>(eb op (·.ev st.sl)).map (st.Uc dst)
def de(st:St):Option (Nat×Bool)->Option Bool
 |none=>some true
 |some (s,a)=>match look st.sl s with
  | .flat (.bool b)=>some (b==a)
  | .Mb []=>some false
  |_=>none
def stepG(cf:Callee)(st:St)(o:Qa):Option St:=(de st o.g).bind fun b=>if b then na cf st o.dst o.op else some (st.Uc o.dst (.Mb []))
def vc(cf:Callee):List Qa->St->Option St
 |[],st=>some st
 |o::r,st=>(stepG cf st o).bind (vc cf r)
def Mi(cf:Callee)(f:FuncId)(args:List PV):Bool:=gc args&&match cf f args [] []with
 |some (vs,_)=>gc vs
 |none=>false
def sb(cf:Callee)(sl:List (Nat×PV)):Ea->Bool
 | .call f args=>Mi cf f (args.map fun x=>(x.ev sl).Hb)
 | .callv g args=>match g.ev sl with
   | .fb f Oa=>f !=hb&&Mi cf f ((args.map fun x=>(x.ev sl).Hb)++Oa)
   |_=>false
 | .alloc _ zs=>ol zs
 | .box _ _ x=>ol (x.ev sl).cells
 |_=>true
def fe(cf:Callee)(st:St)(o:Qa):Option St:=(de st o.g).bind fun b=>if b then(if sb cf st.sl o.op then na cf st o.dst o.op else none)else some (st.Uc o.dst (.Mb []))
def Xf(cf:Callee):List Qa->St->Option St
 |[],st=>some st
 |o::r,st=>(fe cf st o).bind (Xf cf r)
open Classical in
noncomputable def same{α:Type}(a b:Option α):Option α:=if a=b then a else none
inductive Out where
 | normal
 | exit (id:Nat)
 | ret
def St.Wq(st:St)(live:List Nat)(nb:Nat):St:=
 let bx:=trim nb (live.map (look st.sl)) st.bx
 {sl:=live.map fun i=>(i,look st.sl i),ow:=(live.filter fun i=>decide (.slot i∈st.ow)).map .slot++st.ow.filter (fun| .slot _=>false| .cell b _=>decide (b<bx.length)),al:=[],bx}
def St.Hq(st:St)(live:List Nat):St:=
 {sl:=live.map fun i=>(i,look st.sl i),ow:=(live.filter fun i=>decide (.slot i∈st.ow)).map .slot++st.ow.filter Ca,al:=[],bx:=st.bx}
def St.pj(st:St)(live:List Nat):St:={st with sl:=st.sl.map fun q=>(q.1,wk q.2),ow:=((live.filter fun i=>xc (look st.sl i)).map .slot)++st.ow}
def St.only(st:St)(live:List Nat)(nb:Nat):St:=(st.pj live).Wq live nb
def St.uf(st:St)(live:List Nat):St:=(st.pj live).Hq live
def St.fi(st:St)(nb:Nat):St:=
 let bx:=trim nb (st.sl.map (·.2)) st.bx
 {st with bx,ow:=if bx.length=st.bx.length then st.ow else st.ow.filter (fun| .slot _=>true| .cell b _=>decide (b<bx.length)),al:=[]}
open Classical in
noncomputable def Jc(cf:Callee)(st:St)(o:Qa):Option St:=match o.op,o.dst with
 | .call _ _,some d=>(stepG cf st o).bind fun s'=>if s'.bx=st.bx/\s'.ow.filter Ca=st.ow.filter Ca then some (st.put d (look s'.sl d))else none
 |_,_=>stepG cf st o
noncomputable def ye(cf:Callee):List Qa->St->Option St
 |[],st=>some st
 |o::r,st=>(Jc cf st o).bind (ye cf r)
noncomputable def yd(cf:Callee)(live:List Nat):BT->St->Option St
 | .done,st=>some (st.uf live)
 | .one o t,st=>(stepG cf st o).bind (yd cf live t)
 | .two o t r,st=>same ((stepG cf st o).bind (yd cf live t)) (yd cf live r st)
def Fc(body:St->Option (Out×St))(live:List Nat)(nb:Nat):Nat->St->Option (Out×St)
 |0,_=>none
 |n+1,st=>(body st).bind fun
  |(.normal,st')=>Fc body live nb n (st'.only live nb)
  |r=>some r
def Zj(cf:Callee)(f k:Nat)(live:List Nat)(g:PV)(st:St):Option (Out×St):=match g with
 | .fb h Oa=>if h=hb then none else
   (Dc cf {st with bx:=st.bx++[(0,[.lp f k .ready live (live.map (look st.sl))])]} none h (.Ma st.bx.length::Oa)).bind fun a=>
     match a.bx[st.bx.length]? with
     |some (_,[.lp f' k' s live' snap'])=>
      let b:St:={a with bx:=a.bx.set st.bx.length (0,[.lp f' k' .over live' snap'])}
      match s with
      | .ready=>some (.normal,b)
      | .done (.exit i)=>some (.exit i,b)
      | .done .ret=>some (.ret,b)
      |_=>none
     |_=>none
 |_=>none
noncomputable def pa(cf:Callee)(n:Nat):oa->St->Option (Out×St)
 | .skip,st=>some (.normal,st)
 | .Ld live pre d,st=>((Xf cf pre st).bind (vc cf d)).map fun st=>(.normal,st.uf live)
 | .dg live pre t,st=>((ye cf pre st).bind (yd cf live t)).map fun st=>(.normal,st)
 | .seq a b,st=>(pa cf n a st).bind fun
   |(.normal,st')=>pa cf n b st'
   |r=>some r
 | .cond c a b,st=>match c.ev st.sl with
   | .flat (.bool t)=>if t then pa cf n a st else pa cf n b st
   |_=>none
 | .block id b,st=>(pa cf n b st).map fun
   |(.exit j,st')=>if j=id then(.normal,st'.fi st.bx.length)else(.exit j,st')
   |(.normal,st')=>(.normal,st'.fi st.bx.length)
   |r=>r
 | .loop live b,st=>Fc (pa cf n b) live st.bx.length n (st.only live st.bx.length)
 | .range f k live g,st=>Zj cf f k live (g.ev st.sl) st
 | .exit id live,st=>some (.exit id,st.uf live)
 | .ret live,st=>some (.ret,st.uf live)
structure Ba where
 nt:Nat
 yb:List (Sum Nat (Nat × Bool × Nat))
 body:oa
 Qi:List (List Nat × oa × oa)
def Oi(st:St):Sum Nat (Nat×Bool×Nat)->Option PV
 | .inl i=>some (look st.sl i)
 | .inr (i,agg,n)=>match look st.sl i with
   | .ptr b o=>match vd st.bx b with
     |some q=>if o+n<=q.2.length then(if agg then some (.agg ((q.2.drop o).take n))else q.2[o]?)else none
     |none=>none
   |_=>none
def ag:Nat->List PV->List (Nat×PV)
 |_,[]=>[]
 |i,v::r=>(i,v)::ag (i+1) r
def Qn(rs:List (Sum Nat (Nat×Bool×Nat)))(ow:List Loc):Bool:=match rs with
 |[.inl s]=>decide (.slot s∈ow)
 |_=>false
def Yg(n:Nat)(ow:List Loc):List Loc:=ow.filter fun| .slot _=>false| .cell b _=>decide (b<n)
noncomputable def Uk(cf:Callee)(code:FuncId->Option Ba)(n:Nat)(args:List PV)(bx:Ha)(oc:List Loc):Option Cg:=match args with
 | .Ma b::az=>match bx[b]? with
   |some (_,[.lp f k .ready live e])=>(code f).bind fun c=>(c.Qi[k]?).bind fun q=>
    if az.length=q.1.length then
     (pa cf n q.2.1 {sl:=(q.1.zip az).foldl (fun l p=>p::l) (live.zip e),ow:=oc,al:=[],bx}).bind fun(j,s1)=>
       match j,s1.bx[b]? with
       | .normal,some (_,[.lp g h .ready a d])=>
         (pa cf n q.2.2 {s1 with bx:=s1.bx.set b (0,[.lp g h .busy a d])}).bind fun(o,st)=>
           match st.bx[b]? with
           |some (_,[.lp f' k' .busy live' snap'])=>
            let r:Tp×Bool:=match o with
             | .normal=>(.ready,true)
             | .exit i=>(.done (.exit i),false)
             | .ret=>(.done .ret,false)
            let bx':=trim bx.length [.flat (.bool r.2)] (st.bx.set b (0,[.lp f' k' r.1 live' snap']))
            some ([.flat (.bool r.2)],false,bx',Yg bx'.length st.ow)
           |_=>none
       |_,_=>none
    else none
   |_=>none
 |_=>none
noncomputable def Qh(code:FuncId->Option Ba)(lib:Callee):Nat->Callee
 |0,_,_,_,_=>none
 |n+1,f,args,bx,oc=>match code f with
  |none=>if f=hb then Uk (Qh code lib n) code n args bx oc else lib f args bx oc
  |some c=>
   if args.length<=c.nt then
    (pa (Qh code lib n) n c.body {sl:=ag 0 args,ow:=oc,al:=[],bx}).bind fun(o,st)=>
      match o with
      | .exit _=>none
      |_=>(c.yb.mapM (Oi st)).map fun vs=>
       (vs,Qn c.yb st.ow,trim bx.length vs st.bx,Yg (trim bx.length vs st.bx).length st.ow)
   else none
def Row(w:World)(Fr:Nat->Nat)(g o:Nat)(vs:List Value):Prop:=∀(j:Nat)(v:Value),vs[j]?=some v->o+j<Fr g/\w.cell? ⟨g,o+j,none⟩=some v
def Oc(vs:List Value):Prop:=∀v∈vs,v.oneCell'=true
mutual
def Rd(w:World)(Fr:Nat->Nat)(β:List Nat):PV->Value->Prop
 | .hd,_=>True
 | .flat a,v=>v=a/\Ab a=true
 | .ha n cs,v=>∃a c,v=.slice a n c/\n<=c/\((cs=[]/\n=0)\/∃g o vs,a=some ⟨g,o,none⟩/\Row w Fr g o vs/\sa w Fr β cs vs/\Oc vs)
 | .agg cs,v=>∃vs,v=.agg vs.toArray/\sa w Fr β cs vs/\Oc vs
 | .Mb cs,v=>∃vs,v=.tuple vs.toArray/\sa w Fr β cs vs
 | .ptr b o,v=>∃g,β[b]?=some g/\v=.pointer (some ⟨g,o,none⟩)
 | .xd cs,v=>∃g o vs,v=.pointer (some ⟨g,o,none⟩)/\Row w Fr g o vs/\sa w Fr β cs vs/\Oc vs
 | .fb f Oa,v=>∃vs,v=.func (.func f) #[] vs.toArray/\sa w Fr β Oa vs
 | .Ma b,v=>∃g,β[b]?=some g/\v=.func (.yield g) #[] #[]
 | .se b d n,v=>∃g a c,β[b]?=some g/\v=.slice a n c/\n<=c/\(n=0\/a=some ⟨g,d,none⟩)
 | .lp _ _ _ _ _,_=>False
def sa(w:World)(Fr:Nat->Nat)(β:List Nat):List PV->List Value->Prop
 |[],vs=>vs=[]
 |p::ps,vs=>∃v r,vs=v::r/\Rd w Fr β p v/\sa w Fr β ps r
end
structure Le (w:World) (Fr:Nat→Nat) (β:List Nat) (w':World) (Fr':Nat→Nat) (β':List Nat):Prop where
 size:w.heap.size≤w'.heap.size
 fr:∀ b,b<w.heap.size→Fr b≤Fr' b
 cell:∀ b o,b<w.heap.size→o<Fr b→w'.cell? ⟨b,o,none⟩=w.cell? ⟨b,o,none⟩
 box:∀ i g:Nat,β[i]? =some g→β'[i]? =some g
 lp:∀ (g:Nat) (r:Loop),w.heap[g]? =some (Obj.loop r)→∃ r':Loop,w'.heap[g]? =some (Obj.loop r')
theorem Le.refl(w)(Fr)(β):Le w Fr β w Fr β:=⟨la _,fun _ _=>la _,fun _ _ _ _=>rfl,fun _ _ h=>h,fun _ r h=>⟨r,h⟩⟩
theorem Le.trans{w w' e}{Fr Fr' a}{β β' c}(h:Le w Fr β w' Fr' β')(k:Le w' Fr' β' e a c):Le w Fr β e a c:=
 ⟨Ob h.size k.size,fun b d=>Ob (h.fr b d) (k.fr b (Qf d h.size)),fun b o d j=>(k.cell b o (Qf d h.size) (Qf j (h.fr b d))).trans (h.cell b o d j),fun i g n=>k.box i g (h.box i g n),fun g r hr=>by obtain⟨r1,l⟩:=h.lp g r hr;exact k.lp g r1 l⟩
section
variable {w w':World} {Fr Fr':Nat→Nat} {β β':List Nat}
theorem Row.mono(d:Le w Fr β w' Fr' β'){g o}{vs}(h:Row w Fr g o vs):Row w' Fr' g o vs:=fun j v e=>by
 obtain⟨a,b⟩:=h j v e;have c:g<w.heap.size:=Et w _ b;exact⟨Qf a (d.fr g c),(d.cell g _ c a).trans b⟩
mutual
theorem Rd.mono(d:Le w Fr β w' Fr' β'):∀(p:PV)(v:Value),Rd w Fr β p v->Rd w' Fr' β' p v
 | .hd,_,h=>by simp[Rd]
 | .flat a,v,h=>by grind [Rd]
 | .ha n cs,v,h=>by
   obtain⟨a,i,c,e,k⟩:=h;refine⟨a,i,c,e,k.imp id ?_⟩;rintro⟨g,o,vs,l,hr,hs,j⟩;exact⟨g,o,vs,l,hr.mono d,sa.mono d cs vs hs,j⟩
 | .agg cs,v,h=>by
   obtain⟨vs,c,hs,j⟩:=h;exact⟨vs,c,sa.mono d cs vs hs,j⟩
 | .Mb cs,v,h=>by
   obtain⟨vs,c,hs⟩:=h;exact⟨vs,c,sa.mono d cs vs hs⟩
 | .ptr b o,v,h=>by
   obtain⟨g,c,e⟩:=h;exact⟨g,d.box _ _ c,e⟩
 | .xd cs,v,h=>by
   obtain⟨g,o,vs,c,hr,hs,j⟩:=h;exact⟨g,o,vs,c,hr.mono d,sa.mono d cs vs hs,j⟩
 | .fb f Oa,v,h=>by
   obtain⟨vs,c,hs⟩:=h;exact⟨vs,c,sa.mono d Oa vs hs⟩
 | .Ma b,v,h=>by
   obtain⟨g,c,e⟩:=h;exact⟨g,d.box _ _ c,e⟩
 | .se b l n,v,h=>by
   obtain⟨g,a,i,c,e⟩:=h;exact⟨g,a,i,d.box _ _ c,e⟩
 | .lp _ _ _ _ _,v,h=>by grind [Rd]
theorem sa.mono(d:Le w Fr β w' Fr' β'):∀(ps:List PV)(vs:List Value),sa w Fr β ps vs->sa w' Fr' β' ps vs
 |[],_,h=>by grind [sa]
 |p::ps,vs,h=>by
  obtain⟨v,r,c,e,k⟩:=h;exact⟨v,r,c,Rd.mono d p v e,sa.mono d ps r k⟩
end
theorem sa.length:∀{ps}{vs},sa w Fr β ps vs->vs.length=ps.length
 |[],_,h=>by grind [sa]
 |p::ps,vs,h=>by
  obtain⟨v,r,a,c,b⟩:=h;rw[a,za,za,sa.length b]
theorem sa.get:∀{ps}{vs},sa w Fr β ps vs->∀(j:Nat)(p),ps[j]?=some p->∃v,vs[j]?=some v/\Rd w Fr β p v
 |[],_,h,j,p,a=>by grind
 |p::ps,vs,h,0,q,a=>by
  grind [sa]
 |p::ps,vs,h,j+1,q,a=>by
  obtain⟨v,r,c,d,b⟩:=h;obtain⟨u,e,g⟩:=sa.get b j q a
  grind
theorem sa.take:∀{ps}{vs}(k),sa w Fr β ps vs->sa w Fr β (ps.take k) (vs.take k)
 |[],_,k,h=>by grind [sa]
 |p::ps,vs,0,h=>by rfl
 |p::ps,vs,k+1,h=>by
  obtain⟨v,r,a,b,c⟩:=h;rw[a,Ft,Ft];exact⟨v,_,rfl,b,sa.take k c⟩
theorem sa.drop:∀{ps}{vs}(k),sa w Fr β ps vs->sa w Fr β (ps.drop k) (vs.drop k)
 |[],_,k,h=>by grind [sa]
 |p::ps,vs,0,h=>by grind
 |p::ps,vs,k+1,h=>by
  obtain⟨v,r,a,c,b⟩:=h;rw[a,ir,ir];exact sa.drop k b
theorem sa.append:∀{ps qs}{vs us},sa w Fr β ps vs->sa w Fr β qs us->sa w Fr β (ps++qs) (vs++us)
 |[],qs,vs,us,h,k=>by grind [sa]
 |p::ps,qs,vs,us,h,k=>by
  obtain⟨v,r,a,b,c⟩:=h;rw[a,ub,ub];exact⟨v,_,rfl,b,sa.append c k⟩
end
theorem Oc.take{vs}(h:Oc vs)(k):Oc (vs.take k):=fun v a=>h v (zw a)
theorem Oc.drop{vs}(h:Oc vs)(k):Oc (vs.drop k):=fun v a=>h v (List.mem_of_mem_drop a)
def Oc.append{vs us}(h:Oc vs)(k:Oc us):Oc (vs++us):=fun v a=>(wg.1 a).elim (h v) (k v)
theorem Row.drop{w}{Fr}{g o}{vs}(h:Row w Fr g o vs)(k):Row w Fr g (o+k) (vs.drop k):=fun j v a=>by
 rw[Fj]at a;have:=h (k+j) v a
 grind
theorem Row.take{w}{Fr}{g o}{vs}(h:Row w Fr g o vs)(k):Row w Fr g o (vs.take k):=fun j v a=>by
 rw[List.getElem?_take]at a;split at a
 ·exact h j v a
 grind
def U8(P:Program):TypeId:=((List.range P.types.size).find? fun t=>match P.underlying t with|some (.int .u8)=>true|_=>false).getD 0
def Sf(P:Program)(w:World)(Fr:Nat->Nat)(p:PV)(v:Value):Prop:=∃n cs,p=.ha n cs/\(v=.slice none 0 0\/
 ∃g a b e c,v=.slice (some ⟨g,0,none⟩) n a/\w.heap[g]?=some (.cells b e (0,0))/\n<=a/\a<=maxLen/\b.size=a* c/\Fr g=cs.length/\cs.length=n* c/\(n=0->a=0)/\(c=1->Ad cs=true\/e=U8 P))
def Ga(a:Act)(w:World)(β:List Nat):Loc->Option Value
 | .slot i=>some (a.tmps.getD i undef)
 | .cell b j=>(β[b]?).bind fun g=>w.cell? ⟨g,j,none⟩
def Lb:Code->List (Operand×Array Tmp×Code×Code)
 | .seq a b=>Lb a++Lb b
 | .cond _ a b=>Lb a++Lb b
 | .block _ b| .loop b| .scope b=>Lb b
 | .rangeFunc g ps az b=>(g,ps,az,b)::(Lb az++Lb b)
 |_=>[]
def rangeAt(P:Program)(f k:Nat):Option (Operand×Array Tmp×Code×Code):=((P.funcs[f]?).bind (·.body)).bind fun c=>(Lb c)[k]?
def Mw.code:Mw->Code
 | .exit i=>.exit i
 | .ret=>.ret
def Tp.of:Tp->Loop->Prop
 | .ready,r=>r.state=.ready/\r.pending=none
 | .busy,r=>r.state=.busy
 | .done j,r=>r.state=.done/\r.pending=some j.code
 | .over,_=>True
def zr(P:Program)(w:World)(Fr:Nat->Nat)(β:List Nat)(f k:Nat)(s:Tp)(live:List Nat)(a:List PV)(g:Nat):Prop:=
 ∃r,w.heap[g]?=some (Obj.loop r)/\(∃fn,P.funcs[f]?=some fn/\r.tmps.size=fn.ntmps)/\(∃x,rangeAt P f k=some (x,r.params,r.assign,r.body))/\s.of r/\∀i,Rd w Fr β (look (live.zip a) i) (r.tmps.getD i undef)
def Oj(P:Program)(w:World)(Fr:Nat->Nat)(β:List Nat)(q:Nat×List PV)(g:Nat):Prop:=
 (∃vs e,w.heap[g]?=some (.cells vs.toArray e (0,0))/\sa w Fr β q.2 vs/\Oc vs/\q.1=e)\/∃f k s live a,q.2=[.lp f k s live a]/\zr P w Fr β f k s live a g
def Lk(P:Program)(w:World)(Fr:Nat->Nat)(β:List Nat)(bx:Ha):Prop:=bx.length=β.length/\
 ∀(b:Nat)(cs:Nat×List PV),bx[b]?=some cs->∃g,β[b]?=some g/\Fr g=0/\Oj P w Fr β cs g
section
variable {P:Program} {w w':World} {Fr Fr':Nat→Nat} {β β':List Nat} {bx:Ha}
theorem Lk.cells(h:Lk P w Fr β bx){b}{q}(j:vd bx b=some q):bx[b]?=some q/\Dq q.2=false/\∃g vs e,β[b]?=some g/\w.heap[g]?=some (.cells vs.toArray e (0,0))/\sa w Fr β q.2 vs/\Oc vs/\Fr g=0/\q.1=e:=by
 obtain⟨t,c,a⟩:=qb j;split at a
 ·cases a
 ·cases a
  obtain⟨g,n,o,d⟩:=h.2 b q c;refine⟨c,ia,?_⟩;rcases d with⟨vs,e,d,p,r,l⟩|⟨f,k,s,live,i,l,_⟩
  ·grind
  ·grind [Dq]
theorem Oj.block{cs}{g}(h:Oj P w Fr β cs g):∃o,w.heap[g]?=some o/\∀b,o≠.deferred b:=by
 rcases h with⟨vs,e,h,_⟩|⟨f,k,s,live,a,_,r,h,_⟩
 ·grind
 grind
def Oj.kept{cs}{g}(h:Oj P w Fr β cs g)(l:Le w Fr β w' Fr' β')(j:w'.heap[g]?=w.heap[g]?):Oj P w' Fr' β' cs g:=by
 rcases h with⟨vs,e,b,c,d⟩|⟨f,k,s,live,a,n,r,b,c,d,o,p⟩
 ·exact .inl ⟨vs,e,j.trans b,c.mono l,d⟩
 ·exact .inr ⟨f,k,s,live,a,n,r,j.trans b,c,d,o,fun i=>(p i).mono l⟩
def Lk.at(h:Lk P w Fr β bx){g}(c:g∈β):∃o,w.heap[g]?=some o/\∀b,o≠.deferred b:=by
 obtain⟨i,d⟩:=List.getElem?_of_mem c;have a:i<bx.length:=by rw[h.1];exact(qg d).1
 obtain⟨e,j,_,k⟩:=h.2 i _ (qe a)
 grind [Oj.block]
theorem Lk.lt(h:Lk P w Fr β bx){g}(a:g∈β):g<w.heap.size:=by
 obtain⟨o,b,_⟩:=h.at a
 grind
theorem Lk.kept(h:Lk P w Fr β bx)(j:Le w Fr β w' Fr' β)(i:∀g∈β,w'.heap[g]?=w.heap[g]?/\Fr' g=Fr g):Lk P w' Fr' β bx:=by
 refine⟨h.1,fun b cs a=>?_⟩;obtain⟨g,c,d,e⟩:=h.2 b cs a;obtain⟨k,l⟩:=i g (Ah c);exact⟨g,c,l.trans d,e.kept j k⟩
end
def mark(D:Nat):Deferred:={target:=.collected D,args:=#[]}
def Marks(T:List Deferred)(base:Nat)(w:World)(b:List Deferred):Prop:=∃a:List Nat,a.Nodup/\b=a.map mark++T/\∀D∈a,base<=D/\w.heap[D]?=some (.deferred (some []))
structure Rel (P:Program) (T:List Deferred) (base:Nat) (M:Nat→Prop) (w0:World) (F0:Nat→Nat) (nt:Nat) (st:St) (a:Act) (w:World) (Fr:Nat→Nat) (β:List Nat):Prop where
 sl:∀ i,Rd w Fr β (look st.sl i) (a.tmps.getD i undef)
 nt:a.tmps.size=nt
 df:Marks T base w a.defers
 bx:Lk P w Fr β st.bx
 nd:β.Nodup
 own:∀ L∈st.ow,∃ v p,Ga a w β L=some v∧ab st L=some p∧Sf P w Fr p v
 sep:∀ L∈st.ow,∀ L'∈st.ow,L≠L'→∀ v v' g,Ga a w β L=some v→Ga a w β L'=some v'→v.ownBlock=some g→v'.ownBlock≠some g
 out:∀ L∈st.ow,∀ v g,Ga a w β L=some v→v.ownBlock=some g→g ∉ β
 al:∀ p∈st.al,Ga a w β p.2=some (a.tmps.getD p.1 undef)
 may:∀ g,(g∈β∨∃ L∈st.ow,∃ v,Ga a w β L=some v∧v.ownBlock=some g)→base≤g∨M g
 old:∀ b,b<base→¬ M b→w.heap[b]? =w0.heap[b]? ∧Fr b=F0 b
 ge:base≤w.heap.size
 os:w.os=w0.os
 tape:w.tape=w0.tape
 output:w.output=w0.output
theorem Sf.lt{P}{w}{Fr}{p}{v}(h:Sf P w Fr p v){g}(a:v.ownBlock=some g):g<w.heap.size:=by
 obtain⟨n,cs,_,h|⟨i,b,c,e,k,d,j,_⟩⟩:=h
 ·subst h;cases a
 ·subst d;cases a
  grind
def Rel.next{P}{T}{base nt}{M}{w0 w w'}{F0}{st st'}{a a'}{Fr Fr'}{β β'}(R:Rel P T base M w0 F0 nt st a w Fr β)(hlZ:Le w Fr β w' Fr' β')
 (hsl:∀i,Rd w' Fr' β' (look st'.sl i) (a'.tmps.getD i undef)) (hnt:a'.tmps.size=nt) (hdf:a'.defers=a.defers) (Z:Lk P w' Fr' β' st'.bx) (hnd:β'.Nodup) (O:∀g∈β',g∈β\/w.heap.size<=g)
 (l:Loc->Option Loc)
 (j:∀L∈st'.ow,∃v p,Ga a' w' β' L=some v/\ab st' L=some p/\Sf P w' Fr' p v/\
   (∀g,v.ownBlock=some g->(w.heap.size<=g/\g∉β'/\l L=none)\/∃c∈st.ow,l L=some c/\∃v0,Ga a w β c=some v0/\v0.ownBlock=some g))
 (K:∀L∈st'.ow,∀x∈st'.ow,L≠x->∀c,l L=some c->l x≠some c)
 (S:∀L∈st'.ow,∀x∈st'.ow,L≠x->l L=none->l x=none->∀v v'Z g,Ga a' w' β' L=some v->Ga a' w' β' x=some v'Z->v.ownBlock=some g->v'Z.ownBlock≠some g)
 (Y:∀p∈st'.al,Ga a' w' β' p.2=some (a'.tmps.getD p.1 undef))
 (r:∀b,b<w.heap.size->b∉β->(∀L∈st.ow,∀v,Ga a w β L=some v->v.ownBlock≠some b)->w'.heap[b]?=w.heap[b]?/\Fr' b=Fr b) (hos:w'.os=w.os) (C:w'.tape=w.tape) (N:w'.output=w.output):Rel P T base M w0 F0 nt st' a' w' Fr' β':=by
 have ea:∀c∈st.ow,∀v0 g,Ga a w β c=some v0->v0.ownBlock=some g->g<w.heap.size:=fun c h0Z v0 g t d=>by
  obtain⟨v,p,k,h2Z,Q⟩:=R.own c h0Z;rw[t]at k;cases k;exact Q.lt d
 have z:∀b,b<base->¬M b->w'.heap[b]?=w.heap[b]?/\Fr' b=Fr b:=fun b y B=>
  r b (Qf y R.ge) (fun h=>(R.may b (.inl h)).elim (fun h=>by omega) B) fun L q v t d=>(R.may b (.inr ⟨L,q,v,t,d⟩)).elim (fun h=>by omega) B
 have J:Marks T base w' a'.defers:=by
  obtain⟨DsZ,k,h2Z,Q⟩:=R.df;refine⟨DsZ,k,hdf.trans h2Z,fun D hDZ=>⟨(Q D hDZ).1,?_⟩⟩;have A:=(Q D hDZ).2;rw[(r D (xg.1 A).1 (fun h=>?_) fun L q v t d=>?_).1]
  ·exact A
  ·obtain⟨o,X,k2Z⟩:=R.bx.at h
   grind
  ·obtain⟨u,p,X,_,n,cs,_,k2Z⟩:=R.own L q
   rw[t]at X;cases X;rcases k2Z with rfl|⟨g'Z,cap,cur,e,szZ,rfl,k3Z,_⟩
   ·cases d
   ·cases d;rw[A]at k3Z;cases k3Z
 refine⟨hsl,hnt,J,Z,hnd,fun L q=>?_,fun L q x I ra v v'Z g t hv' d hg'=>?_,fun L q v g t d y=>?_,Y,fun g d=>?_,fun b y B=>⟨(z b y B).1.trans (R.old b y B).1,(z b y B).2.trans (R.old b y B).2⟩,Ob R.ge hlZ.size,hos.trans R.os,C.trans R.tape,N.trans R.output⟩
 ·grind
 ·obtain⟨u,p,k,_,_,H⟩:=j L q
  obtain⟨u'Z,p'Z,A,_,_,X⟩:=j x I;rw[t]at k;cases k;rw[hv']at A;cases A;rcases H g d with⟨U,V,a3⟩|⟨c,E,W,v0,F,G⟩
  ·grind
  ·rcases X g hg' with⟨c1,c2,c3⟩|⟨L1Z,d1Z,d2Z,v1Z,d3Z,d4Z⟩
   ·have:=ea c E v0 g F G;omega
   ·by_cases heZ:c=L1Z
    ·subst heZ;exact K L q x I ra c W d2Z
    ·exact R.sep c E L1Z d1Z heZ v0 v1Z g F d3Z G d4Z
 ·obtain⟨u,p,k,_,_,H⟩:=j L q
  rw[t]at k;cases k;rcases H g d with⟨U,V,a3⟩|⟨c,E,W,v0,F,G⟩
  ·exact V y
  ·rcases O g y with h|h
   ·exact R.out c E v0 g F G h
   grind
 ·have fin:∀g,w.heap.size<=g->base<=g\/M g:=fun g h=>.inl (Ob R.ge h)
  rcases d with d|⟨L,q,v,t,d⟩
  ·rcases O g d with h|h
   ·exact R.may g (.inl h)
   ·exact fin g h
  ·obtain⟨u,p,k,_,_,H⟩:=j L q
   rw[t]at k;cases k;rcases H g d with⟨U,V,a3⟩|⟨c,E,W,v0,F,G⟩
   ·exact fin g U
   ·exact R.may g (.inr ⟨c,E,v0,F,G⟩)
theorem Bv{d}{L}(h:Xd d L=false):L≠.slot d:=by grind [Xd]
theorem ml{d}{l}{L}:L∈Ta d l ↔ L∈l/\Xd d L=false:=by simp[Ta]
def Pq{d}{l}{p}:p∈Jb d l ↔ p∈l/\p.1≠d/\Xd d p.2=false:=by simp[Jb]
theorem ck(a:Act)(d)(v)(i)(b:d<a.tmps.size):(a.put (some d) v).tmps.getD i undef=if d=i then v else a.tmps.getD i undef:=by
 simp only[Act.put,Im,Array.getElem?_setIfInBounds]
 grind
theorem Dl{a}{w}{β}{d}{v}{L}(b:d<a.tmps.size)(h:Xd d L=false):Ga (a.put (some d) v) w β L=Ga a w β L:=by
 cases L<;>grind [Xd,Ga,ck]
def Qz{st}{d}{p}{L}(h:Xd d L=false):ab {st with sl:=(d,p)::st.sl} L=ab st L:=by
 cases L<;>grind [Xd,ab,look]
theorem WR{st st'}{L}(h:st'.sl=st.sl)(a:st'.bx=st.bx):ab st' L=ab st L:=by cases L<;>simp[ab,h,a]
theorem size_put(a:Act)(d:Option Nat)(v):(a.put d v).tmps.size=a.tmps.size:=by cases d<;>simp[Act.put]
theorem gm(a:Act)(d:Option Nat)(v):(a.put d v).defers=a.defers:=by cases d<;>simp[Act.put]
theorem oe(d)(p)(l)(i):look ((d,p)::l) i=if d=i then p else look l i:=rfl
section
variable {P:Program} {T:List Deferred} {base nt:Nat} {M:Nat→Prop} {w0 w w':World} {F0:Nat→Nat} {st st':St} {a a':Act} {Fr Fr':Nat→Nat} {β β':List Nat}
def mA(R:Rel P T base M w0 F0 nt st a w Fr β)(b:Le w Fr β w' Fr' β'){d}(e:d<nt){p}{v}(c:Rd w' Fr' β' p v)(i):
 Rd w' Fr' β' (look ((d,p)::st.sl) i) ((a.put (some d) v).tmps.getD i undef):=by
 rw[ck a d v i (by grind [Rel.nt]),oe];split
 ·exact c
 ·exact(R.sl i).mono b
theorem Rel.put(R:Rel P T base M w0 F0 nt st a w Fr β){d}(j:d<nt){p}{v}(r:Rd w Fr β p v):Rel P T base M w0 F0 nt (st.put d p) (a.put (some d) v) w Fr β:=by
 have b:d<a.tmps.size:=by rw[R.nt];exact j
 refine R.next (Le.refl _ _ _) (mA R (Le.refl _ _ _) j r) (by grind [size_put,nt]) (gm _ _ _) R.bx R.nd (fun g h=>.inl h) some (fun L n=>?_) (fun L _ k _ ra z h A=>ra ia) (fun L _ k _ _ h=>by cases h) (fun q o=>?_) (fun _ _ _ _=>⟨rfl,rfl⟩) rfl rfl rfl
 ·obtain⟨c,i⟩:=ml.1 n
  obtain⟨u,q,t,x,y⟩:=R.own L c;exact⟨u,q,by grind [Dl],(Qz i).trans x,y,fun g l=>.inr ⟨L,c,rfl,u,t,l⟩⟩
 ·obtain⟨c,i,l⟩:=Pq.1 o
  rw[Dl b l,ck a d v _ b,if_neg (fun e=>i e.symm)];exact R.al q c
def Rel.VR(R:Rel P T base M w0 F0 nt st a w Fr β){d}(g:d<nt){p}{v}(k:Rd w Fr β p v){L}(i:Xd d L=false)(j:Ga a w β L=some v):Rel P T base M w0 F0 nt {(st.put d p)with al:=(d,L)::Jb d st.al} (a.put (some d) v) w Fr β:=by
 have b:=R.put g k;have c:d<a.tmps.size:=by rw[R.nt];exact g
 refine⟨b.sl,b.nt,b.df,b.bx,b.nd,fun K h=>?_,b.sep,b.out,fun q e=>?_,b.may,b.old,b.ge,b.os,b.tape,b.output⟩
 ·obtain⟨u,q,l,n,o⟩:=b.own K h
  grind [WR]
 ·rcases Wb.1 e with rfl|e
  ·rw[Dl c i,j,ck a d v _ c,if_pos rfl]
  ·exact b.al q e
def Rel.move(R:Rel P T base M w0 F0 nt st a w Fr β){d s}(l:d<nt)(z:s≠d)(hs:Loc.slot s∈st.ow):
 Rel P T base M w0 F0 nt {st with sl:=(d,look st.sl s)::st.sl,ow:=.slot d::Ta s (Ta d st.ow),al:=Jb s (Jb d st.al)} (a.put (some d) (a.tmps.getD s undef)) w Fr β:=by
 have b:d<a.tmps.size:=by rw[R.nt];exact l
 refine R.next (Le.refl _ _ _) (mA R (Le.refl _ _ _) l (R.sl s)) (by grind [size_put,nt]) (gm _ _ _) R.bx R.nd (fun g h=>.inl h) (fun L=>some (if L=.slot d then .slot s else L)) (fun L c=>?_) (fun L c r v ra A h B=>?_) (fun L _ r _ _ h=>by cases h) (fun q y=>?_) (fun _ _ _ _=>⟨rfl,rfl⟩) rfl rfl rfl
 ·rcases Wb.1 c with rfl|c
  ·obtain⟨u,q,n,o,p⟩:=R.own _ hs
   grind [Ga,ck,ab,oe]
  ·obtain⟨i,t⟩:=ml.1 c
   obtain⟨j,k⟩:=ml.1 i;obtain⟨u,q,n,o,p⟩:=R.own L j;exact⟨u,q,by grind [Dl],(Qz k).trans o,p,fun g x=>.inr ⟨L,j,by grind [Bv],u,n,x⟩⟩
 ·grind [Bv,ml]
 ·obtain⟨i,t,j⟩:=Pq.1 y
  obtain⟨k,n,o⟩:=Pq.1 i;rw[Dl b o,ck a d _ _ b,if_neg (fun e=>n e.symm)];exact R.al q k
def Sf.kept{p}{v}(h:Sf P w Fr p v)(d:∀g,v.ownBlock=some g->w'.heap[g]?=w.heap[g]?/\Fr' g=Fr g):Sf P w' Fr' p v:=by
 obtain⟨n,cs,i,j⟩:=h;refine⟨n,cs,i,j.imp id ?_⟩;rintro⟨g,a,b,e,z,c,k,l,o,q,r,t,u⟩;obtain⟨x,y⟩:=d g (by rw[c];rfl)
 grind
def VH{L}(b:∀g∈β,w'.heap[g]?=w.heap[g]?):Ga a w' β L=Ga a w β L:=by
 cases L<;>grind [Ga,World.cell?]
def Rel.grow(R:Rel P T base M w0 F0 nt st a w Fr β)(d:Below w.heap.size w w')(l:∀g,g<w.heap.size->Fr' g=Fr g):Rel P T base M w0 F0 nt st a w' Fr' β/\Le w Fr β w' Fr' β:=by
 have k:Le w Fr β w' Fr' β:=⟨d.size,fun b h=>by grind,fun b o h _=>d.cell (p:=⟨b,o,none⟩) h,fun _ _ h=>h,fun g r h=>⟨r,(d.block g (xg.1 h).1).trans h⟩⟩;have e:∀g∈β,g<w.heap.size:=fun g c=>R.bx.lt c
 have j:∀L,Ga a w' β L=Ga a w β L:=fun L=>VH fun g c=>d.block g (e g c)
 refine⟨R.next k (fun i=>(R.sl i).mono k) R.nt rfl (R.bx.kept k fun g c=>⟨d.block g (e g c),l g (e g c)⟩) R.nd (fun g h=>.inl h) some (fun L t=>?_) (fun L _ v _ ra A h B=>ra ia) (fun L _ v _ _ h=>by cases h) (fun q x=>by rw[j];exact R.al q x) (fun b h _ _=>⟨d.block b h,l b h⟩) d.os d.tape d.output,k⟩;obtain⟨u,q,y,z,n⟩:=R.own L t;exact⟨u,q,ia,z,n.kept fun g c=>⟨d.block g (n.lt c),l g (n.lt c)⟩,fun g c=>.inr ⟨L,t,rfl,u,y,c⟩⟩
theorem Rel.yc(R:Rel P T base M w0 F0 nt st a w Fr β)(i:Below w.heap.size w w')(r:∀g,g<w.heap.size->Fr' g=Fr g){d}(y:d<nt){p}{v}(F:Rd w' Fr' β p v)(K:Sf P w' Fr' p v)(J:∀g,v.ownBlock=some g->w.heap.size<=g):
 Rel P T base M w0 F0 nt (st.yc d p) (a.put (some d) v) w' Fr' β:=by
 obtain⟨B,z⟩:=R.grow i r;have j:d<a.tmps.size:=by rw[R.nt];exact y
 have t:∀g∈β,g<w.heap.size:=fun g c=>R.bx.lt c
 have k:∀L,Ga a w' β L=Ga a w β L:=fun L=>VH fun g c=>i.block g (t g c)
 refine R.next z (mA R z y F) (by grind [size_put,nt]) (gm _ _ _) B.bx R.nd (fun g h=>.inl h) (fun L=>if L=.slot d then none else some L) (fun L n=>?_) (fun L n A D ra I h C=>?_) (fun L _ A _ ra h C=>?_) (fun q E=>?_) (fun b h _ _=>⟨i.block b h,r b h⟩) i.os i.tape i.output
 ·rcases Wb.1 n with rfl|n
  ·grind [Ga,ck,ab,St.yc,oe]
  ·obtain⟨l,o⟩:=ml.1 n
   obtain⟨u,q,G,H,x⟩:=R.own L l;exact⟨u,q,by grind [Dl],(Qz o).trans H,x.kept fun g c=>⟨i.block g (x.lt c),r g (x.lt c)⟩,fun g c=>.inr ⟨L,l,by grind [Bv],u,G,c⟩⟩
 ·grind
 ·grind
 ·obtain⟨l,o,x⟩:=Pq.1 E
  rw[Dl j x,k,ck a d v _ j,if_neg (fun e=>o e.symm)];exact R.al q l
end
def ug(P:Program)(t:TypeId):Option Nat:=(P.info? t).map (·.size)
def Ae(P:Program)(t:TypeId):Option Bool:=(P.underlying t).map fun| .struct _| .array _ _=>true|_=>false
def zb:Operand->Option X
 | .tmp t=>some (.t t)
 | .const v=>some (.c (ofValue v))
 | .func f=>some (.c (.fb f []))
 | .global _=>none
def Qr(l:Array Operand):Option (List X):=l.toList.mapM zb
def Ro:Option Operand->Option (Option X)
 |none=>some none
 |some x=>(zb x).map some
def Lw(P:Program)(t:TypeId):Option (List PV):=((P.info? t).bind (·.zero)).bind fun v=>if v.cells.toList.all (·.oneCell')then some (v.cells.toList.map ofValue)else none
def fieldsOf(P:Program)(t:TypeId):Option (Array Field):=match P.underlying t with|some (.struct a)=>some a|_=>none
def oq(place:Nat->Option (Nat×Nat)):List (Nat×Operand)->Option (List (Nat×Nat×X))
 |[]=>some []
 |(i,x)::r=>(place i).bind fun p=>(zb x).bind fun x=>(oq place r).map fun s=>(p.1,p.2,x)::s
def vC(P:Program)(t:TypeId)(ps:List (Nat×Operand)):Option (List (Nat×Nat×X)):=match P.underlying t with
 |some (.struct b)=>(b.toList.mapM fun f=>(P.info? f.type).map fun i=>(f.offset,i.size)).bind fun a=>oq (a.toArray[·]?) ps
 |some (.array _ e)=>(P.info? e).bind fun a=>oq (fun i=>some (i* a.size,a.size)) ps
 |_=>none
def Sv(P:Program)(sh:TypeId->Option (List LK)):List Field->Nat->Option (List LK)
 |[],_=>some []
 |f::a,o=>if f.offset=o/\f.name≠ "_" then(sh f.type).bind fun k=>if ug P f.type=some k.length/\k≠[]then(Sv P sh a (o+k.length)).map (k++·)else none else none
def ao(P:Program):Nat->TypeId->Option (List LK)
 |0,_=>none
 |d+1,t=>match P.underlying t with
  |some .bool=>some [.b]
  |some .string=>some [.s]
  |some (.int k)=>some [.i k]
  |some (.struct a)=>if P.stoodInHeld t=true then none else Sv P (ao P d) a.toList 0
  |_=>none
def mg(P:Program):Op->Option Ea
 | .move x=>(zb x).map .mv
 | .assign x=>(zb x).map .asg
 | .pick c a b=>(zb c).bind fun c=>(zb a).bind fun a=>(zb b).map fun b=>.pick c a b
 | .binOp op t x y _=>(zb x).bind fun x=>(zb y).bind fun y=>match P.underlying t with
   |some (.int _)|some .string=>some (.bin op x y)
   |some .bool=>(match op with| .eql=>some (.beq false x y)| .neq=>some (.beq true x y)|_=>none)
   |some (.struct _)=>if P.eqGuardType P.depth t=false then(match op with| .eql=>(ao P 50 t).map fun d=>.Sk false d x y| .neq=>(ao P 50 t).map fun d=>.Sk true d x y|_=>none)else none
   |_=>none
 | .nilCheck x=>(zb x).map .qk
 | .unOp op _ x=>(zb x).map fun x=>.un op x
 | .convert d dst x=>(zb x).bind fun x=>match P.underlying d,P.underlying dst with
   |some (.int _),some (.int k)=>some (.conv k x)
   |some .string,some .string=>some (.sp x)
   |_,_=>none
 | .build t ps=>(Lw P t).bind fun zs=>(vC P t ps.toList).map fun ps=>.build zs ps
 | .fieldAddr s x f=>(fieldsOf P s).bind fun l=>(l[f]?).bind fun j=>(ug P j.type).bind fun n=>if n=0 then none else(zb x).map fun x=>.im j.offset x
 | .field s x f=>(fieldsOf P s).bind fun l=>(l[f]?).bind fun j=>(ug P j.type).bind fun n=>(Ae P j.type).bind fun g=>(zb x).map fun x=>.jm g j.offset n x
 | .indexAddr t x i=>match P.underlying t with
   |some (.slice e)=>(ug P e).bind fun n=>(zb x).bind fun x=>(zb i).map fun i=>.Jg n x i
   |some (.array len e)=>(ug P e).bind fun n=>(zb x).bind fun x=>(zb i).map fun i=>.xm len n x i
   |_=>none
 | .index t x i=>match P.underlying t with
   |some .string=>(zb x).bind fun x=>(zb i).map fun i=>.idx x i
   |some (.array len e)=>(ug P e).bind fun n=>(Ae P e).bind fun g=>(zb x).bind fun x=>(zb i).map fun i=>.om g len n x i
   |_=>none
 | .slice t x h d none=>match P.underlying t with
   |some .string=>(zb x).bind fun x=>(Ro h).bind fun h=>(Ro d).map fun d=>.sliceS x h d
   |some (.slice e)=>(ug P e).bind fun n=>(zb x).bind fun x=>(Ro h).bind fun h=>(Ro d).map fun d=>.slice n x h d
   |some (.array len e)=>(ug P e).bind fun n=>(zb x).bind fun x=>(Ro h).bind fun h=>(Ro d).map fun d=>.sliceP len n x h d
   |_=>none
 | .extract x i=>(zb x).map fun x=>.ext x i
 | .call {callee:=.builtin .len,args,argTypes}=>match args.toList,argTypes.toList with
   |[x],[t]=>(match P.underlying t with|some .string=>(zb x).map .Gn|some (.slice _)=>(zb x).map .len|_=>none)
   |_,_=>none
 | .call {callee:=.builtin .max,args,argTypes}=>match args.toList with
   |[x,y]=>(zb x).bind fun x=>(zb y).map fun y=>.mm true x y
   |_=>none
 | .call {callee:=.builtin .min,args,argTypes}=>match args.toList with
   |[x,y]=>(zb x).bind fun x=>(zb y).map fun y=>.mm false x y
   |_=>none
 | .makeFunc (.func f) first Oa=>if first.size=0 then(Qr Oa).map fun cs=>.clos f cs else none
 |_=>none
section
variable {P:Program} {w:World} {Fr:Nat→Nat} {β:List Nat}
theorem hR(v):Rd w Fr β (ofValue v) v:=by
 unfold ofValue
 grind [Rd,Ab]
theorem Ub{a:Act}{sl}(h:∀i,Rd w Fr β (look sl i) (a.tmps.getD i undef)){x}{y}(b:zb x=some y):Rd w Fr β (y.ev sl) (a.eval x):=by
 cases x<;>grind [zb,hR,X.ev,Rd,Act.eval,sa]
def zc{v u}(h:Rd w Fr β (.flat v) u):u=v/\Ab v=true:=by grind [Rd]
def If{v}(h:Ab v=true):Rd w Fr β (.flat v) v:=by simp[Rd,h]
def run_sizeOf{t}{n}(h:ug P t=some n):(Go.sizeOf t).run P w=.ok n w:=by
 unfold ug at h;cases a:P.info? t with
 |none=>grind
 |some i=>
  rw[a]at h;simp only[kd,Xb]at h;simp[Go.sizeOf,typeInfo,program,a,h,Sem.run]
def qH{t}{b}(h:Ae P t=some b):(isAgg t).run P w=.ok b w:=by
 unfold Ae at h;cases a:P.underlying t with
 |none=>grind
 |some i=>
  rw[a]at h;simp only[kd,Xb]at h;simp only[isAgg,Qb,run_underlying a,Tb];subst h;cases i<;>rfl
def O0{op}{a b v}(h:Ic op a b=some v)(t)(x y):((do eqGuard op t x y a b;binOp op t a b:Sem Value)).run P w=.ok v w/\Ab v=true:=by
 unfold Ic at h;split at h
 ·rename_i k a k' b
  have e:(eqGuard op t x y (.int k a) (.int k' b)).run P w=.ok () w:=by
   unfold eqGuard;split<;>rfl
  simp only[Qb,e,Tb];cases op
  case shl=>
   simp only at h;split at h
   ·cases h
   ·rename_i c;cases h;simp[binOp,Op.shift,c,Ab,Sem.run,pure]
  case shr=>
   simp only at h;split at h
   ·cases h
   ·rename_i c;cases h;simp[binOp,Op.shift,c,Ab,Sem.run,pure]
  all_goals
   simp only at h;split at h
   ·cases h
   ·rename_i g
    have d:k=k':=by simpa using g
    subst d
    first
     |(cases h;simp[binOp,Op.intArith,Op.intBits,Op.intCmp,Ab,Sem.run,pure];done)
     |(split at h
       ·cases h
       ·rename_i c;cases h;simp[binOp,Op.intDiv,c,Ab,Sem.run,pure])
 ·rename_i a b
  cases op
  case add=>
   simp only at h;split at h
   ·rename_i c;cases h
    have d:¬(((a.size+b.size:Nat):Int)>IntKind.i64.max):=by
     have:IntKind.i64.max=9223372036854775807:=rfl;unfold Da at c;omega
    refine⟨?_,rfl⟩;show Sem.run P (Op.stringOp .add a b) w=_;simp only[Op.stringOp,if_neg d];rfl
   grind
  all_goals
   simp only at h;cases h
   try (refine⟨?_,rfl⟩;rfl)
 grind
def Q0{op}{a v}(h:ep op a=some v):(Op.unary op a).run P w=.ok v w/\Ab v=true:=by
 unfold ep at h;split at h
 ·split at h
  ·cases h;exact⟨rfl,rfl⟩
  grind
 ·split at h
  ·cases h;exact⟨rfl,rfl⟩
  grind
 grind
theorem wx:∀{cs}{l}{vs},bytesOf cs=some l->sa w Fr β cs vs->vs=l.map fun c=>.int .u8 c.toNat
 |[],l,vs,h,k=>by
  grind [bytesOf,sa]
 |p::r,l,vs,h,k=>by
  unfold bytesOf at h;split at h
  ·grind
  ·rename_i n r' e
   cases e;split at h
   ·obtain⟨g,a,rfl⟩:=qm h
    obtain⟨v,u,rfl,b,d⟩:=k;obtain⟨rfl,_⟩:=zc b;rw[wx a d,kc];congr 2;simp;omega
   grind
  grind
def rC{p}{v}(h:Rd w Fr β p v)(e:p.li=true):sa w Fr β p.cells v.cells.toList/\Oc v.cells.toList:=by
 have one:∀{q:PV},q.cells=[q]->v.cells=#[v]->v.oneCell'=true->Rd w Fr β q v->sa w Fr β q.cells v.cells.toList/\Oc v.cells.toList:=fun j l r t=>by
  refine⟨by grind [sa],fun u i=>?_⟩
  grind
 cases p with
 |hd=>cases e
 |Mb vs=>cases e
 |flat u=>
  obtain⟨rfl,i⟩:=zc h;refine one rfl ?_ ?_ h
  ·cases v<;>first|rfl|grind [Ab]
  ·cases v<;>first|rfl|(simp[Ab]at i)
 |ha n cs=>
  have c:=h;obtain⟨a,d,rfl,_⟩:=c;exact one rfl rfl rfl h
 |agg cs=>
  grind [Rd,PV.cells,Value.cells]
 |ptr b o=>
  have c:=h;obtain⟨g,_,rfl⟩:=c;exact one rfl rfl rfl h
 |xd cs=>
  have c:=h;obtain⟨g,o,vs,rfl,_⟩:=c;exact one rfl rfl rfl h
 |fb f cs=>
  have c:=h;obtain⟨vs,rfl,_⟩:=c;exact one rfl rfl rfl h
 |Ma b=>
  have c:=h;obtain⟨g,_,rfl⟩:=c;exact one rfl rfl rfl h
 |se b i n=>
  have c:=h;obtain⟨g,a,d,_,rfl,_⟩:=c;exact one rfl rfl rfl h
 |lp f k s live i=>cases e
theorem VS:∀(vs)(cells:Array Value)(o k),o+k+vs.length<=cells.size->
 ((vs.zipIdx k).foldl (fun(cs:Array Value)(x:Value×Nat)=>cs.setIfInBounds (o+x.2) x.1) cells).toList=cells.toList.take (o+k)++vs++cells.toList.drop (o+k+vs.length)
 |[],cells,o,k,h=>by simp
 |v::vs,cells,o,k,h=>by
  rw[List.zipIdx_cons,Jm,VS vs _ o (k+1) ia];simp only[Array.toList_setIfInBounds];have a:o+k<cells.toList.length:=by simp at h⊢;omega
  rw[List.take_set,List.drop_set,if_pos aa,<-Dp,Km a,io _ _ ia];have:o+k - (cells.toList.take (o+k)).length=0:=by rw[Ac];omega
  grind
def YA(w:World)(Fr:Nat->Nat)(β:List Nat)(place:Nat->Option (Nat×Nat)):List (Nat×Value)->List (Nat×Nat×PV)->Prop
 |[],[]=>True
 |(i,v)::r,(o,n,p)::s=>place i=some (o,n)/\Rd w Fr β p v/\YA w Fr β place r s
 |_,_=>False
theorem iD{place}:∀(ps)(qs)(cells)(cs b),YA w Fr β place ps qs->sa w Fr β cs cells.toList->Oc cells.toList->ki cs qs=some b->
 ∃a,Instr.fill place cells ps=some a/\sa w Fr β b a.toList/\Oc a.toList
 |[],[],cells,cs,b,_,h,d,c=>by
  simp only[ki,Xb]at c;subst c;exact⟨cells,rfl,h,d⟩
 |[],_::_,_,_,_,h,_,_,_=>h.elim
 |_::_,[],_,_,_,h,_,_,_=>h.elim
 |(i,v)::r,(o,n,p)::s,cells,cs,b,y,h,d,c=>by
  obtain⟨B,l,q⟩:=y;unfold ki at c;split at c
  ·rename_i t
   obtain⟨c1,c2,c3⟩:=t;obtain⟨g,k⟩:=rC l c1;have z:v.cells.size=n:=by rw[<-c2,<-g.length];simp
   have u:cells.size=cs.length:=by rw[<-h.length];simp
   have e:((v.cells.zipIdx).foldl (fun(cs:Array Value)(x:Value×Nat)=>cs.setIfInBounds (o+x.2) x.1) cells).toList=cells.toList.take o++v.cells.toList++cells.toList.drop (o+n):=by
    have j:=VS v.cells.toList cells o 0 ia;rw[Cj,show v.cells.toList.length=n by simp[z]]at j;rw[<-j,<-Array.foldl_toList,Array.toList_zipIdx]
   have r1:sa w Fr β (cs.take o++p.cells++cs.drop (o+n)) ((v.cells.zipIdx).foldl (fun(cs:Array Value)(x:Value×Nat)=>cs.setIfInBounds (o+x.2) x.1) cells).toList:=by
    rw[e];exact((h.take o).append g).append (h.drop (o+n))
   have A:Oc ((v.cells.zipIdx).foldl (fun(cs:Array Value)(x:Value×Nat)=>cs.setIfInBounds (o+x.2) x.1) cells).toList:=by
    rw[e];exact((d.take o).append k).append (d.drop (o+n))
   obtain⟨a,C,D,E⟩:=iD (place:=place) r s _ _ b q r1 A c
   grind [Instr.fill]
  grind
end
section
variable {P:Program} {w:World} {Fr:Nat→Nat} {β:List Nat}
def bq{k}{n}:(asIntOf (.int k n)).run P w=.ok (k,n) w:=rfl
theorem cP{p}{v}{n}(h:Rd w Fr β p v)(a:Cq p=some n):∃k,v=.int k n:=by
 unfold Cq at a;split at a
 ·cases a;obtain⟨rfl,_⟩:=zc h;simp
 grind
theorem fT{v}{k}{i}{y:Nat}{c}(a:v=.int k i)(h:0<=i/\i<=(y:Int)):(Instr.sliceBound v y c).run P w=.ok i.toNat w:=by
 subst a;simp only[Instr.sliceBound,Qb,bq,Tb,if_pos h];rfl
theorem Wv{isS}{len a}{b g}{e d}{l h}(k:len<=a)(j:(b=none/\e=none)\/∃v p,b=some v/\e=some p/\Rd w Fr β p v)(i:(g=none/\d=none)\/∃v p,g=some v/\d=some p/\Rd w Fr β p v)
 (z:nf len e d=some (l,h)):(Instr.sliceBounds isS len a b g none).run P w=.ok (l,h,a) w/\l<=h/\h<=len:=by
 obtain⟨C,o,q⟩:=qb z;obtain⟨D,r,t⟩:=qm q;cases t;have x:h<=len/\(g=none->h=len)/\∀v,g=some v->∀c,(Instr.sliceBound v a c).run P w=.ok h w:=by
  rcases i with⟨rfl,rfl⟩|⟨v,p,rfl,rfl,hr⟩
  ·grind
  ·obtain⟨n,B,A⟩:=qb o
   grind [cP,fT]
 have y:l<=h/\(b=none->l=0)/\∀v,b=some v->∀c,(Instr.sliceBound v h c).run P w=.ok l w:=by
  rcases j with⟨rfl,rfl⟩|⟨v,p,rfl,rfl,hr⟩
  ·grind
  ·obtain⟨n,B,A⟩:=qb r
   grind [cP,fT]
 refine⟨?_,y.1,x.1⟩;unfold Instr.sliceBounds;cases g with
 |none=>
  cases b with
  |none=>simp_all
  |some v=>simp_all
 |some u=>
  cases b with
  |none=>simp_all
  |some v=>simp_all
def zau{n size l h}{cs}{v}{elem:TypeId}(hr:Rd w Fr β (.ha n cs) v)(i:cs.length=n* size)(hs:0<size)(t:l<=h)(r:h<=n):
 ∃a b,v=.slice a n b/\n<=b/\Rd w Fr β (.ha (h - l) ((cs.take (h* size)).drop (l* size))) (.slice (if b=l then a else a.map (·.add (l* size))) (h - l) (b - l)):=by
 obtain⟨a,b,rfl,j,k⟩:=hr;refine⟨a,b,rfl,j,?_⟩;refine⟨_,_,rfl,aa,?_⟩;by_cases q:h=l
 ·grind
 ·right
  rcases k with⟨_,p⟩|⟨g,o,vs,rfl,d,e,c⟩
  ·omega
  ·refine⟨g,o+l* size,(vs.take (h* size)).drop (l* size),?_,(d.take _).drop _,(e.take _).drop _,(c.take _).drop _⟩
   grind [Addr.add]
def Zs{a:Act}{sl}(h:∀i,Rd w Fr β (look sl i) (a.tmps.getD i undef)){x}{y}(b:Ro x=some y):(x.map a.eval=none/\y.map (·.ev sl)=none)\/∃v p,x.map a.eval=some v/\y.map (·.ev sl)=some p/\Rd w Fr β p v:=by
 cases x<;>grind [Ro,Option.map_eq_some_iff,Ub]
theorem AC{a:Act}{sl}(h:∀i,Rd w Fr β (look sl i) (a.tmps.getD i undef)):∀{l:List Operand}{ys},l.mapM zb=some ys->sa w Fr β (ys.map (·.ev sl)) (l.map a.eval)
 |[],ys,b=>by grind [sa]
 |x::l,ys,b=>by
  rw[Cp]at b;obtain⟨y,c,b⟩:=qb b;obtain⟨r,hr,b⟩:=qb b;cases b;exact⟨_,_,rfl,Ub h c,AC h hr⟩
def yI{t}{zs}(h:Lw P t=some zs):∃z,(zeroValue t).run P w=.ok z w/\sa w Fr β zs z.cells.toList/\Oc z.cells.toList:=by
 obtain⟨z,c,b⟩:=qb h;obtain⟨i,d,c⟩:=qb c;split at b
 case isFalse=>cases b
 rename_i a;cases b;refine⟨z,by simp[zeroValue,typeInfo,program,d,c,Sem.run],?_⟩;have:∀vs:List Value,sa w Fr β (vs.map ofValue) vs:=by
  intro vs
  induction vs with
  |nil=>rfl
  |cons v vs g=>grind [sa,hR]
 exact⟨this _,fun v e=>Dj.1 a v e⟩
theorem VG{t}{b}{n o}{vs:List Value}(a:Ae P t=some b)(d:ug P t=some n)(c:b=true)(e:o+n<=vs.length):(part t vs.toArray o).run P w=.ok (.agg ((vs.drop o).take n).toArray) w:=by
 subst c;simp only[part,Qb,qH a,run_sizeOf d,Tb,if_true];simp
def WG{t}{o}{vs:List Value}{v}(a:Ae P t=some false)(b:vs[o]?=some v):(part t vs.toArray o).run P w=.ok v w:=by
 simp only[part,Qb,qH a,Tb];simp_all
end
section
variable {P:Program} {w:World} {Fr:Nat→Nat} {β:List Nat}
theorem wC{place}{a:Act}{sl}(hs:∀i,Rd w Fr β (look sl i) (a.tmps.getD i undef)):∀{ps}{qs},oq place ps=some qs->
 YA w Fr β place (ps.map fun q=>(q.1,a.eval q.2)) (qs.map fun q=>(q.1,q.2.1,q.2.2.ev sl))
 |[],qs,h=>by simp only[oq,Xb]at h;subst h;trivial
 |(i,x)::r,qs,h=>by
  obtain⟨p,b,h⟩:=qb h;obtain⟨y,c,h⟩:=qb h;obtain⟨s,d,rfl⟩:=qm h;exact⟨b,Ub hs c,wC hs d⟩
def QV{t}{ps:Array (Nat×Operand)}{qs}{zs d}(h:vC P t ps.toList=some qs)(l:Lw P t=some zs){a:Act}{sl}(hs:∀i,Rd w Fr β (look sl i) (a.tmps.getD i undef))
 (o:ki zs (qs.map fun q=>(q.1,q.2.1,q.2.2.ev sl))=some d):∃b,(Instr.build t (ps.map fun(i,x)=>(i,a.eval x))).run P w=.ok (.agg b) w/\sa w Fr β d b.toList/\Oc b.toList:=by
 obtain⟨z,n,u,z3⟩:=yI (w:=w) (Fr:=Fr) (β:=β) l;have e:=l;obtain⟨k,g,_⟩:=qb e;obtain⟨D,hit,j⟩:=qb g;have v:k=z:=by
  have:(zeroValue t).run P w=.ok k w:=by simp[zeroValue,typeInfo,program,hit,j,Sem.run]
  rw[this]at n;cases n;rfl
 have p:(ps.map fun(i,x)=>(i,a.eval x)).toList=ps.toList.map fun q=>(q.1,a.eval q.2):=da
 have fin:∀place,oq place ps.toList=some qs->(∀c,Instr.fill place k.cells c=P.built t c)->∃b,(Instr.build t (ps.map fun(i,x)=>(i,a.eval x))).run P w=.ok (.agg b) w/\sa w Fr β d b.toList/\Oc b.toList:=fun place r C=>by
  obtain⟨b,y,A,B⟩:=iD _ _ _ _ _ (wC hs r) u z3 o
  grind [run_build]
 unfold vC at h
 grind [Option.bind_eq_some_iff,Program.built]
def FZ{t}(ht:P.underlying t=some .bool)(d)(u v):(Op.equalIn (d+1) t (.bool u) (.bool v)).run P w=.ok (u==v) w:=by
 simp only[Op.equalIn,Qb,run_underlying ht,Tb];rfl
theorem HN:∀{k c}{cs a}{r},Ec (k++c) cs a=some r->∃r1 b,Ec k (cs.take k.length) (a.take k.length)=some r1/\Ec c (cs.drop k.length) (a.drop k.length)=some b/\r=(r1&&b)/\k.length<=cs.length/\k.length<=a.length
 |[],c,cs,a,r,h=>⟨true,r,ja,ia,da,da,da⟩
 |x::k,c,cs,a,r,h=>by
  have step:∀{t:Bool}{cs a:List PV}{r:Bool},(Ec (k++c) cs a).map (t&& ·)=some r->∃r1 b,(Ec k (cs.take k.length) (a.take k.length)).map (t&& ·)=some r1/\Ec c (cs.drop k.length) (a.drop k.length)=some b/\r=(r1&&b)/\k.length<=cs.length/\k.length<=a.length:=fun h=>by
   obtain⟨q,d,rfl⟩:=qm h;obtain⟨r1,b,g,i,rfl,j,l⟩:=HN d
   grind
  unfold Ec at h;split at h
  ·grind
  ·rename_i e;cases e
   obtain⟨r1,b,d,g,i,j,l⟩:=step h
   grind [Ec]
  ·grind [Ec]
  ·rename_i e;cases e
   split at h
   ·obtain⟨r1,b,d,g,i,j,l⟩:=step h
    grind [Ec]
   grind
  grind
def rr(P:Program)(w:World)(Fr:Nat->Nat)(β:List Nat)(t:TypeId)(cs:List PV)(v:Value):Prop:=
 (Ae P t=some true/\∃vs,v=.agg vs.toArray/\sa w Fr β cs vs)\/(Ae P t=some false/\∃p,cs=[p]/\Rd w Fr β p v)
theorem IN{sh}{eq:TypeId->Value->Value->Sem Bool}{xs ys:List Value}(i:∀t k,sh t=some k->Ae P t=some true\/(Ae P t=some false/\k.length=1))
 (H:∀t k cs e u v r,sh t=some k->rr P w Fr β t cs u->rr P w Fr β t e v->Ec k cs e=some r->(eq t u v).run P w=.ok r w):∀(j)(o)(q)(cs e)(r),Sv P sh j o=some q->sa w Fr β cs (xs.drop o)->sa w Fr β e (ys.drop o)->Ec q cs e=some r->
 ((do
   let d <-forIn j ((none,()):Option Bool×Unit) fun f d=>
    if f.name≠ "_" then do
     let a <-part f.type xs.toArray f.offset
     let b <-part f.type ys.toArray f.offset
     let c <-eq f.type a b
     if(!c)=true then pure (ForInStep.done (some false,()))else pure (ForInStep.yield (none,()))
    else pure (ForInStep.yield (none,()))
   match d.1 with
   |some r=>pure r
   |none=>pure true:Sem Bool)).run P w=.ok r w
 |[],o,q,cs,e,r,h,l,x,n=>by
  simp only[Sv,Xb]at h;have:r=true:=by
   unfold Ec at n;split at n<;>simp_all
  simp_all
 |f::j,o,q,cs,e,r,h,l,x,n=>by
  simp only[Sv]at h;split at h
  case isFalse=>cases h
  rename_i C;obtain⟨k,D,h⟩:=qb h;split at h
  case isFalse=>cases h
  rename_i hs;obtain⟨hs,ra⟩:=hs;have F:0<k.length:=DA.2 ra;obtain⟨B,y,rfl⟩:=qm h;obtain⟨r1,L,e1,e2,rfl,I,J⟩:=HN n;have d:∀{xs:List Value}{cs:List PV},sa w Fr β cs (xs.drop o)->k.length<=cs.length->∃v,(part f.type xs.toArray f.offset).run P w=.ok v w/\rr P w Fr β f.type (cs.take k.length) v:=fun{xs cs} z R=>by
   have A:=z.length;rw[Ya]at A;rcases i _ _ D with g|⟨g,l⟩
   ·refine⟨_,VG g hs rfl aa,.inl ⟨g,_,rfl,?_⟩⟩
    rw[C.1];exact z.take _
   ·obtain⟨p,G⟩:∃p,cs[0]?=some p:=⟨_,qe aa⟩
    obtain⟨v,S,K⟩:=z.get 0 p G;refine⟨v,WG g ia,.inr ⟨g,p,?_,K⟩⟩;cases cs<;>grind
  obtain⟨u,M,N⟩:=d l I;obtain⟨v,O,Q⟩:=d x J;have hr:=H _ _ _ _ _ _ _ D N Q e1;have E:=IN i H j (o+k.length) B _ _ L y (by have:=l.drop k.length;rwa[rf]at this) (by have:=x.drop k.length;rwa[rf]at this) e2;rw[List.forIn_cons];simp only[Qb,C.2,ne_eq,not_false_eq_true,if_true,M,O,hr,Tb];cases r1 with
  |false=>rfl
  |true=>
   simp only[Qb]at E;exact E
def zao{d}{t}{k}(h:ao P d t=some k):Ae P t=some true\/(Ae P t=some false/\k.length=1):=by
 cases d<;>grind [ao,Ae]
theorem JN:∀(d i)(t)(k)(cs c)(u v)(r),d<=i->ao P d t=some k->rr P w Fr β t cs u->rr P w Fr β t c v->Ec k cs c=some r->(Op.equalIn i t u v).run P w=.ok r w
 |0,i,t,k,cs,c,u,v,r,_,h,_,_,_=>by cases h
 |d+1,0,t,k,cs,c,u,v,r,D,_,_,_,_=>by omega
 |d+1,i+1,t,k,cs,c,u,v,r,D,h,n,o,a=>by
  unfold ao at h;have b:Ae P t=some false->∃p q,cs=[p]/\c=[q]/\Rd w Fr β p u/\Rd w Fr β q v:=fun C=>by
   rcases n with⟨l,_⟩|⟨_,p,rfl,g⟩
   ·grind
   rcases o with⟨l,_⟩|⟨_,q,rfl,j⟩<;>grind
  split at h
  ·rename_i e;cases h
   obtain⟨p,q,rfl,rfl,g,j⟩:=b (by grind [Ae]);unfold Ec at a;split at a
   ·grind
   ·rename_i e1 e2 e3;cases e1;cases e2;cases e3
    obtain⟨rfl,_⟩:=zc g;obtain⟨rfl,_⟩:=zc j;simp only[Ec,kd,Ej,Xb]at a;subst a;simp only[Op.equalIn,Qb,run_underlying e,Tb];rfl
   ·grind
   ·grind
   grind
  ·rename_i e;cases h
   obtain⟨p,q,rfl,rfl,g,j⟩:=b (by grind [Ae]);unfold Ec at a;split at a
   ·grind
   ·grind
   ·rename_i e1 e2 e3;cases e1;cases e2;cases e3
    obtain⟨rfl,_⟩:=zc g;obtain⟨rfl,_⟩:=zc j;simp only[Ec,kd,Ej,Xb]at a;subst a;simp only[Op.equalIn,Qb,run_underlying e,Tb];rfl
   ·grind
   grind
  ·rename_i e;cases h
   obtain⟨p,q,rfl,rfl,g,j⟩:=b (by grind [Ae]);unfold Ec at a;split at a
   ·grind
   ·grind
   ·grind
   ·rename_i e1 e2 e3;cases e1;cases e2;cases e3
    obtain⟨rfl,_⟩:=zc g;obtain⟨rfl,_⟩:=zc j;split at a
    ·rename_i l
     obtain⟨rfl,rfl⟩:=l;simp only[Ec,kd,Ej,Xb]at a;subst a;simp only[Op.equalIn,Qb,run_underlying e,Tb,if_true];rfl
    grind
   grind
  ·rename_i x e
   split at h
   ·cases h
   rename_i l;have C:Ae P t=some true:=by unfold Ae;rw[e];rfl
   have st:∀{v:Value}{cs:List PV},rr P w Fr β t cs v->∃vs,v=.agg vs.toArray/\sa w Fr β cs vs:=fun h=>by
    rcases h with⟨_,h⟩|⟨h,_⟩<;>grind
   obtain⟨xs,rfl,E⟩:=st n;obtain⟨ys,rfl,F⟩:=st o;have:=IN (P:=P) (w:=w) (Fr:=Fr) (β:=β) (sh:=ao P d) (eq:=Op.equalIn i) (xs:=xs) (ys:=ys) (fun t k h=>zao h) (fun t k cs c u v r y z A B=>JN d i t k cs c u v r aa y z A B) x.toList 0 k cs c r h ia ia a;have g:∀w:World,(program:Sem Program).run P w=.ok P w:=fun _=>rfl
   simp only[Op.equalIn,Qb,run_underlying e,Tb,g,l,if_false,Fa]
   grind [Sem.run_bind]
  grind
theorem zas{o}{c}(q:mg P o.op=some c){a:Act}{sl}(hs:∀i,Rd w Fr β (look sl i) (a.tmps.getD i undef)){p}(B:eb c (·.ev sl)=some p):
 ∃v,(execOp a.eval o).run P w=.ok (.value v) w/\Rd w Fr β p v:=by
 obtain⟨dst,op,ty,pos,N,guard⟩:=o;have val:∀{s:Sem Value}{v:Value},s.run P w=.ok v w->(do pure (Next.value (<-s)):Sem Next).run P w=.ok (.value v) w:=fun h=>by
  simp_all
 cases op with
 |move x=>
  obtain⟨y,F,rfl⟩:=qm q;cases B;exact⟨_,rfl,Ub hs F⟩
 |assign x=>
  obtain⟨y,F,rfl⟩:=qm q;cases B;exact⟨_,rfl,Ub hs F⟩
 |pick x y z=>
  obtain⟨S,A,q⟩:=qb q;obtain⟨y'Z,F,q⟩:=qb q;obtain⟨K,hzZ,rfl⟩:=qm q;simp only[eb]at B;split at B
  ·rename_i b J
   cases B;have C:=Ub hs A;rw[J]at C;obtain⟨C,_⟩:=zc C;refine⟨if b then a.eval y else a.eval z,?_,?_⟩
   ·simp only[execOp,C];rfl
   grind [Ub]
  grind
 |binOp op t x y Z=>
  obtain⟨S,A,q⟩:=qb q;obtain⟨y'Z,F,q⟩:=qb q;have C:=Ub hs A;have D:=Ub hs F;have bin:c=.bin op S y'Z->∃v,(execOp a.eval ⟨dst,.binOp op t x y Z,ty,pos,N,guard⟩).run P w=.ok (.value v) w/\Rd w Fr β p v:=fun e=>by
   subst e;simp only[eb]at B;split at B
   ·rename_i u v e1 e2
    rw[e1]at C;rw[e2]at D;obtain⟨C,_⟩:=zc C;obtain⟨D,_⟩:=zc D;obtain⟨r,hr,rfl⟩:=qm B;obtain⟨W,X⟩:=O0 (P:=P) (w:=w) hr t x y;refine⟨r,val ?_,If X⟩
    grind
   grind
  have beq:∀K:Bool,P.underlying t=some .bool->op=(if K then .neq else .eql)->c=.beq K S y'Z->∃v,(execOp a.eval ⟨dst,.binOp op t x y Z,ty,pos,N,guard⟩).run P w=.ok (.value v) w/\Rd w Fr β p v:=fun K ht Q e=>by
   subst e;simp only[eb]at B;split at B
   ·rename_i u v e1 e2
    rw[e1]at C;rw[e2]at D;obtain⟨C,_⟩:=zc C;obtain⟨D,_⟩:=zc D;cases B;refine⟨_,val ?_,If rfl⟩;rw[C,D];have hqZ:(Op.equal t (.bool u) (.bool v)).run P w=.ok (u==v) w:=by
     exact FZ ht 9999 u v
    subst Q;cases K
    ·show(do pure (.bool (<-Op.equal t (.bool u) (.bool v))):Sem Value).run P w=_
     simp_all
    ·show(do pure (.bool (!(<-Op.equal t (.bool u) (.bool v)))):Sem Value).run P w=_
     simp_all
   grind
  have eqs:∀(K:Bool)(L:List LK)(fsZ:Array Field),P.underlying t=some (.struct fsZ)->P.eqGuardType P.depth t=false->ao P 50 t=some L->op=(if K then .neq else .eql)->c=.Sk K L S y'Z->∃v,(execOp a.eval ⟨dst,.binOp op t x y Z,ty,pos,N,guard⟩).run P w=.ok (.value v) w/\Rd w Fr β p v:=fun K L fsZ ht O hkZ Q e=>by
   subst e;simp only[eb]at B;split at B
   case h_2=>cases B
   rename_i cs dsZ e1 e2;rw[e1]at C;rw[e2]at D;obtain⟨us,C,huZ,_⟩:=C;obtain⟨vs,D,U,_⟩:=D;obtain⟨r,hr,rfl⟩:=qm B;refine⟨_,val ?_,If rfl⟩;rw[C,D];have T:∀w:World,(program:Sem Program).run P w=.ok P w:=fun _=>rfl
   have hgZ:∀op,(eqGuard op t x y (.agg us.toArray) (.agg vs.toArray)).run P w=.ok () w:=fun op=>by
    cases op<;>first
     |rfl
     |(simp only[eqGuard,Ui,Fa,if_false,Qb,T,Tb,O,Gj,if_true];rfl)
   have haZ:Ae P t=some true:=by unfold Ae;rw[ht];rfl
   have hqZ:(Op.equal t (.agg us.toArray) (.agg vs.toArray)).run P w=.ok r w:=JN 50 10000 t L cs dsZ _ _ r aa hkZ (.inl ⟨haZ,us,rfl,huZ⟩) (.inl ⟨haZ,vs,rfl,U⟩) hr;subst Q;simp only[Qb,hgZ,Tb];cases K
   ·show(do pure (.bool (<-Op.equal t (.agg us.toArray) (.agg vs.toArray))):Sem Value).run P w=_
    simp_all
   ·show(do pure (.bool (!(<-Op.equal t (.agg us.toArray) (.agg vs.toArray)))):Sem Value).run P w=_
    simp_all
  grind [Option.map_eq_some_iff]
 |nilCheck x=>
  obtain⟨y,F,rfl⟩:=qm q;have C:=Ub hs F;simp only[eb]at B;split at B
  ·rename_i b o e;cases B
   rw[e]at C;have D:=C;obtain⟨g,_,R⟩:=D;exact⟨a.eval x,by simp only[execOp,R];rfl,C⟩
  ·rename_i cs e;cases B
   rw[e]at C;have D:=C;obtain⟨g,o,vs,R,_⟩:=D;exact⟨a.eval x,by simp only[execOp,R];rfl,C⟩
  ·rename_i f cs e;cases B
   rw[e]at C;have D:=C;obtain⟨vs,R,_⟩:=D;exact⟨a.eval x,by simp only[execOp,R];rfl,C⟩
  ·rename_i b e;cases B
   rw[e]at C;have D:=C;obtain⟨g,_,R⟩:=D;exact⟨a.eval x,by simp only[execOp,R];rfl,C⟩
  grind
 |unOp op t x=>
  obtain⟨y,F,rfl⟩:=qm q;have C:=Ub hs F;simp only[eb]at B;split at B
  ·rename_i u e1
   rw[e1]at C;obtain⟨C,_⟩:=zc C;obtain⟨r,hr,rfl⟩:=qm B;obtain⟨W,X⟩:=Q0 (P:=P) (w:=w) hr;exact⟨r,val ia,If X⟩
  grind
 |convert O dst x=>
  obtain⟨y,F,q⟩:=qb q;have C:=Ub hs F;split at q
  ·rename_i Q k L K
   cases q;simp only[eb]at B;split at B
   ·rename_i k' n e
    cases B;rw[e]at C;obtain⟨C,_⟩:=zc C;refine⟨_,val ?_,If rfl⟩;rw[C];simp only[convert,Qb,run_underlying L,run_underlying K,Tb];rfl
   grind
  ·rename_i L K
   cases q;simp only[eb]at B;split at B
   ·rename_i s e
    cases B;rw[e]at C;obtain⟨C,_⟩:=zc C;refine⟨_,val ?_,If rfl⟩;rw[C];simp only[convert,Qb,run_underlying L,run_underlying K,Tb];rfl
   grind
  grind
 |build t ps=>
  obtain⟨zs,hzZ,q⟩:=qb q;obtain⟨qs,hqZ,rfl⟩:=qm q;obtain⟨L,Q,rfl⟩:=qm B;obtain⟨K,O,T,Z⟩:=QV (w:=w) (Fr:=Fr) (β:=β) hqZ hzZ hs Q;exact⟨.agg K,val O,by grind [Rd]⟩
 |fieldAddr s x f=>
  obtain⟨fsZ,V,q⟩:=qb q;obtain⟨flZ,C,q⟩:=qb q;obtain⟨n,D,q⟩:=qb q;split at q
  ·cases q
  ·rename_i L
   obtain⟨y,F,rfl⟩:=qm q;have A:=Ub hs F;have huZ:P.underlying s=some (.struct fsZ):=by
    unfold fieldsOf at V;split at V
    ·grind
    ·cases V
   have K:∀g o,a.eval x=.pointer (some ⟨g,o,none⟩)->(Instr.fieldAt s (a.eval x) f).run P w=.ok (.pointer (some ⟨g,o+flZ.offset,none⟩)) w:=fun g o e=>by
    rw[e];simp only[Instr.fieldAt,Qb,run_underlying huZ,Tb,C,Instr.sureAddr,fieldPlace,run_sizeOf D,Bh,if_neg L]
    grind [Addr.add]
   simp only[eb]at B;split at B
   ·rename_i b o e;cases B
    rw[e]at A;obtain⟨g,hgZ,A⟩:=A;exact⟨_,val (K g o A),by grind [Rd]⟩
   ·rename_i cs e;cases B
    rw[e]at A;obtain⟨g,o,vs,A,r1,Y,r3Z⟩:=A;exact⟨_,val (K g o A),by exact⟨g,o+flZ.offset,vs.drop flZ.offset,rfl,r1.drop _,Y.drop _,r3Z.drop _⟩⟩
   grind
 |field s x f=>
  obtain⟨fsZ,V,q⟩:=qb q;obtain⟨flZ,C,q⟩:=qb q;obtain⟨n,D,q⟩:=qb q;obtain⟨g,R,q⟩:=qb q;obtain⟨y,F,rfl⟩:=qm q;have A:=Ub hs F;have huZ:P.underlying s=some (.struct fsZ):=by
   unfold fieldsOf at V;split at V
   ·grind
   ·cases V
  cases g with
  |true=>
   simp only[eb]at B;split at B
   ·rename_i cs e
    split at B
    ·cases B
     rw[e]at A;obtain⟨vs,A,r1,Y⟩:=A;have hlZ:=r1.length;refine⟨_,val ?_,by exact⟨(vs.drop flZ.offset).take n,rfl,(r1.drop _).take _,(Y.drop _).take _⟩⟩;simp only[Instr.field,Qb,run_underlying huZ,Tb,C,asAgg];have:=VG (w:=w) R D rfl (vs:=vs) (o:=flZ.offset) aa;simp_all
    grind
   grind
  |false=>
   simp only[eb]at B;split at B
   ·rename_i cs e
    rw[e]at A;obtain⟨vs,A,r1,Y⟩:=A;obtain⟨v,U,hr⟩:=r1.get _ _ B;refine⟨v,val ?_,hr⟩;simp only[Instr.field,Qb,run_underlying huZ,Tb,C,asAgg];have:=WG (w:=w) R U;simp_all
   grind
 |indexAddr t x i=>
  simp only[mg]at q;split at q
  ·rename_i e M
   obtain⟨n,D,q⟩:=qb q;obtain⟨S,E,q⟩:=qb q;obtain⟨i'Z,I,rfl⟩:=qm q;have A:=Ub hs E;have H:=Ub hs I;simp only[eb]at B;split at B
   ·rename_i m cs k j e1 e2
    split at B
    ·rename_i J;cases B
     rw[e1]at A;rw[e2]at H;obtain⟨H,_⟩:=zc H;obtain⟨b,G,A,_,U⟩:=A;rcases U with⟨_,V⟩|⟨g,o,vs,rfl,r1,Y,r3Z⟩
     ·omega
     ·refine⟨.pointer (some ⟨g,o+j.toNat* n,none⟩),val ?_,by exact⟨g,o+j.toNat* n,vs.drop (j.toNat* n),rfl,r1.drop _,Y.drop _,r3Z.drop _⟩⟩
      rw[A,H];simp only[Instr.indexAt,Qb,bq,run_underlying M,Tb,Bh,if_pos J,run_sizeOf D]
      grind [Addr.add]
    grind
   ·rename_i b o m k j e1 e2
    split at B
    ·rename_i J;cases B
     rw[e1]at A;rw[e2]at H;obtain⟨H,_⟩:=zc H;obtain⟨g,a0,G,hgZ,A,_,U⟩:=A;have haZ:a0=some ⟨g,o,none⟩:=U.resolve_left aa;subst haZ;refine⟨.pointer (some ⟨g,o+j.toNat* n,none⟩),val ?_,by grind [Rd]⟩;rw[A,H];simp only[Instr.indexAt,Qb,bq,run_underlying M,Tb,Bh,if_pos J,run_sizeOf D]
     grind [Addr.add]
    grind
   grind
  ·rename_i len e M
   obtain⟨n,D,q⟩:=qb q;obtain⟨S,E,q⟩:=qb q;obtain⟨i'Z,I,rfl⟩:=qm q;have A:=Ub hs E;have H:=Ub hs I;simp only[eb]at B;split at B
   ·rename_i b o k j e1 e2
    split at B
    ·rename_i J;cases B
     rw[e1]at A;rw[e2]at H;obtain⟨H,_⟩:=zc H;obtain⟨g,hgZ,A⟩:=A;refine⟨.pointer (some ⟨g,o+j.toNat* n,none⟩),val ?_,by grind [Rd]⟩;rw[A,H];simp only[Instr.indexAt,Qb,bq,run_underlying M,Instr.sureAddr,Tb,Bh,if_pos J,run_sizeOf D]
     grind [Addr.add]
    grind
   grind
  grind
 |index t x i=>
  simp only[mg]at q;split at q
  ·rename_i M
   obtain⟨S,E,q⟩:=qb q;obtain⟨i'Z,I,rfl⟩:=qm q;have A:=Ub hs E;have H:=Ub hs I;simp only[eb]at B;split at B
   ·rename_i s k j e1 e2
    split at B
    ·rename_i J
     obtain⟨K,C,rfl⟩:=qm B;rw[e1]at A;rw[e2]at H;obtain⟨H,_⟩:=zc H;obtain⟨A,_⟩:=zc A;refine⟨_,val ?_,If rfl⟩;rw[A,H];simp only[Instr.index,Qb,bq,run_underlying M,Tb,if_pos J,C];rfl
    grind
   grind
  ·rename_i len e M
   obtain⟨n,D,q⟩:=qb q;obtain⟨g,R,q⟩:=qb q;obtain⟨S,E,q⟩:=qb q;obtain⟨i'Z,I,rfl⟩:=qm q;have A:=Ub hs E;have H:=Ub hs I;simp only[eb]at B;split at B
   ·rename_i cs k j e1 e2
    split at B
    ·rename_i J
     obtain⟨K,L,O⟩:=J;rw[e1]at A;rw[e2]at H;obtain⟨H,_⟩:=zc H;obtain⟨vs,A,r1,Y⟩:=A;have hlZ:=r1.length;cases g with
     |true=>
      cases B;refine⟨_,val ?_,by exact⟨(vs.drop (j.toNat* n)).take n,rfl,(r1.drop _).take _,(Y.drop _).take _⟩⟩;rw[A,H];simp only[Instr.index,Qb,bq,run_underlying M,Tb,if_pos (And.intro K L),run_sizeOf D]
      grind [VG]
     |false=>
      obtain⟨v,U,hr⟩:=r1.get _ _ B;refine⟨v,val ?_,hr⟩;rw[A,H];simp only[Instr.index,Qb,bq,run_underlying M,Tb,if_pos (And.intro K L),run_sizeOf D];exact WG (w:=w) R U
    grind
   grind
  grind
 |slice t x loZ H mxZ=>
  cases mxZ with
  |some _=>cases q
  |none=>
   simp only[mg]at q;split at q
   ·rename_i M
    obtain⟨S,E,q⟩:=qb q;obtain⟨lo',L,q⟩:=qb q;obtain⟨I,K,rfl⟩:=qm q;have A:=Ub hs E;have Q:=Zs hs L;have O:=Zs hs K;simp only[eb]at B;split at B
    ·rename_i s e1
     obtain⟨⟨l,h⟩,J,rfl⟩:=qm B;rw[e1]at A;obtain⟨A,_⟩:=zc A;obtain⟨W,X,k3Z⟩:=Wv (P:=P) (isS:=false) (la _) Q O J;refine⟨.string (s.extract l h),val ?_,If rfl⟩;simp only[Instr.sliceAt,Instr.slice,Qb,run_underlying M,Tb];simp_all
    grind
   ·rename_i elZ M
    obtain⟨n,D,q⟩:=qb q;obtain⟨S,E,q⟩:=qb q;obtain⟨lo',L,q⟩:=qb q;obtain⟨I,K,rfl⟩:=qm q;have A:=Ub hs E;have Q:=Zs hs L;have O:=Zs hs K;simp only[eb]at B;split at B
    ·rename_i m cs e1
     split at B
     ·rename_i hsz
      obtain⟨⟨l,h⟩,J,rfl⟩:=qm B;rw[e1]at A;have hmc:∃b G,a.eval x=.slice b m G/\m<=G:=by
       simp only[Rd]at A;obtain⟨b,G,C,R,_⟩:=A;exact⟨b,G,C,R⟩
      obtain⟨_,cap0,_,Z⟩:=hmc;obtain⟨_,X,k3Z⟩:=Wv (P:=P) (isS:=true) Z Q O J;obtain⟨b,G,hx1,T,hr⟩:=zau (elem:=elZ) A hsz.1 hsz.2 X k3Z;obtain⟨W,_,_⟩:=Wv (P:=P) (isS:=true) T Q O J;refine⟨_,val ?_,hr⟩;rw[hx1];simp only[Instr.sliceAt,Instr.slice,Qb,run_underlying M,Tb];rw[show(none:Option Operand).map a.eval=none from rfl,W];simp only[Tb,run_sizeOf D];rfl
     grind
    ·rename_i b o m e1
     obtain⟨⟨l,h⟩,J,rfl⟩:=qm B;rw[e1]at A;obtain⟨g,a0,G,hgZ,A,T,U⟩:=A;obtain⟨W,X,k3Z⟩:=Wv (P:=P) (isS:=true) T Q O J;refine⟨.slice (if G=l then a0 else a0.map (·.add (l* n))) (h - l) (G - l),val ?_,?_⟩
     ·rw[A]
      simp only[Instr.sliceAt,Instr.slice,Qb,run_underlying M,Tb];rw[show(none:Option Operand).map a.eval=none from rfl,W];simp only[Tb,run_sizeOf D];rfl
     grind [Rd,Addr.add]
    grind
   ·rename_i len elZ M
    obtain⟨n,D,q⟩:=qb q;obtain⟨S,E,q⟩:=qb q;obtain⟨lo',L,q⟩:=qb q;obtain⟨I,K,rfl⟩:=qm q;have A:=Ub hs E;have Q:=Zs hs L;have O:=Zs hs K;simp only[eb]at B;split at B
    ·rename_i b o e1
     obtain⟨⟨l,h⟩,J,rfl⟩:=qm B;rw[e1]at A;obtain⟨g,hgZ,A⟩:=A;obtain⟨W,X,k3Z⟩:=Wv (P:=P) (isS:=false) (la _) Q O J;refine⟨.slice (some (if len=l then⟨g,o,none⟩else(⟨g,o,none⟩:Addr).add (l* n))) (h - l) (len - l),val ?_,?_⟩
     ·rw[A]
      simp only[Instr.sliceAt,Instr.sureAddr,Qb,Bh,run_underlying M,Tb];rw[show(none:Option Operand).map a.eval=none from rfl,W];simp only[Tb,run_sizeOf D]
     grind [Rd,Addr.add]
    grind
   grind
 |extract x i=>
  obtain⟨y,F,rfl⟩:=qm q;have A:=Ub hs F;simp only[eb]at B;split at B
  ·rename_i vs e
   rw[e]at A;obtain⟨us,A,r1⟩:=A;obtain⟨v,U,hr⟩:=r1.get _ _ B;refine⟨v,val ?_,hr⟩;simp only[Instr.extract];simp_all
  grind
 |makeFunc fn first Oa=>
  cases fn with
  |func f=>
   simp only[mg]at q;split at q
   ·rename_i V
    obtain⟨ys,F,rfl⟩:=qm q;cases B;have hr:=AC hs F;refine⟨.func (.func f) #[] (Oa.map a.eval),val ?_,by exact⟨Oa.toList.map a.eval,by apply congrArg;grind,hr⟩⟩;have:first=#[]:=by simpa using V
    subst this;simp[Instr.makeFunc]
   grind
  |_=>cases q
 |call cl=>
  obtain⟨callee,args,K⟩:=cl;have two:∀{x y:Operand},args.toList=[x,y]->args=#[x,y]:=fun h=>by
   grind
  cases callee with
  |value f=>cases q
  |invoke r m=>cases q
  |builtin b=>
   cases b with
   |len=>
    simp only[mg]at q;split at q
    ·rename_i x t e1 e2
     have O:args=#[x]:=by apply Sg;rw[e1]
     have Q:K=#[t]:=by apply Sg;rw[e2]
     subst O;subst Q;split at q
     ·rename_i ht
      obtain⟨y,F,rfl⟩:=qm q;have A:=Ub hs F;simp only[eb]at B;split at B
      ·rename_i s e;cases B
       rw[e]at A;obtain⟨A,_⟩:=zc A;refine⟨_,?_,If rfl⟩;have:(Builtin.len_ #[t] ty #[a.eval x]).run P w=.ok (.int .i64 s.size) w:=by
        rw[A];simp[Builtin.len_,run_underlying ht,goInt]
       show(do let d <-resolve a.eval ⟨.builtin .len,#[x],#[t]⟩ ty;invoke d.target d.args:Sem Next).run P w=_
       grind [resolve,invoke,builtin]
      grind
     ·rename_i elZ ht
      obtain⟨y,F,rfl⟩:=qm q;have A:=Ub hs F;simp only[eb]at B;split at B
      ·rename_i n cs e;cases B
       rw[e]at A;obtain⟨b,G,A,_⟩:=A;refine⟨_,?_,If rfl⟩;have:(Builtin.len_ #[t] ty #[a.eval x]).run P w=.ok (.int .i64 n) w:=by
        rw[A];simp[Builtin.len_,run_underlying ht,goInt]
       show(do let d <-resolve a.eval ⟨.builtin .len,#[x],#[t]⟩ ty;invoke d.target d.args:Sem Next).run P w=_
       grind [resolve,invoke,builtin]
      ·rename_i b o n e;cases B
       rw[e]at A;obtain⟨g,a0,G,_,A,_⟩:=A;refine⟨_,?_,If rfl⟩;have:(Builtin.len_ #[t] ty #[a.eval x]).run P w=.ok (.int .i64 n) w:=by
        rw[A];simp[Builtin.len_,run_underlying ht,goInt]
       show(do let d <-resolve a.eval ⟨.builtin .len,#[x],#[t]⟩ ty;invoke d.target d.args:Sem Next).run P w=_
       grind [resolve,invoke,builtin]
      ·rename_i e;cases B
       rw[e]at A;obtain⟨A,_⟩:=zc A;refine⟨_,?_,If rfl⟩;have:(Builtin.len_ #[t] ty #[a.eval x]).run P w=.ok (.int .i64 0) w:=by
        rw[A];simp[Builtin.len_,run_underlying ht,goInt]
       show(do let d <-resolve a.eval ⟨.builtin .len,#[x],#[t]⟩ ty;invoke d.target d.args:Sem Next).run P w=_
       grind [resolve,invoke,builtin]
      grind
     grind
    grind
   |max=>
    simp only[mg]at q;split at q
    ·rename_i x y e1
     have O:=two e1;subst O;obtain⟨S,E,q⟩:=qb q;obtain⟨y'Z,L,rfl⟩:=qm q;have A:=Ub hs E;have F:=Ub hs L;simp only[eb]at B;split at B
     ·rename_i k m k' n e2 e3
      split at B
      ·cases B;rw[e2]at A;rw[e3]at F
       obtain⟨A,_⟩:=zc A;obtain⟨F,_⟩:=zc F;refine⟨.int k (if n>m then n else m),?_,If rfl⟩;have:(Builtin.max_ K ty #[a.eval x,a.eval y]).run P w=.ok (.int k (if n>m then n else m)) w:=by
        rw[A,F];rfl
       show(do let d <-resolve a.eval ⟨.builtin .max,#[x,y],K⟩ ty;invoke d.target d.args:Sem Next).run P w=_
       grind [resolve,invoke,builtin]
      grind
     grind
    grind
   |min=>
    simp only[mg]at q;split at q
    ·rename_i x y e1
     have O:=two e1;subst O;obtain⟨S,E,q⟩:=qb q;obtain⟨y'Z,L,rfl⟩:=qm q;have A:=Ub hs E;have F:=Ub hs L;simp only[eb]at B;split at B
     ·rename_i k m k' n e2 e3
      split at B
      ·cases B;rw[e2]at A;rw[e3]at F
       obtain⟨A,_⟩:=zc A;obtain⟨F,_⟩:=zc F;refine⟨.int k (if n<m then n else m),?_,If rfl⟩;have:(Builtin.min_ K ty #[a.eval x,a.eval y]).run P w=.ok (.int k (if n<m then n else m)) w:=by
        rw[A,F];rfl
       show(do let d <-resolve a.eval ⟨.builtin .min,#[x,y],K⟩ ty;invoke d.target d.args:Sem Next).run P w=_
       grind [resolve,invoke,builtin]
      grind
     grind
    grind
   |_=>cases q
 |_=>cases q
end
structure S0 where
 base:Nat
 M:Nat→Prop
 w0:World
 F0:Nat→Nat
 nt:Nat
 sw:World
 sF:Nat→Nat
 sβ:List Nat
 T:List Deferred
def Rl(P:Program)(S:S0)(st:St)(a:Act)(w:World):Prop:=∃Fr β,Rel P S.T S.base S.M S.w0 S.F0 S.nt st a w Fr β/\Le S.sw S.sF S.sβ w Fr β
def mq(P:Program):Op->Option Ea
 | .alloc elem=>(Lw P elem).map (.alloc elem)
 | .box elem x=>(ug P elem).bind fun n=>(zb x).map fun x=>.box elem n x
 | .buildSlice t len ps=>match P.underlying t with
   |some (.slice e)=>(ug P e).bind fun n=>if 0<n/\len* n<=16777216 then(Lw P e).bind fun zs=>if zs.length=n then(oq (fun i=>some (i* n,n)) ps.toList).map fun qs=>.mksl (e==U8 P) len n ((List.range (len* n)).map fun i=>zs.getD (i % n) .hd) qs else none else none
   |_=>none
 | .convert a dst x=>(zb x).bind fun x=>match P.underlying a,P.underlying dst with
   |some (.slice e),some .string=>match P.underlying e with|some (.int .u8)=>some (.b2s x)|_=>none
   |_,_=>none
 | .load t x=>(Ae P t).bind fun g=>(ug P t).bind fun n=>if g=true\/n=1 then(zb x).map fun x=>.load g n x else none
 | .store t x y=>(ug P t).bind fun n=>(zb x).bind fun x=>(zb y).bind fun y=>if 0<n then some (.store n x y)else none
 | .call {callee:=.builtin .append,args,argTypes}=>match args.toList,argTypes.toList with
   |[x,y],[t,a]=>(match P.underlying t,P.underlying a with
    |some (.slice e),some .string=>(P.info? e).bind fun i=>if e=U8 P/\i.size=1/\i.bytes<=32768/\(i.zero.map fun z=>z.cells.size)=some i.size then(zb x).bind fun x=>(zb y).map fun y=>.appendS x y else none
    |some (.slice e),some (.slice _)=>(P.info? e).bind fun i=>if 0<i.size/\i.bytes<=32768/\(i.zero.map fun z=>z.cells.size)=some i.size then(zb x).bind fun x=>(zb y).map fun y=>(.append (e==U8 P) i.size x y)else none
    |_,_=>none)
   |_,_=>none
 |_=>none
section
variable {P:Program} {w w':World} {Fr Fr':Nat→Nat} {β β':List Nat} {T:List Deferred} {base nt:Nat} {M:Nat→Prop} {w0:World} {F0:Nat→Nat} {st st':St} {a a':Act}
theorem bv{p}(h:xc p=true):p=.flat (.slice none 0 0):=by
 grind [xc]
theorem oI{p}(h:xc p=false):wk p=p:=by simp[wk,h]
def hG:Rd w Fr β (.ha 0 []) (.slice none 0 0):=by grind [Rd]
def uz:Sf P w Fr (.ha 0 []) (.slice none 0 0):=⟨0,[],rfl,.inl rfl⟩
theorem QA{p}{v}(h:Rd w Fr β p v):Rd w Fr β (wk p) v:=by
 unfold wk;split
 ·rename_i e
  rw[bv e]at h;obtain⟨rfl,_⟩:=zc h;exact hG
 omega
theorem sa.Hb:∀(ps)(vs),sa w Fr β ps vs->sa w Fr β (ae ps) vs
 |[],_,h=>by grind [ae]
 |p::ps,vs,h=>by
  simp only[ae,sa]at h⊢;obtain⟨v,r,a,b,c⟩:=h;exact⟨v,r,a,QA b,sa.Hb ps r c⟩
theorem Rd.Hb(p)(v)(h:Rd w Fr β p v):Rd w Fr β p.Hb v:=by
 cases p<;>grind [QA,PV.Hb,Rd,sa.Hb]
theorem Iw:∀l,l.map wk=ae l
 |[]=>rfl
 |p::r=>by rw[kc,Iw r];rfl
theorem mI:∀ps,(ae ps).length=ps.length
 |[]=>by rfl
 |p::r=>by simp only[ae,za,mI r]
theorem uQ{b}:∀{ps}{o}{L},L∈fd b o ps->∃j,L=.cell b (o+j)/\ps[j]?=some (.flat (.slice none 0 0))
 |[],o,L,h=>by grind [fd]
 |p::r,o,L,h=>by
  have d:L∈fd b (o+1) r->∃j,L=.cell b (o+j)/\(p::r)[j]?=some (.flat (.slice none 0 0)):=fun h=>by
   obtain⟨j,a,c⟩:=uQ h;exact⟨j+1,ia,ia⟩
  unfold fd at h;split at h
  ·rename_i e
   rcases Wb.1 h with rfl|h
   ·exact⟨0,rfl,by grind [bv]⟩
   grind
  grind
theorem fH:∀{pre mid post}{vs},sa w Fr β (pre++mid++post) vs->sa w Fr β (pre++mid.map wk++post) vs
 |p::pre,mid,post,vs,h=>by
  simp only[ub,sa]at h⊢;obtain⟨v,r,a,b,c⟩:=h;exact⟨v,r,a,b,fH c⟩
 |[],[],post,vs,h=>h
 |[],p::mid,post,vs,h=>by
  simp only[Gb,kc,ub,sa]at h⊢;obtain⟨v,r,a,b,c⟩:=h;exact⟨v,r,a,QA b,fH (pre:=[]) c⟩
theorem qD{p}(a:xc p=false):∀{pre mid post:List PV}{j:Nat},(pre++mid++post)[j]?=some p->(pre++mid.map wk++post)[j]?=some p
 |q::pre,mid,post,0,h=>by grind
 |q::pre,mid,post,j+1,h=>by
  simp only[ub,kr]at h⊢;exact qD a h
 |[],[],post,j,h=>h
 |[],q::mid,post,0,h=>by
  grind [oI]
 |[],q::mid,post,j+1,h=>by
  simp only[Gb,ub,kr,kc]at h⊢;exact qD a (pre:=[]) h
theorem Sf.ha{p}{v}(h:Sf P w Fr p v):xc p=false:=by
 obtain⟨n,cs,rfl,_⟩:=h;rfl
def Rel.nI(R:Rel P T base M w0 F0 nt st a w Fr β){b e}{pre mid post}(D:st.bx[b]?=some (e,pre++mid++post)):
 Rel P T base M w0 F0 nt {st with bx:=st.bx.set b (e,pre++mid.map wk++post),ow:=fd b pre.length mid++st.ow} a w Fr β:=by
 have ea:b<st.bx.length:=(qg D).1;obtain⟨g,E,hF,l⟩:=R.bx.2 b _ D;have C:Oj P w Fr β (e,pre++mid.map wk++post) g:=by
  rcases l with⟨vs,z,i,r,A,B⟩|⟨f,k,s,live,d,o,i⟩
  ·exact .inl ⟨vs,z,i,fH r,A,B⟩
  ·have v:mid.map wk=mid:=by
    have:mid.map wk=mid.map id:=Fl fun p t=>by
     have j:p∈pre++mid++post:=by simp[t]
     dsimp only at o;rw[o,List.mem_singleton]at j;rw[j];rfl
    rw[this,List.map_id]
   exact .inr ⟨f,k,s,live,d,ia,i⟩
 refine R.next (Le.refl _ _ _) R.sl R.nt rfl ⟨by rw[Bc];exact R.bx.1,fun y n c=>?_⟩ R.nd (fun g h=>.inl h) some (fun L H=>?_) (fun L _ G _ ra N h O=>ra ia) (fun L _ G _ _ h=>by cases h) R.al (fun _ _ _ _=>⟨rfl,rfl⟩) rfl rfl rfl
 ·by_cases j:y=b
  ·grind
  ·rw[HA (yi j)]at c
   exact R.bx.2 y n c
 ·rcases wg.1 H with h|h
  ·obtain⟨j,rfl,x⟩:=uQ h
   have I:=(qg x).1;have t:(pre++mid++post)[pre.length+j]?=some (.flat (.slice none 0 0)):=by
    rw[sf,He aa,Hk aa];rw[oh];exact x
   have F:w.cell? ⟨g,pre.length+j,none⟩=some (.slice none 0 0):=by
    rcases l with⟨vs,z,i,r,A,B⟩|⟨f,k,s,live,d,o,i⟩
    ·obtain⟨v,Q,K⟩:=r.get _ _ t
     obtain⟨rfl,_⟩:=zc K;rw[cell_of_row _ _ _ _ _ _ i];grind
    ·grind
   refine⟨.slice none 0 0,.ha 0 [],by grind [Ga],?_,uz,fun k J=>by cases J⟩;simp only[ab];rw[yg ea];simp only[Ra];rw[sf,He aa,Hk (by rw[Hj];omega),oh,Bw,x];rfl
  ·obtain⟨u,q,j,v,t⟩:=R.own L h
   refine⟨u,q,j,?_,t,fun g E=>.inr ⟨L,h,rfl,u,j,E⟩⟩;cases L<;>grind [ab,qD,Sf.ha]
theorem xv:∀(l)(i),look (l.map fun q=>(q.1,wk q.2)) i=wk (look l i)
 |[],i=>rfl
 |(j,v)::r,i=>by
  simp only[kc,look];split
  ·rfl
  ·exact xv r i
theorem Rel.pj(R:Rel P T base M w0 F0 nt st a w Fr β)(live):Rel P T base M w0 F0 nt (st.pj live) a w Fr β:=by
 refine R.next (Le.refl _ _ _) (fun i=>by simp only[St.pj,xv];exact QA (R.sl i)) R.nt rfl R.bx R.nd (fun g h=>.inl h) some (fun L e=>?_) (fun L _ d _ ra n h o=>ra ia) (fun L _ d _ _ h=>by cases h) R.al (fun _ _ _ _=>⟨rfl,rfl⟩) rfl rfl rfl;rcases wg.1 e with h|h
 ·obtain⟨i,j,rfl⟩:=Ik.1 h
  have c:=bv (Hc.1 j).2;have b:=R.sl i;rw[c]at b;obtain⟨b,_⟩:=zc b;exact⟨.slice none 0 0,.ha 0 [],by grind [Ga],by simp only[ab,St.pj,xv,c];rfl,uz,fun k l=>by cases l⟩
 ·obtain⟨u,q,b,l,j⟩:=R.own L h
  refine⟨u,q,b,?_,j,fun g c=>.inr ⟨L,h,rfl,u,b,c⟩⟩;cases L<;>grind [ab,St.pj,xv,oI,Sf.ha]
theorem Rl.pj{S}(h:Rl P S st a w)(live):Rl P S (st.pj live) a w:=by
 obtain⟨Fr,β,R,b⟩:=h;exact⟨Fr,β,R.pj live,b⟩
def Zd(Fr:Nat->Nat)(g n:Nat):Nat->Nat:=fun k=>if k=g then n else Fr k
theorem Bp{Fr}{g n k}(h:k<g):Zd Fr g n k=Fr k:=if_neg (Nat.ne_of_lt h)
theorem ru(w)(o):Below w.heap.size w (w.alloc o):=(Below.refl _ w).alloc (la _) o
def I_(w:World)(vs)(e)(β:List Nat)(Fr):Row (w.alloc (.cells vs.toArray e)) (Zd Fr w.heap.size vs.length) w.heap.size 0 vs:=fun j v a=>by
 have b:=(qg a).1;refine⟨by grind [Zd.eq_1],?_⟩;simp_all
theorem Rel.lt(R:Rel P T base M w0 F0 nt st a w Fr β):∀g∈β,g<w.heap.size:=fun g b=>R.bx.lt b
theorem Rel.Sw(R:Rel P T base M w0 F0 nt st a w Fr β)(c:Below w.heap.size w w')(A:∀g,g<w.heap.size->Fr' g=Fr g){l}{cs}(I:w.heap.size<=l)(hF:Fr' l=0)(G:Le w Fr β w' Fr' (β++[l])->Oj P w' Fr' (β++[l]) cs l):
 Rel P T base M w0 F0 nt {st with bx:=st.bx++[cs]} a w' Fr' (β++[l])/\Le w Fr β w' Fr' (β++[l]):=by
 have x:=R.lt;have y:Le w Fr β w' Fr' (β++[l]):=⟨c.size,fun b h=>by grind,fun b o h _=>c.cell (p:=⟨b,o,none⟩) h,fun i g h=>by grind,fun g r h=>⟨r,(c.block g (xg.1 h).1).trans h⟩⟩;have H:st.bx.length=β.length:=R.bx.1;have d:∀L v,Ga a w β L=some v->Ga a w' (β++[l]) L=some v:=fun L v C=>by
  cases L with
  |slot i=>exact C
  |cell b j=>
   simp only[Ga]at C⊢;obtain⟨g,n,z⟩:=qb C;rw[Hk (qg n).1,n];exact(c.cell (p:=⟨g,j,none⟩) (x g (Ah n))).trans z
 have B:∀L p,ab st L=some p->ab {st with bx:=st.bx++[cs]} L=some p:=fun L p Q=>by
  cases L<;>grind [ab]
 refine⟨R.next y (fun i=>(R.sl i).mono y) R.nt rfl ⟨ia,fun b k t=>?_⟩ ?_ ?_ some (fun L D=>?_) (fun L _ F _ ra N h O=>ra ia) (fun L _ F _ _ h=>by cases h) (fun q J=>d _ _ (R.al q J)) (fun b h _ _=>⟨c.block b h,A b h⟩) c.os c.tape c.output,y⟩
 ·have j:(st.bx++[cs])[b]?=some k:=t
  by_cases h:b<st.bx.length
  ·rw[Hk h]at j
   obtain⟨g,n,z,E⟩:=R.bx.2 b k j;have e:=x g (Ah n);exact⟨g,ia,(A g e).trans z,E.kept y (c.block g e)⟩
  grind
 ·grind [nd]
 ·grind
 ·obtain⟨u,q,E,K,j⟩:=R.own L D
  exact⟨u,q,d L u E,B L q K,j.kept fun g e=>⟨c.block g (j.lt e),A g (j.lt e)⟩,fun g e=>.inr ⟨L,D,rfl,u,E,e⟩⟩
def Rel.PQ(R:Rel P T base M w0 F0 nt st a w Fr β){d}(k:d<nt){zs}{vs}{e}(n:sa w Fr β zs vs)(l:Oc vs):
 let w':=w.alloc (.cells vs.toArray e)
 Rel P T base M w0 F0 nt {(st.put d (.ptr st.bx.length 0))with bx:=st.bx++[(e,zs)]} (a.put (some d) (.pointer (some ⟨w.heap.size,0,none⟩))) w' (Zd Fr w.heap.size 0) (β++[w.heap.size])/\Le w Fr β w' (Zd Fr w.heap.size 0) (β++[w.heap.size]):=by
 intro w';have i:Below w.heap.size w w':=ru w _;obtain⟨c,b⟩:=R.Sw (Fr':=Zd Fr w.heap.size 0) (cs:=(e,zs)) i (fun g h=>Bp h) (la _) (by simp[Zd]) fun b=>.inl ⟨vs,e,heap_alloc_new w _,n.mono b,l,rfl⟩
 have j:st.bx.length=β.length:=R.bx.1;refine⟨?_,b⟩;have:=c.put k (p:=.ptr st.bx.length 0) (v:=.pointer (some ⟨w.heap.size,0,none⟩)) (by
  grind [Rd])
 exact this
def F6{D a}(h:mark D=mark a):D=a:=by
 grind [mark]
theorem nz{T}:∀{a b:List Nat},a.map mark++T=b.map mark++T->a=b
 |[],[],_=>rfl
 |[],e::b,h=>by have:=congrArg List.length h;grind
 |d::a,[],h=>by have:=congrArg List.length h;grind
 |d::a,e::b,h=>by
  simp only[kc,ub,It]at h;rw[F6 h.1,nz h.2]
def Rel.TI(R:Rel P T base M w0 F0 nt st a w Fr β){D}(t:base<=D)(u:w.heap[D]?=some (.deferred (some [])))(k:∀c:List Nat,a.defers=c.map mark++T->D∉c):Rel P T base M w0 F0 nt st {a with defers:=mark D::a.defers} w Fr β:=by
 have d:∀L,Ga {a with defers:=mark D::a.defers} w β L=Ga a w β L:=fun L=>by rfl
 refine⟨R.sl,R.nt,?_,R.bx,R.nd,fun L b=>by rw[d];exact R.own L b,fun L b j e ra v p g=>by rw[d,d];exact R.sep L b j e ra v p g,fun L b v g=>by rw[d];exact R.out L b v g,fun q o=>by rw[d];exact R.al q o,fun g n=>R.may g (n.imp id fun⟨L,b,v,i,h⟩=>⟨L,b,v,ia,h⟩),R.old,R.ge,R.os,R.tape,R.output⟩;obtain⟨c,i,h,x⟩:=R.df;refine⟨D::c,List.nodup_cons.2 ⟨k c h,i⟩,ia,fun r l=>?_⟩
 grind
def mT{α:Type}{l m:List α}{o n j}(c:m.length=n)(e:o+n<=l.length)(d:¬(o<=j/\j<o+n)):(l.take o++m++l.drop (o+n))[j]?=l[j]?:=by
 have a:(l.take o).length=o:=by rw[Ac];omega
 by_cases h:j<o
 ·grind
 ·have b:(l.take o++m).length=o+n:=by rw[Ja,a,c]
  rw[He aa,b,Fj]
  grind
def lT{α:Type}{l m:List α}{o n j}(c:m.length=n)(b:o+n<=l.length)(a:j<n):(l.take o++m++l.drop (o+n))[o+j]?=m[j]?:=by
 grind
def zbh{α:Type}{l m:List α}{o n}(b:m.length=n)(a:o+n<=l.length):(l.take o++m++l.drop (o+n)).length=l.length:=by
 grind
theorem vQ{b o n a j}(h:Nd b o n (.cell a j)=false):a≠b\/¬(o<=j/\j<o+n):=by
 grind [Nd]
theorem Rel.store(R:Rel P T base M w0 F0 nt st a w Fr β){b o n g:Nat}{cs ps}{vs us}{e:TypeId}(I:st.bx[b]?=some (e,cs))(F:β[b]?=some g)(hhZ:w.heap[g]?=some (.cells vs.toArray e (0,0)))(U:sa w Fr β cs vs)(V:Oc vs)
 (hpZ:sa w Fr β ps us) (hpo:Oc us) (hnZ:us.length=n) (Q:0<n) (O:o+n<=cs.length) (K)
 (hKZ:∀s,K=some s->∃v p,us=[v]/\ps=[p]/\(Loc.slot s∈st.ow/\a.tmps.getD s undef=v/\look st.sl s=p))
 (st':St) (h1Z:st'.sl=st.sl) (Y:st'.bx=st.bx.set b (e,cs.take o++ps++cs.drop (o+n)))
 (h3Z:∀L∈st'.ow,(L∈st.ow/\Nd b o n L=false/\∀s,K=some s->L≠.slot s)\/(L=.cell b o/\(K.isSome\/(us=[.slice none 0 0]/\ps=[.ha 0 []]))))
 (h4Z:∀q∈st'.al,q∈st.al/\Nd b o n q.2=false):
 let w':=w.setRow g (vs.take o++us++vs.drop (o+n)).toArray
 Rel P T base M w0 F0 nt st' a w' Fr β/\Le w Fr β w' Fr β:=by
 intro w';have hvl:vs.length=cs.length:=U.length;have S:ps.length=n:=by rw[<-hpZ.length];exact hnZ
 have d:∀k,k≠g->w'.heap[k]?=w.heap[k]?:=fun k t=>setRow_other w g k _ t
 have x:w'.heap[g]?=some (.cells (vs.take o++us++vs.drop (o+n)).toArray e (0,0)):=setRow_heap w g _ _ e (0,0) hhZ;have hgm:g∈β:=Ah F;obtain⟨g0Z,b1Z,hF,_⟩:=R.bx.2 b _ I;rw[F]at b1Z;cases b1Z;have N:Le w Fr β w' Fr β:=⟨by simp[w',World.setRow],fun _ _=>la _,fun k j t Z=>by
  have ra:k≠g:=fun e=>by grind
  simp only[World.cell?,d k ra],fun _ _ h=>h,fun k r t=>⟨r,(d k fun e=>by grind).trans t⟩⟩
 have hcell:∀z j y,β[z]?=some y->(z≠b\/¬(o<=j/\j<o+n))->w'.cell? ⟨y,j,none⟩=w.cell? ⟨y,j,none⟩:=fun z j y J Z=>by
  by_cases D:y=g
  ·subst D
   have X:z=b:=by
    have l1Z:=(qg J).1;have l2Z:=(qg F).1;exact(List.getElem?_inj l1Z R.nd).1 (J.trans F.symm)
   have hj':¬(o<=j/\j<o+n):=Z.resolve_left (fun h=>h X);rw[cell_of_row _ _ _ _ _ _ x,cell_of_row _ _ _ _ _ _ hhZ];have:=mT (l:=vs) (m:=us) hnZ aa hj';simpa using this
  ·simp only[World.cell?,d y D]
 have C:∀L,Nd b o n L=false->Ga a w' β L=Ga a w β L:=fun L A=>by
  cases L<;>grind [Ga,vQ]
 have hpv:∀L,Nd b o n L=false->ab st' L=ab st L:=fun L A=>by
  cases L with
  |slot i=>simp only[ab,h1Z]
  |cell z j=>
   simp only[ab,Y];by_cases D:z=b
   ·subst D
    have Z:=(vQ A).resolve_left (fun h=>h rfl);rw[yg (qg I).1,I];simp only[Ra];exact mT S O Z
   ·grind
 have E:∀L∈st.ow,∀v p,Ga a w β L=some v->Sf P w Fr p v->Sf P w' Fr p v:=fun L A v p U hoZ=>hoZ.kept fun k t=>⟨d k fun e=>R.out L A v k U t (e▸hgm),rfl⟩
 have B:∀L,Nd b o n L=false->L≠.cell b o:=fun L A e=>by grind [Nd]
 refine⟨R.next N (fun i=>by rw[h1Z];exact(R.sl i).mono N) R.nt rfl ⟨by rw[Y,Bc];exact R.bx.1,fun z cs' c=>?_⟩ R.nd (fun g h=>.inl h) (fun L=>match K with|some s=>some (if L=.cell b o then .slot s else L)|none=>if L=.cell b o then none else some L) (fun L A=>?_) (fun L A L'Z hL' ra L0Z h h'Z=>?_) (fun L A L'Z hL' ra h h'Z=>?_) (fun q G=>?_) (fun k t hMZ _=>?_) rfl rfl rfl,N⟩
 ·rw[Y]at c
  by_cases D:z=b
  ·subst D
   rw[yg (qg I).1]at c;cases c;exact⟨g,F,hF,.inl ⟨_,e,x,(((U.take o).append hpZ).append (U.drop (o+n))).mono N,((V.take o).append hpo).append (V.drop (o+n)),rfl⟩⟩
  ·rw[HA (yi D)]at c
   obtain⟨y,H,X,k2Z⟩:=R.bx.2 z cs' c;have ra:y≠g:=fun e=>by
    subst e
    grind [List.getElem?_inj,nd]
   exact⟨y,H,X,k2Z.kept N (d y ra)⟩
 ·rcases h3Z L A with⟨W,X,m3Z⟩|⟨rfl,X⟩
  ·obtain⟨v,p,H,k2Z,k3Z⟩:=R.own L W
   have hnc:=B L X;refine⟨v,p,by rw[C L X];exact H,by rw[hpv L X];exact k2Z,E L W v p H k3Z,fun k t=>.inr ⟨L,W,?_,v,H,t⟩⟩;cases K<;>simp[hnc]
  ·have hv0:∀u,us=[u]->Ga a w' β (.cell b o)=some u:=fun u huZ=>by
    subst huZ;have hn':n=1:=hnZ.symm;simp only[Ga,F,Ra];rw[cell_of_row _ _ _ _ _ _ x];have:=lT (l:=vs) (m:=[u]) (o:=o) (n:=n) (j:=0) hnZ aa Q;simpa using this
   have hp0:∀q,ps=[q]->ab st' (.cell b o)=some q:=fun q G=>by
    subst G;simp only[ab,Y];rw[yg (qg I).1];simp only[Ra];have:=lT (l:=cs) (m:=[q]) (o:=o) (n:=n) (j:=0) S O Q;rw[Cj]at this;simpa using this
   cases K with
   |none=>
    rcases X with h|⟨huZ,G⟩
    ·cases h
    ·exact⟨_,_,hv0 _ huZ,hp0 _ G,⟨0,[],rfl,.inl rfl⟩,fun k t=>by cases t⟩
   |some s=>
    obtain⟨v,p,huZ,G,hs,haZ,hlk⟩:=hKZ s rfl;obtain⟨v'Z,p'Z,H,k2Z,k3Z⟩:=R.own _ hs
    grind [Ga,ab]
 ·have old:∀K',K'∈st'.ow->K'≠.cell b o->K'∈st.ow/\∀s,K=some s->K'≠.slot s:=fun K' X hne'=>by
   rcases h3Z K' X with⟨W,_,m3Z⟩|⟨e,_⟩
   ·exact⟨W,m3Z⟩
   grind
  cases K<;>grind
 ·cases K<;>grind
 ·obtain⟨X,q2Z⟩:=h4Z q G
  rw[C _ q2Z];exact R.al q X
 grind
end
section
variable {P:Program} {w w':World} {Fr Fr':Nat→Nat} {β β':List Nat} {T:List Deferred} {base nt:Nat} {M:Nat→Prop} {w0:World} {F0:Nat→Nat} {st st':St} {a a':Act}
theorem add_eq(g o j):(⟨g,o,none⟩:Addr).add j=⟨g,o+j,none⟩:=by
 grind [Addr.add]
def oT{m size}{d}{v}{k l}(r:P.underlying k=some (.slice l))(h:Rd w Fr β (.ha m d) v)(t:d.length=m* size):∃a,Src P size k v m a w/\sa w Fr β d a/\Oc a:=by
 obtain⟨b,c,rfl,y,x⟩:=h;rcases x with⟨n,p⟩|⟨g,o,vs,rfl,r1,e,i⟩
 ·subst n;refine⟨[],?_,ja,fun u j=>by cases j⟩
  cases b<;>grind [Src.ofNil,Src.ofSlice]
 ·exact⟨vs,Src.ofSlice w r _ m c vs (by rw[e.length,t]) (fun j u q=>by rw[add_eq];exact(r1 j u q).2) i,e,i⟩
def M_(t n ty e e2)(i)(ht:P.underlying t=some (.slice e))(p:P.info? e=some i)(g a d)(c)(o:w.heap[g]?=some (.cells c e2 (0,0)))
 (x) (m) (b) (hs:Src P i.size n x m b w) (h:a+m<=d) (k:a* i.size+b.length<=c.size):
 (Builtin.append_ #[t,n] ty #[.slice (some ⟨g,0,none⟩) a d,x]).run P w=.ok (.slice (some ⟨g,0,none⟩) (a+m) d) (w.setRow g (c.toList.take (a* i.size)++b++c.toList.drop (a* i.size+b.length)).toArray):=by
 have j:=run_storeCells_at P g (a* i.size) e2 b 0 c w o aa hs.one;simp only[Cj]at j;rcases hs.kind with⟨q,l⟩|l<;>simp[Builtin.append_,run_underlying ht,run_underlying l,Go.sizeOf,typeInfo,p,hs.len,h,hs.cells,Addr.add_lit,j]
def oH(t c ty e)(i)(ht:P.underlying t=some (.slice e))(d:P.info? e=some i)(x)(a)(hs:Src P i.size c x 0 a w):
 (Builtin.append_ #[t,c] ty #[.slice none 0 0,x]).run P w=.ok (.slice none 0 0) w:=by
 rcases hs.kind with⟨g,b⟩|b<;>simp[Builtin.append_,run_underlying ht,run_underlying b,Go.sizeOf,typeInfo,d,hs.len,hs.cells]
theorem iG:∀{cs a},Ad cs=true->Ad a=true->Ad (cs++a)=true
 |[],a,_,h=>h
 |p::cs,a,h,b=>by
  simp only[Ad,Vc,ub]at h⊢;exact⟨h.1,iG h.2 b⟩
theorem zdE:∀{cs},Uf cs=true->Ad cs=true->cs=[]
 |[],_,_=>rfl
 |p::cs,h,a=>by
  grind [Ad,Uf]
structure UA (P:Program) (w:World) (Fr:Nat→Nat) (β:List Nat) (v:Value) (p:PV) (v':Value) (w':World) (Fr':Nat→Nat):Prop where
 le:Le w Fr β w' Fr' β
 rd:Rd w' Fr' β p v'
 own:Sf P w' Fr' p v'
 hC:∀ k,v'.ownBlock=some k→v.ownBlock=some k∨w.heap.size≤k
 old:∀ k,k<w.heap.size→v.ownBlock≠some k→w'.heap[k]? =w.heap[k]? ∧Fr' k=Fr k
 os:w'.os=w.os
 tape:w'.tape=w.tape
 output:w'.output=w.output
def ax{t S ty e}{i}{z}(ht:P.underlying t=some (.slice e))(hiZ:P.info? e=some i)(hzZ:i.zero=some z)(hzs:z.cells.size=i.size)(hsz:0<i.size)(hby:i.bytes<=32768)
 {n m} {cs G} {v x} (R:Rd w Fr β (.ha n cs) v) (hoZ:Sf P w Fr (.ha n cs) v) {a} (F:Src P i.size S x m a w) (L:sa w Fr β G a) (W:Oc a) (hcZ:cs.length=n* i.size) (hdZ:G.length=m* i.size) (h8Z:(e=U8 P/\Uf cs=true)\/i.size≠1\/(Ad cs=true/\Ad G=true)) (hbZ:n+m<=Da):
 ∃v'Z w' Fr',(Builtin.append_ #[t,S] ty #[v,x]).run P w=.ok v'Z w'/\UA P w Fr β v (.ha (n+m) (cs++G)) v'Z w' Fr':=by
 have V:a.length=m* i.size:=by rw[L.length,hdZ]
 have hbd:n+m<=4294967296:=hbZ;obtain⟨d,M,J,T⟩:∃d,sa w Fr β cs d/\Oc d/\∀g o c,v=.slice (some ⟨g,o,none⟩) n c->Row w Fr g o d:=by
  obtain⟨b,c,rfl,_,R⟩:=R;rcases R with⟨l,_⟩|⟨g,o,vs,I,r1,U,Z⟩
  ·subst l;exact⟨[],ja,(fun u O=>by cases O),fun g o c _ j u D=>by cases D⟩
  grind
 have X:d.length=n* i.size:=by rw[M.length,hcZ]
 have grow:∀(bsZ:Option Addr)(c:Nat),v=.slice bsZ n c->(Builtin.firstCells i.size n (.slice bsZ n c)).run P w.drew=.ok d.toArray w.drew->c<n+m->∃v'Z w' Fr',(Builtin.append_ #[t,S] ty #[v,x]).run P w=.ok v'Z w'/\UA P w Fr β v (.ha (n+m) (cs++G)) v'Z w' Fr':=by
  intro bsZ c hve hfZ ea;subst hve;have Z:Builtin.nextslicecap (n+m) c* i.bytes<=281474976710656:=by
   have h1Z:=nextslicecap_le (need:=n+m) (old:=c) ea
   calc Builtin.nextslicecap (n+m) c* i.bytes<=(2* (n+m))* 32768:=Jt h1Z hby
    _<=_:=aa
  have y:=run_append_grow_src (P:=P) w t S ty e i z ht hiZ hzZ bsZ n c d hfZ x m a F ea aa Z;obtain⟨C,Q⟩:∃C,(d++a).toArray++Builtin.zeroCells z.cells (grownCap w (n+m) c e - (n+m))=C:=⟨_,rfl⟩;rw[Q]at y;have U:=grownCap_ge w (n+m) c e;have hmx:grownCap w (n+m) c e<=maxLen:=grownCap_le_maxLen w _ _ _ (by grind [maxLen]);have l:Below w.heap.size w (w.drew.alloc (.cells C e)):=(show Below w.heap.size w w.drew from⟨rfl,rfl,rfl,la _,fun _ _=>rfl⟩).alloc (la _) _;have q:(w.drew.alloc (.cells C e)).heap[w.heap.size]?=some (.cells C e (0,0)):=heap_alloc_new w.drew _;have H:C.toList=(d++a)++(Builtin.zeroCells z.cells (grownCap w (n+m) c e - (n+m))).toList:=by rw[<-Q];simp
  have I:(d++a).length=(n+m)* i.size:=by rw[Ja,X,V,Nat.add_mul]
  have E:Le w Fr β (w.drew.alloc (.cells C e)) (Zd Fr w.heap.size ((n+m)* i.size)) β:=⟨l.size,fun b h=>by grind [Bp],fun b o h _=>l.cell (p:=⟨b,o,none⟩) h,fun _ _ h=>h,fun g r h=>⟨r,(l.block g (xg.1 h).1).trans h⟩⟩;have K:C.size=grownCap w (n+m) c e* i.size:=by
   rw[<-Cw,H,Ja,I,Cw,size_zeroCells,hzs,<-Nat.add_mul];congr 1;omega
  refine⟨_,_,_,y,⟨E,?_,⟨n+m,cs++G,rfl,.inr ⟨w.heap.size,_,C,e,i.size,rfl,q,U,hmx,K,by grind [Zd.eq_1],ia,(fun h=>by omega),fun h=>h8Z.elim (fun h=>.inr h.1) fun O=>.inl (O.elim (fun O=>absurd h O) fun O=>iG O.1 O.2)⟩⟩,(fun k A=>by cases A<;>grind),(fun k A _=>⟨l.block k A,Bp A⟩),rfl,rfl,rfl⟩⟩;simp only[Rd];refine⟨_,_,rfl,U,.inr ⟨w.heap.size,0,d++a,rfl,fun j u D=>?_,(M.append L).mono E,J.append W⟩⟩;have hjl:=(qg D).1;rw[I]at hjl;refine⟨by grind [Zd.eq_1],?_⟩;rw[sc,cell_of_row _ _ _ _ _ _ q,<-IA,H,Hk aa];exact D
 rcases hoZ with⟨n'Z,cs',Y,N|⟨g,c,B,e2,szZ,N,hgZ,h1Z,h2Z,h3Z,h4Z,h5Z,h6Z,h7Z⟩⟩
 ·cases Y
  subst N;have I:n=0/\cs=[]:=by
   simp only[Rd]at R;obtain⟨b,c,heZ,l,R⟩:=R;cases heZ;refine⟨rfl,qz aa⟩
  obtain⟨rfl,rfl⟩:=I;by_cases O:m=0
  ·subst O
   have l:G=[]:=qz aa;subst l;exact⟨_,w,Fr,oH t S ty e i ht hiZ x a F,⟨Le.refl _ _ _,ia,⟨0,[],rfl,.inl rfl⟩,(fun k A=>by cases A),(fun k A _=>⟨rfl,rfl⟩),rfl,rfl,rfl⟩⟩
  grind [run_firstCells_none]
 ·cases Y
  subst N;have Z:n=0\/szZ=i.size:=by
   rcases Ep n with h|h
   ·omega
   ·right;exact Nat.eq_of_mul_eq_mul_left h (h5Z.symm.trans hcZ)
  by_cases l:n+m<=c
  ·have hs':szZ=i.size\/(n=0/\m=0):=by
    rcases Z with h|h
    ·omega
    ·omega
   have U:n* i.size+a.length<=B.size:=by
    rw[h3Z,V];rcases hs' with h|⟨h,h'Z⟩
    ·rw[h,<-Nat.add_mul];exact Jt l (la _)
    ·subst h;subst h'Z;simp
   have y:=M_ (P:=P) (w:=w) t S ty e e2 i ht hiZ g n c B hgZ x m a F l U;obtain⟨C,Q⟩:∃C,(B.toList.take (n* i.size)++a++B.toList.drop (n* i.size+a.length)).toArray=C:=⟨_,rfl⟩;rw[Q]at y;have q:(w.setRow g C).heap[g]?=some (.cells C e2 (0,0)):=setRow_heap w g _ _ e2 (0,0) hgZ;have I:∀k,k≠g->(w.setRow g C).heap[k]?=w.heap[k]?:=fun k A=>setRow_other w g k _ A
   have hr:=T g 0 c rfl;have O:B.toList.take (n* i.size)=d:=by
    apply List.ext_getElem?;intro j;by_cases D:j<n* i.size
    ·have hjo:j<d.length:=aa
     have h7Z:=(hr j _ (qe hjo)).2
     grind [cell_of_row]
    ·grind
   have H:C.toList=(d++a)++B.toList.drop (n* i.size+a.length):=by rw[<-Q,O]
   have K:C.size=c* szZ:=by
    have:C.toList.length=B.toList.length:=by rw[<-Q];exact zbh rfl aa
    rw[<-h3Z,<-Cw,this,Cw]
   have hcell:∀j u,(d++a)[j]?=some u->(w.setRow g C).cell? ⟨g,j,none⟩=some u:=fun j u D=>by
    rw[cell_of_row _ _ _ _ _ _ q,<-IA,H,Hk (qg D).1];exact D
   have E:Le w Fr β (w.setRow g C) (Zd Fr g ((n+m)* i.size)) β:=by
    refine⟨da,fun b h=>?_,fun b o h hoZ=>?_,fun _ _ h=>h,fun k r A=>⟨r,(I k fun e=>by rw[e,hgZ]at A;cases A).trans A⟩⟩
    ·unfold Zd;grind
    ·by_cases heZ:b=g<;>grind [World.cell?]
   refine⟨_,_,_,y,⟨E,?_,⟨n+m,cs++G,rfl,.inr ⟨g,c,C,e2,szZ,rfl,q,l,h2Z,K,by grind [Zd.eq_1],?_,(fun h=>by omega),fun h=>?_⟩⟩,(fun k A=>.inl A),(fun k A ra=>?_),rfl,rfl,rfl⟩⟩
   ·refine⟨_,_,rfl,l,.inr ⟨g,0,d++a,rfl,fun j u D=>?_,(M.append L).mono E,J.append W⟩⟩
    grind [Zd.eq_1]
   ·grind
   ·have nul:n=0->m=0->Ad (cs++G)=true:=fun h h'Z=>by
     have e1:cs=[]:=qz ia;have e2:G=[]:=qz (by rw[hdZ,h'Z];simp);rw[e1,e2];rfl
    grind [zdE,iG]
   ·have:k≠g:=fun e=>ra (by rw[e];rfl)
    exact⟨I k this,if_neg this⟩
  ·refine grow _ c rfl ?_ aa
   refine run_firstCells_some w.drew i.size n _ n c d X fun j u D=>?_
   have h7Z:=(T g 0 c rfl j u D).2;rw[add_eq];exact h7Z
end
def Ni:Ea->Bool
 | .mvA _| .asg (.t _)| .alloc .. | .box .. | .mksl .. | .b2s _| .load .. | .loadA _| .loadM _| .store .. | .append .. | .appendS .. | .call .. | .callv ..=>false
 |_=>true
theorem co{cf}{st}{dst}{c}(h:Ni c=true):na cf st dst c=(eb c (·.ev st.sl)).map (st.Uc dst):=by
 cases c
 case asg x=>
  cases x with
  |t i=>cases h
  |c v=>rfl
 all_goals first|rfl|(cases h;done)
section
variable {P:Program} {w w':World} {r:Option Nat} {Fr Fr':Nat→Nat} {β β':List Nat} {T:List Deferred} {base nt:Nat} {M:Nat→Prop} {w0:World} {F0:Nat→Nat} {st st':St} {a a':Act} {cf:Callee}
def xR(R:Rel P T base M w0 F0 nt st a w Fr β){s}{L}(h:origin st s=some L):Ga a w β L=some (a.tmps.getD s undef):=by
 unfold origin at h;split at h
 ·cases h;rfl
 ·obtain⟨p,b,rfl⟩:=qm h
  have c:=List.mem_of_find?_eq_some b;have d:=List.find?_some b;have e:p.1=s:=by simpa using d
  rw[<-e];exact R.al p c
def Rl.of{S}{st'}{a'}{w w'}{Fr Fr'}{β β'}(R:Rel P S.T S.base S.M S.w0 S.F0 S.nt st' a' w' Fr' β')(b:Le S.sw S.sF S.sβ w Fr β)(a:Le w Fr β w' Fr' β'):Rl P S st' a' w':=⟨Fr',β',R,b.trans a⟩
def fw(r:Option Nat):Fence:={Fence.wide with round:=r}
def py{r}{n}{f}{args}{w}{R}:CallsIn (fw r) n P f args w R ↔ Calls P f args w R:=callsIn_wide (n:=n)
theorem Tx{o}{c}(h:o.op=.defer c){n}(b:(execOp a.eval o).run P w=.ok n w'):∃d,n=.defer d:=by
 unfold execOp at b;rw[h]at b;simp only[Qb]at b;cases hr:(resolve a.eval c o.type).run P w with
 |ok d e=>rw[hr]at b;cases b;simp
 |halt x e=>simp_all
def nh{r}{o}{K}{Q}{v}(hr:(execOp a.eval o).run P w=.ok (.value v) w')(h:K (a.put o.dst v) w'):o.wpIn (fw r) 0 P a w K Q:=by
 refine⟨fun _ _=>trivial,?_⟩;rw[Oper.semAt_eq _ _ _ fun c b=>by grind [Tx]];rw[hr];exact h
def upon_skip{r}{o}{K}{Q}(hr:(execOp a.eval o).run P w=.ok .skip w')(h:K (a.put o.dst undef) w'):o.wpIn (fw r) 0 P a w K Q:=by
 refine⟨fun _ _=>trivial,?_⟩;rw[Oper.semAt_eq _ _ _ fun c b=>by grind [Tx]];rw[hr];exact h
def Gx{x}{s}(h:zb x=some (.t s)):x=.tmp s:=by
 cases x<;>grind [zb]
def zC{op}{c}(a:mg P op=some c):(∃x,op=.move x)\/(∃x,op=.assign x)\/Ni c=true:=by
 cases op with
 |move x=>simp
 |assign x=>simp
 |pick x y z=>
  obtain⟨_,_,a⟩:=qb a;obtain⟨_,_,a⟩:=qb a;obtain⟨_,_,rfl⟩:=qm a;exact .inr (.inr rfl)
 |binOp op t x y d=>
  obtain⟨_,_,a⟩:=qb a;obtain⟨_,_,a⟩:=qb a;split at a
  ·cases a;exact .inr (.inr rfl)
  ·cases a;exact .inr (.inr rfl)
  ·split at a
   ·cases a;exact .inr (.inr rfl)
   ·cases a;exact .inr (.inr rfl)
   grind
  ·split at a
   case isFalse=>cases a
   split at a
   ·obtain⟨_,_,rfl⟩:=qm a;exact .inr (.inr rfl)
   ·obtain⟨_,_,rfl⟩:=qm a;exact .inr (.inr rfl)
   grind
  grind
 |nilCheck x=>obtain⟨_,_,rfl⟩:=qm a;exact .inr (.inr rfl)
 |unOp op t x=>obtain⟨_,_,rfl⟩:=qm a;exact .inr (.inr rfl)
 |convert d dst x=>
  obtain⟨_,_,a⟩:=qb a;split at a
  ·cases a;exact .inr (.inr rfl)
  ·cases a;exact .inr (.inr rfl)
  grind
 |build t ps=>
  obtain⟨_,_,a⟩:=qb a;obtain⟨_,_,rfl⟩:=qm a;exact .inr (.inr rfl)
 |fieldAddr s x f=>
  obtain⟨_,_,a⟩:=qb a;obtain⟨_,_,a⟩:=qb a;obtain⟨_,_,a⟩:=qb a;split at a
  ·cases a
  ·obtain⟨_,_,rfl⟩:=qm a;exact .inr (.inr rfl)
 |field s x f=>
  obtain⟨_,_,a⟩:=qb a;obtain⟨_,_,a⟩:=qb a;obtain⟨_,_,a⟩:=qb a;obtain⟨_,_,a⟩:=qb a;obtain⟨_,_,rfl⟩:=qm a;exact .inr (.inr rfl)
 |indexAddr t x i=>
  simp only[mg]at a;split at a
  ·obtain⟨_,_,a⟩:=qb a
   obtain⟨_,_,a⟩:=qb a;obtain⟨_,_,rfl⟩:=qm a;exact .inr (.inr rfl)
  ·obtain⟨_,_,a⟩:=qb a
   obtain⟨_,_,a⟩:=qb a;obtain⟨_,_,rfl⟩:=qm a;exact .inr (.inr rfl)
  grind
 |index t x i=>
  simp only[mg]at a;split at a
  ·obtain⟨_,_,a⟩:=qb a
   obtain⟨_,_,rfl⟩:=qm a;exact .inr (.inr rfl)
  ·obtain⟨_,_,a⟩:=qb a
   obtain⟨_,_,a⟩:=qb a;obtain⟨_,_,a⟩:=qb a;obtain⟨_,_,rfl⟩:=qm a;exact .inr (.inr rfl)
  grind
 |slice t x g e d=>
  cases d with
  |some _=>cases a
  |none=>
   simp only[mg]at a;split at a
   ·obtain⟨_,_,a⟩:=qb a
    obtain⟨_,_,a⟩:=qb a;obtain⟨_,_,rfl⟩:=qm a;exact .inr (.inr rfl)
   ·obtain⟨_,_,a⟩:=qb a
    obtain⟨_,_,a⟩:=qb a;obtain⟨_,_,a⟩:=qb a;obtain⟨_,_,rfl⟩:=qm a;exact .inr (.inr rfl)
   ·obtain⟨_,_,a⟩:=qb a
    obtain⟨_,_,a⟩:=qb a;obtain⟨_,_,a⟩:=qb a;obtain⟨_,_,rfl⟩:=qm a;exact .inr (.inr rfl)
   grind
 |extract x i=>obtain⟨_,_,rfl⟩:=qm a;exact .inr (.inr rfl)
 |makeFunc fn first Oa=>
  cases fn with
  |func f=>
   simp only[mg]at a;split at a
   ·obtain⟨_,_,rfl⟩:=qm a;exact .inr (.inr rfl)
   grind
  |_=>cases a
 |call cl=>
  obtain⟨callee,args,d⟩:=cl;cases callee with
  |value f=>cases a
  |invoke r m=>cases a
  |builtin b=>
   cases b with
   |len=>
    simp only[mg]at a;split at a
    ·split at a
     ·obtain⟨_,_,rfl⟩:=qm a;exact .inr (.inr rfl)
     ·obtain⟨_,_,rfl⟩:=qm a;exact .inr (.inr rfl)
     grind
    grind
   |max=>
    simp only[mg]at a;split at a
    ·obtain⟨_,_,a⟩:=qb a
     obtain⟨_,_,rfl⟩:=qm a;exact .inr (.inr rfl)
    grind
   |min=>
    simp only[mg]at a;split at a
    ·obtain⟨_,_,a⟩:=qb a
     obtain⟨_,_,rfl⟩:=qm a;exact .inr (.inr rfl)
    grind
   |_=>cases a
 |_=>cases a
theorem bT{S}{o:Oper}{c}(j:mg P o.op=some c)(hs:na cf st o.dst c=some st')(u:∀d,o.dst=some d->d<S.nt)(hr:Rl P S st a w){K}{Q}
 (n:∀a' w',Rl P S st' a' w'->K a' w'):o.wpIn (fw r) 0 P a w K Q:=by
 obtain⟨Fr,β,R,k⟩:=hr;have z:Ni c=true->o.wpIn (fw r) 0 P a w K Q:=fun h=>by
  rw[co h]at hs;obtain⟨p,g,rfl⟩:=qm hs;obtain⟨v,i,y⟩:=zas j R.sl g;refine nh i (n _ _ ?_);cases b:o.dst with
  |none=>exact⟨Fr,β,R,k⟩
  |some d=>exact⟨Fr,β,R.put (u d b) y,k⟩
 have asg:∀x:Operand,∀s,o.op=.assign x->zb x=some (.t s)->c=.asg (.t s)->o.wpIn (fw r) 0 P a w K Q:=fun x s A e q=>by
  subst q;simp only[na]at hs;cases b:o.dst with
  |none=>grind
  |some d=>
   rw[b]at hs;simp only at hs;split at hs
   ·cases hs
   ·rename_i y
    have i:(execOp a.eval o).run P w=.ok (.value (a.tmps.getD s undef)) w:=by
     unfold execOp;rw[A,Gx e];rfl
    refine nh i ?_;rw[b];split at hs
    ·rename_i g
     cases hs;exact n _ _ ⟨Fr,β,R.move (u d b) y g,k⟩
    ·cases hs
     exact n _ _ ⟨Fr,β,R.put (u d b) (R.sl s),k⟩
 obtain⟨dst,op,ty,B,l,guard⟩:=o;cases h:Ni c with
 |true=>grind
 |false=>
  cases op
  case move x=>
   obtain⟨y,g,rfl⟩:=qm j;cases h
  case assign x=>
   obtain⟨y,g,rfl⟩:=qm j;cases y with
   |t s=>grind
   |c v=>cases h
  all_goals
   rcases zC j with⟨x,e⟩|⟨x,e⟩|e
   ·cases e
   ·cases e
   ·rw[h]at e;cases e
end
section
variable {P:Program} {w w':World} {r:Option Nat} {Fr Fr':Nat→Nat} {β β':List Nat} {T:List Deferred} {base nt:Nat} {M:Nat→Prop} {w0:World} {F0:Nat→Nat} {st st':St} {a a':Act} {cf:Callee}
theorem nS{f}{g}:∀l:List Nat,(∀i∈l,Rd w Fr β (f i) (g i))->sa w Fr β (l.map f) (l.map g)
 |[],_=>by rfl
 |i::l,h=>by
  exact⟨_,_,rfl,h i da,nS l fun j a=>h j (by simp[a])⟩
theorem aA{t}{g}{n b o}{vs:List Value}(a:Ae P t=some g)(d:ug P t=some n)(c:vs.length=n)(i:∀j v,vs[j]?=some v->w.cell? ⟨b,o+j,none⟩=some v)(e:g=true\/n=1):
 (loadVar t ⟨b,o,none⟩).run P w=.ok (if g then .agg vs.toArray else vs.getD 0 undef) w:=by
 simp only[loadVar,Qb,qH a,Tb];cases g with
 |true=>
  have:=run_loadCells_list (P:=P) w ⟨b,o,none⟩ vs fun j v h=>by grind [add_eq]
  rw[c]at this;simp only[if_true,Qb,run_sizeOf d,Tb,this];rfl
 |false=>
  grind [run_load]
theorem UN:∀{qs}{cs a},ki cs qs=some a->a.length=cs.length
 |[],cs,a,h=>by grind [ki]
 |(o,n,p)::r,cs,a,h=>by
  unfold ki at h;split at h
  ·rw[UN h];grind
  grind
def pD{n}{ps}{vs}(h:sa w Fr β ps vs)(d:n=1){p}(c:ps[0]?=some p):∃v,vs.take n=[v]/\Rd w Fr β p v:=by
 obtain⟨v,a,b⟩:=h.get 0 p c;refine⟨v,?_,b⟩
 match vs,a with
 |u::r,a=>grind
def Rel.eH(R:Rel P T base M w0 F0 nt st a w Fr β){L}{v}{p}(c:Ga a w β L=some v)(d:ab st L=some p):Rd w Fr β p v:=by
 cases L with
 |slot i=>
  simp only[Ga,ab,Xb]at c d;rw[<-c,<-d];exact R.sl i
 |cell b j=>
  obtain⟨g,g1,t⟩:=qb c;obtain⟨cs,c1,c2⟩:=qb d;obtain⟨z,l,y,h⟩:=R.bx.2 b cs c1;rw[g1]at l;cases l;rcases h with⟨vs,e,n,q,x,_⟩|⟨f,k,s,live,o,_,r,n,_⟩
  rotate_left
  ·grind [World.cell?]
  obtain⟨u,A,B⟩:=q.get j p c2;rw[cell_of_row _ _ _ _ _ _ n]at t
  grind
def Rel.appended(R:Rel P T base M w0 F0 nt st a w Fr β){d}(E:d<nt){L}(j:L∈st.ow){v t}(B:Ga a w β L=some v){p}(A:UA P w Fr β v p t w' Fr'):
 Rel P T base M w0 F0 nt {st with sl:=(d,p)::st.sl,ow:=.slot d::Ta d (st.ow.filter (·≠L)),al:=Jb d (st.al.filter fun p=>p.2≠L)} (a.put (some d) t) w' Fr' β:=by
 have k:d<a.tmps.size:=by rw[R.nt];exact E
 have r:=R.lt;have ra:∀g∈β,v.ownBlock≠some g:=fun g c e=>R.out L j v g B e c
 have o:∀K,Ga a w' β K=Ga a w β K:=fun K=>VH fun g c=>(A.old g (r g c) (ra g c)).1
 have D:∀K∈st.ow,K≠L->∀u,Ga a w β K=some u->∀g,u.ownBlock=some g->v.ownBlock≠some g:=fun K i y u O g c e=>R.sep K i L j y u v g O B c e
 have l:∀K,K∈Ta d (st.ow.filter (·≠L))->K∈st.ow/\K≠L/\Xd d K=false:=fun K i=>by
  grind [ml]
 refine R.next A.le (mA R A.le E A.rd) (by grind [size_put,nt]) (gm _ _ _) (R.bx.kept A.le fun g c=>A.old g (r g c) (ra g c)) R.nd (fun g h=>.inl h) (fun K=>if K=.slot d then(if t.ownBlock=v.ownBlock then some L else none)else some K) (fun K i=>?_) (fun K i K' x n U h H=>?_) (fun K i K' x n h H=>?_) (fun q N=>?_) (fun b J _ z=>?_) A.os A.tape A.output
 ·rcases Wb.1 i with rfl|i
  ·refine⟨t,p,?_,?_,A.own,fun g c=>?_⟩
   ·grind [Ga,ck]
   ·grind [ab,oe]
   ·rcases A.hC g c with h|h<;>grind
  ·obtain⟨C,Q,S⟩:=l K i
   obtain⟨u,q,F,I,G⟩:=R.own K C;exact⟨u,q,by grind [Dl],(Qz S).trans I,G.kept fun g c=>A.old g (G.lt c) (D K C Q u F g c),fun g c=>.inr ⟨K,C,by grind [Bv],u,F,c⟩⟩
 ·grind
 ·grind
 ·obtain⟨C,F,G⟩:=Pq.1 N
  have I:q∈st.al:=(Hc.1 C).1;rw[Dl k G,o,ck a d _ _ k,if_neg (fun e=>F e.symm)];exact R.al q I
 ·exact A.old b J (z L j v B)
theorem J6{S}{o:Oper}{c}(D:mq P o.op=some c)(hs:na cf st o.dst c=some st')(hdZ:∀d,o.dst=some d->d<S.nt)(hr:Rl P S st a w){K}{Q}
 (T:∀a' w',Rl P S st' a' w'->K a' w'):o.wpIn (fw r) 0 P a w K Q:=by
 obtain⟨Fr,β,R,Y⟩:=hr;obtain⟨dst,op,ty,N,F,guard⟩:=o;have val:∀{s:Sem Value}{v:Value}{w':World},s.run P w=.ok v w'->(do pure (Next.value (<-s)):Sem Next).run P w=.ok (.value v) w':=fun h=>by
  simp_all
 dsimp only at D hs hdZ;cases op with
 |alloc elem=>
  obtain⟨zs,hzZ,rfl⟩:=qm D;obtain⟨d,rfl,rfl⟩:=qm hs;obtain⟨z,z1Z,z2Z,z3⟩:=yI (w:=w) (Fr:=Fr) (β:=β) hzZ;have u:(execOp a.eval ⟨some d,.alloc elem,ty,N,F,guard⟩).run P w=.ok (.value (.pointer (some ⟨w.heap.size,0,none⟩))) (w.alloc (.cells z.cells elem)):=by
   refine val ?_;simp only[Instr.alloc,Qb,z1Z,Tb];rfl
  obtain⟨R'Z,J⟩:=R.PQ (hdZ d rfl) (e:=elem) z2Z z3;have R2Z:=R'Z.nI (b:=st.bx.length) (e:=elem) (pre:=[]) (mid:=zs) (post:=[]) da;refine nh u (T _ _ (Rl.of (S:=S) ?_ Y J));simpa[St.put]using R2Z
 |box elem x=>
  obtain⟨n,hnZ,D⟩:=qb D;obtain⟨y,hyZ,rfl⟩:=qm D;simp only[na]at hs;obtain⟨d,rfl,hs⟩:=qb hs;split at hs
  ·rename_i B
   cases hs;obtain⟨c1,c2⟩:=rC (Ub R.sl hyZ) B.1;have u:(execOp a.eval ⟨some d,.box elem x,ty,N,F,guard⟩).run P w=.ok (.value (.pointer (some ⟨w.heap.size,0,none⟩))) (w.alloc (.cells (a.eval x).cells elem)):=val rfl;obtain⟨R'Z,J⟩:=R.PQ (hdZ d rfl) (e:=elem) c1 c2;have R2Z:=R'Z.nI (b:=st.bx.length) (e:=elem) (pre:=[]) (mid:=(y.ev st.sl).cells) (post:=[]) da;refine nh u (T _ _ (Rl.of (S:=S) ?_ Y J));simpa[St.put]using R2Z
  grind
 |buildSlice t len ps=>
  simp only[mq]at D;split at D
  ·rename_i e heZ
   obtain⟨n,hnZ,D⟩:=qb D;split at D
   ·rename_i hbZ
    obtain⟨zs,hzZ,D⟩:=qb D;split at D
    ·rename_i hzl
     obtain⟨qs,hqZ,rfl⟩:=qm D;obtain⟨d,G,U⟩:=qb hs;subst G;obtain⟨cs,hfZ,hs⟩:=qb U;split at hs
     case isFalse=>cases hs
     rename_i hby;cases hs;obtain⟨z,z1Z,z2Z,z3⟩:=yI (w:=w) (Fr:=Fr) (β:=β) hzZ;have W:z.cells.size=n:=by rw[<-hzl,<-z2Z.length];simp
     obtain⟨Z,hZZ⟩:∃Z:Array Value,(Array.range (len* n)).map (fun i=>z.cells[i % z.cells.size]!)=Z:=⟨_,rfl⟩;have hZr:sa w Fr β ((List.range (len* n)).map fun i=>zs.getD (i % n) .hd) Z.toList:=by
      rw[<-hZZ,Array.toList_map,Array.toList_range];refine nS _ fun i _=>?_
      have ea:i % n<zs.length:=by rw[hzl];exact Nat.mod_lt _ hbZ.1
      obtain⟨v,k1Z,k2Z⟩:=z2Z.get (i % n) _ (qe ea);have e1:zs.getD (i % n) .hd=zs[i % n]:=by rw[FA,qe ea];rfl
      have e2:z.cells[i % z.cells.size]! =v:=by
       rw[W];have:z.cells[i % n]?=some v:=by rw[<-IA];exact k1Z
       rw[getElem!_def,this]
      rw[e1,e2];exact k2Z
     have hZo:Oc Z.toList:=fun v hvZ=>by
      rw[<-hZZ,Array.toList_map]at hvZ;obtain⟨i,_,rfl⟩:=Ik.1 hvZ;have ea:i % n<z.cells.size:=by rw[W];exact Nat.mod_lt _ hbZ.1
      refine z3 _ ?_
      grind
     obtain⟨C,f1Z,f2Z,f3Z⟩:=iD _ _ _ _ _ (wC R.sl hqZ) hZr hZo hfZ;have u:(execOp a.eval ⟨some d,.buildSlice t len ps,ty,N,F,guard⟩).run P w=.ok (.value (.slice (some ⟨w.heap.size,0,none⟩) len len)) (w.alloc (.cells C e)):=by
      refine val ?_;have hpl:(ps.map fun(i,x)=>(i,a.eval x)).toList=ps.toList.map fun q=>(q.1,a.eval q.2):=da
      simp only[Instr.buildSlice,Qb,run_underlying heZ,Tb,run_sizeOf hnZ];rw[if_neg aa];by_cases h0Z:len* n=0
      ·rw[if_pos h0Z]
       have e1:(Array.range (len* n)).map (fun i=>(#[]:Array Value)[i % (#[]:Array Value).size]!)=Z:=by rw[<-hZZ,h0Z];simp
       simp only[Qb,Bh,Tb,e1,hpl,f1Z];rfl
      ·rw[if_neg h0Z]
       simp only[Qb,Bh,z1Z,Tb,hZZ,hpl,f1Z];rfl
     have hCl:C.toList.length=len* n:=by rw[f2Z.length,UN hfZ];simp
     have I:Below w.heap.size w (w.alloc (.cells C e)):=ru w _;have hrow:=I_ w C.toList e β Fr;have hle:Le w Fr β (w.alloc (.cells C e)) (Zd Fr w.heap.size C.toList.length) β:=⟨I.size,fun b h=>by grind [Bp],fun b o h _=>I.cell (p:=⟨b,o,none⟩) h,fun _ _ h=>h,fun g r h=>⟨r,(I.block g (xg.1 h).1).trans h⟩⟩;have hrd:Rd (w.alloc (.cells C e)) (Zd Fr w.heap.size C.toList.length) β (.ha len (ae cs)) (.slice (some ⟨w.heap.size,0,none⟩) len len):=by
      simp only[Rd];exact⟨_,_,rfl,la _,.inr ⟨w.heap.size,0,C.toList,rfl,hrow,sa.Hb _ _ (f2Z.mono hle),f3Z⟩⟩
     have hcl:cs.length=len* n:=by rw[<-f2Z.length,hCl]
     have hmx:len<=maxLen:=by
      have V:len* 1<=len* n:=Jt (la _) hbZ.1;unfold maxLen;omega
     have how:Sf P (w.alloc (.cells C e)) (Zd Fr w.heap.size C.toList.length) (.ha len (ae cs)) (.slice (some ⟨w.heap.size,0,none⟩) len len):=
      ⟨len,ae cs,rfl,.inr ⟨w.heap.size,len,C,e,n,rfl,heap_alloc_new w _,la _,hmx,aa,by grind [Zd.eq_1,mI],by grind [mI],fun h=>h,fun h=>hby.elim (fun V=>.inr ia) fun V=>.inl (V.resolve_left fun V=>V h)⟩⟩
     exact nh u (T _ _ (Rl.of (S:=S) (R.yc I (fun g hgZ=>Bp hgZ) (hdZ d rfl) hrd how (fun g hgZ=>by cases hgZ<;>grind)) Y hle))
    grind
   grind
  grind
 |load t x=>
  obtain⟨g,hgZ,D⟩:=qb D;obtain⟨n,hnZ,D⟩:=qb D;split at D
  ·rename_i h1Z
   obtain⟨y,hyZ,rfl⟩:=qm D;have H:=Ub R.sl hyZ;obtain⟨d,G,U⟩:=qb hs;clear hs;subst G;obtain⟨q,hs,rfl⟩:=qm U;unfold sm at hs
   have O:∀b o(vs:List Value),a.eval x=.pointer (some ⟨b,o,none⟩)->vs.length=n->(∀j v,vs[j]?=some v->w.cell? ⟨b,o+j,none⟩=some v)->
    (execOp a.eval ⟨some d,.load t x,ty,N,F,guard⟩).run P w=.ok (.value (if g then .agg vs.toArray else vs.getD 0 undef)) w:=fun b o vs e l h=>by
    refine val ?_
    grind [Instr.loadAt,Instr.sureAddr,aA]
   split at hs
   ·rename_i cs e1
    rw[e1]at H;obtain⟨b,o,vs,H,r1,r2Z,r3Z⟩:=H;split at hs
    ·have hvl:=r2Z.length
     have u:=O b o (vs.take n) H ia (fun j v hjZ=>(r1.take n j v hjZ).2);refine nh u ?_;cases g with
     |true=>
      cases hs;exact T _ _ ⟨Fr,β,R.put (hdZ d rfl) (by exact⟨_,rfl,r2Z.take n,r3Z.take n⟩),Y⟩
     |false=>
      have hn1:n=1:=h1Z.resolve_left da;obtain⟨v,k1Z,k2Z⟩:=pD r2Z hn1 hs;exact T _ _ ⟨Fr,β,R.put (hdZ d rfl) ia,Y⟩
    grind
   ·rename_i b o e1
    rw[e1]at H;obtain⟨gbZ,hgb,H⟩:=H;obtain⟨cs,M,U⟩:=qb hs;have hs:=U;split at hs
    ·obtain⟨M,_,g'Z,vs,e,b1Z,b2Z,b3Z,b4Z,b5Z,_⟩:=R.bx.cells M
     rw[hgb]at b1Z;cases b1Z;have hvl:=b3Z.length;have I:∀j v,((vs.drop o).take n)[j]?=some v->w.cell? ⟨gbZ,o+j,none⟩=some v:=fun j v hjZ=>by
      rw[List.getElem?_take]at hjZ;split at hjZ
      ·rw[cell_of_row _ _ _ _ _ _ b2Z];grind
      grind
     have u:=O gbZ o ((vs.drop o).take n) H (by rw[Ac,Ya];omega) I;refine nh u ?_;cases g with
     |true=>
      cases hs;exact T _ _ ⟨Fr,β,R.put (hdZ d rfl) (by exact⟨_,rfl,(b3Z.drop o).take n,(b4Z.drop o).take n⟩),Y⟩
     |false=>
      have hn1:n=1:=h1Z.resolve_left da;obtain⟨v,k1Z,k2Z⟩:=pD (b3Z.drop o) hn1 (p:=q) ia;exact T _ _ ⟨Fr,β,R.put (hdZ d rfl) ia,Y⟩
    grind
   grind
  grind
 |convert src I x=>
  obtain⟨y,hyZ,D⟩:=qb D;have h1Z:=Ub R.sl hyZ;split at D
  ·rename_i e E G
   split at D
   ·rename_i heZ
    cases D;obtain⟨p,hpZ,rfl⟩:=qm hs;have fin:∀v,(convert src I (a.eval x)).run P w=.ok v w->Rd w Fr β p v->Oper.wpIn (fw r) 0 P ⟨dst,.convert src I x,ty,N,F,guard⟩ a w K Q:=fun v h2Z h3Z=>by
     refine nh (v:=v) (w':=w) ?_ ?_
     ·show(do pure (Next.value (<-convert src I (a.eval x))):Sem Next).run P w=_
      grind
     ·cases dst with
      |none=>exact T _ _ ⟨Fr,β,R,Y⟩
      |some d=>exact T _ _ ⟨Fr,β,R.put (hdZ d rfl) h3Z,Y⟩
    have fin2:∀(l:List UInt8)(a0:Addr)(V:Nat),a.eval x=.slice (some a0) l.length V->p=.flat (.string ⟨l.toArray⟩)->(∀j(hjZ:j<l.length),w.cell? (a0.add j)=some (.int .u8 (l[j].toNat:Int)))->Oper.wpIn (fw r) 0 P ⟨dst,.convert src I x,ty,N,F,guard⟩ a w K Q:=fun l a0 V h2Z h3Z h4Z=>by
     refine fin (.string ⟨l.toArray⟩) ?_ (by rw[h3Z];exact If rfl)
     grind [run_convert_bytes_back]
    unfold Vl at hpZ;split at hpZ
    ·rename_i e1
     cases hpZ;rw[e1]at h1Z;obtain⟨h1Z,_⟩:=zc h1Z;exact fin _ (by rw[h1Z];exact run_convert_bytes_nil (w:=w) src e E heZ 0 0 I G) (If rfl)
    ·rename_i n cs e1
     split at hpZ
     ·rename_i hnZ
      obtain⟨l,J,rfl⟩:=qm hpZ;rw[e1]at h1Z;obtain⟨b,V,H,_,hvZ⟩:=h1Z;rcases hvZ with⟨h0Z,h00⟩|⟨g,o,vs,rfl,r1,r2Z,r3Z⟩
      ·subst h0Z;subst h00
       simp only[bytesOf,Xb]at J;subst J;cases b with
       |none=>exact fin _ (by rw[H];exact run_convert_bytes_nil (w:=w) src e E heZ 0 V I G) (If rfl)
       |some b=>grind
      ·have hbZ:=wx J r2Z
       have hln:l.length=n:=by rw[<-hnZ,<-r2Z.length,hbZ,Hj]
       subst hln;refine fin2 l ⟨g,o,none⟩ V H rfl fun j hjZ=>?_
       have:=(r1 j (.int .u8 l[j].toNat) ia).2;rw[add_eq];omega
     grind
    ·rename_i b o n e1
     obtain⟨cs,M,hpZ⟩:=qb hpZ;split at hpZ
     ·obtain⟨l,J,rfl⟩:=qm hpZ
      rw[e1]at h1Z;obtain⟨g,a0,V,hgZ,H,_,hvZ⟩:=h1Z;obtain⟨M,_,g'Z,vs,e0Z,b1Z,b2Z,b3Z,b4Z,b5Z,_⟩:=R.bx.cells M;rw[hgZ]at b1Z;cases b1Z;have hvl:=b3Z.length;have hbZ:=wx J ((b3Z.drop o).take n);have hln:l.length=n:=by
       have:=congrArg List.length hbZ;rw[Hj,Ac,Ya]at this;omega
      subst hln;rcases hvZ with h0Z|rfl
      ·have hl0:l=[]:=qz h0Z
       subst hl0;cases a0 with
       |none=>exact fin _ (by rw[H];exact run_convert_bytes_nil (w:=w) src e E heZ 0 V I G) (If rfl)
       |some a0=>grind
      ·refine fin2 l ⟨g,o,none⟩ V H rfl fun j hjZ=>?_
       rw[add_eq,cell_of_row _ _ _ _ _ _ b2Z];have h8Z:((vs.drop o).take l.length)[j]?=some (.int .u8 l[j].toNat):=by rw[hbZ,Bw,qe hjZ];rfl
       grind
     grind
    grind
   grind
  grind
 |store t x y=>
  obtain⟨n,hnZ,D⟩:=qb D;obtain⟨x'Z,hx',D⟩:=qb D;obtain⟨y'Z,hy',D⟩:=qb D;split at D
  case isFalse=>cases D
  rename_i hn1;cases D;have H:=Ub R.sl hx';have hyZ:=Ub R.sl hy';simp only[na]at hs;split at hs
  ·rename_i b o e1
   obtain⟨cs,M,hs⟩:=qb hs;split at hs
   ·rename_i B
    obtain⟨hgood,hcl,hle⟩:=B;rw[e1]at H;obtain⟨gbZ,hgb,H⟩:=H;obtain⟨e0Z,cs⟩:=cs;obtain⟨M,_,g'Z,vs,e,b1Z,b2Z,b3Z,b4Z,b5Z,e00⟩:=R.bx.cells M;rw[hgb]at b1Z;cases b1Z;dsimp only at e00 b3Z hle;subst e00;obtain⟨c1,c2⟩:=rC hyZ hgood;have hul:(a.eval y).cells.toList.length=n:=by rw[c1.length,hcl]
    have hvl:=b3Z.length;have u:(execOp a.eval ⟨none,.store t x y,ty,N,F,guard⟩).run P w=.ok .skip (w.setRow gbZ (vs.take o++(a.eval y).cells.toList++vs.drop (o+n)).toArray):=by
     have hst:=run_storeCells_at P gbZ o e0Z (a.eval y).cells.toList 0 vs.toArray w b2Z ia c2;rw[Cj,hul]at hst;have hzZ:¬((a.eval y).cells.size≠n):=by rw[<-Cw,hul];simp
     show(do (do storeVar t (<-Instr.sureAddr (a.eval x)) (a.eval y));pure Next.skip:Sem Next).run P w=_;simp only[Qb,H,Instr.sureAddr,Bh,Tb,storeVar,run_sizeOf hnZ];rw[if_neg hzZ];simp only[hst,Tb]
    have fin:∀(K':Option Nat)(I:St),(∀s,K'=some s->∃v p,(a.eval y).cells.toList=[v]/\(y'Z.ev st.sl).cells=[p]/\(Loc.slot s∈st.ow/\a.tmps.getD s undef=v/\look st.sl s=p))->
     I.sl=st.sl->I.bx=st.bx.set b (e0Z,cs.take o++(y'Z.ev st.sl).cells++cs.drop (o+n))->
     (∀L∈I.ow,(L∈st.ow/\Nd b o n L=false/\∀s,K'=some s->L≠.slot s)\/(L=.cell b o/\(K'.isSome\/((a.eval y).cells.toList=[.slice none 0 0]/\(y'Z.ev st.sl).cells=[.ha 0 []]))))->
     (∀q∈I.al,q∈st.al/\Nd b o n q.2=false)->
     st'={I with bx:=st.bx.set b (e0Z,cs.take o++(y'Z.ev st.sl).cells.map wk++cs.drop (o+n)),ow:=fd b o (y'Z.ev st.sl).cells++I.ow}->Oper.wpIn (fw r) 0 P ⟨none,.store t x y,ty,N,F,guard⟩ a w K Q:=fun K' I k1Z k2Z k3Z k4Z k5Z k6Z=>by
     obtain⟨R'Z,J⟩:=R.store M hgb b2Z b3Z b4Z c1 c2 hul hn1 hle K' k1Z I k2Z k3Z k4Z k5Z;have ea:=(qg M).1;have hto:(cs.take o).length=o:=by rw[Ac];omega
     have R2Z:=R'Z.nI (b:=b) (e:=e0Z) (pre:=cs.take o) (mid:=(y'Z.ev st.sl).cells) (post:=cs.drop (o+n)) (by rw[k3Z,yg ea]);rw[hto,k3Z,jo]at R2Z;rw[k6Z]at T;exact upon_skip u (T _ _ (Rl.of (S:=S) R2Z Y J))
    have V:∀L,L∈st.ow.filter (fun L=>!Nd b o n L)->L∈st.ow/\Nd b o n L=false:=fun L hLZ=>by simpa using hLZ
    have mema:∀q,q∈st.al.filter (fun p=>!Nd b o n p.2)->q∈st.al/\Nd b o n q.2=false:=fun q hqZ=>by simpa using hqZ
    cases y'Z with
    |t s=>
     dsimp only at hs;split at hs
     ·rename_i hown
      cases hs;obtain⟨v,p,k1Z,k2Z,k3Z⟩:=R.own _ hown;obtain⟨nnZ,ccZ,hpe,hvv⟩:=k3Z;simp only[ab,Xb]at k2Z;simp only[Ga,Xb]at k1Z;have hye:a.eval y=v:=by rw[Gx hy',<-k1Z];rfl
      have hvc:v.cells=#[v]:=by
       rcases hvv with h|⟨_,_,_,_,_,h,_⟩<;>rw[h]<;>rfl
      have hpc:((X.t s).ev st.sl).cells=[p]:=by
       show(look st.sl s).cells=[p];rw[k2Z,hpe];rfl
      have hnil:fd b o ((X.t s).ev st.sl).cells=[]:=by rw[hpc,hpe];rfl
      refine fin (some s) {st with bx:=st.bx.set b (e0Z,cs.take o++((X.t s).ev st.sl).cells++cs.drop (o+n)),ow:=.cell b o::Ta s (st.ow.filter fun L=>!Nd b o n L),al:=Jb s (st.al.filter fun p=>!Nd b o n p.2)} (fun s' e'Z=>?_) rfl rfl (fun L hLZ=>?_) (fun q hqZ=>?_) ?_
      ·grind
      ·grind [ml,Bv]
      ·obtain⟨m1Z,m2Z,m3Z⟩:=Pq.1 hqZ
       exact mema q m1Z
      ·rw[hnil];rfl
     ·cases hs
      exact fin none {st with bx:=st.bx.set b (e0Z,cs.take o++((X.t s).ev st.sl).cells++cs.drop (o+n)),ow:=st.ow.filter fun L=>!Nd b o n L,al:=st.al.filter fun p=>!Nd b o n p.2} (fun _ e=>by cases e) rfl rfl (fun L hLZ=>.inl ⟨(V L hLZ).1,(V L hLZ).2,fun _ e=>by cases e⟩) (fun q hqZ=>mema q hqZ) rfl
    |c pvZ=>
     cases hs;exact fin none {st with bx:=st.bx.set b (e0Z,cs.take o++((X.c pvZ).ev st.sl).cells++cs.drop (o+n)),ow:=st.ow.filter fun L=>!Nd b o n L,al:=st.al.filter fun p=>!Nd b o n p.2} (fun _ e=>by cases e) rfl rfl (fun L hLZ=>.inl ⟨(V L hLZ).1,(V L hLZ).2,fun _ e=>by cases e⟩) (fun q hqZ=>mema q hqZ) rfl
   grind
  grind
 |call cl=>
  obtain⟨callee,args,ats⟩:=cl;cases callee with
  |value f=>cases D
  |invoke r m=>cases D
  |builtin b=>
   cases b with
   |append=>
    simp only[mq]at D;split at D
    ·rename_i x y t t'Z e1 e2
     have eaZ:args=#[x,y]:=by apply Sg;rw[e1]
     have etZ:ats=#[t,t'Z]:=by apply Sg;rw[e2]
     subst eaZ;subst etZ;split at D
     ·rename_i e ht V
      obtain⟨i,hiZ,D⟩:=qb D;split at D
      ·rename_i B
       obtain⟨heU,hsz1,hby,hzz⟩:=B;obtain⟨z,hzZ,W⟩:=qm hzz;obtain⟨x'Z,hx',D⟩:=qb D;obtain⟨y'Z,hy',rfl⟩:=qm D;have H:=Ub R.sl hx';have hyZ:=Ub R.sl hy';have hsr:∀zs:ByteArray,y'Z.ev st.sl=.flat (.string zs)->Src P i.size t'Z (a.eval y) zs.size (byteCells zs) w/\sa w Fr β (Jh zs) (byteCells zs)/\(Jh zs).length=zs.size/\Uf (Jh zs)=true:=fun zs e2=>by
        rw[e2]at hyZ;obtain⟨hyZ,_⟩:=zc hyZ;have I:sa w Fr β (Jh zs) (byteCells zs):=by
         unfold Jh byteCells;generalize zs.data.toList=l
         induction l with
         |nil=>rfl
         |cons c l ihZ=>exact⟨_,_,rfl,If rfl,ihZ⟩
        exact⟨by grind [Src.ofString],I,by grind [sa.length,byteCells_length],by
         unfold Jh;generalize zs.data.toList=l
         induction l with
         |nil=>rfl
         |cons c l ihZ=>simp only[kc,Uf,ihZ];rfl⟩
       have O:∀v v'Z w',a.eval x=v->(Builtin.append_ #[t,t'Z] ty #[v,a.eval y]).run P w=.ok v'Z w'->(execOp a.eval ⟨dst,.call {callee:=.builtin .append,args:=#[x,y],argTypes:=#[t,t'Z]},ty,N,F,guard⟩).run P w=.ok (.value v'Z) w':=fun v v'Z w' hxv u=>by
        show(do let d <-resolve a.eval ⟨.builtin .append,#[x,y],#[t,t'Z]⟩ ty;invoke d.target d.args:Sem Next).run P w=_
        grind [resolve,invoke,builtin]
       simp only[na]at hs;split at hs
       ·rename_i hnx
        rw[bv hnx]at H;obtain⟨H,_⟩:=zc H;split at hs
        ·rename_i zs e2
         split at hs
         ·obtain⟨d,rfl,rfl⟩:=qm hs
          obtain⟨E,I,hbl,huZ⟩:=hsr zs e2;split at T
          ·exact nh (O _ _ _ H (oH t t'Z ty e i ht hiZ (a.eval y) (byteCells zs) ia)) (T _ _ ⟨Fr,β,R.put (hdZ d rfl) (If rfl),Y⟩)
          ·obtain⟨v'Z,w',Fr',u,A⟩:=ax (P:=P) (ty:=ty) ht hiZ hzZ W aa hby (hG (w:=w) (Fr:=Fr) (β:=β)) uz E I E.one da ia (.inl ⟨heU,rfl⟩) aa
           rw[sc,Gb]at A;exact nh (O _ _ _ H u) (T _ _ (Rl.of (S:=S) (R.yc ⟨A.os,A.tape,A.output,A.le.size,fun k V=>(A.old k V (by simp[Value.ownBlock])).1⟩ (fun k V=>(A.old k V (by simp[Value.ownBlock])).2) (hdZ d rfl) A.rd A.own (fun k V=>(A.hC k V).resolve_left (by simp[Value.ownBlock]))) Y A.le))
         grind
        grind
       ·cases x'Z with
        |c pvZ=>cases hs
        |t s=>
         obtain⟨L,e3,U⟩:=qb hs;obtain⟨d,G,hs3⟩:=qb U;subst G;split at hs3
         ·rename_i n cs zs e1 e2
          split at hs3
          ·rename_i B
           obtain⟨hbZ,hcl,hin,hu8⟩:=B;obtain⟨v,p,k1Z,k2Z,how⟩:=R.own L hin;rw[e1]at k2Z;cases k2Z;have hxv:a.eval x=v:=by
            have:=xR R e3;rw[k1Z]at this;rw[Gx hx'];exact(ko this).symm
           have hrx:=R.eH k1Z e1;obtain⟨E,I,hbl,huZ⟩:=hsr zs e2;obtain⟨v'Z,w',Fr',u,A⟩:=ax (ty:=ty) ht hiZ hzZ W aa hby hrx how E I E.one ia ia (.inl ⟨heU,hu8⟩) hbZ;cases hs3;exact nh (O _ _ _ hxv u) (T _ _ (Rl.of (S:=S) (R.appended (hdZ d rfl) hin k1Z A) Y A.le))
          grind
         grind
      grind
     ·rename_i e e'Z ht V
      obtain⟨i,hiZ,D⟩:=qb D;split at D
      ·rename_i B
       obtain⟨hsz,hby,hzz⟩:=B;obtain⟨z,hzZ,W⟩:=qm hzz;obtain⟨x'Z,hx',D⟩:=qb D;obtain⟨y'Z,hy',rfl⟩:=qm D;have H:=Ub R.sl hx';have hyZ:=Rd.Hb _ _ (Ub R.sl hy');have O:∀v v'Z w',a.eval x=v->(Builtin.append_ #[t,t'Z] ty #[v,a.eval y]).run P w=.ok v'Z w'->(execOp a.eval ⟨dst,.call {callee:=.builtin .append,args:=#[x,y],argTypes:=#[t,t'Z]},ty,N,F,guard⟩).run P w=.ok (.value v'Z) w':=fun v v'Z w' hxv u=>by
        show(do let d <-resolve a.eval ⟨.builtin .append,#[x,y],#[t,t'Z]⟩ ty;invoke d.target d.args:Sem Next).run P w=_
        grind [resolve,invoke,builtin]
       have h8Z:∀cs dsZ,Cl (e==U8 P) i.size cs dsZ=true->(e=U8 P/\Uf cs=true)\/i.size≠1\/(Ad cs=true/\Ad dsZ=true):=fun cs dsZ h=>by
        grind [Cl]
       simp only[na]at hs;split at hs
       ·rename_i hnx
        rw[bv hnx]at H;obtain⟨H,_⟩:=zc H;split at hs
        ·rename_i m dsZ e2
         split at hs
         ·rename_i B
          obtain⟨hbZ,hdl,hty⟩:=B;obtain⟨d,rfl,rfl⟩:=qm hs;rw[e2]at hyZ;obtain⟨news,E,I,hno⟩:=oT V hyZ hdl;split at T
          ·rename_i h0Z
           subst h0Z;exact nh (O _ _ _ H (oH t t'Z ty e i ht hiZ (a.eval y) news E)) (T _ _ ⟨Fr,β,R.put (hdZ d rfl) (If rfl),Y⟩)
          ·obtain⟨v'Z,w',Fr',u,A⟩:=ax (P:=P) (ty:=ty) ht hiZ hzZ W hsz hby (hG (w:=w) (Fr:=Fr) (β:=β)) uz E I hno da hdl (h8Z _ _ hty) aa
           rw[sc,Gb]at A;exact nh (O _ _ _ H u) (T _ _ (Rl.of (S:=S) (R.yc ⟨A.os,A.tape,A.output,A.le.size,fun k V=>(A.old k V (by simp[Value.ownBlock])).1⟩ (fun k V=>(A.old k V (by simp[Value.ownBlock])).2) (hdZ d rfl) A.rd A.own (fun k V=>(A.hC k V).resolve_left (by simp[Value.ownBlock]))) Y A.le))
         grind
        grind
       ·cases x'Z with
        |c pvZ=>cases hs
        |t s=>
         obtain⟨L,e3,U⟩:=qb hs;obtain⟨d,G,hs3⟩:=qb U;subst G;split at hs3
         ·rename_i n cs m dsZ e1 e2
          split at hs3
          ·rename_i B
           obtain⟨hbZ,hcl,hdl,hin,hty⟩:=B;obtain⟨v,p,k1Z,k2Z,how⟩:=R.own L hin;rw[e1]at k2Z;cases k2Z;have hxv:a.eval x=v:=by
            have:=xR R e3;rw[k1Z]at this;rw[Gx hx'];exact(ko this).symm
           have hrx:=R.eH k1Z e1;rw[e2]at hyZ;obtain⟨news,E,I,hno⟩:=oT V hyZ hdl;obtain⟨v'Z,w',Fr',u,A⟩:=ax (ty:=ty) ht hiZ hzZ W hsz hby hrx how E I hno hcl hdl (h8Z _ _ hty) hbZ;cases hs3;exact nh (O _ _ _ hxv u) (T _ _ (Rl.of (S:=S) (R.appended (hdZ d rfl) hin k1Z A) Y A.le))
          grind
         grind
      grind
     grind
    grind
   |_=>cases D
 |_=>cases D
end
end wa

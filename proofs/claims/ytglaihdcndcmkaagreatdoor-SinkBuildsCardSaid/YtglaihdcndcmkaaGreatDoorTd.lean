/- Texts of this proof, merged. -/
import Derived.Test.YtglaihdcndcmkaaGreatDoorTc
import Derived.Test.YtglaihdcndcmkaaGreatDoorRows
import Derived.Shelf.Strings.BuilderK
import Derived.Lib.FrozenHead2
import Derived.Lib.OthersKept
import Derived.Lib.Builder
import Derived.Laws.Externs
set_option linter.all false
open Go ya Go.Proofs Go.RowKit Go.Proofs.YtglaihdcndcmkaaGreatDoor
set_option maxHeartbeats 4000000
namespace ya
attribute [go_sem] zfn zce v7 zet y7 zeL v8 T6 zhL zh5 F6 look_nil
attribute [go_sem] NS v_ hH w_ LS H6 D6 r6 G6 C6 v6 u6
attribute [go_sem] I6 t6 x6 w6 E6 s6 B6 y6 z6 A6 zh7 zh3
attribute [go_sem] zhR zh6 zh2 zhV zhU zh8 zhT zhX zhW zh4 zhS zh1
attribute [go_sem] zhY zhZ zh0 zhN zhI zhK zhE zhM zhJ zhH zhG zhO
attribute [go_sem] zhF zhQ zhP zan zam zaq zap R6 J6 Q6 M6 L6
attribute [go_sem] S6 K6 P6 X6 N6 O6 V6 U6 W6 zas ew zar
attribute [go_sem] CX Qx zX AX zhm zhl zbs zbu kU zbt lU d3
attribute [go_sem] f3 RP M2 N2 L2 w9 lS kZ uy sy zee UI
attribute [go_sem] VA SI ry zhq Zt xl zcQ zcO zcL zcM x9 zhx
attribute [go_sem] uJ Lu Hm xW zhc zhb U1 A_ US kH V1 zaX
attribute [go_sem] Z3 Y3 P3 hQ M3 gQ S3 mQ F8 zeN zeO zek
attribute [go_sem] zem zel zeS C8 R7 zep n7 zeo m7 zex K7 J7
attribute [go_sem] y3 w3 x3 A3 f7 zeQ t8 s8 r8 w8 zeX q9
attribute [go_sem] zew E7 zen OX PX NX g9 ZR zef zeq r7 zer
attribute [go_sem] s7 zeK o8 zeH zc7 vI u_ t_ s_ iD VE zeI
attribute [go_sem] n8 k8 zeJ l8 m8 R2 QP Tj P2 Q2 O2 zeW
attribute [go_sem] f9 c9 e9 d9 zez O7 N7 zeB zeA T7 S7 zeC
attribute [go_sem] Z7 Y7 zeR B8 zeD d8 t7 zeE c8 a8 Q3 R3
attribute [go_sem] zeV Y8 h9 fY gY hY iY zeT b9 Z8 G7 F7
attribute [go_sem] zeU X8 zey L7 zeF i8 g8 h8 zeG f8 zeP q8
attribute [go_sem] zeM p8 zev wX gK zbi X2 Z2 Y2 W2 gv V2
attribute [go_sem] U2 zeh zeg j7 k7 l7 zcS zcR C7 zej zei g7
attribute [go_sem] h7 i7 R8 S8 Q8 Bc T2 S2 ZY u7 aZ B7
attribute [go_sem] A7 w7 zes zeu x7 z7 zdS zdT W7 X7 zba za9
attribute [go_sem] x8 pre_nil zcI E8 H7 zeY zeZ U7 V7 zbY zbZ zbR
attribute [go_sem] zbW zcg zch zbS zcl zbV zbU zb2 zci zcj zcp zb1
attribute [go_sem] zbT zbX zcd zcb zcc zb4 zb5 zb6 zb7 zb8 zck zcn
attribute [go_sem] zcm zco zb3 zb9 zca zcf zb0 zcy D8 N8 K8 zcV
attribute [go_sem] zcU G8 H8 I8 zfa zfp ze6 zft ze8 ze7 zfd zfq
attribute [go_sem] zfr zfx zfc ze9 zfm zff zfg zfh zfi zfj zfs zfv
attribute [go_sem] zfu zfw zfe zfk zfl zfo zfb i9 zf6 zf7 zf8 NI
attribute [go_sem] M8 L8 UY VY XY SY TY Mu Ov V8 W8 HY
attribute [go_sem] D7 FY p7 o7 q7 JY IY WY z8 y8 A8 I7
attribute [go_sem] T8 RY J8 zds YU ZU P8 O8 P7 Q7 e8 zbm
attribute [go_sem] zbl zbo zbn j9 m9 l9 k9 o9 n9 p9 s4 K4
attribute [go_sem] D4 G4 H4 w4 F4 L4 I4 J4 x4 E4 C4 B4
attribute [go_sem] A4 y4 D5 E5 F5 H5 G5 p6 o6 Ia PV.low Eb
attribute [go_sem] PV.sj PV.mi PV.cells Hi Rc nr Option.map_some Option.map_none List.length_cons List.length_nil List.take_succ_cons List.take_zero
attribute [go_sem] List.take_nil List.drop_succ_cons List.drop_zero List.drop_nil List.cons_append List.nil_append List.append_nil List.getElem?_cons_zero List.getElem?_cons_succ List.getElem?_nil List.set_cons_zero List.set_cons_succ
attribute [go_sem] List.zip_cons_cons List.zip_nil_left List.zip_nil_right List.foldl_cons List.foldl_nil if_true if_false decide_true decide_false Bool.and_true Bool.true_and Bool.and_false
attribute [go_sem] Bool.false_and Bool.not_true Bool.not_false Bool.false_eq_true and_true true_and and_self and_false false_and true_or or_true or_false
attribute [go_sem] false_or or_self ne_eq not_false_eq_true not_true_eq_false Nat.le_refl Nat.zero_le Nat.zero_add Nat.add_zero Nat.mul_one ziC bne_iff_ne
attribute [go_sem] Option.some.injEq Int.cast_ofNat_Int
abbrev ba:=List UInt8
def S(l:ba):ByteArray:=⟨l.toArray⟩
def ff{l:ba}:ByteArray.mk (List.toArray l)=S l:=rfl
theorem Ua{l}:(S l).size=l.length:=pa
def kd{l}{i:Nat}:(S l)[i]?=l[i]?:=by
 show(ByteArray.mk l.toArray)[i]?=_;by_cases h:i<l.length
 ·rw[qe h]
  have a:i<(ByteArray.mk l.toArray).size:=by simpa[ByteArray.size]using h
  rw[getElem?_pos (ByteArray.mk l.toArray) i a];rfl
 grind [ByteArray.size]
def Pj{a b}:S a++S b=S (a++b):=fu (by simp[S])
def rh{l}{a b}:(S l).extract a b=S ((l.take b).drop a):=fu (by
 rw[ByteArray.data_extract]
 grind [S])
theorem Fx{a b}:S a=S b ↔ a=b:=⟨fun h=>by grind [S],fun h=>by rw[h]⟩
def Mo{a b}:Mn (S a) (S b)=decide (a=b):=by grind [Mn,Fx]
def nX{a}:ii (S a)=a.map fun b=>.flat (.int .u8 b.toNat):=pa
def Td(a:ba):List PV:=a.map fun b=>.flat (.int .u8 b.toNat)
def XJ{a}:ii (S a)=Td a:=nX
theorem HK{a b}:Td a++Td b=Td (a++b):=by simp[Td]
def XC{a}:(Td a).length=a.length:=by simp[Td]
theorem eL:∀(a),bytesOf (Td a)=some a
 |[]=>rfl
 |b::a=>by
  show bytesOf (.flat (.int .u8 b.toNat)::Td a)=_;have c:=b.toNat_lt;rw[bytesOf,if_pos aa,eL a];simp
theorem YC{n}:∀a,Ia n (Td a)=true
 |[]=>rfl
 |b::a=>by show Ia n (.flat (.int .u8 b.toNat)::Td a)=true;simp[Ia,PV.low,YC a]
def Yh{l:ba}{k}{c}{r:ba}(h:l.drop k=c::r):l[k]?=some c:=by
 have:=congrArg (fun x=>x[0]?) h
 grind
def gg{l:ba}{k}{c}{r:ba}(h:l.drop k=c::r):l.length=k+1+r.length:=by
 have:=congrArg List.length h
 grind
def Pm{l:ba}{k}{c}{r:ba}(h:l.drop k=c::r):l.drop (k+1)=r:=by
 have:=congrArg (List.drop 1) h;simpa[Vr]using this
def hh{st}{d}{c}:tz st d (some c)=some (st.put d (.flat (.int .u8 c.toNat))):=rfl
def Qj{p}(h:(List.range 256).all p=true)(c:UInt8):p c.toNat=true:=Ag.1 h _ (Zi.2 c.toNat_lt)
def n0:((0:Nat):Int)=0:=rfl
def n1:((1:Nat):Int)=1:=rfl
def n2:((2:Nat):Int)=2:=rfl
def n3:((3:Nat):Int)=3:=rfl
def n4:((4:Nat):Int)=4:=rfl
def pj:((65533:Nat):Int)=65533:=rfl
def lB:IntKind.i64.wrap 0=0:=ha
def vJ:IntKind.i64.wrap 5=5:=ha
def zhA:IntKind.i64.wrap 6=6:=ha
def mB:IntKind.i64.wrap 1=1:=ha
def Tr:IntKind.i64.wrap 2=2:=ha
def Ur:IntKind.i64.wrap 3=3:=ha
def cu:IntKind.i64.wrap 4=4:=ha
def u8_and(a b:Nat)(c:a<256)(d:b<256):Fm .u8 (a:Int) (b:Int)=((a&&&b:Nat):Int):=by
 show IntKind.u8.wrap ((BitVec.ofInt 8 (a:Int)&&&BitVec.ofInt 8 (b:Int)).toNat:Int)=_
 grind [BitVec.ofNat,Kj]
def u8_or(a b:Nat)(c:a<256)(d:b<256):Dg .u8 (a:Int) (b:Int)=((a|||b:Nat):Int):=by
 show IntKind.u8.wrap ((BitVec.ofInt 8 (a:Int)|||BitVec.ofInt 8 (b:Int)).toNat:Int)=_
 grind [BitVec.ofNat,Kj]
def ME(a b:Nat)(d:a<2147483648)(e:b<2147483648):Dg .i32 (a:Int) (b:Int)=((a|||b:Nat):Int):=by
 show IntKind.i32.wrap ((BitVec.ofInt 32 (a:Int)|||BitVec.ofInt 32 (b:Int)).toNat:Int)=_;have c:(a|||b)<2^31:=Nat.or_lt_two_pow aa aa
 grind [wrap32]
def c6(a b:Nat)(c:a<2147483648)(d:b<2147483648):Fm .i32 (a:Int) (b:Int)=((a&&&b:Nat):Int):=by
 show IntKind.i32.wrap ((BitVec.ofInt 32 (a:Int)&&&BitVec.ofInt 32 (b:Int)).toNat:Int)=_
 grind [Nat.and_le_left,wrap32]
def zbg(m x)(a:x<64):(m* 64)|||x=m* 64+x:=by
 have:=CJ (i:=6) (b:=x) aa m
 grind [Nat.shiftLeft_eq]
def Dz(body:St->Option (Out×St))(live:List Nat)(nb n:Nat):Option (Out×St)->Option (Out×St)
 |some (.normal,st)=>Cc body live nb n (st.only live nb)
 |some (.exit i,st)=>some (.exit i,st)
 |some (.ret,st)=>some (.ret,st)
 |none=>none
def Bb{body}{live}{nb n}{st}:Cc body live nb (n+1) st=Dz body live nb n (body st):=by
 simp only[Cc];cases body st with
 |none=>rfl
 |some p=>obtain⟨o,s⟩:=p;cases o<;>rfl
def Mb{body}{live}{nb n}{st}:Dz body live nb n (some (.normal,st))=Cc body live nb n (st.only live nb):=rfl
def Zb{body}{live}{nb n i}{st}:Dz body live nb n (some (.exit i,st))=some (.exit i,st):=rfl
def Wc{body}{live}{nb n}{st}:Dz body live nb n (some (.ret,st))=some (.ret,st):=rfl
theorem Dh{α:Type}{body}{live}{nb}(c:α->St)(I:α->Prop)(μ:α->Nat)(ub:α->Out×St)
 (h:∀a,I a->(∃o s,body (c a)=some (o,s)/\o≠.normal/\ub a=(o,s))\/∃s b,body (c a)=some (.normal,s)/\s.only live nb=c b/\I b/\μ b<μ a/\ub b=ub a):∀{n}{a},I a->μ a<n->Cc body live nb n (c a)=some (ub a)
 |0,a,_,l=>by omega
 |n+1,a,k,l=>by
  rw[Bb];rcases h a k with⟨o,s,d,g,e⟩|⟨s,b,d,g,e,p,j⟩
  ·rw[d,e]
   cases o with
   |normal=>grind
   |exit i=>rfl
   |ret=>rfl
  ·rw[d,Mb,g,<-j]
   exact Dh c I μ ub h e aa
variable {lib:Callee}
def Xo{n:Nat}{r}(h:n<256):bytesOf (.flat (.int .u8 (n:Int))::r)=(bytesOf r).map (UInt8.ofNat n::·):=by
 grind [bytesOf.eq_2]
def Yo:bytesOf []=some []:=rfl
def lc:ia=18446744073709551615+1:=ha
def cl(m:List (Nat×Nat)):List Loc:=m.map fun q=>.cell q.1 q.2
theorem Ib:∀m,Rf (cl m)=cl m
 |[]=>rfl
 |q::m=>by show Rf (.cell q.1 q.2::cl m)=_;rw[sy,Ib m];rfl
theorem Rb:∀m,Ui (cl m)=[]
 |[]=>rfl
 |q::m=>by show Ui (.cell q.1 q.2::cl m)=_;rw[VA,Rb m]
theorem ob{i}:∀m,owns (cl m) (.slot i)=false
 |[]=>rfl
 |q::m=>by show owns (.cell q.1 q.2::cl m) (.slot i)=_;rw[lU,ob m]
theorem Jb(m):∀l,ft (cl m) l=[]
 |[]=>rfl
 |i::l=>by rw[u9,ob,Jb m l];rfl
theorem Db{d}:∀m,Va d (cl m)=cl m
 |[]=>rfl
 |q::m=>by show Va d (.cell q.1 q.2::cl m)=_;rw[RP,Db m];rfl
theorem pb{n}:∀m,(∀q∈m,q.1<n)->sc n (cl m)=cl m
 |[],_=>rfl
 |q::m,h=>by
  show sc n (.cell q.1 q.2::cl m)=_;rw[xl,if_pos (h q ea),pb m fun q a=>h q (by simp[a])];rfl
def Ke{α ι:Type}(step:α->ι->α×Bool):α->List ι->α×Bool
 |a,[]=>(a,true)
 |a,x::r=>if(step a x).2 then Ke step (step a x).1 r else((step a x).1,false)
def Ce{nb}{vs}{bx}(h:bx.length=nb):trim nb vs bx=bx:=by grind [trim]
def Zo:cl []=[]:=rfl
theorem Zp{bx:Na}{b}{q}(h:bx[b]?=some q):bx.set b q=bx:=by
 apply List.ext_getElem?
 grind
theorem Lq{b o}:∀m,(∀q∈m,q≠(b,o))->fe (.cell b o) (cl m)=cl m
 |[],_=>rfl
 |q::m,h=>by
  show fe (.cell b o) (.cell q.1 q.2::cl m)=_;rw[gv,if_neg (fun k=>h q ea (Prod.ext k.1 k.2)),Lq m fun q a=>h q (by simp[a])];rfl
theorem rg{b o}:∀m,(∀q∈m,q≠(b,o))->Vd b o 1 (cl m)=cl m
 |[],_=>rfl
 |q::m,h=>by
  show Vd b o 1 (.cell q.1 q.2::cl m)=_;rw[Tj,if_neg (fun k=>h q ea (Prod.ext k.1 aa)),rg m fun q a=>h q (by simp[a])];rfl
theorem VB:∀a,pg (Td a)=true
 |[]=>rfl
 |c::a=>by show pg (.flat (.int .u8 c.toNat)::Td a)=true;rw[Qx,VB a];rfl
def Ob{σ ρ:Type}(step:σ->σ ⊕ ρ)(d:ρ):Nat->σ->ρ
 |0,_=>d
 |n+1,a=>match step a with
  | .inl b=>Ob step d n b
  | .inr r=>r
theorem hf{σ ρ}{step}{d:ρ}{n}{a b:σ}(h:step a=.inl b):Ob step d (n+1) a=Ob step d n b:=by grind [Ob]
theorem hd{σ ρ}{step}{d r:ρ}{n}{a:σ}(h:step a=.inr r):Ob step d (n+1) a=r:=by grind [Ob]
theorem GI{σ ρ}{step}{d:ρ}{I:σ->Prop}{μ:σ->Nat}(h:∀a b,I a->step a=.inl b->I b/\μ b<μ a):∀(n m)(a),I a->μ a<n->μ a<m->Ob step d n a=Ob step d m a
 |0,_,_,_,c,_=>by omega
 |_,0,_,_,_,e=>by omega
 |n+1,m+1,a,g,c,e=>by
  cases hs:step a with
  |inl b=>
   obtain⟨i,j⟩:=h a b g hs;rw[hf hs,hf hs];exact GI h n m b i aa aa
  |inr r=>grind [hd]
theorem rk{σ ρ:Type}{step:σ->σ ⊕ ρ}{d}{I:σ->Prop}{μ:σ->Nat}{Q:ρ->Prop}(h:∀a,I a->match step a with| .inl b=>I b/\μ b<μ a| .inr r=>Q r):∀(n)(a),I a->μ a<n->Q (Ob step d n a)
 |0,_,_,e=>by omega
 |n+1,a,g,e=>by
  have hs:=h a g;cases c:step a with
  |inl b=>rw[c]at hs;rw[hf c];exact rk h n b hs.1 aa
  |inr r=>grind [hd]
def pe{σ ρ:Type}(a:σ->St)(fin:ρ->Out×St):σ ⊕ ρ->Out×St
 | .inl b=>(.normal,a b)
 | .inr r=>fin r
theorem jt{σ ρ}{body}{live}{nb}(c)(step)(d)(fin:ρ->Out×St)(I:σ->Prop)(μ:σ->Nat)
 (hr:∀a,I a->body (c a)=some (pe c fin (step a))) (p:∀a,I a->(c a).only live nb=c a) (i:∀a b,I a->step a=.inl b->I b/\μ b<μ a) (l:∀r,(fin r).1≠.normal) {n} (a) (g:I a) (o:μ a<n) (k:μ a<ia):
 Cc body live nb ia (c a)=some (fin (Ob step d n a)):=by
 have e:=Dh (body:=body) (live:=live) (nb:=nb) c I μ (fun a=>fin (Ob step d (μ a+1) a)) (fun a g=>?_) (n:=ia) (a:=a) g k
 ·rw[e,GI i (μ a+1) n a g aa o]
 ·have h:=hr a g
  cases hs:step a with
  |inl b=>
   rw[hs]at h;obtain⟨j,q⟩:=i a b g hs;refine .inr ⟨c b,b,h,p b j,j,q,?_⟩;rw[hf hs,GI i (μ b+1) (μ a) b j aa aa]
  |inr r=>
   rw[hs]at h;exact .inl ⟨(fin r).1,(fin r).2,h,l r,by rw[hd hs]⟩
def ln{p s:ba}(h:p.isPrefixOf s=true):p.length<=s.length:=(zk.1 h).length_le
def xx{k m:Nat}(h:k+m<9223372036854775808):IntKind.i64.wrap ((k:Int)+(m:Int))=((k+m:Nat):Int):=by grind [wrap64]
def bj{k:Nat}(h:k+1<9223372036854775808):IntKind.i64.wrap ((k:Int)+1)=((k+1:Nat):Int):=xx (m:=1) h
theorem Sl{η σ ρ:Type}{body}{live}{nb}(c:η->σ->St)(step:σ->σ ⊕ ρ)(d)(Q:ρ->Out->St->Prop)(I:σ->Prop)(μ:σ->Nat)
 (hr:∀h a,I a->match step a with| .inl b=>∃g,body (c h a)=some (.normal,c g b)| .inr r=>∃o s,body (c h a)=some (o,s)/\o≠.normal/\Q r o s) (q:∀h a,I a->(c h a).only live nb=c h a) (k:∀a b,I a->step a=.inl b->I b/\μ b<μ a):
 ∀{n m}(h)(a),I a->μ a<n->μ a<m->∃o s,Cc body live nb m (c h a)=some (o,s)/\Q (Ob step d n a) o s
 |n,0,h,a,j,p,l=>by omega
 |0,_,h,a,j,p,l=>by omega
 |n+1,m+1,h,a,j,p,l=>by
  have e:=hr h a j;rw[Bb];cases hs:step a with
  |inl b=>
   rw[hs]at e;obtain⟨g,e⟩:=e;obtain⟨t,u⟩:=k a b j hs;rw[e,Mb,q g b t,hf hs];exact Sl c step d Q I μ hr q k g b t aa aa
  |inr r=>
   rw[hs]at e;obtain⟨o,s,e,u,t⟩:=e;rw[e,hd hs];refine⟨o,s,?_,t⟩;cases o with
   |normal=>grind
   |exit i=>rfl
   |ret=>rfl
def SS{n b}{q}(a:Ia n q.2=true):∀{bx},nf n bx=true->nf n (bx.set b q)=true:=by
 intro bx
 induction bx generalizing b with
 |nil=>simp
 |cons p l c=>
  intro h;rw[Hm,cc]at h;cases b<;>grind [Hm]
theorem jH{n}:∀{bx a},nf n (bx++a)=(nf n bx&&nf n a)
 |[],a=>by rfl
 |p::l,a=>by rw[Fa,Hm,Hm,jH,Bool.and_assoc]
def Po{bx:Na}{b}{x q}(h:b<bx.length):(bx.set b x++[q])[b]?=some x:=by
 grind
def Qo{bx:Na}{b}{x q}:(bx.set b x++[q])[bx.length]?=some q:=by
 simp
def Bq{bx:Na}{b}{x y q}(h:b<bx.length):(bx.set b x++[q]).set b y=bx.set b y++[q]:=by
 grind [List.set_set]
def Cq{bx:Na}{b}{x q z}:(bx.set b x++[q]).set bx.length z=bx.set b x++[z]:=by
 simp
def Jk{bx:Na}{b}{x q}:(bx.set b x++[q]).length=bx.length+1:=by
 simp
def nK{bx:Na}{b}{x q}:(bx.set b x++[q]).take bx.length=bx.set b x:=by
 simp
def I_{n}{x:Nat×Nat}{r}(h:∀q∈r,q.1<n):∀q∈(n,1)::r,q.1<n+1:=by
 grind
theorem vy{b o m}:∀r,(∀q∈r,q.1<b)->Vd b o m (cl r)=cl r
 |[],_=>rfl
 |q::r,h=>by
  have c:=h q iu;have d:=vy (o:=o) (m:=m) r fun x a=>h x (rn _ a)
  grind [cl,Tj]
mutual
theorem zcT{n m:Nat}(h:n<=m):∀v:PV,v.low n=true->v.low m=true
 | .ptr b _,k=>by grind [PV.low]
 | .Oa b,k=>by grind [PV.low]
 | .we b _ _,k=>by grind [PV.low]
 | .ga _ cs,k=>by simp only[PV.low]at k⊢;exact Zn h cs k
 | .agg cs,k=>by simp only[PV.low]at k⊢;exact Zn h cs k
 | .Jc cs,k=>by simp only[PV.low]at k⊢;exact Zn h cs k
 | .xd cs,k=>by simp only[PV.low]at k⊢;exact Zn h cs k
 | .cb _ cs,k=>by simp only[PV.low]at k⊢;exact Zn h cs k
 | .tag _ cs,k=>by simp only[PV.low]at k⊢;exact Zn h cs k
 | .lp _ _ _ _ cs,k=>by simp only[PV.low]at k⊢;exact Zn h cs k
 | .flat _,_=>rfl
 | .Ad,_=>rfl
theorem Zn{n m:Nat}(h:n<=m):∀l:List PV,Ia n l=true->Ia m l=true
 |[],_=>rfl
 |v::l,k=>by
  simp only[Ia,cc]at k⊢;exact⟨zcT h v k.1,Zn h l k.2⟩
end
theorem jD{n m}(h:n<=m):∀l,nf n l=true->nf m l=true
 |[],_=>rfl
 |q::l,a=>by
  rw[Hm,cc]at a⊢;exact⟨Zn h _ a.1,jD h l a.2⟩
theorem rO{n}:∀r,(∀q∈r,q.1<n)->Xk n (cl r)=cl r
 |[],_=>rfl
 |q::r,h=>by
  have b:=h q iu;have c:=rO (n:=n) r fun x a=>h x (rn _ a)
  grind [cl,kH]
def Ve{α β:Type}(f:α->Nat->β->α ⊕ (Out×St))(fin:α->Out×St):α->Nat->List β->Out×St
 |a,_,[]=>fin a
 |a,k,x::t=>match f a k x with
  | .inl a'=>Ve f fin a' (k+1) t
  | .inr r=>r
def y_{α β}{body}{live}{nb}(b:α->Nat->St)(L)(I:α->Nat->Prop)(f:α->Nat->β->α ⊕ (Out×St))(fin)
 (hr:∀a k x,I a k->k<L.length->L[k]?=some x->L.drop k=x::L.drop (k+1)->
   (∃a' s,f a k x=.inl a'/\body (b a k)=some (.normal,s)/\s.only live nb=b a' (k+1)/\I a' (k+1))\/(∃r,f a k x=.inr r/\body (b a k)=some r/\r.1≠.normal))
 (p:∀a,I a L.length->body (b a L.length)=some (fin a)/\(fin a).1≠.normal) (a) (c:I a 0) (o:L.length<ia):
 Cc body live nb ia (b a 0)=some (Ve f fin a 0 L):=by
 have d:=Dh (body:=body) (live:=live) (nb:=nb) (fun q:α×Nat=>b q.1 q.2) (fun q=>I q.1 q.2/\q.2<=L.length) (fun q=>L.length - q.2)
  (fun q=>Ve f fin q.1 q.2 (L.drop q.2)) (fun⟨a,k⟩ c=>?_) (n:=ia) (a:=(a,0)) ⟨c,Ab _⟩ aa
 ·grind
 ·dsimp only at c⊢
  obtain⟨c,t⟩:=c;by_cases fa:k<L.length
  ·have j:=qe fa
   have l:=Qd fa;rcases hr a k L[k] c fa j l with⟨a',s,h,e,g,i⟩|⟨r,h,e,g⟩
   ·right
    exact⟨s,(a',k+1),e,g,⟨i,fa⟩,aa,by grind [Ve.eq_2]⟩
   grind [Ve.eq_2]
  grind [Ve.eq_1]
def fk{α β:Type}{body}{live}{nb}(b:α->Nat->St)(L)(I:α->Nat->Prop)(f:α->Nat->β->α ⊕ (Out×St))(fin)
 (hr:∀a k x,I a k->k<L.length->L[k]?=some x->L.drop k=x::L.drop (k+1)->body (b a k)=match f a k x with| .inl a'=>some (.normal,b a' (k+1))| .inr r=>some r)
 (o:∀a k,(b a k).only live nb=b a k) (i:∀a k x a',I a k->k<L.length->L[k]?=some x->f a k x=.inl a'->I a' (k+1)) (n:∀a k x r,f a k x=.inr r->r.1≠.normal)
 (g:∀a,I a L.length->body (b a L.length)=some (fin a)) (h:∀a,(fin a).1≠.normal) (a) (e:I a 0) (d:L.length<ia):
 Cc body live nb ia (b a 0)=some (Ve f fin a 0 L):=
 y_ b L I f fin (fun a k x c l p j=>by
  grind) (fun a c=>⟨g a c,h a⟩) a e d
theorem oB{β}{p:β->Bool}{r}{fin}:∀(L)(k),Ve (fun(_:Unit) _ x=>if p x then .inl ()else .inr r) fin () k L=if L.all p then fin ()else r
 |[],k=>rfl
 |x::t,k=>by
  rw[Ve,Ck];cases a:p x with
  |true=>rw[if_pos rfl,pd];exact oB t _
  |false=>rfl
def zed(s w:ba)(k)(h:w.length<=s.length - k)(a:k<=s.length):decide ((s.take (k+w.length)).drop k=w)=w.isPrefixOf (s.drop k):=by
 grind [List.prefix_iff_eq_take]
def zcK(s w:ba)(h:¬w.length<=s.length):w.isPrefixOf s=false:=by
 grind
def Dc(c:UInt8):ba->Option Nat
 |[]=>none
 |x::l=>if x=c then some 0 else(Dc c l).map (·+1)
theorem ns{c}:∀{l}{i},Dc c l=some i->i<l.length
 |[],i,h=>by cases h
 |x::l,i,h=>by
  simp only[Dc]at h;split at h
  ·grind
  ·obtain⟨j,a,rfl⟩:=qm h
   have:=ns a
   grind
def Ge(lib:Callee):Prop:=∀(s:ba)(c:UInt8),s.length<=1000000000->lib 96 [.flat (.string (S s)),.flat (.int .u8 c.toNat)] [] []=some ([.flat (.int .i64 (match Dc c s with|some i=>(i:Int)|none=>-1))],false,[],[])
def Ep(H:Ge lib)(s)(c)(h:s.length<=1000000000):da code lib 96 [.flat (.string (S s)),.flat (.int .u8 c.toNat)] [] []=some ([.flat (.int .i64 (match Dc c s with|some i=>(i:Int)|none=>-1))],false,[],[]):=
 tf ha pa (H s c h)
def va(l:List ba):List PV:=l.map fun x=>.flat (.string (S x))
def dd{l}:(va l).length=l.length:=by simp[va]
theorem Nr{a b}:va a++va b=va (a++b):=by simp[va]
theorem Mf:∀a,td (va a)=true
 |[]=>rfl
 |c::a=>by show td (.flat (.string (S c))::va a)=true;rw[ew,Mf a];rfl
theorem ed{n}:∀a,Ia n (va a)=true
 |[]=>rfl
 |c::a=>by show Ia n (.flat (.string (S c))::va a)=true;simp only[Ia,PV.low,ed a,pd]
def kc(lib:Callee):Prop:=∀s p:ba,s.length<=1000000000->p.length<=1000000000->lib 80 [.flat (.string (S s)),.flat (.string (S p))] [] []=some ([.flat (.bool (p.isPrefixOf s))],false,[],[])
def Ub(s w:ba)(k:Nat):Bool:=decide (k<=s.length)&&w.isPrefixOf (s.drop k)
theorem Pc:∀a,Eb (va a)=true
 |[]=>rfl
 |c::a=>by show Eb (.flat (.string (S c))::va a)=true;simp only[Eb,PV.sj,Pc a,pd]
theorem fj{s w}{k}(a:k<=s.length):Ub s w k=w.isPrefixOf (s.drop k):=by grind [Ub]
theorem Fq(c):∀s,(Dc c s).isSome=s.contains c
 |[]=>rfl
 |x::l=>by
  have:=Fq c l
  grind [Dc]
def HR{a b:Int}(h:a<b):(a<b)=True:=eq_true h
def DR{a b:Int}(h:b<=a):(a<b)=False:=eq_false aa
def CR{a b:Int}(h:a<=b):(a<=b)=True:=eq_true h
def yR{a b:Int}(h:b<a):(a<=b)=False:=eq_false aa
def xR{a b:Int}(h:a=b):(a=b)=True:=eq_true h
def tR{a b:Int}(h:a<b\/b<a):(a=b)=False:=eq_false aa
def oT{a b:Nat}(h:a<b):(a<b)=True:=eq_true h
def nT{a b:Nat}(h:b<=a):(a<b)=False:=eq_false aa
def mT{a b:Nat}(h:a<=b):(a<=b)=True:=eq_true h
def lT{a b:Nat}(h:b<a):(a<=b)=False:=eq_false aa
def iT{a b:Nat}(h:a=b):(a=b)=True:=eq_true h
def hT{a b:Nat}(h:a<b\/b<a):(a=b)=False:=eq_false aa
def GB{x}(a:-9223372036854775808<=x)(b:x<9223372036854775808):IntKind.i64.wrap x=x:=wrap64 ⟨a,b⟩
def cX{x}(a:0<=x)(b:x<256):IntKind.u8.wrap x=x:=Kj ⟨a,b⟩
def bX{x}(a:-2147483648<=x)(b:x<2147483648):IntKind.i32.wrap x=x:=wrap32 ⟨a,b⟩
def fB(a b:UInt8):(a=b)=(a.toNat=b.toNat):=by rw[Yb]
def uW(k m:Nat):((k:Int)+(m:Int)).toNat=k+m:=aa
def rW(k:Nat):((k:Int)+1).toNat=k+1:=aa
def sW(k:Nat):((k:Int)+2).toNat=k+2:=aa
def tW(k:Nat):((k:Int)+3).toNat=k+3:=aa
def AR{n m:Nat}:((n:Int)<=(no_index (@OfNat.ofNat Int m instOfNat)))=(n<=@OfNat.ofNat Nat m (instOfNatNat m)):=propext lq
def zR{n m:Nat}:((no_index (@OfNat.ofNat Int m instOfNat))<=(n:Int))=(@OfNat.ofNat Nat m (instOfNatNat m)<=n):=propext lq
def FR{n m:Nat}:((n:Int)<(no_index (@OfNat.ofNat Int m instOfNat)))=(n<@OfNat.ofNat Nat m (instOfNatNat m)):=propext Int.ofNat_lt
def ER{n m:Nat}:((no_index (@OfNat.ofNat Int m instOfNat))<(n:Int))=(@OfNat.ofNat Nat m (instOfNatNat m)<n):=propext Int.ofNat_lt
def vR{n m:Nat}:((n:Int)=(no_index (@OfNat.ofNat Int m instOfNat)))=(n=@OfNat.ofNat Nat m (instOfNatNat m)):=propext Xr
def uR{n m:Nat}:((no_index (@OfNat.ofNat Int m instOfNat))=(n:Int))=(@OfNat.ofNat Nat m (instOfNatNat m)=n):=propext Xr
def BR{n m:Nat}:((n:Int)<=(m:Int))=(n<=m):=propext lq
def GR{n m:Nat}:((n:Int)<(m:Int))=(n<m):=propext Int.ofNat_lt
def wR{n m:Nat}:((n:Int)=(m:Int))=(n=m):=propext Xr
end ya
namespace Go.Proofs.YtglaihdcndcmkaaGreatDoor
def au:(((((type_of% @AR)/\((type_of% @zR)/\(type_of% @FR)))/\(((type_of% @ER)/\(type_of% @vR))/\((type_of% @uR)/\(type_of% @BR))))/\((((type_of% @GR)/\(type_of% @wR))/\((type_of% @HR)/\(type_of% @DR)))/\(((type_of% @CR)/\(type_of% @yR))/\((type_of% @xR)/\(type_of% @tR)))))/\(((((type_of% @oT)/\(type_of% @nT))/\((type_of% @mT)/\(type_of% @lT)))/\(((type_of% @iT)/\(type_of% @hT))/\((type_of% @GB)/\(type_of% @cX))))/\((((type_of% @bX)/\(type_of% @Ua))/\((type_of% @kd)/\(type_of% @rh)))/\(((type_of% @Pj)/\(type_of% @Mo))/\((type_of% @ff)/\(type_of% @hh))))))/\(((((type_of% @decide_eq_true_eq)/\((type_of% @decide_eq_false_iff_not)/\(type_of% @gc)))/\(((type_of% @uW)/\(type_of% @rW))/\((type_of% @sW)/\(type_of% @tW))))/\((((type_of% @Jb)/\(type_of% @ob))/\((type_of% @Ib)/\(type_of% @Db)))/\(((type_of% @Rb)/\(type_of% @pb))/\((type_of% @rg)/\(type_of% @Lq)))))/\(((((type_of% @Bc)/\(type_of% @Kc.{0}))/\((type_of% @pm.{0})/\(type_of% @zo.{0})))/\(((type_of% @Ac.{0})/\(type_of% @tn))/\((type_of% @oq)/\(type_of% @vn))))/\((((type_of% @Wg)/\(type_of% @Bool.cond_true.{0}))/\((type_of% @Bool.cond_false.{0})/\(type_of% @Ee)))/\(((type_of% @wn)/\(type_of% @n0))/\((type_of% @n1)/\(type_of% @n2)))))):=
 ⟨⟨⟨⟨⟨@AR,⟨@zR,@FR⟩⟩,⟨⟨@ER,@vR⟩,⟨@uR,@BR⟩⟩⟩,⟨⟨⟨@GR,@wR⟩,⟨@HR,@DR⟩⟩,⟨⟨@CR,@yR⟩,⟨@xR,@tR⟩⟩⟩⟩,⟨⟨⟨⟨@oT,@nT⟩,⟨@mT,@lT⟩⟩,⟨⟨@iT,@hT⟩,⟨@GB,@cX⟩⟩⟩,⟨⟨⟨@bX,@Ua⟩,⟨@kd,@rh⟩⟩,⟨⟨@Pj,@Mo⟩,⟨@ff,@hh⟩⟩⟩⟩⟩,⟨⟨⟨⟨@decide_eq_true_eq,⟨@decide_eq_false_iff_not,@gc⟩⟩,⟨⟨@uW,@rW⟩,⟨@sW,@tW⟩⟩⟩,⟨⟨⟨@Jb,@ob⟩,⟨@Ib,@Db⟩⟩,⟨⟨@Rb,@pb⟩,⟨@rg,@Lq⟩⟩⟩⟩,⟨⟨⟨⟨@Bc,@Kc.{0}⟩,⟨@pm.{0},@zo.{0}⟩⟩,⟨⟨@Ac.{0},@tn⟩,⟨@oq,@vn⟩⟩⟩,⟨⟨⟨@Wg,@Bool.cond_true.{0}⟩,⟨@Bool.cond_false.{0},@Ee⟩⟩,⟨⟨@wn,@n0⟩,⟨@n1,@n2⟩⟩⟩⟩⟩⟩
def ta{q:Prop}(h:q:=by simp(maxSteps:=999999) (disch:=first|assumption|omega) only[go_sem,simprocAttr,au, *]):q:=h
def ua{a q:Prop}(b:a)(h:a->q:=by intros;simp(maxSteps:=999999) (disch:=first|assumption|omega) only[go_sem,simprocAttr,au, *]):q:=h b
def Kb{a b q:Prop}(c:a)(d:b)(h:a->b->q:=by intros;simp(maxSteps:=999999) (disch:=first|assumption|omega) only[go_sem,simprocAttr,au, *]):q:=h c d
def ye{a b c q:Prop}(d:a)(e:b)(g:c)(h:a->b->c->q:=by intros;simp(maxSteps:=999999) (disch:=first|assumption|omega) only[go_sem,simprocAttr,au, *]):q:=h d e g
def Lg{a b c d q:Prop}(e:a)(g:b)(i:c)(j:d)(h:a->b->c->d->q:=by intros;simp(maxSteps:=999999) (disch:=first|assumption|omega) only[go_sem,simprocAttr,au, *]):q:=h e g i j
def mj{a b c d e q:Prop}(g:a)(i:b)(j:c)(k:d)(l:e)(h:a->b->c->d->e->q:=by intros;simp(maxSteps:=999999) (disch:=first|assumption|omega) only[go_sem,simprocAttr,au, *]):q:=h g i j k l
def ze{a b c d e g q:Prop}(i:a)(j:b)(k:c)(l:d)(n:e)(o:g)(h:a->b->c->d->e->g->q:=by intros;simp(maxSteps:=999999) (disch:=first|assumption|omega) only[go_sem,simprocAttr,au, *]):q:=h i j k l n o
def Cp{a b c d e g i q:Prop}(j:a)(k:b)(l:c)(n:d)(o:e)(p:g)(r:i)(h:a->b->c->d->e->g->i->q:=by intros;simp(maxSteps:=999999) (disch:=first|assumption|omega) only[go_sem,simprocAttr,au, *]):q:=h j k l n o p r
def ir{a b c d e g i j q:Prop}(k:a)(l:b)(n:c)(o:d)(p:e)(r:g)(t:i)(u:j)(h:a->b->c->d->e->g->i->j->q:=by intros;simp(maxSteps:=999999) (disch:=first|assumption|omega) only[go_sem,simprocAttr,au, *]):q:=h k l n o p r t u
def Ys{a b c d e g i j k q:Prop}(l:a)(n:b)(o:c)(p:d)(r:e)(t:g)(u:i)(v:j)(w:k)(h:a->b->c->d->e->g->i->j->k->q:=by intros;simp(maxSteps:=999999) (disch:=first|assumption|omega) only[go_sem,simprocAttr,au, *]):q:=h l n o p r t u v w
def xa{code}{lib}{f}{nt}{ub}{body}{oo}(a:code f=some ⟨nt,ub,body,oo⟩){args}{bx}{oc}{r}(b:args.length<=nt:=by exact qa rfl)
 (h:Gp ub bx (oa (da code lib) ia body ⟨Bh 0 args,oc,[],bx⟩)=some r:=by simp(maxSteps:=999999) (disch:=first|assumption|omega) only[go_sem,simprocAttr,au, *]):da code lib f args bx oc=some r:=ja a b h
end Go.Proofs.YtglaihdcndcmkaaGreatDoor
namespace ya
variable {lib:Callee}
def db(c:UInt8):ba->List ba
 |[]=>[[]]
 |x::l=>if x=c then[]::db c l else(match db c l with|p::ps=>(x::p)::ps|[]=>[[x]])
theorem jP{c}:∀{l},Dc c l=none->db c l=[l]
 |[],h=>rfl
 |x::l,h=>by
  simp only[Dc]at h;split at h
  ·cases h
  ·rename_i b
   have a:Dc c l=none:=by simpa using h
   simp only[db,if_neg b,jP a]
theorem lP{c}:∀{l}{i},Dc c l=some i->db c l=l.take i::db c (l.drop (i+1))
 |[],i,h=>by cases h
 |x::l,i,h=>by
  simp only[Dc]at h;split at h
  ·grind [db]
  ·rename_i b
   obtain⟨j,a,rfl⟩:=qm h;simp only[db,if_neg b,lP a,dx,lm]
def So(s w)(k:Nat)(hs:s.length<=1000000000)(e:w.length<=1000000000)(d:k<=1000000000):da code lib 105 [.flat (.string (S s)),.flat (.string (S w)),.flat (.int .i64 (k:Nat))] [] []=some ([.flat (.bool (Ub s w k))],false,[],[]):=by
 refine ja g0 (qa rfl) ?_;have c:(0:Int)<=(k:Nat):=aa
 have g:IntKind.i64.wrap ((s.length:Int) - (k:Int))=(s.length:Int) - (k:Int):=wrap64 aa;have i:IntKind.i64.wrap ((k:Int)+(w.length:Int))=((k+w.length:Nat):Int):=by rw[wrap64 aa];rfl
 by_cases h:k<=s.length
 ·have c1:(k:Int)<=s.length:=aa
  by_cases a:w.length<=s.length - k
  ·have c2:(w.length:Int)<=(s.length:Int) - (k:Int):=aa
   have c3:(k:Int)<=((k+w.length:Nat):Int):=aa
   have c4:((k+w.length:Nat):Int)<=s.length:=aa
   have b:=zed s w k a h;exact ua @Ub.eq_1
  ·have c2:¬(w.length:Int)<=(s.length:Int) - (k:Int):=aa
   have b:=zcK (s.drop k) w la;exact ua @Ub.eq_1
 ·have c1:¬(k:Int)<=s.length:=aa
  exact ua @Ub.eq_1
theorem kP{c}(t:ba):∀p,(∀x∈p,x≠c)->db c (p++c::t)=p::db c t
 |[],h=>by simp[db]
 |y::p,h=>by
  have:=kP t p fun x a=>h x (rn _ a)
  grind [db.eq_2]
theorem nP{c}:∀p,(∀x∈p,x≠c)->db c p=[p]
 |[],h=>rfl
 |y::p,h=>by
  have:=nP p fun x a=>h x (rn _ a)
  grind [db.eq_2]
def ar(s:ba)(c:UInt8)(q:List ba×Nat)(k:Nat)(x:UInt8):(List ba×Nat) ⊕ (Out×St):=.inl (if x.toNat=c.toNat then(q.1++[(s.take k).drop q.2],k+1)else q)
theorem xJ(s:ba)(c)(fin):∀(t:ba)(out)(fr k),s.drop k=t->fr<=k->k<=s.length->(∀x∈(s.take k).drop fr,x≠c)->∃st,Ve (ar s c) fin (out,fr) k t=fin st/\st.1++[s.drop st.2]=out++db c (s.drop fr)/\st.2<=s.length/\st.1.length<=out.length+t.length
 |[],out,fr,k,h,g,i,a=>by
  have b:k=s.length:=by have:=congrArg List.length h;rw[fc]at this;simp at this;omega
  subst b;rw[pm]at a;exact⟨(out,fr),rfl,by rw[nP _ a],aa,ea⟩
 |x::t,out,fr,k,h,g,i,a=>by
  have fa:k<s.length:=by have:=congrArg List.length h;rw[fc]at this;simp at this;omega
  have d:=Qd fa;rw[d]at h;obtain⟨e,ht⟩:=List.cons.inj h;have q:s.take (k+1)=s.take k++[x]:=by rw[xo fa,e]
  have p:s.drop fr=(s.take k).drop fr++x::t:=by
   rw[<-e,<-ht,<-d]
   conv=>lhs;rw[<-wcu k s]
   rw[qx la]
  simp only[Ve,ar];by_cases b:x.toNat=c.toNat
  ·have r:=Yb.1 b
   rw[if_pos b];obtain⟨st,j,l,n,o⟩:=xJ s c fin t (out++[(s.take k).drop fr]) (k+1) (k+1) ht (Aa _) fa ea
   grind [kP]
  ·rw[if_neg b]
   obtain⟨st,j,l,n,o⟩:=xJ s c fin t out fr (k+1) ht aa fa (by
    grind)
   grind
def Zs(s:ba)(c:UInt8)(q:List ba×Nat)(k:Nat):St:=⟨[(0,.flat (.string (S s))),(1,.flat (.int .u8 c.toNat)),(5,.ga q.1.length (va q.1)),(6,.flat (.int .i64 (q.2:Nat))),(7,.flat (.int .i64 (k:Nat)))],[.slot 5],[],[]⟩
def hP(s)(c)(hs:s.length<=1000000000):da code lib 129 [.flat (.string (S s)),.flat (.int .u8 c.toNat)] [] []=some ([.ga (db c s).length (va (db c s))],true,[],[]):=by
 refine ja h0 (qa rfl) ?_
 have a:=fk (body:=oa (da code lib) ia kC) (live:=[0,1,5,6,7]) (nb:=0) (Zs s c) s (fun q k=>q.2<=k/\q.1.length<=k)
  (ar s c) (fun q=>(.exit 0,⟨[(0,.flat (.string (S s))),(5,.ga q.1.length (va q.1)),(6,.flat (.int .i64 (q.2:Nat)))],[.slot 5],[],[]⟩)) (fun⟨out,fr⟩ k x b g l e=>?_) (fun _ _=>by simp only[Zs,go_sem,simprocAttr]) (fun⟨out,fr⟩ k x a' b _ _ h=>by
    grind [ar]) (fun _ _ x r h=>by grind [ar]) (fun⟨out,fr⟩ b=>?_) (fun _=>by simp) ([],0) ⟨Aa _,Aa _⟩ (by grind [ia])
 ·obtain⟨⟨out,fr⟩,e,g,i,j⟩:=xJ s c (fun q=>(.exit 0,⟨[(0,.flat (.string (S s))),(5,.ga q.1.length (va q.1)),(6,.flat (.int .i64 (q.2:Nat)))],[.slot 5],[],[]⟩)) s [] 0 0 rfl (Aa _) (Ab _) ea
  rw[e]at a;simp only[Zs,n0,Ca,va,Fe]at a;simp only[Ma,zf]at g;have d:out.length+1<=za:=by unfold za;simp only[Ca]at j;omega
  have c1:(0:Int)<=(fr:Nat):=aa
  have c2:(fr:Int)<=s.length:=by dsimp only at i;omega
  have n:(s.take s.length).drop fr=s.drop fr:=by rw[pm]
  have e1:[PV.flat (.string (S (s.drop fr)))]=va [s.drop fr]:=rfl;have e2:List.map (fun x=>PV.flat (.string (S x))) out=va out:=rfl;rw[e2]at a;simp only[go_sem,simprocAttr,a,Ua,rh,c1,c2,n,gc,dd,Mf,d]
  grind [Nr]
 ·dsimp only at b
  have c1:(k:Int)<s.length:=aa
  have c2:(0:Int)<=(k:Nat):=aa
  have c3:(0:Int)<=(fr:Nat):=aa
  have c4:(fr:Int)<=(k:Nat):=aa
  have c5:(k:Int)<=s.length:=aa
  have i:IntKind.i64.wrap ((k:Int)+1)=((k+1:Nat):Int):=wrap64 aa;have d:out.length+1<=za:=Ie
  have e1:[PV.flat (.string (S ((s.take k).drop fr)))]=va [(s.take k).drop fr]:=rfl;have g:((x.toNat:Int)=c.toNat)=(x.toNat=c.toNat):=by apply propext;omega
  by_cases h:x.toNat=c.toNat
  ·have e:=eq_true h
   simp only[LH,Zs,ar,go_sem,simprocAttr,Ua,kd,rh,gc,l,hh,c1,c2,c3,c4,c5,i,g,e,d,dd,Mf]
   grind [Nr]
  ·have e:=eq_false h
   exact ye LH @Zs.eq_1 @ar.eq_1
 ·dsimp only at b
  have c1:¬(s.length:Int)<s.length:=aa
  exact Kb LH @Zs.eq_1
variable {lib:Callee}
def yb:ba->Nat->Nat->Nat×Bool
 |_,r,0=>(r,true)
 |c::l,r,m+1=>if 128<=c.toNat/\c.toNat<192 then yb l (r* 64+(c.toNat - 128)) m else(0,false)
 |[],_,_+1=>(0,false)
theorem CE:∀(l)(r m),l.length<m->yb l r m=(0,false)
 |l,r,0,h=>by omega
 |[],r,m+1,h=>rfl
 |c::l,r,m+1,h=>by
  simp only[yb];split
  ·exact CE l _ m la
  ·rfl
theorem dR:∀(l)(r m),(yb l r m).2=false->yb l r m=(0,false)
 |l,r,0,h=>by grind [yb]
 |[],r,m+1,h=>rfl
 |c::l,r,m+1,h=>by
  simp only[yb]at h⊢;split at h
  ·rename_i a;rw[if_pos a];exact dR l _ m h
  grind
def I1(c:UInt8):(c.toNat&&&192=128) ↔ (128<=c.toNat/\c.toNat<192):=by
 have:=Qj (p:=fun n=>decide ((n&&&192=128) ↔ (128<=n/\n<192))) Hb c
 grind
def z_(c:UInt8)(h:128<=c.toNat/\c.toNat<192):c.toNat&&&63=c.toNat - 128:=by
 have:=Qj (p:=fun n=>decide (128<=n/\n<192->n&&&63=n - 128)) Hb c
 grind
def ct(l:ba)(a r i:Nat):St:=⟨[(0,.flat (.string (S l))),(1,.flat (.int .i32 r)),(13,.flat (.int .i64 a)),(14,.flat (.int .i64 i))],[],[],[]⟩
def zw(q:Nat×Bool):Out×St:=if q.2 then(.exit 0,⟨[(1,.flat (.int .i32 q.1))],[],[],[]⟩)else(.ret,⟨[(6,.flat (.int .i32 0)),(7,.flat (.bool false))],[],[],[]⟩)
def zgf(l)(b)(A:b<=3)(z:b<=l.length)(r)(hr:r<32):Cc (oa (da code lib) ia ws) [0,1,13,14] 0 ia (ct l b r 0)=some (zw (yb l r b)):=by
 have:=Dh (body:=oa (da code lib) ia ws) (live:=[0,1,13,14]) (nb:=0) (fun a:Nat×Nat=>ct l b a.1 a.2) (fun a=>a.2<=b/\a.1<32* 64^a.2) (fun a=>b - a.2) (fun a=>zw (yb (l.drop a.2) a.1 (b - a.2))) (fun⟨r,i⟩ ⟨w,hr⟩=>?_) (n:=ia) (a:=(r,0)) ⟨aa,la⟩ (by grind [ia])
 ·grind
 dsimp only at w hr⊢;have x:r<8388608:=by
  have:(64:Nat)^i<=64^3:=Yr aa aa;have d:(64:Nat)^3=262144:=ha
  omega
 by_cases fa:i<b
 ·obtain⟨c,t,ht⟩:∃c t,l.drop i=c::t:=⟨l[i],l.drop (i+1),Qd aa⟩
  have e1:=Yh ht;have y:=c.toNat_lt;have e2:=Pm ht;have e3:=I1 c;have e4:Fm .u8 (c.toNat:Int) 192=_:=u8_and c.toNat 192 aa aa;have e5:Fm .u8 (c.toNat:Int) 63=_:=u8_and c.toNat 63 aa aa;have k:b - i=(b - (i+1))+1:=aa
  by_cases d:128<=c.toNat/\c.toNat<192
  ·right
   have e6:=z_ c d;have h:=e3.2 d;rw[h]at e4;rw[e6]at e5;have p:((128:Nat):Int)=128:=rfl;have o:=ME (r* 64) (c.toNat - 128) aa aa;rw[zbg _ _ aa]at o;refine⟨⟨[(0,.flat (.string (S l))),(1,.flat (.int .i32 (r* 64+(c.toNat - 128):Nat))),(13,.flat (.int .i64 b)),(14,.flat (.int .i64 (i+1:Nat)))],[],[],[]⟩,(r* 64+(c.toNat - 128),i+1),?_,rfl,⟨aa,?_⟩,aa,?_⟩
   ·have g:((i:Int)<b):=aa
    have j:(0:Int)<=i:=aa
    have q:IntKind.i32.wrap ((r:Int)* 2^min 6 32)=((r* 64:Nat):Int):=by rw[wrap32 la];simp
    have u:IntKind.i64.wrap ((i:Int)+1)=((i+1:Nat):Int):=wrap64 aa;have v:IntKind.i32.wrap ((c.toNat - 128:Nat):Int)=((c.toNat - 128:Nat):Int):=wrap32 aa;simp only[ws,ct,go_sem,simprocAttr,g,j,kd,gc,e1,IntKind.bits,e4,e5,q,u,v,o,p]
   ·grind
   grind [yb]
  ·left
   have g:((i:Int)<b):=aa
   have j:(0:Int)<=i:=aa
   have h:¬((c.toNat&&&192:Nat):Int)=128:=fun e=>d (e3.1 aa)
   refine⟨.ret,⟨[(6,.flat (.int .i32 0)),(7,.flat (.bool false))],[],[],[]⟩,?_,ea,?_⟩
   ·simp only[ws,ct,go_sem,simprocAttr,g,j,kd,gc,e1,IntKind.bits,e4,h]
   ·rw[ht,k];simp only[yb];rw[if_neg d];rfl
 ·left
  have d:i=b:=aa
  subst d;refine⟨.exit 0,⟨[(1,.flat (.int .i32 r))],[],[],[]⟩,?_,ea,by grind [yb,zw]⟩;have g:¬((i:Int)<i):=aa
  simp only[ws,ct,go_sem,simprocAttr,g]
def zge(l)(a:Nat)(g:a<=3)(r:Nat)(hr:r<32):da code lib 275 [.flat (.string (S l)),.flat (.int .i32 r),.flat (.int .i64 a)] [] []=some ([.flat (.int .i32 (yb l r a).1),.flat (.bool (yb l r a).2)],false,[],[]):=by
 refine ja E1 (qa rfl) ?_;by_cases e:l.length<a
 ·have d:((l.length:Int)<a):=aa
  rw[CE l r a e];exact ta
 ·have d:¬((l.length:Int)<a):=aa
  have b:=zgf (lib:=lib) l a g aa r hr;simp only[ct,n0]at b;cases c:(yb l r a).2 with
  |true=>
   simp only[zw,c,if_true]at b;exact ta
  |false=>
   have h:=dR l r a c;simp only[zw,c,Ha,if_false]at b;exact ta
def Sb(n:Nat):Bool:=decide (n<=1114111)&&(decide (n<55296)||decide (57343<n))
def kz(n:Nat):da code lib 227 [.flat (.int .i32 n)] [] []=some ([.flat (.bool (Sb n))],false,[],[]):=by
 refine ja C1 (qa rfl) ?_;have d:(0:Int)<=n:=aa
 by_cases e:n<=1114111<;>by_cases g:n<55296
 all_goals
  have a:((n:Int)<=1114111)=(n<=1114111):=by apply propext;omega
  have b:((n:Int)<55296)=(n<55296):=by apply propext;omega
  have c:((57343:Int)<n)=(57343<n):=by apply propext;omega
  simp only[go_sem,simprocAttr,Sb,d,a,b,c,e,g,oq,Wg]
def cg(r b a:Nat)(l:ba):Nat×Nat:=if(yb l r a).2=true/\b<=(yb l r a).1/\Sb (yb l r a).1=true then((yb l r a).1,a+1)else(65533,1)
def Sa:ba->Nat×Nat
 |[]=>(0,0)
 |c::l=>
  if c.toNat<128 then(c.toNat,1)
  else if 192<=c.toNat/\c.toNat<224 then cg (c.toNat - 192) 128 1 l
  else if 224<=c.toNat/\c.toNat<240 then cg (c.toNat - 224) 2048 2 l
  else if 240<=c.toNat/\c.toNat<248 then cg (c.toNat - 240) 65536 3 l
  else(65533,1)
def b_(c:UInt8)(h:192<=c.toNat/\c.toNat<224):c.toNat&&&31=c.toNat - 192:=by
 have:=Qj (p:=fun n=>decide (192<=n/\n<224->n&&&31=n - 192)) Hb c
 grind
def c_(c:UInt8)(h:224<=c.toNat/\c.toNat<240):c.toNat&&&15=c.toNat - 224:=by
 have:=Qj (p:=fun n=>decide (224<=n/\n<240->n&&&15=n - 224)) Hb c
 grind
def d_(c:UInt8)(h:240<=c.toNat/\c.toNat<248):c.toNat&&&7=c.toNat - 240:=by
 have:=Qj (p:=fun n=>decide (240<=n/\n<248->n&&&7=n - 240)) Hb c
 grind
def Sm(l:ba):Prop:=l.length<=1000000000000
theorem N5:∀(l)(r m),r<32->m<=3->(yb l r m).1<8388608:=by
 have a:∀(m:Nat)(l:ba)(r k:Nat),r<32* 64^k->m+k<=3->(yb l r m).1<8388608:=by
  intro m
  induction m with
  |zero=>
   grind [Nat,yb]
  |succ m b=>
   intro l r k hr d;cases l with
   |nil=>simp[yb]
   |cons c l=>
    simp only[yb];split
    ·exact b l _ (k+1) aa aa
    ·simp
 exact fun l r m hr e=>a m l r 0 aa aa
def cA(l)(hs:Sm l)(k)(J:k<=l.length):da code lib 225 [.flat (.string (S l)),.flat (.int .i64 k)] [] []=some ([.flat (.int .i32 (Sa (l.drop k)).1),.flat (.int .i64 (Sa (l.drop k)).2)],false,[],[]):=by
 unfold Sm at hs;refine ja z1 (qa rfl) ?_;have p:¬((k:Int)<0):=aa
 by_cases fa:k<l.length
 ·obtain⟨c,t,ht⟩:∃c t,l.drop k=c::t:=⟨l[k],l.drop (k+1),Qd fa⟩
  have e1:=Yh ht;have I:=c.toNat_lt;have e2:=Pm ht;have n:¬((l.length:Int)<=k):=aa
  have q:(0:Int)<=k:=aa
  have c1:((c.toNat:Int)<128)=(c.toNat<128):=by apply propext;omega
  have c2:((192:Int)<=c.toNat)=(192<=c.toNat):=by apply propext;omega
  have c3:((c.toNat:Int)<224)=(c.toNat<224):=by apply propext;omega
  have c4:((224:Int)<=c.toNat)=(224<=c.toNat):=by apply propext;omega
  have c5:((c.toNat:Int)<240)=(c.toNat<240):=by apply propext;omega
  have u:((240:Int)<=c.toNat)=(240<=c.toNat):=by apply propext;omega
  have y:((c.toNat:Int)<248)=(c.toNat<248):=by apply propext;omega
  rw[ht];by_cases e:c.toNat<128
  ·have a:IntKind.i32.wrap (c.toNat:Int)=c.toNat:=wrap32 aa
   simp only[go_sem,simprocAttr,Ua,kd,p,n,q,gc,e1,c1,e,a,Sa,n1]
  ·have z:IntKind.i64.wrap ((k:Int)+1)=((k+1:Nat):Int):=wrap64 aa
   have b1:(0:Int)<=((k+1:Nat):Int)/\((k+1:Nat):Int)<=l.length:=aa
   have A:(l.take l.length).drop (k+1)=t:=by rw[pm,e2]
   have fin:∀(r b a:Nat),r<32->a<=3->
    (cg r b a t=((yb t r a).1,a+1)/\(yb t r a).2=true/\b<=(yb t r a).1/\Sb (yb t r a).1=true)\/(cg r b a t=(65533,1)/\((yb t r a).2=false\/(yb t r a).2=true/\(¬b<=(yb t r a).1\/b<=(yb t r a).1/\Sb (yb t r a).1=false))):=fun r b a _ _=>by
    grind [cg]
   have E:∀(r b a:Nat),r<32->a<=3->da code lib 275 [.flat (.string (S t)),.flat (.int .i32 r),.flat (.int .i64 a)] [] []=_:=fun r _ a hr H=>zge (lib:=lib) t a H r hr
   by_cases F:192<=c.toNat/\c.toNat<224
   ·have v:Fm .u8 (c.toNat:Int) 31=((c.toNat - 192:Nat):Int):=by rw[<-b_ c F];exact u8_and c.toNat 31 aa aa
    have x:IntKind.i32.wrap ((c.toNat - 192:Nat):Int)=((c.toNat - 192:Nat):Int):=wrap32 aa;have o:=E (c.toNat - 192) 128 1 aa aa;have C:=kz (lib:=lib) (yb t (c.toNat - 192) 1).1;rw[n1]at o;have D:Sa (c::t)=cg (c.toNat - 192) 128 1 t:=by
     simp only[Sa];rw[if_neg e,if_pos F]
    have lt:(((yb t (c.toNat - 192) 1).1:Int)<128)=¬(128<=(yb t (c.toNat - 192) 1).1):=by apply propext;omega
    have w:(192<=c.toNat)=True:=La
    have r2:(c.toNat<224)=True:=La
    have h:(224<=c.toNat)=False:=La
    have r3:(c.toNat<240)=True:=La
    have g:(240<=c.toNat)=False:=La
    have r4:(c.toNat<248)=True:=La
    rw[D];rcases fin (c.toNat - 192) 128 1 aa aa with⟨i,d,j,B⟩|⟨i,d|⟨d,j|⟨j,B⟩⟩⟩
    ·rw[i];simp only[go_sem,simprocAttr,Ua,kd,rh,p,n,q,gc,e1,c1,c2,c3,c4,c5,u,y,e,w,r2,h,r3,g,r4,v,z,b1.1,b1.2,A,x,o,d,lt,j,C,B,n2,n3,n4,Tr,Ur,cu]
    ·rw[i];simp only[go_sem,simprocAttr,Ua,kd,rh,p,n,q,gc,e1,c1,c2,c3,c4,c5,u,y,e,w,r2,h,r3,g,r4,v,z,b1.1,b1.2,A,x,o,d,n1,pj]
    ·rw[i];simp only[go_sem,simprocAttr,Ua,kd,rh,p,n,q,gc,e1,c1,c2,c3,c4,c5,u,y,e,w,r2,h,r3,g,r4,v,z,b1.1,b1.2,A,x,o,d,lt,j,n1,pj]
    ·rw[i];simp only[go_sem,simprocAttr,Ua,kd,rh,p,n,q,gc,e1,c1,c2,c3,c4,c5,u,y,e,w,r2,h,r3,g,r4,v,z,b1.1,b1.2,A,x,o,d,lt,j,C,B,n1,pj]
   by_cases a3:224<=c.toNat/\c.toNat<240
   ·have v:Fm .u8 (c.toNat:Int) 15=((c.toNat - 224:Nat):Int):=by rw[<-c_ c a3];exact u8_and c.toNat 15 aa aa
    have x:IntKind.i32.wrap ((c.toNat - 224:Nat):Int)=((c.toNat - 224:Nat):Int):=wrap32 aa;have o:=E (c.toNat - 224) 2048 2 aa aa;have C:=kz (lib:=lib) (yb t (c.toNat - 224) 2).1;rw[n2]at o;have D:Sa (c::t)=cg (c.toNat - 224) 2048 2 t:=by
     simp only[Sa];rw[if_neg e,if_neg aa,if_pos a3]
    have lt:(((yb t (c.toNat - 224) 2).1:Int)<2048)=¬(2048<=(yb t (c.toNat - 224) 2).1):=by apply propext;omega
    have w:(192<=c.toNat)=True:=La
    have r2:(c.toNat<224)=False:=La
    have h:(224<=c.toNat)=True:=La
    have r3:(c.toNat<240)=True:=La
    have g:(240<=c.toNat)=False:=La
    have r4:(c.toNat<248)=True:=La
    rw[D];rcases fin (c.toNat - 224) 2048 2 aa aa with⟨i,d,j,B⟩|⟨i,d|⟨d,j|⟨j,B⟩⟩⟩
    ·rw[i];simp only[go_sem,simprocAttr,Ua,kd,rh,p,n,q,gc,e1,c1,c2,c3,c4,c5,u,y,e,w,r2,h,r3,g,r4,v,z,b1.1,b1.2,A,x,o,d,lt,j,C,B,n2,n3,n4,Tr,Ur,cu]
    ·rw[i];simp only[go_sem,simprocAttr,Ua,kd,rh,p,n,q,gc,e1,c1,c2,c3,c4,c5,u,y,e,w,r2,h,r3,g,r4,v,z,b1.1,b1.2,A,x,o,d,n1,pj]
    ·rw[i];simp only[go_sem,simprocAttr,Ua,kd,rh,p,n,q,gc,e1,c1,c2,c3,c4,c5,u,y,e,w,r2,h,r3,g,r4,v,z,b1.1,b1.2,A,x,o,d,lt,j,n1,pj]
    ·rw[i];simp only[go_sem,simprocAttr,Ua,kd,rh,p,n,q,gc,e1,c1,c2,c3,c4,c5,u,y,e,w,r2,h,r3,g,r4,v,z,b1.1,b1.2,A,x,o,d,lt,j,C,B,n1,pj]
   by_cases a4:240<=c.toNat/\c.toNat<248
   ·have v:Fm .u8 (c.toNat:Int) 7=((c.toNat - 240:Nat):Int):=by rw[<-d_ c a4];exact u8_and c.toNat 7 aa aa
    have x:IntKind.i32.wrap ((c.toNat - 240:Nat):Int)=((c.toNat - 240:Nat):Int):=wrap32 aa;have o:=E (c.toNat - 240) 65536 3 aa aa;have C:=kz (lib:=lib) (yb t (c.toNat - 240) 3).1;rw[n3]at o;have D:Sa (c::t)=cg (c.toNat - 240) 65536 3 t:=by
     simp only[Sa];rw[if_neg e,if_neg aa,if_neg aa,if_pos a4]
    have lt:(((yb t (c.toNat - 240) 3).1:Int)<65536)=¬(65536<=(yb t (c.toNat - 240) 3).1):=by apply propext;omega
    have w:(192<=c.toNat)=True:=La
    have r2:(c.toNat<224)=False:=La
    have h:(224<=c.toNat)=True:=La
    have r3:(c.toNat<240)=False:=La
    have g:(240<=c.toNat)=True:=La
    have r4:(c.toNat<248)=True:=La
    rw[D];rcases fin (c.toNat - 240) 65536 3 aa aa with⟨i,d,j,B⟩|⟨i,d|⟨d,j|⟨j,B⟩⟩⟩
    ·rw[i];simp only[go_sem,simprocAttr,Ua,kd,rh,p,n,q,gc,e1,c1,c2,c3,c4,c5,u,y,e,w,r2,h,r3,g,r4,v,z,b1.1,b1.2,A,x,o,d,lt,j,C,B,n2,n3,n4,Tr,Ur,cu]
    ·rw[i];simp only[go_sem,simprocAttr,Ua,kd,rh,p,n,q,gc,e1,c1,c2,c3,c4,c5,u,y,e,w,r2,h,r3,g,r4,v,z,b1.1,b1.2,A,x,o,d,n1,pj]
    ·rw[i];simp only[go_sem,simprocAttr,Ua,kd,rh,p,n,q,gc,e1,c1,c2,c3,c4,c5,u,y,e,w,r2,h,r3,g,r4,v,z,b1.1,b1.2,A,x,o,d,lt,j,n1,pj]
    ·rw[i];simp only[go_sem,simprocAttr,Ua,kd,rh,p,n,q,gc,e1,c1,c2,c3,c4,c5,u,y,e,w,r2,h,r3,g,r4,v,z,b1.1,b1.2,A,x,o,d,lt,j,C,B,n1,pj]
   have D:Sa (c::t)=(65533,1):=by
    simp only[Sa];rw[if_neg e,if_neg F,if_neg a3,if_neg a4]
   rw[D];have g:(240<=c.toNat/\c.toNat<248)=False:=La
   by_cases G:192<=c.toNat
   ·have r2:¬c.toNat<224:=aa
    have h:224<=c.toNat:=aa
    have r3:¬c.toNat<240:=aa
    have g:240<=c.toNat:=aa
    have r4:¬c.toNat<248:=aa
    simp only[go_sem,simprocAttr,Ua,kd,p,n,q,gc,e1,c1,c2,c3,c4,c5,u,y,e,G,r2,h,r3,g,r4,n1,pj]
   ·have h:¬224<=c.toNat:=aa
    have g:¬240<=c.toNat:=aa
    simp only[go_sem,simprocAttr,Ua,kd,p,n,q,gc,e1,c1,c2,c4,u,e,G,h,g,n1,pj]
 ·have a:k=l.length:=aa
  subst a;have n:((l.length:Int)<=l.length):=aa
  simp only[go_sem,simprocAttr,Ua,p,n,pq,Sa,n0]
def xe(n:Nat):List Nat:=
 if n<128 then[n]
 else if n<2048 then[192+n/64,128+n % 64]
 else if n<65536 then[224+n/4096,128+n/64 % 64,128+n % 64]
 else[240+n/262144,128+n/4096 % 64,128+n/64 % 64,128+n % 64]
def Ka(n:Nat):ba:=(xe (if Sb n then n else 65533)).map UInt8.ofNat
def zbb(x)(h:x<64):128|||x=128+x:=by
 have:=Qj (p:=fun n=>decide (n<64->128|||n=128+n)) Hb (UInt8.ofNat x);have a:(UInt8.ofNat x).toNat=x:=La
 grind
def zbc(x)(h:x<32):192|||x=192+x:=by
 have:=Qj (p:=fun n=>decide (n<32->192|||n=192+n)) Hb (UInt8.ofNat x);have a:(UInt8.ofNat x).toNat=x:=La
 grind
def zbd(x)(h:x<16):224|||x=224+x:=by
 have:=Qj (p:=fun n=>decide (n<16->224|||n=224+n)) Hb (UInt8.ofNat x);have a:(UInt8.ofNat x).toNat=x:=La
 grind
def zbe(x)(h:x<8):240|||x=240+x:=by
 have:=Qj (p:=fun n=>decide (n<8->240|||n=240+n)) Hb (UInt8.ofNat x);have a:(UInt8.ofNat x).toNat=x:=La
 grind
def Am(n:Nat)(h:n<2147483648):Fm .i32 (n:Int) 63=((n % 64:Nat):Int):=by
 have a:=c6 n 63 h aa;have b:=ku n 6
 grind
def Fw(n:Nat):(n:Int).fdiv (2^(min 6 32))=((n/64:Nat):Int):=by
 grind
def nw(x:Nat)(h:x<64):Dg .u8 128 (x:Int)=((128+x:Nat):Int):=by rw[<-zbb x h];exact u8_or 128 x aa aa
def sh1:IntKind.u8.wrap (255* 2^min 6 8)=192:=ha
def xV:IntKind.u8.wrap (255* 2^min 5 8)=224:=ha
def sh3:IntKind.u8.wrap (255* 2^min 4 8)=240:=ha
def Gs(n:Nat)(t:n<2147483648):da code lib 159 [.flat (.int .i32 n)] [] []=some ([.flat (.string (S (Ka n)))],false,[],[]):=by
 refine ja y1 (qa rfl) ?_;have b:=kz (lib:=lib) n;cases g:Sb n with
 |true=>
  rw[g]at b;have r:n<=1114111:=by simp only[Sb,cc,decide_eq_true_eq]at g;exact g.1
  have c1:((65536:Int)<=n)=(65536<=n):=by apply propext;omega
  have c2:((2048:Int)<=n)=(2048<=n):=by apply propext;omega
  have c3:((128:Int)<=n)=(128<=n):=by apply propext;omega
  have a0:=Am n t;have j:=Am (n/64) aa;have q:=Am (n/64/64) aa;have i:=Fw n;have s1:=Fw (n/64);have v:=Fw (n/64/64);have h:=nw (n % 64) aa;have o1:=nw (n/64 % 64) aa;have u:=nw (n/64/64 % 64) aa;have v0:IntKind.u8.wrap ((n % 64:Nat):Int)=((n % 64:Nat):Int):=Kj aa;have o:IntKind.u8.wrap ((n/64 % 64:Nat):Int)=((n/64 % 64:Nat):Int):=Kj aa;have p:IntKind.u8.wrap ((n/64/64 % 64:Nat):Int)=((n/64/64 % 64:Nat):Int):=Kj aa;simp only[Ka,g,if_true];by_cases l:65536<=n
  ·have k:2048<=n:=aa
   have e:128<=n:=aa
   have c:IntKind.u8.wrap ((n/64/64/64:Nat):Int)=((n/64/64/64:Nat):Int):=Kj aa;have d:Dg .u8 240 ((n/64/64/64:Nat):Int)=((240+n/64/64/64:Nat):Int):=by rw[<-zbe _ aa];exact u8_or 240 _ aa aa
   have a:xe n=[240+n/64/64/64,128+n/64/64 % 64,128+n/64 % 64,128+n % 64]:=by
    unfold xe;rw[if_neg aa,if_neg aa,if_neg aa];simp only[Nat.div_div_eq_div_mul]
   rw[a];simp(disch:=omega) only[go_sem,simprocAttr,b,c1,c2,c3,l,k,e,mB,Tr,Ur,cu,lB,lc,Bb,uA,Mb,Zb,a0,j,q,i,s1,v,h,o1,u,v0,o,p,c,d,sh3,IntKind.bits,Xo,Yo,ff,Xb,Fe]
  ·by_cases k:2048<=n
   ·have e:128<=n:=aa
    have c:IntKind.u8.wrap ((n/64/64:Nat):Int)=((n/64/64:Nat):Int):=Kj aa;have d:Dg .u8 224 ((n/64/64:Nat):Int)=((224+n/64/64:Nat):Int):=by rw[<-zbd _ aa];exact u8_or 224 _ aa aa
    have a:xe n=[224+n/64/64,128+n/64 % 64,128+n % 64]:=by
     unfold xe;rw[if_neg aa,if_neg aa,if_pos aa];simp only[Nat.div_div_eq_div_mul]
    rw[a];simp(disch:=omega) only[go_sem,simprocAttr,b,c1,c2,c3,l,k,e,mB,Tr,Ur,cu,vJ,lB,lc,Bb,uA,Mb,Zb,a0,j,i,s1,h,o1,v0,o,c,d,xV,IntKind.bits,Xo,Yo,ff,Xb,Fe]
   ·by_cases e:128<=n
    ·have c:IntKind.u8.wrap ((n/64:Nat):Int)=((n/64:Nat):Int):=Kj aa
     have d:Dg .u8 192 ((n/64:Nat):Int)=((192+n/64:Nat):Int):=by rw[<-zbc _ aa];exact u8_or 192 _ aa aa
     have a:xe n=[192+n/64,128+n % 64]:=by
      unfold xe;rw[if_neg aa,if_pos aa]
     rw[a];simp(disch:=omega) only[go_sem,simprocAttr,b,c1,c2,c3,l,k,e,mB,Tr,Ur,cu,vJ,zhA,lB,lc,Bb,uA,Mb,Zb,a0,i,h,v0,c,d,sh1,IntKind.bits,Xo,Yo,ff,Xb,Fe]
    ·have c:IntKind.u8.wrap (n:Int)=(n:Int):=Kj aa
     have a:xe n=[n]:=by unfold xe;rw[if_pos aa]
     rw[a];simp(disch:=omega) only[go_sem,simprocAttr,b,c1,c2,c3,l,k,e,c,Xo,Yo,ff,Xb,Fe]
 |false=>
  rw[g]at b;have a:Ka n=[239,191,189]:=by unfold Ka;rw[g];simp only[Ha,if_false];decide
  rw[a];have a0:=Am 65533 aa;have j:=Am (65533/64) aa;have i:=Fw 65533;have s1:=Fw (65533/64);have h:=nw (65533 % 64) aa;have o1:=nw (65533/64 % 64) aa;have v0:IntKind.u8.wrap 61=61:=ha
  have o:IntKind.u8.wrap 63=63:=ha
  have p:IntKind.u8.wrap 15=15:=ha
  have d:Dg .u8 224 15=239:=ha
  simp only[uB,Nat.reduceDiv,Nat.reduceMod,Nat.reduceAdd]at a0 j i s1 h o1;have c:bytesOf [.flat (.int .u8 239),.flat (.int .u8 191),.flat (.int .u8 189)]=some [239,191,189]:=ha
  simp only[go_sem,simprocAttr,b,mB,Tr,Ur,vJ,lB,lc,Bb,uA,Mb,Zb,a0,j,i,s1,h,o1,v0,o,p,d,xV,IntKind.bits,c,ff]
theorem Vq(c)(l:ba):1<=(Sa (c::l)).2/\(Sa (c::l)).2<=4:=by
 grind [cg,Sa]
def ql:Nat->ba->List (Nat×Nat)
 |0,_=>[]
 |_+1,[]=>[]
 |n+1,c::l=>Sa (c::l)::ql n ((c::l).drop (Sa (c::l)).2)
def jf(l:ba):List (Nat×Nat):=ql l.length l
theorem zdI:∀(n)(l),l.length<=n->ql n l=jf l:=by
 have a:∀(n m:Nat)(l:ba),l.length<=n->l.length<=m->ql n l=ql m l:=by
  intro n
  induction n with
  |zero=>intro m l b d;have:l=[]:=qz aa;subst this;cases m<;>rfl
  |succ n e=>
   intro m l b d;cases l with
   |nil=>grind
   |cons c l=>
    cases m<;>grind [Vq,ql]
 exact fun n l h=>a n _ l h (Aa _)
theorem LI:jf []=[]:=rfl
theorem Cw(c)(l:ba):jf (c::l)=Sa (c::l)::jf ((c::l).drop (Sa (c::l)).2):=by
 grind [Vq,jf.eq_1,ql.eq_3,zdI]
theorem UD:∀(l),(Sa l).2<=l.length:=by
 have a:∀(l:ba)(r m:Nat),(yb l r m).2=true->m<=l.length:=fun l r m h=>by
  grind [CE]
 intro l;cases l<;>grind [Sa,cg]
theorem Uq:∀(l),(Sa l).1<8388608:=by
 intro l;cases l<;>grind [Sa,cg,N5]
def YB{α}(l)(hs:Sm l)(BX:α->Na)(oc:α->List (Nat×Nat))(step)(I:α->Nat->Prop)(b p nb)(v:∀a k,I a k->(BX a)[p]?=some (9,[.flat (.string (S l))]))(e:∀a,(BX a).length=nb)(r:∀a,∀q∈oc a,q.1<nb)
 (C:∀a k q,I a k->k<l.length->Sa (l.drop k)=q->1<=q.2->k+q.2<=l.length->(step a q).2=true->I (step a q).1 (k+q.2))
 (D:∀a k q,I a k->k<l.length->Sa (l.drop k)=q->k+q.2<=l.length->q.1<8388608->q.2<=4->da code lib hb [.Oa b,.flat (.int .i32 (q.1:Nat)),.flat (.int .i64 (q.2:Nat))] (BX a) (cl (oc a))=some ([.flat (.bool (step a q).2)],false,BX (step a q).1,cl (oc (step a q).1))) (a) (u:I a 0):
 da code lib 224 [.Oa b,.ptr p 0] (BX a) (cl (oc a))=some ([],false,BX (Ke step a (jf l)).1,cl (oc (Ke step a (jf l)).1)):=by
 refine ja B1 (qa rfl) ?_
 have d:=Dh (body:=oa (da code lib) ia WC) (live:=[0,1,3]) (nb:=nb) (fun q:α×Nat=>(⟨[(0,.Oa b),(1,.ptr p 0),(3,.flat (.int .i64 (q.2:Nat)))],cl (oc q.1),[],BX q.1⟩:St)) (fun q=>I q.1 q.2/\q.2<=l.length) (fun q=>l.length - q.2)
  (fun q=>(if(Ke step q.1 (jf (l.drop q.2))).2 then .exit 0 else .ret,⟨[],cl (oc (Ke step q.1 (jf (l.drop q.2))).1),[],BX (Ke step q.1 (jf (l.drop q.2))).1⟩)) (fun⟨a,k⟩ ⟨u,A⟩=>?_) (n:=ia) (a:=(a,0)) ⟨u,Ab _⟩ (by grind [Sm,ia])
 ·have j:=e a
  have o:=e (Ke step a (jf l)).1;have g:((0:Nat):Int)=0:=rfl;simp only[zf,g]at d;by_cases h:(Ke step a (jf l)).2=true
  ·simp only[h,if_true]at d
   simp only[go_sem,simprocAttr,Jb,ob,Ib,Db,Ce j,j,pb _ (r _),d,o,Ce o]
  ·simp only[h,Ha,if_false]at d
   simp only[go_sem,simprocAttr,Jb,ob,Ib,Db,Ce j,j,pb _ (r _),d,o,Ce o]
 ·unfold Sm at hs
  dsimp only at u A⊢;have z:=v a k u;have j:=e a;have F:(0:Int)<=k:=aa
  have e1:=cA (lib:=lib) l hs k A;by_cases fa:k<l.length
  ·obtain⟨c,t,ht⟩:∃c t,l.drop k=c::t:=⟨l[k],l.drop (k+1),Qd fa⟩
   have y:((k:Int)<l.length):=aa
   have i:=Vq c t;have w:=UD (l.drop k);rw[fc]at w;have x:(Sa (l.drop k)).1<8388608:=Uq _;have hr:jf (l.drop k)=Sa (l.drop k)::jf (l.drop (k+(Sa (l.drop k)).2)):=by
    rw[<-Cd,ht,Cw]
   rw[<-ht]at i;have h:=D a k (Sa (l.drop k)) u fa rfl aa x i.2;obtain⟨q,B⟩:∃q,Sa (l.drop k)=q:=⟨_,rfl⟩;rw[B]at e1 h hr w i;rw[hr];have o:=e (step a q).1;have E:IntKind.i64.wrap ((k:Int)+(q.2:Nat))=((k+q.2:Nat):Int):=wrap64 aa;simp only[Ke];by_cases g:(step a q).2=true
   ·right
    rw[g]at h;refine⟨⟨[(0,.Oa b),(1,.ptr p 0),(3,.flat (.int .i64 ((k+q.2:Nat):Int)))],cl (oc (step a q).1),[],BX (step a q).1⟩,((step a q).1,k+q.2),?_,?_,⟨C a k q u fa B i.1 aa g,aa⟩,aa,?_⟩
    ·simp only[aI,go_sem,simprocAttr,Jb,ob,Ib,Db,Rb,z,Ua,y,e1,h,E,j,o,Bc]
    ·simp only[go_sem,simprocAttr,Jb,ob,Ce o,o,pb _ (r _)]
    simp_all
   ·left
    have g:(step a q).2=false:=by simpa using g
    rw[g]at h;refine⟨.ret,⟨[],cl (oc (step a q).1),[],BX (step a q).1⟩,?_,ea,?_⟩
    ·simp only[aI,go_sem,simprocAttr,Jb,ob,Ib,Db,Rb,z,Ua,y,e1,h,j,Bc]
    grind
  ·left
   have g:k=l.length:=aa
   subst g;have y:¬((l.length:Int)<l.length):=aa
   refine⟨.exit 0,⟨[],cl (oc a),[],BX a⟩,?_,ea,?_⟩
   ·simp only[aI,go_sem,simprocAttr,Jb,ob,Ib,Db,Rb,z,Ua,y,j]
   grind [LI,Ke]
def WB(l)(bx)(oc)(h:∀q∈oc,q.1<bx.length):da code lib 155 [.flat (.string (S l))] bx (cl oc)=some ([.cb 224 [.ptr bx.length 0]],false,bx++[(9,[.flat (.string (S l))])],cl oc):=by
 refine ja A1 (qa rfl) ?_;have b:∀q∈oc,q.1<(bx++[(9,[PV.flat (.string (S l))])]).length:=fun q a=>by have:=h q a;simp;omega
 have c:¬(bx.length+1=bx.length):=aa
 have d:sc (bx.length+1) (cl oc)=cl oc:=pb _ fun q a=>by grind
 exact Kb @Da.{0} @Nat.lt_irrefl
def XB(l)(bx):da code lib 155 [.flat (.string (S l))] bx []=some ([.cb 224 [.ptr bx.length 0]],false,bx++[(9,[.flat (.string (S l))])],[]):=WB l bx [] ea
def Sd(q:Nat×Nat):Bool:=decide (q.1=65533/\q.2=1)
def Vh(l:ba):Bool:=(jf l).all fun q=>!Sd q
def ro(a:Bool)(q:Nat×Nat):Bool×Bool:=if Sd q then(true,false)else(a,true)
def Wo(l:ba)(a:Bool):Na:=[(4,[.flat (.bool false)]),(9,[.flat (.string (S l))]),(0,[.lp 92 0 (if a then .done .ret else .ready) [2] [.ptr 0 0]])]
def foldI(L):Ke ro false L=(!(L.all fun q=>!Sd q),L.all fun q=>!Sd q):=by
 induction L<;>grind [Ke,ro]
def Z6(l)(q)(d:q.1<8388608)(e:q.2<=4):da code lib hb [.Oa 2,.flat (.int .i32 (q.1:Nat)),.flat (.int .i64 (q.2:Nat))] (Wo l false) []=some ([.flat (.bool (ro false q).2)],false,Wo l (ro false q).1,[]):=by
 refine vp ip VO rfl rfl rfl ?_;by_cases c1:q.1=65533
 ·have a:((q.1:Nat):Int)=65533:=aa
  by_cases c2:q.2=1
  ·have b:((q.2:Nat):Int)=1:=aa
   have c:Sd q=true:=by simp[Sd,c1,c2]
   simp only[hz,dz,Wo,ro,c,a,b,go_sem,simprocAttr]
  ·have b:¬((q.2:Nat):Int)=1:=aa
   have c:Sd q=false:=by simp[Sd,c2]
   simp only[hz,dz,Wo,ro,c,a,b,go_sem,simprocAttr]
 ·have a:¬((q.1:Nat):Int)=65533:=aa
  have c:Sd q=false:=by simp[Sd,c1]
  simp only[hz,dz,Wo,ro,c,a,go_sem,simprocAttr]
def PR(l)(hs:Sm l):da code lib 92 [.flat (.string (S l))] [] []=some ([.flat (.bool (Vh l))],false,[],[]):=by
 refine ja VO (qa rfl) ?_;have b:=YB (lib:=lib) l hs (Wo l) (fun _=>[]) ro (fun a _=>a=false) 2 1 3 (fun a _ _=>rfl) (fun a=>rfl) (fun a q i=>by cases i) (fun a k q d _ _ _ _ j=>by
  grind [ro]) (fun a k q d _ _ _ g h=>by subst d;exact Z6 l q g h) false rfl
 rw[foldI]at b;simp only[Zo]at b;have n:=fun bx=>XB (lib:=lib) l bx
 cases e:Vh l with
 |true=>
  have c:((jf l).all fun q=>!Sd q)=true:=e;simp only[c,Wo,nm,Ha,if_false]at b;exact ta
 |false=>
  have c:((jf l).all fun q=>!Sd q)=false:=e;simp only[c,Wo,pn,Ha,if_false,if_true]at b;exact ta
def Yd(l:List Nat):List PV:=l.map fun r=>.flat (.int .i32 (r:Nat))
def sI{l}:(Yd l).length=l.length:=by simp[Yd]
theorem zc0{a b}:Yd a++Yd b=Yd (a++b):=by simp[Yd]
theorem MU:∀a,td (Yd a)=true
 |[]=>rfl
 |c::a=>by show td (.flat (.int .i32 (c:Nat))::Yd a)=true;rw[ew,MU a];rfl
theorem LU{n}:∀a,Ia n (Yd a)=true
 |[]=>rfl
 |c::a=>by show Ia n (.flat (.int .i32 (c:Nat))::Yd a)=true;simp only[Ia,PV.low,LU a,pd]
def Fs(l:ba)(out:List Nat):Na:=[(278,[.ga out.length (Yd out)]),(9,[.flat (.string (S l))]),(0,[.lp 231 0 .ready [3] [.ptr 0 0]])]
def ZA(out:List Nat)(q:Nat×Nat):List Nat×Bool:=(out++[q.1],true)
theorem GQ:∀(L)(out),Ke ZA out L=(out++L.map (·.1),true)
 |[],out=>by simp[Ke]
 |q::L,out=>by simp only[Ke,ZA,if_true];rw[GQ L];simp
def zdJ(l)(out)(q:Nat×Nat)(c:out.length<4294967296):da code lib hb [.Oa 2,.flat (.int .i32 (q.1:Nat)),.flat (.int .i64 (q.2:Nat))] (Fs l out) [.cell 0 0]=some ([.flat (.bool true)],false,Fs l (out++[q.1]),[.cell 0 0]):=by
 refine vp ip WO rfl rfl rfl ?_;have a:out.length+1<=za:=Ie
 have b:[PV.flat (.int .i32 (q.1:Nat))]=Yd [q.1]:=rfl;simp only[nR,XQ,Fs,go_sem,simprocAttr,sI,MU,a,Nat.mul_one]
 grind [zc0]
def Kd(l:ba):List Nat:=(jf l).map (·.1)
def kV(l)(hs:l.length<4294967296):da code lib 231 [.flat (.string (S l))] [] []=some ([.ga (Kd l).length (Yd (Kd l))],false,[],[]):=by
 refine ja WO (qa rfl) ?_;have b:=YB (lib:=lib) l (by grind [Sm]) (Fs l) (fun _=>[(0,0)]) ZA (fun out k=>out.length<=k) 2 1 3 (fun a _ _=>rfl) (fun a=>rfl) (fun a q n=>by grind) (fun a k q i _ _ g _ _=>by grind [ZA]) (fun a k q i j _ g _ _=>zdJ l a q aa) [] (Ab _);rw[GQ]at b;have e:cl [(0,0)]=[.cell 0 0]:=rfl;simp only[e,Ma]at b;have d:=fun bx h=>WB (lib:=lib) l bx [(0,0)] h
 simp only[e]at d;have c:da code lib 224 [.Oa 2,.ptr 1 0] [(278,[.ga 0 []]),(9,[.flat (.string (S l))]),(0,[.lp 231 0 .ready [3] [.ptr 0 0]])] [.cell 0 0]=some ([],false,Fs l (Kd l),[.cell 0 0]):=b;have e1:=d [(278,[.ga 0 []])] ea;simp only[go_sem,simprocAttr]at e1;have e2:=XB (lib:=lib) l [];simp only[go_sem,simprocAttr]at e2;exact Kb @Fs.eq_1 @LU
end ya
namespace Go.Proofs.YtglaihdcndcmkaaGreatDoor
def HV:(Tryz.prog.info? 101).map (·.size)=some 2:=ca
set_option maxRecDepth 100000 in
def jZ(b o)(w)(c:w.cell? ⟨b,o,none⟩=some (.pointer (some ⟨b,o,none⟩))):
 Calls Tryz.prog 93 #[.pointer (some ⟨b,o,none⟩)] w fun e w'=>e=.returned (.tuple #[])/\w'=w:=by
 obtain⟨j,a,_⟩:=qm HV
 go_enter Tryz.func93,Tryz.ntmps93
 go_wp2;rw[Lib.run_neq_ptr_same w _ Tryz.underlying98 a];go_wp2
 go_end0
 simp
set_option maxRecDepth 100000 in
def hZ(b o e cells:Nat)(w:World)(l:w.cell? ⟨b,o,none⟩=some (.pointer none))(a:w.shape? b=some (e,cells))(k:o<cells)(i:liesAt Tryz.prog Tryz.prog.depth e (cells/Tryz.prog.cellsOf e) o 101 1=true)(h:w.frozen? ⟨b,o,none⟩=false):
 Calls Tryz.prog 93 #[.pointer (some ⟨b,o,none⟩)] w fun e w'=>e=.returned (.tuple #[])/\w'=w.setCell ⟨b,o,none⟩ (.pointer (some ⟨b,o,none⟩)):=by
 obtain⟨j,d,c⟩:=qm HV;have g:(w.setCell ⟨b,o,none⟩ (.pointer (some ⟨b,o,none⟩))).cell? ⟨b,o,none⟩=some (.pointer (some ⟨b,o,none⟩)):=World.cell?_setCell_same' _ _ _ la
 go_enter Tryz.func93,Tryz.ntmps93
 go_wp2;rw[Lib.run_to_unsafe w ⟨b,o,none⟩ Tryz.underlying98 Tryz.underlying230 d (by rw[c];decide) a k];simp only[Result.andThen];rw[lu];go_wp2;rw[run_callFunc_extern Tryz.func156 ca ca ca (e:=Extern.AbiNoEscape.same) ca];rw[Lib.run_noEscape];simp only[Result.andThen];rw[lu];go_wp2;rw[Lib.run_from_unsafe w ⟨b,o,none⟩ Tryz.underlying230 Tryz.underlying98 d a i];simp only[Result.andThen];rw[lu];go_wp2
 go_end0
 simp
def yu(w:World)(g n:Nat)(w':World):Prop:=w'.heap=(w.freeze ⟨g,0,none⟩ n).heap/\w'.os=w.os/\w'.tape=w.tape/\w'.output=w.output
set_option maxRecDepth 100000 in
def zfA(b o g a cells)(l)(w)(i:l≠[])(c:a≠0)(h:w.cell? ⟨b,o+1,none⟩=some (.slice (some ⟨g,0,none⟩) l.length a))(d:w.shape? g=some (5,cells))(p:l.length<=cells)(hmx:l.length<=maxLen)(Jd:∀j x,l[j]?=some x->w.cell? ((⟨g,0,none⟩:Addr).add j)=some (.int .u8 x.toNat)):
 Calls Tryz.prog 46 #[.pointer (some ⟨b,o,none⟩)] w fun e w'=>e=.returned (.string ⟨l.toArray⟩)/\yu w g l.length w':=by
 have c1:=h;have k:(Builtin.unsafeSliceData_ #[99] 170 #[.slice (some ⟨g,0,none⟩) l.length a]).run Tryz.prog w.drew=.ok (.pointer (some ⟨g,0,none⟩)) w.drew:=
  Lib.run_unsafeSliceData_row _ _ _ _ _ _ c
 have n:(Builtin.unsafeString_ #[170,3] 9 #[.pointer (some ⟨g,0,none⟩),.int .i64 l.length]).run Tryz.prog w.drew=.ok (.string ⟨l.toArray⟩) (w.drew.freeze ⟨g,0,none⟩ l.length):=
  Lib.run_unsafeString_row w.drew 170 3 9 5 Tryz.underlying170 ca g cells d l i p (by unfold maxLen at hmx;omega) Jd
 have q:yu w g l.length (w.drew.freeze ⟨g,0,none⟩ l.length):=by
  refine⟨?_,?_,?_,?_⟩<;>unfold World.freeze<;>(have:w.drew.heap=w.heap:=rfl)<;>rw[this]<;>split<;>rfl
 have mixed:=Tryz.checked.mixed
 go_enter Tryz.func46,Tryz.ntmps46
 go_wp2
 go_region_o
 all_goals (go_wp2;go_ret;simp_all)
set_option maxRecDepth 100000 in
def zfy(b o)(w)(a:w.cell? ⟨b,o+1,none⟩=some (.slice none 0 0)):
 Calls Tryz.prog 46 #[.pointer (some ⟨b,o,none⟩)] w fun e w'=>e=.returned (.string ⟨#[]⟩)/\Below w.heap.size w w':=by
 have c1:=a;have d:=fun(W:World)(q:Option Addr)=>Lib.run_unsafeString_none (P:=Tryz.prog) W 170 3 9 q
 have c:(Builtin.unsafeSliceData_ #[99] 170 #[.slice none 0 0]).run Tryz.prog w.drew=.ok (.pointer none) w.drew:=rfl;have mixed:=Tryz.checked.mixed
 go_enter Tryz.func46,Tryz.ntmps46
 go_wp2
 go_region_o
 all_goals (go_wp2;go_ret;exact⟨rfl,Below.drew (Below.refl _ w)⟩)
set_option maxRecDepth 100000 in
def zfB(b o g e cells:Nat)(w:World)(c:w.cell? ⟨b,o+1,none⟩=some (.slice (some ⟨g,0,none⟩) 0 0))(fa:b<w.heap.size)(a:w.shape? g=some (e,cells)):
 Calls Tryz.prog 46 #[.pointer (some ⟨b,o,none⟩)] w fun e w'=>e=.returned (.string ⟨#[]⟩)/\Below w.heap.size w w':=by
 have h:=fun(W:World)(q:Option Addr)=>Lib.run_unsafeString_none (P:=Tryz.prog) W 170 3 9 q
 have c1:=c;have d:(Builtin.unsafeSliceData_ #[99] 170 #[.slice (some ⟨g,0,none⟩) 0 0]).run Tryz.prog w.drew=.ok (.pointer (some ⟨w.drew.heap.size,0,none⟩)) (w.drew.alloc (.view ⟨g,0,none⟩ 5)):=
  Lib.run_unsafeSliceData_zero w.drew _ _ 5 Tryz.underlying170 ⟨g,0,none⟩ 0 (e,cells) a
 have c2:(w.drew.alloc (.view ⟨g,0,none⟩ 5)).cell? ⟨b,o+1,none⟩=some (.slice (some ⟨g,0,none⟩) 0 0):=by
  have i:(w.drew.alloc (.view ⟨g,0,none⟩ 5)).heap[b]?=w.heap[b]?:=Lib.alloc_old w.drew _ b fa;rw[<-c];simp only[World.cell?,i]
 have c3:(w.alloc (.view ⟨g,0,none⟩ 5)).drew.cell? ⟨b,o+1,none⟩=some (.slice (some ⟨g,0,none⟩) 0 0):=c2;have mixed:=Tryz.checked.mixed
 go_enter Tryz.func46,Tryz.ntmps46
 go_wp2
 go_region_o
 all_goals (go_wp2;go_ret;exact⟨rfl,(Below.drew (Below.refl _ w)).alloc (Aa _) _⟩)
end Go.Proofs.YtglaihdcndcmkaaGreatDoor
namespace ya
noncomputable def qy(args:List PV)(bx:Na)(oc:List Loc):Option Ye:=match args with
 |[.ptr b o]=>(vd bx b).bind fun q=>match q.2[o]? with
  |some (.flat (.pointer none))=>if o<q.2.length/\liesAt Tryz.prog Tryz.prog.depth q.1 (q.2.length/Tryz.prog.cellsOf q.1) o 101 1=true then some ([],false,bx.set b (q.1,q.2.take o++[.ptr b o]++q.2.drop (o+1)),oc)else none
  |some (.ptr a c)=>if a=b/\c=o then some ([],false,bx,oc)else none
  |_=>none
 |_=>none
def XA(args:List PV)(bx:Na)(oc:List Loc):Option Ye:=match args with
 |[.ptr b o]=>(vd bx b).bind fun q=>match q.2[o+1]? with
  |some (.ga n cs)=>if cs.length=n/\.cell b (o+1)∈oc then(bytesOf cs).map fun l=>([.flat (.string ⟨l.toArray⟩)],false,bx,oc.filter (·≠.cell b (o+1)))else none
  |_=>none
 |_=>none
noncomputable def Vo:Callee:=fun f args bx oc=>if f=93 then qy args bx oc else if f=46 then XA args bx oc else none
def pw(a b:Callee):Callee:=fun f args bx oc=>match a f args bx oc with
 |some r=>some r
 |none=>b f args bx oc
def zbf{P}{Γ}{a b}(d:Gb P Γ a)(g:Gb P Γ b):Gb P Γ (pw a b):=fun f args bx oc c os bx' oc' h=>by
 unfold pw at h;split at h
 ·rename_i r e;rw[h]at e;exact d f args bx oc c os bx' oc' e
 ·exact g f args bx oc c os bx' oc' h
section
variable {Γ:ue}
theorem iZ{args:List PV}{bx:Na}{oc:List Loc}{t:List PV}{os:Bool}{bx':Na}{oc':List Loc}(k:qy args bx oc=some (t,os,bx',oc')){w:World}{Fr:Nat->Nat}{β:List Nat}{vs:List Value}(B:wm Tryz.prog Γ w Fr β args vs bx oc):
 Calls Tryz.prog 93 vs.toArray w fun e w'=>∃v Fr' β',e=.returned v/\Ci Tryz.prog w Fr β oc t os bx' oc' v w' Fr' β':=by
 unfold qy at k;split at k
 case h_2=>cases k
 rename_i b o;obtain⟨q,J,a⟩:=qb k;clear k;have z:=B.rel;have P:=B.args;simp only[ra,Rd]at P;obtain⟨_,_,rfl,⟨g,G,rfl⟩,rfl⟩:=P;obtain⟨X,W,Z,c,e,b1,d,x,T,Y,O⟩:=z.bx.cells J;rw[G]at b1;cases b1;have F:=x.length;have K:w.shape? g=some (q.1,q.2.length):=by simp[World.shape?,d,O,F]
 have r:∀{w':World}{Fr':Nat->Nat}{β':List Nat},Rd w' Fr' β' (Rc []) (.tuple #[]):=by simp[Rc,Rd,ra]
 split at a
 ·rename_i I
  split at a
  case isFalse=>cases a
  rename_i A;cases a;obtain⟨u,M,C⟩:=x.get o _ I;obtain⟨rfl,_⟩:=Oc C;have D:w.cell? ⟨g,o,none⟩=some (.pointer none):=by rw[cell_of_row _ _ _ _ _ _ d];simpa using M
  refine(hZ g o q.1 q.2.length w D K A.1 A.2 (Lib.frozen_of_heap d o)).mono ?_;rintro U w' ⟨rfl,rfl⟩;have l:w.setCell ⟨g,o,none⟩ (.pointer (some ⟨g,o,none⟩))=w.setRow g (c.take o++[Value.pointer (some ⟨g,o,none⟩)]++c.drop (o+1)).toArray:=by
   rw[setCell_eq_setRow w g o _ _ _ _ d];congr 1;apply ei;have fa:o<c.length:=aa
   rw[Array.toList_setIfInBounds,List.set_eq_take_append_cons_drop];simp[fa]
  rw[l];have H:∀L∈oc,Od b o 1 L=false:=fun L y=>by
   cases L with
   |slot i=>rfl
   |cell N j=>
    rw[Do];intro Q;have E:N=b/\j=o:=by
     simp only[Od,cc,beq_iff_eq,decide_eq_true_eq]at Q;exact⟨Q.1.1,aa⟩
    obtain⟨rfl,rfl⟩:=E;obtain⟨v,p,k1Z,k2Z,n,cs,k3Z,_⟩:=z.own _ y
    grind [ab]
  obtain⟨S,V⟩:=z.store (o:=o) (n:=1) (ps:=[.ptr b o]) (us:=[Value.pointer (some ⟨g,o,none⟩)]) (e:=e) (cs:=q.2) la G d x T (by grind [ra,Rd]) (fun u R=>by simp at R;subst R;rfl) rfl aa aa none (fun s h=>by cases h)
   (uh (bx.set b (q.1,q.2.take o++[.ptr b o]++q.2.drop (o+1))) oc) rfl (by rw[O];rfl) (fun L y=>.inl ⟨y,H L y,fun s h=>by cases h⟩) (fun q J=>by cases J)
  exact⟨.tuple #[],Fr,β,rfl,r,S,V,B.cells,fun h=>by cases h⟩
 ·rename_i N l I
  split at a
  case isFalse=>cases a
  rename_i A;cases a;obtain⟨rfl,rfl⟩:=A;obtain⟨u,M,C⟩:=x.get l _ I;simp only[Rd]at C;obtain⟨y,j,rfl⟩:=C;rw[G]at j;cases j;have D:w.cell? ⟨g,l,none⟩=some (.pointer (some ⟨g,l,none⟩)):=by rw[cell_of_row _ _ _ _ _ _ d];simpa using M
  refine(jZ g l w D).mono ?_;rintro U w' ⟨rfl,rfl⟩;exact⟨.tuple #[],Fr,β,rfl,r,z,Le.refl _ _ _,B.cells,fun h=>by cases h⟩
 ·cases a
def zho:U8 Tryz.prog=5:=ca
theorem BY:∀{cs}{l},bytesOf cs=some l->l≠[]->td cs=false
 |[],l,h,a=>by grind [bytesOf]
 |p::r,l,h,a=>by
  unfold bytesOf at h;split at h
  ·grind
  ·rename_i e;cases e;rfl
  grind
def A5{w w'}{g n}(h:yu w g n w')(a):w'.cell? a=w.cell? a:=by
 obtain⟨h,_⟩:=h
 grind [World.freeze,World.cell?]
def B5{w w'}{g n k}(h:yu w g n w')(a:k≠g):w'.heap[k]?=w.heap[k]?:=by
 obtain⟨h,_⟩:=h
 grind [World.freeze]
theorem C5{w w'}{g n}(h:yu w g n w'):w'.heap.size=w.heap.size:=by
 obtain⟨h,_⟩:=h
 grind [World.freeze]
theorem fL:∀{cs}{l},bytesOf cs=some l->l.length=cs.length
 |[],l,h=>by grind [bytesOf]
 |p::r,l,h=>by
  unfold bytesOf at h;split at h
  ·grind
  ·rename_i n r' e
   cases e;split at h
   ·obtain⟨l',a,rfl⟩:=qm h
    simp[fL a]
   grind
  grind
theorem zfz{args:List PV}{bx:Na}{oc:List Loc}{R:List PV}{os:Bool}{bx':Na}{oc':List Loc}(J:XA args bx oc=some (R,os,bx',oc')){w:World}{Fr:Nat->Nat}{β:List Nat}{vs:List Value}(hpZ:wm Tryz.prog Γ w Fr β args vs bx oc):
 Calls Tryz.prog 46 vs.toArray w fun e w'=>∃v Fr' β',e=.returned v/\Ci Tryz.prog w Fr β oc R os bx' oc' v w' Fr' β':=by
 unfold XA at J;split at J
 case h_2=>cases J
 rename_i b o;obtain⟨q,hqZ,t⟩:=qb J;clear J;have A:=hpZ.rel;have haZ:=hpZ.args;simp only[ra,Rd]at haZ;obtain⟨_,_,rfl,⟨g,hgZ,rfl⟩,rfl⟩:=haZ;split at t
 case h_2=>cases t
 rename_i n cs hoZ;split at t
 case isFalse=>cases t
 rename_i hcZ;obtain⟨hcn,d⟩:=hcZ;obtain⟨l,hlZ,X⟩:=qm t;clear t;cases X;obtain⟨hqs,hlp,g'Z,cvs,e,b1,b2Z,b3Z,b4Z,b5Z,b6Z⟩:=A.bx.cells hqZ;rw[hgZ]at b1;cases b1;have M:=(Nh.1 b2Z).1;have Z:=fL hlZ;obtain⟨v,p,Q,k2Z,k3Z⟩:=A.own _ d;have B:=A.tI Q k2Z;have S:(uh bx oc).bx=bx:=rfl;have O:bx[b]?=some q:=hqs;simp only[ab,S,O,Ja,hoZ,Pb]at k2Z;subst k2Z;have U:w.cell? ⟨g,o+1,none⟩=some v:=by simpa only[Ga,hgZ,Ja]using Q
 have fin:∀w',Rel Tryz.prog [] w.heap.size (ud w β oc) w Fr 0 (uh bx (oc.filter (·≠.cell b (o+1)))) Rh w' Fr β->Le w Fr β w' Fr β->Ci Tryz.prog w Fr β oc [.flat (.string ⟨l.toArray⟩)] false bx (oc.filter (·≠.cell b (o+1))) (.string ⟨l.toArray⟩) w' Fr β:=fun w' T C=>
  ⟨dg rfl,T,C,fun L G=>hpZ.cells L (Yc.1 G).1,fun h=>by cases h⟩
 have V:∀w',Below w.heap.size w w'->Ci Tryz.prog w Fr β oc [.flat (.string ⟨l.toArray⟩)] false bx (oc.filter (·≠.cell b (o+1))) (.string ⟨l.toArray⟩) w' Fr β:=fun w' S=>by
  obtain⟨T,C⟩:=A.grow S (Fr':=Fr) fun _ _=>rfl
  exact fin w' (T.Mm (st':=uh bx (oc.filter (·≠.cell b (o+1)))) (fun i=>.inl rfl) rfl (fun L G=>⟨(Yc.1 G).1,fun i _=>rfl⟩) rfl) C
 obtain⟨n'Z,cs',hpe,hvZ⟩:=k3Z;cases hpe;rcases hvZ with rfl|⟨F,H,I,e2,szZ,rfl,h2Z,h3Z,h4Z,h5Z,h6Z,h7Z,h8Z,h9Z⟩
 ·have E:n=0:=by
   simp only[Rd]at B;obtain⟨a,H,W,_⟩:=B;cases W;rfl
  have z:l=[]:=qz aa;subst z;refine(zfy g o w U).mono ?_
  grind
 ·by_cases z:l=[]
  ·subst z
   have E:n=0:=by simp at Z;omega
   have c:=h8Z E;subst E;subst c;refine(zfB g o F e2 I.size w U M (by simp[World.shape?,h2Z])).mono ?_
   grind
  ·have N:=List.length_pos_iff.2 z
   have hnl:n=l.length:=aa
   subst hnl;have hsz:szZ=1:=by
    have:l.length* szZ=l.length* 1:=by rw[<-h7Z];omega
    exact Nat.eq_of_mul_eq_mul_left N this
   subst hsz;have Y:e2=5:=by
    rcases h9Z rfl with h|h
    ·grind [BY]
    ·rw[h];exact zho
   subst Y;have P:∀j x,l[j]?=some x->w.cell? ((⟨F,0,none⟩:Addr).add j)=some (.int .u8 x.toNat):=fun j x hjZ=>by
    simp only[Rd]at B;obtain⟨a,cap',W,_,hr⟩:=B;rcases hr with⟨_,h0Z⟩|⟨g3,o3Z,vs3,rfl,r1,r2,r3⟩
    ·omega
    ·cases W
     have S:=my hlZ r2;rw[add_eq];exact(r1 j _ la).2
   have hng:∀k∈β,k≠F:=fun k y e=>A.out _ d _ F Q rfl (e▸y)
   refine(zfA g o F H I.size l w z aa U (by simp[World.shape?,h2Z]) aa aa P).mono ?_;rintro e'Z w' ⟨rfl,K⟩;have Jd:=A5 K;have c:∀k,k≠F->w'.heap[k]?=w.heap[k]?:=fun k y=>B5 K y
   have D:Le w Fr β w' Fr β:=⟨by grind [C5],fun _ _=>Aa _,fun k j _ _=>Jd _,fun _ _ h=>h,fun k r y=>⟨r,(c k fun e=>by grind).trans y⟩⟩;have hval:∀L,Ga Rh w' β L=Ga Rh w β L:=fun L=>by
    cases L<;>grind [Ga]
   have mem:∀L,L∈oc.filter (·≠.cell b (o+1))->L∈oc/\L≠.cell b (o+1):=fun L G=>by grind
   refine⟨_,Fr,β,rfl,fin w' (A.next D (fun i=>by simp[uh,look,Rd]) rfl rfl (A.bx.kept D fun k y=>⟨c k (hng k y),rfl⟩) A.nd (fun g h=>.inl h) some (fun L G=>?_) (fun L _ L'Z _ hne L0Z h h'Z=>hne la) (fun L _ L'Z _ _ h=>by cases h) (fun q hqZ=>by cases hqZ) (fun k y _ hno=>⟨c k fun e=>hno _ d _ Q (by rw[e];rfl),rfl⟩) K.2.1 K.2.2.1 K.2.2.2) D⟩;obtain⟨m1Z,m2Z⟩:=mem L G;obtain⟨u,q'Z,j1Z,j2Z,j3Z⟩:=A.own L m1Z;refine⟨u,q'Z,la,?_,j3Z.kept fun k y=>⟨c k fun e=>?_,rfl⟩,fun k y=>.inr ⟨L,m1Z,rfl,u,j1Z,y⟩⟩
   ·cases L with
    |slot i=>exact j2Z
    |cell b'Z j=>exact j2Z
   ·exact A.sep L m1Z _ d m2Z u _ k j1Z Q y (by rw[e];rfl)
def SK:Gb Tryz.prog Γ Vo:=fun f args bx oc d os bx' oc' a w Fr β vs c=>by
 unfold Vo at a;split at a
 ·rename_i b
  subst b;exact enters_of ca ha (iZ a c)
 ·split at a
  ·rename_i b
   subst b;exact enters_of ca ha (zfz a c)
  grind
end
variable {lib:Callee}
def Qb(lib:Callee):Prop:=∀f args bx oc r,Vo f args bx oc=some r->lib f args bx oc=some r
def bld(u:Bool)(b:Nat)(l:ba)(rest:List PV):List PV:=(match u with|true=>.ptr b 0|false=>.flat (.pointer none))::.ga l.length (Td l)::rest
def ck(e n:Nat):Prop:=liesAt Tryz.prog Tryz.prog.depth e (n/Tryz.prog.cellsOf e) 0 101 1=true
def Wk:ck 101 2:=by unfold ck;kernel_rfl
def TK{u}{b}{l}{rest}:nr (bld u b l rest)=false:=by cases u<;>rfl
theorem oO(c:Qb lib){bx}{oc}{b e}{u}{l}{rest}(d:bx[b]?=some (e,bld u b l rest))(h:ck e (2+rest.length)):
 da code lib 93 [.ptr b 0] bx oc=some ([],false,bx.set b (e,bld true b l rest),oc):=by
 refine tf ha pa (c _ _ _ _ _ ?_);have a:vd bx b=some (e,bld u b l rest):=by rw[iD,d,VE,TK];rfl
 unfold Vo qy;rw[if_pos rfl];dsimp only;rw[a,Ja];cases u with
 |false=>
  have g:0<(bld false b l rest).length/\liesAt Tryz.prog Tryz.prog.depth e ((bld false b l rest).length/Tryz.prog.cellsOf e) 0 101 1=true:=⟨by simp[bld],by
   have:(bld false b l rest).length=2+rest.length:=by simp[bld];omega
   rw[this];exact h⟩
  show(if _ then _ else _)=_;rw[if_pos g];rfl
 |true=>
  show(if b=b/\0=0 then _ else _)=_
  grind [Zp]
def tl(c:Qb lib){bx}{oc}{b e}{u}{l}{rest}(d:bx[b]?=some (e,bld u b l rest))(g:.cell b 1∈oc):
 da code lib 46 [.ptr b 0] bx oc=some ([.flat (.string (S l))],false,bx,fe (.cell b 1) oc):=by
 refine tf ha pa (c _ _ _ _ _ ?_);have a:vd bx b=some (e,bld u b l rest):=by rw[iD,d,VE,TK];rfl
 unfold Vo XA;rw[if_neg ha,if_pos rfl];dsimp only;rw[a,Ja];show(if(Td l).length=l.length/\.cell b 1∈oc then _ else _)=_;rw[if_pos ⟨XC,g⟩,eL];rfl
def cj(n:Qb lib){bx}{r}{b e}{u}{l m}{rest}(k:bx[b]?=some (e,bld u b l rest))(o:ck e (2+rest.length))(hs:l.length+m.length<=za)(hr:∀q∈r,q≠(b,1))(fa:∀q∈r,q.1<bx.length):
 da code lib 45 [.ptr b 0,.flat (.string (S m))] bx (.cell b 1::cl r)=some ([.flat (.int .i64 m.length),.flat .nilIface],false,bx.set b (e,bld true b (l++m) rest),.cell b 1::cl r):=by
 refine ja i1 (qa rfl) ?_;have c:=(qg k).1;have d:=fun oc=>oO (oc:=oc) n k o
 obtain⟨a,h⟩:∃a,bx.set b (e,bld true b l rest)=a:=⟨_,rfl⟩;have i:a[b]?=some (e,.ptr b 0::.ga l.length (Td l)::rest):=by rw[<-h,Vg c];rfl
 have j:a.length=bx.length:=by rw[<-h,Kc]
 have g:∀q,a.set b q=bx.set b q:=fun q=>by grind [List.set_set]
 rw[h]at d;simp only[go_sem,simprocAttr,d,Jb,ob,Ib,Db,Rb,Lq r hr,rg r hr,pb r fa,i,j,c,Kc,Ua,XJ,VB,HK,XC,hs,g,Bc]
 grind [bld]
def hx(o:Qb lib){bx}{r}{b e}{u}{l}{c}{rest}(n:bx[b]?=some (e,bld u b l rest))(t:ck e (2+rest.length))(hs:l.length+1<=za)(hr:∀q∈r,q≠(b,1))(fa:∀q∈r,q.1<bx.length):
 da code lib 44 [.ptr b 0,.flat (.int .u8 c.toNat)] bx (.cell b 1::cl r)=some ([.flat .nilIface],false,bx.set b (e,bld true b (l++[c]) rest),.cell b 1::cl r):=by
 refine ja h1 (qa rfl) ?_;have d:=(qg n).1;have g:=fun oc=>oO (oc:=oc) o n t
 obtain⟨a,i⟩:∃a,bx.set b (e,bld true b l rest)=a:=⟨_,rfl⟩;have j:a[b]?=some (e,.ptr b 0::.ga l.length (Td l)::rest):=by rw[<-i,Vg d];rfl
 have k:a.length=bx.length:=by rw[<-i,Kc]
 have h:∀q,a.set b q=bx.set b q:=fun q=>by grind [List.set_set]
 have p:[PV.flat (.int .u8 c.toNat)]=Td [c]:=rfl;rw[i]at g;simp only[go_sem,simprocAttr,g,Jb,ob,Ib,Db,Rb,Lq r hr,rg r hr,pb r fa,j,k,d,Kc,Ua,XJ,VB,XC,hs,h,Bc]
 grind [bld,HK]
def kh(n:Nat):Nat:=if(n<32/\n≠9/\n≠10)\/(127<=n/\n<160)then 65533 else n
def DV(n:Nat):da code lib 160 [.flat (.int .i32 n)] [] []=some ([.flat (.int .i32 (kh n:Nat))],false,[],[]):=by
 refine ja D1 (qa rfl) ?_;unfold kh;by_cases d:n<32
 ·have a:(n:Int)<32:=aa
  by_cases b:n=9
  ·subst b;simp only[go_sem,simprocAttr]
  ·have e:¬(n:Int)=9:=aa
   by_cases c:n=10
   ·subst c;simp only[go_sem,simprocAttr]
   ·have g:¬(n:Int)=10:=aa
    rw[if_pos (.inl ⟨d,b,c⟩)];exact ua @pj
 ·have a:¬(n:Int)<32:=aa
  by_cases e:127<=n
  ·have b:(127:Int)<=n:=aa
   by_cases g:n<160
   ·have c:(n:Int)<160:=aa
    rw[if_pos (.inr ⟨e,g⟩)];exact ua @pj
   ·have c:¬(n:Int)<160:=aa
    rw[if_neg aa];exact ta
  ·have b:¬(127:Int)<=n:=aa
   rw[if_neg aa];exact ta
theorem ch(n):(Ka n).length<=4:=by
 grind [Ka,xe]
def CV{n}(h:n<8388608):kh n<2147483648:=by grind [kh]
structure sq where
 at_:Nat
 u:Bool
 out:ba
def Xh(l:ba)(q:Nat×Nat)(k:Nat):Bool:=decide (q.1=13/\l[k+q.2]?=some 10)
def re(l:ba)(a:sq)(q:Nat×Nat):sq×Bool:=
 if Xh l q a.at_ then(⟨a.at_+q.2,a.u,a.out⟩,true)else(⟨a.at_+q.2,true,a.out++Ka (kh (if q.1=13 then 10 else q.1))⟩,true)
def En(l:ba)(a:sq):Na:=[(9,[.flat (.string (S l))]),(101,bld a.u 1 a.out []),(3,[.flat (.int .i64 (a.at_:Nat))]),(9,[.flat (.string (S l))]),(0,[.lp 95 0 .ready [1,3,4] [.ptr 0 0,.ptr 1 0,.ptr 2 0]])]
def uZ(x:Qb lib)(l)(B:l.length<1000000000)(a)(q)(A:a.at_+q.2<=l.length)(C:a.out.length+4<=za)(y:q.1<8388608):
 da code lib hb [.Oa 4,.flat (.int .i32 (q.1:Nat)),.flat (.int .i64 (q.2:Nat))] (En l a) [.cell 1 1]=some ([.flat (.bool true)],false,En l (re l a q).1,[.cell 1 1]):=by
 refine vp ip UO rfl rfl rfl ?_;have t:IntKind.i64.wrap ((a.at_:Int)+(q.2:Nat))=((a.at_+q.2:Nat):Int):=wrap64 aa;have sh:=fun n=>DV (lib:=lib) n
 have g:da code lib 160 [.flat (.int .i32 10)] [] []=some ([.flat (.int .i32 (kh 10:Nat))],false,[],[]):=DV 10;have j:=fun n(h:n<2147483648)=>Gs (lib:=lib) n h
 have v:ck 101 (2+([]:List PV).length):=Wk
 have w:∀(m:ba),m.length<=4->da code lib 45 [.ptr 1 0,.flat (.string (S m))] [(9,[.flat (.string (S l))]),(101,bld a.u 1 a.out []),(3,[.flat (.int .i64 ((a.at_+q.2:Nat):Int))]),(9,[.flat (.string (S l))]),(0,[.lp 95 0 .busy [1,3,4] [.ptr 0 0,.ptr 1 0,.ptr 2 0]])] [.cell 1 1]=
  some ([.flat (.int .i64 m.length),.flat .nilIface],false,[(9,[.flat (.string (S l))]),(101,bld true 1 (a.out++m) []),(3,[.flat (.int .i64 ((a.at_+q.2:Nat):Int))]),(9,[.flat (.string (S l))]),(0,[.lp 95 0 .busy [1,3,4] [.ptr 0 0,.ptr 1 0,.ptr 2 0]])],[.cell 1 1]):=fun m k=>
  cj x (b:=1) (r:=[]) (rest:=[]) rfl v aa (fun q e=>by cases e) (fun q e=>by cases e)
 by_cases c1:q.1=13
 ·have d:((q.1:Nat):Int)=13:=aa
  have p:=j (kh 10) (CV aa);have u:=w _ (ch (kh 10));by_cases c2:a.at_+q.2<l.length
  ·have e:((a.at_+q.2:Nat):Int)<l.length:=aa
   obtain⟨c,o⟩:∃c,l[a.at_+q.2]?=some c:=⟨_,qe c2⟩;have z0:(0:Int)<=((a.at_+q.2:Nat):Int):=aa
   by_cases c3:c=10
   ·subst c3
    have i:Xh l q a.at_=true:=by simp[Xh,c1,o]
    have k:(((10:UInt8).toNat:Nat):Int)=10:=rfl;simp only[xv,vv,En,re,i,d,e,z0,t,o,Ua,kd,hh,gc,go_sem,simprocAttr]
   ·have i:Xh l q a.at_=false:=by simp[Xh,o,c3]
    have k:¬((c.toNat:Nat):Int)=10:=fun h=>by
     have z:c.toNat=(10:UInt8).toNat:=by have:(10:UInt8).toNat=10:=rfl;omega
     exact c3 (Yb.1 z)
    simp only[xv,vv,En,re,i,c1,d,e,k,z0,t,o,Ua,kd,hh,gc,g,p,u,go_sem,simprocAttr]
  ·have e:¬((a.at_+q.2:Nat):Int)<l.length:=aa
   have k:l[a.at_+q.2]?=none:=Qf aa;have i:Xh l q a.at_=false:=by simp[Xh,k]
   simp only[xv,vv,En,re,i,c1,d,e,t,Ua,g,p,u,go_sem,simprocAttr]
 ·have d:¬((q.1:Nat):Int)=13:=aa
  have i:Xh l q a.at_=false:=by simp[Xh,c1]
  have p:=j (kh q.1) (CV y);have u:=w _ (ch (kh q.1));simp only[xv,vv,En,re,i,c1,d,t,sh,p,u,go_sem,simprocAttr]
theorem aJ(l)(a)(q):(re l a q).2=true:=by grind [re]
theorem ZI(l)(a)(q):(re l a q).1.at_=a.at_+q.2:=by grind [re]
theorem SV(l)(a)(q):(re l a q).1.out.length<=a.out.length+4:=by
 grind [re,ch]
def iy{u}{b nb}{l}{rest}(h:b<nb)(hr:Ia nb rest=true):Ia nb (bld u b l rest)=true:=by
 cases u<;>simp[bld,Ia,PV.low,YC,hr,h]
def Nk(l:ba):sq:=(Ke (re l) ⟨0,false,[]⟩ (jf l)).1
def sd(l:ba):ba:=(Nk l).out
def Pu(d:Qb lib)(l)(o:l.length<1000000000):da code lib 95 [.flat (.string (S l))] [] []=some ([.flat (.string (S (sd l)))],false,[],[]):=by
 refine ja UO (qa rfl) ?_
 have b:=YB (lib:=lib) l (by grind [Sm]) (En l) (fun _=>[(1,1)]) (re l) (fun a k=>a.at_=k/\a.out.length<=4* k) 4 3 5 (fun a _ _=>rfl) (fun a=>rfl) (fun a q r=>by grind)
  (fun a k q j _ _ g _ _=>by
    grind [SV,ZI])
  (fun a k q j _ _ g h _=>by
    have i:=uZ d l o a q aa (by grind [za]) h;rw[aJ];exact i) ⟨0,false,[]⟩ ⟨rfl,Ab _⟩
 have e:cl [(1,1)]=[.cell 1 1]:=rfl;have n:(Ke (re l) ⟨0,false,[]⟩ (jf l)).1=Nk l:=rfl;simp only[e,n]at b;have c:da code lib 224 [.Oa 4,.ptr 3 0] [(9,[.flat (.string (S l))]),(101,[.flat (.pointer none),.ga 0 []]),(3,[.flat (.int .i64 0)]),(9,[.flat (.string (S l))]),(0,[.lp 95 0 .ready [1,3,4] [.ptr 0 0,.ptr 1 0,.ptr 2 0]])] [.cell 1 1]=some ([],false,En l (Nk l),[.cell 1 1]):=b;have e1:=WB (lib:=lib) l [(9,[.flat (.string (S l))]),(101,[.flat (.pointer none),.ga 0 []]),(3,[.flat (.int .i64 0)])] [(1,1)] ea;simp only[e,go_sem,simprocAttr]at e1;have e2:=XB (lib:=lib) l [];simp only[go_sem,simprocAttr]at e2
 have e3:da code lib 46 [.ptr 1 0] [(9,[.flat (.string (S l))]),(101,bld (Nk l).u 1 (Nk l).out []),(3,[.flat (.int .i64 ((Nk l).at_:Nat))]),(9,[.flat (.string (S l))])] [.cell 1 1]=
  some ([.flat (.string (S (Nk l).out))],false,[(9,[.flat (.string (S l))]),(101,bld (Nk l).u 1 (Nk l).out []),(3,[.flat (.int .i64 ((Nk l).at_:Nat))]),(9,[.flat (.string (S l))])],fe (.cell 1 1) [.cell 1 1]):=tl d rfl ea
 have p:Ia 4 (bld (Nk l).u 1 (Nk l).out [])=true:=iy aa rfl;exact Kb @En.eq_1 @sd.eq_1
def Bw(n:Nat):da code lib 134 [.flat (.int .i64 n)] [] []=some ([.flat (.bool (Sb n))],false,[],[]):=by
 refine ja m0 (qa rfl) ?_;have d:(0:Int)<=n:=aa
 have a:((n:Int)<=1114111)=(n<=1114111):=by apply propext;omega
 have b:((55296:Int)<=n)=(55296<=n):=by apply propext;omega
 have c:((n:Int)<=57343)=(n<=57343):=by apply propext;omega
 by_cases e:n<=1114111<;>by_cases g:55296<=n<;>by_cases i:n<=57343
 all_goals
  have e3:decide (n<55296)=!decide (55296<=n):=by by_cases h:55296<=n<;>simp[h]<;>omega
  have e4:decide (57343<n)=!decide (n<=57343):=by by_cases h:n<=57343<;>simp[h]<;>omega
  simp only[go_sem,simprocAttr,Sb,e3,e4,d,a,b,c,e,g,i,vn,tn]
def Gn(n:Nat):da code lib 72 [.flat (.int .i64 n)] [] []=some ([.flat (.string (S (Ka n)))],false,[],[]):=by
 refine ja i0 (qa rfl) ?_;have d:=Bw (lib:=lib) n;cases c:Sb n with
 |true=>
  rw[c]at d;have t:n<=1114111:=by simp only[Sb,cc,decide_eq_true_eq]at c;exact c.1
  have c1:((n:Int)<65536)=(n<65536):=by apply propext;omega
  have c2:((n:Int)<2048)=(n<2048):=by apply propext;omega
  have c3:((n:Int)<128)=(n<128):=by apply propext;omega
  have o:IntKind.i64.wrap ((n:Int).tdiv 64)=((n/64:Nat):Int):=by
   rw[show(n:Int).tdiv 64=((n/64:Nat):Int)from rfl];exact wrap64 aa
  have q:IntKind.i64.wrap ((n:Int).tdiv 4096)=((n/4096:Nat):Int):=by
   rw[show(n:Int).tdiv 4096=((n/4096:Nat):Int)from rfl];exact wrap64 aa
  have r:IntKind.i64.wrap ((n:Int).tdiv 262144)=((n/262144:Nat):Int):=by
   rw[show(n:Int).tdiv 262144=((n/262144:Nat):Int)from rfl];exact wrap64 aa
  have p:∀m:Nat,((m:Int).tmod 64)=((m % 64:Nat):Int):=fun m=>rfl
  have a:∀m:Nat,m<64->IntKind.i64.wrap (128+(m:Int))=((128+m:Nat):Int):=fun m h=>by grind [wrap64]
  have g:∀m:Nat,m<64->IntKind.i64.wrap (192+(m:Int))=((192+m:Nat):Int):=fun m h=>by grind [wrap64]
  have i:∀m:Nat,m<64->IntKind.i64.wrap (224+(m:Int))=((224+m:Nat):Int):=fun m h=>by grind [wrap64]
  have j:∀m:Nat,m<64->IntKind.i64.wrap (240+(m:Int))=((240+m:Nat):Int):=fun m h=>by rw[wrap64 aa];rfl
  have l:∀m:Nat,m<256->IntKind.u8.wrap (m:Int)=(m:Int):=fun m h=>Kj aa
  simp only[Ka,c,if_true,xe];by_cases b:n<128
  ·rw[if_pos b]
   simp(disch:=omega) only[go_sem,simprocAttr,d,c3,b,l,Xo,Yo,ff,Xb,Fe]
  ·rw[if_neg b]
   by_cases e:n<2048
   ·rw[if_pos e]
    simp(disch:=omega) only[go_sem,simprocAttr,d,c3,b,c2,e,o,p,a,g,l,Xo,Yo,ff,Xb,Fe]
   ·rw[if_neg e]
    by_cases k:n<65536
    ·rw[if_pos k]
     simp(disch:=omega) only[go_sem,simprocAttr,d,c3,b,c2,e,c1,k,o,q,p,a,i,l,Xo,Yo,ff,Xb,Fe]
    ·rw[if_neg k]
     simp(disch:=omega) only[go_sem,simprocAttr,d,c3,b,c2,e,c1,k,o,q,r,p,a,j,l,Xo,Yo,ff,Xb,Fe]
 |false=>
  rw[c]at d;have b:Ka n=[239,191,189]:=by unfold Ka;rw[c];simp only[Ha,if_false];decide
  have a:oa (da code lib)=oa (da code lib):=rfl;have e:IntKind.i64.wrap ((65533:Int).tdiv 4096)=15:=ha
  have g:IntKind.i64.wrap ((65533:Int).tdiv 64)=1023:=ha
  have i:(1023:Int).tmod 64=63:=ha
  have j:(65533:Int).tmod 64=61:=ha
  have k:IntKind.i64.wrap 239=239:=ha
  have l:IntKind.i64.wrap 191=191:=ha
  have o:IntKind.i64.wrap 189=189:=ha
  have p:IntKind.u8.wrap 239=239:=ha
  have q:IntKind.u8.wrap 191=191:=ha
  have r:IntKind.u8.wrap 189=189:=ha
  have u:IntKind.i64.wrap 15=15:=ha
  have v:IntKind.i64.wrap 1023=1023:=ha
  have t:bytesOf [.flat (.int .u8 239),.flat (.int .u8 191),.flat (.int .u8 189)]=some [239,191,189]:=ha
  exact ta
def Pl:Nat->Int
 |2=>192
 |3=>224
 |4=>240
 |_=>0
def zN(l:ba)(k:Nat):Nat->Int
 |0=>0
 |1=>((l.getD 0 0).toNat:Int) - Pl k
 |i+2=>64* zN l k (i+1)+((l.getD (i+1) 0).toNat:Int) - 128
def xS(k):0<=Pl k/\Pl k<=240:=by unfold Pl;grind
def hX(l)(k):∀i,i<=4->-400000000<=zN l k i/\zN l k i<=400000000:=by
 intro i a;have e:=xS k;have b:=(l.getD 0 0).toNat_lt;have b1:=(l.getD 1 0).toNat_lt;have c:=(l.getD 2 0).toNat_lt;have d:=(l.getD 3 0).toNat_lt
 match i,a with
 |0,_=>simp[zN]
 |1,_=>grind [zN]
 |2,_=>grind [zN]
 |3,_=>grind [zN]
 |4,_=>grind [zN]
def bk:List PV:=[.flat (.int .i64 0),.flat (.int .i64 0),.flat (.int .i64 192),.flat (.int .i64 224),.flat (.int .i64 240)]
def jr(s:ba)(at_ k:Nat)(i:Nat):St:=⟨[(0,.flat (.string (S s))),(1,.flat (.int .i64 (at_:Nat))),(6,.ga 5 bk),(7,.flat (.int .i64 (k:Nat))),(8,.flat (.int .i64 (zN (s.drop at_) k i))),(9,.flat (.int .i64 (i:Nat)))],[.slot 6],[],[]⟩
def YQ(s:ba)(at_ i)(h:i<(s.drop at_).length):s[at_+i]?=some ((s.drop at_).getD i 0):=by
 grind
def i6(s)(at_ k)(hs:Sm s)(y:k<=4)(p:k<=(s.drop at_).length)(i)(d:1<=i)(e:i<=k):Cc (oa (da code lib) ia oC) [0,1,6,7,8,9] 0 ia (jr s at_ k i)=
 some (.exit 2,⟨[(0,.flat (.string (S s))),(1,.flat (.int .i64 (at_:Nat))),(6,.ga 5 bk),(7,.flat (.int .i64 (k:Nat))),(8,.flat (.int .i64 (zN (s.drop at_) k k)))],[.slot 6],[],[]⟩):=by
 have n:at_+k<=s.length:=by
  rw[fc]at p;rcases Oh s.length at_ with h|h<;>omega
 unfold Sm at hs;refine Dh (jr s at_ k) (fun i=>1<=i/\i<=k) (fun i=>k - i) (fun _=>(.exit 2,⟨[(0,.flat (.string (S s))),(1,.flat (.int .i64 (at_:Nat))),(6,.ga 5 bk),(7,.flat (.int .i64 (k:Nat))),(8,.flat (.int .i64 (zN (s.drop at_) k k)))],[.slot 6],[],[]⟩)) (fun i ⟨d,e⟩=>?_) ⟨d,e⟩ (by grind [ia]);by_cases fa:i<k
 ·right
  have e1:=YQ s at_ i aa;obtain⟨c,g⟩:∃c,(s.drop at_).getD i 0=c:=⟨_,rfl⟩;rw[g]at e1;have o:=c.toNat_lt;have q:=hX (s.drop at_) k i aa;have b:zN (s.drop at_) k (i+1)=64* zN (s.drop at_) k i+(c.toNat:Int) - 128:=by
   obtain⟨j,rfl⟩:∃j,i=j+1:=⟨i - 1,aa⟩;simp only[zN,g]
  obtain⟨z,a⟩:∃z,zN (s.drop at_) k i=z:=⟨_,rfl⟩;rw[a]at q b;have c1:(i:Int)<k:=aa
  have r:IntKind.i64.wrap (64* z)=64* z:=wrap64 aa;have t:IntKind.i64.wrap (c.toNat:Int)=(c.toNat:Int):=wrap64 aa;have u:IntKind.i64.wrap (64* z+(c.toNat:Int))=64* z+(c.toNat:Int):=wrap64 aa;have v:IntKind.i64.wrap (64* z+(c.toNat:Int) - 128)=64* z+(c.toNat:Int) - 128:=wrap64 aa;have w:IntKind.i64.wrap ((at_:Int)+(i:Nat))=((at_+i:Nat):Int):=wrap64 aa;have x:IntKind.i64.wrap ((i:Int)+1)=((i+1:Nat):Int):=wrap64 aa;have l:(0:Int)<=((at_+i:Nat):Int):=aa
  refine⟨⟨[(0,.flat (.string (S s))),(1,.flat (.int .i64 (at_:Nat))),(6,.ga 5 bk),(7,.flat (.int .i64 (k:Nat))),(8,.flat (.int .i64 (64* z+(c.toNat:Int) - 128))),(9,.flat (.int .i64 ((i+1:Nat):Int)))],[.slot 6],[],[]⟩,i+1,?_,?_,⟨aa,aa⟩,aa,rfl⟩
  ·simp only[TT,jr,a,go_sem,simprocAttr,c1,kd,gc,l,e1,hh,r,t,u,v,w,x]
  ·rw[show jr s at_ k (i+1)=_ from rfl]
   exact ua @jr.eq_1
 ·left
  obtain rfl:i=k:=aa
  have c1:¬(i:Int)<i:=aa
  refine⟨.exit 2,_,?_,ea,rfl⟩;exact Kb TT @jr.eq_1
def oh(l:ba)(k:Nat):Bool:=decide (0<=zN l k k)&&(Sb (zN l k k).toNat&&decide (Ka (zN l k k).toNat=l.take k))
def Vj(l:ba):Nat->Nat->Option Nat
 |0,_=>none
 |n+1,k=>if k<=4/\k<=l.length then(if oh l k then some k else Vj l n (k+1))else none
def e_(k)(h:k<=4):bk.drop k=.flat (.int .i64 (Pl k))::bk.drop (k+1):=by
 match k,h with
 |0,_=>rfl
 |1,_=>rfl
 |2,_=>rfl
 |3,_=>rfl
 |4,_=>rfl
def Wj(s:ba)(at_ k:Nat):St:=⟨[(0,.flat (.string (S s))),(1,.flat (.int .i64 (at_:Nat))),(6,.ga 5 bk),(7,.flat (.int .i64 (k:Nat)))],[.slot 6],[],[]⟩
def cm(l:ba)(k:Nat):Out×St:=match Vj l (5 - k) k with
 |some j=>(.ret,⟨[(4,.flat (.int .i64 (zN l j j))),(5,.flat (.int .i64 (j:Nat)))],[],[],[]⟩)
 |none=>(.exit 0,⟨[],[],[],[]⟩)
def zbj(s)(at_)(hs:Sm s)(u:at_<s.length):Cc (oa (da code lib) ia nC) [0,1,6,7] 0 ia (Wj s at_ 1)=some (cm (s.drop at_) 1):=by
 have A:(s.drop at_).length=s.length - at_:=fc;refine Dh (Wj s at_) (fun k=>1<=k/\k<=5) (fun k=>5 - k) (cm (s.drop at_)) (fun k ⟨t,I⟩=>?_) ⟨Aa _,aa⟩ (by grind [ia]);have l:=hs;unfold Sm at l;have O:IntKind.i64.wrap ((s.length:Int) - (at_:Nat))=(s.length:Int) - (at_:Nat):=wrap64 aa;by_cases g:k<=4/\k<=(s.drop at_).length
 ·have x:Vj (s.drop at_) (5 - k) k=if oh (s.drop at_) k then some k else Vj (s.drop at_) (5 - (k+1)) (k+1):=by
   obtain⟨j,q⟩:∃j,5 - k=j+1:=⟨4 - k,aa⟩;rw[q,show 5 - (k+1)=j by omega];simp only[Vj];rw[if_pos g]
  have d:=i6 (lib:=lib) s at_ k hs g.1 g.2 1 (Aa _) t;have n:=YQ s at_ 0 aa;rw[ci]at n;have i:zN (s.drop at_) k 1=(((s.drop at_).getD 0 0).toNat:Int) - Pl k:=rfl;have D:=hX (s.drop at_) k k g.1;obtain⟨c,v⟩:∃c,(s.drop at_).getD 0 0=c:=⟨_,rfl⟩;have w:=c.toNat_lt;have y:=xS k;rw[v]at n i;simp only[jr,n1,i]at d;have c1:(k:Int)<=4:=aa
  have c2:(k:Int)<=(s.length:Int) - (at_:Nat):=aa
  have c3:(0:Int)<=(k:Nat):=aa
  have c4:(k:Int)<5:=aa
  have H:1<=(bk.drop (k+1)).length+1:=aa
  have c5:(0:Int)<=(at_:Nat):=aa
  have E:(at_:Int)<=((at_+k:Nat):Int):=aa
  have F:((at_+k:Nat):Int)<=s.length:=aa
  have G:(0:Int)<=((at_+k:Nat):Int):=aa
  have K:IntKind.i64.wrap (c.toNat:Int)=(c.toNat:Int):=wrap64 aa;have L:IntKind.i64.wrap ((c.toNat:Int) - Pl k)=(c.toNat:Int) - Pl k:=wrap64 aa;have M:IntKind.i64.wrap ((at_:Int)+(k:Nat))=((at_+k:Nat):Int):=wrap64 aa;have N:IntKind.i64.wrap ((k:Int)+1)=((k+1:Nat):Int):=wrap64 aa;have J:=e_ k g.1;have C:(s.take (at_+k)).drop at_=(s.drop at_).take k:=by rw[List.take_drop]
  obtain⟨z,r⟩:∃z,zN (s.drop at_) k k=z:=⟨_,rfl⟩;have b:oh (s.drop at_) k=false->cm (s.drop at_) (k+1)=cm (s.drop at_) k:=fun h=>by
   grind [cm]
  have a:oh (s.drop at_) k=(decide (0<=z)&&(Sb z.toNat&&decide (Ka z.toNat=(s.drop at_).take k))):=by unfold oh;rw[r]
  rw[r]at d;by_cases e:0<=z
  ·obtain⟨m,B⟩:∃m:Nat,z=(m:Int):=⟨z.toNat,aa⟩
   have r1:=Bw (lib:=lib) m;have r2:=Gn (lib:=lib) m;rw[B]at d e a;simp only[gc]at a;cases p:Sb m with
   |true=>
    rw[p]at r1 a;by_cases o:Ka m=(s.drop at_).take k
    ·left
     have ht:oh (s.drop at_) k=true:=by rw[a];simp[e,o]
     refine⟨.ret,⟨[(4,.flat (.int .i64 (m:Int))),(5,.flat (.int .i64 (k:Nat)))],[],[],[]⟩,?_,ea,by grind [cm]⟩;exact ye tt @Wj.eq_1 @r1
    ·right
     have ht:oh (s.drop at_) k=false:=by rw[a];simp[o]
     refine⟨⟨[(0,.flat (.string (S s))),(1,.flat (.int .i64 (at_:Nat))),(6,.ga 5 bk),(7,.flat (.int .i64 ((k+1:Nat):Int)))],[.slot 6],[],[]⟩,k+1,?_,?_,⟨aa,aa⟩,aa,b ht⟩
     ·exact ye tt @Wj.eq_1 @r1
     ·exact ua @Wj.eq_1
   |false=>
    rw[p]at r1 a;right;have ht:oh (s.drop at_) k=false:=by rw[a];simp
    refine⟨⟨[(0,.flat (.string (S s))),(1,.flat (.int .i64 (at_:Nat))),(6,.ga 5 bk),(7,.flat (.int .i64 ((k+1:Nat):Int)))],[.slot 6],[],[]⟩,k+1,?_,?_,⟨aa,aa⟩,aa,b ht⟩
    ·exact ye tt @Wj.eq_1 @r1
    ·exact ua @Wj.eq_1
  ·right
   have ht:oh (s.drop at_) k=false:=by rw[a];simp[e]
   refine⟨⟨[(0,.flat (.string (S s))),(1,.flat (.int .i64 (at_:Nat))),(6,.ga 5 bk),(7,.flat (.int .i64 ((k+1:Nat):Int)))],[.slot 6],[],[]⟩,k+1,?_,?_,⟨aa,aa⟩,aa,b ht⟩
   ·exact Kb tt @Wj.eq_1
   ·exact ua @Wj.eq_1
 ·left
  have x:Vj (s.drop at_) (5 - k) k=none:=by
   cases q:5 - k with
   |zero=>rfl
   |succ j=>grind [Vj]
  refine⟨.exit 0,⟨[],[],[],[]⟩,?_,ea,by grind [cm]⟩;by_cases c1:k<=4
  ·have a:(k:Int)<=4:=aa
   have b:¬(k:Int)<=(s.length:Int) - (at_:Nat):=aa
   exact Kb tt @Wj.eq_1
  ·have a:¬(k:Int)<=4:=aa
   exact Kb tt @Wj.eq_1
theorem sE{l}:∀{n k j},Vj l n k=some j->oh l j=true/\j<=4/\j<=l.length/\k<=j
 |0,k,j,h=>by cases h
 |n+1,k,j,h=>by
  simp only[Vj]at h;split at h
  ·rename_i e
   split at h
   ·grind
   ·obtain⟨a,b,c,d⟩:=sE h
    grind
  grind
def mo(l:ba):Nat×Nat:=match l with
 |[]=>(0,0)
 |_=>match Vj l 4 1 with
  |some j=>((zN l j j).toNat,j)
  |none=>(65533,1)
def zaf(s)(at_:Nat)(hs:Sm s)(k:at_<=s.length):da code lib 71 [.flat (.string (S s)),.flat (.int .i64 (at_:Nat))] [] []=some ([.flat (.int .i64 ((mo (s.drop at_)).1:Nat)),.flat (.int .i64 ((mo (s.drop at_)).2:Nat))],false,[],[]):=by
 refine ja l0 (qa rfl) ?_;have l:¬(at_:Int)<0:=aa
 by_cases fa:at_<s.length
 ·have c1:¬(s.length:Int)<=(at_:Nat):=aa
  have e:=zbj (lib:=lib) s at_ hs fa;have h:∃c t,s.drop at_=c::t:=⟨s[at_],s.drop (at_+1),Qd fa⟩;obtain⟨c,t,d⟩:=h;cases b:Vj (s.drop at_) 4 1 with
  |some j=>
   obtain⟨g,_⟩:=sE b;have n:0<=zN (s.drop at_) j j:=by
    unfold oh at g;simp only[cc,decide_eq_true_eq]at g;exact g.1
   have hr:mo (s.drop at_)=((zN (s.drop at_) j j).toNat,j):=by
    rw[d]at b⊢;simp only[mo,b]
   have i:(((zN (s.drop at_) j j).toNat:Nat):Int)=zN (s.drop at_) j j:=aa
   have a:cm (s.drop at_) 1=(.ret,⟨[(4,.flat (.int .i64 (zN (s.drop at_) j j))),(5,.flat (.int .i64 (j:Nat)))],[],[],[]⟩):=by
    unfold cm;rw[show 5 - 1=4 from rfl,b]
   rw[a]at e;simp only[Wj,bk,n1]at e;rw[hr];dsimp only;rw[i];exact ta
  |none=>
   have hr:mo (s.drop at_)=(65533,1):=by
    rw[d]at b⊢;simp only[mo,b]
   have a:cm (s.drop at_) 1=(.exit 0,⟨[],[],[],[]⟩):=by
    unfold cm;rw[show 5 - 1=4 from rfl,b]
   rw[a]at e;simp only[Wj,bk,n1]at e;rw[hr];exact ua @pj
 ·have c1:(s.length:Int)<=(at_:Nat):=aa
  have hr:mo (s.drop at_)=(0,0):=by rw[Zr aa];rfl
  rw[hr];exact ta
theorem b8(n:Nat)(h:n<256):(UInt8.ofNat n).toNat=n:=by grind [UInt8.toNat_ofNat']
def OR{n}(h:Sb n=true):n<=1114111:=by grind [Sb]
theorem cv(n)(d:Sb n=true)(t):Sa ((xe n).map UInt8.ofNat++t)=(n,(xe n).length):=by
 have e:=OR d;unfold xe;by_cases a:n<128
 ·grind [Sa,b8]
 ·by_cases b:n<2048
  ·grind [Sa,b8,yb,cg]
  ·by_cases c:n<65536
   ·grind [Sa,b8,yb,cg]
   ·simp only[a,b,c,if_false,Xb,Fe,Fa,Ma,sa,Ca]
    simp only[Sa,b8 (240+n/262144) aa];rw[if_neg aa,if_neg aa,if_neg aa,if_pos aa];have g:yb (UInt8.ofNat (128+n/4096 % 64)::UInt8.ofNat (128+n/64 % 64)::UInt8.ofNat (128+n % 64)::t) (240+n/262144 - 240) 3=(n,true):=by
     simp only[yb,b8 (128+n % 64) aa,b8 (128+n/64 % 64) aa,b8 (128+n/4096 % 64) aa];rw[if_pos aa,if_pos aa,if_pos aa];exact Prod.ext aa rfl
    grind [cg]
theorem CW{l}{k}(h:oh l k=true)(a:k<=l.length):Sa l=((zN l k k).toNat,k):=by
 grind [oh,Ka,List.take_append_drop,cv]
theorem eo(c)(n:Nat)(h:c.toNat=n):UInt8.ofNat n=c:=by grind [UInt8.ofNat_toNat]
theorem yP(c)(t:ba):Sa (c::t)=(65533,1)\/∃k,1<=k/\k<=4/\k<=(c::t).length/\oh (c::t) k=true:=by
 have u:=c.toNat_lt;have mi:∀n k:Nat,zN (c::t) k k=(n:Int)->Sb n=true->Ka n=(c::t).take k->oh (c::t) k=true:=fun n k p j l=>by
  grind [oh]
 simp only[Sa];by_cases p:c.toNat<128
 ·right
  refine⟨1,aa,aa,ea,mi c.toNat 1 ?_ ?_ ?_⟩
  ·rfl
  ·grind [Sb]
  grind [Sb,Ka,xe,eo]
 ·rw[if_neg p]
  by_cases j:192<=c.toNat/\c.toNat<224
  ·rw[if_pos j]
   unfold cg;split
   ·rename_i h
    obtain⟨g1,a,g3⟩:=h;right
    match t,g1,a,g3 with
    |b::t,g1,a,g3=>
     simp only[yb]at g1 a g3;split at g1
     case isFalse=>cases g1
     rename_i g;rw[if_pos g]at a g3;dsimp only at a g3;obtain⟨n,i⟩:∃n,(c.toNat - 192)* 64+(b.toNat - 128)=n:=⟨_,rfl⟩;rw[i]at a g3;refine⟨2,aa,aa,ea,mi n 2 ?_ g3 ?_⟩
     ·grind [zN,Pl]
     grind [Ka,xe,eo]
   simp
  ·rw[if_neg j]
   by_cases l:224<=c.toNat/\c.toNat<240
   ·rw[if_pos l]
    unfold cg;split
    ·rename_i h
     obtain⟨g1,a,g3⟩:=h;right
     match t,g1,a,g3 with
     |[b],g1,a,g3=>grind [yb]
     |b::d::t,g1,a,g3=>
      simp only[yb]at g1 a g3;split at g1
      case isFalse=>cases g1
      rename_i g;rw[if_pos g]at a g3;split at g1
      case isFalse=>cases g1
      rename_i o;rw[if_pos o]at a g3;dsimp only at a g3;obtain⟨n,i⟩:∃n,((c.toNat - 224)* 64+(b.toNat - 128))* 64+(d.toNat - 128)=n:=⟨_,rfl⟩;rw[i]at a g3;refine⟨3,aa,aa,ea,mi n 3 ?_ g3 ?_⟩
      ·grind [zN,Pl]
      ·unfold Ka xe
       rw[if_pos g3,if_neg aa,if_neg aa,if_pos aa];simp[eo c (224+n/4096) aa,eo b (128+n/64 % 64) aa,eo d (128+n % 64) aa]
    simp
   ·rw[if_neg l]
    by_cases q:240<=c.toNat/\c.toNat<248
    ·rw[if_pos q]
     unfold cg;split
     ·rename_i h
      obtain⟨g1,a,g3⟩:=h;right
      match t,g1,a,g3 with
      |[b],g1,a,g3=>grind [yb]
      |[b,d],g1,a,g3=>grind [yb]
      |b::d::e::t,g1,a,g3=>
       simp only[yb]at g1 a g3;split at g1
       case isFalse=>cases g1
       rename_i g;rw[if_pos g]at a g3;split at g1
       case isFalse=>cases g1
       rename_i o;rw[if_pos o]at a g3;split at g1
       case isFalse=>cases g1
       rename_i r;rw[if_pos r]at a g3;dsimp only at a g3;obtain⟨n,i⟩:∃n,(((c.toNat - 240)* 64+(b.toNat - 128))* 64+(d.toNat - 128))* 64+(e.toNat - 128)=n:=⟨_,rfl⟩;rw[i]at a g3;refine⟨4,aa,aa,ea,mi n 4 ?_ g3 ?_⟩
       ·grind [zN,Pl]
       ·unfold Ka xe
        rw[if_pos g3,if_neg aa,if_neg aa,if_neg aa];simp[eo c (240+n/262144) aa,eo b (128+n/4096 % 64) aa,eo d (128+n/64 % 64) aa,eo e (128+n % 64) aa]
     simp
    grind
theorem vQ{l}{j}(ht:oh l j=true)(c:j<=4)(e:j<=l.length):∀n k,k<=j->j<k+n->Vj l n k≠none
 |0,k,a,b=>by omega
 |n+1,k,a,b=>by
  simp only[Vj];rw[if_pos ⟨aa,aa⟩];by_cases d:oh l k=true
  ·grind
  ·rw[if_neg d]
   refine vQ ht c e n (k+1) ?_ aa
   grind
theorem zdh:∀l,mo l=Sa l
 |[]=>rfl
 |c::t=>by
  grind [mo,sE,CW,yP,vQ]
variable {lib:Callee}
def aA(s)(at_:Nat)(hs:Sm s)(a:at_<=s.length):da code lib 71 [.flat (.string (S s)),.flat (.int .i64 (at_:Nat))] [] []=some ([.flat (.int .i64 ((Sa (s.drop at_)).1:Nat)),.flat (.int .i64 ((Sa (s.drop at_)).2:Nat))],false,[],[]):=by
 rw[<-zdh];exact zaf s at_ hs a
theorem NA(l:ba)(k)(h:k<l.length):jf (l.drop k)=Sa (l.drop k)::jf (l.drop (k+(Sa (l.drop k)).2))/\1<=(Sa (l.drop k)).2/\k+(Sa (l.drop k)).2<=l.length/\(Sa (l.drop k)).1<8388608/\(Sa (l.drop k)).2<=4:=by
 grind [List.drop_eq_getElem_cons,Vq,UD,Uq,List.drop_drop,Cw]
def Nd(l:List Nat):List PV:=l.map fun r=>.flat (.int .i64 (r:Nat))
def NE{l}:(Nd l).length=l.length:=by simp[Nd]
theorem d6{a b}:Nd a++Nd b=Nd (a++b):=by simp[Nd]
theorem qR:∀a,td (Nd a)=true
 |[]=>rfl
 |c::a=>by show td (.flat (.int .i64 (c:Nat))::Nd a)=true;rw[ew,qR a];rfl
def yv(s:ba)(q:List Nat×Nat):St:=⟨[(0,.flat (.string (S s))),(3,.ga q.1.length (Nd q.1)),(4,.flat (.int .i64 (q.2:Nat)))],[.slot 3],[],[]⟩
def iV(s)(hs:s.length<4294967296):da code lib 69 [.flat (.string (S s))] [] []=some ([.ga (Kd s).length (Nd (Kd s))],false,[],[]):=by
 refine ja o0 (qa rfl) ?_;have c:Sm s:=by unfold Sm;omega
 have b:=Dh (body:=oa (da code lib) ia pC) (live:=[0,3,4]) (nb:=0) (yv s) (fun q=>q.1.length<=q.2/\q.2<=s.length) (fun q=>s.length - q.2)
  (fun q=>(.exit 0,⟨[(3,.ga (q.1++Kd (s.drop q.2)).length (Nd (q.1++Kd (s.drop q.2))))],[.slot 3],[],[]⟩)) (fun⟨out,k⟩ ⟨h,e⟩=>?_) (n:=ia) (a:=([],0)) ⟨Aa _,Ab _⟩ (by grind [ia])
 ·simp only[yv,zf,Ma,Ca]at b
  have d:Nd []=[]:=rfl;simp only[d,n0]at b;exact ta
 ·dsimp only at h e⊢
  have e1:=aA (lib:=lib) s k c e;by_cases fa:k<s.length
  ·right
   obtain⟨hr,g1,d,g3,g4⟩:=NA s k fa;obtain⟨q,i⟩:∃q,Sa (s.drop k)=q:=⟨_,rfl⟩;rw[i]at e1 hr g1 d g3 g4;have c1:(k:Int)<s.length:=aa
   have j:IntKind.i64.wrap ((k:Int)+(q.2:Nat))=((k+q.2:Nat):Int):=wrap64 aa;have g:out.length+1<=za:=Ie
   have l:[PV.flat (.int .i64 (q.1:Nat))]=Nd [q.1]:=rfl;refine⟨⟨[(0,.flat (.string (S s))),(3,.ga (out.length+1) (Nd (out++[q.1]))),(4,.flat (.int .i64 ((k+q.2:Nat):Int)))],[.slot 3],[],[]⟩,(out++[q.1],k+q.2),?_,?_,⟨La,d⟩,aa,?_⟩
   ·simp only[UT,yv,go_sem,simprocAttr,c1,Ua,e1,NE,qR,g,j]
    grind [d6]
   ·exact Kb @yv.eq_1 @Da.{0}
   grind [Kd]
  ·left
   obtain rfl:k=s.length:=aa
   have c1:¬(s.length:Int)<s.length:=aa
   refine⟨.exit 0,⟨[(3,.ga out.length (Nd out))],[.slot 3],[],[]⟩,?_,ea,?_⟩
   ·exact Kb UT @yv.eq_1
   ·have:Kd (s.drop s.length)=[]:=by rw[pq];rfl
    grind
def q6(s)(c:Sm s):da code lib 110 [.flat (.string (S s))] [] []=some ([.flat (.bool (Vh s))],false,[],[]):=by
 refine ja k0 (qa rfl) ?_;have hs:=c;unfold Sm at hs
 have b:=Dh (body:=oa (da code lib) ia mC) (live:=[0,3]) (nb:=0) (fun k:Nat=>(⟨[(0,.flat (.string (S s))),(3,.flat (.int .i64 (k:Nat)))],[],[],[]⟩:St)) (fun k=>k<=s.length) (fun k=>s.length - k)
  (fun k=>if Vh (s.drop k)then(.exit 0,⟨[],[],[],[]⟩)else(.ret,⟨[(2,.flat (.bool false))],[],[],[]⟩)) (fun k l=>?_) (n:=ia) (a:=0) (Ab _) (by grind [ia])
 ·simp only[zf,n0]at b
  cases d:Vh s with
  |true=>
   simp only[d,if_true]at b;exact ta
  |false=>
   simp only[d,Ha,if_false]at b;exact ta
 ·have e1:=aA (lib:=lib) s k c l
  by_cases fa:k<s.length
  ·obtain⟨hr,g1,h,g3,g4⟩:=NA s k fa
   obtain⟨q,o⟩:∃q,Sa (s.drop k)=q:=⟨_,rfl⟩;rw[o]at e1 hr g1 h g3 g4;have d:Vh (s.drop k)=(!Sd q&&Vh (s.drop (k+q.2))):=by unfold Vh;rw[hr,Ck]
   have c1:(k:Int)<s.length:=aa
   have p:IntKind.i64.wrap ((k:Int)+(q.2:Nat))=((k+q.2:Nat):Int):=wrap64 aa;by_cases b1:q.1=65533
   ·have e:((q.1:Nat):Int)=65533:=aa
    by_cases i:q.2=1
    ·have g:((q.2:Nat):Int)=1:=aa
     left;have j:Sd q=true:=by simp[Sd,b1,i]
     refine⟨.ret,⟨[(2,.flat (.bool false))],[],[],[]⟩,?_,ea,la⟩;exact ua pA
    ·have g:¬((q.2:Nat):Int)=1:=aa
     right;have j:Sd q=false:=by simp[Sd,i]
     refine⟨⟨[(0,.flat (.string (S s))),(3,.flat (.int .i64 ((k+q.2:Nat):Int)))],[],[],[]⟩,k+q.2,?_,?_,h,aa,la⟩
     ·exact ua pA
     ·exact ta
   ·have e:¬((q.1:Nat):Int)=65533:=aa
    right;have j:Sd q=false:=by simp[Sd,b1]
    refine⟨⟨[(0,.flat (.string (S s))),(3,.flat (.int .i64 ((k+q.2:Nat):Int)))],[],[],[]⟩,k+q.2,?_,?_,h,aa,la⟩
    ·exact ua pA
    ·exact ta
  ·left
   obtain rfl:k=s.length:=aa
   have c1:¬(s.length:Int)<s.length:=aa
   have d:Vh (s.drop s.length)=true:=by rw[pq];rfl
   refine⟨.exit 0,⟨[],[],[],[]⟩,?_,ea,la⟩;exact ua pA
def Mq(l:ba)(a:sq):ba:=(Ke (re l) a (jf (l.drop a.at_))).1.out
def tZ(l)(a)(h:a.at_<l.length):Mq l a=Mq l (re l a (Sa (l.drop a.at_))).1:=by
 grind [NA,Mq,Ke,aJ,ZI]
def nj(s:ba)(a:sq):St:=⟨[(0,.flat (.string (S s))),(3,.flat (.string (S a.out))),(4,.flat (.int .i64 (a.at_:Nat)))],[],[],[]⟩
def Ou(s)(hs:s.length<1000000000):da code lib 34 [.flat (.string (S s))] [] []=some ([.flat (.string (S (sd s)))],false,[],[]):=by
 refine ja j0 (qa rfl) ?_;have p:Sm s:=by unfold Sm;omega
 have e:=Dh (body:=oa (da code lib) ia lC) (live:=[0,3,4]) (nb:=0) (nj s) (fun a=>a.at_<=s.length/\a.out.length<=4* a.at_) (fun a=>s.length - a.at_)
  (fun a=>(.exit 0,⟨[(3,.flat (.string (S (Mq s a))))],[],[],[]⟩)) (fun a ⟨E,b⟩=>?_) (n:=ia) (a:=⟨0,false,[]⟩) ⟨Ab _,Aa _⟩ (by grind [ia])
 ·have b:Mq s ⟨0,false,[]⟩=sd s:=rfl
  have d:(⟨#[]⟩:ByteArray)=S []:=rfl;simp only[nj,b,n0]at e;exact ta
 ·have e1:=aA (lib:=lib) s a.at_ p E
  by_cases fa:a.at_<s.length
  ·right
   obtain⟨hr,g1,w,g3,g4⟩:=NA s a.at_ fa;have j:=tZ s a fa;obtain⟨q,G⟩:∃q,Sa (s.drop a.at_)=q:=⟨_,rfl⟩;rw[G]at e1 hr g1 w g3 g4 j;have F:=SV s a q;have d:=ZI s a q;refine⟨nj s (re s a q).1,(re s a q).1,?_,by simp only[nj,go_sem,simprocAttr],⟨by rw[d];exact w,by rw[d];omega⟩,by rw[d];omega,by rw[j]⟩;have c1:(a.at_:Int)<s.length:=aa
   have A:IntKind.i64.wrap ((a.at_:Int)+(q.2:Nat))=((a.at_+q.2:Nat):Int):=wrap64 aa;have z:∀m:Nat,a.out.length+(Ka m).length<=za:=fun m=>by grind [ch,za]
   have i:=fun n:Nat=>Gn (lib:=lib) n
   have r:da code lib 72 [.flat (.int .i64 10)] [] []=some ([.flat (.string (S (Ka 10)))],false,[],[]):=Gn 10;have B:da code lib 72 [.flat (.int .i64 65533)] [] []=some ([.flat (.string (S (Ka 65533)))],false,[],[]):=Gn 65533;by_cases r1:q.1=13
   ·have g:((q.1:Nat):Int)=13:=aa
    have u:kh 10=10:=ha
    by_cases r2:a.at_+q.2<s.length
    ·have b:((a.at_+q.2:Nat):Int)<s.length:=aa
     obtain⟨c,o⟩:∃c,s[a.at_+q.2]?=some c:=⟨_,qe r2⟩;have z0:(0:Int)<=((a.at_+q.2:Nat):Int):=aa
     by_cases r3:c=10
     ·subst r3
      have k:Xh s q a.at_=true:=by simp[Xh,r1,o]
      have l:(((10:UInt8).toNat:Nat):Int)=10:=rfl;exact ye cn @nj.eq_1 @re.eq_1
     ·have k:Xh s q a.at_=false:=by simp[Xh,o,r3]
      have l:¬((c.toNat:Nat):Int)=10:=fun h=>by
       have t:c.toNat=(10:UInt8).toNat:=by have:(10:UInt8).toNat=10:=rfl;omega
       exact r3 (Yb.1 t)
      exact Lg cn @nj.eq_1 @re.eq_1 @r1
    ·have b:¬((a.at_+q.2:Nat):Int)<s.length:=aa
     have l:s[a.at_+q.2]?=none:=Qf aa;have k:Xh s q a.at_=false:=by simp[Xh,l]
     exact Lg cn @nj.eq_1 @re.eq_1 @r1
   ·have g:(((q.1:Nat):Int)=13)=False:=by apply propext;simp only[iff_false];omega
    have k:Xh s q a.at_=false:=by simp[Xh,r1]
    have t:(((q.1:Nat):Int)<32)=(q.1<32):=by apply propext;omega
    have u:(((q.1:Nat):Int)=9)=(q.1=9):=by apply propext;omega
    have C:(((q.1:Nat):Int)=10)=(q.1=10):=by apply propext;omega
    have v:((127:Int)<=(q.1:Nat))=(127<=q.1):=by apply propext;omega
    have H:(((q.1:Nat):Int)<=159)=(q.1<=159):=by apply propext;omega
    have sh:kh q.1=if(q.1<32/\q.1≠9/\q.1≠10)\/(127<=q.1/\q.1<160)then 65533 else q.1:=rfl
    by_cases x:q.1<32
    ·by_cases y:q.1=9
     ·have b:kh q.1=q.1:=by rw[sh,if_neg aa]
      have o:=eq_true y;have l:¬127<=q.1:=aa
      simp only[cn,nj,re,k,r1,g,c1,A,Ua,Pj,e1,t,u,v,x,o,l,b,i,z,go_sem,simprocAttr]
     ·by_cases D:q.1=10
      ·have b:kh q.1=q.1:=by rw[sh,if_neg aa]
       have o:=eq_true D;have l:¬127<=q.1:=aa
       simp only[cn,nj,re,k,r1,g,c1,A,Ua,Pj,e1,t,u,C,v,x,y,o,l,b,i,z,go_sem,simprocAttr]
      ·have b:kh q.1=65533:=by rw[sh,if_pos aa]
       exact Lg cn @nj.eq_1 @re.eq_1 @r1
    ·by_cases l:127<=q.1
     ·by_cases o:q.1<=159
      ·have b:kh q.1=65533:=by rw[sh,if_pos aa]
       exact Lg cn @nj.eq_1 @re.eq_1 @r1
      ·have b:kh q.1=q.1:=by rw[sh,if_neg aa]
       exact Lg cn @nj.eq_1 @re.eq_1 @r1
     ·have b:kh q.1=q.1:=by rw[sh,if_neg aa]
      exact Lg cn @nj.eq_1 @re.eq_1 @r1
  ·left
   have b:a.at_=s.length:=aa
   have c1:¬(a.at_:Int)<s.length:=aa
   refine⟨.exit 0,⟨[(3,.flat (.string (S a.out)))],[],[],[]⟩,?_,ea,?_⟩
   ·exact Kb cn @nj.eq_1
   ·have:Mq s a=a.out:=by unfold Mq;rw[b,pq];rfl
    grind
theorem LA{σ c ρ ρ':Type}{step:σ->σ ⊕ Option ρ}{step':c->c ⊕ Option ρ'}(f:σ->c)(g:ρ->ρ')(d:∀a b,step a=.inl b->step' (f a)=.inl (f b))(e:∀a r,step a=.inr (some r)->step' (f a)=.inr (some (g r))):∀{n m a r},n<=m->Ob step none n a=some r->Ob step' none m (f a)=some (g r)
 |0,_,_,_,_,h=>by cases h
 |n+1,0,_,_,i,_=>by omega
 |n+1,m+1,a,r,i,h=>by
  cases hs:step a with
  |inl b=>rw[hf hs]at h;rw[hf (d a b hs)];exact LA f g d e aa h
  |inr q=>rw[hd hs]at h;subst h;exact hd (e a r hs)
def Za(c:UInt8):Nat:=if 48<=c.toNat/\c.toNat<=57 then c.toNat - 48 else if 65<=c.toNat/\c.toNat<=70 then c.toNat - 55 else if 97<=c.toNat/\c.toNat<=102 then c.toNat - 87 else 16
def se:ba->Option Nat
 |a::b::c::d::e::f::_=>if(a=92/\b=117)/\(Za c<=15/\Za d<=15)/\Za e<=15/\Za f<=15 then some (256* (16* Za c+Za d)+(16* Za e+Za f))else none
 |_=>none
def dm(c:UInt8):Option Nat:=if c=34 then some 34 else if c=92 then some 92 else if c=98 then some 8 else if c=102 then some 12 else if c=110 then some 10 else if c=114 then some 13 else if c=116 then some 9 else if c=47 then some 47 else none
def Rm(l:ba):Option (Nat×Nat):=match(l[1]?).bind dm with
 |some v=>some (v,2)
 |none=>match se l with
  |none=>none
  |some a=>if 55296<=a/\a<=57343 then(if a<=56319 then(match se (l.drop 6)with
   |none=>none
   |some b=>if 56320<=b/\b<=57343 then some (65536+1024* (a - 55296)+(b - 56320),12)else none)else none)else some (a,6)
def uf(l:ba):Option (Nat×Nat):=match l with
 |[]=>none
 |c::r=>if c=92 then Rm (c::r)else if(Sa (c::r)).1<32\/(Sa (c::r)).1=34\/Sd (Sa (c::r))=true then none else some (Sa (c::r))
def FW{l t}{v}(h:se l=some v):se (l++t)=some v:=by
 unfold se at h;split at h
 ·simpa[se]using h
 ·cases h
def jq{l}{v}(h:se l=some v):6<=l.length/\v<65536:=by
 unfold se at h;split at h
 ·split at h
  ·cases h
   simp only[sa];omega
  ·cases h
 ·cases h
def E3{l t}{q}(h:Rm l=some q):Rm (l++t)=some q:=by
 have k:2<=l.length:=by
  match l with
  |[]=>cases h
  |[_]=>cases h
  |_::_::_=>simp
 have i:(l++t)[1]?=l[1]?:=yl aa;unfold Rm at h⊢;rw[i];cases hs:(l[1]?).bind dm with
 |some v=>rw[hs]at h;exact h
 |none=>
  rw[hs]at h;dsimp only at h⊢;cases c:se l with
  |none=>rw[c]at h;cases h
  |some a=>
   have j:=(jq c).1;rw[c]at h;rw[FW c,qx j];dsimp only at h⊢;split
   ·rename_i d
    rw[if_pos d]at h;split
    ·rename_i e
     rw[if_pos e]at h;cases g:se (l.drop 6)with
     |none=>rw[g]at h;cases h
     |some b=>rw[g]at h;rw[FW g];exact h
    ·rename_i e;rw[if_neg e]at h;cases h
   ·rename_i d;rw[if_neg d]at h;exact h
theorem eR:∀(l t:ba)(r m),(yb l r m).2=true->yb (l++t) r m=yb l r m
 |l,t,r,0,h=>by grind [yb]
 |[],t,r,m+1,h=>by cases h
 |c::l,t,r,m+1,h=>by
  have:=eR l t
  grind [yb]
theorem P4{r a b l t}(h:cg r a b l≠(65533,1)):cg r a b (l++t)=cg r a b l:=by
 unfold cg at h⊢;split at h
 ·rename_i c;rw[eR l t r b c.1]
 ·exact absurd rfl h
def h2{l t}(b:l≠[])(h:Sd (Sa l)=false):Sa (l++t)=Sa l:=by
 have a:Sa l≠(65533,1):=fun e=>by rw[e]at h;cases h
 cases l with
 |nil=>exact absurd rfl b
 |cons c r=>
  rw[Fa];unfold Sa at a⊢
  grind [P4]
def fU{l t}{q}(h:uf l=some q):uf (l++t)=some q:=by
 cases l with
 |nil=>cases h
 |cons c r=>
  have b:=h2 (l:=c::r) (t:=t) ea;have d:=E3 (l:=c::r) (t:=t) (q:=q);rw[Fa]at*;unfold uf at h⊢;dsimp only at h⊢;by_cases a:c=92
  ·rw[if_pos a]at h⊢;exact d h
  ·rw[if_neg a]at h⊢
   by_cases e:Sd (Sa (c::r))=true
   ·grind
   ·rw[b (by simpa using e)];exact h
def yt{l}{q}(h:uf l=some q):1<=q.2/\q.2<=l.length/\q.1<8388608:=by
 cases l with
 |nil=>cases h
 |cons c r=>
  unfold uf Rm at h;dsimp only at h;have hs:=Vq c r;have a:=UD (c::r);have e:=Uq (c::r);have g:=@jq (c::r);have i:=@jq ((c::r).drop 6);have b:∀x v,dm x=some v->v<100:=fun x v h=>by unfold dm at h;grind
  cases r with
  |nil=>grind
  |cons d r=>grind [List.length_drop]
def Vi(s:ba)(q:ba×Nat):(ba×Nat) ⊕ Option (ba×Nat):=match s.drop q.2 with
 |[]=>.inr none
 |c::r=>if c=34 then .inr (some (q.1,q.2+1))else match uf (c::r)with
  |none=>.inr none
  |some v=>.inl (q.1++Ka v.1,q.2+v.2)
def nn(s:ba)(k:Nat):Option (ba×Nat):=Ob (Vi s) none (s.length+1) ([],k)
def Fp(c:UInt8):Bool:=decide (48<=c.toNat)&&decide (c.toNat<=57)
def ad(l:ba):Nat:=(l.takeWhile Fp).length
def ld(l:ba):Nat:=if l[0]?=some 45 then 1 else 0
def Tf(l:ba)(a:Nat):Nat:=a+(if l[a]?=some 48 then 1 else ad (l.drop a))
def jh(l:ba)(e:Nat):Nat:=if l[e]?=some 46/\0<ad (l.drop (e+1))then e+1+ad (l.drop (e+1))else e
def Li(l:ba)(e:Nat):Nat:=if l[e]?=some 43\/l[e]?=some 45 then e+1 else e
def Sp(l:ba)(e:Nat):Nat:=if(l[e]?=some 101\/l[e]?=some 69)/\0<ad (l.drop (Li l (e+1)))then Li l (e+1)+ad (l.drop (Li l (e+1)))else e
def dl(l:ba):Option Nat:=if ad (l.drop (ld l))=0 then none else some (Sp l (jh l (Tf l (ld l))))
def Gq{l:ba}{e:Nat}{c:UInt8}(a:c≠93):((l++[93])[e]?=some c)=(l[e]?=some c):=by
 apply propext;rcases Nat.lt_trichotomy e l.length with h|h|h<;>grind
def Jy(l:ba)(e:Nat):ad ((l++[93]).drop e)=ad (l.drop e):=by
 unfold ad;rcases Oh l.length e with h|h
 ·rw[Zr La,Zr aa]
 ·rw[qx h,List.takeWhile_append]
  split<;>simp_all[Fp]
def dv(l:ba)(e:Nat)(h:e<=l.length):e+ad (l.drop e)<=l.length:=by
 have:=(List.takeWhile_sublist (p:=Fp) (l:=l.drop e)).length_le;rw[fc]at this;unfold ad;omega
def Bm{l:ba}{e:Nat}{c:UInt8}(h:l[e]?=some c):e<l.length:=(qg h).1
def jA{l}{k}(h:dl l=some k):dl (l++[93])=some k/\1<=k/\k<=l.length:=by
 have e1:ld (l++[93])=ld l:=by simp only[ld,Gq (by decide:(45:UInt8)≠93)]
 have e2:∀a,Tf (l++[93]) a=Tf l a:=fun a=>by simp only[Tf,Gq (by decide:(48:UInt8)≠93),Jy]
 have e3:∀a,jh (l++[93]) a=jh l a:=fun a=>by simp only[jh,Gq (by decide:(46:UInt8)≠93),Jy]
 have e5:∀a,Li (l++[93]) a=Li l a:=fun a=>by simp only[Li,Gq (by decide:(43:UInt8)≠93),Gq (by decide:(45:UInt8)≠93)]
 have e4:∀a,Sp (l++[93]) a=Sp l a:=fun a=>by simp only[Sp,Gq (by decide:(101:UInt8)≠93),Gq (by decide:(69:UInt8)≠93),Jy,e5]
 unfold dl at h⊢;rw[e1,Jy,e2,e3,e4];refine⟨h,?_⟩;split at h
 ·cases h
 cases h;have c:ld l<=l.length:=by have:=@Bm l 0;grind [ld]
 have j:=dv l _ c;have d:1<=Tf l (ld l)/\Tf l (ld l)<=l.length:=by have:=@Bm l (ld l);grind [Tf]
 obtain⟨a,g⟩:∃a,Tf l (ld l)=a:=⟨_,rfl⟩;rw[g]at d⊢;have e:1<=jh l a/\jh l a<=l.length:=by have:=@Bm l a;have:=dv l (a+1);grind [jh]
 obtain⟨b,i⟩:∃b,jh l a=b:=⟨_,rfl⟩;rw[i]at e⊢;have:=@Bm l b;have:=@Bm l (b+1);have:=dv l (Li l (b+1))
 grind [Sp,Li]
def wT:ba:=[116,114,117,101]
def bi:ba:=[102,97,108,115,101]
def wN:ba:=[110,117,108,108]
def ng(l:ba):Option ba:=if wT.isPrefixOf l then some wT else if bi.isPrefixOf l then some bi else if wN.isPrefixOf l then some wN else none
def oI{w l:ba}(a:(93:UInt8)∉w):w.isPrefixOf (l++[93])=w.isPrefixOf l:=by
 rw[bs,zk,zk];constructor
 ·intro h
  rcases List.prefix_concat_iff.1 h with h|h
  ·exact absurd (h▸List.mem_append_right l (Ao.2 rfl)) a
  ·exact h
 ·exact fun h=>h.trans (rx _ _)
def zia{l}:ng (l++[93])=ng l:=by
 unfold ng;rw[oI ha,oI ha,oI ha]
structure Qa where
 kind:UInt8
 text:ba
 fr:Nat
 to:Nat
def rl(c:UInt8):Bool:=([123,125,91,93,58,44]:ba).contains c
def Gm(c:UInt8):Bool:=([32,9,13,10]:ba).contains c
def Jh(s:ba)(k:Nat):Option Qa:=match s.drop k with
 |[]=>none
 |c::r=>if rl c=true then some ⟨c,[],k,k+1⟩else if c=34 then(nn s (k+1)).map fun q=>⟨34,q.1,k,q.2⟩
  else match ng (c::r)with
   |some w=>some ⟨97,w,k,k+w.length⟩
   |none=>(dl (c::r)).map fun n=>⟨48,(c::r).take n,k,k+n⟩
def yf(s:ba)(q:List Qa×Nat):(List Qa×Nat) ⊕ Option (List Qa):=match s.drop q.2 with
 |[]=>.inr (some q.1)
 |c::_=>if Gm c=true then .inl (q.1,q.2+1)else match Jh s q.2 with
  |none=>.inr none
  |some t=>.inl (q.1++[t],t.to)
def nh(s:ba):Option (List Qa):=Ob (yf s) none (s.length+1) ([],0)
def xg(s:ba):ba:=91::(s++[93])
def Qa.up(t:Qa):Qa:=⟨t.kind,t.text,t.fr+1,t.to+1⟩
def jz{s:ba}{k:Nat}(h:k<=s.length):(xg s).drop (k+1)=s.drop k++[93]:=by
 unfold xg;rw[lm,qx h]
def uS{s:ba}{k}{c}{r:ba}(h:s.drop k=c::r):k<=s.length:=by
 rcases Nat.le_total k s.length with a|a
 ·exact a
 ·rw[Zr a]at h;cases h
def zfQ{s k q}(h:nn s k=some q):nn (xg s) (k+1)=some (q.1,q.2+1):=by
 unfold nn at h⊢;have g:s.length+1<=(xg s).length+1:=by simp[xg]
 refine LA (step':=Vi (xg s)) (fun q=>(q.1,q.2+1)) (fun q=>(q.1,q.2+1)) (fun a b h=>?_) (fun a r h=>?_) g h<;>
 ·unfold Vi at h⊢
  cases d:s.drop a.2 with
  |nil=>rw[d]at h;cases h
  |cons c r=>
   rw[d]at h;rw[jz (uS d),d,Fa];have e:=fun q=>fU (l:=c::r) (t:=[93]) (q:=q)
   rw[Fa]at e
   grind
def zg1{s k t}(h:Jh s k=some t):Jh (xg s) (k+1)=some t.up:=by
 unfold Jh at h⊢;cases a:s.drop k with
 |nil=>rw[a]at h;cases h
 |cons c r=>
  rw[a]at h;rw[jz (uS a),a,Fa];have i:=@zfQ s (k+1);have d:=@jA (c::r);have e:=@zia (c::r);rw[Fa]at d e;dsimp only at h⊢;rw[e];by_cases g1:rl c=true
  ·rw[if_pos g1]at h⊢;cases h;rfl
  rw[if_neg g1]at h⊢;by_cases b:c=34
  ·rw[if_pos b]at h⊢
   obtain⟨q,j,rfl⟩:=qm h;rw[i j];rfl
  rw[if_neg b]at h⊢;cases g:ng (c::r)with
  |some w=>rw[g]at h;cases h;simp[Qa.up,Nat.add_right_comm]
  |none=>
   rw[g]at h;obtain⟨n,o,rfl⟩:=qm h;obtain⟨j,p,l⟩:=d o;dsimp only;rw[j,jd,<-Fa,List.take_append_of_le_length l];simp[Qa.up,Nat.add_right_comm]
def cW{s k q}(d:k<=s.length)(h:nn s k=some q):k<q.2/\q.2<=s.length:=by
 refine rk (step:=Vi s) (I:=fun a:ba×Nat=>k<=a.2/\a.2<=s.length) (μ:=fun a=>s.length - a.2) (Q:=fun r=>∀q,r=some q->k<q.2/\q.2<=s.length) (fun a i=>?_) _ _ ⟨Aa _,d⟩ wh q h;unfold Vi;cases b:s.drop a.2 with
 |nil=>simp
 |cons c r=>
  have e:=gg b;have g:=@yt (c::r)
  grind
def zh9{l w}(h:ng l=some w):1<=w.length/\w.length<=l.length:=by
 unfold ng at h;have a:=@ln wT l;have b:=@ln bi l;have c:=@ln wN l
 grind [wT,bi,wN]
def Ww{s k t}(h:Jh s k=some t):k<t.to/\t.to<=s.length/\t.fr=k:=by
 unfold Jh at h;cases a:s.drop k with
 |nil=>rw[a]at h;cases h
 |cons c r=>
  rw[a]at h;have e:=gg a;have b:=@zh9 (c::r);rw[sa]at b;dsimp only at h;split at h
  ·cases h;dsimp only;omega
  split at h
  ·obtain⟨q,d,rfl⟩:=qm h
   have:=cW aa d;dsimp only;omega
  split at h
  ·rename_i w d
   cases h;have:=b d;dsimp only;omega
  ·obtain⟨n,d,rfl⟩:=qm h
   have:=jA d;rw[sa]at this;dsimp only;omega
def zg4{s l}(h:nh s=some l):nh (xg s)=some (⟨91,[],0,1⟩::(l.map Qa.up++[⟨93,[],s.length+1,s.length+2⟩])):=by
 have p:∀a,yf (xg s) (a,s.length+1)=.inl (a++[⟨93,[],s.length+1,s.length+2⟩],s.length+2):=fun a=>by
  have b:(xg s).drop (s.length+1)=[93]:=by rw[jz (Aa _),pq];rfl
  unfold yf Jh;dsimp only;rw[b];rfl
 have u:∀a,yf (xg s) (a,s.length+2)=.inr (some a):=fun a=>by
  have b:(xg s).drop (s.length+2)=[]:=Zr (by simp[xg]);unfold yf;dsimp only;rw[b]
 have g:∀(n m k:Nat)(a out:List Qa),n+1<=m->k<=s.length->Ob (yf s) none n (a,k)=some out->Ob (yf (xg s)) none m (⟨91,[],0,1⟩::a.map Qa.up,k+1)=some (⟨91,[],0,1⟩::(out.map Qa.up++[⟨93,[],s.length+1,s.length+2⟩])):=by
  intro n
  induction n with
  |zero=>intro m k a out q e h;cases h
  |succ n o=>
   intro m k a out q e h;obtain⟨m,rfl⟩:∃j,m=j+1:=⟨m - 1,aa⟩;cases b:s.drop k with
   |nil=>
    have d:k=s.length:=Nat.le_antisymm e (Ak.1 b);subst d;obtain⟨m,rfl⟩:∃j,m=j+1:=⟨m - 1,aa⟩;have hs:yf s (a,s.length)=.inr (some a):=by unfold yf;dsimp only;rw[b]
    rw[hd hs]at h;cases h;rw[hf (p _),hd (u _),Fa]
   |cons c r=>
    have hs:yf s (a,k)=if Gm c=true then .inl (a,k+1)else match Jh s k with
     |none=>.inr none
     |some t=>.inl (a++[t],t.to):=by unfold yf;dsimp only;rw[b]
    have d:yf (xg s) (⟨91,[],0,1⟩::a.map Qa.up,k+1)=if Gm c=true then .inl (⟨91,[],0,1⟩::a.map Qa.up,k+1+1)else match Jh (xg s) (k+1)with
     |none=>.inr none
     |some t=>.inl (⟨91,[],0,1⟩::a.map Qa.up++[t],t.to):=by unfold yf;dsimp only;rw[jz e,b];rfl
    have v:=gg b;by_cases i:Gm c=true
    ·rw[if_pos i]at hs d
     rw[hf hs]at h;rw[hf d];exact o m (k+1) a out aa aa h
    ·rw[if_neg i]at hs d
     cases ht:Jh s k with
     |none=>rw[ht]at hs;rw[hd hs]at h;cases h
     |some t=>
      rw[ht]at hs;rw[zg1 ht]at d;rw[hf hs]at h;rw[hf d];have:=o m t.to (a++[t]) out aa (Ww ht).2.1 h;rwa[Xf]at this
 exact g (s.length+1) (xg s).length 0 [] l (by simp[xg]) (Ab _) h
inductive JV where
 | mk (kind:UInt8) (text:ba) (keys:List ba) (kids:List JV)
def Ch(c:UInt8):Bool:=([34,48,97]:ba).contains c
def Jf(c:UInt8):Bool:=([91,123]:ba).contains c
def Hd(c:UInt8):UInt8:=if c=123 then 125 else 93
def nc(l:List Qa)(k:Nat)(c:UInt8):Bool:=match l[k]? with
 |some t=>decide (t.kind=c)
 |none=>false
def ui(l:List Qa)(k:Nat):ba:=match l[k]? with
 |some t=>t.text
 |none=>[]
def Lf(val:Nat->Option (JV×Nat))(l:List Qa)(c:UInt8)(t:ba)(q:List ba×List JV×Nat):(List ba×List JV×Nat) ⊕ Option (JV×Nat):=
 if c=123/\(nc l (q.2.2+1) 34&&nc l (q.2.2+2) 58)=false then .inr none else
 match val (if c=123 then q.2.2+3 else q.2.2+1)with
 |none=>.inr none
 |some (v,k)=>if nc l k (Hd c)=true then .inr (some (.mk c t (if c=123 then q.1++[ui l (q.2.2+1)]else q.1) (q.2.1++[v]),k+1))
  else if nc l k 44=true then .inl (if c=123 then q.1++[ui l (q.2.2+1)]else q.1,q.2.1++[v],k)else .inr none
def Wb:Nat->List Qa->Nat->Option (JV×Nat)
 |0,_,_=>none
 |n+1,l,k=>match l[k]? with
  |none=>none
  |some t=>if Ch t.kind=true then some (.mk t.kind t.text [] [],k+1)
   else if Jf t.kind=true then(if nc l (k+1) (Hd t.kind)=true then some (.mk t.kind t.text [] [],k+2)else Ob (Lf (Wb n l) l t.kind t.text) none (l.length+1) ([],[],k))
   else none
mutual
def ee:JV->Nat
 | .mk _ _ _ l=>Ze l+1
def Ze:List JV->Nat
 |[]=>0
 |v::l=>max (ee v) (Ze l)
end
theorem EP:∀(a b),Ze (a++b)=max (Ze a) (Ze b)
 |[],b=>by simp[Ze]
 |v::a,b=>by simp only[Fa,Ze,EP a b];omega
def Wh{l:List Qa}{k c}(h:nc l k c=true):k<l.length/\∃t,l[k]?=some t/\t.kind=c:=by
 unfold nc at h;cases a:l[k]? with
 |none=>rw[a]at h;cases h
 |some t=>rw[a]at h;exact⟨(qg a).1,t,rfl,by simpa using h⟩
theorem jB{l:List Qa}(P:Nat->JV->Nat->Prop)(R:Nat->UInt8->ba->List ba->List JV->Nat->Prop)
 (y:∀k t,l[k]?=some t->Ch t.kind=true->P k (.mk t.kind t.text [] []) (k+1))
 (z:∀k t,l[k]?=some t->Jf t.kind=true->nc l (k+1) (Hd t.kind)=true->P k (.mk t.kind t.text [] []) (k+2))
 (A:∀k t,l[k]?=some t->Jf t.kind=true->nc l (k+1) (Hd t.kind)=false->R k t.kind t.text [] [] k)
 (B:∀a c t ks vs k v k',Jf c=true->R a c t ks vs k->(c=123->nc l (k+1) 34=true/\nc l (k+2) 58=true)->P (if c=123 then k+3 else k+1) v k'->
   (nc l k' (Hd c)=true->P a (.mk c t (if c=123 then ks++[ui l (k+1)]else ks) (vs++[v])) (k'+1))/\(nc l k' (Hd c)=false->nc l k' 44=true->R a c t (if c=123 then ks++[ui l (k+1)]else ks) (vs++[v]) k')):
 ∀n k v k',Wb n l k=some (v,k')->P k v k':=by
 intro n
 induction n with
 |zero=>intro k v k' h;cases h
 |succ n C=>
  intro a v0 x h;unfold Wb at h;cases ht:l[a]? with
  |none=>rw[ht]at h;cases h
  |some t=>
   rw[ht]at h;dsimp only at h;split at h
   ·rename_i b;cases h;exact y a t ht b
   split at h
   ·rename_i o
    split at h
    ·rename_i j;cases h;exact z a t ht o j
    ·rename_i j
     have p:∀(m:Nat)(q:List ba×List JV×Nat),R a t.kind t.text q.1 q.2.1 q.2.2->Ob (Lf (Wb n l) l t.kind t.text) none m q=some (v0,x)->P a v0 x:=by
      intro m
      induction m with
      |zero=>intro q u h;cases h
      |succ m D=>
       intro q u h;by_cases b:t.kind=123/\(nc l (q.2.2+1) 34&&nc l (q.2.2+2) 58)=false
       ·rw[hd (show Lf (Wb n l) l t.kind t.text q=.inr none by unfold Lf;rw[if_pos b])]at h;cases h
       cases g:Wb n l (if t.kind=123 then q.2.2+3 else q.2.2+1)with
       |none=>rw[hd (show Lf (Wb n l) l t.kind t.text q=.inr none by unfold Lf;rw[if_neg b,g])]at h;cases h
       |some w=>
        obtain⟨v,k'⟩:=w;have r:=B a t.kind t.text q.1 q.2.1 q.2.2 v k' o u (fun e=>by simp only[e,true_and,sx,cc]at b;exact b) (C _ _ _ g);by_cases d:nc l k' (Hd t.kind)=true
        ·rw[hd (show Lf (Wb n l) l t.kind t.text q=.inr (some _) by unfold Lf;rw[if_neg b,g];dsimp only;rw[if_pos d])]at h
         cases h;exact r.1 d
        ·by_cases i:nc l k' 44=true
         ·rw[hf (show Lf (Wb n l) l t.kind t.text q=.inl _ by unfold Lf;rw[if_neg b,g];dsimp only;rw[if_neg d,if_pos i])]at h
          exact D _ (r.2 (by simpa using d) i) h
         ·rw[hd (show Lf (Wb n l) l t.kind t.text q=.inr none by unfold Lf;rw[if_neg b,g];dsimp only;rw[if_neg d,if_neg i])]at h
          cases h
     exact p _ ([],[],a) (A a t ht o (by simpa using j)) h
   ·cases h
def zhu{l l':List Qa}(G:l.length<=l'.length)(C:∀i t,l[i]?=some t->∃j,l'[i+1]?=some j/\j.kind=t.kind/\j.text=t.text):∀n k v k',Wb n l k=some (v,k')->Wb n l' (k+1)=some (v,k'+1):=by
 have g:∀i t,l[i]?=some t->(∀c,nc l' (i+1) c=nc l i c)/\ui l' (i+1)=ui l i:=fun i t ht=>by
  obtain⟨j,p,y,e⟩:=C i t ht;exact⟨fun c=>by simp[nc,ht,p,y],by simp[ui,ht,p,e]⟩
 have d:∀i c,nc l i c=true->(∀c,nc l' (i+1) c=nc l i c)/\ui l' (i+1)=ui l i:=fun i c h=>by
  obtain⟨_,t,ht,e⟩:=Wh h;exact g i t ht
 intro n
 induction n with
 |zero=>intro k v k' h;cases h
 |succ n D=>
  intro k v k' h;unfold Wb at h⊢;cases ht:l[k]? with
  |none=>rw[ht]at h;cases h
  |some t=>
   obtain⟨j,e1,e2,e3⟩:=C k t ht;rw[ht]at h;rw[e1];dsimp only at h⊢;rw[e2,e3];by_cases g1:Ch t.kind=true
   ·rw[if_pos g1]at h⊢;cases h;rfl
   rw[if_neg g1]at h⊢;by_cases A:Jf t.kind=true
   ·rw[if_pos A]at h⊢
    by_cases g3:nc l (k+1) (Hd t.kind)=true
    ·rw[if_pos g3]at h;rw[if_pos (by rw[(d _ _ g3).1];exact g3)];cases h;rfl
    ·rw[if_neg g3]at h
     have z:∃x,l[k+1]?=some x:=by
      cases e:l[k+1]? with
      |some x=>exact⟨x,rfl⟩
      |none=>
       have p:nc l (k+1) 34=false:=by unfold nc;rw[e]
       have y:Wb n l (k+1)=none:=by unfold Wb;split<;>simp[e]
       rw[hd (show Lf (Wb n l) l t.kind t.text ([],[],k)=.inr none by unfold Lf;by_cases g4:t.kind=123<;>simp[g4,p,y])]at h;cases h
     obtain⟨x,z⟩:=z;rw[if_neg (by rw[(g _ x z).1];exact g3)];refine LA (fun q:List ba×List JV×Nat=>(q.1,q.2.1,q.2.2+1)) (fun q:JV×Nat=>(q.1,q.2+1)) (fun a b h=>?_) (fun a b h=>?_) aa h<;>
     ·unfold Lf at h⊢
      have r:=d (a.2.2+1) 34;have E:=d (a.2.2+2) 58;by_cases B:t.kind=123
      ·simp only[B,true_and,if_true]at h⊢
       by_cases o:(nc l (a.2.2+1) 34&&nc l (a.2.2+2) 58)=false
       ·rw[if_pos o]at h;cases h
       have u:=o;simp only[sx,cc]at u;have r:=r u.1;rw[if_neg o]at h;rw[r.1,(E u.2).1,if_neg o,r.2];cases e:Wb n l (a.2.2+3)with
       |none=>rw[e]at h;cases h
       |some w=>
        rw[D _ _ _ e];rw[e]at h;have F:=d w.2
        grind
      ·simp only[B,false_and,if_false]at h⊢
       cases e:Wb n l (a.2.2+1)with
       |none=>rw[e]at h;cases h
       |some w=>
        rw[D _ _ _ e];rw[e]at h;have F:=d w.2
        grind
   ·rw[if_neg A]at h;cases h
def zg(q:List UInt8×Nat×Nat)(c:UInt8):Option (List UInt8×Nat×Nat):=
 if(q.2.2=1\/q.2.2=3\/q.2.2=5)/\(q.1≠[]/\c=(if q.1.head?=some 123 then 125 else 93))then some (q.1.tail,q.2.1,5)
 else if(q.2.2=0\/q.2.2=1)/\Jf c=true then some (c::q.1,max q.2.1 (q.1.length+1),if c=123 then 3 else 1)
 else if(q.2.2=0\/q.2.2=1)/\Ch c=true then some (q.1,max q.2.1 (q.1.length+1),5)
 else if(q.2.2=2\/q.2.2=3)/\c=34 then some (q.1,q.2.1,4)
 else if q.2.2=4/\c=58 then some (q.1,q.2.1,0)
 else if q.2.2=5/\c=44/\q.1≠[]then some (q.1,q.2.1,if q.1.head?=some 123 then 2 else 0)
 else none
def ai:List Qa->List UInt8×Nat×Nat->Option (List UInt8×Nat×Nat)
 |[],q=>some q
 |t::l,q=>(zg q t.kind).bind (ai l)
def qo{l:List Qa}{k t}(h:l[k]?=some t)(q):ai (l.drop k) q=(zg q t.kind).bind (ai (l.drop (k+1))):=by
 obtain⟨a,b⟩:=qg h;rw[Qd a,b];rfl
def zV(l:List Qa):∀n k v k',Wb n l k=some (v,k')->k<k'/\∀o d w,(w=0\/w=1)->ai (l.drop k) (o,d,w)=ai (l.drop k') (o,max d (o.length+ee v),5):=by
 refine jB (P:=fun k v k'=>k<k'/\∀o d w,(w=0\/w=1)->ai (l.drop k) (o,d,w)=ai (l.drop k') (o,max d (o.length+ee v),5))
  (R:=fun p c t ks vs k=>p<=k/\∀o d w,(w=0\/w=1)->ai (l.drop p) (o,d,w)=ai (l.drop (k+1)) (c::o,max d (o.length+Ze vs+1),if k=p then(if c=123 then 3 else 1)else(if c=123 then 2 else 0))) ?_ ?_ ?_ ?_
 ·refine fun k t ht a=>⟨aa,fun o d w g=>?_⟩
  rw[qo ht];have hs:zg (o,d,w) t.kind=some (o,max d (o.length+1),5):=by grind [zg,Ch,Jf]
  rw[hs];rfl
 ·refine fun k t ht B q=>⟨aa,fun o d w g=>?_⟩
  obtain⟨_,t2,j,h⟩:=Wh q;rw[qo ht];have hs:zg (o,d,w) t.kind=some (t.kind::o,max d (o.length+1),if t.kind=123 then 3 else 1):=by grind [zg,Jf]
  rw[hs,Ja,qo j,h];have i:zg (t.kind::o,max d (o.length+1),if t.kind=123 then 3 else 1) (Hd t.kind)=some (o,max d (o.length+1),5):=by grind [zg,Hd,Jf]
  rw[i];rfl
 ·refine fun k t ht B q=>⟨Aa _,fun o d w g=>?_⟩
  rw[qo ht,if_pos rfl];have hs:zg (o,d,w) t.kind=some (t.kind::o,max d (o.length+1),if t.kind=123 then 3 else 1):=by grind [zg,Jf]
  rw[hs];rfl
 ·intro p c t ks vs k v k' B u F z
  have G:k<k':=by have:=z.1;split at this<;>omega
  have r:∀o d w,(w=0\/w=1)->ai (l.drop p) (o,d,w)=ai (l.drop k') (c::o,max d (o.length+Ze (vs++[v])+1),5):=fun o d w g=>by
   rw[u.2 o d w g];have A:max (max d (o.length+Ze vs+1)) ((c::o).length+ee v)=max d (o.length+Ze (vs++[v])+1):=by
    rw[EP,Ze,Ze,sa];omega
   by_cases y:c=123
   ·obtain⟨D,E⟩:=F y
    obtain⟨_,C,b,a⟩:=Wh D;obtain⟨_,t2,j,h⟩:=Wh E;rw[qo b,a];have hs:∀w,(w=2\/w=3)->zg (c::o,max d (o.length+Ze vs+1),w) 34=some (c::o,max d (o.length+Ze vs+1),4):=fun w g=>by grind [zg]
    rw[hs _ la,Ja,qo j,h];have i:zg (c::o,max d (o.length+Ze vs+1),4) 58=some (c::o,max d (o.length+Ze vs+1),0):=by grind [zg]
    rw[i,Ja];have:=z.2 (c::o) (max d (o.length+Ze vs+1)) 0 (.inl rfl);rw[if_pos y]at this;rw[this,A]
   ·have:=z.2 (c::o) (max d (o.length+Ze vs+1)) (if k=p then(if c=123 then 3 else 1)else(if c=123 then 2 else 0)) la
    rw[if_neg y]at this;rw[this,A]
  refine⟨fun q=>⟨by have:=u.1;omega,fun o d w g=>?_⟩,fun q x=>⟨by have:=u.1;omega,fun o d w g=>?_⟩⟩
  ·obtain⟨_,C,b,a⟩:=Wh q
   rw[r o d w g,qo b,a];have hs:∀e,zg (c::o,e,5) (Hd c)=some (o,e,5):=fun e=>by grind [zg,Hd]
   rw[hs,ee];rfl
  ·obtain⟨_,C,b,a⟩:=Wh x
   rw[r o d w g,qo b,a];have hs:∀e,zg (c::o,e,5) 44=some (c::o,e,if c=123 then 2 else 0):=fun e=>by grind [zg,Jf,Ch]
   have y:¬k'=p:=by have:=u.1;omega
   rw[hs,if_neg y];rfl
variable {lib:Callee}
def kv:PV->PV->Bool
 | .flat (.int k a),.flat (.int k' b)=>decide (k=k')&&decide (a=b)
 | .flat (.bool a),.flat (.bool b)=>decide (a=b)
 | .flat (.string a),.flat (.string b)=>decide (a.data.toList=b.data.toList)
 |_,_=>false
def dE{p q:PV}(h:kv p q=true):p=q:=by
 unfold kv at h;split at h
 ·simp only[cc,decide_eq_true_eq]at h;rw[h.1,h.2]
 ·simp only[decide_eq_true_eq]at h;rw[h]
 ·simp only[decide_eq_true_eq]at h
  congr 2;exact fu (ei h)
 ·cases h
def jv:Option Ye->List PV->Bool
 |some ([a],false,[],[]),[b]=>kv a b
 |some ([a,c],false,[],[]),[b,d]=>kv a b&&kv c d
 |_,_=>false
def ZP{a l}(h:jv a l=true):a=some (l,false,[],[]):=by
 unfold jv at h;split at h
 ·rw[dE h]
 ·simp only[cc]at h;rw[dE h.1,dE h.2]
 ·cases h
def Tv{f:FuncId}(g:UInt8->List PV)(h:(List.range 256).all (fun n=>jv (Df cp lib 60 f [.flat (.int .u8 n)] [] []) (g (UInt8.ofNat n)))=true)(c:UInt8):da code lib f [.flat (.int .u8 c.toNat)] [] []=some (g c,false,[],[]):=by
 have:=ZP (Qj (p:=fun n=>jv (Df cp lib 60 f [.flat (.int .u8 n)] [] []) (g (UInt8.ofNat n))) h c);rw[UInt8.ofNat_toNat]at this;exact Um.2 ⟨60,by rw[Ls];exact this⟩
def pR(n:Nat):UInt8:=if n<10 then UInt8.ofNat (48+n)else UInt8.ofNat (55+n)
def vf(c:UInt8):ba:=[pR (c.toNat/16),pR (c.toNat % 16)]
def KP:∀c:UInt8,da code lib 277 [.flat (.int .u8 c.toNat)] [] []=some ([.flat (.int .i64 (Za c:Nat))],false,[],[]):=Tv (fun c=>[.flat (.int .i64 (Za c:Nat))]) ca
def mU:∀c:UInt8,da code lib 204 [.flat (.int .u8 c.toNat)] [] []=some ([.flat (.string (S (vf c)))],false,[],[]):=Tv (fun c=>[.flat (.string (S (vf c)))]) ca
def nU:∀c:UInt8,da code lib 234 [.flat (.int .u8 c.toNat)] [] []=some ([.flat (.string (S (vf c)))],false,[],[]):=Tv (fun c=>[.flat (.string (S (vf c)))]) ca
def YW:∀c:UInt8,da code lib 272 [.flat (.int .u8 c.toNat)] [] []=some ([.flat (.int .u8 (if Za c<=15 then Za c else 0:Nat)),.flat (.bool (decide (Za c<=15)))],false,[],[]):=Tv (fun c=>[.flat (.int .u8 (if Za c<=15 then Za c else 0:Nat)),.flat (.bool (decide (Za c<=15)))]) ca
def ZX:∀c:UInt8,da code lib 125 [.flat (.int .u8 c.toNat)] [] []=some ([.flat (.bool (Gm c))],false,[],[]):=Tv (fun c=>[.flat (.bool (Gm c))]) ca
def AV:da code lib 132 [] [] []=some ([.ga 7 (Nd [34,92,8,12,10,13,9]),.flat (.string (S [34,92,98,102,110,114,116]))],false,[],[]):=Um.2 ⟨60,by rw[Ls];kernel_rfl⟩
def HP(c:UInt8):Za c<=16:=by grind [Za]
def Fg:ba->Option UInt8
 |a::b::_=>if Za a<=15/\Za b<=15 then some (UInt8.ofNat (16* Za a+Za b))else none
 |_=>none
def ly{a b:UInt8}(c:Za a<=15)(d:Za b<=15):(UInt8.ofNat (16* Za a+Za b)).toNat=16* Za a+Za b:=La
theorem bL(s:ba)(k:Nat)(hs:s.length<=1000000000)(t:k<=1000000000):da code lib 237 [.flat (.string (S s)),.flat (.int .i64 (k:Nat))] [] []=some (match Fg (s.drop k)with
 |some b=>[.flat (.int .u8 b.toNat),.flat (.bool true)]
 |none=>[.flat (.int .u8 0),.flat (.bool false)],false,[],[]):=by
 match c:s.drop k with
 |[]=>
  have d:=Ak.1 c;simp only[Fg];exact xa Tu
 |[a]=>
  have d:=gg c;rw[Ca]at d;simp only[Fg];exact xa Tu
 |a::b::r=>
  have p:=Yh c;have q:=Yh (Pm c);have d:=gg c;rw[sa]at d;have n:=KP (lib:=lib) a;have o:=KP (lib:=lib) b;have b1:=HP a;have l:=HP b;have j:=@ly a b;simp only[Fg];clear c;generalize Za a=x at*;generalize Za b=y at*;by_cases g:x<=15
  ·by_cases i:y<=15
   ·rw[if_pos ⟨g,i⟩]
    dsimp only;rw[j g i];have e:((16* x:Nat):Int)=16* (x:Int):=aa
    clear j;exact xa Tu
   ·rw[if_neg fun h=>i h.2]
    exact xa Tu
  ·rw[if_neg fun h=>g h.1]
   exact xa Tu
def pJ(l:ba):se l=if([92,117]:ba).isPrefixOf l=true then(match Fg (l.drop 2),Fg (l.drop 4)with|some a,some b=>some (256* a.toNat+b.toNat)|_,_=>none)else none:=by
 match l with
 |[]=>rfl
 |[_]=>simp[se]
 |[_,_]=>simp[se,Fg]
 |[_,_,_]=>simp[se,Fg]
 |[_,_,c,d]=>simp[se,Fg]
 |[_,_,c,d,_]=>simp[se,Fg]
 |a::b::c::d::e::f::r=>
  have g:=@ly c d;have h:=@ly e f;simp only[se,Fg,lm,zf,List.isPrefixOf,vk,cc,beq_iff_eq]
  grind
def fy(s w:ba)(k:Nat)(hs:s.length<=1000000000)(b:w.length<=1000000000)(c:w≠[])(a:k<=1000000000):da code lib 105 [.flat (.string (S s)),.flat (.string (S w)),.flat (.int .i64 (k:Nat))] [] []=some ([.flat (.bool (w.isPrefixOf (s.drop k)))],false,[],[]):=by
 rw[So s w k hs b a];unfold Ub;by_cases h:k<=s.length
 ·simp[h]
 ·rw[Zr aa]
  cases w<;>simp_all[List.isPrefixOf]
def EW(s:ba)(k:Nat)(hs:s.length<=1000000000)(l:k<=100000000):da code lib 287 [.flat (.string (S s)),.flat (.int .i64 (k:Nat))] [] []=some ([.flat (.int .i64 (match se (s.drop k)with|some v=>(v:Int)|none=>-1))],false,[],[]):=by
 have g:=fy (lib:=lib) s [92,117] k hs ha ha aa;have d:=bL (lib:=lib) s (k+2) hs aa;have c:=bL (lib:=lib) s (k+4) hs aa;rw[pJ,Cd,Cd];simp only[Ee,n2,n4]at d c;rcases Ph (([92,117]:ba).isPrefixOf (s.drop k))with h|h
 ·rw[h]at g
  rw[if_pos h];cases e1:Fg (s.drop (k+2))with
  |none=>rw[e1]at d;cases e2:Fg (s.drop (k+4))<;>(rw[e2]at c;exact xa By)
  |some a=>
   rw[e1]at d;have i:=a.toNat_lt;cases e2:Fg (s.drop (k+4))with
   |none=>rw[e2]at c;exact xa By
   |some b=>
    rw[e2]at c;have j:=b.toNat_lt;have e:((256* a.toNat:Nat):Int)=256* (a.toNat:Int):=aa
    exact xa By
 ·rw[h]at g
  rw[if_neg (by simp[h])];exact xa By
def QI(d:UInt8):(d=34\/d=92\/d=98\/d=102\/d=110\/d=114\/d=116\/d=47)\/(dm d=none/\d≠34/\d≠92/\d≠98/\d≠102/\d≠110/\d≠114/\d≠116/\d≠47):=by
 unfold dm;grind
theorem zaS(s:ba)(k:Nat)(hs:s.length<=100000)(U:k<=s.length):da code lib 260 [.flat (.string (S s)),.flat (.int .i64 (k:Nat))] [] []=some (match uf (s.drop k)with
 |some q=>[.flat (.int .i64 (q.1:Nat)),.flat (.int .i64 (q.2:Nat)),.flat (.bool true)]
 |none=>[.flat (.int .i64 0),.flat (.int .i64 0),.flat (.bool false)],false,[],[]):=by
 have A:=aA (lib:=lib) s k (by unfold Sm;omega) U;have o:=EW (lib:=lib) s k aa aa;have p:=EW (lib:=lib) s (k+6) aa aa;have l:∀w:UInt8,da code lib 105 [.flat (.string (S s)),.flat (.string (S [w])),.flat (.int .i64 ((k:Nat)+1))] [] []=some ([.flat (.bool (decide (s[k+1]?=some w)))],false,[],[]):=fun w=>by
  have:=fy (lib:=lib) s [w] (k+1) aa ea ea aa;simp only[Ee,n1]at this;rw[this];have e:s[k+1]?=(s.drop (k+1))[0]?:=by rw[lg,ci]
  rw[e];congr 5;rw[bs];cases s.drop (k+1)with
  |nil=>simp[List.isPrefixOf]
  |cons x t=>simp only[List.isPrefixOf,vk,beq_iff_eq,Bo,Pb,decide_eq_true_eq];exact eq_comm
 simp only[Ee,show((6:Nat):Int)=6 from rfl]at p
 match j:s.drop k with
 |[]=>
  have V:=Ak.1 j;simp only[uf];exact xa ki
 |c::r=>
  have X:=Yh j;have V:=gg j;have hr:s[k+1]?=r[0]?:=by rw[<-Pm j,lg,ci]
  rw[j]at A o;rw[hr]at l;have E:=Uq (c::r);have H:s.drop (k+6)=(c::r).drop 6:=by rw[<-j,Cd]
  rw[H]at p;clear j H hr;simp only[uf];by_cases g:c=92
  ·subst g
   rw[if_pos rfl];have hs:=AV (lib:=lib);simp only[Nd,Xb,Fe]at hs;clear A E;have P:(((92:UInt8).toNat:Nat):Int)=92:=rfl;cases r with
   |nil=>
    simp only[List.getElem?_nil,reduceCtorEq,decide_false]at l;simp only[Rm,se,yk,List.getElem?_nil,Option.bind_none]at o⊢;refine ja ki (qa rfl) ?_;exact ze @lc @Bb @Mb @Zb @Wc MH
   |cons d r=>
    simp only[Bo,Pb]at l;simp only[Rm,yk,Bo,Ja];rcases QI d with((rfl|rfl|rfl|rfl|rfl|rfl|rfl|rfl)|⟨Q,I,J,K,L,M,N,O,F⟩)
    iterate 8
     ·simp[dm]
      refine ja ki (qa rfl) ?_;exact ze @lc @Bb @Mb @Zb @Wc MH
    ·rw[Q]
     have W:Cc (oa (da code lib) ia rC) [0,1,9,10,11] 0 ia ⟨[(0,.flat (.string (S s))),(1,.flat (.int .i64 (k:Nat))),(9,.ga 7 [.flat (.int .i64 34),.flat (.int .i64 92),.flat (.int .i64 8),.flat (.int .i64 12),.flat (.int .i64 10),.flat (.int .i64 13),.flat (.int .i64 9)]),(10,.flat (.string (S [34,92,98,102,110,114,116]))),(11,.flat (.int .i64 0))],[],[],[]⟩=some (.exit 0,⟨[(0,.flat (.string (S s))),(1,.flat (.int .i64 (k:Nat)))],[],[],[]⟩):=ze @lc @Bb @Mb @Zb @Wc MH;have B:=l 47;have u:=eq_false F;simp only[u,decide_false]at B;dsimp only;clear l I J K L M N O F u;have z:=@jq (92::d::r);cases C:se (92::d::r)with
     |none=>
      rw[C]at o;exact xa ki
     |some a=>
      have z:=(z C).2;rw[C]at o;have T:=Bw (lib:=lib) a;have D:Sb a=!(decide (55296<=a)&&decide (a<=57343)):=by unfold Sb;grind
      rw[D]at T;dsimp only at o⊢;by_cases g1:55296<=a
      ·by_cases v:a<=57343
       ·rw[if_pos ⟨g1,v⟩]
        by_cases g3:a<=56319
        ·rw[if_pos g3]
         cases i:se ((92::d::r).drop 6)with
         |none=>
          rw[i]at p;exact xa ki
         |some b=>
          have R:=(jq i).2;rw[i]at p;dsimp only at p⊢;by_cases g4:56320<=b
          ·by_cases G:b<=57343
           ·rw[if_pos ⟨g4,G⟩]
            obtain⟨x,rfl⟩:∃x,a=55296+x:=⟨a - 55296,aa⟩;obtain⟨y,rfl⟩:∃y,b=56320+y:=⟨b - 56320,aa⟩;have e1:(55296:Int)+(x:Int) - 55296=x:=aa
            have e2:(65536:Int)+1024* (x:Int)+(56320+(y:Int)) - 56320=65536+1024* (x:Int)+(y:Int):=aa
            have e3:((1024* x:Nat):Int)=1024* (x:Int):=aa
            simp only[yi];exact xa ki
           ·rw[if_neg fun h=>G h.2]
            exact xa ki
          ·rw[if_neg fun h=>g4 h.1]
           exact xa ki
        ·rw[if_neg g3]
         exact xa ki
       ·rw[if_neg fun h=>v h.2]
        exact xa ki
      ·rw[if_neg fun h=>g1 h.1]
       exact xa ki
  ·rw[if_neg g]
   have u:((c.toNat:Nat):Int)=92 ↔ False:=by
    have:c.toNat≠(92:UInt8).toNat:=fun h=>g (Yb.1 h)
    simp at this⊢;omega
   clear o p l;obtain⟨⟨a,n⟩,i⟩:∃q,Sa (c::r)=q:=⟨_,rfl⟩;rw[i]at A E⊢;simp only[Sd,decide_eq_true_eq];dsimp only at A E⊢;by_cases g1:a<32
   ·rw[if_pos (.inl g1)];exact xa ki
   by_cases v:a=34
   ·rw[if_pos (.inr (.inl v))];subst v;exact xa ki
   by_cases g3:a=65533
   ·by_cases g4:n=1
    ·rw[if_pos (.inr (.inr ⟨g3,g4⟩))];exact xa ki
    ·rw[if_neg aa];exact xa ki
   ·rw[if_neg aa];exact xa ki
def DH(Q:List (Nat×PV)->Prop):Option (Out×St)->Prop
 |some (.normal,⟨sl,[],[],[]⟩)=>Q sl
 |_=>False
theorem zaI{Q sl}:DH Q (some (.normal,⟨sl,[],[],[]⟩))=Q sl:=rfl
attribute [go_sem] zaI
def Pt{cf m A B sl ub bx r}(Q:List (Nat×PV)->Prop)(a:DH Q (oa cf m A ⟨sl,[],[],[]⟩))(b:∀sl,Q sl->Gp ub bx (oa cf m B ⟨sl,[],[],[]⟩)=r):Gp ub bx (oa cf m (.seq A B) ⟨sl,[],[],[]⟩)=r:=by
 unfold DH at a;split at a
 ·rename_i h;rw[Mu,h,Ov];exact b _ a
 ·exact a.elim
def qv(Q:Out->St->Prop):Option (Out×St)->Prop
 |some (o,s)=>o≠.normal/\Q o s
 |none=>False
theorem b4{Q o s}:qv Q (some (o,s))=(o≠.normal/\Q o s):=rfl
def rQ{Q x}(h:qv Q x):∃o s,x=some (o,s)/\o≠.normal/\Q o s:=by
 match x,h with
 |some (o,s),h=>exact⟨o,s,rfl,h⟩
def rv{Q:Out->St->Prop}{x o s}(h:x=some (o,s))(a:o≠.normal)(b:Q o s):qv Q x:=by rw[h];exact⟨a,b⟩
def Wp(live:List Nat)(nb:Nat)(t:St):Option (Out×St)->Prop
 |some (.normal,s)=>s.only live nb=t
 |_=>False
theorem zaK{live nb t s}:Wp live nb t (some (.normal,s))=(s.only live nb=t):=rfl
attribute [go_sem] b4 zaK
theorem Yn{η σ ρ:Type}{body}{live}{nb}(c:η->σ->St)(step:σ->σ ⊕ ρ)(d)(Q:ρ->Out->St->Prop)(I:σ->Prop)(μ:σ->Nat)
 (hr:∀h a,I a->match step a with| .inl b=>∃j,Wp live nb (c j b) (body (c h a))| .inr r=>qv (Q r) (body (c h a))) (k:∀a b,I a->step a=.inl b->I b/\μ b<μ a):
 ∀{n m}(h)(a),I a->μ a<n->μ a<m->∃o s,Cc body live nb m (c h a)=some (o,s)/\Q (Ob step d n a) o s
 |n,0,h,a,g,p,l=>by omega
 |0,_,h,a,g,p,l=>by omega
 |n+1,m+1,h,a,g,p,l=>by
  have e:=hr h a g;rw[Bb];cases hs:step a with
  |inl b=>
   rw[hs]at e;obtain⟨j,e⟩:=e;obtain⟨t,u⟩:=k a b g hs;unfold Wp at e;split at e
   ·rename_i q
    rw[q,Mb,e,hf hs];exact Yn c step d Q I μ hr k j b t aa aa
   ·exact e.elim
  |inr r=>
   rw[hs]at e;obtain⟨o,s,e,q,t⟩:=rQ e;rw[e,hd hs];refine⟨o,s,?_,t⟩;cases o with
   |normal=>exact absurd rfl q
   |exit i=>rfl
   |ret=>rfl
def ug{α β:Type}(f:α->β->α)(L:List β)(q:α×Nat):(α×Nat) ⊕ α:=match L[q.2]? with
 |some x=>.inl (f q.1 x,q.2+1)
 |none=>.inr q.1
theorem Bp{α β}{f:α->β->α}{L:List β}{d}:∀{n k a},L.length - k<n->Ob (ug f L) d n (a,k)=(L.drop k).foldl f a
 |0,_,_,h=>by omega
 |n+1,k,a,h=>by
  cases b:L[k]? with
  |none=>
   have hs:ug f L (a,k)=.inr a:=by unfold ug;dsimp only;rw[b]
   rw[hd hs,Zr (Bl.1 b)];rfl
  |some x=>
   have hs:ug f L (a,k)=.inl (f a x,k+1):=by unfold ug;dsimp only;rw[b]
   obtain⟨c,e⟩:=qg b;rw[hf hs,Bp aa,Qd c,e];rfl
def gr{α β}{f:α->β->α}{L:List β}(a b:α×Nat)(h:ug f L a=.inl b):a.2<L.length/\b.2=a.2+1/\∃x,L[a.2]?=some x/\b.1=f a.1 x:=by
 unfold ug at h;cases c:L[a.2]? with
 |none=>rw[c]at h;cases h
 |some x=>rw[c]at h;cases h;exact⟨(qg c).1,rfl,x,rfl,rfl⟩
def YD(c:UInt8)(r:ba):ad (c::r)=if Fp c=true then ad r+1 else 0:=by
 unfold ad;rw[List.takeWhile_cons];split<;>rfl
def C2(s:ba)(k:Nat)(hs:s.length<=100000)(i:k<=200000):da code lib 261 [.flat (.string (S s)),.flat (.int .i64 (k:Nat))] [] []=some ([.flat (.int .i64 (k+ad (s.drop k):Nat))],false,[],[]):=by
 have g:=Dh (body:=oa (da code lib) ia BC) (live:=[0,1]) (nb:=0) (fun k:Nat=>(⟨[(0,.flat (.string (S s))),(1,.flat (.int .i64 (k:Nat)))],[],[],[]⟩:St)) (fun k=>k<=200000) (fun k=>s.length - k)
  (fun k=>(.exit 0,⟨[(1,.flat (.int .i64 (k+ad (s.drop k):Nat)))],[],[],[]⟩)) (fun k i=>?_) (n:=ia) (a:=k) i (by grind [ia])
 ·exact xa D0
 ·cases b:s.drop k with
  |nil=>
   have j:=Ak.1 b;exact .inl ⟨.exit 0,⟨[(1,.flat (.int .i64 (k:Nat)))],[],[],[]⟩,ua sA,ea,rfl⟩
  |cons c r=>
   have o:=Yh b;have j:=gg b;have e:=Pm b;rw[YD];unfold Fp;clear b;have p:=c.toNat_lt;obtain⟨n,l⟩:∃n,c.toNat=n:=⟨_,rfl⟩;rw[l];by_cases d:48<=n
   ·by_cases h:n<=57
    ·refine .inr ⟨⟨[(0,.flat (.string (S s))),(1,.flat (.int .i64 (k+1:Nat)))],[],[],[]⟩,k+1,ua sA,ta,aa,aa,?_⟩
     rw[e];simp[d,h,Ij,Vr 1]
    ·refine .inl ⟨.exit 0,⟨[(1,.flat (.int .i64 (k:Nat)))],[],[],[]⟩,ua sA,ea,?_⟩
     simp[d,h]
   ·refine .inl ⟨.exit 0,⟨[(1,.flat (.int .i64 (k:Nat)))],[],[],[]⟩,ua sA,ea,?_⟩
    simp[d]
def aD(s:ba)(w:UInt8)(k:Nat)(hs:s.length<=100000)(a:k<=1000000):da code lib 105 [.flat (.string (S s)),.flat (.string (S [w])),.flat (.int .i64 (k:Nat))] [] []=some ([.flat (.bool (decide (s[k]?=some w)))],false,[],[]):=by
 rw[fy (lib:=lib) s [w] k aa ea ea aa];have e:s[k]?=(s.drop k)[0]?:=by rw[lg,ci]
 rw[e];congr 5;rw[bs];cases s.drop k with
 |nil=>simp[List.isPrefixOf]
 |cons x t=>simp only[List.isPrefixOf,vk,beq_iff_eq,Bo,Pb,decide_eq_true_eq];exact eq_comm
def IP{s:ba}{k}(h:ad (s.drop k)≠0):∃c,s[k]?=some c:=by
 cases a:s.drop k with
 |nil=>rw[a]at h;exact absurd rfl h
 |cons c r=>exact⟨c,Yh a⟩
def JT(s:ba)(k:Nat):(ld (s.drop k)=if s[k]?=some 45 then 1 else 0)/\(dl (s.drop k)=if ad (s.drop (k+ld (s.drop k)))=0 then none else some (Sp (s.drop k) (jh (s.drop k) (Tf (s.drop k) (ld (s.drop k))))))/\
 (∀a,k+Tf (s.drop k) a=if s[k+a]?=some 48 then k+a+1 else k+a+ad (s.drop (k+a)))/\
 (∀e,k+jh (s.drop k) e=if s[k+e]?=some 46/\0<ad (s.drop (k+e+1))then k+e+1+ad (s.drop (k+e+1))else k+e)/\
 (∀e,k+Li (s.drop k) e=if s[k+e]?=some 43\/s[k+e]?=some 45 then k+e+1 else k+e)/\
 ∀e,k+Sp (s.drop k) e=if(s[k+e]?=some 101\/s[k+e]?=some 69)/\0<ad (s.drop (k+Li (s.drop k) (e+1)))then k+Li (s.drop k) (e+1)+ad (s.drop (k+Li (s.drop k) (e+1)))else k+e:=by
 refine⟨by unfold ld;rw[lg,ci],by unfold dl;rw[Cd],fun a=>?_,fun e=>?_,fun e=>?_,fun e=>?_⟩
 ·unfold Tf;rw[lg,Cd];split<;>omega
 ·unfold jh;rw[lg,Cd,Ij k e 1];split<;>omega
 ·unfold Li;rw[lg];split<;>omega
 ·unfold Sp;rw[lg,Cd];split<;>omega
def zaB(s:ba)(k:Nat)(hs:s.length<=100000)(hkZ:k<=s.length):da code lib 202 [.flat (.string (S s)),.flat (.int .i64 (k:Nat))] [] []=some ([.flat (.int .i64 (match dl (s.drop k)with|some n=>((k+n:Nat):Int)|none=>-1))],false,[],[]):=by
 have v:=fun w j(h:j<=1000000)(e:s[j]?=some w)=>(aD (lib:=lib) s w j hs h).trans (by rw[decide_eq_true e])
 have hF:=fun w j(h:j<=1000000)(e:¬s[j]?=some w)=>(aD (lib:=lib) s w j hs h).trans (by rw[decide_eq_false e])
 have C:=fun j(h:j<=200000)=>C2 (lib:=lib) s j hs h
 have l:=fun j(h:j<=s.length)=>dv s j h
 have fa:=fun j c(h:s[j]?=some c)=>Bm h
 obtain⟨H,O,P,Q,T,R⟩:=JT s k;refine ja E0 (qa rfl) ?_;refine Pt (fun sl=>look sl 0=.flat (.string (S s))/\look sl 1=.flat (.int .i64 (k:Nat))) ta fun sl ⟨u,z⟩=>?_
 refine Pt (fun sl=>look sl 0=.flat (.string (S s))/\look sl 1=.flat (.int .i64 (k+ld (s.drop k):Nat))) ?_ fun sl ⟨u,z⟩=>?_
 ·rw[H]
  by_cases p:s[k]?=some 45
  ·have E:=v 45 k aa p
   rw[if_pos p];exact ta
  ·have E:=hF 45 k aa p
   rw[if_neg p];exact ta
 have M:k+ld (s.drop k)<=s.length:=by
  rw[H];split
  ·rename_i h;have:=fa _ _ h;omega
  ·omega
 have o:=P (ld (s.drop k));have i:=Q (Tf (s.drop k) (ld (s.drop k)));have G:=R (jh (s.drop k) (Tf (s.drop k) (ld (s.drop k))));have t:=T (jh (s.drop k) (Tf (s.drop k) (ld (s.drop k)))+1);rw[O];clear H O P Q R T;obtain⟨a,J⟩:∃a,k+ld (s.drop k)=a:=⟨_,rfl⟩;rw[J]at M o z⊢;by_cases A:ad (s.drop a)=0
 ·rw[if_pos A]
  exact ta
 rw[if_neg A];dsimp only;obtain⟨c,y⟩:=IP A;have l0Z:=l a M;refine Pt (fun sl=>look sl 0=.flat (.string (S s))/\look sl 1=.flat (.int .i64 (a:Nat))/\look sl 5=.flat (.int .i64 (a+ad (s.drop a):Nat))) ta fun sl ⟨u,z,I⟩=>?_
 refine Pt (fun sl=>look sl 0=.flat (.string (S s))/\look sl 1=.flat (.int .i64 (a:Nat))/\look sl 5=.flat (.int .i64 (a+ad (s.drop a):Nat))) ta fun sl ⟨u,z,I⟩=>?_
 obtain⟨e,K⟩:∃e,k+Tf (s.drop k) (ld (s.drop k))=e:=⟨_,rfl⟩;rw[K]at o i;have b:e<=s.length:=by
  rw[o];split
  ·have:=fa _ _ y;omega
  ·omega
 refine Pt (fun sl=>look sl 0=.flat (.string (S s))/\look sl 5=.flat (.int .i64 (e:Nat))) ?_ fun sl ⟨u,I⟩=>?_
 ·by_cases h:s[a]?=some 48
  ·rw[if_pos h]at o;subst o;clear y;exact ta
  ·rw[if_neg h]at o
   have p:c.toNat≠(48:UInt8).toNat:=fun q=>h (by rw[y,Yb.1 q])
   have p:c.toNat≠48:=p;subst o;exact ta
 clear o y l0Z;obtain⟨f,B⟩:∃f,k+jh (s.drop k) (Tf (s.drop k) (ld (s.drop k)))=f:=⟨_,rfl⟩;rw[B]at i G;rw[<-Ij,B]at t;have r:=fun h=>l (e+1) h
 have hfZ:f<=s.length:=by
  rw[i];split
  ·rename_i h;have:=fa _ _ h.1;have:=r aa;omega
  ·exact b
 refine Pt (fun sl=>look sl 0=.flat (.string (S s))/\look sl 5=.flat (.int .i64 (f:Nat))) ?_ fun sl ⟨u,I⟩=>?_
 ·by_cases h:s[e]?=some 46
  ·have D:=C (e+1) aa
   simp only[Ee,n1]at D;by_cases q:0<ad (s.drop (e+1))
   ·rw[if_pos ⟨h,q⟩]at i;subst i;exact ta
   ·rw[if_neg fun x=>q x.2]at i;subst i;exact ta
  ·rw[if_neg fun x=>h x.1]at i;subst i;exact ta
 clear i r b;rw[G];obtain⟨g,L⟩:∃g,k+Li (s.drop k) (jh (s.drop k) (Tf (s.drop k) (ld (s.drop k)))+1)=g:=⟨_,rfl⟩;rw[L]at t⊢;by_cases b:s[f]?=some 101\/s[f]?=some 69
 ·have Z:f+1<=s.length:=by rcases b with h|h<;>(have:=fa _ _ h;omega)
  have N:(s[f]?=some 101\/s[f]?=some 69)=True:=eq_true b;have F:da code lib 105 [.flat (.string (S s)),.flat (.string (S [101])),.flat (.int .i64 (f:Nat))] [] []=some ([.flat (.bool true)],false,[],[])\/(da code lib 105 [.flat (.string (S s)),.flat (.string (S [101])),.flat (.int .i64 (f:Nat))] [] []=some ([.flat (.bool false)],false,[],[])/\s[f]?=some 69):=by
   rcases b with h|h
   ·exact .inl (v 101 f aa h)
   ·exact .inr ⟨hF 101 f aa (by rw[h];simp),h⟩
  simp only[N,true_and];have p:∀w,da code lib 105 [.flat (.string (S s)),.flat (.string (S [w])),.flat (.int .i64 ((f:Nat)+1))] [] []=some ([.flat (.bool (decide (s[f+1]?=some w)))],false,[],[]):=fun w=>aD s w (f+1) hs aa
  have V:=p 43;have W:=p 45;have m6Z:g=if(decide (s[f+1]?=some 43)||decide (s[f+1]?=some 45))=true then f+1+1 else f+1:=by rw[t];simp
  have E:g<=s.length:=by
   rw[t];split
   ·rename_i h;rcases h with h|h<;>(have:=fa _ _ h;omega)
   ·exact Z
  have D:=C g aa;have hlg:=l g E;have hEZ:=fun h=>v 69 f aa h
  clear v hF C l fa p t G N b J K B L;generalize decide (s[f+1]?=some 43)=b1 at*;generalize decide (s[f+1]?=some 45)=U at*;generalize ad (s.drop g)=d at*;by_cases Y:0<d<;>cases b1<;>cases U<;>subst m6Z<;>simp only[Bool.or_self,vn,tn,Wg,oq,Ha,if_true,if_false,Ee,n1]at D<;>rcases F with F|⟨F,X⟩
  all_goals exact ta
 ·have p:¬s[f]?=some 101:=fun h=>b (.inl h)
  have q:¬s[f]?=some 69:=fun h=>b (.inr h)
  rw[if_neg fun x=>b x.1];exact ta
def bW{s:ba}(a b:ba×Nat)(k:a.2<=s.length/\a.1.length<=4* a.2)(h:Vi s a=.inl b):(b.2<=s.length/\b.1.length<=4* b.2)/\s.length - b.2<s.length - a.2:=by
 unfold Vi at h;cases d:s.drop a.2 with
 |nil=>rw[d]at h;cases h
 |cons c r=>
  rw[d]at h;have j:=gg d;have e:=@yt (c::r);have g:=fun n=>ch n
  cases i:uf (c::r)with
  |none=>grind
  |some v=>
   have:=e i;have:=g v.1
   grind
theorem zfP(s:ba)(k:Nat)(hs:s.length<=100000)(D:k<s.length):da code lib 201 [.flat (.string (S s)),.flat (.int .i64 (k:Nat))] [] []=some (match nn s (k+1)with
 |some q=>[.flat (.string (S q.1)),.flat (.int .i64 (q.2:Nat))]
 |none=>[.flat (.string (S [])),.flat (.int .i64 (-1))],false,[],[]):=by
 have E:(⟨#[]⟩:ByteArray)=S []:=rfl
 have hrel:=Sl (body:=oa (da code lib) ia DC) (live:=[0,6,7]) (nb:=0) (fun(_:Unit)(q:ba×Nat)=>(⟨[(0,.flat (.string (S s))),(6,.flat (.string (S q.1))),(7,.flat (.int .i64 (q.2:Nat)))],[],[],[]⟩:St))
  (Vi s) none (fun q o st=>match q with
    |some q=>o=.ret/\st=⟨[(4,.flat (.string (S q.1))),(5,.flat (.int .i64 (q.2:Nat)))],[],[],[]⟩
    |none=>(o=.exit 0/\st=⟨[],[],[],[]⟩)\/(o=.ret/\st=⟨[(4,.flat (.string (S []))),(5,.flat (.int .i64 (-1)))],[],[],[]⟩)) (fun q=>q.2<=s.length/\q.1.length<=4* q.2) (fun q=>s.length - q.2) (fun _ ⟨out,j⟩ i=>?_) (fun _ ⟨l,j⟩ i=>ta) (fun a b d h=>bW a b d h) (n:=s.length+1) (m:=ia) () ([],k+1) ⟨aa,ea⟩ wh (by grind [ia])
 ·obtain⟨o,st,g,d⟩:=hrel
  unfold nn;cases e:Ob (Vi s) none (s.length+1) ([],k+1)with
  |some q=>
   rw[e]at d;obtain⟨rfl,rfl⟩:=d;simp only[Ee,n1]at g;exact xa GO
  |none=>
   rw[e]at d;simp only[Ee,n1]at g;rcases d with⟨rfl,rfl⟩|⟨rfl,rfl⟩<;>exact xa GO
 ·dsimp only at i⊢
  unfold Vi;dsimp only;cases e:s.drop j with
  |nil=>
   have g:=Ak.1 e;exact⟨_,_,ua tA,ea,.inl ⟨rfl,rfl⟩⟩
  |cons c r=>
   have C:=Yh e;have g:=gg e;have p:=zaS (lib:=lib) s j hs i.1;rw[e]at p;clear e;dsimp only;by_cases d:c=34
   ·subst d
    rw[if_pos rfl];exact⟨_,_,ua tA,ea,rfl,rfl⟩
   ·rw[if_neg d]
    have w:c.toNat≠(34:UInt8).toNat:=fun y=>d (Yb.1 y)
    have w:c.toNat≠34:=w;have x:((c.toNat:Int)=34)=False:=by apply eq_false;omega
    cases u:uf (c::r)with
    |none=>
     rw[u]at p;exact⟨_,_,ua tA,ea,.inr ⟨rfl,rfl⟩⟩
    |some v=>
     rw[u]at p;have B:=Gn (lib:=lib) v.1;have A:=ch v.1;have t:=yt u;rw[sa]at t;have z:out.length+(Ka v.1).length<=za:=Ie
     exact⟨(),ua tA⟩
def Pe(t:Qa):List PV:=[.flat (.int .u8 t.kind.toNat),.flat (.string (S t.text)),.flat (.int .i64 (t.fr:Nat)),.flat (.int .i64 (t.to:Nat))]
attribute [go_sem] Pe Option.isSome_some Option.isSome_none
def gb(l:List Qa):List PV:=l.flatMap Pe
def Rv{t l}:gb (t::l)=.flat (.int .u8 t.kind.toNat)::.flat (.string (S t.text))::.flat (.int .i64 (t.fr:Nat))::.flat (.int .i64 (t.to:Nat))::gb l:=rfl
theorem Zj:∀l,(gb l).length=l.length* 4
 |[]=>rfl
 |t::l=>by rw[Rv];simp only[sa,Zj l];omega
theorem Xc{n}:∀l,Ia n (gb l)=true
 |[]=>rfl
 |t::l=>by rw[Rv];simp[Ia,PV.low,Xc l]
theorem Mg:∀l,Eb (gb l)=true
 |[]=>rfl
 |t::l=>by rw[Rv];simp[Eb,PV.sj,Mg l]
def iS{a b}:gb a++gb b=gb (a++b):=by simp[gb]
def Nl{l}{k}{x}(h:l[k]?=some x):(gb l).drop (k* 4)=Pe x++gb (l.drop (k+1)):=by
 induction l generalizing k with
 |nil=>simp at h
 |cons t l a=>
  cases k with
  |zero=>simp at h;subst h;rfl
  |succ k=>
   rw[Rv,show(k+1)* 4=k* 4+1+1+1+1 by omega];simp only[lm];exact a (by simpa using h)
def zd9(d:UInt8):(rl d=true/\(d=123\/d=125\/d=91\/d=93\/d=58\/d=44))\/(rl d=false/\d≠123/\d≠125/\d≠91/\d≠93/\d≠58/\d≠44):=by
 cases h:rl d with
 |true=>exact .inl ⟨rfl,by simpa[rl]using h⟩
 |false=>right;refine⟨rfl,?_,?_,?_,?_,?_,?_⟩<;>(rintro rfl;cases h)
def toNat_ne{c d:UInt8}(h:c≠d):((c.toNat:Int)=(d.toNat:Int))=False:=eq_false fun a=>h (Yb.1 aa)
theorem zaR(s:ba)(k:Nat)(hs:s.length<=100000)(H:k<s.length):match Jh s k with
 |some t=>da code lib 126 [.flat (.string (S s)),.flat (.int .i64 (k:Nat))] [] []=some ([.agg (Pe t),.flat (.bool true)],false,[],[])
 |none=>∃a b c d,da code lib 126 [.flat (.string (S s)),.flat (.int .i64 (k:Nat))] [] []=some ([.agg [.flat (.int .u8 a),.flat (.string b),.flat (.int .i64 c),.flat (.int .i64 d)],.flat (.bool false)],false,[],[]):=by
 have v:=zfP (lib:=lib) s k hs H;have u:=zaB (lib:=lib) s k hs aa;have z:=fun w h=>fy (lib:=lib) s w k aa h
 cases p:s.drop k with
 |nil=>have:=Ak.1 p;omega
 |cons c r=>
  have I:=Yh p;have J:=gg p;have F:∀n,(s.take (k+n)).drop k=(c::r).take n:=fun n=>by rw[<-p,ds,yi]
  rw[p]at u z;have g:Jh s k=match c::r with|[]=>none|c::r=>if rl c=true then some ⟨c,[],k,k+1⟩else if c=34 then(nn s (k+1)).map fun q=>⟨34,q.1,k,q.2⟩else match ng (c::r)with|some w=>some ⟨97,w,k,k+w.length⟩|none=>(dl (c::r)).map fun n=>⟨48,(c::r).take n,k,k+n⟩:=by unfold Jh;rw[p];try rfl
  dsimp only at g;clear p;rcases zd9 c with⟨C,(rfl|rfl|rfl|rfl|rfl|rfl)⟩|⟨C,c1,c2,c3,c4,c5,B⟩
  iterate 6
   ·rw[if_pos C]at g
    rw[g];exact xa dp
  have c1:=toNat_ne c1;have c2:=toNat_ne c2;have c3:=toNat_ne c3;have c4:=toNat_ne c4;have c5:=toNat_ne c5;have B:=toNat_ne B;simp only[show((UInt8.toNat 123:Nat):Int)=123 from rfl,show((UInt8.toNat 125:Nat):Int)=125 from rfl,show((UInt8.toNat 91:Nat):Int)=91 from rfl,show((UInt8.toNat 93:Nat):Int)=93 from rfl,show((UInt8.toNat 58:Nat):Int)=58 from rfl,show((UInt8.toNat 44:Nat):Int)=44 from rfl]at c1 c2 c3 c4 c5 B;rw[C,if_neg ea]at g;by_cases o:c=34
  ·subst o
   rw[if_pos rfl]at g;rw[g];cases E:nn s (k+1)with
   |none=>
    rw[E]at v;exact⟨34,S [],(k:Nat),-1,xa dp⟩
   |some q=>
    rw[E]at v;have:=cW aa E;exact xa dp
  rw[if_neg o]at g;have G:=toNat_ne o;simp only[show((UInt8.toNat 34:Nat):Int)=34 from rfl]at G;have j:=z wT ha ha aa;have x:=z bi ha ha aa;have A:=z wN ha ha aa;clear z v;rcases Ph (wT.isPrefixOf (c::r))with i|i
  ·have e:ng (c::r)=some wT:=by unfold ng;rw[if_pos i]
   rw[i]at j;rw[e]at g;rw[g];unfold wT at j⊢;refine ja dp (qa rfl) ?_;exact ze @lc @Bb @Mb @Zb @Wc kw
  rcases Ph (bi.isPrefixOf (c::r))with l|l
  ·have e:ng (c::r)=some bi:=by unfold ng;rw[i,l];rfl
   rw[i]at j;rw[l]at x;rw[e]at g;rw[g];unfold wT at j;unfold bi at x⊢;refine ja dp (qa rfl) ?_;exact ze @lc @Bb @Mb @Zb @Wc kw
  rcases Ph (wN.isPrefixOf (c::r))with y|y
  ·have e:ng (c::r)=some wN:=by unfold ng;rw[i,l,y];rfl
   rw[i]at j;rw[l]at x;rw[y]at A;rw[e]at g;rw[g];unfold wT at j;unfold bi at x;unfold wN at A⊢;refine ja dp (qa rfl) ?_;exact ze @lc @Bb @Mb @Zb @Wc kw
  have e:ng (c::r)=none:=by unfold ng;rw[i,l,y];rfl
  rw[i]at j;rw[l]at x;rw[y]at A;rw[e]at g;dsimp only at g;rw[g];unfold wT at j;unfold bi at x;unfold wN at A;cases D:dl (c::r)with
  |none=>
   rw[D]at u;refine⟨0,S [],0,0,ja dp (qa rfl) ?_⟩;exact ze @lc @Bb @Mb @Zb @Wc kw
  |some n=>
   rw[D]at u;have:=jA D;rw[sa]at this;have F:=F n;refine ja dp (qa rfl) ?_;exact ze @lc @Bb @Mb @Zb @Wc kw
def qW{s:ba}(a b:List Qa×Nat)(i:a.2<=s.length/\a.1.length<=a.2)(h:yf s a=.inl b):(b.2<=s.length/\b.1.length<=b.2)/\s.length - b.2<s.length - a.2:=by
 unfold yf at h;cases d:s.drop a.2 with
 |nil=>rw[d]at h;cases h
 |cons c r=>
  rw[d]at h;have e:=gg d;have g:=@Ww s a.2
  grind
theorem zg3(s:ba)(hs:s.length<=100000):da code lib 62 [.flat (.string (S s))] [] []=some (match nh s with
 |some l=>[.ga l.length (gb l),.flat (.int .i64 0)]
 |none=>[.ga 0 [],.flat (.int .i64 7)],false,[],[]):=by
 have F:(⟨#[]⟩:ByteArray)=S []:=rfl
 have hrel:=Sl (body:=oa (da code lib) ia AC) (live:=[0,4,5]) (nb:=0) (fun(_:Unit)(q:List Qa×Nat)=>(⟨[(0,.flat (.string (S s))),(4,.ga q.1.length (gb q.1)),(5,.flat (.int .i64 (q.2:Nat)))],[.slot 4],[],[]⟩:St))
  (yf s) none (fun q o st=>match q with
    |some l=>o=.exit 0/\st=⟨[(4,.ga l.length (gb l))],[.slot 4],[],[]⟩
    |none=>o=.ret/\∃y a b c d,st=⟨[(2,.ga 0 []),(3,.flat (.int .i64 7))],[.slot 2],[],[(y,[.flat (.int .u8 a),.flat (.string b),.flat (.int .i64 c),.flat (.int .i64 d)])]⟩) (fun q=>q.2<=s.length/\q.1.length<=q.2) (fun q=>s.length - q.2) (fun _ ⟨l,j⟩ v=>?_) (fun _ ⟨l,j⟩ v=>?_) (fun a c g h=>qW a c g h) (n:=s.length+1) (m:=ia) () ([],0) ⟨Ab _,Aa _⟩ aa (by grind [ia])
 ·obtain⟨o,st,k,g⟩:=hrel
  simp only[gb,mg,Ca,n0]at k;unfold nh;cases i:Ob (yf s) none (s.length+1) ([],0)with
  |some l=>
   rw[i]at g;obtain⟨rfl,rfl⟩:=g;refine ja EO (qa rfl) ?_;exact ua @Xc
  |none=>
   rw[i]at g;obtain⟨rfl,y,_,_,_,_,rfl⟩:=g;refine ja EO (qa rfl) ?_;exact ua @Xc
 ·dsimp only at v⊢
  have z:za=4294967296:=rfl;unfold yf;dsimp only;cases g:s.drop j with
  |nil=>
   have k:=Ak.1 g;exact⟨_,_,Kb qA @Xc,ea,rfl,rfl⟩
  |cons c r=>
   have E:=Yh g;have k:=gg g;have u:=ZX (lib:=lib) c;have i:=zaR (lib:=lib) s j hs aa;clear g;dsimp only;rcases Ph (Gm c)with h|h
   ·rw[h]at u
    rw[if_pos h];exact⟨(),Kb qA @Xc⟩
   ·rw[h]at u
    rw[h,if_neg ea];cases ht:Jh s j with
    |none=>
     rw[ht]at i;obtain⟨a,b,e,d,i⟩:=i;dsimp only;exact⟨.ret,⟨[(2,.ga 0 []),(3,.flat (.int .i64 7))],[.slot 2],[],[(147,[.flat (.int .u8 a),.flat (.string b),.flat (.int .i64 e),.flat (.int .i64 d)])]⟩,Kb qA @Xc,ea,rfl,_,_,_,_,_,rfl⟩
    |some t=>
     rw[ht]at i;have p:=Ww ht;have B:=Zj l;have A:(l++[t]).length=l.length+1:=ea
     obtain⟨C,D,w⟩:=p;have x:gb l++[.flat (.int .u8 t.kind.toNat),.flat (.string (S t.text)),.flat (.int .i64 (j:Nat)),.flat (.int .i64 (t.to:Nat))]=gb (l++[t]):=by rw[<-w];exact iS (b:=[t])
     dsimp only;exact⟨(),Kb qA @Xc⟩
 ·exact Kb @Xc @Mg
mutual
def JV.cells:JV->List PV
 | .mk k t ks vs=>[.flat (.int .u8 k.toNat),.flat (.string (S t)),.ga ks.length (va ks),.ga vs.length (je vs)]
def je:List JV->List PV
 |[]=>[]
 |v::l=>v.cells++je l
end
def zJ:List PV:=[.flat (.int .u8 0),.flat (.string (S [])),.ga 0 [],.ga 0 []]
theorem Cv:∀l,(je l).length=l.length* 4
 |[]=>rfl
 | .mk ..::l=>by simp only[je,JV.cells,Da,sa,Ca,Cv l];omega
mutual
theorem UR{n}:∀v:JV,Ia n v.cells=true
 | .mk k t ks vs=>by simp[JV.cells,Ia,PV.low,ed,eg vs]
theorem eg{n}:∀l,Ia n (je l)=true
 |[]=>rfl
 |v::l=>by have:=UR (n:=n) v;have:=eg (n:=n) l;obtain⟨k,t,ks,vs⟩:=v;simp_all[je,JV.cells,Ia]
end
mutual
theorem VR:∀v:JV,Eb v.cells=true
 | .mk k t ks vs=>by simp[JV.cells,Eb,PV.sj,Pc,oj vs]
theorem oj:∀l,Eb (je l)=true
 |[]=>rfl
 |v::l=>by have:=VR v;have:=oj l;obtain⟨k,t,ks,vs⟩:=v;simp_all[je,JV.cells,Eb]
end
theorem mz:∀{a b},je a++je b=je (a++b)
 |[],b=>rfl
 |v::a,b=>by rw[Fa,je,je,Ac,mz]
def mr(l:List Qa)(k:Nat)(c:UInt8)(d:l.length<=1000000)(b:k<=1000000):da code lib 200 [.ga l.length (gb l),.flat (.int .i64 (k:Nat)),.flat (.int .u8 c.toNat)] [] []=some ([.flat (.bool (nc l k c))],false,[],[]):=by
 have a:=Zj l;unfold nc;cases h:l[k]? with
 |none=>
  have:=Bl.1 h;exact xa FO
 |some t=>
  have fa:=(qg h).1;have e1:=Nl h;simp only[Pe,Fa,Ma]at e1;have e2:((t.kind.toNat:Int)=(c.toNat:Int))=(t.kind=c):=propext ⟨fun h=>Yb.1 aa,fun h=>by rw[h]⟩;exact xa FO
def rJ{l:List Qa}{n k v k'}(h:Wb n l k=some (v,k')):k<k':=(zV l n k v k' h).1
def sJ{l:List Qa}{n k v k'}(h:Wb n l k=some (v,k')):k'<=l.length:=
 jB (P:=fun _ _ k'=>k'<=l.length) (R:=fun _ _ _ _ _ _=>True) (fun k t ht _=>(qg ht).1) (fun k t _ _ h=>(Wh h).1) (fun _ _ _ _ _=>trivial) (fun a c t ks vs k v k' _ _ _ _=>⟨fun h=>(Wh h).1,fun _ _=>trivial⟩) n k v k' h
def Mr(cs:List PV)(k:Int):Out->St->Prop
 | .ret,⟨[(4,p),(5,q)],_,[],(_,d)::_⟩=>p=.ptr 0 0/\q=.flat (.int .i64 k)/\d=cs
 |_,_=>False
theorem zdv{cs k p q ow a d y}:Mr cs k .ret ⟨[(4,p),(5,q)],ow,[],(a,d)::y⟩=(p=.ptr 0 0/\q=.flat (.int .i64 k)/\d=cs):=rfl
attribute [go_sem] zdv
def bV{cs k o st}(h:Mr cs k o st):o=.ret/\∃ow a y,st=⟨[(4,.ptr 0 0),(5,.flat (.int .i64 k))],ow,[],(a,cs)::y⟩:=by
 unfold Mr at h;split at h
 ·obtain⟨rfl,rfl,rfl⟩:=h;exact⟨rfl,_,_,_,rfl⟩
 ·exact h.elim
def xj(h:Bool):List Loc:=if h then[.cell 1 2,.cell 1 3,.cell 0 2,.cell 0 3]else[.cell 1 3,.cell 1 2,.cell 0 2,.cell 0 3]
theorem zdy(l:List Qa)(hlZ:l.length<=100000)(n D:Nat)(hnZ:l.length<D+(n+1))(c:UInt8)(t:ba)(X:c=91\/c=123)(O:D<l.length)
 (C:∀k,l.length<k+n->k<=200000->da code lib 124 [.ga l.length (gb l),.flat (.int .i64 (k:Nat))] [] []=some (match Wb n l k with
 |some q=>[.agg q.1.cells,.flat (.int .i64 (q.2:Nat))]
 |none=>[.agg zJ,.flat (.int .i64 (-1))],false,[],[])):
 ∃o st,Cc (oa (da code lib) ia ay) [0,1,4,6,7,8] 2 ia ⟨[(0,.ga l.length (gb l)),(1,.flat (.int .i64 (D:Nat))),(4,.ptr 0 0),(6,.flat (.int .u8 c.toNat)),(7,.ptr 1 0),(8,.flat (.int .u8 (Hd c).toNat))],xj true,[],[(140,zJ),(140,[.flat (.int .u8 c.toNat),.flat (.string (S t)),.ga 0 [],.ga 0 []])]⟩=some (o,st)/\
  (match Ob (Lf (Wb n l) l c t) none (l.length+1) ([],[],D)with
  |some q=>Mr q.1.cells (q.2:Nat) o st
  |none=>Mr zJ (-1) o st):=by
 have hrel:=Yn (body:=oa (da code lib) ia ay) (live:=[0,1,4,6,7,8]) (nb:=2) (fun(h:Bool)(q:List ba×List JV×Nat)=>(⟨[(0,.ga l.length (gb l)),(1,.flat (.int .i64 (q.2.2:Nat))),(4,.ptr 0 0),(6,.flat (.int .u8 c.toNat)),(7,.ptr 1 0),(8,.flat (.int .u8 (Hd c).toNat))],xj h,[],[(140,zJ),(140,[.flat (.int .u8 c.toNat),.flat (.string (S t)),.ga q.1.length (va q.1),.ga q.2.1.length (je q.2.1)])]⟩:St))
  (Lf (Wb n l) l c t) none (fun q o st=>match q with
    |some q=>Mr q.1.cells (q.2:Nat) o st
    |none=>Mr zJ (-1) o st) (fun q=>D<=q.2.2/\q.2.2<l.length/\q.1.length<=q.2.2/\q.2.1.length<=q.2.2) (fun q=>l.length - q.2.2) (fun h ⟨ks,vs,j⟩ Y=>?_) (fun a b d h=>?_) (n:=l.length+1) (m:=ia) true ([],[],D) ⟨Aa _,O,ea,ea⟩ wh (by grind [ia])
 ·exact hrel
 ·dsimp only at Y⊢
  have W:za=4294967296:=rfl;have H:=fun c=>mr (lib:=lib) l (j+1) c aa aa
  have I:=fun c=>mr (lib:=lib) l (j+1+1) c aa aa
  have hln:=Zj l;unfold Lf;dsimp only;rcases X with rfl|rfl
  ·have d:¬((91:UInt8)=123/\(nc l (j+1) 34&&nc l (j+2) 58)=false):=fun h=>by cases h.1
   have e:(if(91:UInt8)=123 then j+3 else j+1)=j+1:=rfl;have g:(if(91:UInt8)=123 then ks++[ui l (j+1)]else ks)=ks:=rfl;rw[if_neg d,e,g];have u:=C (j+1) aa aa;simp only[Ee,n1]at u;clear H I d e g C;cases r:Wb n l (j+1)with
   |none=>
    rw[r]at u;dsimp only;cases h<;>exact ze dn @xj.eq_1 @zJ.eq_1 @Xc @Mg @ed
   |some q=>
    obtain⟨⟨A,B,i,p⟩,k'⟩:=q;rw[r]at u;have b1:=rJ r;have R:=sJ r;have y:=mr (lib:=lib) l k' 93 aa aa;have z:=mr (lib:=lib) l k' 44 aa aa;have x:=mz (a:=vs) (b:=[.mk A B i p]);have P:(vs++[JV.mk A B i p]).length=vs.length+1:=ea
    have N:=Cv vs;have g1:=fun n=>ed (n:=n) i
    have g4:=Pc i;have V:=fun n=>ed (n:=n) ks
    have U:=oj p;have T:=fun n=>eg (n:=n) p
    have g3:=fun n=>eg (n:=n) (vs++[JV.mk A B i p])
    simp only[je,JV.cells,ph]at x u;dsimp only at u⊢;simp only[show Hd 91=93 from rfl];have E:((UInt8.toNat 93:Nat):Int)=93:=rfl;have w:((UInt8.toNat 44:Nat):Int)=44:=rfl;rw[E]at y;rw[w]at z;rcases Ph (nc l k' 93)with he|he
    ·rw[he]at y
     rw[he,if_pos rfl];simp only[JV.cells];cases h<;>exact mj dn @xj.eq_1 @zJ.eq_1 @Xc @Mg
    ·rw[he]at y
     rw[he,if_neg ea];rcases Ph (nc l k' 44)with v|v
     ·rw[v]at z
      rw[v,if_pos rfl];refine⟨false,?_⟩;cases h<;>exact ze dn @xj.eq_1 @zJ.eq_1 @Xc @Mg @eg
     ·rw[v]at z
      rw[v,if_neg ea];cases h<;>exact mj dn @xj.eq_1 @zJ.eq_1 @Xc @Mg
  ·have e:(if(123:UInt8)=123 then j+3 else j+1)=j+3:=rfl
   have g:(if(123:UInt8)=123 then ks++[ui l (j+1)]else ks)=ks++[ui l (j+1)]:=rfl;rw[e,g];have K:=H 34;have J:=I 58;have L:((UInt8.toNat 34:Nat):Int)=34:=rfl;have M:((UInt8.toNat 58:Nat):Int)=58:=rfl;simp only[Ee,n1,L,M]at K J;rw[show j+1+1=j+2 from rfl]at J;by_cases d:(nc l (j+1) 34&&nc l (j+2) 58)=false
   ·rw[if_pos ⟨rfl,d⟩]
    rcases Ph (nc l (j+1) 34)with g1|g1
    ·rw[g1,pd]at d
     rw[g1]at K;rw[d]at J;clear H I e g C;cases h<;>exact ze dn @xj.eq_1 @zJ.eq_1 @Xc @Mg @ed
    ·rw[g1]at K
     clear H I e g C J;cases h<;>exact ze dn @xj.eq_1 @zJ.eq_1 @Xc @Mg @ed
   rw[if_neg fun h=>d h.2];simp only[sx,cc]at d;rw[d.1]at K;rw[d.2]at J;obtain⟨Q,t2,G,Z⟩:=Wh d.1;have F:ui l (j+1)=t2.text:=by unfold ui;rw[G]
   have e1:=Nl G;simp only[Pe,Fa,Ma]at e1;have hkl:(ks++[t2.text]).length=ks.length+1:=ea
   have hkc:va ks++[.flat (.string (S t2.text))]=va (ks++[t2.text]):=by simp[va]
   have hkn:=dd (l:=ks);have hku:=Mf ks;have hkw:=fun n=>ed (n:=n) (ks++[t2.text])
   rw[F];have u:=C (j+1+2) aa aa;simp only[Ee,n1,n2]at u;rw[show j+1+2=j+3 from rfl]at u;clear H I d e g C F;cases r:Wb n l (j+3)with
   |none=>
    rw[r]at u;dsimp only;cases h<;>exact ze dn @xj.eq_1 @zJ.eq_1 @Xc @Mg @ed
   |some q=>
    obtain⟨⟨A,B,i,p⟩,k'⟩:=q;rw[r]at u;have b1:=rJ r;have R:=sJ r;have y:=mr (lib:=lib) l k' 125 aa aa;have z:=mr (lib:=lib) l k' 44 aa aa;have x:=mz (a:=vs) (b:=[.mk A B i p]);have P:(vs++[JV.mk A B i p]).length=vs.length+1:=ea
    have N:=Cv vs;have g1:=fun n=>ed (n:=n) i
    have g4:=Pc i;have V:=fun n=>ed (n:=n) ks
    have U:=oj p;have T:=fun n=>eg (n:=n) p
    have g3:=fun n=>eg (n:=n) (vs++[JV.mk A B i p])
    simp only[je,JV.cells,ph]at x u;dsimp only at u⊢;simp only[show Hd 123=125 from rfl];have E:((UInt8.toNat 125:Nat):Int)=125:=rfl;have w:((UInt8.toNat 44:Nat):Int)=44:=rfl;rw[E]at y;rw[w]at z;rcases Ph (nc l k' 125)with he|he
    ·rw[he]at y
     rw[he,if_pos rfl];simp only[JV.cells];cases h<;>exact mj dn @xj.eq_1 @zJ.eq_1 @Xc @Mg
    ·rw[he]at y
     rw[he,if_neg ea];rcases Ph (nc l k' 44)with v|v
     ·rw[v]at z
      rw[v,if_pos rfl];refine⟨false,?_⟩;cases h<;>exact ze dn @xj.eq_1 @zJ.eq_1 @Xc @Mg @eg
     ·rw[v]at z
      rw[v,if_neg ea];cases h<;>exact mj dn @xj.eq_1 @zJ.eq_1 @Xc @Mg
 ·unfold Lf at h
  split at h
  ·cases h
  cases r:Wb n l (if c=123 then a.2.2+3 else a.2.2+1)with
  |none=>rw[r]at h;cases h
  |some q=>
   have e:=rJ r;rw[r]at h;dsimp only at h;split at h
   ·cases h
   split at h
   ·rename_i d
    have g:=(Wh d).1;cases h;dsimp only;have:a.2.2<q.2:=by split at e<;>omega
    refine⟨⟨aa,g,?_,?_⟩,aa⟩
    ·split
     ·rw[Da,mu];omega
     ·omega
    ·rw[Da,mu];omega
   ·cases h
theorem oJ:∀l,sc 0 l=[]
 |[]=>rfl
 | .slot i::l=>by rw[Zt,oJ l]
 | .cell b j::l=>by rw[xl,oJ l];rfl
attribute [go_sem] oJ
def f_(c:UInt8):(Ch c=true/\(c=34\/c=48\/c=97))\/(Ch c=false/\c≠34/\c≠48/\c≠97/\((Jf c=true/\(c=91\/c=123))\/(Jf c=false/\c≠91/\c≠123))):=by
 cases h:Ch c with
 |true=>exact .inl ⟨rfl,by simpa[Ch]using h⟩
 |false=>
  right;refine⟨rfl,?_,?_,?_,?_⟩
  iterate 3 (rintro rfl;cases h)
  cases a:Jf c with
  |true=>exact .inl ⟨rfl,by simpa[Jf]using a⟩
  |false=>right;refine⟨rfl,?_,?_⟩<;>(rintro rfl;cases a)
theorem zhy(l:List Qa)(A:l.length<=100000):∀n k,l.length<k+n->k<=200000->da code lib 124 [.ga l.length (gb l),.flat (.int .i64 (k:Nat))] [] []=some (match Wb n l k with
 |some q=>[.agg q.1.cells,.flat (.int .i64 (q.2:Nat))]
 |none=>[.agg zJ,.flat (.int .i64 (-1))],false,[],[]):=by
 intro n;have E:(⟨#[]⟩:ByteArray)=S []:=rfl;have B:=Zj l;have C:=Mg l
 induction n with
 |zero=>
  intro k u z;simp only[Wb];refine ja Pq (qa rfl) ?_;exact Kb @Xc @zJ.eq_1
 |succ n v=>
  intro k u z;unfold Wb;cases ht:l[k]? with
  |none=>
   have:=Bl.1 ht;dsimp only;refine ja Pq (qa rfl) ?_;exact Kb @Xc @zJ.eq_1
  |some t=>
   have fa:=(qg ht).1;have e1:=Nl ht;simp only[Pe,Fa,Ma]at e1;obtain⟨c,w,fr,to⟩:=t;dsimp only at e1⊢;rcases f_ c with⟨g,x⟩|⟨g,c1,c2,c3,(⟨j,h⟩|⟨j,c4,c5⟩)⟩
   ·rw[if_pos g]
    rcases x with rfl|rfl|rfl
    all_goals
     simp only[JV.cells,va,je,Fe,Ca];refine ja Pq (qa rfl) ?_;exact Kb @Xc @zJ.eq_1
   ·rw[g,if_neg ea,j,if_pos rfl]
    have d:=mr (lib:=lib) l (k+1) (Hd c) aa aa;have e:=zdy l A n k u c w h fa v;simp only[Ee,n1]at d;clear v;rcases Ph (nc l (k+1) (Hd c))with he|he
    ·rw[he]at d
     rw[he,if_pos rfl];clear e;simp only[JV.cells,va,je,Fe,Ca];rcases h with rfl|rfl
     all_goals
      refine ja Pq (qa rfl) ?_
      first|rw[show((UInt8.toNat (Hd 91):Nat):Int)=93 from rfl]at d|rw[show((UInt8.toNat (Hd 123):Nat):Int)=125 from rfl]at d
      exact Kb @Xc @zJ.eq_1
    ·rw[he]at d
     rw[he,if_neg ea];obtain⟨o,st,b,i⟩:=e;cases hr:Ob (Lf (Wb n l) l c w) none (l.length+1) ([],[],k)with
     |some q=>
      rw[hr]at i;obtain⟨rfl,ow,a,y,rfl⟩:=bV i;obtain⟨⟨F,G,p,r⟩,k'⟩:=q;have g1:=fun n=>ed (n:=n) p
      have D:=fun n=>eg (n:=n) r
      simp only[JV.cells]at b⊢;rcases h with rfl|rfl
      all_goals
       first|(rw[show((UInt8.toNat (Hd 91):Nat):Int)=93 from rfl]at d;rw[show((UInt8.toNat (Hd 91):Nat):Int)=93 from rfl]at b)|(rw[show((UInt8.toNat (Hd 123):Nat):Int)=125 from rfl]at d;rw[show((UInt8.toNat (Hd 123):Nat):Int)=125 from rfl]at b)
       simp only[xj,if_true,zJ,show((UInt8.toNat 91:Nat):Int)=91 from rfl,show((UInt8.toNat 123:Nat):Int)=123 from rfl]at b;refine ja Pq (qa rfl) ?_;exact Kb @Xc @zJ.eq_1
     |none=>
      rw[hr]at i;obtain⟨rfl,ow,a,y,rfl⟩:=bV i;rcases h with rfl|rfl
      all_goals
       first|(rw[show((UInt8.toNat (Hd 91):Nat):Int)=93 from rfl]at d;rw[show((UInt8.toNat (Hd 91):Nat):Int)=93 from rfl]at b)|(rw[show((UInt8.toNat (Hd 123):Nat):Int)=125 from rfl]at d;rw[show((UInt8.toNat (Hd 123):Nat):Int)=125 from rfl]at b)
       simp only[xj,if_true,zJ,show((UInt8.toNat 91:Nat):Int)=91 from rfl,show((UInt8.toNat 123:Nat):Int)=123 from rfl]at b;refine ja Pq (qa rfl) ?_;exact Kb @Xc @zJ.eq_1
   ·rw[g,if_neg ea,j,if_neg ea]
    have c1:=toNat_ne c1;have c2:=toNat_ne c2;have c3:=toNat_ne c3;have c4:=toNat_ne c4;have c5:=toNat_ne c5;simp only[show((UInt8.toNat 34:Nat):Int)=34 from rfl,show((UInt8.toNat 48:Nat):Int)=48 from rfl,show((UInt8.toNat 97:Nat):Int)=97 from rfl,show((UInt8.toNat 91:Nat):Int)=91 from rfl,show((UInt8.toNat 123:Nat):Int)=123 from rfl]at c1 c2 c3 c4 c5;refine ja Pq (qa rfl) ?_;exact Kb @Xc @zJ.eq_1
mutual
def Gj:JV->Nat
 | .mk _ _ _ l=>lh l+1
def lh:List JV->Nat
 |[]=>0
 |v::l=>Gj v+lh l
end
theorem eW:∀(a b),lh (a++b)=lh a+lh b
 |[],b=>by simp[lh]
 |v::a,b=>by simp only[Fa,lh,eW a b];omega
mutual
theorem Ss:∀v,ee v<=Gj v/\1<=Gj v
 | .mk _ _ _ l=>by have:=WD l;simp only[ee,Gj];omega
theorem WD:∀l,Ze l<=lh l/\l.length<=lh l
 |[]=>by simp[Ze,lh]
 |v::l=>by have:=Ss v;have:=WD l;simp only[Ze,lh,sa];omega
end
def HW{l:List Qa}{n k v k'}(h:Wb n l k=some (v,k')):Gj v+k<=k':=
 jB (P:=fun k v k'=>Gj v+k<=k') (R:=fun a _ _ _ vs k=>lh vs+a<=k) (fun k t _ _=>by simp only[Gj,lh];omega) (fun k t _ _ _=>by simp only[Gj,lh];omega) (fun k t _ _ _=>by simp only[lh];omega)
  (fun a c t ks vs k v k' _ d _ b=>by
    have:Gj v+k+1<=k':=by split at b<;>omega
    refine⟨fun _=>?_,fun _ _=>?_⟩<;>simp only[Gj,eW,lh]<;>omega) n k v k' h
theorem SR:∀{l:List JV}{k}{x},l[k]?=some x->(je l).drop (k* 4)=x.cells++je (l.drop (k+1))
 |[],k,x,h=>by simp at h
 | .mk a b c d::l,0,x,h=>by simp at h;subst h;rfl
 | .mk a b c d::l,k+1,x,h=>by
   rw[je,JV.cells,show(k+1)* 4=k* 4+1+1+1+1 by omega];simp only[Fa,Ma,lm];exact SR (by simpa using h)
theorem dJ:∀{l:List JV}{v},v∈l->Gj v<=lh l
 |x::l,v,h=>by
  rcases wb.1 h with h|h
  ·rw[h,lh];omega
  ·have:=dJ h;rw[lh];omega
theorem IQ:∀(l)(a:Nat),l.foldl (fun a v=>max a (ee v)) a=max a (Ze l)
 |[],a=>by simp[Ze]
 |v::l,a=>by rw[Pf,IQ l,Ze];omega
mutual
theorem VD:∀v:JV,Gj v<=1000000->da code lib 68 [.agg v.cells] [] []=some ([.flat (.int .i64 (ee v:Nat))],false,[],[])
 | .mk c t ks vs,hs=>by
   have z:=DP vs;have E:=WD vs;have w:=Cv vs;simp only[Gj]at hs
   have hrel:=Yn (body:=oa (da code lib) ia zC) (live:=[1,3,4]) (nb:=1) (fun(_:Unit)(q:Nat×Nat)=>(⟨[(1,.ptr 0 0),(3,.flat (.int .i64 (q.1:Nat))),(4,.flat (.int .i64 (q.2:Nat)))],[],[],[(140,[.flat (.int .u8 c.toNat),.flat (.string (S t)),.ga ks.length (va ks),.ga vs.length (je vs)])]⟩:St))
    (ug (fun a v=>max a (ee v)) vs) 0 (fun r o st=>o=.exit 0/\st=⟨[(3,.flat (.int .i64 (r:Nat)))],[],[],[(140,[.flat (.int .u8 c.toNat),.flat (.string (S t)),.ga ks.length (va ks),.ga vs.length (je vs)])]⟩) (fun q=>q.2<=vs.length/\q.1<=1000000) (fun q=>vs.length - q.2) (fun _ ⟨m,j⟩ w=>?_) (fun a b y h=>?_) (n:=vs.length+1) (m:=ia) () (0,0) ⟨Ab _,Ab _⟩ aa (by grind [ia])
   ·obtain⟨o,st,e,rfl,rfl⟩:=hrel
    rw[Bp aa,zf,IQ,Nat.zero_max]at e;simp only[n0]at e;have C:=fun n=>ed (n:=n) ks
    have D:=fun n=>eg (n:=n) vs
    simp only[JV.cells,ee];refine ja C0 (qa rfl) ?_;exact ta
   ·dsimp only at w⊢
    unfold ug;dsimp only;cases k:vs[j]? with
    |none=>
     have:=Bl.1 k;exact ua ZT
    |some v=>
     have fa:=(qg k).1;have e1:=SR k;have e:=di k;have u:=dJ e;have A:=z v e aa;have p:=Ss v;obtain⟨c1,B,g,i⟩:=v;have C:=Pc g;have D:=oj i;have G:=fun n=>ed (n:=n) ks
     have H:=fun n=>eg (n:=n) vs
     simp only[JV.cells,Fa,Ma]at e1 A;dsimp only;generalize ee (.mk c1 B g i)=d at*;have F:(if m<d then(d:Int)else(m:Int))=((max m d:Nat):Int):=by split<;>omega
     exact⟨(),ua ZT⟩
   ·obtain⟨k,e,v,i,g⟩:=gr a b h
    have u:=dJ (di i);have p:=Ss v;have:=y.2;rw[e,g];refine⟨⟨aa,aa⟩,aa⟩
theorem DP:∀l:List JV,∀v∈l,Gj v<=1000000->da code lib 68 [.agg v.cells] [] []=some ([.flat (.int .i64 (ee v:Nat))],false,[],[])
 |[],v,h,_=>by cases h
 |x::l,v,h,hs=>by
  rcases wb.1 h with h|h
  ·rw[h]at hs⊢;exact VD x hs
  ·exact DP l v h hs
end
def jl(s:ba):Option JV×Nat:=match nh s with
 |none=>(none,7)
 |some l=>match Wb (l.length+1) l 0 with
  |none=>(none,7)
  |some (v,k)=>if k≠l.length then(none,7)else if 32<ee v then(none,8)else(some v,0)
def Xp:Option JV->List PV
 |some v=>v.cells
 |none=>zJ
def Wt{s:ba}{l}(h:nh s=some l):l.length<=s.length:=by
 refine rk (step:=yf s) (I:=fun a:List Qa×Nat=>a.2<=s.length/\a.1.length<=a.2) (μ:=fun a=>s.length - a.2) (Q:=fun r=>∀l,r=some l->l.length<=s.length) (fun a d=>?_) _ _ ⟨Ab _,Ab _⟩ wh l h;cases hs:yf s a with
 |inl b=>exact qW a b d hs
 |inr r=>
  unfold yf at hs;dsimp only;intro l c;split at hs
  ·cases hs;cases c;omega
  ·split at hs
   ·cases hs
   ·split at hs
    ·cases hs;cases c
    ·cases hs
def zbG(s:ba)(hs:s.length<=10000):da code lib 61 [.flat (.string (S s))] [] []=some ([.agg (Xp (jl s).1),.flat (.int .i64 ((jl s).2:Nat))],false,[],[]):=by
 have z:(⟨#[]⟩:ByteArray)=S []:=rfl;have ht:=zg3 (lib:=lib) s aa;unfold jl;cases g:nh s with
 |none=>
  rw[g]at ht;simp only[Xp,zJ];exact xa Vu
 |some l=>
  have p:=Wt g;have r:=Zj l;have w:=fun n=>Xc (n:=n) l
  have u:=Mg l;have d:=zhy (lib:=lib) l aa (l.length+1) 0 aa aa;rw[g]at ht;simp only[n0]at d;dsimp only;cases hr:Wb (l.length+1) l 0 with
  |none=>
   rw[hr]at d;simp only[Xp,zJ]at d⊢;exact xa Vu
  |some q=>
   have x:=HW (v:=q.1) (k':=q.2) hr;have o:=sJ (v:=q.1) (k':=q.2) hr;have y:=VD (lib:=lib) q.1 aa;have g1:=fun n=>UR (n:=n) q.1
   have e:=VR q.1;have g3:=(Ss q.1).1;rw[hr]at d;dsimp only at d⊢;by_cases b:q.2≠l.length
   ·rw[if_pos b]
    obtain⟨⟨c,t,ks,vs⟩,k⟩:=q;have g4:=Pc ks;have h:=oj vs;have i:=fun n=>ed (n:=n) ks
    have j:=fun n=>eg (n:=n) vs
    clear g1 e;simp only[JV.cells,Xp,zJ]at*;exact xa Vu
   ·rw[if_neg b]
    have b:q.2=l.length:=aa
    by_cases a:32<ee q.1
    ·rw[if_pos a]
     obtain⟨⟨c,t,ks,vs⟩,k⟩:=q;have g4:=Pc ks;have h:=oj vs;have i:=fun n=>ed (n:=n) ks
     have j:=fun n=>eg (n:=n) vs
     clear g1 e;simp only[JV.cells,Xp,zJ]at*;subst b;exact xa Vu
    ·rw[if_neg a]
     obtain⟨⟨c,t,ks,vs⟩,k⟩:=q;have g4:=Pc ks;have h:=oj vs;have i:=fun n=>ed (n:=n) ks
     have j:=fun n=>eg (n:=n) vs
     clear g1 e;simp only[JV.cells,Xp]at*;subst b;exact xa Vu
def zhB(n:Nat):IntKind.u8.wrap (n:Int)=((n % 256:Nat):Int):=by
 have h:IntKind.u8.signed=false:=rfl;have a:IntKind.u8.bits=8:=rfl;simp[IntKind.wrap,h,a]
def zd8(n:Nat):(n:Int).fdiv (2^(min 8 32))=((n/256:Nat):Int):=la
def oS{f:FuncId}{k:IntKind}{m:Nat}(g:Nat->List PV)(h:(List.range m).all (fun n=>jv (Df cp lib 60 f [.flat (.int k (n:Nat))] [] []) (g n))=true)(n:Nat)(a:n<m):da code lib f [.flat (.int k (n:Nat))] [] []=some (g n,false,[],[]):=
 Um.2 ⟨60,by rw[Ls];exact ZP (Ag.1 h n (Zi.2 a))⟩
def fg{f:FuncId}{args:List PV}{r:Ye}(h:Df cp lib 60 f args [] []=some r):da code lib f args [] []=some r:=Um.2 ⟨60,by rw[Ls];exact h⟩
def Be(n:Nat):Nat:=if n=34 then 34 else if n=92 then 92 else if n=8 then 98 else if n=12 then 102 else if n=10 then 110 else if n=13 then 114 else if n=9 then 116 else 0
def Xn(n:Nat):Bool:=decide (n<32)||(decide (n=38)||(decide (n=60)||(decide (n=62)||((decide (127<=n)&&decide (n<160))||(decide (n=8232)||decide (n=8233))))))
def jc(n:Nat):ba:=if Be n≠0 then[92,UInt8.ofNat (Be n)]else if Xn n=true then[92,117]++(vf (UInt8.ofNat (n/256))++vf (UInt8.ofNat (n % 256)))else Ka n
def ic(s:ba):ba:=(Kd s).flatMap jc
def KJ{n:Nat}(h:160<=n)(a:n≠8232)(b:n≠8233):Be n=0/\Xn n=false:=by
 unfold Be Xn;refine⟨by repeat' (rw[if_neg aa]),?_⟩;simp;omega
def h5(n:Nat)(h:n<65536):da code lib 133 [.flat (.int .i64 (n:Nat))] [] []=some ([.flat (.string (S (vf (UInt8.ofNat (n/256))++vf (UInt8.ofNat (n % 256)))))],false,[],[]):=by
 have a:=mU (lib:=lib) (UInt8.ofNat (n/256));have b:=mU (lib:=lib) (UInt8.ofNat (n % 256));have e1:(UInt8.ofNat (n/256)).toNat=n/256:=La
 have e2:(UInt8.ofNat (n % 256)).toNat=n % 256:=ea
 rw[e1]at a;rw[e2]at b;have i:(vf (UInt8.ofNat (n/256))).length=2:=rfl;have j:(vf (UInt8.ofNat (n % 256))).length=2:=rfl;have e:(n:Int).tdiv 256=((n/256:Nat):Int):=rfl;have g:(n:Int).tmod 256=((n % 256:Nat):Int):=rfl;have b1:n/256<256:=aa
 have d:n % 256<256:=aa
 generalize vf (UInt8.ofNat (n/256))=p at*;generalize vf (UInt8.ofNat (n % 256))=q at*;generalize n/256=x at*;generalize n % 256=y at*;have c:za=4294967296:=rfl;exact xa u0
def BV(n:Nat):(n=34\/n=92\/n=8\/n=12\/n=10\/n=13\/n=9)\/(Be n=0/\n≠34/\n≠92/\n≠8/\n≠12/\n≠10/\n≠13/\n≠9):=by
 unfold Be;grind
def ziq(n:Nat):da code lib 70 [.flat (.int .i64 (n:Nat))] [] []=some ([.flat (.string (S (jc n)))],false,[],[]):=by
 rcases BV n with(rfl|rfl|rfl|rfl|rfl|rfl|rfl)|⟨a,c1,c2,c3,c4,c5,b,c⟩
 iterate 7 exact fg ca
 by_cases i:n=38
 ·subst i;exact fg ca
 by_cases j:n=60
 ·subst j;exact fg ca
 by_cases k:n=62
 ·subst k;exact fg ca
 by_cases l:n=8232
 ·subst l;exact fg ca
 by_cases o:n=8233
 ·subst o;exact fg ca
 have hs:=AV (lib:=lib);simp only[Nd,Xb,Fe]at hs;have h:Cc (oa (da code lib) ia tC) [0,3,4,5] 0 ia ⟨[(0,.flat (.int .i64 (n:Nat))),(3,.ga 7 [.flat (.int .i64 34),.flat (.int .i64 92),.flat (.int .i64 8),.flat (.int .i64 12),.flat (.int .i64 10),.flat (.int .i64 13),.flat (.int .i64 9)]),(4,.flat (.string (S [34,92,98,102,110,114,116]))),(5,.flat (.int .i64 0))],[],[],[]⟩=some (.exit 0,⟨[(0,.flat (.int .i64 (n:Nat)))],[],[],[]⟩):=ze @lc @Bb @Mb @Zb @Wc zaP;clear c1 c2 c3 c4 c5 b c;have e:jc n=if Xn n=true then[92,117]++(vf (UInt8.ofNat (n/256))++vf (UInt8.ofNat (n % 256)))else Ka n:=by unfold jc;rw[a];rfl
 rw[e];clear e a;unfold Xn;have q:=Gn (lib:=lib) n;have g:za=4294967296:=rfl;by_cases d:n<65536
 ·have r:=h5 (lib:=lib) n d
  have w:(vf (UInt8.ofNat (n/256))++vf (UInt8.ofNat (n % 256))).length=4:=rfl;generalize vf (UInt8.ofNat (n/256))++vf (UInt8.ofNat (n % 256))=p at*;by_cases t:n<32
  ·exact xa Uu
  by_cases u:127<=n
  ·by_cases v:n<160
   ·exact xa Uu
   exact xa Uu
  ·exact xa Uu
 ·exact xa Uu
def Z5(n:Nat)(g:n<2147483648):da code lib 248 [.flat (.int .i32 (n:Nat))] [] []=some ([.flat (.int .i64 (if Be n≠0 then 1 else if Xn n=true then 2 else 0))],false,[],[])/\da code lib 249 [.flat (.int .i32 (n:Nat))] [] []=some ([.flat (.int .u8 (Be n:Nat))],false,[],[]):=by
 have d:da code lib 249 [.flat (.int .i32 (n:Nat))] [] []=some ([.flat (.int .u8 (Be n:Nat))],false,[],[]):=by
  by_cases h:n<160
  ·exact oS (fun n=>[.flat (.int .u8 (Be n:Nat))]) ca n h
  have a:Be n=0:=by unfold Be;repeat' (rw[if_neg aa])
  rw[a];exact xa ZZ
 refine⟨?_,d⟩;by_cases h:n<160
 ·exact oS (fun n=>[.flat (.int .i64 (if Be n≠0 then 1 else if Xn n=true then 2 else 0))]) ca n h
 by_cases b:n=8232
 ·subst b;exact fg ca
 by_cases c:n=8233
 ·subst c;exact fg ca
 obtain⟨a,e⟩:=KJ aa b c;rw[a]at d⊢;rw[e];exact xa YZ
theorem sR:∀l:List Nat,Eb (Nd l)=true
 |[]=>rfl
 |n::l=>by show Eb (.flat (.int .i64 (n:Nat))::Nd l)=true;rw[Eb,sR l];rfl
theorem OU:∀l:List Nat,Eb (Yd l)=true
 |[]=>rfl
 |n::l=>by show Eb (.flat (.int .i32 (n:Nat))::Yd l)=true;rw[Eb,OU l];rfl
def f6{l:List Nat}{k x}(h:l[k]?=some x):(Nd l).drop k=.flat (.int .i64 (x:Nat))::Nd (l.drop (k+1)):=by
 obtain⟨a,b⟩:=qg h;unfold Nd;rw[<-rm,Qd a,b,Xb]
def zc1{l:List Nat}{k x}(h:l[k]?=some x):(Yd l).drop k=.flat (.int .i32 (x:Nat))::Yd (l.drop (k+1)):=by
 obtain⟨a,b⟩:=qg h;unfold Yd;rw[<-rm,Qd a,b,Xb]
def wu(n:Nat):(jc n).length<=6:=by
 unfold jc;split
 ·simp
 split
 ·simp[vf]
 ·have:=ch n;omega
theorem uE:∀(l:List Nat)(a:ba),l.foldl (fun a n=>a++jc n) a=a++l.flatMap jc
 |[],a=>by simp
 |n::l,a=>by rw[Pf,uE l,xn,Ac]
def BH(s:ba):(Kd s).length<=s.length:=by
 have a:∀(n:Nat)(l:ba),(ql n l).length<=n:=fun n=>by
  induction n with
  |zero=>intro l;simp[ql]
  |succ n b=>
   intro l;cases l with
   |nil=>simp[ql]
   |cons c l=>have:=b ((c::l).drop (Sa (c::l)).2);simp only[ql,sa];omega
 unfold Kd;rw[qn];exact a _ _
def dX(s:ba)(hs:s.length<=10000):da code lib 33 [.flat (.string (S s))] [] []=some ([.flat (.string (S (ic s)))],false,[],[]):=by
 have u:(⟨#[]⟩:ByteArray)=S []:=rfl;have hr:=iV (lib:=lib) s aa;have p:=BH s;unfold ic;generalize Kd s=L at*;have i:=NE (l:=L);have d:Eb (Nd L)=true:=sR L
 have hrel:=Yn (body:=oa (da code lib) ia sC) (live:=[3,4,5]) (nb:=0) (fun(_:Unit)(q:ba×Nat)=>(⟨[(3,.ga L.length (Nd L)),(4,.flat (.string (S q.1))),(5,.flat (.int .i64 (q.2:Nat)))],[],[],[]⟩:St))
  (ug (fun a n=>a++jc n) L) [] (fun r o st=>o=.exit 0/\st=⟨[(4,.flat (.string (S r)))],[],[],[]⟩) (fun q=>q.2<=L.length/\q.1.length<=6* q.2) (fun q=>L.length - q.2) (fun _ ⟨out,j⟩ k=>?_) (fun a b c h=>?_) (n:=L.length+1) (m:=ia) () ([],0) ⟨Ab _,ea⟩ aa (by grind [ia])
 ·obtain⟨o,st,c,rfl,rfl⟩:=hrel
  rw[Bp aa,zf,uE,Ma]at c;simp only[n0]at c;exact xa s0
 ·dsimp only at k⊢
  have e:za=4294967296:=rfl;unfold ug;dsimp only;cases c:L[j]? with
  |none=>
   have:=Bl.1 c;exact ua VT
  |some n=>
   have fa:=(qg c).1;have e1:=f6 c;have t:=ziq (lib:=lib) n;have g:=wu n;exact⟨(),ua VT⟩
 ·obtain⟨t,c,n,p,e⟩:=gr a b h
  have g:=wu n;rw[c,e];simp only[Da];omega
def fD{b:Nat}:bld false b [] []=[.flat (.pointer none),.ga 0 []]:=rfl
def RW(c:Qb lib){u:Bool}{out:ba}(w:ba)(h:out.length+w.length<=za):da code lib 45 [.ptr 0 0,.flat (.string (S w))] [(101,bld u 0 out [])] [.cell 0 1]=some ([.flat (.int .i64 (w.length:Nat)),.flat .nilIface],false,[(101,bld true 0 (out++w) [])],[.cell 0 1]):=
 cj c (b:=0) (r:=[]) (rest:=[]) rfl Wk h (fun q a=>by cases a) (fun q a=>by cases a)
def QW(d:Qb lib){u:Bool}{out:ba}(c:UInt8)(h:out.length+1<=za):da code lib 44 [.ptr 0 0,.flat (.int .u8 c.toNat)] [(101,bld u 0 out [])] [.cell 0 1]=some ([.flat .nilIface],false,[(101,bld true 0 (out++[c]) [])],[.cell 0 1]):=
 hx d (b:=0) (r:=[]) (rest:=[]) rfl Wk h (fun q a=>by cases a) (fun q a=>by cases a)
def zaF{s:ba}{n}(h:n∈Kd s):n<8388608:=by
 have a:∀(k:Nat)(l:ba),∀q∈ql k l,q.1<8388608:=fun k=>by
  induction k with
  |zero=>intro l q h;cases h
  |succ k d=>
   intro l q h;cases l with
   |nil=>cases h
   |cons c l=>
    rcases wb.1 h with rfl|h
    ·exact Uq _
    ·exact d _ q h
 obtain⟨q,b,rfl⟩:=zi.1 h;exact a _ _ q b
def WR(k:Qb lib)(s:ba)(hs:s.length<=10000):da code lib 188 [.flat (.string (S s))] [] []=some ([.flat (.string (S (ic s)))],false,[],[]):=by
 have T:(⟨#[]⟩:ByteArray)=S []:=rfl;have hr:=kV (lib:=lib) s aa;have J:=BH s;have fa:=@zaF s;unfold ic;generalize Kd s=L at*;have H:(Yd L).length=L.length:=by simp[Yd]
 have C:=OU L;have z:∀out,da code lib 46 [.ptr 0 0] [(101,bld true 0 out [])] [.cell 0 1]=some ([.flat (.string (S out))],false,[(101,bld true 0 out [])],[]):=fun out=>tl k (b:=0) rfl ea
 have E:da code lib 46 [.ptr 0 0] [(101,bld false 0 [] [])] [.cell 0 1]=some ([.flat (.string (S []))],false,[(101,bld false 0 [] [])],[]):=tl k (b:=0) rfl ea
 have hrel:=Yn (body:=oa (da code lib) ia hC) (live:=[3,7,8,9]) (nb:=1) (fun(u:Bool)(q:ba×Nat)=>(⟨[(3,.ptr 0 0),(7,.ga L.length (Yd L)),(8,.flat (.int .i64 (L.length:Nat))),(9,.flat (.int .i64 (q.2:Nat)))],[.cell 0 1],[],[(101,bld u 0 q.1 [])]⟩:St))
  (ug (fun a n=>a++jc n) L) [] (fun r o st=>o=.exit 0/\∃u,st=⟨[(3,.ptr 0 0)],[.cell 0 1],[],[(101,bld u 0 r [])]⟩) (fun q=>q.2<=L.length/\q.1.length<=6* q.2) (fun q=>L.length - q.2) (fun u ⟨out,j⟩ I=>?_) (fun a b d h=>?_) (n:=L.length+1) (m:=ia) false ([],0) ⟨Ab _,ea⟩ aa (by grind [ia])
 ·obtain⟨o,st,d,rfl,u,rfl⟩:=hrel
  rw[Bp aa,zf,uE,Ma]at d;simp only[n0]at d;have z:da code lib 46 [.ptr 0 0] [(101,bld u 0 (L.flatMap jc) [])] [.cell 0 1]=some ([.flat (.string (S (L.flatMap jc)))],false,[(101,bld u 0 (L.flatMap jc) [])],[]):=tl k (b:=0) rfl ea;rw[fD]at d;exact xa WZ
 ·dsimp only at I⊢
  have G:za=4294967296:=rfl;unfold ug;dsimp only;cases x:L[j]? with
  |none=>
   have:=Bl.1 x;exact rv (o:=.exit 0) (s:=⟨[(3,.ptr 0 0)],[.cell 0 1],[],[(101,bld u 0 out [])]⟩) (ua oA) ea ⟨rfl,u,rfl⟩
  |some n=>
   have D:=(qg x).1;have e1:=zc1 x;have N:=Z5 (lib:=lib) n (by have:=fa (di x);omega);have y:=wu n;have d:=fun w h=>RW k (u:=u) (out:=out) w h
   have l:=fun o w h=>RW k (u:=true) (out:=o) w h
   have e:=fun c h=>QW k (u:=u) (out:=out) c h
   have g:=fun o c h=>QW k (u:=true) (out:=o) c h
   obtain⟨v,B⟩:=N;have K:=fa (di x);refine⟨true,?_⟩;dsimp only;unfold jc;by_cases t:Be n≠0
   ·rw[if_pos t]at v
    rw[if_pos t];have M:Be n<256:=by unfold Be;grind
    have F:(UInt8.ofNat (Be n)).toNat=Be n:=La
    have b1:=e 92 aa;have A:=g (out++[92]) (UInt8.ofNat (Be n)) (by rw[Da,mu];omega);rw[show((UInt8.toNat 92:Nat):Int)=92 from rfl]at b1;rw[F]at A;rw[Ac,List.singleton_append]at A;clear d l e g t y;exact ua oA
   rw[if_neg t]at v;rw[if_neg t];by_cases i:Xn n=true
   ·rw[if_pos i]at v
    rw[if_pos i];have A:n<65536:=by unfold Xn at i;simp at i;omega
    have O:=nU (lib:=lib) (UInt8.ofNat (n/256));have P:=nU (lib:=lib) (UInt8.ofNat (n % 256));have e1:(UInt8.ofNat (n/256)).toNat=n/256:=La
    have e2:(UInt8.ofNat (n % 256)).toNat=n % 256:=ea
    rw[e1]at O;rw[e2]at P;have F:(vf (UInt8.ofNat (n/256))).length=2:=rfl;have M:(vf (UInt8.ofNat (n % 256))).length=2:=rfl;have Q:IntKind.u8.wrap ((n:Int).fdiv (2^min 8 32))=((n/256:Nat):Int):=by
     rw[zd8,Kj aa]
    have R:IntKind.u8.wrap (n:Int)=((n % 256:Nat):Int):=zhB n;have b1:=d ([92,117]++(vf (UInt8.ofNat (n/256))++vf (UInt8.ofNat (n % 256)))) (by simp[F,M];omega);clear d l e g t i y e1 e2;generalize vf (UInt8.ofNat (n/256))=p at*;generalize vf (UInt8.ofNat (n % 256))=q at*;simp only[Fa,Ma]at b1;exact ua oA
   ·rw[if_neg i]at v
    rw[if_neg i];have F:=Gs (lib:=lib) n aa;have A:=ch n;have b1:=d (Ka n) aa;clear d l e g t i y;exact ua oA
 ·obtain⟨v,B,n,J,d⟩:=gr a b h
  have y:=wu n;rw[B,d];simp only[Da];omega
def XD:Option JV->Nat
 |some v=>ee v
 |none=>0
def xh(rc bd:ba):Nat:=if sd rc≠rc then 7 else if(jl bd).2=7 then 7 else if(jl bd).2≠0 then 8 else if 32<=XD (jl bd).1 then 8 else 0
def Xj(f:Bool)(rc bd:ba):ba:=[123,34,114,101,99,101,105,118,101,114,34,58,34]++(ic rc++([34,44,34,115,116,97,116,117,115,34,58,34]++((if f then[102,105,114,105,110,103]else[114,101,115,111,108,118,101,100])++([34,44,34,98,111,100,121,34,58]++(bd++[125])))))
def rU{s:ba}:(jl s).2=0/\(∃l v,nh s=some l/\Wb (l.length+1) l 0=some (v,l.length)/\ee v<=32/\(jl s).1=some v)\/((jl s).2=7\/(jl s).2=8)/\(jl s).1=none:=by
 unfold jl;cases nh s with
 |none=>simp
 |some l=>
  dsimp only;cases c:Wb (l.length+1) l 0 with
  |none=>simp
  |some q=>
   obtain⟨v,k⟩:=q;dsimp only;by_cases a:k≠l.length
   ·simp[a]
   ·by_cases b:32<ee v
    ·simp[a,b]
    ·have a:k=l.length:=aa
     subst a;simp only[ne_eq,not_true_eq_false,if_false,b];exact .inl ⟨trivial,l,v,rfl,c,aa,rfl⟩
def oZ(f:Bool)(rc bd:ba)(x:rc.length<=10000)(o:bd.length<=10000):da code lib 32 [.agg [.flat (.bool f),.flat (.string (S rc)),.flat (.string (S bd))]] [] []=some ([.flat (.int .i64 (xh rc bd:Nat))],false,[],[]):=by
 have z:(⟨#[]⟩:ByteArray)=S []:=rfl;have g:=zbG (lib:=lib) bd o;have y:=Ou (lib:=lib) rc aa;unfold xh;rcases@rU bd with⟨a,l,v,ht,j,p,e1⟩|⟨a,e1⟩
 ·have i:=HW j
  have q:=Wt ht;have hdd:=VD (lib:=lib) v aa;have g4:=Ss v;rw[a,e1]at g⊢;obtain⟨c,t,ks,vs⟩:=v;have g1:=Pc ks;have r:=oj vs;have u:=fun n=>ed (n:=n) ks
  have w:=fun n=>eg (n:=n) vs
  simp only[Xp,XD,JV.cells]at g hdd⊢;clear j ht e1 i;obtain⟨d,h⟩:∃d,ee (.mk c t ks vs)=d:=⟨_,rfl⟩;simp only[h]at p hdd g4⊢;clear h;by_cases b:sd rc=rc
  ·have e:=eq_true b
   rw[if_neg (by simp[b]),if_neg ha,if_neg ea];by_cases k:32<=d
   ·rw[if_pos k];exact xa Wu
   ·rw[if_neg k];exact xa Wu
  ·have e:=eq_false b
   rw[if_pos b];exact xa Wu
 ·rw[e1]at g
  simp only[Xp,zJ]at g;by_cases b:sd rc=rc
  ·have e:=eq_true b
   rw[if_neg (by simp[b])];rcases a with a|a<;>(rw[a]at g⊢;simp only[if_true,if_false,Nat.reduceEqDiff,ne_eq,not_false_eq_true];exact xa Wu)
  ·have e:=eq_false b
   rw[if_pos b];rcases a with a|a<;>(rw[a]at g;exact xa Wu)
def vu(s:ba):(ic s).length<=6* s.length:=by
 have h:∀l:List Nat,(l.flatMap jc).length<=6* l.length:=fun l=>by
  induction l with
  |nil=>simp
  |cons n l a=>have:=wu n;simp only[xn,Da,sa];omega
 have:=h (Kd s);have:=BH s;unfold ic;omega
def XK(f:Bool)(rc bd:ba)(h:rc.length<=1000)(i:bd.length<=1000):da code lib 17 [.agg [.flat (.bool f),.flat (.string (S rc)),.flat (.string (S bd))]] [] []=some ([.flat (.string (S (if xh rc bd=0 then Xj f rc bd else[]))),.flat (.int .i64 (xh rc bd:Nat))],false,[],[]):=by
 have l:(⟨#[]⟩:ByteArray)=S []:=rfl;have d:=oZ (lib:=lib) f rc bd aa aa;have k:=dX (lib:=lib) rc aa;have j:=vu rc;have c:za=4294967296:=rfl;unfold Xj;generalize ic rc=w at*;obtain⟨e,g⟩:∃e,xh rc bd=e:=⟨_,rfl⟩;simp only[g]at d⊢;by_cases a:e=0
 ·subst a
  rw[if_pos rfl];cases f
  ·refine ja JD (qa rfl) ?_
   exact ua @Da.{0}
  ·refine ja JD (qa rfl) ?_
   exact ua @Da.{0}
 ·rw[if_neg a]
  have b:((e:Int)=0)=False:=by apply eq_false;omega
  exact xa JD
def canon(rs:List Nat):ba:=rs.flatMap Ka
def sD(r:Nat)(rs:List Nat):canon (r::rs)=Ka r++canon rs:=by simp[canon]
def py(a b:List Nat):canon (a++b)=canon a++canon b:=by simp[canon]
theorem nO:∀a:List (List Nat),canon a.flatten=a.flatMap canon
 |[]=>rfl
 |g::a=>by rw[List.flatten_cons,py,nO a,xn]
def oD{n:Nat}(h:Sb n=true):Ka n=(xe n).map UInt8.ofNat:=by unfold Ka;rw[if_pos h]
def nD(n:Nat):∃c l,xe n=c::l:=by
 unfold xe
 repeat' split
 all_goals exact⟨_,_,rfl⟩
theorem MI:∀rs:List Nat,(∀r∈rs,Sb r=true)->jf (canon rs)=rs.map fun r=>(r,(xe r).length)
 |[],_=>rfl
 |r::rs,h=>by
  have hr:=h r ea;have d:=MI rs fun x b=>h x (by simp[b])
  have a:=cv r hr (canon rs);rw[sD,oD hr];obtain⟨c,l,e⟩:=nD r;rw[e]at a⊢;rw[Xb,Fa]at a⊢;rw[Cw,a,Xb,e];congr 1;rw[<-d];congr 1;rw[sa,lm];exact List.drop_left' ea
def AH{rs:List Nat}(h:∀r∈rs,Sb r=true):Kd (canon rs)=rs:=by
 unfold Kd;rw[MI rs h,List.map_map];exact List.map_id'' (fun _=>rfl) rs
def Y6{rs:List Nat}(h:∀r∈rs,Sb r=true):Vh (canon rs)=true:=by
 unfold Vh;rw[MI rs h,List.all_map,Ag];intro r _;show(!Sd (r,(xe r).length))=true;unfold Sd;by_cases e:r=65533
 ·subst e;rfl
 ·simp[e]
def CY(n:Nat):∃r,Sb r=true/\Ka n=canon [r]:=by
 have a:Sb (if Sb n then n else 65533)=true:=by
  split
  ·assumption
  ·rfl
 refine⟨if Sb n then n else 65533,a,?_⟩;rw[sD,oD a];unfold Ka canon;simp
theorem HQ(l:ba):∀(L:List (Nat×Nat))(a:sq),(∃rs:List Nat,(∀r∈rs,Sb r=true)/\a.out=canon rs)->∃rs:List Nat,(∀r∈rs,Sb r=true)/\(Ke (re l) a L).1.out=canon rs
 |[],a,h=>h
 |q::L,a,h=>by
  rw[Ke,if_pos (aJ l a q)];refine HQ l L _ ?_;unfold re;split
  ·exact h
  ·obtain⟨rs,c,d⟩:=h
   obtain⟨r,e,g⟩:=CY (kh (if q.1=13 then 10 else q.1));refine⟨rs++[r],fun x b=>?_,by dsimp only;rw[d,g,py]⟩;rcases We.1 b with b|b
   ·exact c x b
   ·rw[Ao.1 b];exact e
def sO(l:ba):∃rs:List Nat,(∀r∈rs,Sb r=true)/\sd l=canon rs:=HQ l _ _ ⟨[],ea,rfl⟩
def gU{n:Nat}(h:Sb n=true):uf (jc n)=some (n,(jc n).length):=by
 by_cases o:n<160
 ·have:=(by decide+kernel:((List.range 160).all fun n=>decide (uf (jc n)=some (n,(jc n).length)))=true)
  exact of_decide_eq_true (Ag.1 this n (Zi.2 o))
 by_cases i:n=8232
 ·subst i;decide+kernel
 by_cases j:n=8233
 ·subst j;decide+kernel
 obtain⟨r,t⟩:=KJ aa i j;have e:jc n=Ka n:=by unfold jc;rw[r,t];rfl
 have b:=cv n h [];rw[e,oD h];rw[ph]at b;obtain⟨c,l,a⟩:=nD n;have q:192<=c/\c<256:=by
  have v:n<=1114111:=by unfold Sb at h;simp at h;omega
  unfold xe at a;split at a
  ·omega
  split at a
  ·cases a;omega
  split at a<;>(cases a;omega)
 rw[a]at b⊢;rw[Xb]at b⊢;have d:¬UInt8.ofNat c=92:=fun k=>by
  have:=congrArg UInt8.toNat k;simp at this;omega
 have u:(xe n).length=(UInt8.ofNat c::l.map UInt8.ofNat).length:=by rw[a];simp
 have p:Sd (n,(c::l).length)=false:=by
  unfold Sd;by_cases k:n=65533
  ·subst k;cases a;decide
  ·simp[k]
 unfold uf;dsimp only;have g:¬((n,(c::l).length).1<32\/(n,(c::l).length).1=34\/Sd (n,(c::l).length)=true):=by
  rw[p];dsimp only;simp;omega
 rw[if_neg d,b,if_neg g];simp
def np(s:ba)(q:ba×Nat):(ba×Nat) ⊕ Option ba:=match s.drop q.2 with
 |[]=>.inr (some q.1)
 |c::r=>match uf (c::r)with
  |none=>.inr none
  |some v=>if v.2<=6 then .inl (q.1++Ka v.1,q.2+v.2)else .inr none
def Oy(s:ba):Option ba:=Ob (np s) none (s.length+1) ([],0)
theorem OP:∀(rs:List Nat)(pre out:ba)(n:Nat),(∀r∈rs,Sb r=true)->(rs.flatMap jc).length<n->Ob (np (pre++rs.flatMap jc)) none n (out,pre.length)=some (out++canon rs)
 |_,_,_,0,_,h=>by omega
 |[],pre,out,n+1,_,_=>by
  have hs:np (pre++[]) (out,pre.length)=.inr (some out):=by unfold np;dsimp only;rw[ph,pq]
  rw[mg,hd hs];simp[canon]
 |r::rs,pre,out,n+1,h,e=>by
  have a:=fU (t:=rs.flatMap jc) (gU (h r ea));have b:=yt (gU (h r ea));have hs:np (pre++(jc r++rs.flatMap jc)) (out,pre.length)=.inl (out++Ka r,(pre++jc r).length):=by
   unfold np;dsimp only;rw[es];cases d:jc r++rs.flatMap jc with
   |nil=>rw[d]at a;cases a
   |cons c t=>rw[d]at a;dsimp only;rw[a,Da];exact if_pos (wu r)
  rw[xn,hf hs,<-Ac,OP rs (pre++jc r) _ n (fun x g=>h x (by simp[g])) (by rw[xn,Da]at e;dsimp only at b;omega),sD,Ac]
def NP{s:ba}(h:sd s=s):Oy (ic s)=some s:=by
 obtain⟨rs,a,b⟩:=sO s;rw[h]at b;have:=OP rs [] [] ((ic s).length+1) a (by unfold ic;rw[b,AH a];omega);unfold Oy;unfold ic at this⊢;rw[b,AH a]at this⊢;exact this
variable {lib:Callee}
def vg{α:Type}(c:UInt8)(step:α->ba->α×Bool):Nat->α->ba->α×ba
 |0,a,r=>(a,r)
 |n+1,a,r=>match Dc c r with
  |none=>((step a r).1,r)
  |some i=>if(step a (r.take i)).2 then vg c step n (step a (r.take i)).1 (r.drop (i+1))else((step a (r.take i)).1,r)
theorem FQ{α}{c}{step}:∀(n m)(a:α)(r),r.length<n->r.length<m->vg c step n a r=vg c step m a r
 |0,m,a,r,h,_=>by omega
 |n+1,0,a,r,_,h=>by omega
 |n+1,m+1,a,r,d,e=>by
  simp only[vg];cases b:Dc c r with
  |none=>rfl
  |some i=>
   have:=ns b;dsimp only;rw[FQ n m _ _ la la]
theorem EQ{α}{c}{step}:∀(n)(a:α)(r),r.length<n->(vg c step n a r).1=(Ke step a (db c r)).1
 |0,a,r,h=>by omega
 |n+1,a,r,h=>by
  simp only[vg];cases b:Dc c r with
  |none=>
   grind [jP,Ke]
  |some i=>
   have:=ns b;rw[lP b];simp only[Ke];split
   ·exact EQ n _ _ la
   ·rfl
theorem zcs{α}(H:Ge lib)(c)(BX:α->ba->Na)(oc:α->List (Nat×Nat))(step)(I:α->ba->Prop)(b p C nb)
 (w:∀a r,I a r->(BX a r)[p]?=some (9,[.flat (.string (S r))])) (k:∀a r,I a r->(BX a r)[C]?=some (5,[.flat (.int .u8 c.toNat)])) (A:∀a r r',(BX a r).set p (9,[.flat (.string (S r'))])=BX a r')
 (N:∀a r,(BX a r)[p]?=some (9,[.flat (.string (S r))])) (d:∀a r,(BX a r).length=nb) (y:∀a,∀q∈oc a,q.1<nb) (z:∀a,∀q∈oc a,q≠(p,0)) (v:∀a r,I a r->r.length<=1000000000)
 (K:∀a r i,I a r->Dc c r=some i->(step a (r.take i)).2=true->I (step a (r.take i)).1 (r.drop (i+1)))
 (J:∀a r x,I a r->da code lib hb [.Oa b,.flat (.string (S x))] (BX a r) (cl (oc a))=some ([.flat (.bool (step a x).2)],false,BX (step a x).1 r,cl (oc (step a x).1))) (a) (r) (h:I a r):
 da code lib 149 [.Oa b,.ptr p 0,.ptr C 0] (BX a r) (cl (oc a))=some ([],false,BX (vg c step (r.length+1) a r).1 (vg c step (r.length+1) a r).2,cl (oc (vg c step (r.length+1) a r).1)):=by
 refine ja U0 (qa rfl) ?_;have M:=v a r h
 have l:=Dh (body:=oa (da code lib) ia MC) (live:=[0,1,2]) (nb:=nb) (fun q:α×ba=>(⟨[(0,.Oa b),(1,.ptr p 0),(2,.ptr C 0)],cl (oc q.1),[],BX q.1 q.2⟩:St)) (fun q=>I q.1 q.2) (fun q=>q.2.length)
  (fun q=>(.ret,⟨[],cl (oc (vg c step (q.2.length+1) q.1 q.2).1),[],BX (vg c step (q.2.length+1) q.1 q.2).1 (vg c step (q.2.length+1) q.1 q.2).2⟩)) (fun⟨a,r⟩ h=>?_) (n:=ia) (a:=(a,r)) h (by grind [ia])
 ·have o:=d a r
  have t:=d (vg c step (r.length+1) a r).1 (vg c step (r.length+1) a r).2;simp only[go_sem,simprocAttr,Jb,ob,Ib,Db,Ce o,o,pb _ (y _),l,t,Ce t]
 ·dsimp only at h⊢
  have E:=w a r h;have j:=k a r h;have o:=d a r;have L:=v a r h;have e1:=Ep H r c L;cases u:Dc c r with
  |none=>
   left;rw[u]at e1;have e:=J a r r h;have t:=d (step a r).1 r;have B:vg c step (r.length+1) a r=((step a r).1,r):=by simp only[vg,u]
   rw[B];refine⟨.ret,⟨[],cl (oc (step a r).1),[],BX (step a r).1 r⟩,?_,ea,rfl⟩;simp only[TH,go_sem,simprocAttr,Jb,ob,Ib,Db,Rb,E,j,e1,e,o,Bc]
  |some i=>
   rw[u]at e1;have fa:=ns u;have e:=J a r (r.take i) h;have t:=d (step a (r.take i)).1 r;have B:vg c step (r.length+1) a r=if(step a (r.take i)).2 then vg c step ((r.drop (i+1)).length+1) (step a (r.take i)).1 (r.drop (i+1))else((step a (r.take i)).1,r):=by
    simp only[vg,u];rw[FQ r.length ((r.drop (i+1)).length+1) _ _ la aa];simp only[vg]
   have G:¬(i:Int)<0:=aa
   have c1:(0:Int)<=(i:Nat):=aa
   have c2:(i:Int)<=r.length:=aa
   have P:IntKind.i64.wrap ((i:Int)+1)=((i+1:Nat):Int):=wrap64 aa;have c3:(0:Int)<=((i+1:Nat):Int):=aa
   have c4:((i+1:Nat):Int)<=r.length:=aa
   have O:(r.take r.length).drop (i+1)=r.drop (i+1):=by rw[pm]
   have F:=N (step a (r.take i)).1 r;by_cases g:(step a (r.take i)).2=true
   ·right
    rw[g]at e B;have D:=d (step a (r.take i)).1 (r.drop (i+1));refine⟨⟨[(0,.Oa b),(1,.ptr p 0),(2,.ptr C 0)],cl (oc (step a (r.take i)).1),[],BX (step a (r.take i)).1 (r.drop (i+1))⟩,((step a (r.take i)).1,r.drop (i+1)),?_,?_,K a r i h u g,la,?_⟩
    ·simp only[TH,go_sem,simprocAttr,Jb,ob,Ib,Db,Rb,rg _ (z _),E,j,F,e1,e,G,c1,c2,c3,c4,P,Ua,rh,O,A,gc,o,t,D,Bc]
    ·simp only[go_sem,simprocAttr,Jb,ob,Ce D,D,pb _ (y _)]
    grind
   ·left
    have g:(step a (r.take i)).2=false:=by simpa using g
    rw[g]at e B;refine⟨.ret,⟨[],cl (oc (step a (r.take i)).1),[],BX (step a (r.take i)).1 r⟩,?_,ea,?_⟩
    ·simp only[TH,go_sem,simprocAttr,Jb,ob,Ib,Db,Rb,E,j,e1,e,G,c1,c2,Ua,rh,gc,o,t,Bc]
    grind
def Es(c:UInt8)(out:List ba)(r:ba):Na:=[(29,[.ga out.length (va out)]),(9,[.flat (.string (S r))]),(5,[.flat (.int .u8 c.toNat)]),(0,[.lp 41 0 .ready [5] [.ptr 0 0]])]
def Qt(out:List ba)(x:ba):List ba×Bool:=(out++[x],true)
theorem DQ:∀(L out),Ke Qt out L=(out++L,true)
 |[],out=>by simp[Ke]
 |q::L,out=>by simp only[Ke,Qt,if_true];rw[DQ L];simp
def d2(c)(out)(r x)(d:out.length<4294967296):da code lib hb [.Oa 3,.flat (.string (S x))] (Es c out r) [.cell 0 0]=some ([.flat (.bool true)],false,Es c (out++[x]) r,[.cell 0 0]):=by
 refine vp ip MO rfl rfl rfl ?_;have a:out.length+1<=za:=Ie
 have b:[PV.flat (.string (S x))]=va [x]:=rfl;simp only[lR,VQ,Es,go_sem,simprocAttr,dd,Mf,a]
 grind [Nr]
def pP(H:Ge lib)(s:ba)(c:UInt8)(hs:s.length<=1000000000):da code lib 41 [.flat (.string (S s)),.flat (.int .u8 c.toNat)] [] []=some ([.ga (db c s).length (va (db c s))],false,[],[]):=by
 refine ja MO (qa rfl) ?_
 have b:=zcs (lib:=lib) H c (Es c) (fun _=>[(0,0)]) Qt (fun out r=>out.length+r.length<=1000000000) 3 1 2 4 (fun _ _ _=>rfl) (fun _ _ _=>rfl) (fun _ _ _=>rfl) (fun _ _=>rfl) (fun _ _=>rfl) (fun a q n=>by grind) (fun a q n=>by grind) (fun a r h=>by omega)
  (fun a r i h l _=>by
    have:=ns l
    grind [Qt])
  (fun a r x h=>d2 c a r x aa) [] s la
 have d:=EQ (c:=c) (step:=Qt) (s.length+1) [] s aa;rw[DQ]at d;simp only[Ma]at d;obtain⟨j,e⟩:∃j,(vg c Qt (s.length+1) [] s).2=j:=⟨_,rfl⟩;have k:cl [(0,0)]=[.cell 0 0]:=rfl;rw[d,e]at b;simp only[k]at b;have g:da code lib 149 [.Oa 3,.ptr 1 0,.ptr 2 0] [(29,[.ga 0 []]),(9,[.flat (.string (S s))]),(5,[.flat (.int .u8 c.toNat)]),(0,[.lp 41 0 .ready [5] [.ptr 0 0]])] [.cell 0 0]=some ([],false,Es c (db c s) j,[.cell 0 0]):=b;have e1:da code lib 88 [.flat (.string (S s)),.flat (.int .u8 c.toNat)] [(29,[.ga 0 []])] [.cell 0 0]=some ([.cb 149 [.ptr 1 0,.ptr 2 0]],false,[(29,[.ga 0 []]),(9,[.flat (.string (S s))]),(5,[.flat (.int .u8 c.toNat)])],[.cell 0 0]):=by
  refine ja NO (qa rfl) ?_;exact ta
 have e2:da code lib 88 [.flat (.string (S s)),.flat (.int .u8 c.toNat)] [] []=some ([.cb 149 [.ptr 0 0,.ptr 1 0]],false,[(9,[.flat (.string (S s))]),(5,[.flat (.int .u8 c.toNat)])],[]):=by
  refine ja NO (qa rfl) ?_;exact ta
 exact Kb @Es.eq_1 @ed
def BA(H:kc lib)(s p)(h:s.length<=1000000000)(a:p.length<=1000000000):da code lib 80 [.flat (.string (S s)),.flat (.string (S p))] [] []=some ([.flat (.bool (p.isPrefixOf s))],false,[],[]):=
 tf ha pa (H s p h a)
def bD(H:kc lib)(s w)(k:Nat)(hs:s.length<=1000000000)(a:w.length<=1000000000):da code lib 85 [.flat (.string (S s)),.flat (.string (S w)),.flat (.int .i64 (k:Nat))] [] []=some ([.flat (.bool (Ub s w k))],false,[],[]):=by
 refine ja T0 (qa rfl) ?_;have b:(0:Int)<=(k:Nat):=aa
 by_cases h:k<=s.length
 ·have c1:(k:Int)<=s.length:=aa
  have e1:=BA H (s.drop k) w la a;have c:(s.take s.length).drop k=s.drop k:=by rw[pm]
  exact ua @Ub.eq_1
 ·have c1:¬(k:Int)<=s.length:=aa
  exact ua @Ub.eq_1
def W5:∀a b:Nat,a<16->b<16->Dg .u8 (IntKind.u8.wrap ((a:Int)* 2^min 4 8)) (b:Int)=((16* a+b:Nat):Int):=by
 have:=(by decide+kernel:((List.range 16).all fun a=>(List.range 16).all fun b=>decide (Dg .u8 (IntKind.u8.wrap ((a:Int)* 2^min 4 8)) (b:Int)=((16* a+b:Nat):Int)))=true);intro a b c d;exact of_decide_eq_true (Ag.1 (Ag.1 this a (Zi.2 c)) b (Zi.2 d))
theorem cL(s:ba)(k:Nat)(hs:s.length<=1000000000)(q:k<=1000000000):da code lib 213 [.flat (.string (S s)),.flat (.int .i64 (k:Nat))] [] []=some (match Fg (s.drop k)with
 |some b=>[.flat (.int .u8 b.toNat),.flat (.bool true)]
 |none=>[.flat (.int .u8 0),.flat (.bool false)],false,[],[]):=by
 match d:s.drop k with
 |[]=>
  have g:=Ak.1 d;simp only[Fg];exact xa Xu
 |[a]=>
  have g:=gg d;rw[Ca]at g;simp only[Fg];exact xa Xu
 |a::b::r=>
  have o:=Yh d;have p:=Yh (Pm d);have g:=gg d;rw[sa]at g;have i:=YW (lib:=lib) a;have n:=YW (lib:=lib) b;have j:=@ly a b;have l:=W5 (Za a) (Za b);simp only[Fg];clear d;generalize Za a=x at*;generalize Za b=y at*;by_cases c:x<=15
  ·by_cases e:y<=15
   ·have l:=l aa aa
    rw[if_pos ⟨c,e⟩];dsimp only;rw[j c e];simp only[c,e,if_true,decide_true]at i n;generalize 16* x+y=z at*;clear j;exact xa Xu
   ·rw[if_neg fun h=>e h.2]
    simp only[c,e,if_true,if_false,decide_true,decide_false]at i n;exact xa Xu
  ·rw[if_neg fun h=>c h.1]
   simp only[c,if_false,decide_false]at i;exact xa Xu
def zdH(a b:Nat)(e:a<256)(g:b<256):Dg .i32 (IntKind.i32.wrap ((a:Int)* 2^min 8 32)) (b:Int)=((256* a+b:Nat):Int):=by
 have d:IntKind.i32.wrap ((a:Int)* 2^min 8 32)=((a* 256:Nat):Int):=by
  rw[show((2:Int)^min 8 32)=256 from rfl,wrap32 aa];omega
 have c:=CJ (i:=8) (b:=b) aa a;rw[Nat.shiftLeft_eq]at c;rw[d,ME _ _ aa aa,<-c];omega
def zhr(h:kc lib)(s:ba)(k:Nat)(hs:s.length<=1000000000)(p:k<=100000000){v:Nat}(c:se (s.drop k)=some v):da code lib 291 [.flat (.string (S s)),.flat (.int .i64 (k:Nat))] [] []=some ([.flat (.int .i32 (v:Nat)),.flat (.bool true)],false,[],[]):=by
 have i:=bD h s [92,117] k hs ha;have e:=cL (lib:=lib) s (k+2) hs aa;have g:=cL (lib:=lib) s (k+4) hs aa;have l:=jq c;rw[fc]at l;rw[pJ,Cd,Cd]at c;simp only[Ee,n2,n4]at e g;split at c
 ·rename_i o
  have d:Ub s [92,117] k=true:=by unfold Ub;rw[o];simp;omega
  rw[d]at i;cases e1:Fg (s.drop (k+2))with
  |none=>rw[e1]at c;cases c
  |some a=>
   cases e2:Fg (s.drop (k+4))with
   |none=>rw[e1,e2]at c;cases c
   |some b=>
    rw[e1,e2]at c;rw[e1]at e;rw[e2]at g;have j:=a.toNat_lt;have d:=b.toNat_lt;have n:=zdH a.toNat b.toNat j d;dsimp only at c;have c:256* a.toNat+b.toNat=v:=Xe c;rw[c]at n;exact xa b0
 ·cases c
def Ko(lib:Callee):Prop:=∀(s:ba)(k:Nat)(v:Nat×Nat),s.length<=100000->s[k]?=some 92->uf (s.drop k)=some v->v.2<=6->lib 285 [.flat (.string (S s)),.flat (.int .i64 (k:Nat))] [] []=some ([.flat (.int .i32 (v.1:Nat)),.flat (.int .i64 (v.2:Nat)),.flat (.bool true)],false,[],[])
def zaV(i:Ko lib)(s:ba)(k:Nat)(hs:s.length<=100000){v:Nat×Nat}(b:uf (s.drop k)=some v)(j:v.2<=6):da code lib 254 [.flat (.string (S s)),.flat (.int .i64 (k:Nat))] [] []=some ([.flat (.int .i32 (v.1:Nat)),.flat (.int .i64 (v.2:Nat)),.flat (.bool true)],false,[],[]):=by
 cases g:s.drop k with
 |nil=>rw[g]at b;cases b
 |cons c r=>
  have l:=Yh g;have u:=gg g;by_cases d:c=92
  ·subst d
   have e:da code lib 285 [.flat (.string (S s)),.flat (.int .i64 (k:Nat))] [] []=some ([.flat (.int .i32 (v.1:Nat)),.flat (.int .i64 (v.2:Nat)),.flat (.bool true)],false,[],[]):=tf ha ca (i s k v hs l b j);clear g b;exact xa FD
  ·have o:=cA (lib:=lib) s (by unfold Sm;omega) k aa
   have h:=toNat_ne d;simp only[show((UInt8.toNat 92:Nat):Int)=92 from rfl]at h;rw[g]at b o;unfold uf at b;dsimp only at b;rw[if_neg d]at b;split at b
   ·cases b
   ·rename_i e
    cases b;generalize Sa (c::r)=q at*;obtain⟨a,n⟩:=q;clear g;unfold Sd at e;simp only[not_or,decide_eq_true_eq,not_and]at e;obtain⟨g1,t,g3⟩:=e;dsimp only at*;by_cases p:a=65533
    ·have g3:=g3 p
     exact xa FD
    ·exact xa FD
theorem Uz{η σ ρ:Type}{body}{live}{nb}(c:η->σ->St)(step:σ->σ ⊕ Option ρ)(Q:ρ->Out->St->Prop)(I:σ->Prop)
 (hr:∀h a,I a->match step a with| .inl b=>(∃g,Wp live nb (c g b) (body (c h a)))/\I b| .inr (some r)=>qv (Q r) (body (c h a))| .inr none=>True):
 ∀{n m}(h){a r},I a->Ob step none n a=some r->n<=m->∃o s,Cc body live nb m (c h a)=some (o,s)/\Q r o s
 |0,m,h,a,r,j,hs,k=>by cases hs
 |n+1,0,h,a,r,j,hs,k=>by omega
 |n+1,m+1,h,a,r,j,hs,k=>by
  have d:=hr h a j;rw[Bb];cases e:step a with
  |inl b=>
   rw[e]at d;obtain⟨⟨g,d⟩,p⟩:=d;rw[hf e]at hs;unfold Wp at d;split at d
   ·rename_i l
    rw[l,Mb,d];exact Uz c step Q I hr g p hs aa
   ·exact d.elim
  |inr q=>
   rw[hd e]at hs;subst hs;rw[e]at d;obtain⟨o,s,d,l,p⟩:=rQ d;rw[d];refine⟨o,s,?_,p⟩;cases o with
   |normal=>exact absurd rfl l
   |exit i=>rfl
   |ret=>rfl
def Lk(s:ba)(u:Bool)(out:ba):Na:=[(9,[.flat (.string (S []))]),(24,[.flat (.int .i64 0)]),(101,bld u 2 out []),(9,[.flat (.string (S s))]),(0,[.lp 120 0 .ready [2,3,4] [.ptr 0 0,.ptr 1 0,.ptr 2 0]])]
def zde(d:Qb lib)(s:ba)(u)(out:ba)(n:Nat)(j:out.length+4<=za)(i:n<8388608):
 da code lib hb [.Oa 4,.flat (.int .i32 (n:Nat))] (Lk s u out) [.cell 2 1]=some ([.flat (.bool true)],false,Lk s true (out++Ka n),[.cell 2 1]):=by
 refine vp ip BO rfl rfl rfl ?_;have g:=Gs (lib:=lib) n aa;have e:=ch n
 have c:∀m:ba,m.length<=4->da code lib 45 [.ptr 2 0,.flat (.string (S m))] [(9,[.flat (.string (S []))]),(24,[.flat (.int .i64 0)]),(101,bld u 2 out []),(9,[.flat (.string (S s))]),(0,[.lp 120 0 .busy [2,3,4] [.ptr 0 0,.ptr 1 0,.ptr 2 0]])] [.cell 2 1]=
  some ([.flat (.int .i64 m.length),.flat .nilIface],false,[(9,[.flat (.string (S []))]),(24,[.flat (.int .i64 0)]),(101,bld true 2 (out++m) []),(9,[.flat (.string (S s))]),(0,[.lp 120 0 .busy [2,3,4] [.ptr 0 0,.ptr 1 0,.ptr 2 0]])],[.cell 2 1]):=fun m h=>
  cj d (b:=2) (r:=[]) (rest:=[]) rfl Wk aa (fun q a=>by cases a) (fun q a=>by cases a)
 have w:=c _ e;clear c;exact ye @jR.eq_1 @TQ.eq_1 @Lk.eq_1
theorem yX(j:Ko lib)(i:Qb lib)(s:ba)(hs:s.length<=100000){t:ba}(ht:Oy s=some t):
 ∃u,da code lib 253 [.Oa 4,.ptr 3 0] (Lk s false []) [.cell 2 1]=some ([],false,Lk s u t,[.cell 2 1]):=by
 have g:=Uz (body:=oa (da code lib) ia iC) (live:=[0,1,3]) (nb:=5) (fun(u:Bool)(q:ba×Nat)=>(⟨[(0,.Oa 4),(1,.ptr 3 0),(3,.flat (.int .i64 (q.2:Nat)))],[.cell 2 1],[],Lk s u q.1⟩:St))
  (np s) (fun t o st=>o=.exit 0/\∃u,st=⟨[],[.cell 2 1],[],Lk s u t⟩) (fun q=>q.2<=s.length/\q.1.length<=4* q.2) (fun u ⟨out,k⟩ p=>?_) (n:=s.length+1) (m:=ia) false ⟨Ab _,ea⟩ ht (by grind [ia])
 ·obtain⟨o,st,e,rfl,u,rfl⟩:=g
  refine⟨u,ja XZ (qa rfl) ?_⟩;simp only[n0,Lk]at e⊢;exact ta
 ·dsimp only at p⊢
  have l:za=4294967296:=rfl;unfold np;dsimp only;cases b:s.drop k with
  |nil=>
   have e:=Ak.1 b;exact rv (o:=.exit 0) (s:=⟨[],[.cell 2 1],[],Lk s u out⟩) (Kb QT @Lk.eq_1) ea ⟨rfl,u,rfl⟩
  |cons c r=>
   have e:=gg b;dsimp only;cases h:uf (c::r)with
   |none=>trivial
   |some v=>
    dsimp only;by_cases d:v.2<=6
    ·rw[if_pos d]
     have a:=yt h;rw[sa]at a;have y:=zaV j s k hs (v:=v) (by rw[b];exact h) d;have w:=zde i s u out v.1 aa a.2.2;have x:=ch v.1;refine⟨⟨true,?_⟩,by rw[Da];omega⟩;clear b h;simp only[Lk]at w⊢;exact ua QT
    ·rw[if_neg d];trivial
def VU(c:Ko lib)(a:Qb lib)(s:ba)(hs:s.length<=100000){t:ba}(ht:Oy s=some t):da code lib 120 [.flat (.string (S s))] [] []=some ([.flat (.string (S t)),.flat (.int .i64 0)],false,[],[]):=by
 obtain⟨u,hr⟩:=yX c a s hs ht;have j:(⟨#[]⟩:ByteArray)=S []:=rfl;have d:=tl (lib:=lib) (oc:=[.cell 2 1]) a (bx:=[(9,[.flat (.string (S []))]),(24,[.flat (.int .i64 0)]),(101,bld u 2 t []),(9,[.flat (.string (S s))])]) (b:=2) rfl ea;have h:da code lib 193 [.flat (.string (S s))] [] []=some ([.cb 253 [.ptr 0 0]],false,[(9,[.flat (.string (S s))])],[]):=xa CO;have i:da code lib 193 [.flat (.string (S s))] [(9,[.flat (.string (S []))]),(24,[.flat (.int .i64 0)]),(101,[.flat (.pointer none),.ga 0 []])] [.cell 2 1]=some ([.cb 253 [.ptr 3 0]],false,[(9,[.flat (.string (S []))]),(24,[.flat (.int .i64 0)]),(101,[.flat (.pointer none),.ga 0 []]),(9,[.flat (.string (S s))])],[.cell 2 1]):=xa CO;have g:Ia 4 (bld u 2 t [])=true:=iy ha rfl;have e:Ia 3 (bld u 2 t [])=true:=iy ha rfl;simp only[Lk,fD]at hr;exact xa BO
def CH(Q:List (Nat×PV)->List Loc->Na->Prop):Option (Out×St)->Prop
 |some (.normal,⟨sl,ow,[],bx⟩)=>Q sl ow bx
 |_=>False
theorem zaH{Q sl ow bx}:CH Q (some (.normal,⟨sl,ow,[],bx⟩))=Q sl ow bx:=rfl
attribute [go_sem] zaH
def Qr{cf m A B sl ow bx ub a r}(Q:List (Nat×PV)->List Loc->Na->Prop)(b:CH Q (oa cf m A ⟨sl,ow,[],bx⟩))(c:∀sl ow bx,Q sl ow bx->Gp ub a (oa cf m B ⟨sl,ow,[],bx⟩)=r):Gp ub a (oa cf m (.seq A B) ⟨sl,ow,[],bx⟩)=r:=by
 unfold CH at b;split at b
 ·rename_i h;rw[Mu,h,Ov];exact c _ _ _ b
 ·exact b.elim
def rV{cf m A B C st}:oa cf m (.seq A (.seq B C)) st=oa cf m (.seq (.seq A B) C) st:=by
 simp only[Mu];rcases oa cf m A st with _|⟨o,s⟩
 ·rfl
 ·cases o with
  |normal=>rw[Ov,Ov,Mu]
  |_=>rfl
def sb(s:ba)(k:Nat)(ys:Na):Na:=(201,[.flat (.string (S s)),.flat (.int .i64 (k:Nat))])::ys
attribute [go_sem] sb
def wU{s:ba}{k}{ys}{r}(hs:s.length<=100000)(fa:∀q∈r,q.1<ys.length+1):da code lib 117 [.ptr 0 0] (sb s k ys) (cl r)=some ([.flat (.int .u8 (match s[k]? with|some c=>(c.toNat:Int)|none=>0))],false,sb s k ys,cl r):=by
 cases a:s[k]? with
 |none=>
  have:=Bl.1 a;exact xa AO
 |some c=>
  have:=(qg a).1;exact xa AO
theorem TA(h:Ge lib){s w:ba}{k}{ys}{r}(hs:s.length<=100000)(n:w.length<=1000)(hr:∀q∈r,q≠(0,1))(fa:∀q∈r,q.1<ys.length+1){b:Bool}(a:(match s[k]? with|some c=>w.contains c|none=>false)=b):
 da code lib 251 [.ptr 0 0,.flat (.string (S w))] (sb s k ys) (cl r)=some ([.flat (.bool b)],false,sb s (if b=true then k+1 else k) ys,cl r):=by
 cases d:s[k]? with
 |none=>
  have:=Bl.1 d;rw[d]at a;subst a;exact xa DD
 |some c=>
  have l:=(qg d).1;have g:=Ep h w c aa;rw[d]at a;dsimp only at a;rw[<-Fq]at a;cases e:Dc c w with
  |none=>
   rw[e]at g a;subst a;exact xa DD
  |some i=>
   rw[e]at g a;subst a;have j:=ns e;exact xa DD
theorem D2{s:ba}{k:Nat}{ys}{r}(hs:s.length<=100000)(y:k<=200000)(hr:∀q∈r,q≠(0,1))(fa:∀q∈r,q.1<ys.length+1):
 da code lib 252 [.ptr 0 0] (sb s k ys) (cl r)=some ([.flat (.int .i64 (ad (s.drop k):Nat))],false,sb s (k+ad (s.drop k)) ys,cl r):=by
 have h:=fun k=>wU (lib:=lib) (k:=k) hs fa
 have b:=Dh (body:=oa (da code lib) ia fC) (live:=[0,3,4]) (nb:=ys.length+1) (fun j:Nat=>(⟨[(0,.ptr 0 0),(3,.flat (.int .i64 (k:Nat))),(4,.flat (.int .u8 (match s[j]? with|some c=>(c.toNat:Int)|none=>0)))],cl r,[],sb s j ys⟩:St)) (fun j=>j<=200000) (fun j=>s.length - j)
  (fun j=>(.exit 0,⟨[(0,.ptr 0 0),(3,.flat (.int .i64 (k:Nat)))],cl r,[],sb s (j+ad (s.drop j)) ys⟩)) (fun j g=>?_) (n:=ia) (a:=k) y (by grind [ia])
 ·have h:=h k
  simp only[sb]at h b;have e:IntKind.i64.wrap (((k+ad (s.drop k):Nat):Int) - (k:Int))=((ad (s.drop k):Nat):Int):=by
   have:ad (s.drop k)<=s.length:=by have:=(List.takeWhile_sublist (p:=Fp) (l:=s.drop k)).length_le;rw[fc]at this;unfold ad;omega
   rw[GB aa aa];omega
  generalize ad (s.drop k)=d at*;simp only[Ee]at e;exact xa RZ
 ·cases g:s.drop j with
  |nil=>
   have x:=Ak.1 g;have o:=Qf x;rw[o];exact .inl ⟨.exit 0,⟨[(0,.ptr 0 0),(3,.flat (.int .i64 (k:Nat)))],cl r,[],sb s j ys⟩,ua kA,ea,rfl⟩
  |cons c t=>
   have o:=Yh g;have x:=gg g;have u:=Pm g;have v:=h (j+1);rw[YD,o];unfold Fp;simp only[sb,Ee,n1]at v;clear g h;have A:=c.toNat_lt;obtain⟨n,z⟩:∃n,c.toNat=n:=⟨_,rfl⟩;rw[z];by_cases i:48<=n
   ·by_cases w:n<=57
    ·refine .inr ⟨⟨[(0,.ptr 0 0),(3,.flat (.int .i64 (k:Nat))),(4,.flat (.int .u8 (match s[j+1]? with|some c=>(c.toNat:Int)|none=>0)))],cl r,[],sb s (j+1) ys⟩,j+1,ua kA,ta,aa,aa,?_⟩
     rw[u];simp[i,w,Ij,Vr 1]
    ·refine .inl ⟨.exit 0,⟨[(0,.ptr 0 0),(3,.flat (.int .i64 (k:Nat)))],cl r,[],sb s j ys⟩,ua kA,ea,?_⟩
     simp[i,w]
   ·refine .inl ⟨.exit 0,⟨[(0,.ptr 0 0),(3,.flat (.int .i64 (k:Nat)))],cl r,[],sb s j ys⟩,ua kA,ea,?_⟩
    simp[i]
def vV{o:Option UInt8}{d:UInt8}:(match o with|some c=>([d]:ba).contains c|none=>false)=decide (o=some d):=by cases o<;>simp
def wV{o:Option UInt8}{d e:UInt8}:(match o with|some c=>([d,e]:ba).contains c|none=>false)=decide (o=some d\/o=some e):=by cases o<;>simp
abbrev mh:Nat×List PV:=(203,[.flat (.int .u8 0),.flat (.string (S [])),.flat (.int .i64 0),.flat (.int .i64 0)])
def d7(H:Ge lib){s:ba}{k n:Nat}(hs:s.length<=100000)(hkZ:k<=s.length)(u:dl (s.drop k)=some n):
 da code lib 192 [.ptr 0 0] (sb s k []) []=some ([.agg (Pe ⟨48,(s.take (k+n)).drop k,k,k+n⟩),.flat (.bool true)],false,sb s (k+n) [],[]):=by
 have hzZ:(⟨#[]⟩:ByteArray)=S []:=rfl;have E:=fun d j(e:s[j]?=some d)=>TA (ys:=[mh]) (r:=[]) H hs (w:=[d]) (k:=j) ea ea ea (b:=true) (vV.trans (decide_eq_true e))
 have hF:=fun d j(e:¬s[j]?=some d)=>TA (ys:=[mh]) (r:=[]) H hs (w:=[d]) (k:=j) ea ea ea (b:=false) (vV.trans (decide_eq_false e))
 have J:=fun j b(e:decide (s[j]?=some 101\/s[j]?=some 69)=b)=>TA (ys:=[mh]) (r:=[]) H hs (w:=[101,69]) (k:=j) ea ea ea (b:=b) (wV.trans e)
 have N:=fun j b(e:decide (s[j]?=some 43\/s[j]?=some 45)=b)=>TA (ys:=[mh]) (r:=[]) H hs (w:=[43,45]) (k:=j) ea ea ea (b:=b) (wV.trans e)
 have A:=fun j(h:j<=200000)=>D2 (lib:=lib) (k:=j) (ys:=[mh]) (r:=[]) hs h ea ea
 simp only[Zo,Ha,if_true,if_false,sb]at E hF J N A;have t:=fun j(h:j<=s.length)=>dv s j h
 have fa:=fun j c(h:s[j]?=some c)=>Bm h
 obtain⟨R,X,p2Z,p3Z,p5Z,p4Z⟩:=JT s k;have v:=p2Z (ld (s.drop k));have o:=p3Z (Tf (s.drop k) (ld (s.drop k)));have i:=p4Z (jh (s.drop k) (Tf (s.drop k) (ld (s.drop k))));have C:=p5Z (jh (s.drop k) (Tf (s.drop k) (ld (s.drop k)))+1);have V:k+ld (s.drop k)<=s.length:=by
  rw[R];split
  ·rename_i h;have:=fa _ _ h;omega
  ·omega
 have D:=u;rw[X]at u;split at u
 ·cases u
 rename_i L;have u:=Xe u;rw[u]at i;clear X p2Z p3Z p4Z p5Z u;refine ja TZ (qa rfl) ?_;refine Qr (fun sl ow bx=>look sl 0=.ptr 0 0/\look sl 2=.ptr 1 0/\ow=[]/\bx=sb s k [mh]) ta ?_;rintro sl _ _ ⟨y,z,rfl,rfl⟩;refine Qr (fun sl ow bx=>look sl 0=.ptr 0 0/\look sl 2=.ptr 1 0/\look sl 4=.flat (.int .i64 (k:Nat))/\ow=[]/\bx=sb s k [mh]) ta ?_;rintro sl _ _ ⟨y,z,B,rfl,rfl⟩;refine Qr (fun sl ow bx=>look sl 0=.ptr 0 0/\look sl 2=.ptr 1 0/\look sl 4=.flat (.int .i64 (k:Nat))/\ow=[]/\bx=sb s (k+ld (s.drop k)) [mh]) ?_ ?_
 ·rw[R]
  by_cases F:s[k]?=some 45
  ·have p:=E 45 k F
   rw[if_pos F];exact ta
  ·have p:=hF 45 k F
   rw[if_neg F];exact ta
 rintro sl _ _ ⟨y,z,B,rfl,rfl⟩;obtain⟨a,T⟩:∃a,k+ld (s.drop k)=a:=⟨_,rfl⟩;rw[T]at V v L⊢;obtain⟨c,O⟩:=IP L;have l0Z:=t a V;obtain⟨e,U⟩:∃e,k+Tf (s.drop k) (ld (s.drop k))=e:=⟨_,rfl⟩;rw[U]at v o;have q:e<=s.length:=by
  rw[v];split
  ·have:=fa _ _ O;omega
  ·omega
 refine Qr (fun sl ow bx=>look sl 0=.ptr 0 0/\look sl 2=.ptr 1 0/\look sl 4=.flat (.int .i64 (k:Nat))/\ow=[]/\bx=sb s e [mh]) ?_ ?_
 ·by_cases h:s[a]?=some 48
  ·have p:=E 48 a h
   rw[if_pos h]at v;subst v;clear O;exact ta
  ·have p:=hF 48 a h
   have P:=A a aa;rw[if_neg h]at v;subst v;exact ta
 clear v O l0Z L;rintro sl _ _ ⟨y,z,B,rfl,rfl⟩;refine Qr (fun sl ow bx=>look sl 0=.ptr 0 0/\look sl 2=.ptr 1 0/\look sl 4=.flat (.int .i64 (k:Nat))/\look sl 5=.flat (.int .i64 (e:Nat))/\ow=[]/\bx=sb s e [mh]) ta ?_;rintro sl _ _ ⟨y,z,B,K,rfl,rfl⟩;obtain⟨f,I⟩:∃f,k+jh (s.drop k) (Tf (s.drop k) (ld (s.drop k)))=f:=⟨_,rfl⟩;rw[I]at o i;rw[<-Ij,I]at C;have G:=fun h=>t (e+1) h
 have hfZ:f<=s.length:=by
  rw[o];split
  ·rename_i h;have:=fa _ _ h.1;have:=G aa;omega
  ·exact q
 rw[rV];refine Qr (fun sl ow bx=>look sl 0=.ptr 0 0/\look sl 2=.ptr 1 0/\look sl 4=.flat (.int .i64 (k:Nat))/\look sl 5=.flat (.int .i64 (f:Nat))/\ow=[]/\bx=sb s f [mh]) ?_ ?_
 ·by_cases h:s[e]?=some 46
  ·have p:=E 46 e h
   have P:=A (e+1) (by have:=fa _ _ h;omega);simp only[Ee,n1]at P p;by_cases F:0<ad (s.drop (e+1))
   ·rw[if_pos ⟨h,F⟩]at o;subst o
    clear A;exact ta
   ·rw[if_neg fun x=>F x.2]at o;subst o
    clear A;exact ta
  ·have p:=hF 46 e h
   rw[if_neg fun x=>h x.1]at o;subst o;exact ta
 clear o G q y z B K;rintro sl _ _ ⟨y,z,B,K,rfl,rfl⟩;obtain⟨g,M⟩:∃g,k+Li (s.drop k) (jh (s.drop k) (Tf (s.drop k) (ld (s.drop k)))+1)=g:=⟨_,rfl⟩;rw[M]at i C;rw[rV];refine Qr (fun sl ow bx=>look sl 0=.ptr 0 0/\look sl 2=.ptr 1 0/\look sl 4=.flat (.int .i64 (k:Nat))/\look sl 5=.flat (.int .i64 (k+n:Nat))/\ow=[]/\bx=sb s (k+n) [mh]) ?_ ?_
 ·by_cases q:s[f]?=some 101\/s[f]?=some 69
  ·have hgZ:f+1<=s.length:=by rcases q with h|h<;>(have:=fa _ _ h;omega)
   have p:=J f true (decide_eq_true q);have W:(s[f]?=some 101\/s[f]?=some 69)=True:=eq_true q;simp only[W,true_and]at i;have Q:g<=s.length:=by
    rw[C];split
    ·rename_i h;rcases h with h|h<;>(have:=fa _ _ h;omega)
    ·exact hgZ
   have P:=A g aa;have hlg:=t g Q;have Z:g=if decide (s[f+1]?=some 43\/s[f+1]?=some 45)=true then f+1+1 else f+1:=by rw[C];simp
   have Y:=N (f+1) _ rfl;rw[<-Z]at Y;simp only[Ee,n1]at Y p;clear E hF J N A t fa C Z W q T U I M R;generalize decide (s[f+1]?=some 43\/s[f+1]?=some 45)=b1 at*;generalize ad (s.drop g)=d at*;by_cases F:0<d
   ·rw[if_pos F]at i
    rw[i];exact ta
   ·rw[if_neg F]at i
    rw[i];exact ta
  ·have p:=J f false (decide_eq_false q)
   rw[if_neg fun x=>q x.1]at i;rw[i];exact ta
 have hkn:k+n<=s.length:=by
  have:=jA (l:=s.drop k) (k:=n) D;rw[fc]at this;omega
 have hkk:k<=k+n:=Nat.le_add_right _ _;clear y z B K i C M I D;rintro sl _ _ ⟨y,z,B,K,rfl,rfl⟩;generalize k+n=m at*;exact ta
def F_{s:ba}{k:Nat}{c:UInt8}(hs:s.length<=100000)(a:s[k]?=some c):
 da code lib 189 [.ptr 0 0] (sb s k []) []=some ([.agg (Pe ⟨c,[],k,k+1⟩),.flat (.bool true)],false,sb s (k+1) [],[]):=by
 have d:(⟨#[]⟩:ByteArray)=S []:=rfl;have b:=Bm a;have e:IntKind.i64.wrap ((k:Int)+1 - 1)=(k:Int):=by rw[GB aa aa];omega
 exact xa SZ
def zib(l:kc lib){s w:ba}{k:Nat}(hs:s.length<=100000)(n:k<=s.length)(a:ng (s.drop k)=some w):
 da code lib 191 [.ptr 0 0] (sb s k []) []=some ([.agg (Pe ⟨97,w,k,k+w.length⟩),.flat (.bool true)],false,sb s (k+w.length) [],[]):=by
 have o:(⟨#[]⟩:ByteArray)=S []:=rfl;have g:=fun w h=>BA l (s.drop k) w (by rw[fc];omega) h
 have d:=g wT ha;have i:=g bi ha;have j:=g wN ha;clear g;unfold ng at a;rcases Ph (wT.isPrefixOf (s.drop k))with b|b
 ·rw[if_pos b]at a
  cases a;rw[b]at d;unfold wT at d⊢;refine ja ED (qa rfl) ?_;exact ze @lc @Bb @Mb @Zb @Wc JH
 rw[if_neg (by simp[b])]at a;rw[b]at d;rcases Ph (bi.isPrefixOf (s.drop k))with c|c
 ·rw[if_pos c]at a
  cases a;rw[c]at i;unfold wT at d;unfold bi at i⊢;refine ja ED (qa rfl) ?_;exact ze @lc @Bb @Mb @Zb @Wc JH
 rw[if_neg (by simp[c])]at a;rw[c]at i;rcases Ph (wN.isPrefixOf (s.drop k))with e|e
 ·rw[if_pos e]at a
  cases a;rw[e]at j;unfold wT at d;unfold bi at i;unfold wN at j⊢;refine ja ED (qa rfl) ?_;exact ze @lc @Bb @Mb @Zb @Wc JH
 ·rw[if_neg (by simp[e])]at a;cases a
end ya

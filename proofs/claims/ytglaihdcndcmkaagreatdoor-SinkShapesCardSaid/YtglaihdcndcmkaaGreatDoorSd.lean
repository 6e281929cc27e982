/- Texts of this proof, merged. -/
import Derived.Test.YtglaihdcndcmkaaGreatDoorSc
import Derived.Test.YtglaihdcndcmkaaGreatDoorRows
import Derived.Shelf.Strings.BuilderK
import Derived.Lib.FrozenHead2
import Derived.Lib.OthersKept
import Derived.Lib.Builder
import Derived.Laws.Externs
set_option linter.all false
open Go ya Go.Proofs Go.RowKit Go.Proofs.YtglaihdcndcmkaaGreatDoor
set_option maxHeartbeats 4000000
namespace ya
abbrev ba:=List UInt8
def S(l:ba):ByteArray:=⟨l.toArray⟩
def bf{l:ba}:ByteArray.mk (List.toArray l)=S l:=rfl
theorem Xa{l}:(S l).size=l.length:=ra
def hd{l}{i:Nat}:(S l)[i]?=l[i]?:=by
 show(ByteArray.mk l.toArray)[i]?=_;by_cases h:i<l.length
 ·rw[qe h]
  have a:i<(ByteArray.mk l.toArray).size:=by simpa[ByteArray.size]using h
  rw[getElem?_pos (ByteArray.mk l.toArray) i a];rfl
 grind [ByteArray.size]
def Ij{a b}:S a++S b=S (a++b):=Ft (by simp[S])
def oh{l}{a b}:(S l).extract a b=S ((l.take b).drop a):=Ft (by
 rw[ByteArray.data_extract]
 grind [S])
theorem cx{a b}:S a=S b ↔ a=b:=⟨fun h=>by grind [S],fun h=>by rw[h]⟩
def Bo{a b}:Bn (S a) (S b)=decide (a=b):=by grind [Bn,cx]
def iW{a}:ci (S a)=a.map fun b=>.flat (.int .u8 b.toNat):=ra
def Sd(a:ba):List PV:=a.map fun b=>.flat (.int .u8 b.toNat)
def oJ{a}:ci (S a)=Sd a:=iW
theorem XJ{a b}:Sd a++Sd b=Sd (a++b):=by simp[Sd]
def zC{a}:(Sd a).length=a.length:=by simp[Sd]
theorem rK:∀(a),bytesOf (Sd a)=some a
 |[]=>rfl
 |b::a=>by
  show bytesOf (.flat (.int .u8 b.toNat)::Sd a)=_;have c:=b.toNat_lt;rw[bytesOf,if_pos aa,rK a];simp
theorem AC{n}:∀a,Ia n (Sd a)=true
 |[]=>rfl
 |b::a=>by show Ia n (.flat (.int .u8 b.toNat)::Sd a)=true;simp[Ia,PV.low,AC a]
def Vh{l:ba}{k}{c}{r:ba}(h:l.drop k=c::r):l[k]?=some c:=by
 have:=congrArg (fun x=>x[0]?) h
 grind
def gg{l:ba}{k}{c}{r:ba}(h:l.drop k=c::r):l.length=k+1+r.length:=by
 have:=congrArg List.length h
 grind
def Em{l:ba}{k}{c}{r:ba}(h:l.drop k=c::r):l.drop (k+1)=r:=by
 have:=congrArg (List.drop 1) h;simpa[Nat.add_comm]using this
def eh{st}{d}{c}:Vy st d (some c)=some (st.put d (.flat (.int .u8 c.toNat))):=rfl
def Lj{p}(h:(List.range 256).all p=true)(c:UInt8):p c.toNat=true:=Bg.1 h _ (Ri.2 c.toNat_lt)
def n0:((0:Nat):Int)=0:=rfl
def n1:((1:Nat):Int)=1:=rfl
def n2:((2:Nat):Int)=2:=rfl
def n3:((3:Nat):Int)=3:=rfl
def n4:((4:Nat):Int)=4:=rfl
def mj:((65533:Nat):Int)=65533:=rfl
def OA:IntKind.i64.wrap 0=0:=ha
def PI:IntKind.i64.wrap 5=5:=ha
def zfx:IntKind.i64.wrap 6=6:=ha
def PA:IntKind.i64.wrap 1=1:=ha
def Ar:IntKind.i64.wrap 2=2:=ha
def Cr:IntKind.i64.wrap 3=3:=ha
def Ct:IntKind.i64.wrap 4=4:=ha
def u8_and(a b:Nat)(c:a<256)(d:b<256):wm .u8 (a:Int) (b:Int)=((a&&&b:Nat):Int):=by
 show IntKind.u8.wrap ((BitVec.ofInt 8 (a:Int)&&&BitVec.ofInt 8 (b:Int)).toNat:Int)=_
 grind [BitVec.ofNat,Fj]
def u8_or(a b:Nat)(c:a<256)(d:b<256):Fg .u8 (a:Int) (b:Int)=((a|||b:Nat):Int):=by
 show IntKind.u8.wrap ((BitVec.ofInt 8 (a:Int)|||BitVec.ofInt 8 (b:Int)).toNat:Int)=_
 grind [BitVec.ofNat,Fj]
def rE(a b:Nat)(d:a<2147483648)(e:b<2147483648):Fg .i32 (a:Int) (b:Int)=((a|||b:Nat):Int):=by
 show IntKind.i32.wrap ((BitVec.ofInt 32 (a:Int)|||BitVec.ofInt 32 (b:Int)).toNat:Int)=_;have c:(a|||b)<2^31:=Nat.or_lt_two_pow aa aa
 grind [wrap32]
def I4(a b:Nat)(c:a<2147483648)(d:b<2147483648):wm .i32 (a:Int) (b:Int)=((a&&&b:Nat):Int):=by
 show IntKind.i32.wrap ((BitVec.ofInt 32 (a:Int)&&&BitVec.ofInt 32 (b:Int)).toNat:Int)=_
 grind [Nat.and_le_left,wrap32]
def zab(m x)(a:x<64):(m* 64)|||x=m* 64+x:=by
 have:=UI (i:=6) (b:=x) aa m
 grind [Nat.shiftLeft_eq]
def gz(body:St->Option (Out×St))(live:List Nat)(nb n:Nat):Option (Out×St)->Option (Out×St)
 |some (.normal,st)=>Ac body live nb n (st.only live nb)
 |some (.exit i,st)=>some (.exit i,st)
 |some (.ret,st)=>some (.ret,st)
 |none=>none
def ec{body}{live}{nb n}{st}:Ac body live nb (n+1) st=gz body live nb n (body st):=by
 simp only[Ac];cases body st with
 |none=>rfl
 |some p=>obtain⟨o,s⟩:=p;cases o<;>rfl
def pc{body}{live}{nb n}{st}:gz body live nb n (some (.normal,st))=Ac body live nb n (st.only live nb):=rfl
def Ec{body}{live}{nb n i}{st}:gz body live nb n (some (.exit i,st))=some (.exit i,st):=rfl
def Ed{body}{live}{nb n}{st}:gz body live nb n (some (.ret,st))=some (.ret,st):=rfl
theorem Ah{α:Type}{body}{live}{nb}(c:α->St)(I:α->Prop)(μ:α->Nat)(Ua:α->Out×St)
 (h:∀a,I a->(∃o s,body (c a)=some (o,s)/\o≠.normal/\Ua a=(o,s))\/∃s b,body (c a)=some (.normal,s)/\s.only live nb=c b/\I b/\μ b<μ a/\Ua b=Ua a):∀{n}{a},I a->μ a<n->Ac body live nb n (c a)=some (Ua a)
 |0,a,_,l=>by omega
 |n+1,a,k,l=>by
  rw[ec];rcases h a k with⟨o,s,d,g,e⟩|⟨s,b,d,g,e,p,j⟩
  ·rw[d,e]
   cases o with
   |normal=>grind
   |exit i=>rfl
   |ret=>rfl
  ·rw[d,pc,g,<-j]
   exact Ah c I μ Ua h e aa
variable {lib:Callee}
def Oo{n:Nat}{r}(h:n<256):bytesOf (.flat (.int .u8 (n:Int))::r)=(bytesOf r).map (UInt8.ofNat n::·):=by
 grind [bytesOf.eq_2]
def Po:bytesOf []=some []:=rfl
def Rc:ja=18446744073709551615+1:=ha
def cl(m:List (Nat×Nat)):List Loc:=m.map fun q=>.cell q.1 q.2
theorem Gb:∀m,og (cl m)=cl m
 |[]=>rfl
 |q::m=>by show og (.cell q.1 q.2::cl m)=_;rw[Rx,Gb m];rfl
theorem Nb:∀m,Li (cl m)=[]
 |[]=>rfl
 |q::m=>by show Li (.cell q.1 q.2::cl m)=_;rw[yA,Nb m]
theorem sb{i}:∀m,owns (cl m) (.slot i)=false
 |[]=>rfl
 |q::m=>by show owns (.cell q.1 q.2::cl m) (.slot i)=_;rw[fT,sb m]
theorem Hb(m):∀l,Hs (cl m) l=[]
 |[]=>rfl
 |i::l=>by rw[g8,sb,Hb m l];rfl
theorem Eb{d}:∀m,Va d (cl m)=cl m
 |[]=>rfl
 |q::m=>by show Va d (.cell q.1 q.2::cl m)=_;rw[OO,Eb m];rfl
theorem ub{n}:∀m,(∀q∈m,q.1<n)->qc n (cl m)=cl m
 |[],_=>rfl
 |q::m,h=>by
  show qc n (.cell q.1 q.2::cl m)=_;rw[ol,if_pos (h q ea),ub m fun q a=>h q (by simp[a])];rfl
def Je{α ι:Type}(step:α->ι->α×Bool):α->List ι->α×Bool
 |a,[]=>(a,true)
 |a,x::r=>if(step a x).2 then Je step (step a x).1 r else((step a x).1,false)
def Ce{nb}{vs}{bx}(h:bx.length=nb):trim nb vs bx=bx:=by grind [trim]
def Am:cl []=[]:=rfl
theorem Kp{bx:Oa}{b}{q}(h:bx[b]?=some q):bx.set b q=bx:=by
 apply List.ext_getElem?
 grind
theorem uq{b o}:∀m,(∀q∈m,q≠(b,o))->fe (.cell b o) (cl m)=cl m
 |[],_=>rfl
 |q::m,h=>by
  show fe (.cell b o) (.cell q.1 q.2::cl m)=_;rw[Gu,if_neg (fun k=>h q ea (Prod.ext k.1 k.2)),uq m fun q a=>h q (by simp[a])];rfl
theorem pg{b o}:∀m,(∀q∈m,q≠(b,o))->Td b o 1 (cl m)=cl m
 |[],_=>rfl
 |q::m,h=>by
  show Td b o 1 (.cell q.1 q.2::cl m)=_;rw[Pj,if_neg (fun k=>h q ea (Prod.ext k.1 aa)),pg m fun q a=>h q (by simp[a])];rfl
theorem uB:∀a,ng (Sd a)=true
 |[]=>rfl
 |c::a=>by show ng (.flat (.int .u8 c.toNat)::Sd a)=true;rw[qx,uB a];rfl
def Mb{σ ρ:Type}(step:σ->σ ⊕ ρ)(d:ρ):Nat->σ->ρ
 |0,_=>d
 |n+1,a=>match step a with
  | .inl b=>Mb step d n b
  | .inr r=>r
theorem ef{σ ρ}{step}{d:ρ}{n}{a b:σ}(h:step a=.inl b):Mb step d (n+1) a=Mb step d n b:=by grind [Mb]
theorem ad{σ ρ}{step}{d r:ρ}{n}{a:σ}(h:step a=.inr r):Mb step d (n+1) a=r:=by grind [Mb]
theorem XH{σ ρ}{step}{d:ρ}{I:σ->Prop}{μ:σ->Nat}(h:∀a b,I a->step a=.inl b->I b/\μ b<μ a):∀(n m)(a),I a->μ a<n->μ a<m->Mb step d n a=Mb step d m a
 |0,_,_,_,c,_=>by omega
 |_,0,_,_,_,e=>by omega
 |n+1,m+1,a,g,c,e=>by
  cases hs:step a with
  |inl b=>
   obtain⟨i,j⟩:=h a b g hs;rw[ef hs,ef hs];exact XH h n m b i aa aa
  |inr r=>grind [ad]
theorem kk{σ ρ:Type}{step:σ->σ ⊕ ρ}{d}{I:σ->Prop}{μ:σ->Nat}{Q:ρ->Prop}(h:∀a,I a->match step a with| .inl b=>I b/\μ b<μ a| .inr r=>Q r):∀(n)(a),I a->μ a<n->Q (Mb step d n a)
 |0,_,_,e=>by omega
 |n+1,a,g,e=>by
  have hs:=h a g;cases c:step a with
  |inl b=>rw[c]at hs;rw[ef c];exact kk h n b hs.1 aa
  |inr r=>grind [ad]
def oe{σ ρ:Type}(a:σ->St)(fin:ρ->Out×St):σ ⊕ ρ->Out×St
 | .inl b=>(.normal,a b)
 | .inr r=>fin r
theorem Ls{σ ρ}{body}{live}{nb}(c)(step)(d)(fin:ρ->Out×St)(I:σ->Prop)(μ:σ->Nat)
 (hr:∀a,I a->body (c a)=some (oe c fin (step a))) (o:∀a,I a->(c a).only live nb=c a) (i:∀a b,I a->step a=.inl b->I b/\μ b<μ a) (hf:∀r,(fin r).1≠.normal) {n} (a) (g:I a) (l:μ a<n) (k:μ a<ja):
 Ac body live nb ja (c a)=some (fin (Mb step d n a)):=by
 have e:=Ah (body:=body) (live:=live) (nb:=nb) c I μ (fun a=>fin (Mb step d (μ a+1) a)) (fun a g=>?_) (n:=ja) (a:=a) g k
 ·rw[e,XH i (μ a+1) n a g aa l]
 ·have h:=hr a g
  cases hs:step a with
  |inl b=>
   rw[hs]at h;obtain⟨j,p⟩:=i a b g hs;refine .inr ⟨c b,b,h,o b j,j,p,?_⟩;rw[ef hs,XH i (μ b+1) (μ a) b j aa aa]
  |inr r=>
   rw[hs]at h;exact .inl ⟨(fin r).1,(fin r).2,h,hf r,by rw[ad hs]⟩
def Zm{p s:ba}(h:p.isPrefixOf s=true):p.length<=s.length:=(tl.1 h).length_le
def Uw{k m:Nat}(h:k+m<9223372036854775808):IntKind.i64.wrap ((k:Int)+(m:Int))=((k+m:Nat):Int):=by grind [wrap64]
def Ui{k:Nat}(h:k+1<9223372036854775808):IntKind.i64.wrap ((k:Int)+1)=((k+1:Nat):Int):=Uw (m:=1) h
theorem Il{η σ ρ:Type}{body}{live}{nb}(c:η->σ->St)(step:σ->σ ⊕ ρ)(d)(Q:ρ->Out->St->Prop)(I:σ->Prop)(μ:σ->Nat)
 (hr:∀h a,I a->match step a with| .inl b=>∃g,body (c h a)=some (.normal,c g b)| .inr r=>∃o s,body (c h a)=some (o,s)/\o≠.normal/\Q r o s) (q:∀h a,I a->(c h a).only live nb=c h a) (k:∀a b,I a->step a=.inl b->I b/\μ b<μ a):
 ∀{n m}(h)(a),I a->μ a<n->μ a<m->∃o s,Ac body live nb m (c h a)=some (o,s)/\Q (Mb step d n a) o s
 |n,0,h,a,j,p,l=>by omega
 |0,_,h,a,j,p,l=>by omega
 |n+1,m+1,h,a,j,p,l=>by
  have e:=hr h a j;rw[ec];cases hs:step a with
  |inl b=>
   rw[hs]at e;obtain⟨g,e⟩:=e;obtain⟨t,u⟩:=k a b j hs;rw[e,pc,q g b t,ef hs];exact Il c step d Q I μ hr q k g b t aa aa
  |inr r=>
   rw[hs]at e;obtain⟨o,s,e,u,t⟩:=e;rw[e,ad hs];refine⟨o,s,?_,t⟩;cases o with
   |normal=>grind
   |exit i=>rfl
   |ret=>rfl
def OR{n b}{q}(a:Ia n q.2=true):∀{bx},nf n bx=true->nf n (bx.set b q)=true:=by
 intro bx
 induction bx generalizing b with
 |nil=>simp
 |cons p l c=>
  intro h;rw[ym,bc]at h;cases b<;>grind [ym]
theorem NG{n}:∀{bx a},nf n (bx++a)=(nf n bx&&nf n a)
 |[],a=>by rfl
 |p::l,a=>by rw[Ha,ym,ym,NG,Bool.and_assoc]
def Eo{bx:Oa}{b}{x q}(h:b<bx.length):(bx.set b x++[q])[b]?=some x:=by
 grind
def Fo{bx:Oa}{b}{x q}:(bx.set b x++[q])[bx.length]?=some q:=by
 simp
def kq{bx:Oa}{b}{x y q}(h:b<bx.length):(bx.set b x++[q]).set b y=bx.set b y++[q]:=by
 grind [List.set_set]
def lq{bx:Oa}{b}{x q z}:(bx.set b x++[q]).set bx.length z=bx.set b x++[z]:=by
 simp
def Hk{bx:Oa}{b}{x q}:(bx.set b x++[q]).length=bx.length+1:=by
 simp
def GJ{bx:Oa}{b}{x q}:(bx.set b x++[q]).take bx.length=bx.set b x:=by
 simp
def y9{n}{x:Nat×Nat}{r}(h:∀q∈r,q.1<n):∀q∈(n,1)::r,q.1<n+1:=by
 grind
theorem Tx{b o m}:∀r,(∀q∈r,q.1<b)->Td b o m (cl r)=cl r
 |[],_=>rfl
 |q::r,h=>by
  have c:=h q It;have d:=Tx (o:=o) (m:=m) r fun x a=>h x (kn _ a)
  grind [cl,Pj]
mutual
theorem zbD{n m:Nat}(h:n<=m):∀v:PV,v.low n=true->v.low m=true
 | .ptr b _,k=>by grind [PV.low]
 | .Sa b,k=>by grind [PV.low]
 | .ve b _ _,k=>by grind [PV.low]
 | .ia _ cs,k=>by simp only[PV.low]at k⊢;exact Pn h cs k
 | .agg cs,k=>by simp only[PV.low]at k⊢;exact Pn h cs k
 | .Jc cs,k=>by simp only[PV.low]at k⊢;exact Pn h cs k
 | .vd cs,k=>by simp only[PV.low]at k⊢;exact Pn h cs k
 | .ib _ cs,k=>by simp only[PV.low]at k⊢;exact Pn h cs k
 | .tag _ cs,k=>by simp only[PV.low]at k⊢;exact Pn h cs k
 | .lp _ _ _ _ cs,k=>by simp only[PV.low]at k⊢;exact Pn h cs k
 | .flat _,_=>rfl
 | .Hd,_=>rfl
theorem Pn{n m:Nat}(h:n<=m):∀l:List PV,Ia n l=true->Ia m l=true
 |[],_=>rfl
 |v::l,k=>by
  simp only[Ia,bc]at k⊢;exact⟨zbD h v k.1,Pn h l k.2⟩
end
theorem MC{n m}(h:n<=m):∀l,nf n l=true->nf m l=true
 |[],_=>rfl
 |q::l,a=>by
  rw[ym,bc]at a⊢;exact⟨Pn h _ a.1,MC h l a.2⟩
theorem tN{n}:∀r,(∀q∈r,q.1<n)->Uk n (cl r)=cl r
 |[],_=>rfl
 |q::r,h=>by
  have b:=h q It;have c:=tN (n:=n) r fun x a=>h x (kn _ a)
  grind [cl,OG]
def Te{α β:Type}(f:α->Nat->β->α ⊕ (Out×St))(fin:α->Out×St):α->Nat->List β->Out×St
 |a,_,[]=>fin a
 |a,k,x::t=>match f a k x with
  | .inl a'=>Te f fin a' (k+1) t
  | .inr r=>r
def n9{α β}{body}{live}{nb}(b:α->Nat->St)(L)(I:α->Nat->Prop)(f:α->Nat->β->α ⊕ (Out×St))(fin)
 (hr:∀a k x,I a k->k<L.length->L[k]?=some x->L.drop k=x::L.drop (k+1)->
   (∃a' s,f a k x=.inl a'/\body (b a k)=some (.normal,s)/\s.only live nb=b a' (k+1)/\I a' (k+1))\/(∃r,f a k x=.inr r/\body (b a k)=some r/\r.1≠.normal))
 (p:∀a,I a L.length->body (b a L.length)=some (fin a)/\(fin a).1≠.normal) (a) (c:I a 0) (o:L.length<ja):
 Ac body live nb ja (b a 0)=some (Te f fin a 0 L):=by
 have d:=Ah (body:=body) (live:=live) (nb:=nb) (fun q:α×Nat=>b q.1 q.2) (fun q=>I q.1 q.2/\q.2<=L.length) (fun q=>L.length - q.2)
  (fun q=>Te f fin q.1 q.2 (L.drop q.2)) (fun⟨a,k⟩ c=>?_) (n:=ja) (a:=(a,0)) ⟨c,Cb _⟩ aa
 ·grind
 ·dsimp only at c⊢
  obtain⟨c,t⟩:=c;by_cases fa:k<L.length
  ·have j:=qe fa
   have l:=Pd fa;rcases hr a k L[k] c fa j l with⟨a',s,h,e,g,i⟩|⟨r,h,e,g⟩
   ·right
    exact⟨s,(a',k+1),e,g,⟨i,fa⟩,aa,by grind [Te.eq_2]⟩
   grind [Te.eq_2]
  grind [Te.eq_1]
def bk{α β:Type}{body}{live}{nb}(b:α->Nat->St)(L)(I:α->Nat->Prop)(f:α->Nat->β->α ⊕ (Out×St))(fin)
 (hr:∀a k x,I a k->k<L.length->L[k]?=some x->L.drop k=x::L.drop (k+1)->body (b a k)=match f a k x with| .inl a'=>some (.normal,b a' (k+1))| .inr r=>some r)
 (n:∀a k,(b a k).only live nb=b a k) (h:∀a k x a',I a k->k<L.length->L[k]?=some x->f a k x=.inl a'->I a' (k+1)) (l:∀a k x r,f a k x=.inr r->r.1≠.normal)
 (g:∀a,I a L.length->body (b a L.length)=some (fin a)) (hf:∀a,(fin a).1≠.normal) (a) (e:I a 0) (d:L.length<ja):
 Ac body live nb ja (b a 0)=some (Te f fin a 0 L):=
 n9 b L I f fin (fun a k x c j o i=>by
  grind) (fun a c=>⟨g a c,hf a⟩) a e d
theorem SA{β}{p:β->Bool}{r}{fin}:∀(L)(k),Te (fun(_:Unit) _ x=>if p x then .inl ()else .inr r) fin () k L=if L.all p then fin ()else r
 |[],k=>rfl
 |x::t,k=>by
  rw[Te,zk];cases a:p x with
  |true=>rw[if_pos rfl,od];exact SA t _
  |false=>rfl
def zcR(s w:ba)(k)(h:w.length<=s.length - k)(a:k<=s.length):decide ((s.take (k+w.length)).drop k=w)=w.isPrefixOf (s.drop k):=by
 grind [List.prefix_iff_eq_take]
def zbu(s w:ba)(h:¬w.length<=s.length):w.isPrefixOf s=false:=by
 grind
def Cc(c:UInt8):ba->Option Nat
 |[]=>none
 |x::l=>if x=c then some 0 else(Cc c l).map (·+1)
theorem Rr{c}:∀{l}{i},Cc c l=some i->i<l.length
 |[],i,h=>by cases h
 |x::l,i,h=>by
  simp only[Cc]at h;split at h
  ·grind
  ·obtain⟨j,a,rfl⟩:=qm h
   have:=Rr a
   grind
def We(lib:Callee):Prop:=∀(s:ba)(c:UInt8),s.length<=1000000000->lib 96 [.flat (.string (S s)),.flat (.int .u8 c.toNat)] [] []=some ([.flat (.int .i64 (match Cc c s with|some i=>(i:Int)|none=>-1))],false,[],[])
def pp(H:We lib)(s)(c)(h:s.length<=1000000000):da code lib 96 [.flat (.string (S s)),.flat (.int .u8 c.toNat)] [] []=some ([.flat (.int .i64 (match Cc c s with|some i=>(i:Int)|none=>-1))],false,[],[]):=
 Ef ha ra (H s c h)
def wa(l:List ba):List PV:=l.map fun x=>.flat (.string (S x))
def cd{l}:(wa l).length=l.length:=by simp[wa]
theorem tr{a b}:wa a++wa b=wa (a++b):=by simp[wa]
theorem Lf:∀a,sd (wa a)=true
 |[]=>rfl
 |c::a=>by show sd (.flat (.string (S c))::wa a)=true;rw[zv,Lf a];rfl
theorem Xd{n}:∀a,Ia n (wa a)=true
 |[]=>rfl
 |c::a=>by show Ia n (.flat (.string (S c))::wa a)=true;simp only[Ia,PV.low,Xd a,od]
def sc(lib:Callee):Prop:=∀s p:ba,s.length<=1000000000->p.length<=1000000000->lib 80 [.flat (.string (S s)),.flat (.string (S p))] [] []=some ([.flat (.bool (p.isPrefixOf s))],false,[],[])
def Tb(s w:ba)(k:Nat):Bool:=decide (k<=s.length)&&w.isPrefixOf (s.drop k)
theorem dd:∀a,Ib (wa a)=true
 |[]=>rfl
 |c::a=>by show Ib (.flat (.string (S c))::wa a)=true;simp only[Ib,PV.pj,dd a,od]
theorem bj{s w}{k}(a:k<=s.length):Tb s w k=w.isPrefixOf (s.drop k):=by grind [Tb]
theorem oq(c):∀s,(Cc c s).isSome=s.contains c
 |[]=>rfl
 |x::l=>by
  have:=oq c l
  grind [Cc]
def GQ{a b:Int}(h:a<b):(a<b)=True:=eq_true h
def CQ{a b:Int}(h:b<=a):(a<b)=False:=eq_false aa
def BQ{a b:Int}(h:a<=b):(a<=b)=True:=eq_true h
def xQ{a b:Int}(h:b<a):(a<=b)=False:=eq_false aa
def wQ{a b:Int}(h:a=b):(a=b)=True:=eq_true h
def sQ{a b:Int}(h:a<b\/b<a):(a=b)=False:=eq_false aa
def jS{a b:Nat}(h:a<b):(a<b)=True:=eq_true h
def iS{a b:Nat}(h:b<=a):(a<b)=False:=eq_false aa
def hS{a b:Nat}(h:a<=b):(a<=b)=True:=eq_true h
def gS{a b:Nat}(h:b<a):(a<=b)=False:=eq_false aa
def eS{a b:Nat}(h:a=b):(a=b)=True:=eq_true h
def dS{a b:Nat}(h:a<b\/b<a):(a=b)=False:=eq_false aa
def iB{x}(a:-9223372036854775808<=x)(b:x<9223372036854775808):IntKind.i64.wrap x=x:=wrap64 ⟨a,b⟩
def ZV{x}(a:0<=x)(b:x<256):IntKind.u8.wrap x=x:=Fj ⟨a,b⟩
def YV{x}(a:-2147483648<=x)(b:x<2147483648):IntKind.i32.wrap x=x:=wrap32 ⟨a,b⟩
def IA(a b:UInt8):(a=b)=(a.toNat=b.toNat):=by rw[Xb]
def pV(k m:Nat):((k:Int)+(m:Int)).toNat=k+m:=aa
def mV(k:Nat):((k:Int)+1).toNat=k+1:=aa
def nV(k:Nat):((k:Int)+2).toNat=k+2:=aa
def oV(k:Nat):((k:Int)+3).toNat=k+3:=aa
def zQ{n m:Nat}:((n:Int)<=(no_index (@OfNat.ofNat Int m instOfNat)))=(n<=@OfNat.ofNat Nat m (instOfNatNat m)):=propext Rp
def yQ{n m:Nat}:((no_index (@OfNat.ofNat Int m instOfNat))<=(n:Int))=(@OfNat.ofNat Nat m (instOfNatNat m)<=n):=propext Rp
def EQ{n m:Nat}:((n:Int)<(no_index (@OfNat.ofNat Int m instOfNat)))=(n<@OfNat.ofNat Nat m (instOfNatNat m)):=propext Int.ofNat_lt
def DQ{n m:Nat}:((no_index (@OfNat.ofNat Int m instOfNat))<(n:Int))=(@OfNat.ofNat Nat m (instOfNatNat m)<n):=propext Int.ofNat_lt
def uQ{n m:Nat}:((n:Int)=(no_index (@OfNat.ofNat Int m instOfNat)))=(n=@OfNat.ofNat Nat m (instOfNatNat m)):=propext Er
def tQ{n m:Nat}:((no_index (@OfNat.ofNat Int m instOfNat))=(n:Int))=(@OfNat.ofNat Nat m (instOfNatNat m)=n):=propext Er
def AQ{n m:Nat}:((n:Int)<=(m:Int))=(n<=m):=propext Rp
def FQ{n m:Nat}:((n:Int)<(m:Int))=(n<m):=propext Int.ofNat_lt
def vQ{n m:Nat}:((n:Int)=(m:Int))=(n=m):=propext Er
end ya
namespace Go.Proofs.YtglaihdcndcmkaaGreatDoor
def au:(((((type_of% @zQ)/\((type_of% @yQ)/\(type_of% @EQ)))/\(((type_of% @DQ)/\(type_of% @uQ))/\((type_of% @tQ)/\(type_of% @AQ))))/\((((type_of% @FQ)/\(type_of% @vQ))/\((type_of% @GQ)/\(type_of% @CQ)))/\(((type_of% @BQ)/\(type_of% @xQ))/\((type_of% @wQ)/\(type_of% @sQ)))))/\(((((type_of% @jS)/\(type_of% @iS))/\((type_of% @hS)/\(type_of% @gS)))/\(((type_of% @eS)/\(type_of% @dS))/\((type_of% @iB)/\(type_of% @ZV))))/\((((type_of% @YV)/\(type_of% @Xa))/\((type_of% @hd)/\(type_of% @oh)))/\(((type_of% @Ij)/\(type_of% @Bo))/\((type_of% @bf)/\(type_of% @eh))))))/\(((((type_of% @decide_eq_true_eq)/\((type_of% @decide_eq_false_iff_not)/\(type_of% @ic)))/\(((type_of% @pV)/\(type_of% @mV))/\((type_of% @nV)/\(type_of% @oV))))/\((((type_of% @Hb)/\(type_of% @sb))/\((type_of% @Gb)/\(type_of% @Eb)))/\(((type_of% @Nb)/\(type_of% @ub))/\((type_of% @pg)/\(type_of% @uq)))))/\(((((type_of% @zc)/\(type_of% @Kc.{0}))/\((type_of% @cm.{0})/\(type_of% @qo.{0})))/\(((type_of% @vc.{0})/\(type_of% @nn))/\((type_of% @Up)/\(type_of% @pn))))/\((((type_of% @Ug)/\(type_of% @Bool.cond_true.{0}))/\((type_of% @Bool.cond_false.{0})/\(type_of% @Ee)))/\(((type_of% @qn)/\(type_of% @n0))/\((type_of% @n1)/\(type_of% @n2)))))):=
 ⟨⟨⟨⟨⟨@zQ,⟨@yQ,@EQ⟩⟩,⟨⟨@DQ,@uQ⟩,⟨@tQ,@AQ⟩⟩⟩,⟨⟨⟨@FQ,@vQ⟩,⟨@GQ,@CQ⟩⟩,⟨⟨@BQ,@xQ⟩,⟨@wQ,@sQ⟩⟩⟩⟩,⟨⟨⟨⟨@jS,@iS⟩,⟨@hS,@gS⟩⟩,⟨⟨@eS,@dS⟩,⟨@iB,@ZV⟩⟩⟩,⟨⟨⟨@YV,@Xa⟩,⟨@hd,@oh⟩⟩,⟨⟨@Ij,@Bo⟩,⟨@bf,@eh⟩⟩⟩⟩⟩,⟨⟨⟨⟨@decide_eq_true_eq,⟨@decide_eq_false_iff_not,@ic⟩⟩,⟨⟨@pV,@mV⟩,⟨@nV,@oV⟩⟩⟩,⟨⟨⟨@Hb,@sb⟩,⟨@Gb,@Eb⟩⟩,⟨⟨@Nb,@ub⟩,⟨@pg,@uq⟩⟩⟩⟩,⟨⟨⟨⟨@zc,@Kc.{0}⟩,⟨@cm.{0},@qo.{0}⟩⟩,⟨⟨@vc.{0},@nn⟩,⟨@Up,@pn⟩⟩⟩,⟨⟨⟨@Ug,@Bool.cond_true.{0}⟩,⟨@Bool.cond_false.{0},@Ee⟩⟩,⟨⟨@qn,@n0⟩,⟨@n1,@n2⟩⟩⟩⟩⟩⟩
def sa{q:Prop}(h:q:=by simp(maxSteps:=999999) (disch:=first|assumption|omega) only[go_sem,simprocAttr,au, *]):q:=h
def va{a q:Prop}(b:a)(h:a->q:=by intros;simp(maxSteps:=999999) (disch:=first|assumption|omega) only[go_sem,simprocAttr,au, *]):q:=h b
def Kb{a b q:Prop}(c:a)(d:b)(h:a->b->q:=by intros;simp(maxSteps:=999999) (disch:=first|assumption|omega) only[go_sem,simprocAttr,au, *]):q:=h c d
def xe{a b c q:Prop}(d:a)(e:b)(g:c)(h:a->b->c->q:=by intros;simp(maxSteps:=999999) (disch:=first|assumption|omega) only[go_sem,simprocAttr,au, *]):q:=h d e g
def xg{a b c d q:Prop}(e:a)(g:b)(i:c)(j:d)(h:a->b->c->d->q:=by intros;simp(maxSteps:=999999) (disch:=first|assumption|omega) only[go_sem,simprocAttr,au, *]):q:=h e g i j
def Sj{a b c d e q:Prop}(g:a)(i:b)(j:c)(k:d)(l:e)(h:a->b->c->d->e->q:=by intros;simp(maxSteps:=999999) (disch:=first|assumption|omega) only[go_sem,simprocAttr,au, *]):q:=h g i j k l
def ye{a b c d e g q:Prop}(i:a)(j:b)(k:c)(l:d)(n:e)(o:g)(h:a->b->c->d->e->g->q:=by intros;simp(maxSteps:=999999) (disch:=first|assumption|omega) only[go_sem,simprocAttr,au, *]):q:=h i j k l n o
def fQ{a b c d e g i q:Prop}(j:a)(k:b)(l:c)(n:d)(o:e)(p:g)(r:i)(h:a->b->c->d->e->g->i->q:=by intros;simp(maxSteps:=999999) (disch:=first|assumption|omega) only[go_sem,simprocAttr,au, *]):q:=h j k l n o p r
def Oq{a b c d e g i j q:Prop}(k:a)(l:b)(n:c)(o:d)(p:e)(r:g)(t:i)(u:j)(h:a->b->c->d->e->g->i->j->q:=by intros;simp(maxSteps:=999999) (disch:=first|assumption|omega) only[go_sem,simprocAttr,au, *]):q:=h k l n o p r t u
def Bs{a b c d e g i j k q:Prop}(l:a)(n:b)(o:c)(p:d)(r:e)(t:g)(u:i)(v:j)(w:k)(h:a->b->c->d->e->g->i->j->k->q:=by intros;simp(maxSteps:=999999) (disch:=first|assumption|omega) only[go_sem,simprocAttr,au, *]):q:=h l n o p r t u v w
def Fa{code}{lib}{f}{nt}{Ua}{body}{bo}(a:code f=some ⟨nt,Ua,body,bo⟩){args}{bx}{oc}{r}(b:args.length<=nt:=by exact qa rfl)
 (h:Uj Ua bx (ma (da code lib) ja body ⟨yh 0 args,oc,[],bx⟩)=some r:=by simp(maxSteps:=999999) (disch:=first|assumption|omega) only[go_sem,simprocAttr,au, *]):da code lib f args bx oc=some r:=la a b h
end Go.Proofs.YtglaihdcndcmkaaGreatDoor
namespace ya
variable {lib:Callee}
def db(c:UInt8):ba->List ba
 |[]=>[[]]
 |x::l=>if x=c then[]::db c l else(match db c l with|p::ps=>(x::p)::ps|[]=>[[x]])
theorem jO{c}:∀{l},Cc c l=none->db c l=[l]
 |[],h=>rfl
 |x::l,h=>by
  simp only[Cc]at h;split at h
  ·cases h
  ·rename_i b
   have a:Cc c l=none:=by simpa using h
   simp only[db,if_neg b,jO a]
theorem lO{c}:∀{l}{i},Cc c l=some i->db c l=l.take i::db c (l.drop (i+1))
 |[],i,h=>by cases h
 |x::l,i,h=>by
  simp only[Cc]at h;split at h
  ·grind [db]
  ·rename_i b
   obtain⟨j,a,rfl⟩:=qm h;simp only[db,if_neg b,lO a,Aw,Zl]
def Io(s w)(k:Nat)(hs:s.length<=1000000000)(e:w.length<=1000000000)(d:k<=1000000000):da code lib 105 [.flat (.string (S s)),.flat (.string (S w)),.flat (.int .i64 (k:Nat))] [] []=some ([.flat (.bool (Tb s w k))],false,[],[]):=by
 refine la ZY (qa rfl) ?_;have c:(0:Int)<=(k:Nat):=aa
 have g:IntKind.i64.wrap ((s.length:Int) - (k:Int))=(s.length:Int) - (k:Int):=wrap64 aa;have i:IntKind.i64.wrap ((k:Int)+(w.length:Int))=((k+w.length:Nat):Int):=by rw[wrap64 aa];rfl
 by_cases h:k<=s.length
 ·have c1:(k:Int)<=s.length:=aa
  by_cases a:w.length<=s.length - k
  ·have c2:(w.length:Int)<=(s.length:Int) - (k:Int):=aa
   have c3:(k:Int)<=((k+w.length:Nat):Int):=aa
   have c4:((k+w.length:Nat):Int)<=s.length:=aa
   have b:=zcR s w k a h;exact va @Tb.eq_1
  ·have c2:¬(w.length:Int)<=(s.length:Int) - (k:Int):=aa
   have b:=zbu (s.drop k) w na;exact va @Tb.eq_1
 ·have c1:¬(k:Int)<=s.length:=aa
  exact va @Tb.eq_1
theorem kO{c}(t:ba):∀p,(∀x∈p,x≠c)->db c (p++c::t)=p::db c t
 |[],h=>by simp[db]
 |y::p,h=>by
  have:=kO t p fun x a=>h x (kn _ a)
  grind [db.eq_2]
theorem nO{c}:∀p,(∀x∈p,x≠c)->db c p=[p]
 |[],h=>rfl
 |y::p,h=>by
  have:=nO p fun x a=>h x (kn _ a)
  grind [db.eq_2]
def Iq(s:ba)(c:UInt8)(q:List ba×Nat)(k:Nat)(x:UInt8):(List ba×Nat) ⊕ (Out×St):=.inl (if x.toNat=c.toNat then(q.1++[(s.take k).drop q.2],k+1)else q)
theorem QI(s:ba)(c)(fin):∀(t:ba)(out)(fr k),s.drop k=t->fr<=k->k<=s.length->(∀x∈(s.take k).drop fr,x≠c)->∃st,Te (Iq s c) fin (out,fr) k t=fin st/\st.1++[s.drop st.2]=out++db c (s.drop fr)/\st.2<=s.length/\st.1.length<=out.length+t.length
 |[],out,fr,k,h,g,i,a=>by
  have b:k=s.length:=by have:=congrArg List.length h;rw[fc]at this;simp at this;omega
  subst b;rw[cm]at a;exact⟨(out,fr),rfl,by rw[nO _ a],aa,ea⟩
 |x::t,out,fr,k,h,g,i,a=>by
  have fa:k<s.length:=by have:=congrArg List.length h;rw[fc]at this;simp at this;omega
  have d:=Pd fa;rw[d]at h;obtain⟨e,ht⟩:=List.cons.inj h;have q:s.take (k+1)=s.take k++[x]:=by rw[oo fa,e]
  have p:s.drop fr=(s.take k).drop fr++x::t:=by
   rw[<-e,<-ht,<-d]
   conv=>lhs;rw[<-wct k s]
   rw[Jw na]
  simp only[Te,Iq];by_cases b:x.toNat=c.toNat
  ·have r:=Xb.1 b
   rw[if_pos b];obtain⟨st,j,l,n,o⟩:=QI s c fin t (out++[(s.take k).drop fr]) (k+1) (k+1) ht (Aa _) fa ea
   grind [kO]
  ·rw[if_neg b]
   obtain⟨st,j,l,n,o⟩:=QI s c fin t out fr (k+1) ht aa fa (by
    grind)
   grind
def Cs(s:ba)(c:UInt8)(q:List ba×Nat)(k:Nat):St:=⟨[(0,.flat (.string (S s))),(1,.flat (.int .u8 c.toNat)),(5,.ia q.1.length (wa q.1)),(6,.flat (.int .i64 (q.2:Nat))),(7,.flat (.int .i64 (k:Nat)))],[.slot 5],[],[]⟩
def hO(s)(c)(hs:s.length<=1000000000):da code lib 129 [.flat (.string (S s)),.flat (.int .u8 c.toNat)] [] []=some ([.ia (db c s).length (wa (db c s))],true,[],[]):=by
 refine la aZ (qa rfl) ?_
 have a:=bk (body:=ma (da code lib) ja MB) (live:=[0,1,5,6,7]) (nb:=0) (Cs s c) s (fun q k=>q.2<=k/\q.1.length<=k)
  (Iq s c) (fun q=>(.exit 0,⟨[(0,.flat (.string (S s))),(5,.ia q.1.length (wa q.1)),(6,.flat (.int .i64 (q.2:Nat)))],[.slot 5],[],[]⟩)) (fun⟨out,fr⟩ k x b g l e=>?_) (fun _ _=>by simp only[Cs,go_sem,simprocAttr]) (fun⟨out,fr⟩ k x a' b _ _ h=>by
    grind [Iq]) (fun _ _ x r h=>by grind [Iq]) (fun⟨out,fr⟩ b=>?_) (fun _=>by simp) ([],0) ⟨Aa _,Aa _⟩ (by grind [ja])
 ·obtain⟨⟨out,fr⟩,e,g,i,j⟩:=QI s c (fun q=>(.exit 0,⟨[(0,.flat (.string (S s))),(5,.ia q.1.length (wa q.1)),(6,.flat (.int .i64 (q.2:Nat)))],[.slot 5],[],[]⟩)) s [] 0 0 rfl (Aa _) (Cb _) ea
  rw[e]at a;simp only[Cs,n0,Ca,wa,Ve]at a;simp only[Ra,yf]at g;have d:out.length+1<=za:=by unfold za;simp only[Ca]at j;omega
  have c1:(0:Int)<=(fr:Nat):=aa
  have c2:(fr:Int)<=s.length:=by dsimp only at i;omega
  have n:(s.take s.length).drop fr=s.drop fr:=by rw[cm]
  have e1:[PV.flat (.string (S (s.drop fr)))]=wa [s.drop fr]:=rfl;have e2:List.map (fun x=>PV.flat (.string (S x))) out=wa out:=rfl;rw[e2]at a;simp only[go_sem,simprocAttr,a,Xa,oh,c1,c2,n,ic,cd,Lf,d]
  grind [tr]
 ·dsimp only at b
  have c1:(k:Int)<s.length:=aa
  have c2:(0:Int)<=(k:Nat):=aa
  have c3:(0:Int)<=(fr:Nat):=aa
  have c4:(fr:Int)<=(k:Nat):=aa
  have c5:(k:Int)<=s.length:=aa
  have i:IntKind.i64.wrap ((k:Int)+1)=((k+1:Nat):Int):=wrap64 aa;have d:out.length+1<=za:=He
  have e1:[PV.flat (.string (S ((s.take k).drop fr)))]=wa [(s.take k).drop fr]:=rfl;have g:((x.toNat:Int)=c.toNat)=(x.toNat=c.toNat):=by apply propext;omega
  by_cases h:x.toNat=c.toNat
  ·have e:=eq_true h
   simp only[lH,Cs,Iq,go_sem,simprocAttr,Xa,hd,oh,ic,l,eh,c1,c2,c3,c4,c5,i,g,e,d,cd,Lf]
   grind [tr]
  ·have e:=eq_false h
   exact xe lH @Cs.eq_1 @Iq.eq_1
 ·dsimp only at b
  have c1:¬(s.length:Int)<s.length:=aa
  exact Kb lH @Cs.eq_1
variable {lib:Callee}
def zb:ba->Nat->Nat->Nat×Bool
 |_,r,0=>(r,true)
 |c::l,r,m+1=>if 128<=c.toNat/\c.toNat<192 then zb l (r* 64+(c.toNat - 128)) m else(0,false)
 |[],_,_+1=>(0,false)
theorem iE:∀(l)(r m),l.length<m->zb l r m=(0,false)
 |l,r,0,h=>by omega
 |[],r,m+1,h=>rfl
 |c::l,r,m+1,h=>by
  simp only[zb];split
  ·exact iE l _ m na
  ·rfl
theorem bQ:∀(l)(r m),(zb l r m).2=false->zb l r m=(0,false)
 |l,r,0,h=>by grind [zb]
 |[],r,m+1,h=>rfl
 |c::l,r,m+1,h=>by
  simp only[zb]at h⊢;split at h
  ·rename_i a;rw[if_pos a];exact bQ l _ m h
  grind
def k0(c:UInt8):(c.toNat&&&192=128) ↔ (128<=c.toNat/\c.toNat<192):=by
 have:=Lj (p:=fun n=>decide ((n&&&192=128) ↔ (128<=n/\n<192))) Fb c
 grind
def o9(c:UInt8)(h:128<=c.toNat/\c.toNat<192):c.toNat&&&63=c.toNat - 128:=by
 have:=Lj (p:=fun n=>decide (128<=n/\n<192->n&&&63=n - 128)) Fb c
 grind
def Es(l:ba)(a r i:Nat):St:=⟨[(0,.flat (.string (S l))),(1,.flat (.int .i32 r)),(13,.flat (.int .i64 a)),(14,.flat (.int .i64 i))],[],[],[]⟩
def Ov(q:Nat×Bool):Out×St:=if q.2 then(.exit 0,⟨[(1,.flat (.int .i32 q.1))],[],[],[]⟩)else(.ret,⟨[(6,.flat (.int .i32 0)),(7,.flat (.bool false))],[],[],[]⟩)
def zeT(l)(b)(A:b<=3)(z:b<=l.length)(r)(hr:r<32):Ac (ma (da code lib) ja Ur) [0,1,13,14] 0 ja (Es l b r 0)=some (Ov (zb l r b)):=by
 have:=Ah (body:=ma (da code lib) ja Ur) (live:=[0,1,13,14]) (nb:=0) (fun a:Nat×Nat=>Es l b a.1 a.2) (fun a=>a.2<=b/\a.1<32* 64^a.2) (fun a=>b - a.2) (fun a=>Ov (zb (l.drop a.2) a.1 (b - a.2))) (fun⟨r,i⟩ ⟨w,hr⟩=>?_) (n:=ja) (a:=(r,0)) ⟨aa,na⟩ (by grind [ja])
 ·grind
 dsimp only at w hr⊢;have x:r<8388608:=by
  have:(64:Nat)^i<=64^3:=Gr aa aa;have d:(64:Nat)^3=262144:=ha
  omega
 by_cases fa:i<b
 ·obtain⟨c,t,ht⟩:∃c t,l.drop i=c::t:=⟨l[i],l.drop (i+1),Pd aa⟩
  have e1:=Vh ht;have y:=c.toNat_lt;have e2:=Em ht;have e3:=k0 c;have e4:wm .u8 (c.toNat:Int) 192=_:=u8_and c.toNat 192 aa aa;have e5:wm .u8 (c.toNat:Int) 63=_:=u8_and c.toNat 63 aa aa;have k:b - i=(b - (i+1))+1:=aa
  by_cases d:128<=c.toNat/\c.toNat<192
  ·right
   have e6:=o9 c d;have h:=e3.2 d;rw[h]at e4;rw[e6]at e5;have p:((128:Nat):Int)=128:=rfl;have o:=rE (r* 64) (c.toNat - 128) aa aa;rw[zab _ _ aa]at o;refine⟨⟨[(0,.flat (.string (S l))),(1,.flat (.int .i32 (r* 64+(c.toNat - 128):Nat))),(13,.flat (.int .i64 b)),(14,.flat (.int .i64 (i+1:Nat)))],[],[],[]⟩,(r* 64+(c.toNat - 128),i+1),?_,rfl,⟨aa,?_⟩,aa,?_⟩
   ·have g:((i:Int)<b):=aa
    have j:(0:Int)<=i:=aa
    have q:IntKind.i32.wrap ((r:Int)* 2^min 6 32)=((r* 64:Nat):Int):=by rw[wrap32 na];simp
    have u:IntKind.i64.wrap ((i:Int)+1)=((i+1:Nat):Int):=wrap64 aa;have v:IntKind.i32.wrap ((c.toNat - 128:Nat):Int)=((c.toNat - 128:Nat):Int):=wrap32 aa;simp only[Ur,Es,go_sem,simprocAttr,g,j,hd,ic,e1,IntKind.bits,e4,e5,q,u,v,o,p]
   ·grind
   grind [zb]
  ·left
   have g:((i:Int)<b):=aa
   have j:(0:Int)<=i:=aa
   have h:¬((c.toNat&&&192:Nat):Int)=128:=fun e=>d (e3.1 aa)
   refine⟨.ret,⟨[(6,.flat (.int .i32 0)),(7,.flat (.bool false))],[],[],[]⟩,?_,ea,?_⟩
   ·simp only[Ur,Es,go_sem,simprocAttr,g,j,hd,ic,e1,IntKind.bits,e4,h]
   ·rw[ht,k];simp only[zb];rw[if_neg d];rfl
 ·left
  have d:i=b:=aa
  subst d;refine⟨.exit 0,⟨[(1,.flat (.int .i32 r))],[],[],[]⟩,?_,ea,by grind [zb,Ov]⟩;have g:¬((i:Int)<i):=aa
  simp only[Ur,Es,go_sem,simprocAttr,g]
def zeS(l)(a:Nat)(g:a<=3)(r:Nat)(hr:r<32):da code lib 275 [.flat (.string (S l)),.flat (.int .i32 r),.flat (.int .i64 a)] [] []=some ([.flat (.int .i32 (zb l r a).1),.flat (.bool (zb l r a).2)],false,[],[]):=by
 refine la d0 (qa rfl) ?_;by_cases e:l.length<a
 ·have d:((l.length:Int)<a):=aa
  rw[iE l r a e];exact sa
 ·have d:¬((l.length:Int)<a):=aa
  have b:=zeT (lib:=lib) l a g aa r hr;simp only[Es,n0]at b;cases c:(zb l r a).2 with
  |true=>
   simp only[Ov,c,if_true]at b;exact sa
  |false=>
   have h:=bQ l r a c;simp only[Ov,c,La,if_false]at b;exact sa
def Ob(n:Nat):Bool:=decide (n<=1114111)&&(decide (n<55296)||decide (57343<n))
def Ny(n:Nat):da code lib 227 [.flat (.int .i32 n)] [] []=some ([.flat (.bool (Ob n))],false,[],[]):=by
 refine la b0 (qa rfl) ?_;have d:(0:Int)<=n:=aa
 by_cases e:n<=1114111<;>by_cases g:n<55296
 all_goals
  have a:((n:Int)<=1114111)=(n<=1114111):=by apply propext;omega
  have b:((n:Int)<55296)=(n<55296):=by apply propext;omega
  have c:((57343:Int)<n)=(57343<n):=by apply propext;omega
  simp only[go_sem,simprocAttr,Ob,d,a,b,c,e,g,Up,Ug]
def dg(r b a:Nat)(l:ba):Nat×Nat:=if(zb l r a).2=true/\b<=(zb l r a).1/\Ob (zb l r a).1=true then((zb l r a).1,a+1)else(65533,1)
def Ta:ba->Nat×Nat
 |[]=>(0,0)
 |c::l=>
  if c.toNat<128 then(c.toNat,1)
  else if 192<=c.toNat/\c.toNat<224 then dg (c.toNat - 192) 128 1 l
  else if 224<=c.toNat/\c.toNat<240 then dg (c.toNat - 224) 2048 2 l
  else if 240<=c.toNat/\c.toNat<248 then dg (c.toNat - 240) 65536 3 l
  else(65533,1)
def O8(c:UInt8)(h:192<=c.toNat/\c.toNat<224):c.toNat&&&31=c.toNat - 192:=by
 have:=Lj (p:=fun n=>decide (192<=n/\n<224->n&&&31=n - 192)) Fb c
 grind
def P8(c:UInt8)(h:224<=c.toNat/\c.toNat<240):c.toNat&&&15=c.toNat - 224:=by
 have:=Lj (p:=fun n=>decide (224<=n/\n<240->n&&&15=n - 224)) Fb c
 grind
def Q8(c:UInt8)(h:240<=c.toNat/\c.toNat<248):c.toNat&&&7=c.toNat - 240:=by
 have:=Lj (p:=fun n=>decide (240<=n/\n<248->n&&&7=n - 240)) Fb c
 grind
def Sm(l:ba):Prop:=l.length<=1000000000000
theorem q4:∀(l)(r m),r<32->m<=3->(zb l r m).1<8388608:=by
 have a:∀(m:Nat)(l:ba)(r k:Nat),r<32* 64^k->m+k<=3->(zb l r m).1<8388608:=by
  intro m
  induction m with
  |zero=>
   grind [Nat,zb]
  |succ m b=>
   intro l r k hr d;cases l with
   |nil=>simp[zb]
   |cons c l=>
    simp only[zb];split
    ·exact b l _ (k+1) aa aa
    ·simp
 exact fun l r m hr e=>a m l r 0 aa aa
def Gz(l)(hs:Sm l)(k)(K:k<=l.length):da code lib 225 [.flat (.string (S l)),.flat (.int .i64 k)] [] []=some ([.flat (.int .i32 (Ta (l.drop k)).1),.flat (.int .i64 (Ta (l.drop k)).2)],false,[],[]):=by
 unfold Sm at hs;refine la XZ (qa rfl) ?_;have q:¬((k:Int)<0):=aa
 by_cases fa:k<l.length
 ·obtain⟨c,t,ht⟩:∃c t,l.drop k=c::t:=⟨l[k],l.drop (k+1),Pd fa⟩
  have e1:=Vh ht;have J:=c.toNat_lt;have e2:=Em ht;have o:¬((l.length:Int)<=k):=aa
  have u:(0:Int)<=k:=aa
  have c1:((c.toNat:Int)<128)=(c.toNat<128):=by apply propext;omega
  have c2:((192:Int)<=c.toNat)=(192<=c.toNat):=by apply propext;omega
  have c3:((c.toNat:Int)<224)=(c.toNat<224):=by apply propext;omega
  have c4:((224:Int)<=c.toNat)=(224<=c.toNat):=by apply propext;omega
  have c5:((c.toNat:Int)<240)=(c.toNat<240):=by apply propext;omega
  have v:((240:Int)<=c.toNat)=(240<=c.toNat):=by apply propext;omega
  have z:((c.toNat:Int)<248)=(c.toNat<248):=by apply propext;omega
  rw[ht];by_cases g:c.toNat<128
  ·have a:IntKind.i32.wrap (c.toNat:Int)=c.toNat:=wrap32 aa
   simp only[go_sem,simprocAttr,Xa,hd,q,o,u,ic,e1,c1,g,a,Ta,n1]
  ·have A:IntKind.i64.wrap ((k:Int)+1)=((k+1:Nat):Int):=wrap64 aa
   have d:(0:Int)<=((k+1:Nat):Int)/\((k+1:Nat):Int)<=l.length:=aa
   have B:(l.take l.length).drop (k+1)=t:=by rw[cm,e2]
   have fin:∀(r b a:Nat),r<32->a<=3->
    (dg r b a t=((zb t r a).1,a+1)/\(zb t r a).2=true/\b<=(zb t r a).1/\Ob (zb t r a).1=true)\/(dg r b a t=(65533,1)/\((zb t r a).2=false\/(zb t r a).2=true/\(¬b<=(zb t r a).1\/b<=(zb t r a).1/\Ob (zb t r a).1=false))):=fun r b a _ _=>by
    grind [dg]
   have F:∀(r b a:Nat),r<32->a<=3->da code lib 275 [.flat (.string (S t)),.flat (.int .i32 r),.flat (.int .i64 a)] [] []=_:=fun r _ a hr I=>zeS (lib:=lib) t a I r hr
   by_cases G:192<=c.toNat/\c.toNat<224
   ·have w:wm .u8 (c.toNat:Int) 31=((c.toNat - 192:Nat):Int):=by rw[<-O8 c G];exact u8_and c.toNat 31 aa aa
    have y:IntKind.i32.wrap ((c.toNat - 192:Nat):Int)=((c.toNat - 192:Nat):Int):=wrap32 aa;have p:=F (c.toNat - 192) 128 1 aa aa;have D:=Ny (lib:=lib) (zb t (c.toNat - 192) 1).1;rw[n1]at p;have E:Ta (c::t)=dg (c.toNat - 192) 128 1 t:=by
     simp only[Ta];rw[if_neg g,if_pos G]
    have lt:(((zb t (c.toNat - 192) 1).1:Int)<128)=¬(128<=(zb t (c.toNat - 192) 1).1):=by apply propext;omega
    have x:(192<=c.toNat)=True:=Ma
    have r2:(c.toNat<224)=True:=Ma
    have i:(224<=c.toNat)=False:=Ma
    have r3:(c.toNat<240)=True:=Ma
    have h:(240<=c.toNat)=False:=Ma
    have r4:(c.toNat<248)=True:=Ma
    rw[E];rcases fin (c.toNat - 192) 128 1 aa aa with⟨j,e,n,C⟩|⟨j,e|⟨e,n|⟨n,C⟩⟩⟩
    ·rw[j];simp only[go_sem,simprocAttr,Xa,hd,oh,q,o,u,ic,e1,c1,c2,c3,c4,c5,v,z,g,x,r2,i,r3,h,r4,w,A,d.1,d.2,B,y,p,e,lt,n,D,C,n2,n3,n4,Ar,Cr,Ct]
    ·rw[j];simp only[go_sem,simprocAttr,Xa,hd,oh,q,o,u,ic,e1,c1,c2,c3,c4,c5,v,z,g,x,r2,i,r3,h,r4,w,A,d.1,d.2,B,y,p,e,n1,mj]
    ·rw[j];simp only[go_sem,simprocAttr,Xa,hd,oh,q,o,u,ic,e1,c1,c2,c3,c4,c5,v,z,g,x,r2,i,r3,h,r4,w,A,d.1,d.2,B,y,p,e,lt,n,n1,mj]
    ·rw[j];simp only[go_sem,simprocAttr,Xa,hd,oh,q,o,u,ic,e1,c1,c2,c3,c4,c5,v,z,g,x,r2,i,r3,h,r4,w,A,d.1,d.2,B,y,p,e,lt,n,D,C,n1,mj]
   by_cases a3:224<=c.toNat/\c.toNat<240
   ·have w:wm .u8 (c.toNat:Int) 15=((c.toNat - 224:Nat):Int):=by rw[<-P8 c a3];exact u8_and c.toNat 15 aa aa
    have y:IntKind.i32.wrap ((c.toNat - 224:Nat):Int)=((c.toNat - 224:Nat):Int):=wrap32 aa;have p:=F (c.toNat - 224) 2048 2 aa aa;have D:=Ny (lib:=lib) (zb t (c.toNat - 224) 2).1;rw[n2]at p;have E:Ta (c::t)=dg (c.toNat - 224) 2048 2 t:=by
     simp only[Ta];rw[if_neg g,if_neg aa,if_pos a3]
    have lt:(((zb t (c.toNat - 224) 2).1:Int)<2048)=¬(2048<=(zb t (c.toNat - 224) 2).1):=by apply propext;omega
    have x:(192<=c.toNat)=True:=Ma
    have r2:(c.toNat<224)=False:=Ma
    have i:(224<=c.toNat)=True:=Ma
    have r3:(c.toNat<240)=True:=Ma
    have h:(240<=c.toNat)=False:=Ma
    have r4:(c.toNat<248)=True:=Ma
    rw[E];rcases fin (c.toNat - 224) 2048 2 aa aa with⟨j,e,n,C⟩|⟨j,e|⟨e,n|⟨n,C⟩⟩⟩
    ·rw[j];simp only[go_sem,simprocAttr,Xa,hd,oh,q,o,u,ic,e1,c1,c2,c3,c4,c5,v,z,g,x,r2,i,r3,h,r4,w,A,d.1,d.2,B,y,p,e,lt,n,D,C,n2,n3,n4,Ar,Cr,Ct]
    ·rw[j];simp only[go_sem,simprocAttr,Xa,hd,oh,q,o,u,ic,e1,c1,c2,c3,c4,c5,v,z,g,x,r2,i,r3,h,r4,w,A,d.1,d.2,B,y,p,e,n1,mj]
    ·rw[j];simp only[go_sem,simprocAttr,Xa,hd,oh,q,o,u,ic,e1,c1,c2,c3,c4,c5,v,z,g,x,r2,i,r3,h,r4,w,A,d.1,d.2,B,y,p,e,lt,n,n1,mj]
    ·rw[j];simp only[go_sem,simprocAttr,Xa,hd,oh,q,o,u,ic,e1,c1,c2,c3,c4,c5,v,z,g,x,r2,i,r3,h,r4,w,A,d.1,d.2,B,y,p,e,lt,n,D,C,n1,mj]
   by_cases a4:240<=c.toNat/\c.toNat<248
   ·have w:wm .u8 (c.toNat:Int) 7=((c.toNat - 240:Nat):Int):=by rw[<-Q8 c a4];exact u8_and c.toNat 7 aa aa
    have y:IntKind.i32.wrap ((c.toNat - 240:Nat):Int)=((c.toNat - 240:Nat):Int):=wrap32 aa;have p:=F (c.toNat - 240) 65536 3 aa aa;have D:=Ny (lib:=lib) (zb t (c.toNat - 240) 3).1;rw[n3]at p;have E:Ta (c::t)=dg (c.toNat - 240) 65536 3 t:=by
     simp only[Ta];rw[if_neg g,if_neg aa,if_neg aa,if_pos a4]
    have lt:(((zb t (c.toNat - 240) 3).1:Int)<65536)=¬(65536<=(zb t (c.toNat - 240) 3).1):=by apply propext;omega
    have x:(192<=c.toNat)=True:=Ma
    have r2:(c.toNat<224)=False:=Ma
    have i:(224<=c.toNat)=True:=Ma
    have r3:(c.toNat<240)=False:=Ma
    have h:(240<=c.toNat)=True:=Ma
    have r4:(c.toNat<248)=True:=Ma
    rw[E];rcases fin (c.toNat - 240) 65536 3 aa aa with⟨j,e,n,C⟩|⟨j,e|⟨e,n|⟨n,C⟩⟩⟩
    ·rw[j];simp only[go_sem,simprocAttr,Xa,hd,oh,q,o,u,ic,e1,c1,c2,c3,c4,c5,v,z,g,x,r2,i,r3,h,r4,w,A,d.1,d.2,B,y,p,e,lt,n,D,C,n2,n3,n4,Ar,Cr,Ct]
    ·rw[j];simp only[go_sem,simprocAttr,Xa,hd,oh,q,o,u,ic,e1,c1,c2,c3,c4,c5,v,z,g,x,r2,i,r3,h,r4,w,A,d.1,d.2,B,y,p,e,n1,mj]
    ·rw[j];simp only[go_sem,simprocAttr,Xa,hd,oh,q,o,u,ic,e1,c1,c2,c3,c4,c5,v,z,g,x,r2,i,r3,h,r4,w,A,d.1,d.2,B,y,p,e,lt,n,n1,mj]
    ·rw[j];simp only[go_sem,simprocAttr,Xa,hd,oh,q,o,u,ic,e1,c1,c2,c3,c4,c5,v,z,g,x,r2,i,r3,h,r4,w,A,d.1,d.2,B,y,p,e,lt,n,D,C,n1,mj]
   have E:Ta (c::t)=(65533,1):=by
    simp only[Ta];rw[if_neg g,if_neg G,if_neg a3,if_neg a4]
   rw[E];have h:(240<=c.toNat/\c.toNat<248)=False:=Ma
   by_cases H:192<=c.toNat
   ·have r2:¬c.toNat<224:=aa
    have i:224<=c.toNat:=aa
    have r3:¬c.toNat<240:=aa
    have h:240<=c.toNat:=aa
    have r4:¬c.toNat<248:=aa
    simp only[go_sem,simprocAttr,Xa,hd,q,o,u,ic,e1,c1,c2,c3,c4,c5,v,z,g,H,r2,i,r3,h,r4,n1,mj]
   ·have i:¬224<=c.toNat:=aa
    have h:¬240<=c.toNat:=aa
    simp only[go_sem,simprocAttr,Xa,hd,q,o,u,ic,e1,c1,c2,c4,v,g,H,i,h,n1,mj]
 ·have a:k=l.length:=aa
  subst a;have o:((l.length:Int)<=l.length):=aa
  simp only[go_sem,simprocAttr,Xa,q,o,Vp,Ta,n0]
def we(n:Nat):List Nat:=
 if n<128 then[n]
 else if n<2048 then[192+n/64,128+n % 64]
 else if n<65536 then[224+n/4096,128+n/64 % 64,128+n % 64]
 else[240+n/262144,128+n/4096 % 64,128+n/64 % 64,128+n % 64]
def Ka(n:Nat):ba:=(we (if Ob n then n else 65533)).map UInt8.ofNat
def X_(x)(h:x<64):128|||x=128+x:=by
 have:=Lj (p:=fun n=>decide (n<64->128|||n=128+n)) Fb (UInt8.ofNat x);have a:(UInt8.ofNat x).toNat=x:=Ma
 grind
def Y_(x)(h:x<32):192|||x=192+x:=by
 have:=Lj (p:=fun n=>decide (n<32->192|||n=192+n)) Fb (UInt8.ofNat x);have a:(UInt8.ofNat x).toNat=x:=Ma
 grind
def Z_(x)(h:x<16):224|||x=224+x:=by
 have:=Lj (p:=fun n=>decide (n<16->224|||n=224+n)) Fb (UInt8.ofNat x);have a:(UInt8.ofNat x).toNat=x:=Ma
 grind
def zaa(x)(h:x<8):240|||x=240+x:=by
 have:=Lj (p:=fun n=>decide (n<8->240|||n=240+n)) Fb (UInt8.ofNat x);have a:(UInt8.ofNat x).toNat=x:=Ma
 grind
def rm(n:Nat)(h:n<2147483648):wm .i32 (n:Int) 63=((n % 64:Nat):Int):=by
 have a:=I4 n 63 h aa;have b:=Jt n 6
 grind
def Wv(n:Nat):(n:Int).fdiv (2^(min 6 32))=((n/64:Nat):Int):=by
 grind
def Gv(x:Nat)(h:x<64):Fg .u8 128 (x:Int)=((128+x:Nat):Int):=by rw[<-X_ x h];exact u8_or 128 x aa aa
def sh1:IntKind.u8.wrap (255* 2^min 6 8)=192:=ha
def sU:IntKind.u8.wrap (255* 2^min 5 8)=224:=ha
def sh3:IntKind.u8.wrap (255* 2^min 4 8)=240:=ha
def es(n:Nat)(u:n<2147483648):da code lib 159 [.flat (.int .i32 n)] [] []=some ([.flat (.string (S (Ka n)))],false,[],[]):=by
 refine la WZ (qa rfl) ?_;have b:=Ny (lib:=lib) n;cases g:Ob n with
 |true=>
  rw[g]at b;have t:n<=1114111:=by simp only[Ob,bc,decide_eq_true_eq]at g;exact g.1
  have c1:((65536:Int)<=n)=(65536<=n):=by apply propext;omega
  have c2:((2048:Int)<=n)=(2048<=n):=by apply propext;omega
  have c3:((128:Int)<=n)=(128<=n):=by apply propext;omega
  have a0:=rm n u;have j:=rm (n/64) aa;have r:=rm (n/64/64) aa;have i:=Wv n;have s1:=Wv (n/64);have w:=Wv (n/64/64);have h:=Gv (n % 64) aa;have l:=Gv (n/64 % 64) aa;have v:=Gv (n/64/64 % 64) aa;have v0:IntKind.u8.wrap ((n % 64:Nat):Int)=((n % 64:Nat):Int):=Fj aa;have p:IntKind.u8.wrap ((n/64 % 64:Nat):Int)=((n/64 % 64:Nat):Int):=Fj aa;have q:IntKind.u8.wrap ((n/64/64 % 64:Nat):Int)=((n/64/64 % 64:Nat):Int):=Fj aa;simp only[Ka,g,if_true];by_cases o:65536<=n
  ·have k:2048<=n:=aa
   have e:128<=n:=aa
   have c:IntKind.u8.wrap ((n/64/64/64:Nat):Int)=((n/64/64/64:Nat):Int):=Fj aa;have d:Fg .u8 240 ((n/64/64/64:Nat):Int)=((240+n/64/64/64:Nat):Int):=by rw[<-zaa _ aa];exact u8_or 240 _ aa aa
   have a:we n=[240+n/64/64/64,128+n/64/64 % 64,128+n/64 % 64,128+n % 64]:=by
    unfold we;rw[if_neg aa,if_neg aa,if_neg aa];simp only[Nat.div_div_eq_div_mul]
   rw[a];simp(disch:=omega) only[go_sem,simprocAttr,b,c1,c2,c3,o,k,e,PA,Ar,Cr,Ct,OA,Rc,ec,Xz,pc,Ec,a0,j,r,i,s1,w,h,l,v,v0,p,q,c,d,sh3,IntKind.bits,Oo,Po,bf,gc,Ve]
  ·by_cases k:2048<=n
   ·have e:128<=n:=aa
    have c:IntKind.u8.wrap ((n/64/64:Nat):Int)=((n/64/64:Nat):Int):=Fj aa;have d:Fg .u8 224 ((n/64/64:Nat):Int)=((224+n/64/64:Nat):Int):=by rw[<-Z_ _ aa];exact u8_or 224 _ aa aa
    have a:we n=[224+n/64/64,128+n/64 % 64,128+n % 64]:=by
     unfold we;rw[if_neg aa,if_neg aa,if_pos aa];simp only[Nat.div_div_eq_div_mul]
    rw[a];simp(disch:=omega) only[go_sem,simprocAttr,b,c1,c2,c3,o,k,e,PA,Ar,Cr,Ct,PI,OA,Rc,ec,Xz,pc,Ec,a0,j,i,s1,h,l,v0,p,c,d,sU,IntKind.bits,Oo,Po,bf,gc,Ve]
   ·by_cases e:128<=n
    ·have c:IntKind.u8.wrap ((n/64:Nat):Int)=((n/64:Nat):Int):=Fj aa
     have d:Fg .u8 192 ((n/64:Nat):Int)=((192+n/64:Nat):Int):=by rw[<-Y_ _ aa];exact u8_or 192 _ aa aa
     have a:we n=[192+n/64,128+n % 64]:=by
      unfold we;rw[if_neg aa,if_pos aa]
     rw[a];simp(disch:=omega) only[go_sem,simprocAttr,b,c1,c2,c3,o,k,e,PA,Ar,Cr,Ct,PI,zfx,OA,Rc,ec,Xz,pc,Ec,a0,i,h,v0,c,d,sh1,IntKind.bits,Oo,Po,bf,gc,Ve]
    ·have c:IntKind.u8.wrap (n:Int)=(n:Int):=Fj aa
     have a:we n=[n]:=by unfold we;rw[if_pos aa]
     rw[a];simp(disch:=omega) only[go_sem,simprocAttr,b,c1,c2,c3,o,k,e,c,Oo,Po,bf,gc,Ve]
 |false=>
  rw[g]at b;have a:Ka n=[239,191,189]:=by unfold Ka;rw[g];simp only[La,if_false];decide
  rw[a];have a0:=rm 65533 aa;have j:=rm (65533/64) aa;have i:=Wv 65533;have s1:=Wv (65533/64);have h:=Gv (65533 % 64) aa;have l:=Gv (65533/64 % 64) aa;have v0:IntKind.u8.wrap 61=61:=ha
  have p:IntKind.u8.wrap 63=63:=ha
  have q:IntKind.u8.wrap 15=15:=ha
  have d:Fg .u8 224 15=239:=ha
  simp only[ZA,Nat.reduceDiv,Nat.reduceMod,Nat.reduceAdd]at a0 j i s1 h l;have c:bytesOf [.flat (.int .u8 239),.flat (.int .u8 191),.flat (.int .u8 189)]=some [239,191,189]:=ha
  simp only[go_sem,simprocAttr,b,PA,Ar,Cr,PI,OA,Rc,ec,Xz,pc,Ec,a0,j,i,s1,h,l,v0,p,q,d,sU,IntKind.bits,c,bf]
theorem Bq(c)(l:ba):1<=(Ta (c::l)).2/\(Ta (c::l)).2<=4:=by
 grind [dg,Ta]
def jl:Nat->ba->List (Nat×Nat)
 |0,_=>[]
 |_+1,[]=>[]
 |n+1,c::l=>Ta (c::l)::jl n ((c::l).drop (Ta (c::l)).2)
def ff(l:ba):List (Nat×Nat):=jl l.length l
theorem zco:∀(n)(l),l.length<=n->jl n l=ff l:=by
 have a:∀(n m:Nat)(l:ba),l.length<=n->l.length<=m->jl n l=jl m l:=by
  intro n
  induction n with
  |zero=>intro m l b d;have:l=[]:=qz aa;subst this;cases m<;>rfl
  |succ n e=>
   intro m l b d;cases l with
   |nil=>grind
   |cons c l=>
    cases m<;>grind [Bq,jl]
 exact fun n l h=>a n _ l h (Aa _)
theorem cI:ff []=[]:=rfl
theorem Rv(c)(l:ba):ff (c::l)=Ta (c::l)::ff ((c::l).drop (Ta (c::l)).2):=by
 grind [Bq,ff.eq_1,jl.eq_3,zco]
theorem wD:∀(l),(Ta l).2<=l.length:=by
 have a:∀(l:ba)(r m:Nat),(zb l r m).2=true->m<=l.length:=fun l r m h=>by
  grind [iE]
 intro l;cases l<;>grind [Ta,dg]
theorem Aq:∀(l),(Ta l).1<8388608:=by
 intro l;cases l<;>grind [Ta,dg,q4]
def yB{α}(l)(hs:Sm l)(BX:α->Oa)(oc:α->List (Nat×Nat))(step)(I:α->Nat->Prop)(b p nb)(v:∀a k,I a k->(BX a)[p]?=some (9,[.flat (.string (S l))]))(e:∀a,(BX a).length=nb)(r:∀a,∀q∈oc a,q.1<nb)
 (C:∀a k q,I a k->k<l.length->Ta (l.drop k)=q->1<=q.2->k+q.2<=l.length->(step a q).2=true->I (step a q).1 (k+q.2))
 (D:∀a k q,I a k->k<l.length->Ta (l.drop k)=q->k+q.2<=l.length->q.1<8388608->q.2<=4->da code lib kb [.Sa b,.flat (.int .i32 (q.1:Nat)),.flat (.int .i64 (q.2:Nat))] (BX a) (cl (oc a))=some ([.flat (.bool (step a q).2)],false,BX (step a q).1,cl (oc (step a q).1))) (a) (u:I a 0):
 da code lib 224 [.Sa b,.ptr p 0] (BX a) (cl (oc a))=some ([],false,BX (Je step a (ff l)).1,cl (oc (Je step a (ff l)).1)):=by
 refine la ZZ (qa rfl) ?_
 have d:=Ah (body:=ma (da code lib) ja yC) (live:=[0,1,3]) (nb:=nb) (fun q:α×Nat=>(⟨[(0,.Sa b),(1,.ptr p 0),(3,.flat (.int .i64 (q.2:Nat)))],cl (oc q.1),[],BX q.1⟩:St)) (fun q=>I q.1 q.2/\q.2<=l.length) (fun q=>l.length - q.2)
  (fun q=>(if(Je step q.1 (ff (l.drop q.2))).2 then .exit 0 else .ret,⟨[],cl (oc (Je step q.1 (ff (l.drop q.2))).1),[],BX (Je step q.1 (ff (l.drop q.2))).1⟩)) (fun⟨a,k⟩ ⟨u,A⟩=>?_) (n:=ja) (a:=(a,0)) ⟨u,Cb _⟩ (by grind [Sm,ja])
 ·have j:=e a
  have o:=e (Je step a (ff l)).1;have g:((0:Nat):Int)=0:=rfl;simp only[yf,g]at d;by_cases hf:(Je step a (ff l)).2=true
  ·simp only[hf,if_true]at d
   simp only[go_sem,simprocAttr,Hb,sb,Gb,Eb,Ce j,j,ub _ (r _),d,o,Ce o]
  ·simp only[hf,La,if_false]at d
   simp only[go_sem,simprocAttr,Hb,sb,Gb,Eb,Ce j,j,ub _ (r _),d,o,Ce o]
 ·unfold Sm at hs
  dsimp only at u A⊢;have z:=v a k u;have j:=e a;have F:(0:Int)<=k:=aa
  have e1:=Gz (lib:=lib) l hs k A;by_cases fa:k<l.length
  ·obtain⟨c,t,ht⟩:∃c t,l.drop k=c::t:=⟨l[k],l.drop (k+1),Pd fa⟩
   have y:((k:Int)<l.length):=aa
   have i:=Bq c t;have w:=wD (l.drop k);rw[fc]at w;have x:(Ta (l.drop k)).1<8388608:=Aq _;have hr:ff (l.drop k)=Ta (l.drop k)::ff (l.drop (k+(Ta (l.drop k)).2)):=by
    rw[<-yd,ht,Rv]
   rw[<-ht]at i;have h:=D a k (Ta (l.drop k)) u fa rfl aa x i.2;obtain⟨q,B⟩:∃q,Ta (l.drop k)=q:=⟨_,rfl⟩;rw[B]at e1 h hr w i;rw[hr];have o:=e (step a q).1;have E:IntKind.i64.wrap ((k:Int)+(q.2:Nat))=((k+q.2:Nat):Int):=wrap64 aa;simp only[Je];by_cases g:(step a q).2=true
   ·right
    rw[g]at h;refine⟨⟨[(0,.Sa b),(1,.ptr p 0),(3,.flat (.int .i64 ((k+q.2:Nat):Int)))],cl (oc (step a q).1),[],BX (step a q).1⟩,((step a q).1,k+q.2),?_,?_,⟨C a k q u fa B i.1 aa g,aa⟩,aa,?_⟩
    ·simp only[zH,go_sem,simprocAttr,Hb,sb,Gb,Eb,Nb,z,Xa,y,e1,h,E,j,o,zc]
    ·simp only[go_sem,simprocAttr,Hb,sb,Ce o,o,ub _ (r _)]
    simp_all
   ·left
    have g:(step a q).2=false:=by simpa using g
    rw[g]at h;refine⟨.ret,⟨[],cl (oc (step a q).1),[],BX (step a q).1⟩,?_,ea,?_⟩
    ·simp only[zH,go_sem,simprocAttr,Hb,sb,Gb,Eb,Nb,z,Xa,y,e1,h,j,zc]
    grind
  ·left
   have g:k=l.length:=aa
   subst g;have y:¬((l.length:Int)<l.length):=aa
   refine⟨.exit 0,⟨[],cl (oc a),[],BX a⟩,?_,ea,?_⟩
   ·simp only[zH,go_sem,simprocAttr,Hb,sb,Gb,Eb,Nb,z,Xa,y,j]
   grind [cI,Je]
def vB(l)(bx)(oc)(h:∀q∈oc,q.1<bx.length):da code lib 155 [.flat (.string (S l))] bx (cl oc)=some ([.ib 224 [.ptr bx.length 0]],false,bx++[(9,[.flat (.string (S l))])],cl oc):=by
 refine la YZ (qa rfl) ?_;have b:∀q∈oc,q.1<(bx++[(9,[PV.flat (.string (S l))])]).length:=fun q a=>by have:=h q a;simp;omega
 have c:¬(bx.length+1=bx.length):=aa
 have d:qc (bx.length+1) (cl oc)=cl oc:=ub _ fun q a=>by grind
 exact Kb @Ba.{0} @Nat.lt_irrefl
def xB(l)(bx):da code lib 155 [.flat (.string (S l))] bx []=some ([.ib 224 [.ptr bx.length 0]],false,bx++[(9,[.flat (.string (S l))])],[]):=vB l bx [] ea
def Qd(q:Nat×Nat):Bool:=decide (q.1=65533/\q.2=1)
def Sh(l:ba):Bool:=(ff l).all fun q=>!Qd q
def go(a:Bool)(q:Nat×Nat):Bool×Bool:=if Qd q then(true,false)else(a,true)
def No(l:ba)(a:Bool):Oa:=[(4,[.flat (.bool false)]),(9,[.flat (.string (S l))]),(0,[.lp 92 0 (if a then .done .ret else .ready) [2] [.ptr 0 0]])]
def foldI(L):Je go false L=(!(L.all fun q=>!Qd q),L.all fun q=>!Qd q):=by
 induction L<;>grind [Je,go]
def K5(l)(q)(d:q.1<8388608)(e:q.2<=4):da code lib kb [.Sa 2,.flat (.int .i32 (q.1:Nat)),.flat (.int .i64 (q.2:Nat))] (No l false) []=some ([.flat (.bool (go false q).2)],false,No l (go false q).1,[]):=by
 refine ep Wo XN rfl rfl rfl ?_;by_cases c1:q.1=65533
 ·have a:((q.1:Nat):Int)=65533:=aa
  by_cases c2:q.2=1
  ·have b:((q.2:Nat):Int)=1:=aa
   have c:Qd q=true:=by simp[Qd,c1,c2]
   simp only[Ky,Hy,No,go,c,a,b,go_sem,simprocAttr]
  ·have b:¬((q.2:Nat):Int)=1:=aa
   have c:Qd q=false:=by simp[Qd,c2]
   simp only[Ky,Hy,No,go,c,a,b,go_sem,simprocAttr]
 ·have a:¬((q.1:Nat):Int)=65533:=aa
  have c:Qd q=false:=by simp[Qd,c1]
  simp only[Ky,Hy,No,go,c,a,go_sem,simprocAttr]
def OQ(l)(hs:Sm l):da code lib 92 [.flat (.string (S l))] [] []=some ([.flat (.bool (Sh l))],false,[],[]):=by
 refine la XN (qa rfl) ?_;have b:=yB (lib:=lib) l hs (No l) (fun _=>[]) go (fun a _=>a=false) 2 1 3 (fun a _ _=>rfl) (fun a=>rfl) (fun a q i=>by cases i) (fun a k q d _ _ _ _ j=>by
  grind [go]) (fun a k q d _ _ _ g h=>by subst d;exact K5 l q g h) false rfl
 rw[foldI]at b;simp only[Am]at b;have n:=fun bx=>xB (lib:=lib) l bx
 cases e:Sh l with
 |true=>
  have c:((ff l).all fun q=>!Qd q)=true:=e;simp only[c,No,am,La,if_false]at b;exact sa
 |false=>
  have c:((ff l).all fun q=>!Qd q)=false:=e;simp only[c,No,gn,La,if_false,if_true]at b;exact sa
def Wd(l:List Nat):List PV:=l.map fun r=>.flat (.int .i32 (r:Nat))
def OH{l}:(Wd l).length=l.length:=by simp[Wd]
theorem zbK{a b}:Wd a++Wd b=Wd (a++b):=by simp[Wd]
theorem ET:∀a,sd (Wd a)=true
 |[]=>rfl
 |c::a=>by show sd (.flat (.int .i32 (c:Nat))::Wd a)=true;rw[zv,ET a];rfl
theorem DT{n}:∀a,Ia n (Wd a)=true
 |[]=>rfl
 |c::a=>by show Ia n (.flat (.int .i32 (c:Nat))::Wd a)=true;simp only[Ia,PV.low,DT a,od]
def ds(l:ba)(out:List Nat):Oa:=[(278,[.ia out.length (Wd out)]),(9,[.flat (.string (S l))]),(0,[.lp 231 0 .ready [3] [.ptr 0 0]])]
def CA(out:List Nat)(q:Nat×Nat):List Nat×Bool:=(out++[q.1],true)
theorem BP:∀(L)(out),Je CA out L=(out++L.map (·.1),true)
 |[],out=>by simp[Je]
 |q::L,out=>by simp only[Je,CA,if_true];rw[BP L];simp
def zcp(l)(out)(q:Nat×Nat)(c:out.length<4294967296):da code lib kb [.Sa 2,.flat (.int .i32 (q.1:Nat)),.flat (.int .i64 (q.2:Nat))] (ds l out) [.cell 0 0]=some ([.flat (.bool true)],false,ds l (out++[q.1]),[.cell 0 0]):=by
 refine ep Wo YN rfl rfl rfl ?_;have a:out.length+1<=za:=He
 have b:[PV.flat (.int .i32 (q.1:Nat))]=Wd [q.1]:=rfl;simp only[mQ,WP,ds,go_sem,simprocAttr,OH,ET,a,Nat.mul_one]
 grind [zbK]
def Gd(l:ba):List Nat:=(ff l).map (·.1)
def gU(l)(hs:l.length<4294967296):da code lib 231 [.flat (.string (S l))] [] []=some ([.ia (Gd l).length (Wd (Gd l))],false,[],[]):=by
 refine la YN (qa rfl) ?_;have b:=yB (lib:=lib) l (by grind [Sm]) (ds l) (fun _=>[(0,0)]) CA (fun out k=>out.length<=k) 2 1 3 (fun a _ _=>rfl) (fun a=>rfl) (fun a q n=>by grind) (fun a k q i _ _ g _ _=>by grind [CA]) (fun a k q i j _ g _ _=>zcp l a q aa) [] (Cb _);rw[BP]at b;have e:cl [(0,0)]=[.cell 0 0]:=rfl;simp only[e,Ra]at b;have d:=fun bx h=>vB (lib:=lib) l bx [(0,0)] h
 simp only[e]at d;have c:da code lib 224 [.Sa 2,.ptr 1 0] [(278,[.ia 0 []]),(9,[.flat (.string (S l))]),(0,[.lp 231 0 .ready [3] [.ptr 0 0]])] [.cell 0 0]=some ([],false,ds l (Gd l),[.cell 0 0]):=b;have e1:=d [(278,[.ia 0 []])] ea;simp only[go_sem,simprocAttr]at e1;have e2:=xB (lib:=lib) l [];simp only[go_sem,simprocAttr]at e2;exact Kb @ds.eq_1 @DT
end ya
namespace Go.Proofs.YtglaihdcndcmkaaGreatDoor
def FU:(Tryz.prog.info? 101).map (·.size)=some 2:=ca
set_option maxRecDepth 100000 in
def dY(b o)(w)(c:w.cell? ⟨b,o,none⟩=some (.pointer (some ⟨b,o,none⟩))):
 Calls Tryz.prog 93 #[.pointer (some ⟨b,o,none⟩)] w fun e w'=>e=.returned (.tuple #[])/\w'=w:=by
 obtain⟨j,a,_⟩:=qm FU
 go_enter Tryz.func93,Tryz.ntmps93
 go_wp2;rw[Lib.run_neq_ptr_same w _ Tryz.underlying98 a];go_wp2
 go_end0
 simp
set_option maxRecDepth 100000 in
def bY(b o e cells:Nat)(w:World)(l:w.cell? ⟨b,o,none⟩=some (.pointer none))(a:w.shape? b=some (e,cells))(k:o<cells)(i:liesAt Tryz.prog Tryz.prog.depth e (cells/Tryz.prog.cellsOf e) o 101 1=true)(h:w.frozen? ⟨b,o,none⟩=false):
 Calls Tryz.prog 93 #[.pointer (some ⟨b,o,none⟩)] w fun e w'=>e=.returned (.tuple #[])/\w'=w.setCell ⟨b,o,none⟩ (.pointer (some ⟨b,o,none⟩)):=by
 obtain⟨j,d,c⟩:=qm FU;have g:(w.setCell ⟨b,o,none⟩ (.pointer (some ⟨b,o,none⟩))).cell? ⟨b,o,none⟩=some (.pointer (some ⟨b,o,none⟩)):=World.cell?_setCell_same' _ _ _ na
 go_enter Tryz.func93,Tryz.ntmps93
 go_wp2;rw[Lib.run_to_unsafe w ⟨b,o,none⟩ Tryz.underlying98 Tryz.underlying230 d (by rw[c];decide) a k];simp only[Result.andThen];rw[Kt];go_wp2;rw[run_callFunc_extern Tryz.func156 ca ca ca (e:=Extern.AbiNoEscape.same) ca];rw[Lib.run_noEscape];simp only[Result.andThen];rw[Kt];go_wp2;rw[Lib.run_from_unsafe w ⟨b,o,none⟩ Tryz.underlying230 Tryz.underlying98 d a i];simp only[Result.andThen];rw[Kt];go_wp2
 go_end0
 simp
def Tt(w:World)(g n:Nat)(w':World):Prop:=w'.heap=(w.freeze ⟨g,0,none⟩ n).heap/\w'.os=w.os/\w'.tape=w.tape/\w'.output=w.output
set_option maxRecDepth 100000 in
def zee(b o g a cells)(l)(w)(i:l≠[])(c:a≠0)(h:w.cell? ⟨b,o+1,none⟩=some (.slice (some ⟨g,0,none⟩) l.length a))(d:w.shape? g=some (5,cells))(p:l.length<=cells)(hmx:l.length<=maxLen)(Ub:∀j x,l[j]?=some x->w.cell? ((⟨g,0,none⟩:Addr).add j)=some (.int .u8 x.toNat)):
 Calls Tryz.prog 46 #[.pointer (some ⟨b,o,none⟩)] w fun e w'=>e=.returned (.string ⟨l.toArray⟩)/\Tt w g l.length w':=by
 have c1:=h;have k:(Builtin.unsafeSliceData_ #[99] 170 #[.slice (some ⟨g,0,none⟩) l.length a]).run Tryz.prog w.drew=.ok (.pointer (some ⟨g,0,none⟩)) w.drew:=
  Lib.run_unsafeSliceData_row _ _ _ _ _ _ c
 have n:(Builtin.unsafeString_ #[170,3] 9 #[.pointer (some ⟨g,0,none⟩),.int .i64 l.length]).run Tryz.prog w.drew=.ok (.string ⟨l.toArray⟩) (w.drew.freeze ⟨g,0,none⟩ l.length):=
  Lib.run_unsafeString_row w.drew 170 3 9 5 Tryz.underlying170 ca g cells d l i p (by unfold maxLen at hmx;omega) Ub
 have q:Tt w g l.length (w.drew.freeze ⟨g,0,none⟩ l.length):=by
  refine⟨?_,?_,?_,?_⟩<;>unfold World.freeze<;>(have:w.drew.heap=w.heap:=rfl)<;>rw[this]<;>split<;>rfl
 have mixed:=Tryz.checked.mixed
 go_enter Tryz.func46,Tryz.ntmps46
 go_wp2
 go_region_o
 all_goals (go_wp2;go_ret;simp_all)
set_option maxRecDepth 100000 in
def zec(b o)(w)(a:w.cell? ⟨b,o+1,none⟩=some (.slice none 0 0)):
 Calls Tryz.prog 46 #[.pointer (some ⟨b,o,none⟩)] w fun e w'=>e=.returned (.string ⟨#[]⟩)/\Below w.heap.size w w':=by
 have c1:=a;have d:=fun(W:World)(q:Option Addr)=>Lib.run_unsafeString_none (P:=Tryz.prog) W 170 3 9 q
 have c:(Builtin.unsafeSliceData_ #[99] 170 #[.slice none 0 0]).run Tryz.prog w.drew=.ok (.pointer none) w.drew:=rfl;have mixed:=Tryz.checked.mixed
 go_enter Tryz.func46,Tryz.ntmps46
 go_wp2
 go_region_o
 all_goals (go_wp2;go_ret;exact⟨rfl,Below.drew (Below.refl _ w)⟩)
set_option maxRecDepth 100000 in
def zef(b o g e cells:Nat)(w:World)(c:w.cell? ⟨b,o+1,none⟩=some (.slice (some ⟨g,0,none⟩) 0 0))(fa:b<w.heap.size)(a:w.shape? g=some (e,cells)):
 Calls Tryz.prog 46 #[.pointer (some ⟨b,o,none⟩)] w fun e w'=>e=.returned (.string ⟨#[]⟩)/\Below w.heap.size w w':=by
 have h:=fun(W:World)(q:Option Addr)=>Lib.run_unsafeString_none (P:=Tryz.prog) W 170 3 9 q
 have c1:=c;have d:(Builtin.unsafeSliceData_ #[99] 170 #[.slice (some ⟨g,0,none⟩) 0 0]).run Tryz.prog w.drew=.ok (.pointer (some ⟨w.drew.heap.size,0,none⟩)) (w.drew.alloc (.view ⟨g,0,none⟩ 5)):=
  Lib.run_unsafeSliceData_zero w.drew _ _ 5 Tryz.underlying170 ⟨g,0,none⟩ 0 (e,cells) a
 have c2:(w.drew.alloc (.view ⟨g,0,none⟩ 5)).cell? ⟨b,o+1,none⟩=some (.slice (some ⟨g,0,none⟩) 0 0):=by
  have i:(w.drew.alloc (.view ⟨g,0,none⟩ 5)).heap[b]?=w.heap[b]?:=Lib.alloc_old w.drew _ b fa;rw[<-c];simp only[World.cell?,i]
 have c3:(w.alloc (.view ⟨g,0,none⟩ 5)).drew.cell? ⟨b,o+1,none⟩=some (.slice (some ⟨g,0,none⟩) 0 0):=c2;have mixed:=Tryz.checked.mixed
 go_enter Tryz.func46,Tryz.ntmps46
 go_wp2
 go_region_o
 all_goals (go_wp2;go_ret;exact⟨rfl,(Below.drew (Below.refl _ w)).alloc (Aa _) _⟩)
end Go.Proofs.YtglaihdcndcmkaaGreatDoor
namespace ya
noncomputable def Px(args:List PV)(bx:Oa)(oc:List Loc):Option Fe:=match args with
 |[.ptr b o]=>(td bx b).bind fun q=>match q.2[o]? with
  |some (.flat (.pointer none))=>if o<q.2.length/\liesAt Tryz.prog Tryz.prog.depth q.1 (q.2.length/Tryz.prog.cellsOf q.1) o 101 1=true then some ([],false,bx.set b (q.1,q.2.take o++[.ptr b o]++q.2.drop (o+1)),oc)else none
  |some (.ptr a c)=>if a=b/\c=o then some ([],false,bx,oc)else none
  |_=>none
 |_=>none
def zA(args:List PV)(bx:Oa)(oc:List Loc):Option Fe:=match args with
 |[.ptr b o]=>(td bx b).bind fun q=>match q.2[o+1]? with
  |some (.ia n cs)=>if cs.length=n/\.cell b (o+1)∈oc then(bytesOf cs).map fun l=>([.flat (.string ⟨l.toArray⟩)],false,bx,oc.filter (·≠.cell b (o+1)))else none
  |_=>none
 |_=>none
noncomputable def Lo:Callee:=fun f args bx oc=>if f=93 then Px args bx oc else if f=46 then zA args bx oc else none
section
variable {Γ:lf}
theorem cY{args:List PV}{bx:Oa}{oc:List Loc}{t:List PV}{os:Bool}{bx':Oa}{oc':List Loc}(k:Px args bx oc=some (t,os,bx',oc')){w:World}{Fr:Nat->Nat}{β:List Nat}{vs:List Value}(B:nm Tryz.prog Γ w Fr β args vs bx oc):
 Calls Tryz.prog 93 vs.toArray w fun e w'=>∃v Fr' β',e=.returned v/\ui Tryz.prog w Fr β oc t os bx' oc' v w' Fr' β':=by
 unfold Px at k;split at k
 case h_2=>cases k
 rename_i b o;obtain⟨q,J,a⟩:=qb k;clear k;have z:=B.rel;have Q:=B.args;simp only[ta,Rd]at Q;obtain⟨_,_,rfl,⟨g,G,rfl⟩,rfl⟩:=Q;obtain⟨Y,X,g'Z,c,e,O,d,x,U,Z,P⟩:=z.bx.cells J;rw[G]at O;cases O;have F:=x.length;have K:w.shape? g=some (q.1,q.2.length):=by simp[World.shape?,d,P,F]
 have r:∀{w':World}{Fr':Nat->Nat}{β':List Nat},Rd w' Fr' β' (ed []) (.tuple #[]):=by simp[ed,Rd,ta]
 split at a
 ·rename_i I
  split at a
  case isFalse=>cases a
  rename_i A;cases a;obtain⟨u,M,C⟩:=x.get o _ I;obtain⟨rfl,_⟩:=Oc C;have D:w.cell? ⟨g,o,none⟩=some (.pointer none):=by rw[cell_of_row _ _ _ _ _ _ d];simpa using M
  refine(bY g o q.1 q.2.length w D K A.1 A.2 (Lib.frozen_of_heap d o)).mono ?_;rintro V w' ⟨rfl,rfl⟩;have l:w.setCell ⟨g,o,none⟩ (.pointer (some ⟨g,o,none⟩))=w.setRow g (c.take o++[Value.pointer (some ⟨g,o,none⟩)]++c.drop (o+1)).toArray:=by
   rw[setCell_eq_setRow w g o _ _ _ _ d];congr 1;apply qi;have fa:o<c.length:=aa
   rw[Array.toList_setIfInBounds,List.set_eq_take_append_cons_drop];simp[fa]
  rw[l];have H:∀L∈oc,Md b o 1 L=false:=fun L y=>by
   cases L with
   |slot i=>rfl
   |cell N j=>
    rw[vo];intro R;have E:N=b/\j=o:=by
     simp only[Md,bc,beq_iff_eq,decide_eq_true_eq]at R;exact⟨R.1.1,aa⟩
    obtain⟨rfl,rfl⟩:=E;obtain⟨v,p,k1Z,k2Z,n,cs,k3Z,_⟩:=z.own _ y
    grind [bb]
  obtain⟨T,W⟩:=z.store (o:=o) (n:=1) (ps:=[.ptr b o]) (us:=[Value.pointer (some ⟨g,o,none⟩)]) (e:=e) (cs:=q.2) na G d x U (by grind [ta,Rd]) (fun u S=>by simp at S;subst S;rfl) rfl aa aa none (fun s h=>by cases h)
   (qh (bx.set b (q.1,q.2.take o++[.ptr b o]++q.2.drop (o+1))) oc) rfl (by rw[P];rfl) (fun L y=>.inl ⟨y,H L y,fun s h=>by cases h⟩) (fun q J=>by cases J)
  exact⟨.tuple #[],Fr,β,rfl,r,T,W,B.cells,fun h=>by cases h⟩
 ·rename_i N l I
  split at a
  case isFalse=>cases a
  rename_i A;cases a;obtain⟨rfl,rfl⟩:=A;obtain⟨u,M,C⟩:=x.get l _ I;simp only[Rd]at C;obtain⟨y,j,rfl⟩:=C;rw[G]at j;cases j;have D:w.cell? ⟨g,l,none⟩=some (.pointer (some ⟨g,l,none⟩)):=by rw[cell_of_row _ _ _ _ _ _ d];simpa using M
  refine(dY g l w D).mono ?_;rintro V w' ⟨rfl,rfl⟩;exact⟨.tuple #[],Fr,β,rfl,r,z,Le.refl _ _ _,B.cells,fun h=>by cases h⟩
 ·cases a
def zfm:U8 Tryz.prog=5:=ca
theorem wX:∀{cs}{l},bytesOf cs=some l->l≠[]->sd cs=false
 |[],l,h,a=>by grind [bytesOf]
 |p::r,l,h,a=>by
  unfold bytesOf at h;split at h
  ·grind
  ·rename_i e;cases e;rfl
  grind
def W3{w w'}{g n}(h:Tt w g n w')(a):w'.cell? a=w.cell? a:=by
 obtain⟨h,_⟩:=h
 grind [World.freeze,World.cell?]
def X3{w w'}{g n k}(h:Tt w g n w')(a:k≠g):w'.heap[k]?=w.heap[k]?:=by
 obtain⟨h,_⟩:=h
 grind [World.freeze]
theorem Y3{w w'}{g n}(h:Tt w g n w'):w'.heap.size=w.heap.size:=by
 obtain⟨h,_⟩:=h
 grind [World.freeze]
theorem sK:∀{cs}{l},bytesOf cs=some l->l.length=cs.length
 |[],l,h=>by grind [bytesOf]
 |p::r,l,h=>by
  unfold bytesOf at h;split at h
  ·grind
  ·rename_i n r' e
   cases e;split at h
   ·obtain⟨l',a,rfl⟩:=qm h
    simp[sK a]
   grind
  grind
theorem zed{args:List PV}{bx:Oa}{oc:List Loc}{Q:List PV}{os:Bool}{bx':Oa}{oc':List Loc}(J:zA args bx oc=some (Q,os,bx',oc')){w:World}{Fr:Nat->Nat}{β:List Nat}{vs:List Value}(hpZ:nm Tryz.prog Γ w Fr β args vs bx oc):
 Calls Tryz.prog 46 vs.toArray w fun e w'=>∃v Fr' β',e=.returned v/\ui Tryz.prog w Fr β oc Q os bx' oc' v w' Fr' β':=by
 unfold zA at J;split at J
 case h_2=>cases J
 rename_i b o;obtain⟨q,hqZ,t⟩:=qb J;clear J;have A:=hpZ.rel;have haZ:=hpZ.args;simp only[ta,Rd]at haZ;obtain⟨_,_,rfl,⟨g,hgZ,rfl⟩,rfl⟩:=haZ;split at t
 case h_2=>cases t
 rename_i n cs hoZ;split at t
 case isFalse=>cases t
 rename_i hcZ;obtain⟨hcn,d⟩:=hcZ;obtain⟨l,hlZ,W⟩:=qm t;clear t;cases W;obtain⟨hqs,hlp,g'Z,cvs,e,b1Z,b2Z,b3Z,b4Z,b5Z,b6Z⟩:=A.bx.cells hqZ;rw[hgZ]at b1Z;cases b1Z;have K:=(Kh.1 b2Z).1;have Y:=sK hlZ;obtain⟨v,p,P,k2Z,k3Z⟩:=A.own _ d;have B:=A.PH P k2Z;have R:(qh bx oc).bx=bx:=rfl;have N:bx[b]?=some q:=hqs;simp only[bb,R,N,Ja,hoZ,Wb]at k2Z;subst k2Z;have T:w.cell? ⟨g,o+1,none⟩=some v:=by simpa only[Ga,hgZ,Ja]using P
 have fin:∀w',Rel Tryz.prog [] w.heap.size (se w β oc) w Fr 0 (qh bx (oc.filter (·≠.cell b (o+1)))) Ph w' Fr β->Le w Fr β w' Fr β->ui Tryz.prog w Fr β oc [.flat (.string ⟨l.toArray⟩)] false bx (oc.filter (·≠.cell b (o+1))) (.string ⟨l.toArray⟩) w' Fr β:=fun w' S C=>
  ⟨eg rfl,S,C,fun L G=>hpZ.cells L (Yc.1 G).1,fun h=>by cases h⟩
 have U:∀w',Below w.heap.size w w'->ui Tryz.prog w Fr β oc [.flat (.string ⟨l.toArray⟩)] false bx (oc.filter (·≠.cell b (o+1))) (.string ⟨l.toArray⟩) w' Fr β:=fun w' R=>by
  obtain⟨S,C⟩:=A.grow R (Fr':=Fr) fun _ _=>rfl
  exact fin w' (S.Au (st':=qh bx (oc.filter (·≠.cell b (o+1)))) (fun i=>.inl rfl) rfl (fun L G=>⟨(Yc.1 G).1,fun i _=>rfl⟩) rfl) C
 obtain⟨n'Z,cs',hpe,hvZ⟩:=k3Z;cases hpe;rcases hvZ with rfl|⟨F,H,I,e2,szZ,rfl,h2Z,h3Z,h4Z,h5Z,h6Z,h7Z,h8Z,h9Z⟩
 ·have E:n=0:=by
   simp only[Rd]at B;obtain⟨a,H,V,_⟩:=B;cases V;rfl
  have z:l=[]:=qz aa;subst z;refine(zec g o w T).mono ?_
  grind
 ·by_cases z:l=[]
  ·subst z
   have E:n=0:=by simp at Y;omega
   have c:=h8Z E;subst E;subst c;refine(zef g o F e2 I.size w T K (by simp[World.shape?,h2Z])).mono ?_
   grind
  ·have M:=List.length_pos_iff.2 z
   have hnl:n=l.length:=aa
   subst hnl;have hsz:szZ=1:=by
    have:l.length* szZ=l.length* 1:=by rw[<-h7Z];omega
    exact Nat.eq_of_mul_eq_mul_left M this
   subst hsz;have X:e2=5:=by
    rcases h9Z rfl with h|h
    ·grind [wX]
    ·rw[h];exact zfm
   subst X;have O:∀j x,l[j]?=some x->w.cell? ((⟨F,0,none⟩:Addr).add j)=some (.int .u8 x.toNat):=fun j x hjZ=>by
    simp only[Rd]at B;obtain⟨a,cap',V,_,hr⟩:=B;rcases hr with⟨_,h0Z⟩|⟨g3,o3Z,vs3,rfl,r1,r2,r3⟩
    ·omega
    ·cases V
     have R:=Kx hlZ r2;rw[add_eq];exact(r1 j _ na).2
   have hng:∀k∈β,k≠F:=fun k y e=>A.out _ d _ F P rfl (e▸y)
   refine(zee g o F H I.size l w z aa T (by simp[World.shape?,h2Z]) aa aa O).mono ?_;rintro e'Z w' ⟨rfl,hf⟩;have Ub:=W3 hf;have c:∀k,k≠F->w'.heap[k]?=w.heap[k]?:=fun k y=>X3 hf y
   have D:Le w Fr β w' Fr β:=⟨by grind [Y3],fun _ _=>Aa _,fun k j _ _=>Ub _,fun _ _ h=>h,fun k r y=>⟨r,(c k fun e=>by grind).trans y⟩⟩;have hval:∀L,Ga Ph w' β L=Ga Ph w β L:=fun L=>by
    cases L<;>grind [Ga]
   have mem:∀L,L∈oc.filter (·≠.cell b (o+1))->L∈oc/\L≠.cell b (o+1):=fun L G=>by grind
   refine⟨_,Fr,β,rfl,fin w' (A.next D (fun i=>by simp[qh,look,Rd]) rfl rfl (A.bx.kept D fun k y=>⟨c k (hng k y),rfl⟩) A.nd (fun g h=>.inl h) some (fun L G=>?_) (fun L _ L'Z _ Z L0Z h h'Z=>Z na) (fun L _ L'Z _ _ h=>by cases h) (fun q hqZ=>by cases hqZ) (fun k y _ hno=>⟨c k fun e=>hno _ d _ P (by rw[e];rfl),rfl⟩) hf.2.1 hf.2.2.1 hf.2.2.2) D⟩;obtain⟨m1Z,m2Z⟩:=mem L G;obtain⟨u,q'Z,j1Z,j2Z,j3Z⟩:=A.own L m1Z;refine⟨u,q'Z,na,?_,j3Z.kept fun k y=>⟨c k fun e=>?_,rfl⟩,fun k y=>.inr ⟨L,m1Z,rfl,u,j1Z,y⟩⟩
   ·cases L with
    |slot i=>exact j2Z
    |cell b'Z j=>exact j2Z
   ·exact A.sep L m1Z _ d m2Z u _ k j1Z P y (by rw[e];rfl)
def gK:xc Tryz.prog Γ Lo:=fun f args bx oc c os bx' oc' a w Fr β vs b=>by
 unfold Lo at a;split at a
 ·rename_i hf
  subst hf;exact enters_of ca ha (cY a b)
 ·split at a
  ·rename_i hf
   subst hf;exact enters_of ca ha (zed a b)
  grind
end
variable {lib:Callee}
def Sb(lib:Callee):Prop:=∀f args bx oc r,Lo f args bx oc=some r->lib f args bx oc=some r
def bld(u:Bool)(b:Nat)(l:ba)(rest:List PV):List PV:=(match u with|true=>.ptr b 0|false=>.flat (.pointer none))::.ia l.length (Sd l)::rest
def Yj(e n:Nat):Prop:=liesAt Tryz.prog Tryz.prog.depth e (n/Tryz.prog.cellsOf e) 0 101 1=true
def lj:Yj 101 2:=by unfold Yj;kernel_rfl
def hK{u}{b}{l}{rest}:Tq (bld u b l rest)=false:=by cases u<;>rfl
theorem qN(c:Sb lib){bx}{oc}{b e}{u}{l}{rest}(d:bx[b]?=some (e,bld u b l rest))(h:Yj e (2+rest.length)):
 da code lib 93 [.ptr b 0] bx oc=some ([],false,bx.set b (e,bld true b l rest),oc):=by
 refine Ef ha ra (c _ _ _ _ _ ?_);have a:td bx b=some (e,bld u b l rest):=by rw[LC,d,BE,hK];rfl
 unfold Lo Px;rw[if_pos rfl];dsimp only;rw[a,Ja];cases u with
 |false=>
  have g:0<(bld false b l rest).length/\liesAt Tryz.prog Tryz.prog.depth e ((bld false b l rest).length/Tryz.prog.cellsOf e) 0 101 1=true:=⟨by simp[bld],by
   have:(bld false b l rest).length=2+rest.length:=by simp[bld];omega
   rw[this];exact h⟩
  show(if _ then _ else _)=_;rw[if_pos g];rfl
 |true=>
  show(if b=b/\0=0 then _ else _)=_
  grind [Kp]
def lk(c:Sb lib){bx}{oc}{b e}{u}{l}{rest}(d:bx[b]?=some (e,bld u b l rest))(g:.cell b 1∈oc):
 da code lib 46 [.ptr b 0] bx oc=some ([.flat (.string (S l))],false,bx,fe (.cell b 1) oc):=by
 refine Ef ha ra (c _ _ _ _ _ ?_);have a:td bx b=some (e,bld u b l rest):=by rw[LC,d,BE,hK];rfl
 unfold Lo zA;rw[if_neg ha,if_pos rfl];dsimp only;rw[a,Ja];show(if(Sd l).length=l.length/\.cell b 1∈oc then _ else _)=_;rw[if_pos ⟨zC,g⟩,rK];rfl
def ai(n:Sb lib){bx}{r}{b e}{u}{l m}{rest}(k:bx[b]?=some (e,bld u b l rest))(o:Yj e (2+rest.length))(hs:l.length+m.length<=za)(hr:∀q∈r,q≠(b,1))(fa:∀q∈r,q.1<bx.length):
 da code lib 45 [.ptr b 0,.flat (.string (S m))] bx (.cell b 1::cl r)=some ([.flat (.int .i64 m.length),.flat .nilIface],false,bx.set b (e,bld true b (l++m) rest),.cell b 1::cl r):=by
 refine la MZ (qa rfl) ?_;have c:=(qg k).1;have d:=fun oc=>qN (oc:=oc) n k o
 obtain⟨a,h⟩:∃a,bx.set b (e,bld true b l rest)=a:=⟨_,rfl⟩;have i:a[b]?=some (e,.ptr b 0::.ia l.length (Sd l)::rest):=by rw[<-h,Tg c];rfl
 have j:a.length=bx.length:=by rw[<-h,Kc]
 have g:∀q,a.set b q=bx.set b q:=fun q=>by grind [List.set_set]
 rw[h]at d;simp only[go_sem,simprocAttr,d,Hb,sb,Gb,Eb,Nb,uq r hr,pg r hr,ub r fa,i,j,c,Kc,Xa,oJ,uB,XJ,zC,hs,g,zc]
 grind [bld]
def Cw(o:Sb lib){bx}{r}{b e}{u}{l}{c}{rest}(n:bx[b]?=some (e,bld u b l rest))(t:Yj e (2+rest.length))(hs:l.length+1<=za)(hr:∀q∈r,q≠(b,1))(fa:∀q∈r,q.1<bx.length):
 da code lib 44 [.ptr b 0,.flat (.int .u8 c.toNat)] bx (.cell b 1::cl r)=some ([.flat .nilIface],false,bx.set b (e,bld true b (l++[c]) rest),.cell b 1::cl r):=by
 refine la LZ (qa rfl) ?_;have d:=(qg n).1;have g:=fun oc=>qN (oc:=oc) o n t
 obtain⟨a,i⟩:∃a,bx.set b (e,bld true b l rest)=a:=⟨_,rfl⟩;have j:a[b]?=some (e,.ptr b 0::.ia l.length (Sd l)::rest):=by rw[<-i,Tg d];rfl
 have k:a.length=bx.length:=by rw[<-i,Kc]
 have h:∀q,a.set b q=bx.set b q:=fun q=>by grind [List.set_set]
 have p:[PV.flat (.int .u8 c.toNat)]=Sd [c]:=rfl;rw[i]at g;simp only[go_sem,simprocAttr,g,Hb,sb,Gb,Eb,Nb,uq r hr,pg r hr,ub r fa,j,k,d,Kc,Xa,oJ,uB,zC,hs,h,zc]
 grind [bld,XJ]
def hh(n:Nat):Nat:=if(n<32/\n≠9/\n≠10)\/(127<=n/\n<160)then 65533 else n
def zU(n:Nat):da code lib 160 [.flat (.int .i32 n)] [] []=some ([.flat (.int .i32 (hh n:Nat))],false,[],[]):=by
 refine la c0 (qa rfl) ?_;unfold hh;by_cases d:n<32
 ·have a:(n:Int)<32:=aa
  by_cases b:n=9
  ·subst b;simp only[go_sem,simprocAttr]
  ·have e:¬(n:Int)=9:=aa
   by_cases c:n=10
   ·subst c;simp only[go_sem,simprocAttr]
   ·have g:¬(n:Int)=10:=aa
    rw[if_pos (.inl ⟨d,b,c⟩)];exact va @mj
 ·have a:¬(n:Int)<32:=aa
  by_cases e:127<=n
  ·have b:(127:Int)<=n:=aa
   by_cases g:n<160
   ·have c:(n:Int)<160:=aa
    rw[if_pos (.inr ⟨e,g⟩)];exact va @mj
   ·have c:¬(n:Int)<160:=aa
    rw[if_neg aa];exact sa
  ·have b:¬(127:Int)<=n:=aa
   rw[if_neg aa];exact sa
theorem ah(n):(Ka n).length<=4:=by
 grind [Ka,we]
def yU{n}(h:n<8388608):hh n<2147483648:=by grind [hh]
structure Xp where
 at_:Nat
 u:Bool
 out:ba
def Uh(l:ba)(q:Nat×Nat)(k:Nat):Bool:=decide (q.1=13/\l[k+q.2]?=some 10)
def pe(l:ba)(a:Xp)(q:Nat×Nat):Xp×Bool:=
 if Uh l q a.at_ then(⟨a.at_+q.2,a.u,a.out⟩,true)else(⟨a.at_+q.2,true,a.out++Ka (hh (if q.1=13 then 10 else q.1))⟩,true)
def xn(l:ba)(a:Xp):Oa:=[(9,[.flat (.string (S l))]),(101,bld a.u 1 a.out []),(3,[.flat (.int .i64 (a.at_:Nat))]),(9,[.flat (.string (S l))]),(0,[.lp 95 0 .ready [1,3,4] [.ptr 0 0,.ptr 1 0,.ptr 2 0]])]
def oY(x:Sb lib)(l)(B:l.length<1000000000)(a)(q)(A:a.at_+q.2<=l.length)(C:a.out.length+4<=za)(y:q.1<8388608):
 da code lib kb [.Sa 4,.flat (.int .i32 (q.1:Nat)),.flat (.int .i64 (q.2:Nat))] (xn l a) [.cell 1 1]=some ([.flat (.bool true)],false,xn l (pe l a q).1,[.cell 1 1]):=by
 refine ep Wo WN rfl rfl rfl ?_;have t:IntKind.i64.wrap ((a.at_:Int)+(q.2:Nat))=((a.at_+q.2:Nat):Int):=wrap64 aa;have sh:=fun n=>zU (lib:=lib) n
 have g:da code lib 160 [.flat (.int .i32 10)] [] []=some ([.flat (.int .i32 (hh 10:Nat))],false,[],[]):=zU 10;have j:=fun n(h:n<2147483648)=>es (lib:=lib) n h
 have v:Yj 101 (2+([]:List PV).length):=lj
 have w:∀(m:ba),m.length<=4->da code lib 45 [.ptr 1 0,.flat (.string (S m))] [(9,[.flat (.string (S l))]),(101,bld a.u 1 a.out []),(3,[.flat (.int .i64 ((a.at_+q.2:Nat):Int))]),(9,[.flat (.string (S l))]),(0,[.lp 95 0 .busy [1,3,4] [.ptr 0 0,.ptr 1 0,.ptr 2 0]])] [.cell 1 1]=
  some ([.flat (.int .i64 m.length),.flat .nilIface],false,[(9,[.flat (.string (S l))]),(101,bld true 1 (a.out++m) []),(3,[.flat (.int .i64 ((a.at_+q.2:Nat):Int))]),(9,[.flat (.string (S l))]),(0,[.lp 95 0 .busy [1,3,4] [.ptr 0 0,.ptr 1 0,.ptr 2 0]])],[.cell 1 1]):=fun m k=>
  ai x (b:=1) (r:=[]) (rest:=[]) rfl v aa (fun q e=>by cases e) (fun q e=>by cases e)
 by_cases c1:q.1=13
 ·have d:((q.1:Nat):Int)=13:=aa
  have p:=j (hh 10) (yU aa);have u:=w _ (ah (hh 10));by_cases c2:a.at_+q.2<l.length
  ·have e:((a.at_+q.2:Nat):Int)<l.length:=aa
   obtain⟨c,o⟩:∃c,l[a.at_+q.2]?=some c:=⟨_,qe c2⟩;have z0:(0:Int)<=((a.at_+q.2:Nat):Int):=aa
   by_cases c3:c=10
   ·subst c3
    have i:Uh l q a.at_=true:=by simp[Uh,c1,o]
    have k:(((10:UInt8).toNat:Nat):Int)=10:=rfl;simp only[Qu,Ou,xn,pe,i,d,e,z0,t,o,Xa,hd,eh,ic,go_sem,simprocAttr]
   ·have i:Uh l q a.at_=false:=by simp[Uh,o,c3]
    have k:¬((c.toNat:Nat):Int)=10:=fun h=>by
     have z:c.toNat=(10:UInt8).toNat:=by have:(10:UInt8).toNat=10:=rfl;omega
     exact c3 (Xb.1 z)
    simp only[Qu,Ou,xn,pe,i,c1,d,e,k,z0,t,o,Xa,hd,eh,ic,g,p,u,go_sem,simprocAttr]
  ·have e:¬((a.at_+q.2:Nat):Int)<l.length:=aa
   have k:l[a.at_+q.2]?=none:=Qf aa;have i:Uh l q a.at_=false:=by simp[Uh,k]
   simp only[Qu,Ou,xn,pe,i,c1,d,e,t,Xa,g,p,u,go_sem,simprocAttr]
 ·have d:¬((q.1:Nat):Int)=13:=aa
  have i:Uh l q a.at_=false:=by simp[Uh,c1]
  have p:=j (hh q.1) (yU y);have u:=w _ (ah (hh q.1));simp only[Qu,Ou,xn,pe,i,c1,d,t,sh,p,u,go_sem,simprocAttr]
theorem rI(l)(a)(q):(pe l a q).2=true:=by grind [pe]
theorem qI(l)(a)(q):(pe l a q).1.at_=a.at_+q.2:=by grind [pe]
theorem PU(l)(a)(q):(pe l a q).1.out.length<=a.out.length+4:=by
 grind [pe,ah]
def Mo{u}{b nb}{l}{rest}(h:b<nb)(hr:Ia nb rest=true):Ia nb (bld u b l rest)=true:=by
 cases u<;>simp[bld,Ia,PV.low,AC,hr,h]
def Kk(l:ba):Xp:=(Je (pe l) ⟨0,false,[]⟩ (ff l)).1
def Cf(l:ba):ba:=(Kk l).out
def Vx(d:Sb lib)(l)(o:l.length<1000000000):da code lib 95 [.flat (.string (S l))] [] []=some ([.flat (.string (S (Cf l)))],false,[],[]):=by
 refine la WN (qa rfl) ?_
 have b:=yB (lib:=lib) l (by grind [Sm]) (xn l) (fun _=>[(1,1)]) (pe l) (fun a k=>a.at_=k/\a.out.length<=4* k) 4 3 5 (fun a _ _=>rfl) (fun a=>rfl) (fun a q r=>by grind)
  (fun a k q j _ _ g _ _=>by
    grind [PU,qI])
  (fun a k q j _ _ g h _=>by
    have i:=oY d l o a q aa (by grind [za]) h;rw[rI];exact i) ⟨0,false,[]⟩ ⟨rfl,Cb _⟩
 have e:cl [(1,1)]=[.cell 1 1]:=rfl;have n:(Je (pe l) ⟨0,false,[]⟩ (ff l)).1=Kk l:=rfl;simp only[e,n]at b;have c:da code lib 224 [.Sa 4,.ptr 3 0] [(9,[.flat (.string (S l))]),(101,[.flat (.pointer none),.ia 0 []]),(3,[.flat (.int .i64 0)]),(9,[.flat (.string (S l))]),(0,[.lp 95 0 .ready [1,3,4] [.ptr 0 0,.ptr 1 0,.ptr 2 0]])] [.cell 1 1]=some ([],false,xn l (Kk l),[.cell 1 1]):=b;have e1:=vB (lib:=lib) l [(9,[.flat (.string (S l))]),(101,[.flat (.pointer none),.ia 0 []]),(3,[.flat (.int .i64 0)])] [(1,1)] ea;simp only[e,go_sem,simprocAttr]at e1;have e2:=xB (lib:=lib) l [];simp only[go_sem,simprocAttr]at e2
 have e3:da code lib 46 [.ptr 1 0] [(9,[.flat (.string (S l))]),(101,bld (Kk l).u 1 (Kk l).out []),(3,[.flat (.int .i64 ((Kk l).at_:Nat))]),(9,[.flat (.string (S l))])] [.cell 1 1]=
  some ([.flat (.string (S (Kk l).out))],false,[(9,[.flat (.string (S l))]),(101,bld (Kk l).u 1 (Kk l).out []),(3,[.flat (.int .i64 ((Kk l).at_:Nat))]),(9,[.flat (.string (S l))])],fe (.cell 1 1) [.cell 1 1]):=lk d rfl ea
 have p:Ia 4 (bld (Kk l).u 1 (Kk l).out [])=true:=Mo aa rfl;exact Kb @xn.eq_1 @Cf.eq_1
def Qv(n:Nat):da code lib 134 [.flat (.int .i64 n)] [] []=some ([.flat (.bool (Ob n))],false,[],[]):=by
 refine la fZ (qa rfl) ?_;have d:(0:Int)<=n:=aa
 have a:((n:Int)<=1114111)=(n<=1114111):=by apply propext;omega
 have b:((55296:Int)<=n)=(55296<=n):=by apply propext;omega
 have c:((n:Int)<=57343)=(n<=57343):=by apply propext;omega
 by_cases e:n<=1114111<;>by_cases g:55296<=n<;>by_cases i:n<=57343
 all_goals
  have e3:decide (n<55296)=!decide (55296<=n):=by by_cases h:55296<=n<;>simp[h]<;>omega
  have e4:decide (57343<n)=!decide (n<=57343):=by by_cases h:n<=57343<;>simp[h]<;>omega
  simp only[go_sem,simprocAttr,Ob,e3,e4,d,a,b,c,e,g,i,pn,nn]
def yn(n:Nat):da code lib 72 [.flat (.int .i64 n)] [] []=some ([.flat (.string (S (Ka n)))],false,[],[]):=by
 refine la bZ (qa rfl) ?_;have d:=Qv (lib:=lib) n;cases c:Ob n with
 |true=>
  rw[c]at d;have t:n<=1114111:=by simp only[Ob,bc,decide_eq_true_eq]at c;exact c.1
  have c1:((n:Int)<65536)=(n<65536):=by apply propext;omega
  have c2:((n:Int)<2048)=(n<2048):=by apply propext;omega
  have c3:((n:Int)<128)=(n<128):=by apply propext;omega
  have o:IntKind.i64.wrap ((n:Int).tdiv 64)=((n/64:Nat):Int):=by
   rw[show(n:Int).tdiv 64=((n/64:Nat):Int)from rfl];exact wrap64 aa
  have q:IntKind.i64.wrap ((n:Int).tdiv 4096)=((n/4096:Nat):Int):=by
   rw[show(n:Int).tdiv 4096=((n/4096:Nat):Int)from rfl];exact wrap64 aa
  have r:IntKind.i64.wrap ((n:Int).tdiv 262144)=((n/262144:Nat):Int):=by
   rw[show(n:Int).tdiv 262144=((n/262144:Nat):Int)from rfl];exact wrap64 aa
  have p:∀m:Nat,((m:Int).tmod 64)=((m % 64:Nat):Int):=fun m=>rfl
  have a:∀m:Nat,m<64->IntKind.i64.wrap (128+(m:Int))=((128+m:Nat):Int):=fun m h=>by grind [wrap64]
  have g:∀m:Nat,m<64->IntKind.i64.wrap (192+(m:Int))=((192+m:Nat):Int):=fun m h=>by grind [wrap64]
  have i:∀m:Nat,m<64->IntKind.i64.wrap (224+(m:Int))=((224+m:Nat):Int):=fun m h=>by grind [wrap64]
  have j:∀m:Nat,m<64->IntKind.i64.wrap (240+(m:Int))=((240+m:Nat):Int):=fun m h=>by rw[wrap64 aa];rfl
  have l:∀m:Nat,m<256->IntKind.u8.wrap (m:Int)=(m:Int):=fun m h=>Fj aa
  simp only[Ka,c,if_true,we];by_cases b:n<128
  ·rw[if_pos b]
   simp(disch:=omega) only[go_sem,simprocAttr,d,c3,b,l,Oo,Po,bf,gc,Ve]
  ·rw[if_neg b]
   by_cases e:n<2048
   ·rw[if_pos e]
    simp(disch:=omega) only[go_sem,simprocAttr,d,c3,b,c2,e,o,p,a,g,l,Oo,Po,bf,gc,Ve]
   ·rw[if_neg e]
    by_cases k:n<65536
    ·rw[if_pos k]
     simp(disch:=omega) only[go_sem,simprocAttr,d,c3,b,c2,e,c1,k,o,q,p,a,i,l,Oo,Po,bf,gc,Ve]
    ·rw[if_neg k]
     simp(disch:=omega) only[go_sem,simprocAttr,d,c3,b,c2,e,c1,k,o,q,r,p,a,j,l,Oo,Po,bf,gc,Ve]
 |false=>
  rw[c]at d;have b:Ka n=[239,191,189]:=by unfold Ka;rw[c];simp only[La,if_false];decide
  have a:ma (da code lib)=ma (da code lib):=rfl;have e:IntKind.i64.wrap ((65533:Int).tdiv 4096)=15:=ha
  have g:IntKind.i64.wrap ((65533:Int).tdiv 64)=1023:=ha
  have i:(1023:Int).tmod 64=63:=ha
  have j:(65533:Int).tmod 64=61:=ha
  have k:IntKind.i64.wrap 239=239:=ha
  have l:IntKind.i64.wrap 191=191:=ha
  have o:IntKind.i64.wrap 189=189:=ha
  have p:IntKind.u8.wrap 239=239:=ha
  have q:IntKind.u8.wrap 191=191:=ha
  have r:IntKind.u8.wrap 189=189:=ha
  have u:IntKind.i64.wrap 15=15:=ha
  have v:IntKind.i64.wrap 1023=1023:=ha
  have t:bytesOf [.flat (.int .u8 239),.flat (.int .u8 191),.flat (.int .u8 189)]=some [239,191,189]:=ha
  exact sa
def Hl:Nat->Int
 |2=>192
 |3=>224
 |4=>240
 |_=>0
def zN(l:ba)(k:Nat):Nat->Int
 |0=>0
 |1=>((l.getD 0 0).toNat:Int) - Hl k
 |i+2=>64* zN l k (i+1)+((l.getD (i+1) 0).toNat:Int) - 128
def wR(k):0<=Hl k/\Hl k<=240:=by unfold Hl;grind
def cW(l)(k):∀i,i<=4->-400000000<=zN l k i/\zN l k i<=400000000:=by
 intro i a;have g:=wR k;have b:=(l.getD 0 0).toNat_lt;have c:=(l.getD 1 0).toNat_lt;have d:=(l.getD 2 0).toNat_lt;have e:=(l.getD 3 0).toNat_lt
 match i,a with
 |0,_=>simp[zN]
 |1,_=>grind [zN]
 |2,_=>grind [zN]
 |3,_=>grind [zN]
 |4,_=>grind [zN]
def Xj:List PV:=[.flat (.int .i64 0),.flat (.int .i64 0),.flat (.int .i64 192),.flat (.int .i64 224),.flat (.int .i64 240)]
def Pq(s:ba)(at_ k:Nat)(i:Nat):St:=⟨[(0,.flat (.string (S s))),(1,.flat (.int .i64 (at_:Nat))),(6,.ia 5 Xj),(7,.flat (.int .i64 (k:Nat))),(8,.flat (.int .i64 (zN (s.drop at_) k i))),(9,.flat (.int .i64 (i:Nat)))],[.slot 6],[],[]⟩
def XP(s:ba)(at_ i)(h:i<(s.drop at_).length):s[at_+i]?=some ((s.drop at_).getD i 0):=by
 grind
def M4(s)(at_ k)(hs:Sm s)(y:k<=4)(p:k<=(s.drop at_).length)(i)(d:1<=i)(e:i<=k):Ac (ma (da code lib) ja QB) [0,1,6,7,8,9] 0 ja (Pq s at_ k i)=
 some (.exit 2,⟨[(0,.flat (.string (S s))),(1,.flat (.int .i64 (at_:Nat))),(6,.ia 5 Xj),(7,.flat (.int .i64 (k:Nat))),(8,.flat (.int .i64 (zN (s.drop at_) k k)))],[.slot 6],[],[]⟩):=by
 have n:at_+k<=s.length:=by
  rw[fc]at p;rcases Mh s.length at_ with h|h<;>omega
 unfold Sm at hs;refine Ah (Pq s at_ k) (fun i=>1<=i/\i<=k) (fun i=>k - i) (fun _=>(.exit 2,⟨[(0,.flat (.string (S s))),(1,.flat (.int .i64 (at_:Nat))),(6,.ia 5 Xj),(7,.flat (.int .i64 (k:Nat))),(8,.flat (.int .i64 (zN (s.drop at_) k k)))],[.slot 6],[],[]⟩)) (fun i ⟨d,e⟩=>?_) ⟨d,e⟩ (by grind [ja]);by_cases fa:i<k
 ·right
  have e1:=XP s at_ i aa;obtain⟨c,g⟩:∃c,(s.drop at_).getD i 0=c:=⟨_,rfl⟩;rw[g]at e1;have o:=c.toNat_lt;have q:=cW (s.drop at_) k i aa;have b:zN (s.drop at_) k (i+1)=64* zN (s.drop at_) k i+(c.toNat:Int) - 128:=by
   obtain⟨j,rfl⟩:∃j,i=j+1:=⟨i - 1,aa⟩;simp only[zN,g]
  obtain⟨z,a⟩:∃z,zN (s.drop at_) k i=z:=⟨_,rfl⟩;rw[a]at q b;have c1:(i:Int)<k:=aa
  have r:IntKind.i64.wrap (64* z)=64* z:=wrap64 aa;have t:IntKind.i64.wrap (c.toNat:Int)=(c.toNat:Int):=wrap64 aa;have u:IntKind.i64.wrap (64* z+(c.toNat:Int))=64* z+(c.toNat:Int):=wrap64 aa;have v:IntKind.i64.wrap (64* z+(c.toNat:Int) - 128)=64* z+(c.toNat:Int) - 128:=wrap64 aa;have w:IntKind.i64.wrap ((at_:Int)+(i:Nat))=((at_+i:Nat):Int):=wrap64 aa;have x:IntKind.i64.wrap ((i:Int)+1)=((i+1:Nat):Int):=wrap64 aa;have l:(0:Int)<=((at_+i:Nat):Int):=aa
  refine⟨⟨[(0,.flat (.string (S s))),(1,.flat (.int .i64 (at_:Nat))),(6,.ia 5 Xj),(7,.flat (.int .i64 (k:Nat))),(8,.flat (.int .i64 (64* z+(c.toNat:Int) - 128))),(9,.flat (.int .i64 ((i+1:Nat):Int)))],[.slot 6],[],[]⟩,i+1,?_,?_,⟨aa,aa⟩,aa,rfl⟩
  ·simp only[MS,Pq,a,go_sem,simprocAttr,c1,hd,ic,l,e1,eh,r,t,u,v,w,x]
  ·rw[show Pq s at_ k (i+1)=_ from rfl]
   exact va @Pq.eq_1
 ·left
  obtain rfl:i=k:=aa
  have c1:¬(i:Int)<i:=aa
  refine⟨.exit 2,_,?_,ea,rfl⟩;exact Kb MS @Pq.eq_1
def lh(l:ba)(k:Nat):Bool:=decide (0<=zN l k k)&&(Ob (zN l k k).toNat&&decide (Ka (zN l k k).toNat=l.take k))
def Rj(l:ba):Nat->Nat->Option Nat
 |0,_=>none
 |n+1,k=>if k<=4/\k<=l.length then(if lh l k then some k else Rj l n (k+1))else none
def R8(k)(h:k<=4):Xj.drop k=.flat (.int .i64 (Hl k))::Xj.drop (k+1):=by
 match k,h with
 |0,_=>rfl
 |1,_=>rfl
 |2,_=>rfl
 |3,_=>rfl
 |4,_=>rfl
def Tj(s:ba)(at_ k:Nat):St:=⟨[(0,.flat (.string (S s))),(1,.flat (.int .i64 (at_:Nat))),(6,.ia 5 Xj),(7,.flat (.int .i64 (k:Nat)))],[.slot 6],[],[]⟩
def Tl(l:ba)(k:Nat):Out×St:=match Rj l (5 - k) k with
 |some j=>(.ret,⟨[(4,.flat (.int .i64 (zN l j j))),(5,.flat (.int .i64 (j:Nat)))],[],[],[]⟩)
 |none=>(.exit 0,⟨[],[],[],[]⟩)
def zae(s)(at_)(hs:Sm s)(u:at_<s.length):Ac (ma (da code lib) ja PB) [0,1,6,7] 0 ja (Tj s at_ 1)=some (Tl (s.drop at_) 1):=by
 have y:(s.drop at_).length=s.length - at_:=fc;refine Ah (Tj s at_) (fun k=>1<=k/\k<=5) (fun k=>5 - k) (Tl (s.drop at_)) (fun k ⟨t,H⟩=>?_) ⟨Aa _,aa⟩ (by grind [ja]);have l:=hs;unfold Sm at l;have N:IntKind.i64.wrap ((s.length:Int) - (at_:Nat))=(s.length:Int) - (at_:Nat):=wrap64 aa;by_cases g:k<=4/\k<=(s.drop at_).length
 ·have hf:Rj (s.drop at_) (5 - k) k=if lh (s.drop at_) k then some k else Rj (s.drop at_) (5 - (k+1)) (k+1):=by
   obtain⟨j,q⟩:∃j,5 - k=j+1:=⟨4 - k,aa⟩;rw[q,show 5 - (k+1)=j by omega];simp only[Rj];rw[if_pos g]
  have d:=M4 (lib:=lib) s at_ k hs g.1 g.2 1 (Aa _) t;have n:=XP s at_ 0 aa;rw[pi]at n;have i:zN (s.drop at_) k 1=(((s.drop at_).getD 0 0).toNat:Int) - Hl k:=rfl;have C:=cW (s.drop at_) k k g.1;obtain⟨c,v⟩:∃c,(s.drop at_).getD 0 0=c:=⟨_,rfl⟩;have w:=c.toNat_lt;have x:=wR k;rw[v]at n i;simp only[Pq,n1,i]at d;have c1:(k:Int)<=4:=aa
  have c2:(k:Int)<=(s.length:Int) - (at_:Nat):=aa
  have c3:(0:Int)<=(k:Nat):=aa
  have c4:(k:Int)<5:=aa
  have G:1<=(Xj.drop (k+1)).length+1:=aa
  have c5:(0:Int)<=(at_:Nat):=aa
  have D:(at_:Int)<=((at_+k:Nat):Int):=aa
  have E:((at_+k:Nat):Int)<=s.length:=aa
  have F:(0:Int)<=((at_+k:Nat):Int):=aa
  have J:IntKind.i64.wrap (c.toNat:Int)=(c.toNat:Int):=wrap64 aa;have K:IntKind.i64.wrap ((c.toNat:Int) - Hl k)=(c.toNat:Int) - Hl k:=wrap64 aa;have L:IntKind.i64.wrap ((at_:Int)+(k:Nat))=((at_+k:Nat):Int):=wrap64 aa;have M:IntKind.i64.wrap ((k:Int)+1)=((k+1:Nat):Int):=wrap64 aa;have I:=R8 k g.1;have B:(s.take (at_+k)).drop at_=(s.drop at_).take k:=by rw[List.take_drop]
  obtain⟨z,r⟩:∃z,zN (s.drop at_) k k=z:=⟨_,rfl⟩;have b:lh (s.drop at_) k=false->Tl (s.drop at_) (k+1)=Tl (s.drop at_) k:=fun h=>by
   grind [Tl]
  have a:lh (s.drop at_) k=(decide (0<=z)&&(Ob z.toNat&&decide (Ka z.toNat=(s.drop at_).take k))):=by unfold lh;rw[r]
  rw[r]at d;by_cases e:0<=z
  ·obtain⟨m,A⟩:∃m:Nat,z=(m:Int):=⟨z.toNat,aa⟩
   have r1:=Qv (lib:=lib) m;have r2:=yn (lib:=lib) m;rw[A]at d e a;simp only[ic]at a;cases p:Ob m with
   |true=>
    rw[p]at r1 a;by_cases o:Ka m=(s.drop at_).take k
    ·left
     have ht:lh (s.drop at_) k=true:=by rw[a];simp[e,o]
     refine⟨.ret,⟨[(4,.flat (.int .i64 (m:Int))),(5,.flat (.int .i64 (k:Nat)))],[],[],[]⟩,?_,ea,by grind [Tl]⟩;exact xe Ts @Tj.eq_1 @r1
    ·right
     have ht:lh (s.drop at_) k=false:=by rw[a];simp[o]
     refine⟨⟨[(0,.flat (.string (S s))),(1,.flat (.int .i64 (at_:Nat))),(6,.ia 5 Xj),(7,.flat (.int .i64 ((k+1:Nat):Int)))],[.slot 6],[],[]⟩,k+1,?_,?_,⟨aa,aa⟩,aa,b ht⟩
     ·exact xe Ts @Tj.eq_1 @r1
     ·exact va @Tj.eq_1
   |false=>
    rw[p]at r1 a;right;have ht:lh (s.drop at_) k=false:=by rw[a];simp
    refine⟨⟨[(0,.flat (.string (S s))),(1,.flat (.int .i64 (at_:Nat))),(6,.ia 5 Xj),(7,.flat (.int .i64 ((k+1:Nat):Int)))],[.slot 6],[],[]⟩,k+1,?_,?_,⟨aa,aa⟩,aa,b ht⟩
    ·exact xe Ts @Tj.eq_1 @r1
    ·exact va @Tj.eq_1
  ·right
   have ht:lh (s.drop at_) k=false:=by rw[a];simp[e]
   refine⟨⟨[(0,.flat (.string (S s))),(1,.flat (.int .i64 (at_:Nat))),(6,.ia 5 Xj),(7,.flat (.int .i64 ((k+1:Nat):Int)))],[.slot 6],[],[]⟩,k+1,?_,?_,⟨aa,aa⟩,aa,b ht⟩
   ·exact Kb Ts @Tj.eq_1
   ·exact va @Tj.eq_1
 ·left
  have hf:Rj (s.drop at_) (5 - k) k=none:=by
   cases q:5 - k with
   |zero=>rfl
   |succ j=>grind [Rj]
  refine⟨.exit 0,⟨[],[],[],[]⟩,?_,ea,by grind [Tl]⟩;by_cases c1:k<=4
  ·have a:(k:Int)<=4:=aa
   have b:¬(k:Int)<=(s.length:Int) - (at_:Nat):=aa
   exact Kb Ts @Tj.eq_1
  ·have a:¬(k:Int)<=4:=aa
   exact Kb Ts @Tj.eq_1
theorem XD{l}:∀{n k j},Rj l n k=some j->lh l j=true/\j<=4/\j<=l.length/\k<=j
 |0,k,j,h=>by cases h
 |n+1,k,j,h=>by
  simp only[Rj]at h;split at h
  ·rename_i e
   split at h
   ·grind
   ·obtain⟨a,b,c,d⟩:=XD h
    grind
  grind
def ao(l:ba):Nat×Nat:=match l with
 |[]=>(0,0)
 |_=>match Rj l 4 1 with
  |some j=>((zN l j j).toNat,j)
  |none=>(65533,1)
def T9(s)(at_:Nat)(hs:Sm s)(i:at_<=s.length):da code lib 71 [.flat (.string (S s)),.flat (.int .i64 (at_:Nat))] [] []=some ([.flat (.int .i64 ((ao (s.drop at_)).1:Nat)),.flat (.int .i64 ((ao (s.drop at_)).2:Nat))],false,[],[]):=by
 refine la eZ (qa rfl) ?_;have k:¬(at_:Int)<0:=aa
 by_cases fa:at_<s.length
 ·have c1:¬(s.length:Int)<=(at_:Nat):=aa
  have d:=zae (lib:=lib) s at_ hs fa;have g:∃c t,s.drop at_=c::t:=⟨s[at_],s.drop (at_+1),Pd fa⟩;obtain⟨c,t,b⟩:=g;cases hf:Rj (s.drop at_) 4 1 with
  |some j=>
   obtain⟨e,_⟩:=XD hf;have l:0<=zN (s.drop at_) j j:=by
    unfold lh at e;simp only[bc,decide_eq_true_eq]at e;exact e.1
   have hr:ao (s.drop at_)=((zN (s.drop at_) j j).toNat,j):=by
    rw[b]at hf⊢;simp only[ao,hf]
   have h:(((zN (s.drop at_) j j).toNat:Nat):Int)=zN (s.drop at_) j j:=aa
   have a:Tl (s.drop at_) 1=(.ret,⟨[(4,.flat (.int .i64 (zN (s.drop at_) j j))),(5,.flat (.int .i64 (j:Nat)))],[],[],[]⟩):=by
    unfold Tl;rw[show 5 - 1=4 from rfl,hf]
   rw[a]at d;simp only[Tj,Xj,n1]at d;rw[hr];dsimp only;rw[h];exact sa
  |none=>
   have hr:ao (s.drop at_)=(65533,1):=by
    rw[b]at hf⊢;simp only[ao,hf]
   have a:Tl (s.drop at_) 1=(.exit 0,⟨[],[],[],[]⟩):=by
    unfold Tl;rw[show 5 - 1=4 from rfl,hf]
   rw[a]at d;simp only[Tj,Xj,n1]at d;rw[hr];exact va @mj
 ·have c1:(s.length:Int)<=(at_:Nat):=aa
  have hr:ao (s.drop at_)=(0,0):=by rw[Hr aa];rfl
  rw[hr];exact sa
theorem b8(n:Nat)(h:n<256):(UInt8.ofNat n).toNat=n:=by grind [UInt8.toNat_ofNat']
def NQ{n}(h:Ob n=true):n<=1114111:=by grind [Ob]
theorem Du(n)(d:Ob n=true)(t):Ta ((we n).map UInt8.ofNat++t)=(n,(we n).length):=by
 have e:=NQ d;unfold we;by_cases a:n<128
 ·grind [Ta,b8]
 ·by_cases b:n<2048
  ·grind [Ta,b8,zb,dg]
  ·by_cases c:n<65536
   ·grind [Ta,b8,zb,dg]
   ·simp only[a,b,c,if_false,gc,Ve,Ha,Ra,ua,Ca]
    simp only[Ta,b8 (240+n/262144) aa];rw[if_neg aa,if_neg aa,if_neg aa,if_pos aa];have g:zb (UInt8.ofNat (128+n/4096 % 64)::UInt8.ofNat (128+n/64 % 64)::UInt8.ofNat (128+n % 64)::t) (240+n/262144 - 240) 3=(n,true):=by
     simp only[zb,b8 (128+n % 64) aa,b8 (128+n/64 % 64) aa,b8 (128+n/4096 % 64) aa];rw[if_pos aa,if_pos aa,if_pos aa];exact Prod.ext aa rfl
    grind [dg]
theorem zV{l}{k}(h:lh l k=true)(a:k<=l.length):Ta l=((zN l k k).toNat,k):=by
 grind [lh,Ka,List.take_append_drop,Du]
theorem Un(c)(n:Nat)(h:c.toNat=n):UInt8.ofNat n=c:=by grind [UInt8.ofNat_toNat]
theorem yO(c)(t:ba):Ta (c::t)=(65533,1)\/∃k,1<=k/\k<=4/\k<=(c::t).length/\lh (c::t) k=true:=by
 have u:=c.toNat_lt;have fi:∀n k:Nat,zN (c::t) k k=(n:Int)->Ob n=true->Ka n=(c::t).take k->lh (c::t) k=true:=fun n k p j l=>by
  grind [lh]
 simp only[Ta];by_cases p:c.toNat<128
 ·right
  refine⟨1,aa,aa,ea,fi c.toNat 1 ?_ ?_ ?_⟩
  ·rfl
  ·grind [Ob]
  grind [Ob,Ka,we,Un]
 ·rw[if_neg p]
  by_cases j:192<=c.toNat/\c.toNat<224
  ·rw[if_pos j]
   unfold dg;split
   ·rename_i h
    obtain⟨g1,a,g3⟩:=h;right
    match t,g1,a,g3 with
    |b::t,g1,a,g3=>
     simp only[zb]at g1 a g3;split at g1
     case isFalse=>cases g1
     rename_i g;rw[if_pos g]at a g3;dsimp only at a g3;obtain⟨n,i⟩:∃n,(c.toNat - 192)* 64+(b.toNat - 128)=n:=⟨_,rfl⟩;rw[i]at a g3;refine⟨2,aa,aa,ea,fi n 2 ?_ g3 ?_⟩
     ·grind [zN,Hl]
     grind [Ka,we,Un]
   simp
  ·rw[if_neg j]
   by_cases l:224<=c.toNat/\c.toNat<240
   ·rw[if_pos l]
    unfold dg;split
    ·rename_i h
     obtain⟨g1,a,g3⟩:=h;right
     match t,g1,a,g3 with
     |[b],g1,a,g3=>grind [zb]
     |b::d::t,g1,a,g3=>
      simp only[zb]at g1 a g3;split at g1
      case isFalse=>cases g1
      rename_i g;rw[if_pos g]at a g3;split at g1
      case isFalse=>cases g1
      rename_i o;rw[if_pos o]at a g3;dsimp only at a g3;obtain⟨n,i⟩:∃n,((c.toNat - 224)* 64+(b.toNat - 128))* 64+(d.toNat - 128)=n:=⟨_,rfl⟩;rw[i]at a g3;refine⟨3,aa,aa,ea,fi n 3 ?_ g3 ?_⟩
      ·grind [zN,Hl]
      ·unfold Ka we
       rw[if_pos g3,if_neg aa,if_neg aa,if_pos aa];simp[Un c (224+n/4096) aa,Un b (128+n/64 % 64) aa,Un d (128+n % 64) aa]
    simp
   ·rw[if_neg l]
    by_cases q:240<=c.toNat/\c.toNat<248
    ·rw[if_pos q]
     unfold dg;split
     ·rename_i h
      obtain⟨g1,a,g3⟩:=h;right
      match t,g1,a,g3 with
      |[b],g1,a,g3=>grind [zb]
      |[b,d],g1,a,g3=>grind [zb]
      |b::d::e::t,g1,a,g3=>
       simp only[zb]at g1 a g3;split at g1
       case isFalse=>cases g1
       rename_i g;rw[if_pos g]at a g3;split at g1
       case isFalse=>cases g1
       rename_i o;rw[if_pos o]at a g3;split at g1
       case isFalse=>cases g1
       rename_i r;rw[if_pos r]at a g3;dsimp only at a g3;obtain⟨n,i⟩:∃n,(((c.toNat - 240)* 64+(b.toNat - 128))* 64+(d.toNat - 128))* 64+(e.toNat - 128)=n:=⟨_,rfl⟩;rw[i]at a g3;refine⟨4,aa,aa,ea,fi n 4 ?_ g3 ?_⟩
       ·grind [zN,Hl]
       ·unfold Ka we
        rw[if_pos g3,if_neg aa,if_neg aa,if_neg aa];simp[Un c (240+n/262144) aa,Un b (128+n/4096 % 64) aa,Un d (128+n/64 % 64) aa,Un e (128+n % 64) aa]
     simp
    grind
theorem sP{l}{j}(ht:lh l j=true)(c:j<=4)(e:j<=l.length):∀n k,k<=j->j<k+n->Rj l n k≠none
 |0,k,a,b=>by omega
 |n+1,k,a,b=>by
  simp only[Rj];rw[if_pos ⟨aa,aa⟩];by_cases d:lh l k=true
  ·grind
  ·rw[if_neg d]
   refine sP ht c e n (k+1) ?_ aa
   grind
theorem zb1:∀l,ao l=Ta l
 |[]=>rfl
 |c::t=>by
  grind [ao,XD,zV,yO,sP]
variable {lib:Callee}
def Ez(s)(at_:Nat)(hs:Sm s)(a:at_<=s.length):da code lib 71 [.flat (.string (S s)),.flat (.int .i64 (at_:Nat))] [] []=some ([.flat (.int .i64 ((Ta (s.drop at_)).1:Nat)),.flat (.int .i64 ((Ta (s.drop at_)).2:Nat))],false,[],[]):=by
 rw[<-zb1];exact T9 s at_ hs a
theorem qA(l:ba)(k)(h:k<l.length):ff (l.drop k)=Ta (l.drop k)::ff (l.drop (k+(Ta (l.drop k)).2))/\1<=(Ta (l.drop k)).2/\k+(Ta (l.drop k)).2<=l.length/\(Ta (l.drop k)).1<8388608/\(Ta (l.drop k)).2<=4:=by
 grind [List.drop_eq_getElem_cons,Bq,wD,Aq,List.drop_drop,Rv]
def Ld(l:List Nat):List PV:=l.map fun r=>.flat (.int .i64 (r:Nat))
def sE{l}:(Ld l).length=l.length:=by simp[Ld]
theorem J4{a b}:Ld a++Ld b=Ld (a++b):=by simp[Ld]
theorem pQ:∀a,sd (Ld a)=true
 |[]=>rfl
 |c::a=>by show sd (.flat (.int .i64 (c:Nat))::Ld a)=true;rw[zv,pQ a];rfl
def Ru(s:ba)(q:List Nat×Nat):St:=⟨[(0,.flat (.string (S s))),(3,.ia q.1.length (Ld q.1)),(4,.flat (.int .i64 (q.2:Nat)))],[.slot 3],[],[]⟩
def eU(s)(hs:s.length<4294967296):da code lib 69 [.flat (.string (S s))] [] []=some ([.ia (Gd s).length (Ld (Gd s))],false,[],[]):=by
 refine la gZ (qa rfl) ?_;have c:Sm s:=by unfold Sm;omega
 have b:=Ah (body:=ma (da code lib) ja RB) (live:=[0,3,4]) (nb:=0) (Ru s) (fun q=>q.1.length<=q.2/\q.2<=s.length) (fun q=>s.length - q.2)
  (fun q=>(.exit 0,⟨[(3,.ia (q.1++Gd (s.drop q.2)).length (Ld (q.1++Gd (s.drop q.2))))],[.slot 3],[],[]⟩)) (fun⟨out,k⟩ ⟨h,e⟩=>?_) (n:=ja) (a:=([],0)) ⟨Aa _,Cb _⟩ (by grind [ja])
 ·simp only[Ru,yf,Ra,Ca]at b
  have d:Ld []=[]:=rfl;simp only[d,n0]at b;exact sa
 ·dsimp only at h e⊢
  have e1:=Ez (lib:=lib) s k c e;by_cases fa:k<s.length
  ·right
   obtain⟨hr,g1,d,g3,g4⟩:=qA s k fa;obtain⟨q,i⟩:∃q,Ta (s.drop k)=q:=⟨_,rfl⟩;rw[i]at e1 hr g1 d g3 g4;have c1:(k:Int)<s.length:=aa
   have j:IntKind.i64.wrap ((k:Int)+(q.2:Nat))=((k+q.2:Nat):Int):=wrap64 aa;have g:out.length+1<=za:=He
   have l:[PV.flat (.int .i64 (q.1:Nat))]=Ld [q.1]:=rfl;refine⟨⟨[(0,.flat (.string (S s))),(3,.ia (out.length+1) (Ld (out++[q.1]))),(4,.flat (.int .i64 ((k+q.2:Nat):Int)))],[.slot 3],[],[]⟩,(out++[q.1],k+q.2),?_,?_,⟨Ma,d⟩,aa,?_⟩
   ·simp only[NS,Ru,go_sem,simprocAttr,c1,Xa,e1,sE,pQ,g,j]
    grind [J4]
   ·exact Kb @Ru.eq_1 @Ba.{0}
   grind [Gd]
  ·left
   obtain rfl:k=s.length:=aa
   have c1:¬(s.length:Int)<s.length:=aa
   refine⟨.exit 0,⟨[(3,.ia out.length (Ld out))],[.slot 3],[],[]⟩,?_,ea,?_⟩
   ·exact Kb NS @Ru.eq_1
   ·have:Gd (s.drop s.length)=[]:=by rw[Vp];rfl
    grind
def U4(s)(c:Sm s):da code lib 110 [.flat (.string (S s))] [] []=some ([.flat (.bool (Sh s))],false,[],[]):=by
 refine la dZ (qa rfl) ?_;have hs:=c;unfold Sm at hs
 have b:=Ah (body:=ma (da code lib) ja OB) (live:=[0,3]) (nb:=0) (fun k:Nat=>(⟨[(0,.flat (.string (S s))),(3,.flat (.int .i64 (k:Nat)))],[],[],[]⟩:St)) (fun k=>k<=s.length) (fun k=>s.length - k)
  (fun k=>if Sh (s.drop k)then(.exit 0,⟨[],[],[],[]⟩)else(.ret,⟨[(2,.flat (.bool false))],[],[],[]⟩)) (fun k o=>?_) (n:=ja) (a:=0) (Cb _) (by grind [ja])
 ·simp only[yf,n0]at b
  cases d:Sh s with
  |true=>
   simp only[d,if_true]at b;exact sa
  |false=>
   simp only[d,La,if_false]at b;exact sa
 ·have e1:=Ez (lib:=lib) s k c o
  by_cases fa:k<s.length
  ·obtain⟨hr,g1,h,g3,g4⟩:=qA s k fa
   obtain⟨q,p⟩:∃q,Ta (s.drop k)=q:=⟨_,rfl⟩;rw[p]at e1 hr g1 h g3 g4;have d:Sh (s.drop k)=(!Qd q&&Sh (s.drop (k+q.2))):=by unfold Sh;rw[hr,zk]
   have c1:(k:Int)<s.length:=aa
   have r:IntKind.i64.wrap ((k:Int)+(q.2:Nat))=((k+q.2:Nat):Int):=wrap64 aa;by_cases i:q.1=65533
   ·have e:((q.1:Nat):Int)=65533:=aa
    by_cases j:q.2=1
    ·have g:((q.2:Nat):Int)=1:=aa
     left;have l:Qd q=true:=by simp[Qd,i,j]
     refine⟨.ret,⟨[(2,.flat (.bool false))],[],[],[]⟩,?_,ea,na⟩;exact va Sz
    ·have g:¬((q.2:Nat):Int)=1:=aa
     right;have l:Qd q=false:=by simp[Qd,j]
     refine⟨⟨[(0,.flat (.string (S s))),(3,.flat (.int .i64 ((k+q.2:Nat):Int)))],[],[],[]⟩,k+q.2,?_,?_,h,aa,na⟩
     ·exact va Sz
     ·exact sa
   ·have e:¬((q.1:Nat):Int)=65533:=aa
    right;have l:Qd q=false:=by simp[Qd,i]
    refine⟨⟨[(0,.flat (.string (S s))),(3,.flat (.int .i64 ((k+q.2:Nat):Int)))],[],[],[]⟩,k+q.2,?_,?_,h,aa,na⟩
    ·exact va Sz
    ·exact sa
  ·left
   obtain rfl:k=s.length:=aa
   have c1:¬(s.length:Int)<s.length:=aa
   have d:Sh (s.drop s.length)=true:=by rw[Vp];rfl
   refine⟨.exit 0,⟨[],[],[],[]⟩,?_,ea,na⟩;exact va Sz
def vq(l:ba)(a:Xp):ba:=(Je (pe l) a (ff (l.drop a.at_))).1.out
def nY(l)(a)(h:a.at_<l.length):vq l a=vq l (pe l a (Ta (l.drop a.at_))).1:=by
 grind [qA,vq,Je,rI,qI]
def ij(s:ba)(a:Xp):St:=⟨[(0,.flat (.string (S s))),(3,.flat (.string (S a.out))),(4,.flat (.int .i64 (a.at_:Nat)))],[],[],[]⟩
def Ux(s)(hs:s.length<1000000000):da code lib 34 [.flat (.string (S s))] [] []=some ([.flat (.string (S (Cf s)))],false,[],[]):=by
 refine la cZ (qa rfl) ?_;have p:Sm s:=by unfold Sm;omega
 have e:=Ah (body:=ma (da code lib) ja NB) (live:=[0,3,4]) (nb:=0) (ij s) (fun a=>a.at_<=s.length/\a.out.length<=4* a.at_) (fun a=>s.length - a.at_)
  (fun a=>(.exit 0,⟨[(3,.flat (.string (S (vq s a))))],[],[],[]⟩)) (fun a ⟨E,b⟩=>?_) (n:=ja) (a:=⟨0,false,[]⟩) ⟨Cb _,Aa _⟩ (by grind [ja])
 ·have b:vq s ⟨0,false,[]⟩=Cf s:=rfl
  have d:(⟨#[]⟩:ByteArray)=S []:=rfl;simp only[ij,b,n0]at e;exact sa
 ·have e1:=Ez (lib:=lib) s a.at_ p E
  by_cases fa:a.at_<s.length
  ·right
   obtain⟨hr,g1,w,g3,g4⟩:=qA s a.at_ fa;have j:=nY s a fa;obtain⟨q,G⟩:∃q,Ta (s.drop a.at_)=q:=⟨_,rfl⟩;rw[G]at e1 hr g1 w g3 g4 j;have F:=PU s a q;have d:=qI s a q;refine⟨ij s (pe s a q).1,(pe s a q).1,?_,by simp only[ij,go_sem,simprocAttr],⟨by rw[d];exact w,by rw[d];omega⟩,by rw[d];omega,by rw[j]⟩;have c1:(a.at_:Int)<s.length:=aa
   have A:IntKind.i64.wrap ((a.at_:Int)+(q.2:Nat))=((a.at_+q.2:Nat):Int):=wrap64 aa;have z:∀m:Nat,a.out.length+(Ka m).length<=za:=fun m=>by grind [ah,za]
   have i:=fun n:Nat=>yn (lib:=lib) n
   have r:da code lib 72 [.flat (.int .i64 10)] [] []=some ([.flat (.string (S (Ka 10)))],false,[],[]):=yn 10;have B:da code lib 72 [.flat (.int .i64 65533)] [] []=some ([.flat (.string (S (Ka 65533)))],false,[],[]):=yn 65533;by_cases r1:q.1=13
   ·have g:((q.1:Nat):Int)=13:=aa
    have u:hh 10=10:=ha
    by_cases r2:a.at_+q.2<s.length
    ·have b:((a.at_+q.2:Nat):Int)<s.length:=aa
     obtain⟨c,o⟩:∃c,s[a.at_+q.2]?=some c:=⟨_,qe r2⟩;have z0:(0:Int)<=((a.at_+q.2:Nat):Int):=aa
     by_cases r3:c=10
     ·subst r3
      have k:Uh s q a.at_=true:=by simp[Uh,r1,o]
      have l:(((10:UInt8).toNat:Nat):Int)=10:=rfl;exact xe Vm @ij.eq_1 @pe.eq_1
     ·have k:Uh s q a.at_=false:=by simp[Uh,o,r3]
      have l:¬((c.toNat:Nat):Int)=10:=fun h=>by
       have t:c.toNat=(10:UInt8).toNat:=by have:(10:UInt8).toNat=10:=rfl;omega
       exact r3 (Xb.1 t)
      exact xg Vm @ij.eq_1 @pe.eq_1 @r1
    ·have b:¬((a.at_+q.2:Nat):Int)<s.length:=aa
     have l:s[a.at_+q.2]?=none:=Qf aa;have k:Uh s q a.at_=false:=by simp[Uh,l]
     exact xg Vm @ij.eq_1 @pe.eq_1 @r1
   ·have g:(((q.1:Nat):Int)=13)=False:=by apply propext;simp only[iff_false];omega
    have k:Uh s q a.at_=false:=by simp[Uh,r1]
    have t:(((q.1:Nat):Int)<32)=(q.1<32):=by apply propext;omega
    have u:(((q.1:Nat):Int)=9)=(q.1=9):=by apply propext;omega
    have C:(((q.1:Nat):Int)=10)=(q.1=10):=by apply propext;omega
    have v:((127:Int)<=(q.1:Nat))=(127<=q.1):=by apply propext;omega
    have H:(((q.1:Nat):Int)<=159)=(q.1<=159):=by apply propext;omega
    have sh:hh q.1=if(q.1<32/\q.1≠9/\q.1≠10)\/(127<=q.1/\q.1<160)then 65533 else q.1:=rfl
    by_cases x:q.1<32
    ·by_cases y:q.1=9
     ·have b:hh q.1=q.1:=by rw[sh,if_neg aa]
      have o:=eq_true y;have l:¬127<=q.1:=aa
      simp only[Vm,ij,pe,k,r1,g,c1,A,Xa,Ij,e1,t,u,v,x,o,l,b,i,z,go_sem,simprocAttr]
     ·by_cases D:q.1=10
      ·have b:hh q.1=q.1:=by rw[sh,if_neg aa]
       have o:=eq_true D;have l:¬127<=q.1:=aa
       simp only[Vm,ij,pe,k,r1,g,c1,A,Xa,Ij,e1,t,u,C,v,x,y,o,l,b,i,z,go_sem,simprocAttr]
      ·have b:hh q.1=65533:=by rw[sh,if_pos aa]
       exact xg Vm @ij.eq_1 @pe.eq_1 @r1
    ·by_cases l:127<=q.1
     ·by_cases o:q.1<=159
      ·have b:hh q.1=65533:=by rw[sh,if_pos aa]
       exact xg Vm @ij.eq_1 @pe.eq_1 @r1
      ·have b:hh q.1=q.1:=by rw[sh,if_neg aa]
       exact xg Vm @ij.eq_1 @pe.eq_1 @r1
     ·have b:hh q.1=q.1:=by rw[sh,if_neg aa]
      exact xg Vm @ij.eq_1 @pe.eq_1 @r1
  ·left
   have b:a.at_=s.length:=aa
   have c1:¬(a.at_:Int)<s.length:=aa
   refine⟨.exit 0,⟨[(3,.flat (.string (S a.out)))],[],[],[]⟩,?_,ea,?_⟩
   ·exact Kb Vm @ij.eq_1
   ·have:vq s a=a.out:=by unfold vq;rw[b,Vp];rfl
    grind
theorem oA{σ c ρ ρ':Type}{step:σ->σ ⊕ Option ρ}{step':c->c ⊕ Option ρ'}(f:σ->c)(g:ρ->ρ')(d:∀a b,step a=.inl b->step' (f a)=.inl (f b))(e:∀a r,step a=.inr (some r)->step' (f a)=.inr (some (g r))):∀{n m a r},n<=m->Mb step none n a=some r->Mb step' none m (f a)=some (g r)
 |0,_,_,_,_,h=>by cases h
 |n+1,0,_,_,i,_=>by omega
 |n+1,m+1,a,r,i,h=>by
  cases hs:step a with
  |inl b=>rw[ef hs]at h;rw[ef (d a b hs)];exact oA f g d e aa h
  |inr q=>rw[ad hs]at h;subst h;exact ad (e a r hs)
def ab(c:UInt8):Nat:=if 48<=c.toNat/\c.toNat<=57 then c.toNat - 48 else if 65<=c.toNat/\c.toNat<=70 then c.toNat - 55 else if 97<=c.toNat/\c.toNat<=102 then c.toNat - 87 else 16
def re:ba->Option Nat
 |a::b::c::d::e::f::_=>if(a=92/\b=117)/\(ab c<=15/\ab d<=15)/\ab e<=15/\ab f<=15 then some (256* (16* ab c+ab d)+(16* ab e+ab f))else none
 |_=>none
def Vl(c:UInt8):Option Nat:=if c=34 then some 34 else if c=92 then some 92 else if c=98 then some 8 else if c=102 then some 12 else if c=110 then some 10 else if c=114 then some 13 else if c=116 then some 9 else if c=47 then some 47 else none
def Fm(l:ba):Option (Nat×Nat):=match(l[1]?).bind Vl with
 |some v=>some (v,2)
 |none=>match re l with
  |none=>none
  |some a=>if 55296<=a/\a<=57343 then(if a<=56319 then(match re (l.drop 6)with
   |none=>none
   |some b=>if 56320<=b/\b<=57343 then some (65536+1024* (a - 55296)+(b - 56320),12)else none)else none)else some (a,6)
def tf(l:ba):Option (Nat×Nat):=match l with
 |[]=>none
 |c::r=>if c=92 then Fm (c::r)else if(Ta (c::r)).1<32\/(Ta (c::r)).1=34\/Qd (Ta (c::r))=true then none else some (Ta (c::r))
def CV{l t}{v}(h:re l=some v):re (l++t)=some v:=by
 unfold re at h;split at h
 ·simpa[re]using h
 ·cases h
def Pp{l}{v}(h:re l=some v):6<=l.length/\v<65536:=by
 unfold re at h;split at h
 ·split at h
  ·cases h
   simp only[ua];omega
  ·cases h
 ·cases h
def j2{l t}{q}(h:Fm l=some q):Fm (l++t)=some q:=by
 have k:2<=l.length:=by
  match l with
  |[]=>cases h
  |[_]=>cases h
  |_::_::_=>simp
 have i:(l++t)[1]?=l[1]?:=ql aa;unfold Fm at h⊢;rw[i];cases hs:(l[1]?).bind Vl with
 |some v=>rw[hs]at h;exact h
 |none=>
  rw[hs]at h;dsimp only at h⊢;cases c:re l with
  |none=>rw[c]at h;cases h
  |some a=>
   have j:=(Pp c).1;rw[c]at h;rw[CV c,Jw j];dsimp only at h⊢;split
   ·rename_i d
    rw[if_pos d]at h;split
    ·rename_i e
     rw[if_pos e]at h;cases g:re (l.drop 6)with
     |none=>rw[g]at h;cases h
     |some b=>rw[g]at h;rw[CV g];exact h
    ·rename_i e;rw[if_neg e]at h;cases h
   ·rename_i d;rw[if_neg d]at h;exact h
theorem cQ:∀(l t:ba)(r m),(zb l r m).2=true->zb (l++t) r m=zb l r m
 |l,t,r,0,h=>by grind [zb]
 |[],t,r,m+1,h=>by cases h
 |c::l,t,r,m+1,h=>by
  have:=cQ l t
  grind [zb]
theorem q3{r a b l t}(h:dg r a b l≠(65533,1)):dg r a b (l++t)=dg r a b l:=by
 unfold dg at h⊢;split at h
 ·rename_i c;rw[cQ l t r b c.1]
 ·exact absurd rfl h
def L0{l t}(b:l≠[])(h:Qd (Ta l)=false):Ta (l++t)=Ta l:=by
 have a:Ta l≠(65533,1):=fun e=>by rw[e]at h;cases h
 cases l with
 |nil=>exact absurd rfl b
 |cons c r=>
  rw[Ha];unfold Ta at a⊢
  grind [q3]
def YS{l t}{q}(h:tf l=some q):tf (l++t)=some q:=by
 cases l with
 |nil=>cases h
 |cons c r=>
  have b:=L0 (l:=c::r) (t:=t) ea;have d:=j2 (l:=c::r) (t:=t) (q:=q);rw[Ha]at*;unfold tf at h⊢;dsimp only at h⊢;by_cases a:c=92
  ·rw[if_pos a]at h⊢;exact d h
  ·rw[if_neg a]at h⊢
   by_cases e:Qd (Ta (c::r))=true
   ·grind
   ·rw[b (by simpa using e)];exact h
def Ys{l}{q}(h:tf l=some q):1<=q.2/\q.2<=l.length/\q.1<8388608:=by
 cases l with
 |nil=>cases h
 |cons c r=>
  unfold tf Fm at h;dsimp only at h;have hs:=Bq c r;have hf:=wD (c::r);have b:=Aq (c::r);have e:=@Pp (c::r);have g:=@Pp ((c::r).drop 6);have a:∀x v,Vl x=some v->v<100:=fun x v h=>by unfold Vl at h;grind
  cases r with
  |nil=>grind
  |cons d r=>grind [List.length_drop]
def Mi(s:ba)(q:ba×Nat):(ba×Nat) ⊕ Option (ba×Nat):=match s.drop q.2 with
 |[]=>.inr none
 |c::r=>if c=34 then .inr (some (q.1,q.2+1))else match tf (c::r)with
  |none=>.inr none
  |some v=>.inl (q.1++Ka v.1,q.2+v.2)
def cn(s:ba)(k:Nat):Option (ba×Nat):=Mb (Mi s) none (s.length+1) ([],k)
def rp(c:UInt8):Bool:=decide (48<=c.toNat)&&decide (c.toNat<=57)
def Wc(l:ba):Nat:=(l.takeWhile rp).length
def jd(l:ba):Nat:=if l[0]?=some 45 then 1 else 0
def Vf(l:ba)(a:Nat):Nat:=a+(if l[a]?=some 48 then 1 else Wc (l.drop a))
def gh(l:ba)(e:Nat):Nat:=if l[e]?=some 46/\0<Wc (l.drop (e+1))then e+1+Wc (l.drop (e+1))else e
def Di(l:ba)(e:Nat):Nat:=if l[e]?=some 43\/l[e]?=some 45 then e+1 else e
def Dp(l:ba)(e:Nat):Nat:=if(l[e]?=some 101\/l[e]?=some 69)/\0<Wc (l.drop (Di l (e+1)))then Di l (e+1)+Wc (l.drop (Di l (e+1)))else e
def Yk(l:ba):Option Nat:=if Wc (l.drop (jd l))=0 then none else some (Dp l (gh l (Vf l (jd l))))
def pq{l:ba}{e:Nat}{c:UInt8}(a:c≠93):((l++[93])[e]?=some c)=(l[e]?=some c):=by
 apply propext;rcases Nat.lt_trichotomy e l.length with h|h|h<;>grind
def my(l:ba)(e:Nat):Wc ((l++[93]).drop e)=Wc (l.drop e):=by
 unfold Wc;rcases Mh l.length e with h|h
 ·rw[Hr Ma,Hr aa]
 ·rw[Jw h,List.takeWhile_append]
  split<;>simp_all[rp]
def Eu(l:ba)(e:Nat)(h:e<=l.length):e+Wc (l.drop e)<=l.length:=by
 have:=(List.takeWhile_sublist (p:=rp) (l:=l.drop e)).length_le;rw[fc]at this;unfold Wc;omega
def sm{l:ba}{e:Nat}{c:UInt8}(h:l[e]?=some c):e<l.length:=(qg h).1
def Nz{l}{k}(h:Yk l=some k):Yk (l++[93])=some k/\1<=k/\k<=l.length:=by
 have e1:jd (l++[93])=jd l:=by simp only[jd,pq (by decide:(45:UInt8)≠93)]
 have e2:∀a,Vf (l++[93]) a=Vf l a:=fun a=>by simp only[Vf,pq (by decide:(48:UInt8)≠93),my]
 have e3:∀a,gh (l++[93]) a=gh l a:=fun a=>by simp only[gh,pq (by decide:(46:UInt8)≠93),my]
 have e5:∀a,Di (l++[93]) a=Di l a:=fun a=>by simp only[Di,pq (by decide:(43:UInt8)≠93),pq (by decide:(45:UInt8)≠93)]
 have e4:∀a,Dp (l++[93]) a=Dp l a:=fun a=>by simp only[Dp,pq (by decide:(101:UInt8)≠93),pq (by decide:(69:UInt8)≠93),my,e5]
 unfold Yk at h⊢;rw[e1,my,e2,e3,e4];refine⟨h,?_⟩;split at h
 ·cases h
 cases h;have c:jd l<=l.length:=by have:=@sm l 0;grind [jd]
 have j:=Eu l _ c;have d:1<=Vf l (jd l)/\Vf l (jd l)<=l.length:=by have:=@sm l (jd l);grind [Vf]
 obtain⟨a,g⟩:∃a,Vf l (jd l)=a:=⟨_,rfl⟩;rw[g]at d⊢;have e:1<=gh l a/\gh l a<=l.length:=by have:=@sm l a;have:=Eu l (a+1);grind [gh]
 obtain⟨b,i⟩:∃b,gh l a=b:=⟨_,rfl⟩;rw[i]at e⊢;have:=@sm l b;have:=@sm l (b+1);have:=Eu l (Di l (b+1))
 grind [Dp,Di]
def wT:ba:=[116,114,117,101]
def Yh:ba:=[102,97,108,115,101]
def wN:ba:=[110,117,108,108]
def lg(l:ba):Option ba:=if wT.isPrefixOf l then some wT else if Yh.isPrefixOf l then some Yh else if wN.isPrefixOf l then some wN else none
def JH{w l:ba}(a:(93:UInt8)∉w):w.isPrefixOf (l++[93])=w.isPrefixOf l:=by
 rw[Ir,tl,tl];constructor
 ·intro h
  rcases List.prefix_concat_iff.1 h with h|h
  ·exact absurd (h▸List.mem_append_right l (so.2 rfl)) a
  ·exact h
 ·exact fun h=>h.trans (List.prefix_append _ _)
def zf7{l}:lg (l++[93])=lg l:=by
 unfold lg;rw[JH ha,JH ha,JH ha]
structure Qa where
 kind:UInt8
 text:ba
 fr:Nat
 to:Nat
def ll(c:UInt8):Bool:=([123,125,91,93,58,44]:ba).contains c
def xm(c:UInt8):Bool:=([32,9,13,10]:ba).contains c
def Fh(s:ba)(k:Nat):Option Qa:=match s.drop k with
 |[]=>none
 |c::r=>if ll c=true then some ⟨c,[],k,k+1⟩else if c=34 then(cn s (k+1)).map fun q=>⟨34,q.1,k,q.2⟩
  else match lg (c::r)with
   |some w=>some ⟨97,w,k,k+w.length⟩
   |none=>(Yk (c::r)).map fun n=>⟨48,(c::r).take n,k,k+n⟩
def xf(s:ba)(q:List Qa×Nat):(List Qa×Nat) ⊕ Option (List Qa):=match s.drop q.2 with
 |[]=>.inr (some q.1)
 |c::_=>if xm c=true then .inl (q.1,q.2+1)else match Fh s q.2 with
  |none=>.inr none
  |some t=>.inl (q.1++[t],t.to)
def Gh(s:ba):Option (List Qa):=Mb (xf s) none (s.length+1) ([],0)
def yg(s:ba):ba:=91::(s++[93])
def Qa.up(t:Qa):Qa:=⟨t.kind,t.text,t.fr+1,t.to+1⟩
def My{s:ba}{k:Nat}(h:k<=s.length):(yg s).drop (k+1)=s.drop k++[93]:=by
 unfold yg;rw[Zl,Jw h]
def uR{s:ba}{k}{c}{r:ba}(h:s.drop k=c::r):k<=s.length:=by
 rcases Nat.le_total k s.length with a|a
 ·exact a
 ·rw[Hr a]at h;cases h
def zeu{s k q}(h:cn s k=some q):cn (yg s) (k+1)=some (q.1,q.2+1):=by
 unfold cn at h⊢;have g:s.length+1<=(yg s).length+1:=by simp[yg]
 refine oA (step':=Mi (yg s)) (fun q=>(q.1,q.2+1)) (fun q=>(q.1,q.2+1)) (fun a b h=>?_) (fun a r h=>?_) g h<;>
 ·unfold Mi at h⊢
  cases d:s.drop a.2 with
  |nil=>rw[d]at h;cases h
  |cons c r=>
   rw[d]at h;rw[My (uR d),d,Ha];have e:=fun q=>YS (l:=c::r) (t:=[93]) (q:=q)
   rw[Ha]at e
   grind
def zeZ{s k t}(h:Fh s k=some t):Fh (yg s) (k+1)=some t.up:=by
 unfold Fh at h⊢;cases a:s.drop k with
 |nil=>rw[a]at h;cases h
 |cons c r=>
  rw[a]at h;rw[My (uR a),a,Ha];have i:=@zeu s (k+1);have d:=@Nz (c::r);have e:=@zf7 (c::r);rw[Ha]at d e;dsimp only at h⊢;rw[e];by_cases g1:ll c=true
  ·rw[if_pos g1]at h⊢;cases h;rfl
  rw[if_neg g1]at h⊢;by_cases b:c=34
  ·rw[if_pos b]at h⊢
   obtain⟨q,j,rfl⟩:=qm h;rw[i j];rfl
  rw[if_neg b]at h⊢;cases g:lg (c::r)with
  |some w=>rw[g]at h;cases h;simp[Qa.up,Nat.add_right_comm]
  |none=>
   rw[g]at h;obtain⟨n,o,rfl⟩:=qm h;obtain⟨j,p,l⟩:=d o;dsimp only;rw[j,fd,<-Ha,List.take_append_of_le_length l];simp[Qa.up,Nat.add_right_comm]
def ZU{s k q}(d:k<=s.length)(h:cn s k=some q):k<q.2/\q.2<=s.length:=by
 refine kk (step:=Mi s) (I:=fun a:ba×Nat=>k<=a.2/\a.2<=s.length) (μ:=fun a=>s.length - a.2) (Q:=fun r=>∀q,r=some q->k<q.2/\q.2<=s.length) (fun a i=>?_) _ _ ⟨Aa _,d⟩ Hg q h;unfold Mi;cases b:s.drop a.2 with
 |nil=>simp
 |cons c r=>
  have e:=gg b;have g:=@Ys (c::r)
  grind
def zf6{l w}(h:lg l=some w):1<=w.length/\w.length<=l.length:=by
 unfold lg at h;have a:=@Zm wT l;have b:=@Zm Yh l;have c:=@Zm wN l
 grind [wT,Yh,wN]
def pw{s k t}(h:Fh s k=some t):k<t.to/\t.to<=s.length/\t.fr=k:=by
 unfold Fh at h;cases a:s.drop k with
 |nil=>rw[a]at h;cases h
 |cons c r=>
  rw[a]at h;have e:=gg a;have b:=@zf6 (c::r);rw[ua]at b;dsimp only at h;split at h
  ·cases h;dsimp only;omega
  split at h
  ·obtain⟨q,d,rfl⟩:=qm h
   have:=ZU aa d;dsimp only;omega
  split at h
  ·rename_i w d
   cases h;have:=b d;dsimp only;omega
  ·obtain⟨n,d,rfl⟩:=qm h
   have:=Nz d;rw[ua]at this;dsimp only;omega
def ze2{s l}(h:Gh s=some l):Gh (yg s)=some (⟨91,[],0,1⟩::(l.map Qa.up++[⟨93,[],s.length+1,s.length+2⟩])):=by
 have p:∀a,xf (yg s) (a,s.length+1)=.inl (a++[⟨93,[],s.length+1,s.length+2⟩],s.length+2):=fun a=>by
  have b:(yg s).drop (s.length+1)=[93]:=by rw[My (Aa _),Vp];rfl
  unfold xf Fh;dsimp only;rw[b];rfl
 have u:∀a,xf (yg s) (a,s.length+2)=.inr (some a):=fun a=>by
  have b:(yg s).drop (s.length+2)=[]:=Hr (by simp[yg]);unfold xf;dsimp only;rw[b]
 have g:∀(n m k:Nat)(a out:List Qa),n+1<=m->k<=s.length->Mb (xf s) none n (a,k)=some out->Mb (xf (yg s)) none m (⟨91,[],0,1⟩::a.map Qa.up,k+1)=some (⟨91,[],0,1⟩::(out.map Qa.up++[⟨93,[],s.length+1,s.length+2⟩])):=by
  intro n
  induction n with
  |zero=>intro m k a out q e h;cases h
  |succ n o=>
   intro m k a out q e h;obtain⟨m,rfl⟩:∃j,m=j+1:=⟨m - 1,aa⟩;cases b:s.drop k with
   |nil=>
    have d:k=s.length:=Nat.le_antisymm e (xk.1 b);subst d;obtain⟨m,rfl⟩:∃j,m=j+1:=⟨m - 1,aa⟩;have hs:xf s (a,s.length)=.inr (some a):=by unfold xf;dsimp only;rw[b]
    rw[ad hs]at h;cases h;rw[ef (p _),ad (u _),Ha]
   |cons c r=>
    have hs:xf s (a,k)=if xm c=true then .inl (a,k+1)else match Fh s k with
     |none=>.inr none
     |some t=>.inl (a++[t],t.to):=by unfold xf;dsimp only;rw[b]
    have d:xf (yg s) (⟨91,[],0,1⟩::a.map Qa.up,k+1)=if xm c=true then .inl (⟨91,[],0,1⟩::a.map Qa.up,k+1+1)else match Fh (yg s) (k+1)with
     |none=>.inr none
     |some t=>.inl (⟨91,[],0,1⟩::a.map Qa.up++[t],t.to):=by unfold xf;dsimp only;rw[My e,b];rfl
    have v:=gg b;by_cases i:xm c=true
    ·rw[if_pos i]at hs d
     rw[ef hs]at h;rw[ef d];exact o m (k+1) a out aa aa h
    ·rw[if_neg i]at hs d
     cases ht:Fh s k with
     |none=>rw[ht]at hs;rw[ad hs]at h;cases h
     |some t=>
      rw[ht]at hs;rw[zeZ ht]at d;rw[ef hs]at h;rw[ef d];have:=o m t.to (a++[t]) out aa (pw ht).2.1 h;rwa[Zf]at this
 exact g (s.length+1) (yg s).length 0 [] l (by simp[yg]) (Cb _) h
inductive JV where
 | mk (kind:UInt8) (text:ba) (keys:List ba) (kids:List JV)
def zh(c:UInt8):Bool:=([34,48,97]:ba).contains c
def If(c:UInt8):Bool:=([91,123]:ba).contains c
def Dd(c:UInt8):UInt8:=if c=123 then 125 else 93
def mc(l:List Qa)(k:Nat)(c:UInt8):Bool:=match l[k]? with
 |some t=>decide (t.kind=c)
 |none=>false
def oi(l:List Qa)(k:Nat):ba:=match l[k]? with
 |some t=>t.text
 |none=>[]
def Kf(val:Nat->Option (JV×Nat))(l:List Qa)(c:UInt8)(t:ba)(q:List ba×List JV×Nat):(List ba×List JV×Nat) ⊕ Option (JV×Nat):=
 if c=123/\(mc l (q.2.2+1) 34&&mc l (q.2.2+2) 58)=false then .inr none else
 match val (if c=123 then q.2.2+3 else q.2.2+1)with
 |none=>.inr none
 |some (v,k)=>if mc l k (Dd c)=true then .inr (some (.mk c t (if c=123 then q.1++[oi l (q.2.2+1)]else q.1) (q.2.1++[v]),k+1))
  else if mc l k 44=true then .inl (if c=123 then q.1++[oi l (q.2.2+1)]else q.1,q.2.1++[v],k)else .inr none
def Vb:Nat->List Qa->Nat->Option (JV×Nat)
 |0,_,_=>none
 |n+1,l,k=>match l[k]? with
  |none=>none
  |some t=>if zh t.kind=true then some (.mk t.kind t.text [] [],k+1)
   else if If t.kind=true then(if mc l (k+1) (Dd t.kind)=true then some (.mk t.kind t.text [] [],k+2)else Mb (Kf (Vb n l) l t.kind t.text) none (l.length+1) ([],[],k))
   else none
mutual
def ee:JV->Nat
 | .mk _ _ _ l=>Xe l+1
def Xe:List JV->Nat
 |[]=>0
 |v::l=>max (ee v) (Xe l)
end
theorem DO:∀(a b),Xe (a++b)=max (Xe a) (Xe b)
 |[],b=>by simp[Xe]
 |v::a,b=>by simp only[Ha,Xe,DO a b];omega
def Th{l:List Qa}{k c}(h:mc l k c=true):k<l.length/\∃t,l[k]?=some t/\t.kind=c:=by
 unfold mc at h;cases a:l[k]? with
 |none=>rw[a]at h;cases h
 |some t=>rw[a]at h;exact⟨(qg a).1,t,rfl,by simpa using h⟩
theorem MA{l:List Qa}(P:Nat->JV->Nat->Prop)(R:Nat->UInt8->ba->List ba->List JV->Nat->Prop)
 (y:∀k t,l[k]?=some t->zh t.kind=true->P k (.mk t.kind t.text [] []) (k+1))
 (z:∀k t,l[k]?=some t->If t.kind=true->mc l (k+1) (Dd t.kind)=true->P k (.mk t.kind t.text [] []) (k+2))
 (A:∀k t,l[k]?=some t->If t.kind=true->mc l (k+1) (Dd t.kind)=false->R k t.kind t.text [] [] k)
 (B:∀a c t ks vs k v k',If c=true->R a c t ks vs k->(c=123->mc l (k+1) 34=true/\mc l (k+2) 58=true)->P (if c=123 then k+3 else k+1) v k'->
   (mc l k' (Dd c)=true->P a (.mk c t (if c=123 then ks++[oi l (k+1)]else ks) (vs++[v])) (k'+1))/\(mc l k' (Dd c)=false->mc l k' 44=true->R a c t (if c=123 then ks++[oi l (k+1)]else ks) (vs++[v]) k')):
 ∀n k v k',Vb n l k=some (v,k')->P k v k':=by
 intro n
 induction n with
 |zero=>intro k v k' h;cases h
 |succ n C=>
  intro a v0 x h;unfold Vb at h;cases ht:l[a]? with
  |none=>rw[ht]at h;cases h
  |some t=>
   rw[ht]at h;dsimp only at h;split at h
   ·rename_i b;cases h;exact y a t ht b
   split at h
   ·rename_i o
    split at h
    ·rename_i j;cases h;exact z a t ht o j
    ·rename_i j
     have p:∀(m:Nat)(q:List ba×List JV×Nat),R a t.kind t.text q.1 q.2.1 q.2.2->Mb (Kf (Vb n l) l t.kind t.text) none m q=some (v0,x)->P a v0 x:=by
      intro m
      induction m with
      |zero=>intro q u h;cases h
      |succ m D=>
       intro q u h;by_cases b:t.kind=123/\(mc l (q.2.2+1) 34&&mc l (q.2.2+2) 58)=false
       ·rw[ad (show Kf (Vb n l) l t.kind t.text q=.inr none by unfold Kf;rw[if_pos b])]at h;cases h
       cases g:Vb n l (if t.kind=123 then q.2.2+3 else q.2.2+1)with
       |none=>rw[ad (show Kf (Vb n l) l t.kind t.text q=.inr none by unfold Kf;rw[if_neg b,g])]at h;cases h
       |some w=>
        obtain⟨v,k'⟩:=w;have r:=B a t.kind t.text q.1 q.2.1 q.2.2 v k' o u (fun e=>by simp only[e,true_and,Kw,bc]at b;exact b) (C _ _ _ g);by_cases d:mc l k' (Dd t.kind)=true
        ·rw[ad (show Kf (Vb n l) l t.kind t.text q=.inr (some _) by unfold Kf;rw[if_neg b,g];dsimp only;rw[if_pos d])]at h
         cases h;exact r.1 d
        ·by_cases i:mc l k' 44=true
         ·rw[ef (show Kf (Vb n l) l t.kind t.text q=.inl _ by unfold Kf;rw[if_neg b,g];dsimp only;rw[if_neg d,if_pos i])]at h
          exact D _ (r.2 (by simpa using d) i) h
         ·rw[ad (show Kf (Vb n l) l t.kind t.text q=.inr none by unfold Kf;rw[if_neg b,g];dsimp only;rw[if_neg d,if_neg i])]at h
          cases h
     exact p _ ([],[],a) (A a t ht o (by simpa using j)) h
   ·cases h
def zfs{l l':List Qa}(G:l.length<=l'.length)(C:∀i t,l[i]?=some t->∃j,l'[i+1]?=some j/\j.kind=t.kind/\j.text=t.text):∀n k v k',Vb n l k=some (v,k')->Vb n l' (k+1)=some (v,k'+1):=by
 have g:∀i t,l[i]?=some t->(∀c,mc l' (i+1) c=mc l i c)/\oi l' (i+1)=oi l i:=fun i t ht=>by
  obtain⟨j,p,y,e⟩:=C i t ht;exact⟨fun c=>by simp[mc,ht,p,y],by simp[oi,ht,p,e]⟩
 have d:∀i c,mc l i c=true->(∀c,mc l' (i+1) c=mc l i c)/\oi l' (i+1)=oi l i:=fun i c h=>by
  obtain⟨_,t,ht,e⟩:=Th h;exact g i t ht
 intro n
 induction n with
 |zero=>intro k v k' h;cases h
 |succ n D=>
  intro k v k' h;unfold Vb at h⊢;cases ht:l[k]? with
  |none=>rw[ht]at h;cases h
  |some t=>
   obtain⟨j,e1,e2,e3⟩:=C k t ht;rw[ht]at h;rw[e1];dsimp only at h⊢;rw[e2,e3];by_cases g1:zh t.kind=true
   ·rw[if_pos g1]at h⊢;cases h;rfl
   rw[if_neg g1]at h⊢;by_cases A:If t.kind=true
   ·rw[if_pos A]at h⊢
    by_cases g3:mc l (k+1) (Dd t.kind)=true
    ·rw[if_pos g3]at h;rw[if_pos (by rw[(d _ _ g3).1];exact g3)];cases h;rfl
    ·rw[if_neg g3]at h
     have z:∃x,l[k+1]?=some x:=by
      cases e:l[k+1]? with
      |some x=>exact⟨x,rfl⟩
      |none=>
       have p:mc l (k+1) 34=false:=by unfold mc;rw[e]
       have y:Vb n l (k+1)=none:=by unfold Vb;split<;>simp[e]
       rw[ad (show Kf (Vb n l) l t.kind t.text ([],[],k)=.inr none by unfold Kf;by_cases g4:t.kind=123<;>simp[g4,p,y])]at h;cases h
     obtain⟨x,z⟩:=z;rw[if_neg (by rw[(g _ x z).1];exact g3)];refine oA (fun q:List ba×List JV×Nat=>(q.1,q.2.1,q.2.2+1)) (fun q:JV×Nat=>(q.1,q.2+1)) (fun a b h=>?_) (fun a b h=>?_) aa h<;>
     ·unfold Kf at h⊢
      have r:=d (a.2.2+1) 34;have E:=d (a.2.2+2) 58;by_cases B:t.kind=123
      ·simp only[B,true_and,if_true]at h⊢
       by_cases o:(mc l (a.2.2+1) 34&&mc l (a.2.2+2) 58)=false
       ·rw[if_pos o]at h;cases h
       have u:=o;simp only[Kw,bc]at u;have r:=r u.1;rw[if_neg o]at h;rw[r.1,(E u.2).1,if_neg o,r.2];cases e:Vb n l (a.2.2+3)with
       |none=>rw[e]at h;cases h
       |some w=>
        rw[D _ _ _ e];rw[e]at h;have F:=d w.2
        grind
      ·simp only[B,false_and,if_false]at h⊢
       cases e:Vb n l (a.2.2+1)with
       |none=>rw[e]at h;cases h
       |some w=>
        rw[D _ _ _ e];rw[e]at h;have F:=d w.2
        grind
   ·rw[if_neg A]at h;cases h
def Ag(q:List UInt8×Nat×Nat)(c:UInt8):Option (List UInt8×Nat×Nat):=
 if(q.2.2=1\/q.2.2=3\/q.2.2=5)/\(q.1≠[]/\c=(if q.1.head?=some 123 then 125 else 93))then some (q.1.tail,q.2.1,5)
 else if(q.2.2=0\/q.2.2=1)/\If c=true then some (c::q.1,max q.2.1 (q.1.length+1),if c=123 then 3 else 1)
 else if(q.2.2=0\/q.2.2=1)/\zh c=true then some (q.1,max q.2.1 (q.1.length+1),5)
 else if(q.2.2=2\/q.2.2=3)/\c=34 then some (q.1,q.2.1,4)
 else if q.2.2=4/\c=58 then some (q.1,q.2.1,0)
 else if q.2.2=5/\c=44/\q.1≠[]then some (q.1,q.2.1,if q.1.head?=some 123 then 2 else 0)
 else none
def Xh:List Qa->List UInt8×Nat×Nat->Option (List UInt8×Nat×Nat)
 |[],q=>some q
 |t::l,q=>(Ag q t.kind).bind (Xh l)
def eo{l:List Qa}{k t}(h:l[k]?=some t)(q):Xh (l.drop k) q=(Ag q t.kind).bind (Xh (l.drop (k+1))):=by
 obtain⟨a,b⟩:=qg h;rw[Pd a,b];rfl
def vU(l:List Qa):∀n k v k',Vb n l k=some (v,k')->k<k'/\∀o d w,(w=0\/w=1)->Xh (l.drop k) (o,d,w)=Xh (l.drop k') (o,max d (o.length+ee v),5):=by
 refine MA (P:=fun k v k'=>k<k'/\∀o d w,(w=0\/w=1)->Xh (l.drop k) (o,d,w)=Xh (l.drop k') (o,max d (o.length+ee v),5))
  (R:=fun p c t ks vs k=>p<=k/\∀o d w,(w=0\/w=1)->Xh (l.drop p) (o,d,w)=Xh (l.drop (k+1)) (c::o,max d (o.length+Xe vs+1),if k=p then(if c=123 then 3 else 1)else(if c=123 then 2 else 0))) ?_ ?_ ?_ ?_
 ·refine fun k t ht a=>⟨aa,fun o d w g=>?_⟩
  rw[eo ht];have hs:Ag (o,d,w) t.kind=some (o,max d (o.length+1),5):=by grind [Ag,zh,If]
  rw[hs];rfl
 ·refine fun k t ht B q=>⟨aa,fun o d w g=>?_⟩
  obtain⟨_,t2,j,h⟩:=Th q;rw[eo ht];have hs:Ag (o,d,w) t.kind=some (t.kind::o,max d (o.length+1),if t.kind=123 then 3 else 1):=by grind [Ag,If]
  rw[hs,Ja,eo j,h];have i:Ag (t.kind::o,max d (o.length+1),if t.kind=123 then 3 else 1) (Dd t.kind)=some (o,max d (o.length+1),5):=by grind [Ag,Dd,If]
  rw[i];rfl
 ·refine fun k t ht B q=>⟨Aa _,fun o d w g=>?_⟩
  rw[eo ht,if_pos rfl];have hs:Ag (o,d,w) t.kind=some (t.kind::o,max d (o.length+1),if t.kind=123 then 3 else 1):=by grind [Ag,If]
  rw[hs];rfl
 ·intro p c t ks vs k v k' B u F z
  have G:k<k':=by have:=z.1;split at this<;>omega
  have r:∀o d w,(w=0\/w=1)->Xh (l.drop p) (o,d,w)=Xh (l.drop k') (c::o,max d (o.length+Xe (vs++[v])+1),5):=fun o d w g=>by
   rw[u.2 o d w g];have A:max (max d (o.length+Xe vs+1)) ((c::o).length+ee v)=max d (o.length+Xe (vs++[v])+1):=by
    rw[DO,Xe,Xe,ua];omega
   by_cases y:c=123
   ·obtain⟨D,E⟩:=F y
    obtain⟨_,C,b,a⟩:=Th D;obtain⟨_,t2,j,h⟩:=Th E;rw[eo b,a];have hs:∀w,(w=2\/w=3)->Ag (c::o,max d (o.length+Xe vs+1),w) 34=some (c::o,max d (o.length+Xe vs+1),4):=fun w g=>by grind [Ag]
    rw[hs _ na,Ja,eo j,h];have i:Ag (c::o,max d (o.length+Xe vs+1),4) 58=some (c::o,max d (o.length+Xe vs+1),0):=by grind [Ag]
    rw[i,Ja];have:=z.2 (c::o) (max d (o.length+Xe vs+1)) 0 (.inl rfl);rw[if_pos y]at this;rw[this,A]
   ·have:=z.2 (c::o) (max d (o.length+Xe vs+1)) (if k=p then(if c=123 then 3 else 1)else(if c=123 then 2 else 0)) na
    rw[if_neg y]at this;rw[this,A]
  refine⟨fun q=>⟨by have:=u.1;omega,fun o d w g=>?_⟩,fun q x=>⟨by have:=u.1;omega,fun o d w g=>?_⟩⟩
  ·obtain⟨_,C,b,a⟩:=Th q
   rw[r o d w g,eo b,a];have hs:∀e,Ag (c::o,e,5) (Dd c)=some (o,e,5):=fun e=>by grind [Ag,Dd]
   rw[hs,ee];rfl
  ·obtain⟨_,C,b,a⟩:=Th x
   rw[r o d w g,eo b,a];have hs:∀e,Ag (c::o,e,5) 44=some (c::o,e,if c=123 then 2 else 0):=fun e=>by grind [Ag,If,zh]
   have y:¬k'=p:=by have:=u.1;omega
   rw[hs,if_neg y];rfl
variable {lib:Callee}
def Iu:PV->PV->Bool
 | .flat (.int k a),.flat (.int k' b)=>decide (k=k')&&decide (a=b)
 | .flat (.bool a),.flat (.bool b)=>decide (a=b)
 | .flat (.string a),.flat (.string b)=>decide (a.data.toList=b.data.toList)
 |_,_=>false
def HD{p q:PV}(h:Iu p q=true):p=q:=by
 unfold Iu at h;split at h
 ·simp only[bc,decide_eq_true_eq]at h;rw[h.1,h.2]
 ·simp only[decide_eq_true_eq]at h;rw[h]
 ·simp only[decide_eq_true_eq]at h
  congr 2;exact Ft (qi h)
 ·cases h
def Hu:Option Fe->List PV->Bool
 |some ([a],false,[],[]),[b]=>Iu a b
 |some ([a,c],false,[],[]),[b,d]=>Iu a b&&Iu c d
 |_,_=>false
def VO{a l}(h:Hu a l=true):a=some (l,false,[],[]):=by
 unfold Hu at h;split at h
 ·rw[HD h]
 ·simp only[bc]at h;rw[HD h.1,HD h.2]
 ·cases h
def qv{f:FuncId}(g:UInt8->List PV)(h:(List.range 256).all (fun n=>Hu (Df So lib 60 f [.flat (.int .u8 n)] [] []) (g (UInt8.ofNat n)))=true)(c:UInt8):da code lib f [.flat (.int .u8 c.toNat)] [] []=some (g c,false,[],[]):=by
 have:=VO (Lj (p:=fun n=>Hu (Df So lib 60 f [.flat (.int .u8 n)] [] []) (g (UInt8.ofNat n))) h c);rw[UInt8.ofNat_toNat]at this;exact Im.2 ⟨60,by rw[is];exact this⟩
def oQ(n:Nat):UInt8:=if n<10 then UInt8.ofNat (48+n)else UInt8.ofNat (55+n)
def uf(c:UInt8):ba:=[oQ (c.toNat/16),oQ (c.toNat % 16)]
def HO:∀c:UInt8,da code lib 277 [.flat (.int .u8 c.toNat)] [] []=some ([.flat (.int .i64 (ab c:Nat))],false,[],[]):=qv (fun c=>[.flat (.int .i64 (ab c:Nat))]) ca
def gT:∀c:UInt8,da code lib 204 [.flat (.int .u8 c.toNat)] [] []=some ([.flat (.string (S (uf c)))],false,[],[]):=qv (fun c=>[.flat (.string (S (uf c)))]) ca
def hT:∀c:UInt8,da code lib 234 [.flat (.int .u8 c.toNat)] [] []=some ([.flat (.string (S (uf c)))],false,[],[]):=qv (fun c=>[.flat (.string (S (uf c)))]) ca
def VV:∀c:UInt8,da code lib 272 [.flat (.int .u8 c.toNat)] [] []=some ([.flat (.int .u8 (if ab c<=15 then ab c else 0:Nat)),.flat (.bool (decide (ab c<=15)))],false,[],[]):=qv (fun c=>[.flat (.int .u8 (if ab c<=15 then ab c else 0:Nat)),.flat (.bool (decide (ab c<=15)))]) ca
def WW:∀c:UInt8,da code lib 125 [.flat (.int .u8 c.toNat)] [] []=some ([.flat (.bool (xm c))],false,[],[]):=qv (fun c=>[.flat (.bool (xm c))]) ca
def wU:da code lib 132 [] [] []=some ([.ia 7 (Ld [34,92,8,12,10,13,9]),.flat (.string (S [34,92,98,102,110,114,116]))],false,[],[]):=Im.2 ⟨60,by rw[is];kernel_rfl⟩
def EO(c:UInt8):ab c<=16:=by grind [ab]
def Gg:ba->Option UInt8
 |a::b::_=>if ab a<=15/\ab b<=15 then some (UInt8.ofNat (16* ab a+ab b))else none
 |_=>none
def Jx{a b:UInt8}(c:ab a<=15)(d:ab b<=15):(UInt8.ofNat (16* ab a+ab b)).toNat=16* ab a+ab b:=Ma
theorem oK(s:ba)(k:Nat)(hs:s.length<=1000000000)(u:k<=1000000000):da code lib 237 [.flat (.string (S s)),.flat (.int .i64 (k:Nat))] [] []=some (match Gg (s.drop k)with
 |some b=>[.flat (.int .u8 b.toNat),.flat (.bool true)]
 |none=>[.flat (.int .u8 0),.flat (.bool false)],false,[],[]):=by
 match c:s.drop k with
 |[]=>
  have d:=xk.1 c;simp only[Gg];exact Fa tu
 |[a]=>
  have d:=gg c;rw[Ca]at d;simp only[Gg];exact Fa tu
 |a::b::r=>
  have q:=Vh c;have t:=Vh (Em c);have d:=gg c;rw[ua]at d;have o:=HO (lib:=lib) a;have p:=HO (lib:=lib) b;have l:=EO a;have n:=EO b;have j:=@Jx a b;simp only[Gg];clear c;generalize ab a=x at*;generalize ab b=y at*;by_cases g:x<=15
  ·by_cases i:y<=15
   ·rw[if_pos ⟨g,i⟩]
    dsimp only;rw[j g i];have e:((16* x:Nat):Int)=16* (x:Int):=aa
    clear j;exact Fa tu
   ·rw[if_neg fun h=>i h.2]
    exact Fa tu
  ·rw[if_neg fun h=>g h.1]
   exact Fa tu
def KI(l:ba):re l=if([92,117]:ba).isPrefixOf l=true then(match Gg (l.drop 2),Gg (l.drop 4)with|some a,some b=>some (256* a.toNat+b.toNat)|_,_=>none)else none:=by
 match l with
 |[]=>rfl
 |[_]=>simp[re]
 |[_,_]=>simp[re,Gg]
 |[_,_,_]=>simp[re,Gg]
 |[_,_,c,d]=>simp[re,Gg]
 |[_,_,c,d,_]=>simp[re,Gg]
 |a::b::c::d::e::f::r=>
  have g:=@Jx c d;have h:=@Jx e f;simp only[re,Gg,Zl,yf,List.isPrefixOf,sk,bc,beq_iff_eq]
  grind
def Dx(s w:ba)(k:Nat)(hs:s.length<=1000000000)(b:w.length<=1000000000)(c:w≠[])(a:k<=1000000000):da code lib 105 [.flat (.string (S s)),.flat (.string (S w)),.flat (.int .i64 (k:Nat))] [] []=some ([.flat (.bool (w.isPrefixOf (s.drop k)))],false,[],[]):=by
 rw[Io s w k hs b a];unfold Tb;by_cases h:k<=s.length
 ·simp[h]
 ·rw[Hr aa]
  cases w<;>simp_all[List.isPrefixOf]
def BV(s:ba)(k:Nat)(hs:s.length<=1000000000)(l:k<=100000000):da code lib 287 [.flat (.string (S s)),.flat (.int .i64 (k:Nat))] [] []=some ([.flat (.int .i64 (match re (s.drop k)with|some v=>(v:Int)|none=>-1))],false,[],[]):=by
 have g:=Dx (lib:=lib) s [92,117] k hs ha ha aa;have d:=oK (lib:=lib) s (k+2) hs aa;have c:=oK (lib:=lib) s (k+4) hs aa;rw[KI,yd,yd];simp only[Ee,n2,n4]at d c;rcases Nh (([92,117]:ba).isPrefixOf (s.drop k))with h|h
 ·rw[h]at g
  rw[if_pos h];cases e1:Gg (s.drop (k+2))with
  |none=>rw[e1]at d;cases e2:Gg (s.drop (k+4))<;>(rw[e2]at c;exact Fa cy)
  |some a=>
   rw[e1]at d;have i:=a.toNat_lt;cases e2:Gg (s.drop (k+4))with
   |none=>rw[e2]at c;exact Fa cy
   |some b=>
    rw[e2]at c;have j:=b.toNat_lt;have e:((256* a.toNat:Nat):Int)=256* (a.toNat:Int):=aa
    exact Fa cy
 ·rw[h]at g
  rw[if_neg (by simp[h])];exact Fa cy
def hI(d:UInt8):(d=34\/d=92\/d=98\/d=102\/d=110\/d=114\/d=116\/d=47)\/(Vl d=none/\d≠34/\d≠92/\d≠98/\d≠102/\d≠110/\d≠114/\d≠116/\d≠47):=by
 unfold Vl;grind
theorem G_(s:ba)(k:Nat)(hs:s.length<=100000)(U:k<=s.length):da code lib 260 [.flat (.string (S s)),.flat (.int .i64 (k:Nat))] [] []=some (match tf (s.drop k)with
 |some q=>[.flat (.int .i64 (q.1:Nat)),.flat (.int .i64 (q.2:Nat)),.flat (.bool true)]
 |none=>[.flat (.int .i64 0),.flat (.int .i64 0),.flat (.bool false)],false,[],[]):=by
 have A:=Ez (lib:=lib) s k (by unfold Sm;omega) U;have o:=BV (lib:=lib) s k aa aa;have p:=BV (lib:=lib) s (k+6) aa aa;have l:∀w:UInt8,da code lib 105 [.flat (.string (S s)),.flat (.string (S [w])),.flat (.int .i64 ((k:Nat)+1))] [] []=some ([.flat (.bool (decide (s[k+1]?=some w)))],false,[],[]):=fun w=>by
  have:=Dx (lib:=lib) s [w] (k+1) aa ea ea aa;simp only[Ee,n1]at this;rw[this];have e:s[k+1]?=(s.drop (k+1))[0]?:=by rw[kg,pi]
  rw[e];congr 5;rw[Ir];cases s.drop (k+1)with
  |nil=>simp[List.isPrefixOf]
  |cons x t=>simp only[List.isPrefixOf,sk,beq_iff_eq,ro,Wb,decide_eq_true_eq];exact eq_comm
 simp only[Ee,show((6:Nat):Int)=6 from rfl]at p
 match j:s.drop k with
 |[]=>
  have V:=xk.1 j;simp only[tf];exact Fa di
 |c::r=>
  have X:=Vh j;have V:=gg j;have hr:s[k+1]?=r[0]?:=by rw[<-Em j,kg,pi]
  rw[j]at A o;rw[hr]at l;have E:=Aq (c::r);have H:s.drop (k+6)=(c::r).drop 6:=by rw[<-j,yd]
  rw[H]at p;clear j H hr;simp only[tf];by_cases g:c=92
  ·subst g
   rw[if_pos rfl];have hs:=wU (lib:=lib);simp only[Ld,gc,Ve]at hs;clear A E;have P:(((92:UInt8).toNat:Nat):Int)=92:=rfl;cases r with
   |nil=>
    simp only[List.getElem?_nil,reduceCtorEq,decide_false]at l;simp only[Fm,re,vk,List.getElem?_nil,Option.bind_none]at o⊢;refine la di (qa rfl) ?_;exact ye @Rc @ec @pc @Ec @Ed mH
   |cons d r=>
    simp only[ro,Wb]at l;simp only[Fm,vk,ro,Ja];rcases hI d with((rfl|rfl|rfl|rfl|rfl|rfl|rfl|rfl)|⟨Q,I,J,K,L,M,N,O,F⟩)
    iterate 8
     ·simp[Vl]
      refine la di (qa rfl) ?_;exact ye @Rc @ec @pc @Ec @Ed mH
    ·rw[Q]
     have W:Ac (ma (da code lib) ja UB) [0,1,9,10,11] 0 ja ⟨[(0,.flat (.string (S s))),(1,.flat (.int .i64 (k:Nat))),(9,.ia 7 [.flat (.int .i64 34),.flat (.int .i64 92),.flat (.int .i64 8),.flat (.int .i64 12),.flat (.int .i64 10),.flat (.int .i64 13),.flat (.int .i64 9)]),(10,.flat (.string (S [34,92,98,102,110,114,116]))),(11,.flat (.int .i64 0))],[],[],[]⟩=some (.exit 0,⟨[(0,.flat (.string (S s))),(1,.flat (.int .i64 (k:Nat)))],[],[],[]⟩):=ye @Rc @ec @pc @Ec @Ed mH;have B:=l 47;have u:=eq_false F;simp only[u,decide_false]at B;dsimp only;clear l I J K L M N O F u;have z:=@Pp (92::d::r);cases C:re (92::d::r)with
     |none=>
      rw[C]at o;exact Fa di
     |some a=>
      have z:=(z C).2;rw[C]at o;have T:=Qv (lib:=lib) a;have D:Ob a=!(decide (55296<=a)&&decide (a<=57343)):=by unfold Ob;grind
      rw[D]at T;dsimp only at o⊢;by_cases g1:55296<=a
      ·by_cases v:a<=57343
       ·rw[if_pos ⟨g1,v⟩]
        by_cases g3:a<=56319
        ·rw[if_pos g3]
         cases i:re ((92::d::r).drop 6)with
         |none=>
          rw[i]at p;exact Fa di
         |some b=>
          have R:=(Pp i).2;rw[i]at p;dsimp only at p⊢;by_cases g4:56320<=b
          ·by_cases G:b<=57343
           ·rw[if_pos ⟨g4,G⟩]
            obtain⟨x,rfl⟩:∃x,a=55296+x:=⟨a - 55296,aa⟩;obtain⟨y,rfl⟩:∃y,b=56320+y:=⟨b - 56320,aa⟩;have e1:(55296:Int)+(x:Int) - 55296=x:=aa
            have e2:(65536:Int)+1024* (x:Int)+(56320+(y:Int)) - 56320=65536+1024* (x:Int)+(y:Int):=aa
            have e3:((1024* x:Nat):Int)=1024* (x:Int):=aa
            simp only[ri];exact Fa di
           ·rw[if_neg fun h=>G h.2]
            exact Fa di
          ·rw[if_neg fun h=>g4 h.1]
           exact Fa di
        ·rw[if_neg g3]
         exact Fa di
       ·rw[if_neg fun h=>v h.2]
        exact Fa di
      ·rw[if_neg fun h=>g1 h.1]
       exact Fa di
  ·rw[if_neg g]
   have u:((c.toNat:Nat):Int)=92 ↔ False:=by
    have:c.toNat≠(92:UInt8).toNat:=fun h=>g (Xb.1 h)
    simp at this⊢;omega
   clear o p l;obtain⟨⟨a,n⟩,i⟩:∃q,Ta (c::r)=q:=⟨_,rfl⟩;rw[i]at A E⊢;simp only[Qd,decide_eq_true_eq];dsimp only at A E⊢;by_cases g1:a<32
   ·rw[if_pos (.inl g1)];exact Fa di
   by_cases v:a=34
   ·rw[if_pos (.inr (.inl v))];subst v;exact Fa di
   by_cases g3:a=65533
   ·by_cases g4:n=1
    ·rw[if_pos (.inr (.inr ⟨g3,g4⟩))];exact Fa di
    ·rw[if_neg aa];exact Fa di
   ·rw[if_neg aa];exact Fa di
def eH(Q:List (Nat×PV)->Prop):Option (Out×St)->Prop
 |some (.normal,⟨sl,[],[],[]⟩)=>Q sl
 |_=>False
theorem v_{Q sl}:eH Q (some (.normal,⟨sl,[],[],[]⟩))=Q sl:=rfl
attribute [go_sem] v_
def tt{cf m A B sl Ua bx r}(Q:List (Nat×PV)->Prop)(a:eH Q (ma cf m A ⟨sl,[],[],[]⟩))(b:∀sl,Q sl->Uj Ua bx (ma cf m B ⟨sl,[],[],[]⟩)=r):Uj Ua bx (ma cf m (.seq A B) ⟨sl,[],[],[]⟩)=r:=by
 unfold eH at a;split at a
 ·rename_i h;rw[ju,h,jv];exact b _ a
 ·exact a.elim
def Ku(Q:Out->St->Prop):Option (Out×St)->Prop
 |some (o,s)=>o≠.normal/\Q o s
 |none=>False
theorem I2{Q o s}:Ku Q (some (o,s))=(o≠.normal/\Q o s):=rfl
def mP{Q x}(h:Ku Q x):∃o s,x=some (o,s)/\o≠.normal/\Q o s:=by
 match x,h with
 |some (o,s),h=>exact⟨o,s,rfl,h⟩
def Hq{Q:Out->St->Prop}{x o s}(h:x=some (o,s))(a:o≠.normal)(b:Q o s):Ku Q x:=by rw[h];exact⟨a,b⟩
def Gp(live:List Nat)(nb:Nat)(t:St):Option (Out×St)->Prop
 |some (.normal,s)=>s.only live nb=t
 |_=>False
theorem x_{live nb t s}:Gp live nb t (some (.normal,s))=(s.only live nb=t):=rfl
attribute [go_sem] I2 x_
theorem On{η σ ρ:Type}{body}{live}{nb}(c:η->σ->St)(step:σ->σ ⊕ ρ)(d)(Q:ρ->Out->St->Prop)(I:σ->Prop)(μ:σ->Nat)
 (hr:∀h a,I a->match step a with| .inl b=>∃j,Gp live nb (c j b) (body (c h a))| .inr r=>Ku (Q r) (body (c h a))) (k:∀a b,I a->step a=.inl b->I b/\μ b<μ a):
 ∀{n m}(h)(a),I a->μ a<n->μ a<m->∃o s,Ac body live nb m (c h a)=some (o,s)/\Q (Mb step d n a) o s
 |n,0,h,a,g,p,l=>by omega
 |0,_,h,a,g,p,l=>by omega
 |n+1,m+1,h,a,g,p,l=>by
  have e:=hr h a g;rw[ec];cases hs:step a with
  |inl b=>
   rw[hs]at e;obtain⟨j,e⟩:=e;obtain⟨t,u⟩:=k a b g hs;unfold Gp at e;split at e
   ·rename_i q
    rw[q,pc,e,ef hs];exact On c step d Q I μ hr k j b t aa aa
   ·exact e.elim
  |inr r=>
   rw[hs]at e;obtain⟨o,s,e,q,t⟩:=mP e;rw[e,ad hs];refine⟨o,s,?_,t⟩;cases o with
   |normal=>exact absurd rfl q
   |exit i=>rfl
   |ret=>rfl
def ug{α β:Type}(f:α->β->α)(L:List β)(q:α×Nat):(α×Nat) ⊕ α:=match L[q.2]? with
 |some x=>.inl (f q.1 x,q.2+1)
 |none=>.inr q.1
theorem kp{α β}{f:α->β->α}{L:List β}{d}:∀{n k a},L.length - k<n->Mb (ug f L) d n (a,k)=(L.drop k).foldl f a
 |0,_,_,h=>by omega
 |n+1,k,a,h=>by
  cases b:L[k]? with
  |none=>
   have hs:ug f L (a,k)=.inr a:=by unfold ug;dsimp only;rw[b]
   rw[ad hs,Hr (ul.1 b)];rfl
  |some x=>
   have hs:ug f L (a,k)=.inl (f a x,k+1):=by unfold ug;dsimp only;rw[b]
   obtain⟨c,e⟩:=qg b;rw[ef hs,kp aa,Pd c,e];rfl
def Nq{α β}{f:α->β->α}{L:List β}(a b:α×Nat)(h:ug f L a=.inl b):a.2<L.length/\b.2=a.2+1/\∃x,L[a.2]?=some x/\b.1=f a.1 x:=by
 unfold ug at h;cases c:L[a.2]? with
 |none=>rw[c]at h;cases h
 |some x=>rw[c]at h;cases h;exact⟨(qg c).1,rfl,x,rfl,rfl⟩
def BD(c:UInt8)(r:ba):Wc (c::r)=if rp c=true then Wc r+1 else 0:=by
 unfold Wc;rw[List.takeWhile_cons];split<;>rfl
def k1(s:ba)(k:Nat)(hs:s.length<=100000)(i:k<=200000):da code lib 261 [.flat (.string (S s)),.flat (.int .i64 (k:Nat))] [] []=some ([.flat (.int .i64 (k+Wc (s.drop k):Nat))],false,[],[]):=by
 have g:=Ah (body:=ma (da code lib) ja eC) (live:=[0,1]) (nb:=0) (fun k:Nat=>(⟨[(0,.flat (.string (S s))),(1,.flat (.int .i64 (k:Nat)))],[],[],[]⟩:St)) (fun k=>k<=200000) (fun k=>s.length - k)
  (fun k=>(.exit 0,⟨[(1,.flat (.int .i64 (k+Wc (s.drop k):Nat)))],[],[],[]⟩)) (fun k i=>?_) (n:=ja) (a:=k) i (by grind [ja])
 ·exact Fa qZ
 ·cases b:s.drop k with
  |nil=>
   have j:=xk.1 b;exact .inl ⟨.exit 0,⟨[(1,.flat (.int .i64 (k:Nat)))],[],[],[]⟩,va Uz,ea,rfl⟩
  |cons c r=>
   have o:=Vh b;have j:=gg b;have e:=Em b;rw[BD];unfold rp;clear b;have p:=c.toNat_lt;obtain⟨n,l⟩:∃n,c.toNat=n:=⟨_,rfl⟩;rw[l];by_cases d:48<=n
   ·by_cases h:n<=57
    ·refine .inr ⟨⟨[(0,.flat (.string (S s))),(1,.flat (.int .i64 (k+1:Nat)))],[],[],[]⟩,k+1,va Uz,sa,aa,aa,?_⟩
     rw[e];simp[d,h,tk,Nat.add_comm 1]
    ·refine .inl ⟨.exit 0,⟨[(1,.flat (.int .i64 (k:Nat)))],[],[],[]⟩,va Uz,ea,?_⟩
     simp[d,h]
   ·refine .inl ⟨.exit 0,⟨[(1,.flat (.int .i64 (k:Nat)))],[],[],[]⟩,va Uz,ea,?_⟩
    simp[d]
def DC(s:ba)(w:UInt8)(k:Nat)(hs:s.length<=100000)(a:k<=1000000):da code lib 105 [.flat (.string (S s)),.flat (.string (S [w])),.flat (.int .i64 (k:Nat))] [] []=some ([.flat (.bool (decide (s[k]?=some w)))],false,[],[]):=by
 rw[Dx (lib:=lib) s [w] k aa ea ea aa];have e:s[k]?=(s.drop k)[0]?:=by rw[kg,pi]
 rw[e];congr 5;rw[Ir];cases s.drop k with
 |nil=>simp[List.isPrefixOf]
 |cons x t=>simp only[List.isPrefixOf,sk,beq_iff_eq,ro,Wb,decide_eq_true_eq];exact eq_comm
def FO{s:ba}{k}(h:Wc (s.drop k)≠0):∃c,s[k]?=some c:=by
 cases a:s.drop k with
 |nil=>rw[a]at h;exact absurd rfl h
 |cons c r=>exact⟨c,Vh a⟩
def FS_(s:ba)(k:Nat):(jd (s.drop k)=if s[k]?=some 45 then 1 else 0)/\(Yk (s.drop k)=if Wc (s.drop (k+jd (s.drop k)))=0 then none else some (Dp (s.drop k) (gh (s.drop k) (Vf (s.drop k) (jd (s.drop k))))))/\
 (∀a,k+Vf (s.drop k) a=if s[k+a]?=some 48 then k+a+1 else k+a+Wc (s.drop (k+a)))/\
 (∀e,k+gh (s.drop k) e=if s[k+e]?=some 46/\0<Wc (s.drop (k+e+1))then k+e+1+Wc (s.drop (k+e+1))else k+e)/\
 (∀e,k+Di (s.drop k) e=if s[k+e]?=some 43\/s[k+e]?=some 45 then k+e+1 else k+e)/\
 ∀e,k+Dp (s.drop k) e=if(s[k+e]?=some 101\/s[k+e]?=some 69)/\0<Wc (s.drop (k+Di (s.drop k) (e+1)))then k+Di (s.drop k) (e+1)+Wc (s.drop (k+Di (s.drop k) (e+1)))else k+e:=by
 refine⟨by unfold jd;rw[kg,pi],by unfold Yk;rw[yd],fun a=>?_,fun e=>?_,fun e=>?_,fun e=>?_⟩
 ·unfold Vf;rw[kg,yd];split<;>omega
 ·unfold gh;rw[kg,yd,tk k e 1];split<;>omega
 ·unfold Di;rw[kg];split<;>omega
 ·unfold Dp;rw[kg,yd];split<;>omega
def o_(s:ba)(k:Nat)(hs:s.length<=100000)(hkZ:k<=s.length):da code lib 202 [.flat (.string (S s)),.flat (.int .i64 (k:Nat))] [] []=some ([.flat (.int .i64 (match Yk (s.drop k)with|some n=>((k+n:Nat):Int)|none=>-1))],false,[],[]):=by
 have v:=fun w j(h:j<=1000000)(e:s[j]?=some w)=>(DC (lib:=lib) s w j hs h).trans (by rw[decide_eq_true e])
 have hF:=fun w j(h:j<=1000000)(e:¬s[j]?=some w)=>(DC (lib:=lib) s w j hs h).trans (by rw[decide_eq_false e])
 have C:=fun j(h:j<=200000)=>k1 (lib:=lib) s j hs h
 have l:=fun j(h:j<=s.length)=>Eu s j h
 have fa:=fun j c(h:s[j]?=some c)=>sm h
 obtain⟨H,O,P,Q,T,R⟩:=FS_ s k;refine la rZ (qa rfl) ?_;refine tt (fun sl=>look sl 0=.flat (.string (S s))/\look sl 1=.flat (.int .i64 (k:Nat))) sa fun sl ⟨u,z⟩=>?_
 refine tt (fun sl=>look sl 0=.flat (.string (S s))/\look sl 1=.flat (.int .i64 (k+jd (s.drop k):Nat))) ?_ fun sl ⟨u,z⟩=>?_
 ·rw[H]
  by_cases p:s[k]?=some 45
  ·have E:=v 45 k aa p
   rw[if_pos p];exact sa
  ·have E:=hF 45 k aa p
   rw[if_neg p];exact sa
 have M:k+jd (s.drop k)<=s.length:=by
  rw[H];split
  ·rename_i h;have:=fa _ _ h;omega
  ·omega
 have o:=P (jd (s.drop k));have i:=Q (Vf (s.drop k) (jd (s.drop k)));have G:=R (gh (s.drop k) (Vf (s.drop k) (jd (s.drop k))));have t:=T (gh (s.drop k) (Vf (s.drop k) (jd (s.drop k)))+1);rw[O];clear H O P Q R T;obtain⟨a,J⟩:∃a,k+jd (s.drop k)=a:=⟨_,rfl⟩;rw[J]at M o z⊢;by_cases A:Wc (s.drop a)=0
 ·rw[if_pos A]
  exact sa
 rw[if_neg A];dsimp only;obtain⟨c,y⟩:=FO A;have l0Z:=l a M;refine tt (fun sl=>look sl 0=.flat (.string (S s))/\look sl 1=.flat (.int .i64 (a:Nat))/\look sl 5=.flat (.int .i64 (a+Wc (s.drop a):Nat))) sa fun sl ⟨u,z,I⟩=>?_
 refine tt (fun sl=>look sl 0=.flat (.string (S s))/\look sl 1=.flat (.int .i64 (a:Nat))/\look sl 5=.flat (.int .i64 (a+Wc (s.drop a):Nat))) sa fun sl ⟨u,z,I⟩=>?_
 obtain⟨e,K⟩:∃e,k+Vf (s.drop k) (jd (s.drop k))=e:=⟨_,rfl⟩;rw[K]at o i;have b:e<=s.length:=by
  rw[o];split
  ·have:=fa _ _ y;omega
  ·omega
 refine tt (fun sl=>look sl 0=.flat (.string (S s))/\look sl 5=.flat (.int .i64 (e:Nat))) ?_ fun sl ⟨u,I⟩=>?_
 ·by_cases h:s[a]?=some 48
  ·rw[if_pos h]at o;subst o;clear y;exact sa
  ·rw[if_neg h]at o
   have p:c.toNat≠(48:UInt8).toNat:=fun q=>h (by rw[y,Xb.1 q])
   have p:c.toNat≠48:=p;subst o;exact sa
 clear o y l0Z;obtain⟨f,B⟩:∃f,k+gh (s.drop k) (Vf (s.drop k) (jd (s.drop k)))=f:=⟨_,rfl⟩;rw[B]at i G;rw[<-tk,B]at t;have r:=fun h=>l (e+1) h
 have hf:f<=s.length:=by
  rw[i];split
  ·rename_i h;have:=fa _ _ h.1;have:=r aa;omega
  ·exact b
 refine tt (fun sl=>look sl 0=.flat (.string (S s))/\look sl 5=.flat (.int .i64 (f:Nat))) ?_ fun sl ⟨u,I⟩=>?_
 ·by_cases h:s[e]?=some 46
  ·have D:=C (e+1) aa
   simp only[Ee,n1]at D;by_cases q:0<Wc (s.drop (e+1))
   ·rw[if_pos ⟨h,q⟩]at i;subst i;exact sa
   ·rw[if_neg fun x=>q x.2]at i;subst i;exact sa
  ·rw[if_neg fun x=>h x.1]at i;subst i;exact sa
 clear i r b;rw[G];obtain⟨g,L⟩:∃g,k+Di (s.drop k) (gh (s.drop k) (Vf (s.drop k) (jd (s.drop k)))+1)=g:=⟨_,rfl⟩;rw[L]at t⊢;by_cases b:s[f]?=some 101\/s[f]?=some 69
 ·have hgZ:f+1<=s.length:=by rcases b with h|h<;>(have:=fa _ _ h;omega)
  have N:(s[f]?=some 101\/s[f]?=some 69)=True:=eq_true b;have F:da code lib 105 [.flat (.string (S s)),.flat (.string (S [101])),.flat (.int .i64 (f:Nat))] [] []=some ([.flat (.bool true)],false,[],[])\/(da code lib 105 [.flat (.string (S s)),.flat (.string (S [101])),.flat (.int .i64 (f:Nat))] [] []=some ([.flat (.bool false)],false,[],[])/\s[f]?=some 69):=by
   rcases b with h|h
   ·exact .inl (v 101 f aa h)
   ·exact .inr ⟨hF 101 f aa (by rw[h];simp),h⟩
  simp only[N,true_and];have p:∀w,da code lib 105 [.flat (.string (S s)),.flat (.string (S [w])),.flat (.int .i64 ((f:Nat)+1))] [] []=some ([.flat (.bool (decide (s[f+1]?=some w)))],false,[],[]):=fun w=>DC s w (f+1) hs aa
  have W:=p 43;have X:=p 45;have m6Z:g=if(decide (s[f+1]?=some 43)||decide (s[f+1]?=some 45))=true then f+1+1 else f+1:=by rw[t];simp
  have E:g<=s.length:=by
   rw[t];split
   ·rename_i h;rcases h with h|h<;>(have:=fa _ _ h;omega)
   ·exact hgZ
  have D:=C g aa;have hlg:=l g E;have hEZ:=fun h=>v 69 f aa h
  clear v hF C l fa p t G N b J K B L;generalize decide (s[f+1]?=some 43)=U at*;generalize decide (s[f+1]?=some 45)=V at*;generalize Wc (s.drop g)=d at*;by_cases Z:0<d<;>cases U<;>cases V<;>subst m6Z<;>simp only[Bool.or_self,pn,nn,Ug,Up,La,if_true,if_false,Ee,n1]at D<;>rcases F with F|⟨F,Y⟩
  all_goals exact sa
 ·have p:¬s[f]?=some 101:=fun h=>b (.inl h)
  have q:¬s[f]?=some 69:=fun h=>b (.inr h)
  rw[if_neg fun x=>b x.1];exact sa
def YU{s:ba}(a b:ba×Nat)(k:a.2<=s.length/\a.1.length<=4* a.2)(h:Mi s a=.inl b):(b.2<=s.length/\b.1.length<=4* b.2)/\s.length - b.2<s.length - a.2:=by
 unfold Mi at h;cases d:s.drop a.2 with
 |nil=>rw[d]at h;cases h
 |cons c r=>
  rw[d]at h;have j:=gg d;have e:=@Ys (c::r);have g:=fun n=>ah n
  cases i:tf (c::r)with
  |none=>grind
  |some v=>
   have:=e i;have:=g v.1
   grind
theorem zet(s:ba)(k:Nat)(hs:s.length<=100000)(D:k<s.length):da code lib 201 [.flat (.string (S s)),.flat (.int .i64 (k:Nat))] [] []=some (match cn s (k+1)with
 |some q=>[.flat (.string (S q.1)),.flat (.int .i64 (q.2:Nat))]
 |none=>[.flat (.string (S [])),.flat (.int .i64 (-1))],false,[],[]):=by
 have E:(⟨#[]⟩:ByteArray)=S []:=rfl
 have hrel:=Il (body:=ma (da code lib) ja fC) (live:=[0,6,7]) (nb:=0) (fun(_:Unit)(q:ba×Nat)=>(⟨[(0,.flat (.string (S s))),(6,.flat (.string (S q.1))),(7,.flat (.int .i64 (q.2:Nat)))],[],[],[]⟩:St))
  (Mi s) none (fun q o st=>match q with
    |some q=>o=.ret/\st=⟨[(4,.flat (.string (S q.1))),(5,.flat (.int .i64 (q.2:Nat)))],[],[],[]⟩
    |none=>(o=.exit 0/\st=⟨[],[],[],[]⟩)\/(o=.ret/\st=⟨[(4,.flat (.string (S []))),(5,.flat (.int .i64 (-1)))],[],[],[]⟩)) (fun q=>q.2<=s.length/\q.1.length<=4* q.2) (fun q=>s.length - q.2) (fun _ ⟨out,j⟩ i=>?_) (fun _ ⟨l,j⟩ i=>sa) (fun a b d h=>YU a b d h) (n:=s.length+1) (m:=ja) () ([],k+1) ⟨aa,ea⟩ Hg (by grind [ja])
 ·obtain⟨o,st,g,d⟩:=hrel
  unfold cn;cases e:Mb (Mi s) none (s.length+1) ([],k+1)with
  |some q=>
   rw[e]at d;obtain⟨rfl,rfl⟩:=d;simp only[Ee,n1]at g;exact Fa IN
  |none=>
   rw[e]at d;simp only[Ee,n1]at g;rcases d with⟨rfl,rfl⟩|⟨rfl,rfl⟩<;>exact Fa IN
 ·dsimp only at i⊢
  unfold Mi;dsimp only;cases e:s.drop j with
  |nil=>
   have g:=xk.1 e;exact⟨_,_,va Vz,ea,.inl ⟨rfl,rfl⟩⟩
  |cons c r=>
   have C:=Vh e;have g:=gg e;have p:=G_ (lib:=lib) s j hs i.1;rw[e]at p;clear e;dsimp only;by_cases d:c=34
   ·subst d
    rw[if_pos rfl];exact⟨_,_,va Vz,ea,rfl,rfl⟩
   ·rw[if_neg d]
    have w:c.toNat≠(34:UInt8).toNat:=fun y=>d (Xb.1 y)
    have w:c.toNat≠34:=w;have x:((c.toNat:Int)=34)=False:=by apply eq_false;omega
    cases u:tf (c::r)with
    |none=>
     rw[u]at p;exact⟨_,_,va Vz,ea,.inr ⟨rfl,rfl⟩⟩
    |some v=>
     rw[u]at p;have B:=yn (lib:=lib) v.1;have A:=ah v.1;have t:=Ys u;rw[ua]at t;have z:out.length+(Ka v.1).length<=za:=He
     exact⟨(),va Vz⟩
def Oe(t:Qa):List PV:=[.flat (.int .u8 t.kind.toNat),.flat (.string (S t.text)),.flat (.int .i64 (t.fr:Nat)),.flat (.int .i64 (t.to:Nat))]
attribute [go_sem] Oe Option.isSome_some Option.isSome_none
def mb(l:List Qa):List PV:=l.flatMap Oe
def ov{t l}:mb (t::l)=.flat (.int .u8 t.kind.toNat)::.flat (.string (S t.text))::.flat (.int .i64 (t.fr:Nat))::.flat (.int .i64 (t.to:Nat))::mb l:=rfl
theorem Vj:∀l,(mb l).length=l.length* 4
 |[]=>rfl
 |t::l=>by rw[ov];simp only[ua,Vj l];omega
theorem Vc{n}:∀l,Ia n (mb l)=true
 |[]=>rfl
 |t::l=>by rw[ov];simp[Ia,PV.low,Vc l]
theorem Mg:∀l,Ib (mb l)=true
 |[]=>rfl
 |t::l=>by rw[ov];simp[Ib,PV.pj,Mg l]
def iR{a b}:mb a++mb b=mb (a++b):=by simp[mb]
def Fl{l}{k}{x}(h:l[k]?=some x):(mb l).drop (k* 4)=Oe x++mb (l.drop (k+1)):=by
 induction l generalizing k with
 |nil=>simp at h
 |cons t l a=>
  cases k with
  |zero=>simp at h;subst h;rfl
  |succ k=>
   rw[ov,show(k+1)* 4=k* 4+1+1+1+1 by omega];simp only[Zl];exact a (by simpa using h)
def zcN(d:UInt8):(ll d=true/\(d=123\/d=125\/d=91\/d=93\/d=58\/d=44))\/(ll d=false/\d≠123/\d≠125/\d≠91/\d≠93/\d≠58/\d≠44):=by
 cases h:ll d with
 |true=>exact .inl ⟨rfl,by simpa[ll]using h⟩
 |false=>right;refine⟨rfl,?_,?_,?_,?_,?_,?_⟩<;>(rintro rfl;cases h)
def toNat_ne{c d:UInt8}(h:c≠d):((c.toNat:Int)=(d.toNat:Int))=False:=eq_false fun a=>h (Xb.1 aa)
theorem F_(s:ba)(k:Nat)(hs:s.length<=100000)(H:k<s.length):match Fh s k with
 |some t=>da code lib 126 [.flat (.string (S s)),.flat (.int .i64 (k:Nat))] [] []=some ([.agg (Oe t),.flat (.bool true)],false,[],[])
 |none=>∃a b c d,da code lib 126 [.flat (.string (S s)),.flat (.int .i64 (k:Nat))] [] []=some ([.agg [.flat (.int .u8 a),.flat (.string b),.flat (.int .i64 c),.flat (.int .i64 d)],.flat (.bool false)],false,[],[]):=by
 have v:=zet (lib:=lib) s k hs H;have u:=o_ (lib:=lib) s k hs aa;have z:=fun w h=>Dx (lib:=lib) s w k aa h
 cases p:s.drop k with
 |nil=>have:=xk.1 p;omega
 |cons c r=>
  have I:=Vh p;have J:=gg p;have F:∀n,(s.take (k+n)).drop k=(c::r).take n:=fun n=>by rw[<-p,Jr,ri]
  rw[p]at u z;have g:Fh s k=match c::r with|[]=>none|c::r=>if ll c=true then some ⟨c,[],k,k+1⟩else if c=34 then(cn s (k+1)).map fun q=>⟨34,q.1,k,q.2⟩else match lg (c::r)with|some w=>some ⟨97,w,k,k+w.length⟩|none=>(Yk (c::r)).map fun n=>⟨48,(c::r).take n,k,k+n⟩:=by unfold Fh;rw[p];try rfl
  dsimp only at g;clear p;rcases zcN c with⟨C,(rfl|rfl|rfl|rfl|rfl|rfl)⟩|⟨C,c1,c2,c3,c4,c5,B⟩
  iterate 6
   ·rw[if_pos C]at g
    rw[g];exact Fa To
  have c1:=toNat_ne c1;have c2:=toNat_ne c2;have c3:=toNat_ne c3;have c4:=toNat_ne c4;have c5:=toNat_ne c5;have B:=toNat_ne B;simp only[show((UInt8.toNat 123:Nat):Int)=123 from rfl,show((UInt8.toNat 125:Nat):Int)=125 from rfl,show((UInt8.toNat 91:Nat):Int)=91 from rfl,show((UInt8.toNat 93:Nat):Int)=93 from rfl,show((UInt8.toNat 58:Nat):Int)=58 from rfl,show((UInt8.toNat 44:Nat):Int)=44 from rfl]at c1 c2 c3 c4 c5 B;rw[C,if_neg ea]at g;by_cases o:c=34
  ·subst o
   rw[if_pos rfl]at g;rw[g];cases E:cn s (k+1)with
   |none=>
    rw[E]at v;exact⟨34,S [],(k:Nat),-1,Fa To⟩
   |some q=>
    rw[E]at v;have:=ZU aa E;exact Fa To
  rw[if_neg o]at g;have G:=toNat_ne o;simp only[show((UInt8.toNat 34:Nat):Int)=34 from rfl]at G;have j:=z wT ha ha aa;have x:=z Yh ha ha aa;have A:=z wN ha ha aa;clear z v;rcases Nh (wT.isPrefixOf (c::r))with i|i
  ·have e:lg (c::r)=some wT:=by unfold lg;rw[if_pos i]
   rw[i]at j;rw[e]at g;rw[g];unfold wT at j⊢;refine la To (qa rfl) ?_;exact ye @Rc @ec @pc @Ec @Ed Dv
  rcases Nh (Yh.isPrefixOf (c::r))with l|l
  ·have e:lg (c::r)=some Yh:=by unfold lg;rw[i,l];rfl
   rw[i]at j;rw[l]at x;rw[e]at g;rw[g];unfold wT at j;unfold Yh at x⊢;refine la To (qa rfl) ?_;exact ye @Rc @ec @pc @Ec @Ed Dv
  rcases Nh (wN.isPrefixOf (c::r))with y|y
  ·have e:lg (c::r)=some wN:=by unfold lg;rw[i,l,y];rfl
   rw[i]at j;rw[l]at x;rw[y]at A;rw[e]at g;rw[g];unfold wT at j;unfold Yh at x;unfold wN at A⊢;refine la To (qa rfl) ?_;exact ye @Rc @ec @pc @Ec @Ed Dv
  have e:lg (c::r)=none:=by unfold lg;rw[i,l,y];rfl
  rw[i]at j;rw[l]at x;rw[y]at A;rw[e]at g;dsimp only at g;rw[g];unfold wT at j;unfold Yh at x;unfold wN at A;cases D:Yk (c::r)with
  |none=>
   rw[D]at u;refine⟨0,S [],0,0,la To (qa rfl) ?_⟩;exact ye @Rc @ec @pc @Ec @Ed Dv
  |some n=>
   rw[D]at u;have:=Nz D;rw[ua]at this;have F:=F n;refine la To (qa rfl) ?_;exact ye @Rc @ec @pc @Ec @Ed Dv
def lV{s:ba}(a b:List Qa×Nat)(i:a.2<=s.length/\a.1.length<=a.2)(h:xf s a=.inl b):(b.2<=s.length/\b.1.length<=b.2)/\s.length - b.2<s.length - a.2:=by
 unfold xf at h;cases d:s.drop a.2 with
 |nil=>rw[d]at h;cases h
 |cons c r=>
  rw[d]at h;have e:=gg d;have g:=@pw s a.2
  grind
theorem ze1(s:ba)(hs:s.length<=100000):da code lib 62 [.flat (.string (S s))] [] []=some (match Gh s with
 |some l=>[.ia l.length (mb l),.flat (.int .i64 0)]
 |none=>[.ia 0 [],.flat (.int .i64 7)],false,[],[]):=by
 have F:(⟨#[]⟩:ByteArray)=S []:=rfl
 have hrel:=Il (body:=ma (da code lib) ja dC) (live:=[0,4,5]) (nb:=0) (fun(_:Unit)(q:List Qa×Nat)=>(⟨[(0,.flat (.string (S s))),(4,.ia q.1.length (mb q.1)),(5,.flat (.int .i64 (q.2:Nat)))],[.slot 4],[],[]⟩:St))
  (xf s) none (fun q o st=>match q with
    |some l=>o=.exit 0/\st=⟨[(4,.ia l.length (mb l))],[.slot 4],[],[]⟩
    |none=>o=.ret/\∃y a b c d,st=⟨[(2,.ia 0 []),(3,.flat (.int .i64 7))],[.slot 2],[],[(y,[.flat (.int .u8 a),.flat (.string b),.flat (.int .i64 c),.flat (.int .i64 d)])]⟩) (fun q=>q.2<=s.length/\q.1.length<=q.2) (fun q=>s.length - q.2) (fun _ ⟨l,j⟩ v=>?_) (fun _ ⟨l,j⟩ v=>?_) (fun a c g h=>lV a c g h) (n:=s.length+1) (m:=ja) () ([],0) ⟨Cb _,Aa _⟩ aa (by grind [ja])
 ·obtain⟨o,st,k,g⟩:=hrel
  simp only[mb,Vg,Ca,n0]at k;unfold Gh;cases i:Mb (xf s) none (s.length+1) ([],0)with
  |some l=>
   rw[i]at g;obtain⟨rfl,rfl⟩:=g;refine la GN (qa rfl) ?_;exact va @Vc
  |none=>
   rw[i]at g;obtain⟨rfl,y,_,_,_,_,rfl⟩:=g;refine la GN (qa rfl) ?_;exact va @Vc
 ·dsimp only at v⊢
  have z:za=4294967296:=rfl;unfold xf;dsimp only;cases g:s.drop j with
  |nil=>
   have k:=xk.1 g;exact⟨_,_,Kb Tz @Vc,ea,rfl,rfl⟩
  |cons c r=>
   have E:=Vh g;have k:=gg g;have u:=WW (lib:=lib) c;have i:=F_ (lib:=lib) s j hs aa;clear g;dsimp only;rcases Nh (xm c)with h|h
   ·rw[h]at u
    rw[if_pos h];exact⟨(),Kb Tz @Vc⟩
   ·rw[h]at u
    rw[h,if_neg ea];cases ht:Fh s j with
    |none=>
     rw[ht]at i;obtain⟨a,b,e,d,i⟩:=i;dsimp only;exact⟨.ret,⟨[(2,.ia 0 []),(3,.flat (.int .i64 7))],[.slot 2],[],[(147,[.flat (.int .u8 a),.flat (.string b),.flat (.int .i64 e),.flat (.int .i64 d)])]⟩,Kb Tz @Vc,ea,rfl,_,_,_,_,_,rfl⟩
    |some t=>
     rw[ht]at i;have p:=pw ht;have B:=Vj l;have A:(l++[t]).length=l.length+1:=ea
     obtain⟨C,D,w⟩:=p;have x:mb l++[.flat (.int .u8 t.kind.toNat),.flat (.string (S t.text)),.flat (.int .i64 (j:Nat)),.flat (.int .i64 (t.to:Nat))]=mb (l++[t]):=by rw[<-w];exact iR (b:=[t])
     dsimp only;exact⟨(),Kb Tz @Vc⟩
 ·exact Kb @Vc @Mg
mutual
def JV.cells:JV->List PV
 | .mk k t ks vs=>[.flat (.int .u8 k.toNat),.flat (.string (S t)),.ia ks.length (wa ks),.ia vs.length (je vs)]
def je:List JV->List PV
 |[]=>[]
 |v::l=>v.cells++je l
end
def zJ:List PV:=[.flat (.int .u8 0),.flat (.string (S [])),.ia 0 [],.ia 0 []]
theorem Vu:∀l,(je l).length=l.length* 4
 |[]=>rfl
 | .mk ..::l=>by simp only[je,JV.cells,Ba,ua,Ca,Vu l];omega
mutual
theorem TQ{n}:∀v:JV,Ia n v.cells=true
 | .mk k t ks vs=>by simp[JV.cells,Ia,PV.low,Xd,fg vs]
theorem fg{n}:∀l,Ia n (je l)=true
 |[]=>rfl
 |v::l=>by have:=TQ (n:=n) v;have:=fg (n:=n) l;obtain⟨k,t,ks,vs⟩:=v;simp_all[je,JV.cells,Ia]
end
mutual
theorem UQ:∀v:JV,Ib v.cells=true
 | .mk k t ks vs=>by simp[JV.cells,Ib,PV.pj,dd,jj vs]
theorem jj:∀l,Ib (je l)=true
 |[]=>rfl
 |v::l=>by have:=UQ v;have:=jj l;obtain⟨k,t,ks,vs⟩:=v;simp_all[je,JV.cells,Ib]
end
theorem Py:∀{a b},je a++je b=je (a++b)
 |[],b=>rfl
 |v::a,b=>by rw[Ha,je,je,vc,Py]
def Sq(l:List Qa)(k:Nat)(c:UInt8)(d:l.length<=1000000)(b:k<=1000000):da code lib 200 [.ia l.length (mb l),.flat (.int .i64 (k:Nat)),.flat (.int .u8 c.toNat)] [] []=some ([.flat (.bool (mc l k c))],false,[],[]):=by
 have a:=Vj l;unfold mc;cases h:l[k]? with
 |none=>
  have:=ul.1 h;exact Fa HN
 |some t=>
  have fa:=(qg h).1;have e1:=Fl h;simp only[Oe,Ha,Ra]at e1;have e2:((t.kind.toNat:Int)=(c.toNat:Int))=(t.kind=c):=propext ⟨fun h=>Xb.1 aa,fun h=>by rw[h]⟩;exact Fa HN
def MI{l:List Qa}{n k v k'}(h:Vb n l k=some (v,k')):k<k':=(vU l n k v k' h).1
def NI{l:List Qa}{n k v k'}(h:Vb n l k=some (v,k')):k'<=l.length:=
 MA (P:=fun _ _ k'=>k'<=l.length) (R:=fun _ _ _ _ _ _=>True) (fun k t ht _=>(qg ht).1) (fun k t _ _ h=>(Th h).1) (fun _ _ _ _ _=>trivial) (fun a c t ks vs k v k' _ _ _ _=>⟨fun h=>(Th h).1,fun _ _=>trivial⟩) n k v k' h
def sr(cs:List PV)(k:Int):Out->St->Prop
 | .ret,⟨[(4,p),(5,q)],_,[],(_,d)::_⟩=>p=.ptr 0 0/\q=.flat (.int .i64 k)/\d=cs
 |_,_=>False
theorem zcc{cs k p q ow a d y}:sr cs k .ret ⟨[(4,p),(5,q)],ow,[],(a,d)::y⟩=(p=.ptr 0 0/\q=.flat (.int .i64 k)/\d=cs):=rfl
attribute [go_sem] zcc
def XT{cs k o st}(h:sr cs k o st):o=.ret/\∃ow a y,st=⟨[(4,.ptr 0 0),(5,.flat (.int .i64 k))],ow,[],(a,cs)::y⟩:=by
 unfold sr at h;split at h
 ·obtain⟨rfl,rfl,rfl⟩:=h;exact⟨rfl,_,_,_,rfl⟩
 ·exact h.elim
def uj(h:Bool):List Loc:=if h then[.cell 1 2,.cell 1 3,.cell 0 2,.cell 0 3]else[.cell 1 3,.cell 1 2,.cell 0 2,.cell 0 3]
theorem zcf(l:List Qa)(hlZ:l.length<=100000)(n C:Nat)(hnZ:l.length<C+(n+1))(c:UInt8)(t:ba)(X:c=91\/c=123)(N:C<l.length)
 (B:∀k,l.length<k+n->k<=200000->da code lib 124 [.ia l.length (mb l),.flat (.int .i64 (k:Nat))] [] []=some (match Vb n l k with
 |some q=>[.agg q.1.cells,.flat (.int .i64 (q.2:Nat))]
 |none=>[.agg zJ,.flat (.int .i64 (-1))],false,[],[])):
 ∃o st,Ac (ma (da code lib) ja zx) [0,1,4,6,7,8] 2 ja ⟨[(0,.ia l.length (mb l)),(1,.flat (.int .i64 (C:Nat))),(4,.ptr 0 0),(6,.flat (.int .u8 c.toNat)),(7,.ptr 1 0),(8,.flat (.int .u8 (Dd c).toNat))],uj true,[],[(140,zJ),(140,[.flat (.int .u8 c.toNat),.flat (.string (S t)),.ia 0 [],.ia 0 []])]⟩=some (o,st)/\
  (match Mb (Kf (Vb n l) l c t) none (l.length+1) ([],[],C)with
  |some q=>sr q.1.cells (q.2:Nat) o st
  |none=>sr zJ (-1) o st):=by
 have hrel:=On (body:=ma (da code lib) ja zx) (live:=[0,1,4,6,7,8]) (nb:=2) (fun(h:Bool)(q:List ba×List JV×Nat)=>(⟨[(0,.ia l.length (mb l)),(1,.flat (.int .i64 (q.2.2:Nat))),(4,.ptr 0 0),(6,.flat (.int .u8 c.toNat)),(7,.ptr 1 0),(8,.flat (.int .u8 (Dd c).toNat))],uj h,[],[(140,zJ),(140,[.flat (.int .u8 c.toNat),.flat (.string (S t)),.ia q.1.length (wa q.1),.ia q.2.1.length (je q.2.1)])]⟩:St))
  (Kf (Vb n l) l c t) none (fun q o st=>match q with
    |some q=>sr q.1.cells (q.2:Nat) o st
    |none=>sr zJ (-1) o st) (fun q=>C<=q.2.2/\q.2.2<l.length/\q.1.length<=q.2.2/\q.2.1.length<=q.2.2) (fun q=>l.length - q.2.2) (fun h ⟨ks,vs,j⟩ Y=>?_) (fun a b d h=>?_) (n:=l.length+1) (m:=ja) true ([],[],C) ⟨Aa _,N,ea,ea⟩ Hg (by grind [ja])
 ·exact hrel
 ·dsimp only at Y⊢
  have W:za=4294967296:=rfl;have G:=fun c=>Sq (lib:=lib) l (j+1) c aa aa
  have H:=fun c=>Sq (lib:=lib) l (j+1+1) c aa aa
  have hln:=Vj l;unfold Kf;dsimp only;rcases X with rfl|rfl
  ·have d:¬((91:UInt8)=123/\(mc l (j+1) 34&&mc l (j+2) 58)=false):=fun h=>by cases h.1
   have e:(if(91:UInt8)=123 then j+3 else j+1)=j+1:=rfl;have g:(if(91:UInt8)=123 then ks++[oi l (j+1)]else ks)=ks:=rfl;rw[if_neg d,e,g];have u:=B (j+1) aa aa;simp only[Ee,n1]at u;clear G H d e g B;cases r:Vb n l (j+1)with
   |none=>
    rw[r]at u;dsimp only;cases h<;>exact ye Wm @uj.eq_1 @zJ.eq_1 @Vc @Mg @Xd
   |some q=>
    obtain⟨⟨z,A,i,p⟩,k'⟩:=q;rw[r]at u;have Q:=MI r;have R:=NI r;have x:=Sq (lib:=lib) l k' 93 aa aa;have y:=Sq (lib:=lib) l k' 44 aa aa;have w:=Py (a:=vs) (b:=[.mk z A i p]);have O:(vs++[JV.mk z A i p]).length=vs.length+1:=ea
    have M:=Vu vs;have g1:=fun n=>Xd (n:=n) i
    have g4:=dd i;have V:=fun n=>Xd (n:=n) ks
    have U:=jj p;have T:=fun n=>fg (n:=n) p
    have g3:=fun n=>fg (n:=n) (vs++[JV.mk z A i p])
    simp only[je,JV.cells,Sg]at w u;dsimp only at u⊢;simp only[show Dd 91=93 from rfl];have D:((UInt8.toNat 93:Nat):Int)=93:=rfl;have v:((UInt8.toNat 44:Nat):Int)=44:=rfl;rw[D]at x;rw[v]at y;rcases Nh (mc l k' 93)with he|he
    ·rw[he]at x
     rw[he,if_pos rfl];simp only[JV.cells];cases h<;>exact Sj Wm @uj.eq_1 @zJ.eq_1 @Vc @Mg
    ·rw[he]at x
     rw[he,if_neg ea];rcases Nh (mc l k' 44)with hf|hf
     ·rw[hf]at y
      rw[hf,if_pos rfl];refine⟨false,?_⟩;cases h<;>exact ye Wm @uj.eq_1 @zJ.eq_1 @Vc @Mg @fg
     ·rw[hf]at y
      rw[hf,if_neg ea];cases h<;>exact Sj Wm @uj.eq_1 @zJ.eq_1 @Vc @Mg
  ·have e:(if(123:UInt8)=123 then j+3 else j+1)=j+3:=rfl
   have g:(if(123:UInt8)=123 then ks++[oi l (j+1)]else ks)=ks++[oi l (j+1)]:=rfl;rw[e,g];have J:=G 34;have I:=H 58;have K:((UInt8.toNat 34:Nat):Int)=34:=rfl;have L:((UInt8.toNat 58:Nat):Int)=58:=rfl;simp only[Ee,n1,K,L]at J I;rw[show j+1+1=j+2 from rfl]at I;by_cases d:(mc l (j+1) 34&&mc l (j+2) 58)=false
   ·rw[if_pos ⟨rfl,d⟩]
    rcases Nh (mc l (j+1) 34)with g1|g1
    ·rw[g1,od]at d
     rw[g1]at J;rw[d]at I;clear G H e g B;cases h<;>exact ye Wm @uj.eq_1 @zJ.eq_1 @Vc @Mg @Xd
    ·rw[g1]at J
     clear G H e g B I;cases h<;>exact ye Wm @uj.eq_1 @zJ.eq_1 @Vc @Mg @Xd
   rw[if_neg fun h=>d h.2];simp only[Kw,bc]at d;rw[d.1]at J;rw[d.2]at I;obtain⟨P,t2,F,Z⟩:=Th d.1;have E:oi l (j+1)=t2.text:=by unfold oi;rw[F]
   have e1:=Fl F;simp only[Oe,Ha,Ra]at e1;have hkl:(ks++[t2.text]).length=ks.length+1:=ea
   have hkc:wa ks++[.flat (.string (S t2.text))]=wa (ks++[t2.text]):=by simp[wa]
   have hkn:=cd (l:=ks);have hku:=Lf ks;have hkw:=fun n=>Xd (n:=n) (ks++[t2.text])
   rw[E];have u:=B (j+1+2) aa aa;simp only[Ee,n1,n2]at u;rw[show j+1+2=j+3 from rfl]at u;clear G H d e g B E;cases r:Vb n l (j+3)with
   |none=>
    rw[r]at u;dsimp only;cases h<;>exact ye Wm @uj.eq_1 @zJ.eq_1 @Vc @Mg @Xd
   |some q=>
    obtain⟨⟨z,A,i,p⟩,k'⟩:=q;rw[r]at u;have Q:=MI r;have R:=NI r;have x:=Sq (lib:=lib) l k' 125 aa aa;have y:=Sq (lib:=lib) l k' 44 aa aa;have w:=Py (a:=vs) (b:=[.mk z A i p]);have O:(vs++[JV.mk z A i p]).length=vs.length+1:=ea
    have M:=Vu vs;have g1:=fun n=>Xd (n:=n) i
    have g4:=dd i;have V:=fun n=>Xd (n:=n) ks
    have U:=jj p;have T:=fun n=>fg (n:=n) p
    have g3:=fun n=>fg (n:=n) (vs++[JV.mk z A i p])
    simp only[je,JV.cells,Sg]at w u;dsimp only at u⊢;simp only[show Dd 123=125 from rfl];have D:((UInt8.toNat 125:Nat):Int)=125:=rfl;have v:((UInt8.toNat 44:Nat):Int)=44:=rfl;rw[D]at x;rw[v]at y;rcases Nh (mc l k' 125)with he|he
    ·rw[he]at x
     rw[he,if_pos rfl];simp only[JV.cells];cases h<;>exact Sj Wm @uj.eq_1 @zJ.eq_1 @Vc @Mg
    ·rw[he]at x
     rw[he,if_neg ea];rcases Nh (mc l k' 44)with hf|hf
     ·rw[hf]at y
      rw[hf,if_pos rfl];refine⟨false,?_⟩;cases h<;>exact ye Wm @uj.eq_1 @zJ.eq_1 @Vc @Mg @fg
     ·rw[hf]at y
      rw[hf,if_neg ea];cases h<;>exact Sj Wm @uj.eq_1 @zJ.eq_1 @Vc @Mg
 ·unfold Kf at h
  split at h
  ·cases h
  cases r:Vb n l (if c=123 then a.2.2+3 else a.2.2+1)with
  |none=>rw[r]at h;cases h
  |some q=>
   have e:=MI r;rw[r]at h;dsimp only at h;split at h
   ·cases h
   split at h
   ·rename_i d
    have g:=(Th d).1;cases h;dsimp only;have:a.2.2<q.2:=by split at e<;>omega
    refine⟨⟨aa,g,?_,?_⟩,aa⟩
    ·split
     ·rw[Ba,Lt];omega
     ·omega
    ·rw[Ba,Lt];omega
   ·cases h
theorem JI:∀l,qc 0 l=[]
 |[]=>rfl
 | .slot i::l=>by rw[zt,JI l]
 | .cell b j::l=>by rw[ol,JI l];rfl
attribute [go_sem] JI
def S8(c:UInt8):(zh c=true/\(c=34\/c=48\/c=97))\/(zh c=false/\c≠34/\c≠48/\c≠97/\((If c=true/\(c=91\/c=123))\/(If c=false/\c≠91/\c≠123))):=by
 cases h:zh c with
 |true=>exact .inl ⟨rfl,by simpa[zh]using h⟩
 |false=>
  right;refine⟨rfl,?_,?_,?_,?_⟩
  iterate 3 (rintro rfl;cases h)
  cases a:If c with
  |true=>exact .inl ⟨rfl,by simpa[If]using a⟩
  |false=>right;refine⟨rfl,?_,?_⟩<;>(rintro rfl;cases a)
theorem zfv(l:List Qa)(A:l.length<=100000):∀n k,l.length<k+n->k<=200000->da code lib 124 [.ia l.length (mb l),.flat (.int .i64 (k:Nat))] [] []=some (match Vb n l k with
 |some q=>[.agg q.1.cells,.flat (.int .i64 (q.2:Nat))]
 |none=>[.agg zJ,.flat (.int .i64 (-1))],false,[],[]):=by
 intro n;have E:(⟨#[]⟩:ByteArray)=S []:=rfl;have B:=Vj l;have C:=Mg l
 induction n with
 |zero=>
  intro k u z;simp only[Vb];refine la xq (qa rfl) ?_;exact Kb @Vc @zJ.eq_1
 |succ n v=>
  intro k u z;unfold Vb;cases ht:l[k]? with
  |none=>
   have:=ul.1 ht;dsimp only;refine la xq (qa rfl) ?_;exact Kb @Vc @zJ.eq_1
  |some t=>
   have fa:=(qg ht).1;have e1:=Fl ht;simp only[Oe,Ha,Ra]at e1;obtain⟨c,w,fr,to⟩:=t;dsimp only at e1⊢;rcases S8 c with⟨g,x⟩|⟨g,c1,c2,c3,(⟨j,h⟩|⟨j,c4,c5⟩)⟩
   ·rw[if_pos g]
    rcases x with rfl|rfl|rfl
    all_goals
     simp only[JV.cells,wa,je,Ve,Ca];refine la xq (qa rfl) ?_;exact Kb @Vc @zJ.eq_1
   ·rw[g,if_neg ea,j,if_pos rfl]
    have d:=Sq (lib:=lib) l (k+1) (Dd c) aa aa;have e:=zcf l A n k u c w h fa v;simp only[Ee,n1]at d;clear v;rcases Nh (mc l (k+1) (Dd c))with he|he
    ·rw[he]at d
     rw[he,if_pos rfl];clear e;simp only[JV.cells,wa,je,Ve,Ca];rcases h with rfl|rfl
     all_goals
      refine la xq (qa rfl) ?_
      first|rw[show((UInt8.toNat (Dd 91):Nat):Int)=93 from rfl]at d|rw[show((UInt8.toNat (Dd 123):Nat):Int)=125 from rfl]at d
      exact Kb @Vc @zJ.eq_1
    ·rw[he]at d
     rw[he,if_neg ea];obtain⟨o,st,b,i⟩:=e;cases hr:Mb (Kf (Vb n l) l c w) none (l.length+1) ([],[],k)with
     |some q=>
      rw[hr]at i;obtain⟨rfl,ow,a,y,rfl⟩:=XT i;obtain⟨⟨F,G,p,r⟩,k'⟩:=q;have g1:=fun n=>Xd (n:=n) p
      have D:=fun n=>fg (n:=n) r
      simp only[JV.cells]at b⊢;rcases h with rfl|rfl
      all_goals
       first|(rw[show((UInt8.toNat (Dd 91):Nat):Int)=93 from rfl]at d;rw[show((UInt8.toNat (Dd 91):Nat):Int)=93 from rfl]at b)|(rw[show((UInt8.toNat (Dd 123):Nat):Int)=125 from rfl]at d;rw[show((UInt8.toNat (Dd 123):Nat):Int)=125 from rfl]at b)
       simp only[uj,if_true,zJ,show((UInt8.toNat 91:Nat):Int)=91 from rfl,show((UInt8.toNat 123:Nat):Int)=123 from rfl]at b;refine la xq (qa rfl) ?_;exact Kb @Vc @zJ.eq_1
     |none=>
      rw[hr]at i;obtain⟨rfl,ow,a,y,rfl⟩:=XT i;rcases h with rfl|rfl
      all_goals
       first|(rw[show((UInt8.toNat (Dd 91):Nat):Int)=93 from rfl]at d;rw[show((UInt8.toNat (Dd 91):Nat):Int)=93 from rfl]at b)|(rw[show((UInt8.toNat (Dd 123):Nat):Int)=125 from rfl]at d;rw[show((UInt8.toNat (Dd 123):Nat):Int)=125 from rfl]at b)
       simp only[uj,if_true,zJ,show((UInt8.toNat 91:Nat):Int)=91 from rfl,show((UInt8.toNat 123:Nat):Int)=123 from rfl]at b;refine la xq (qa rfl) ?_;exact Kb @Vc @zJ.eq_1
   ·rw[g,if_neg ea,j,if_neg ea]
    have c1:=toNat_ne c1;have c2:=toNat_ne c2;have c3:=toNat_ne c3;have c4:=toNat_ne c4;have c5:=toNat_ne c5;simp only[show((UInt8.toNat 34:Nat):Int)=34 from rfl,show((UInt8.toNat 48:Nat):Int)=48 from rfl,show((UInt8.toNat 97:Nat):Int)=97 from rfl,show((UInt8.toNat 91:Nat):Int)=91 from rfl,show((UInt8.toNat 123:Nat):Int)=123 from rfl]at c1 c2 c3 c4 c5;refine la xq (qa rfl) ?_;exact Kb @Vc @zJ.eq_1
mutual
def Cj:JV->Nat
 | .mk _ _ _ l=>jh l+1
def jh:List JV->Nat
 |[]=>0
 |v::l=>Cj v+jh l
end
theorem bV:∀(a b),jh (a++b)=jh a+jh b
 |[],b=>by simp[jh]
 |v::a,b=>by simp only[Ha,jh,bV a b];omega
mutual
theorem ls:∀v,ee v<=Cj v/\1<=Cj v
 | .mk _ _ _ l=>by have:=yD l;simp only[ee,Cj];omega
theorem yD:∀l,Xe l<=jh l/\l.length<=jh l
 |[]=>by simp[Xe,jh]
 |v::l=>by have:=ls v;have:=yD l;simp only[Xe,jh,ua];omega
end
def EV{l:List Qa}{n k v k'}(h:Vb n l k=some (v,k')):Cj v+k<=k':=
 MA (P:=fun k v k'=>Cj v+k<=k') (R:=fun a _ _ _ vs k=>jh vs+a<=k) (fun k t _ _=>by simp only[Cj,jh];omega) (fun k t _ _ _=>by simp only[Cj,jh];omega) (fun k t _ _ _=>by simp only[jh];omega)
  (fun a c t ks vs k v k' _ d _ b=>by
    have:Cj v+k+1<=k':=by split at b<;>omega
    refine⟨fun _=>?_,fun _ _=>?_⟩<;>simp only[Cj,bV,jh]<;>omega) n k v k' h
theorem RQ:∀{l:List JV}{k}{x},l[k]?=some x->(je l).drop (k* 4)=x.cells++je (l.drop (k+1))
 |[],k,x,h=>by simp at h
 | .mk a b c d::l,0,x,h=>by simp at h;subst h;rfl
 | .mk a b c d::l,k+1,x,h=>by
   rw[je,JV.cells,show(k+1)* 4=k* 4+1+1+1+1 by omega];simp only[Ha,Ra,Zl];exact RQ (by simpa using h)
theorem wI:∀{l:List JV}{v},v∈l->Cj v<=jh l
 |x::l,v,h=>by
  rcases wb.1 h with h|h
  ·rw[h,jh];omega
  ·have:=wI h;rw[jh];omega
theorem DP:∀(l)(a:Nat),l.foldl (fun a v=>max a (ee v)) a=max a (Xe l)
 |[],a=>by simp[Xe]
 |v::l,a=>by rw[Cg,DP l,Xe];omega
mutual
theorem xD:∀v:JV,Cj v<=1000000->da code lib 68 [.agg v.cells] [] []=some ([.flat (.int .i64 (ee v:Nat))],false,[],[])
 | .mk c t ks vs,hs=>by
   have z:=CO vs;have E:=yD vs;have w:=Vu vs;simp only[Cj]at hs
   have hrel:=On (body:=ma (da code lib) ja cC) (live:=[1,3,4]) (nb:=1) (fun(_:Unit)(q:Nat×Nat)=>(⟨[(1,.ptr 0 0),(3,.flat (.int .i64 (q.1:Nat))),(4,.flat (.int .i64 (q.2:Nat)))],[],[],[(140,[.flat (.int .u8 c.toNat),.flat (.string (S t)),.ia ks.length (wa ks),.ia vs.length (je vs)])]⟩:St))
    (ug (fun a v=>max a (ee v)) vs) 0 (fun r o st=>o=.exit 0/\st=⟨[(3,.flat (.int .i64 (r:Nat)))],[],[],[(140,[.flat (.int .u8 c.toNat),.flat (.string (S t)),.ia ks.length (wa ks),.ia vs.length (je vs)])]⟩) (fun q=>q.2<=vs.length/\q.1<=1000000) (fun q=>vs.length - q.2) (fun _ ⟨m,j⟩ w=>?_) (fun a b y h=>?_) (n:=vs.length+1) (m:=ja) () (0,0) ⟨Cb _,Cb _⟩ aa (by grind [ja])
   ·obtain⟨o,st,e,rfl,rfl⟩:=hrel
    rw[kp aa,yf,DP,Nat.zero_max]at e;simp only[n0]at e;have C:=fun n=>Xd (n:=n) ks
    have D:=fun n=>fg (n:=n) vs
    simp only[JV.cells,ee];refine la pZ (qa rfl) ?_;exact sa
   ·dsimp only at w⊢
    unfold ug;dsimp only;cases k:vs[j]? with
    |none=>
     have:=ul.1 k;exact va SS
    |some v=>
     have fa:=(qg k).1;have e1:=RQ k;have e:=nh k;have u:=wI e;have A:=z v e aa;have p:=ls v;obtain⟨c1,B,g,i⟩:=v;have C:=dd g;have D:=jj i;have G:=fun n=>Xd (n:=n) ks
     have H:=fun n=>fg (n:=n) vs
     simp only[JV.cells,Ha,Ra]at e1 A;dsimp only;generalize ee (.mk c1 B g i)=d at*;have F:(if m<d then(d:Int)else(m:Int))=((max m d:Nat):Int):=by split<;>omega
     exact⟨(),va SS⟩
   ·obtain⟨k,e,v,i,g⟩:=Nq a b h
    have u:=wI (nh i);have p:=ls v;have:=y.2;rw[e,g];refine⟨⟨aa,aa⟩,aa⟩
theorem CO:∀l:List JV,∀v∈l,Cj v<=1000000->da code lib 68 [.agg v.cells] [] []=some ([.flat (.int .i64 (ee v:Nat))],false,[],[])
 |[],v,h,_=>by cases h
 |x::l,v,h,hs=>by
  rcases wb.1 h with h|h
  ·rw[h]at hs⊢;exact xD x hs
  ·exact CO l v h hs
end
def el(s:ba):Option JV×Nat:=match Gh s with
 |none=>(none,7)
 |some l=>match Vb (l.length+1) l 0 with
  |none=>(none,7)
  |some (v,k)=>if k≠l.length then(none,7)else if 32<ee v then(none,8)else(some v,0)
def Jp:Option JV->List PV
 |some v=>v.cells
 |none=>zJ
def qw{s:ba}{l}(h:Gh s=some l):l.length<=s.length:=by
 refine kk (step:=xf s) (I:=fun a:List Qa×Nat=>a.2<=s.length/\a.1.length<=a.2) (μ:=fun a=>s.length - a.2) (Q:=fun r=>∀l,r=some l->l.length<=s.length) (fun a d=>?_) _ _ ⟨Cb _,Cb _⟩ Hg l h;cases hs:xf s a with
 |inl b=>exact lV a b d hs
 |inr r=>
  unfold xf at hs;dsimp only;intro l c;split at hs
  ·cases hs;cases c;omega
  ·split at hs
   ·cases hs
   ·split at hs
    ·cases hs;cases c
    ·cases hs
def zax(s:ba)(hs:s.length<=10000):da code lib 61 [.flat (.string (S s))] [] []=some ([.agg (Jp (el s).1),.flat (.int .i64 ((el s).2:Nat))],false,[],[]):=by
 have z:(⟨#[]⟩:ByteArray)=S []:=rfl;have ht:=ze1 (lib:=lib) s aa;unfold el;cases g:Gh s with
 |none=>
  rw[g]at ht;simp only[Jp,zJ];exact Fa vu
 |some l=>
  have p:=qw g;have r:=Vj l;have w:=fun n=>Vc (n:=n) l
  have u:=Mg l;have d:=zfv (lib:=lib) l aa (l.length+1) 0 aa aa;rw[g]at ht;simp only[n0]at d;dsimp only;cases hr:Vb (l.length+1) l 0 with
  |none=>
   rw[hr]at d;simp only[Jp,zJ]at d⊢;exact Fa vu
  |some q=>
   have x:=EV (v:=q.1) (k':=q.2) hr;have o:=NI (v:=q.1) (k':=q.2) hr;have y:=xD (lib:=lib) q.1 aa;have g1:=fun n=>TQ (n:=n) q.1
   have e:=UQ q.1;have g3:=(ls q.1).1;rw[hr]at d;dsimp only at d⊢;by_cases b:q.2≠l.length
   ·rw[if_pos b]
    obtain⟨⟨c,t,ks,vs⟩,k⟩:=q;have g4:=dd ks;have h:=jj vs;have i:=fun n=>Xd (n:=n) ks
    have j:=fun n=>fg (n:=n) vs
    clear g1 e;simp only[JV.cells,Jp,zJ]at*;exact Fa vu
   ·rw[if_neg b]
    have b:q.2=l.length:=aa
    by_cases a:32<ee q.1
    ·rw[if_pos a]
     obtain⟨⟨c,t,ks,vs⟩,k⟩:=q;have g4:=dd ks;have h:=jj vs;have i:=fun n=>Xd (n:=n) ks
     have j:=fun n=>fg (n:=n) vs
     clear g1 e;simp only[JV.cells,Jp,zJ]at*;subst b;exact Fa vu
    ·rw[if_neg a]
     obtain⟨⟨c,t,ks,vs⟩,k⟩:=q;have g4:=dd ks;have h:=jj vs;have i:=fun n=>Xd (n:=n) ks
     have j:=fun n=>fg (n:=n) vs
     clear g1 e;simp only[JV.cells,Jp]at*;subst b;exact Fa vu
def zfy(n:Nat):IntKind.u8.wrap (n:Int)=((n % 256:Nat):Int):=by
 have h:IntKind.u8.signed=false:=rfl;have a:IntKind.u8.bits=8:=rfl;simp[IntKind.wrap,h,a]
def zcM(n:Nat):(n:Int).fdiv (2^(min 8 32))=((n/256:Nat):Int):=na
def oR{f:FuncId}{k:IntKind}{m:Nat}(g:Nat->List PV)(h:(List.range m).all (fun n=>Hu (Df So lib 60 f [.flat (.int k (n:Nat))] [] []) (g n))=true)(n:Nat)(a:n<m):da code lib f [.flat (.int k (n:Nat))] [] []=some (g n,false,[],[]):=
 Im.2 ⟨60,by rw[is];exact VO (Bg.1 h n (Ri.2 a))⟩
def Wj{f:FuncId}{args:List PV}{r:Fe}(h:Df So lib 60 f args [] []=some r):da code lib f args [] []=some r:=Im.2 ⟨60,by rw[is];exact h⟩
def Be(n:Nat):Nat:=if n=34 then 34 else if n=92 then 92 else if n=8 then 98 else if n=12 then 102 else if n=10 then 110 else if n=13 then 114 else if n=9 then 116 else 0
def Mn(n:Nat):Bool:=decide (n<32)||(decide (n=38)||(decide (n=60)||(decide (n=62)||((decide (127<=n)&&decide (n<160))||(decide (n=8232)||decide (n=8233))))))
def jc(n:Nat):ba:=if Be n≠0 then[92,UInt8.ofNat (Be n)]else if Mn n=true then[92,117]++(uf (UInt8.ofNat (n/256))++uf (UInt8.ofNat (n % 256)))else Ka n
def Yd(s:ba):ba:=(Gd s).flatMap jc
def eJ{n:Nat}(h:160<=n)(a:n≠8232)(b:n≠8233):Be n=0/\Mn n=false:=by
 unfold Be Mn;refine⟨by repeat' (rw[if_neg aa]),?_⟩;simp;omega
def H3(n:Nat)(i:n<65536):da code lib 133 [.flat (.int .i64 (n:Nat))] [] []=some ([.flat (.string (S (uf (UInt8.ofNat (n/256))++uf (UInt8.ofNat (n % 256)))))],false,[],[]):=by
 have a:=gT (lib:=lib) (UInt8.ofNat (n/256));have b:=gT (lib:=lib) (UInt8.ofNat (n % 256));have e1:(UInt8.ofNat (n/256)).toNat=n/256:=Ma
 have e2:(UInt8.ofNat (n % 256)).toNat=n % 256:=ea
 rw[e1]at a;rw[e2]at b;have j:(uf (UInt8.ofNat (n/256))).length=2:=rfl;have k:(uf (UInt8.ofNat (n % 256))).length=2:=rfl;have g:(n:Int).tdiv 256=((n/256:Nat):Int):=rfl;have h:(n:Int).tmod 256=((n % 256:Nat):Int):=rfl;have d:n/256<256:=aa
 have e:n % 256<256:=aa
 generalize uf (UInt8.ofNat (n/256))=p at*;generalize uf (UInt8.ofNat (n % 256))=q at*;generalize n/256=x at*;generalize n % 256=y at*;have c:za=4294967296:=rfl;exact Fa kZ
def xU(n:Nat):(n=34\/n=92\/n=8\/n=12\/n=10\/n=13\/n=9)\/(Be n=0/\n≠34/\n≠92/\n≠8/\n≠12/\n≠10/\n≠13/\n≠9):=by
 unfold Be;grind
def zgo(n:Nat):da code lib 70 [.flat (.int .i64 (n:Nat))] [] []=some ([.flat (.string (S (jc n)))],false,[],[]):=by
 rcases xU n with(rfl|rfl|rfl|rfl|rfl|rfl|rfl)|⟨a,c1,c2,c3,c4,c5,b,c⟩
 iterate 7 exact Wj ca
 by_cases i:n=38
 ·subst i;exact Wj ca
 by_cases j:n=60
 ·subst j;exact Wj ca
 by_cases k:n=62
 ·subst k;exact Wj ca
 by_cases l:n=8232
 ·subst l;exact Wj ca
 by_cases o:n=8233
 ·subst o;exact Wj ca
 have hs:=wU (lib:=lib);simp only[Ld,gc,Ve]at hs;have h:Ac (ma (da code lib) ja WB) [0,3,4,5] 0 ja ⟨[(0,.flat (.int .i64 (n:Nat))),(3,.ia 7 [.flat (.int .i64 34),.flat (.int .i64 92),.flat (.int .i64 8),.flat (.int .i64 12),.flat (.int .i64 10),.flat (.int .i64 13),.flat (.int .i64 9)]),(4,.flat (.string (S [34,92,98,102,110,114,116]))),(5,.flat (.int .i64 0))],[],[],[]⟩=some (.exit 0,⟨[(0,.flat (.int .i64 (n:Nat)))],[],[],[]⟩):=ye @Rc @ec @pc @Ec @Ed C_;clear c1 c2 c3 c4 c5 b c;have e:jc n=if Mn n=true then[92,117]++(uf (UInt8.ofNat (n/256))++uf (UInt8.ofNat (n % 256)))else Ka n:=by unfold jc;rw[a];rfl
 rw[e];clear e a;unfold Mn;have q:=yn (lib:=lib) n;have g:za=4294967296:=rfl;by_cases d:n<65536
 ·have hf:=H3 (lib:=lib) n d
  have v:(uf (UInt8.ofNat (n/256))++uf (UInt8.ofNat (n % 256))).length=4:=rfl;generalize uf (UInt8.ofNat (n/256))++uf (UInt8.ofNat (n % 256))=p at*;by_cases r:n<32
  ·exact Fa uu
  by_cases t:127<=n
  ·by_cases u:n<160
   ·exact Fa uu
   exact Fa uu
  ·exact Fa uu
 ·exact Fa uu
def H4(n:Nat)(g:n<2147483648):da code lib 248 [.flat (.int .i32 (n:Nat))] [] []=some ([.flat (.int .i64 (if Be n≠0 then 1 else if Mn n=true then 2 else 0))],false,[],[])/\da code lib 249 [.flat (.int .i32 (n:Nat))] [] []=some ([.flat (.int .u8 (Be n:Nat))],false,[],[]):=by
 have d:da code lib 249 [.flat (.int .i32 (n:Nat))] [] []=some ([.flat (.int .u8 (Be n:Nat))],false,[],[]):=by
  by_cases h:n<160
  ·exact oR (fun n=>[.flat (.int .u8 (Be n:Nat))]) ca n h
  have a:Be n=0:=by unfold Be;repeat' (rw[if_neg aa])
  rw[a];exact Fa TY
 refine⟨?_,d⟩;by_cases h:n<160
 ·exact oR (fun n=>[.flat (.int .i64 (if Be n≠0 then 1 else if Mn n=true then 2 else 0))]) ca n h
 by_cases b:n=8232
 ·subst b;exact Wj ca
 by_cases c:n=8233
 ·subst c;exact Wj ca
 obtain⟨a,e⟩:=eJ aa b c;rw[a]at d⊢;rw[e];exact Fa SY
theorem rQ:∀l:List Nat,Ib (Ld l)=true
 |[]=>rfl
 |n::l=>by show Ib (.flat (.int .i64 (n:Nat))::Ld l)=true;rw[Ib,rQ l];rfl
theorem IT:∀l:List Nat,Ib (Wd l)=true
 |[]=>rfl
 |n::l=>by show Ib (.flat (.int .i32 (n:Nat))::Wd l)=true;rw[Ib,IT l];rfl
def K4{l:List Nat}{k x}(h:l[k]?=some x):(Ld l).drop k=.flat (.int .i64 (x:Nat))::Ld (l.drop (k+1)):=by
 obtain⟨a,b⟩:=qg h;unfold Ld;rw[<-dm,Pd a,b,gc]
def zbL{l:List Nat}{k x}(h:l[k]?=some x):(Wd l).drop k=.flat (.int .i32 (x:Nat))::Wd (l.drop (k+1)):=by
 obtain⟨a,b⟩:=qg h;unfold Wd;rw[<-dm,Pd a,b,gc]
def Qt(n:Nat):(jc n).length<=6:=by
 unfold jc;split
 ·simp
 split
 ·simp[uf]
 ·have:=ah n;omega
theorem cE:∀(l:List Nat)(a:ba),l.foldl (fun a n=>a++jc n) a=a++l.flatMap jc
 |[],a=>by simp
 |n::l,a=>by rw[Cg,cE l,fm,vc]
def cH(s:ba):(Gd s).length<=s.length:=by
 have a:∀(n:Nat)(l:ba),(jl n l).length<=n:=fun n=>by
  induction n with
  |zero=>intro l;simp[jl]
  |succ n b=>
   intro l;cases l with
   |nil=>simp[jl]
   |cons c l=>have:=b ((c::l).drop (Ta (c::l)).2);simp only[jl,ua];omega
 unfold Gd;rw[jn];exact a _ _
def zgk(s:ba)(hs:s.length<=10000):da code lib 33 [.flat (.string (S s))] [] []=some ([.flat (.string (S (Yd s)))],false,[],[]):=by
 have u:(⟨#[]⟩:ByteArray)=S []:=rfl;have hr:=eU (lib:=lib) s aa;have p:=cH s;unfold Yd;generalize Gd s=L at*;have i:=sE (l:=L);have d:Ib (Ld L)=true:=rQ L
 have hrel:=On (body:=ma (da code lib) ja VB) (live:=[3,4,5]) (nb:=0) (fun(_:Unit)(q:ba×Nat)=>(⟨[(3,.ia L.length (Ld L)),(4,.flat (.string (S q.1))),(5,.flat (.int .i64 (q.2:Nat)))],[],[],[]⟩:St))
  (ug (fun a n=>a++jc n) L) [] (fun r o st=>o=.exit 0/\st=⟨[(4,.flat (.string (S r)))],[],[],[]⟩) (fun q=>q.2<=L.length/\q.1.length<=6* q.2) (fun q=>L.length - q.2) (fun _ ⟨out,j⟩ k=>?_) (fun a b c h=>?_) (n:=L.length+1) (m:=ja) () ([],0) ⟨Cb _,ea⟩ aa (by grind [ja])
 ·obtain⟨o,st,c,rfl,rfl⟩:=hrel
  rw[kp aa,yf,cE,Ra]at c;simp only[n0]at c;exact Fa jZ
 ·dsimp only at k⊢
  have e:za=4294967296:=rfl;unfold ug;dsimp only;cases c:L[j]? with
  |none=>
   have:=ul.1 c;exact va OS
  |some n=>
   have fa:=(qg c).1;have e1:=K4 c;have t:=zgo (lib:=lib) n;have g:=Qt n;exact⟨(),va OS⟩
 ·obtain⟨t,c,n,p,e⟩:=Nq a b h
  have g:=Qt n;rw[c,e];simp only[Ba];omega
def IC{b:Nat}:bld false b [] []=[.flat (.pointer none),.ia 0 []]:=rfl
def OV(c:Sb lib){u:Bool}{out:ba}(w:ba)(h:out.length+w.length<=za):da code lib 45 [.ptr 0 0,.flat (.string (S w))] [(101,bld u 0 out [])] [.cell 0 1]=some ([.flat (.int .i64 (w.length:Nat)),.flat .nilIface],false,[(101,bld true 0 (out++w) [])],[.cell 0 1]):=
 ai c (b:=0) (r:=[]) (rest:=[]) rfl lj h (fun q a=>by cases a) (fun q a=>by cases a)
def NV(d:Sb lib){u:Bool}{out:ba}(c:UInt8)(h:out.length+1<=za):da code lib 44 [.ptr 0 0,.flat (.int .u8 c.toNat)] [(101,bld u 0 out [])] [.cell 0 1]=some ([.flat .nilIface],false,[(101,bld true 0 (out++[c]) [])],[.cell 0 1]):=
 Cw d (b:=0) (r:=[]) (rest:=[]) rfl lj h (fun q a=>by cases a) (fun q a=>by cases a)
def s_{s:ba}{n}(h:n∈Gd s):n<8388608:=by
 have a:∀(k:Nat)(l:ba),∀q∈jl k l,q.1<8388608:=fun k=>by
  induction k with
  |zero=>intro l q h;cases h
  |succ k d=>
   intro l q h;cases l with
   |nil=>cases h
   |cons c l=>
    rcases wb.1 h with rfl|h
    ·exact Aq _
    ·exact d _ q h
 obtain⟨q,b,rfl⟩:=si.1 h;exact a _ _ q b
def Q5(k:Sb lib)(s:ba)(hs:s.length<=10000):da code lib 188 [.flat (.string (S s))] [] []=some ([.flat (.string (S (Yd s)))],false,[],[]):=by
 have U:(⟨#[]⟩:ByteArray)=S []:=rfl;have hr:=gU (lib:=lib) s aa;have K:=cH s;have fa:=@s_ s;unfold Yd;generalize Gd s=L at*;have I:(Wd L).length=L.length:=by simp[Wd]
 have D:=IT L;have A:∀out,da code lib 46 [.ptr 0 0] [(101,bld true 0 out [])] [.cell 0 1]=some ([.flat (.string (S out))],false,[(101,bld true 0 out [])],[]):=fun out=>lk k (b:=0) rfl ea
 have F:da code lib 46 [.ptr 0 0] [(101,bld false 0 [] [])] [.cell 0 1]=some ([.flat (.string (S []))],false,[(101,bld false 0 [] [])],[]):=lk k (b:=0) rfl ea
 have hrel:=On (body:=ma (da code lib) ja JB) (live:=[3,7,8,9]) (nb:=1) (fun(u:Bool)(q:ba×Nat)=>(⟨[(3,.ptr 0 0),(7,.ia L.length (Wd L)),(8,.flat (.int .i64 (L.length:Nat))),(9,.flat (.int .i64 (q.2:Nat)))],[.cell 0 1],[],[(101,bld u 0 q.1 [])]⟩:St))
  (ug (fun a n=>a++jc n) L) [] (fun r o st=>o=.exit 0/\∃u,st=⟨[(3,.ptr 0 0)],[.cell 0 1],[],[(101,bld u 0 r [])]⟩) (fun q=>q.2<=L.length/\q.1.length<=6* q.2) (fun q=>L.length - q.2) (fun u ⟨out,j⟩ J=>?_) (fun a b d h=>?_) (n:=L.length+1) (m:=ja) false ([],0) ⟨Cb _,ea⟩ aa (by grind [ja])
 ·obtain⟨o,st,d,rfl,u,rfl⟩:=hrel
  rw[kp aa,yf,cE,Ra]at d;simp only[n0]at d;have A:da code lib 46 [.ptr 0 0] [(101,bld u 0 (L.flatMap jc) [])] [.cell 0 1]=some ([.flat (.string (S (L.flatMap jc)))],false,[(101,bld u 0 (L.flatMap jc) [])],[]):=lk k (b:=0) rfl ea;rw[IC]at d;exact Fa QY
 ·dsimp only at J⊢
  have H:za=4294967296:=rfl;unfold ug;dsimp only;cases x:L[j]? with
  |none=>
   have:=ul.1 x;exact Hq (o:=.exit 0) (s:=⟨[(3,.ptr 0 0)],[.cell 0 1],[],[(101,bld u 0 out [])]⟩) (va Rz) ea ⟨rfl,u,rfl⟩
  |some n=>
   have E:=(qg x).1;have e1:=zbL x;have O:=H4 (lib:=lib) n (by have:=fa (nh x);omega);have z:=Qt n;have d:=fun w h=>OV k (u:=u) (out:=out) w h
   have l:=fun o w h=>OV k (u:=true) (out:=o) w h
   have e:=fun c h=>NV k (u:=u) (out:=out) c h
   have g:=fun o c h=>NV k (u:=true) (out:=o) c h
   obtain⟨v,C⟩:=O;have M:=fa (nh x);refine⟨true,?_⟩;dsimp only;unfold jc;by_cases t:Be n≠0
   ·rw[if_pos t]at v
    rw[if_pos t];have N:Be n<256:=by unfold Be;grind
    have G:(UInt8.ofNat (Be n)).toNat=Be n:=Ma
    have y:=e 92 aa;have B:=g (out++[92]) (UInt8.ofNat (Be n)) (by rw[Ba,Lt];omega);rw[show((UInt8.toNat 92:Nat):Int)=92 from rfl]at y;rw[G]at B;rw[vc,List.singleton_append]at B;clear d l e g t z;exact va Rz
   rw[if_neg t]at v;rw[if_neg t];by_cases i:Mn n=true
   ·rw[if_pos i]at v
    rw[if_pos i];have B:n<65536:=by unfold Mn at i;simp at i;omega
    have P:=hT (lib:=lib) (UInt8.ofNat (n/256));have Q:=hT (lib:=lib) (UInt8.ofNat (n % 256));have e1:(UInt8.ofNat (n/256)).toNat=n/256:=Ma
    have e2:(UInt8.ofNat (n % 256)).toNat=n % 256:=ea
    rw[e1]at P;rw[e2]at Q;have G:(uf (UInt8.ofNat (n/256))).length=2:=rfl;have N:(uf (UInt8.ofNat (n % 256))).length=2:=rfl;have R:IntKind.u8.wrap ((n:Int).fdiv (2^min 8 32))=((n/256:Nat):Int):=by
     rw[zcM,Fj aa]
    have T:IntKind.u8.wrap (n:Int)=((n % 256:Nat):Int):=zfy n;have y:=d ([92,117]++(uf (UInt8.ofNat (n/256))++uf (UInt8.ofNat (n % 256)))) (by simp[G,N];omega);clear d l e g t i z e1 e2;generalize uf (UInt8.ofNat (n/256))=p at*;generalize uf (UInt8.ofNat (n % 256))=q at*;simp only[Ha,Ra]at y;exact va Rz
   ·rw[if_neg i]at v
    rw[if_neg i];have G:=es (lib:=lib) n aa;have B:=ah n;have y:=d (Ka n) aa;clear d l e g t i z;exact va Rz
 ·obtain⟨v,C,n,K,d⟩:=Nq a b h
  have z:=Qt n;rw[C,d];simp only[Ba];omega
def zD:Option JV->Nat
 |some v=>ee v
 |none=>0
def Sf(rc bd:ba):Nat:=if Cf rc≠rc then 7 else if(el bd).2=7 then 7 else if(el bd).2≠0 then 8 else if 32<=zD (el bd).1 then 8 else 0
def Bi(f:Bool)(rc bd:ba):ba:=[123,34,114,101,99,101,105,118,101,114,34,58,34]++(Yd rc++([34,44,34,115,116,97,116,117,115,34,58,34]++((if f then[102,105,114,105,110,103]else[114,101,115,111,108,118,101,100])++([34,44,34,98,111,100,121,34,58]++(bd++[125])))))
def jT{s:ba}:(el s).2=0/\(∃l v,Gh s=some l/\Vb (l.length+1) l 0=some (v,l.length)/\ee v<=32/\(el s).1=some v)\/((el s).2=7\/(el s).2=8)/\(el s).1=none:=by
 unfold el;cases Gh s with
 |none=>simp
 |some l=>
  dsimp only;cases c:Vb (l.length+1) l 0 with
  |none=>simp
  |some q=>
   obtain⟨v,k⟩:=q;dsimp only;by_cases a:k≠l.length
   ·simp[a]
   ·by_cases b:32<ee v
    ·simp[a,b]
    ·have a:k=l.length:=aa
     subst a;simp only[ne_eq,not_true_eq_false,if_false,b];exact .inl ⟨trivial,l,v,rfl,c,aa,rfl⟩
def iY(f:Bool)(rc bd:ba)(x:rc.length<=10000)(o:bd.length<=10000):da code lib 32 [.agg [.flat (.bool f),.flat (.string (S rc)),.flat (.string (S bd))]] [] []=some ([.flat (.int .i64 (Sf rc bd:Nat))],false,[],[]):=by
 have z:(⟨#[]⟩:ByteArray)=S []:=rfl;have g:=zax (lib:=lib) bd o;have y:=Ux (lib:=lib) rc aa;unfold Sf;rcases@jT bd with⟨a,l,v,ht,j,p,e1⟩|⟨a,e1⟩
 ·have i:=EV j
  have q:=qw ht;have hdd:=xD (lib:=lib) v aa;have g4:=ls v;rw[a,e1]at g⊢;obtain⟨c,t,ks,vs⟩:=v;have g1:=dd ks;have r:=jj vs;have u:=fun n=>Xd (n:=n) ks
  have w:=fun n=>fg (n:=n) vs
  simp only[Jp,zD,JV.cells]at g hdd⊢;clear j ht e1 i;obtain⟨d,h⟩:∃d,ee (.mk c t ks vs)=d:=⟨_,rfl⟩;simp only[h]at p hdd g4⊢;clear h;by_cases b:Cf rc=rc
  ·have e:=eq_true b
   rw[if_neg (by simp[b]),if_neg ha,if_neg ea];by_cases k:32<=d
   ·rw[if_pos k];exact Fa wu
   ·rw[if_neg k];exact Fa wu
  ·have e:=eq_false b
   rw[if_pos b];exact Fa wu
 ·rw[e1]at g
  simp only[Jp,zJ]at g;by_cases b:Cf rc=rc
  ·have e:=eq_true b
   rw[if_neg (by simp[b])];rcases a with a|a<;>(rw[a]at g⊢;simp only[if_true,if_false,Nat.reduceEqDiff,ne_eq,not_false_eq_true];exact Fa wu)
  ·have e:=eq_false b
   rw[if_pos b];rcases a with a|a<;>(rw[a]at g;exact Fa wu)
def dJ(s:ba):(Yd s).length<=6* s.length:=by
 have h:∀l:List Nat,(l.flatMap jc).length<=6* l.length:=fun l=>by
  induction l with
  |nil=>simp
  |cons n l a=>have:=Qt n;simp only[fm,Ba,ua];omega
 have:=h (Gd s);have:=cH s;unfold Yd;omega
def NC(f:Bool)(rc bd:ba)(h:rc.length<=1000)(i:bd.length<=1000):da code lib 17 [.agg [.flat (.bool f),.flat (.string (S rc)),.flat (.string (S bd))]] [] []=some ([.flat (.string (S (if Sf rc bd=0 then Bi f rc bd else[]))),.flat (.int .i64 (Sf rc bd:Nat))],false,[],[]):=by
 have l:(⟨#[]⟩:ByteArray)=S []:=rfl;have d:=iY (lib:=lib) f rc bd aa aa;have k:=zgk (lib:=lib) rc aa;have j:=dJ rc;have c:za=4294967296:=rfl;unfold Bi;generalize Yd rc=w at*;obtain⟨e,g⟩:∃e,Sf rc bd=e:=⟨_,rfl⟩;simp only[g]at d⊢;by_cases a:e=0
 ·subst a
  rw[if_pos rfl];cases f
  ·refine la kD (qa rfl) ?_
   exact va @Ba.{0}
  ·refine la kD (qa rfl) ?_
   exact va @Ba.{0}
 ·rw[if_neg a]
  have b:((e:Int)=0)=False:=by apply eq_false;omega
  exact Fa kD
def canon(rs:List Nat):ba:=rs.flatMap Ka
def UC(r:Nat)(rs:List Nat):canon (r::rs)=Ka r++canon rs:=by simp[canon]
def Ox(a b:List Nat):canon (a++b)=canon a++canon b:=by simp[canon]
theorem pN:∀a:List (List Nat),canon a.flatten=a.flatMap canon
 |[]=>rfl
 |g::a=>by rw[List.flatten_cons,Ox,pN a,fm]
def RC{n:Nat}(h:Ob n=true):Ka n=(we n).map UInt8.ofNat:=by unfold Ka;rw[if_pos h]
def QC(n:Nat):∃c l,we n=c::l:=by
 unfold we
 repeat' split
 all_goals exact⟨_,_,rfl⟩
theorem dI:∀rs:List Nat,(∀r∈rs,Ob r=true)->ff (canon rs)=rs.map fun r=>(r,(we r).length)
 |[],_=>rfl
 |r::rs,h=>by
  have hr:=h r ea;have d:=dI rs fun x b=>h x (by simp[b])
  have a:=Du r hr (canon rs);rw[UC,RC hr];obtain⟨c,l,e⟩:=QC r;rw[e]at a⊢;rw[gc,Ha]at a⊢;rw[Rv,a,gc,e];congr 1;rw[<-d];congr 1;rw[ua,Zl];exact List.drop_left' ea
def bH{rs:List Nat}(h:∀r∈rs,Ob r=true):Gd (canon rs)=rs:=by
 unfold Gd;rw[dI rs h,List.map_map];exact List.map_id'' (fun _=>rfl) rs
def J5{rs:List Nat}(h:∀r∈rs,Ob r=true):Sh (canon rs)=true:=by
 unfold Sh;rw[dI rs h,List.all_map,Bg];intro r _;show(!Qd (r,(we r).length))=true;unfold Qd;by_cases e:r=65533
 ·subst e;rfl
 ·simp[e]
def xX(n:Nat):∃r,Ob r=true/\Ka n=canon [r]:=by
 have a:Ob (if Ob n then n else 65533)=true:=by
  split
  ·assumption
  ·rfl
 refine⟨if Ob n then n else 65533,a,?_⟩;rw[UC,RC a];unfold Ka canon;simp
theorem CP(l:ba):∀(L:List (Nat×Nat))(a:Xp),(∃rs:List Nat,(∀r∈rs,Ob r=true)/\a.out=canon rs)->∃rs:List Nat,(∀r∈rs,Ob r=true)/\(Je (pe l) a L).1.out=canon rs
 |[],a,h=>h
 |q::L,a,h=>by
  rw[Je,if_pos (rI l a q)];refine CP l L _ ?_;unfold pe;split
  ·exact h
  ·obtain⟨rs,c,d⟩:=h
   obtain⟨r,e,g⟩:=xX (hh (if q.1=13 then 10 else q.1));refine⟨rs++[r],fun x b=>?_,by dsimp only;rw[d,g,Ox]⟩;rcases Ue.1 b with b|b
   ·exact c x b
   ·rw[so.1 b];exact e
def uN(l:ba):∃rs:List Nat,(∀r∈rs,Ob r=true)/\Cf l=canon rs:=CP l _ _ ⟨[],ea,rfl⟩
def ZS{n:Nat}(h:Ob n=true):tf (jc n)=some (n,(jc n).length):=by
 by_cases o:n<160
 ·have:=(by decide+kernel:((List.range 160).all fun n=>decide (tf (jc n)=some (n,(jc n).length)))=true)
  exact of_decide_eq_true (Bg.1 this n (Ri.2 o))
 by_cases i:n=8232
 ·subst i;decide+kernel
 by_cases j:n=8233
 ·subst j;decide+kernel
 obtain⟨r,t⟩:=eJ aa i j;have e:jc n=Ka n:=by unfold jc;rw[r,t];rfl
 have b:=Du n h [];rw[e,RC h];rw[Sg]at b;obtain⟨c,l,a⟩:=QC n;have q:192<=c/\c<256:=by
  have v:n<=1114111:=by unfold Ob at h;simp at h;omega
  unfold we at a;split at a
  ·omega
  split at a
  ·cases a;omega
  split at a<;>(cases a;omega)
 rw[a]at b⊢;rw[gc]at b⊢;have d:¬UInt8.ofNat c=92:=fun k=>by
  have:=congrArg UInt8.toNat k;simp at this;omega
 have u:(we n).length=(UInt8.ofNat c::l.map UInt8.ofNat).length:=by rw[a];simp
 have p:Qd (n,(c::l).length)=false:=by
  unfold Qd;by_cases k:n=65533
  ·subst k;cases a;decide
  ·simp[k]
 unfold tf;dsimp only;have g:¬((n,(c::l).length).1<32\/(n,(c::l).length).1=34\/Qd (n,(c::l).length)=true):=by
  rw[p];dsimp only;simp;omega
 rw[if_neg d,b,if_neg g];simp
def Zo(s:ba)(q:ba×Nat):(ba×Nat) ⊕ Option ba:=match s.drop q.2 with
 |[]=>.inr (some q.1)
 |c::r=>match tf (c::r)with
  |none=>.inr none
  |some v=>if v.2<=6 then .inl (q.1++Ka v.1,q.2+v.2)else .inr none
def ry(s:ba):Option ba:=Mb (Zo s) none (s.length+1) ([],0)
theorem LO:∀(rs:List Nat)(pre out:ba)(n:Nat),(∀r∈rs,Ob r=true)->(rs.flatMap jc).length<n->Mb (Zo (pre++rs.flatMap jc)) none n (out,pre.length)=some (out++canon rs)
 |_,_,_,0,_,h=>by omega
 |[],pre,out,n+1,_,_=>by
  have hs:Zo (pre++[]) (out,pre.length)=.inr (some out):=by unfold Zo;dsimp only;rw[Sg,Vp]
  rw[Vg,ad hs];simp[canon]
 |r::rs,pre,out,n+1,h,e=>by
  have a:=YS (t:=rs.flatMap jc) (ZS (h r ea));have b:=Ys (ZS (h r ea));have hs:Zo (pre++(jc r++rs.flatMap jc)) (out,pre.length)=.inl (out++Ka r,(pre++jc r).length):=by
   unfold Zo;dsimp only;rw[Mt];cases d:jc r++rs.flatMap jc with
   |nil=>rw[d]at a;cases a
   |cons c t=>rw[d]at a;dsimp only;rw[a,Ba];exact if_pos (Qt r)
  rw[fm,ef hs,<-vc,LO rs (pre++jc r) _ n (fun x g=>h x (by simp[g])) (by rw[fm,Ba]at e;dsimp only at b;omega),UC,vc]
def t1{s:ba}(h:Cf s=s):ry (Yd s)=some s:=by
 obtain⟨rs,a,b⟩:=uN s;rw[h]at b;have:=LO rs [] [] ((Yd s).length+1) a (by unfold Yd;rw[b,bH a];omega);unfold ry;unfold Yd at this⊢;rw[b,bH a]at this⊢;exact this
variable {lib:Callee}
def vg{α:Type}(c:UInt8)(step:α->ba->α×Bool):Nat->α->ba->α×ba
 |0,a,r=>(a,r)
 |n+1,a,r=>match Cc c r with
  |none=>((step a r).1,r)
  |some i=>if(step a (r.take i)).2 then vg c step n (step a (r.take i)).1 (r.drop (i+1))else((step a (r.take i)).1,r)
theorem AP{α}{c}{step}:∀(n m)(a:α)(r),r.length<n->r.length<m->vg c step n a r=vg c step m a r
 |0,m,a,r,h,_=>by omega
 |n+1,0,a,r,_,h=>by omega
 |n+1,m+1,a,r,d,e=>by
  simp only[vg];cases b:Cc c r with
  |none=>rfl
  |some i=>
   have:=Rr b;dsimp only;rw[AP n m _ _ na na]
theorem yP{α}{c}{step}:∀(n)(a:α)(r),r.length<n->(vg c step n a r).1=(Je step a (db c r)).1
 |0,a,r,h=>by omega
 |n+1,a,r,h=>by
  simp only[vg];cases b:Cc c r with
  |none=>
   grind [jO,Je]
  |some i=>
   have:=Rr b;rw[lO b];simp only[Je];split
   ·exact yP n _ _ na
   ·rfl
theorem zbg{α}(H:We lib)(c)(BX:α->ba->Oa)(oc:α->List (Nat×Nat))(step)(I:α->ba->Prop)(b p B nb)
 (w:∀a r,I a r->(BX a r)[p]?=some (9,[.flat (.string (S r))])) (k:∀a r,I a r->(BX a r)[B]?=some (5,[.flat (.int .u8 c.toNat)])) (A:∀a r r',(BX a r).set p (9,[.flat (.string (S r'))])=BX a r')
 (M:∀a r,(BX a r)[p]?=some (9,[.flat (.string (S r))])) (d:∀a r,(BX a r).length=nb) (y:∀a,∀q∈oc a,q.1<nb) (z:∀a,∀q∈oc a,q≠(p,0)) (v:∀a r,I a r->r.length<=1000000000)
 (J:∀a r i,I a r->Cc c r=some i->(step a (r.take i)).2=true->I (step a (r.take i)).1 (r.drop (i+1)))
 (G:∀a r x,I a r->da code lib kb [.Sa b,.flat (.string (S x))] (BX a r) (cl (oc a))=some ([.flat (.bool (step a x).2)],false,BX (step a x).1 r,cl (oc (step a x).1))) (a) (r) (h:I a r):
 da code lib 149 [.Sa b,.ptr p 0,.ptr B 0] (BX a r) (cl (oc a))=some ([],false,BX (vg c step (r.length+1) a r).1 (vg c step (r.length+1) a r).2,cl (oc (vg c step (r.length+1) a r).1)):=by
 refine la FZ (qa rfl) ?_;have L:=v a r h
 have l:=Ah (body:=ma (da code lib) ja oC) (live:=[0,1,2]) (nb:=nb) (fun q:α×ba=>(⟨[(0,.Sa b),(1,.ptr p 0),(2,.ptr B 0)],cl (oc q.1),[],BX q.1 q.2⟩:St)) (fun q=>I q.1 q.2) (fun q=>q.2.length)
  (fun q=>(.ret,⟨[],cl (oc (vg c step (q.2.length+1) q.1 q.2).1),[],BX (vg c step (q.2.length+1) q.1 q.2).1 (vg c step (q.2.length+1) q.1 q.2).2⟩)) (fun⟨a,r⟩ h=>?_) (n:=ja) (a:=(a,r)) h (by grind [ja])
 ·have o:=d a r
  have t:=d (vg c step (r.length+1) a r).1 (vg c step (r.length+1) a r).2;simp only[go_sem,simprocAttr,Hb,sb,Gb,Eb,Ce o,o,ub _ (y _),l,t,Ce t]
 ·dsimp only at h⊢
  have D:=w a r h;have j:=k a r h;have o:=d a r;have K:=v a r h;have e1:=pp H r c K;cases u:Cc c r with
  |none=>
   left;rw[u]at e1;have e:=G a r r h;have t:=d (step a r).1 r;have hf:vg c step (r.length+1) a r=((step a r).1,r):=by simp only[vg,u]
   rw[hf];refine⟨.ret,⟨[],cl (oc (step a r).1),[],BX (step a r).1 r⟩,?_,ea,rfl⟩;simp only[tH,go_sem,simprocAttr,Hb,sb,Gb,Eb,Nb,D,j,e1,e,o,zc]
  |some i=>
   rw[u]at e1;have fa:=Rr u;have e:=G a r (r.take i) h;have t:=d (step a (r.take i)).1 r;have hf:vg c step (r.length+1) a r=if(step a (r.take i)).2 then vg c step ((r.drop (i+1)).length+1) (step a (r.take i)).1 (r.drop (i+1))else((step a (r.take i)).1,r):=by
    simp only[vg,u];rw[AP r.length ((r.drop (i+1)).length+1) _ _ na aa];simp only[vg]
   have F:¬(i:Int)<0:=aa
   have c1:(0:Int)<=(i:Nat):=aa
   have c2:(i:Int)<=r.length:=aa
   have O:IntKind.i64.wrap ((i:Int)+1)=((i+1:Nat):Int):=wrap64 aa;have c3:(0:Int)<=((i+1:Nat):Int):=aa
   have c4:((i+1:Nat):Int)<=r.length:=aa
   have N:(r.take r.length).drop (i+1)=r.drop (i+1):=by rw[cm]
   have E:=M (step a (r.take i)).1 r;by_cases g:(step a (r.take i)).2=true
   ·right
    rw[g]at e hf;have C:=d (step a (r.take i)).1 (r.drop (i+1));refine⟨⟨[(0,.Sa b),(1,.ptr p 0),(2,.ptr B 0)],cl (oc (step a (r.take i)).1),[],BX (step a (r.take i)).1 (r.drop (i+1))⟩,((step a (r.take i)).1,r.drop (i+1)),?_,?_,J a r i h u g,na,?_⟩
    ·simp only[tH,go_sem,simprocAttr,Hb,sb,Gb,Eb,Nb,pg _ (z _),D,j,E,e1,e,F,c1,c2,c3,c4,O,Xa,oh,N,A,ic,o,t,C,zc]
    ·simp only[go_sem,simprocAttr,Hb,sb,Ce C,C,ub _ (y _)]
    grind
   ·left
    have g:(step a (r.take i)).2=false:=by simpa using g
    rw[g]at e hf;refine⟨.ret,⟨[],cl (oc (step a (r.take i)).1),[],BX (step a (r.take i)).1 r⟩,?_,ea,?_⟩
    ·simp only[tH,go_sem,simprocAttr,Hb,sb,Gb,Eb,Nb,D,j,e1,e,F,c1,c2,Xa,oh,ic,o,t,zc]
    grind
def bs(c:UInt8)(out:List ba)(r:ba):Oa:=[(29,[.ia out.length (wa out)]),(9,[.flat (.string (S r))]),(5,[.flat (.int .u8 c.toNat)]),(0,[.lp 41 0 .ready [5] [.ptr 0 0]])]
def ut(out:List ba)(x:ba):List ba×Bool:=(out++[x],true)
theorem xP:∀(L out),Je ut out L=(out++L,true)
 |[],out=>by simp[Je]
 |q::L,out=>by simp only[Je,ut,if_true];rw[xP L];simp
def I0(c)(out)(r x)(d:out.length<4294967296):da code lib kb [.Sa 3,.flat (.string (S x))] (bs c out r) [.cell 0 0]=some ([.flat (.bool true)],false,bs c (out++[x]) r,[.cell 0 0]):=by
 refine ep Wo NN rfl rfl rfl ?_;have a:out.length+1<=za:=He
 have b:[PV.flat (.string (S x))]=wa [x]:=rfl;simp only[jQ,UP,bs,go_sem,simprocAttr,cd,Lf,a]
 grind [tr]
def pO(H:We lib)(s:ba)(c:UInt8)(hs:s.length<=1000000000):da code lib 41 [.flat (.string (S s)),.flat (.int .u8 c.toNat)] [] []=some ([.ia (db c s).length (wa (db c s))],false,[],[]):=by
 refine la NN (qa rfl) ?_
 have b:=zbg (lib:=lib) H c (bs c) (fun _=>[(0,0)]) ut (fun out r=>out.length+r.length<=1000000000) 3 1 2 4 (fun _ _ _=>rfl) (fun _ _ _=>rfl) (fun _ _ _=>rfl) (fun _ _=>rfl) (fun _ _=>rfl) (fun a q n=>by grind) (fun a q n=>by grind) (fun a r h=>by omega)
  (fun a r i h l _=>by
    have:=Rr l
    grind [ut])
  (fun a r x h=>I0 c a r x aa) [] s na
 have d:=yP (c:=c) (step:=ut) (s.length+1) [] s aa;rw[xP]at d;simp only[Ra]at d;obtain⟨j,e⟩:∃j,(vg c ut (s.length+1) [] s).2=j:=⟨_,rfl⟩;have k:cl [(0,0)]=[.cell 0 0]:=rfl;rw[d,e]at b;simp only[k]at b;have g:da code lib 149 [.Sa 3,.ptr 1 0,.ptr 2 0] [(29,[.ia 0 []]),(9,[.flat (.string (S s))]),(5,[.flat (.int .u8 c.toNat)]),(0,[.lp 41 0 .ready [5] [.ptr 0 0]])] [.cell 0 0]=some ([],false,bs c (db c s) j,[.cell 0 0]):=b;have e1:da code lib 88 [.flat (.string (S s)),.flat (.int .u8 c.toNat)] [(29,[.ia 0 []])] [.cell 0 0]=some ([.ib 149 [.ptr 1 0,.ptr 2 0]],false,[(29,[.ia 0 []]),(9,[.flat (.string (S s))]),(5,[.flat (.int .u8 c.toNat)])],[.cell 0 0]):=by
  refine la ON (qa rfl) ?_;exact sa
 have e2:da code lib 88 [.flat (.string (S s)),.flat (.int .u8 c.toNat)] [] []=some ([.ib 149 [.ptr 0 0,.ptr 1 0]],false,[(9,[.flat (.string (S s))]),(5,[.flat (.int .u8 c.toNat)])],[]):=by
  refine la ON (qa rfl) ?_;exact sa
 exact Kb @bs.eq_1 @Xd
def dA(H:sc lib)(s p)(h:s.length<=1000000000)(a:p.length<=1000000000):da code lib 80 [.flat (.string (S s)),.flat (.string (S p))] [] []=some ([.flat (.bool (p.isPrefixOf s))],false,[],[]):=
 Ef ha ra (H s p h a)
def EC(H:sc lib)(s w)(k:Nat)(hs:s.length<=1000000000)(a:w.length<=1000000000):da code lib 85 [.flat (.string (S s)),.flat (.string (S w)),.flat (.int .i64 (k:Nat))] [] []=some ([.flat (.bool (Tb s w k))],false,[],[]):=by
 refine la EZ (qa rfl) ?_;have b:(0:Int)<=(k:Nat):=aa
 by_cases h:k<=s.length
 ·have c1:(k:Int)<=s.length:=aa
  have e1:=dA H (s.drop k) w na a;have c:(s.take s.length).drop k=s.drop k:=by rw[cm]
  exact va @Tb.eq_1
 ·have c1:¬(k:Int)<=s.length:=aa
  exact va @Tb.eq_1
def F4:∀a b:Nat,a<16->b<16->Fg .u8 (IntKind.u8.wrap ((a:Int)* 2^min 4 8)) (b:Int)=((16* a+b:Nat):Int):=by
 have:=(by decide+kernel:((List.range 16).all fun a=>(List.range 16).all fun b=>decide (Fg .u8 (IntKind.u8.wrap ((a:Int)* 2^min 4 8)) (b:Int)=((16* a+b:Nat):Int)))=true);intro a b c d;exact of_decide_eq_true (Bg.1 (Bg.1 this a (Ri.2 c)) b (Ri.2 d))
theorem pK(s:ba)(k:Nat)(hs:s.length<=1000000000)(q:k<=1000000000):da code lib 213 [.flat (.string (S s)),.flat (.int .i64 (k:Nat))] [] []=some (match Gg (s.drop k)with
 |some b=>[.flat (.int .u8 b.toNat),.flat (.bool true)]
 |none=>[.flat (.int .u8 0),.flat (.bool false)],false,[],[]):=by
 match d:s.drop k with
 |[]=>
  have g:=xk.1 d;simp only[Gg];exact Fa xu
 |[a]=>
  have g:=gg d;rw[Ca]at g;simp only[Gg];exact Fa xu
 |a::b::r=>
  have o:=Vh d;have p:=Vh (Em d);have g:=gg d;rw[ua]at g;have i:=VV (lib:=lib) a;have n:=VV (lib:=lib) b;have j:=@Jx a b;have l:=F4 (ab a) (ab b);simp only[Gg];clear d;generalize ab a=x at*;generalize ab b=y at*;by_cases c:x<=15
  ·by_cases e:y<=15
   ·have l:=l aa aa
    rw[if_pos ⟨c,e⟩];dsimp only;rw[j c e];simp only[c,e,if_true,decide_true]at i n;generalize 16* x+y=z at*;clear j;exact Fa xu
   ·rw[if_neg fun h=>e h.2]
    simp only[c,e,if_true,if_false,decide_true,decide_false]at i n;exact Fa xu
  ·rw[if_neg fun h=>c h.1]
   simp only[c,if_false,decide_false]at i;exact Fa xu
def zcn(a b:Nat)(e:a<256)(g:b<256):Fg .i32 (IntKind.i32.wrap ((a:Int)* 2^min 8 32)) (b:Int)=((256* a+b:Nat):Int):=by
 have d:IntKind.i32.wrap ((a:Int)* 2^min 8 32)=((a* 256:Nat):Int):=by
  rw[show((2:Int)^min 8 32)=256 from rfl,wrap32 aa];omega
 have c:=UI (i:=8) (b:=b) aa a;rw[Nat.shiftLeft_eq]at c;rw[d,rE _ _ aa aa,<-c];omega
def zfp(h:sc lib)(s:ba)(k:Nat)(hs:s.length<=1000000000)(p:k<=100000000){v:Nat}(c:re (s.drop k)=some v):da code lib 291 [.flat (.string (S s)),.flat (.int .i64 (k:Nat))] [] []=some ([.flat (.int .i32 (v:Nat)),.flat (.bool true)],false,[],[]):=by
 have i:=EC h s [92,117] k hs ha;have e:=pK (lib:=lib) s (k+2) hs aa;have g:=pK (lib:=lib) s (k+4) hs aa;have l:=Pp c;rw[fc]at l;rw[KI,yd,yd]at c;simp only[Ee,n2,n4]at e g;split at c
 ·rename_i o
  have d:Tb s [92,117] k=true:=by unfold Tb;rw[o];simp;omega
  rw[d]at i;cases e1:Gg (s.drop (k+2))with
  |none=>rw[e1]at c;cases c
  |some a=>
   cases e2:Gg (s.drop (k+4))with
   |none=>rw[e1,e2]at c;cases c
   |some b=>
    rw[e1,e2]at c;rw[e1]at e;rw[e2]at g;have j:=a.toNat_lt;have d:=b.toNat_lt;have n:=zcn a.toNat b.toNat j d;dsimp only at c;have c:256* a.toNat+b.toNat=v:=jf c;rw[c]at n;exact Fa UY
 ·cases c
def Zp(lib:Callee):Prop:=∀(s:ba)(k:Nat)(v:Nat×Nat),s.length<=100000->s[k]?=some 92->tf (s.drop k)=some v->v.2<=6->lib 285 [.flat (.string (S s)),.flat (.int .i64 (k:Nat))] [] []=some ([.flat (.int .i32 (v.1:Nat)),.flat (.int .i64 (v.2:Nat)),.flat (.bool true)],false,[],[])
def J_(i:Zp lib)(s:ba)(k:Nat)(hs:s.length<=100000){v:Nat×Nat}(b:tf (s.drop k)=some v)(j:v.2<=6):da code lib 254 [.flat (.string (S s)),.flat (.int .i64 (k:Nat))] [] []=some ([.flat (.int .i32 (v.1:Nat)),.flat (.int .i64 (v.2:Nat)),.flat (.bool true)],false,[],[]):=by
 cases g:s.drop k with
 |nil=>rw[g]at b;cases b
 |cons c r=>
  have l:=Vh g;have u:=gg g;by_cases d:c=92
  ·subst d
   have e:da code lib 285 [.flat (.string (S s)),.flat (.int .i64 (k:Nat))] [] []=some ([.flat (.int .i32 (v.1:Nat)),.flat (.int .i64 (v.2:Nat)),.flat (.bool true)],false,[],[]):=Ef ha ca (i s k v hs l b j);clear g b;exact Fa gD
  ·have o:=Gz (lib:=lib) s (by unfold Sm;omega) k aa
   have h:=toNat_ne d;simp only[show((UInt8.toNat 92:Nat):Int)=92 from rfl]at h;rw[g]at b o;unfold tf at b;dsimp only at b;rw[if_neg d]at b;split at b
   ·cases b
   ·rename_i e
    cases b;generalize Ta (c::r)=q at*;obtain⟨a,n⟩:=q;clear g;unfold Qd at e;simp only[not_or,decide_eq_true_eq,not_and]at e;obtain⟨g1,t,g3⟩:=e;dsimp only at*;by_cases p:a=65533
    ·have g3:=g3 p
     exact Fa gD
    ·exact Fa gD
theorem yz{η σ ρ:Type}{body}{live}{nb}(c:η->σ->St)(step:σ->σ ⊕ Option ρ)(Q:ρ->Out->St->Prop)(I:σ->Prop)
 (hr:∀h a,I a->match step a with| .inl b=>(∃g,Gp live nb (c g b) (body (c h a)))/\I b| .inr (some r)=>Ku (Q r) (body (c h a))| .inr none=>True):
 ∀{n m}(h){a r},I a->Mb step none n a=some r->n<=m->∃o s,Ac body live nb m (c h a)=some (o,s)/\Q r o s
 |0,m,h,a,r,j,hs,k=>by cases hs
 |n+1,0,h,a,r,j,hs,k=>by omega
 |n+1,m+1,h,a,r,j,hs,k=>by
  have d:=hr h a j;rw[ec];cases e:step a with
  |inl b=>
   rw[e]at d;obtain⟨⟨g,d⟩,p⟩:=d;rw[ef e]at hs;unfold Gp at d;split at d
   ·rename_i l
    rw[l,pc,d];exact yz c step Q I hr g p hs aa
   ·exact d.elim
  |inr q=>
   rw[ad e]at hs;subst hs;rw[e]at d;obtain⟨o,s,d,l,p⟩:=mP d;rw[d];refine⟨o,s,?_,p⟩;cases o with
   |normal=>exact absurd rfl l
   |exit i=>rfl
   |ret=>rfl
def Ik(s:ba)(u:Bool)(out:ba):Oa:=[(9,[.flat (.string (S []))]),(24,[.flat (.int .i64 0)]),(101,bld u 2 out []),(9,[.flat (.string (S s))]),(0,[.lp 120 0 .ready [2,3,4] [.ptr 0 0,.ptr 1 0,.ptr 2 0]])]
def zbX(d:Sb lib)(s:ba)(u)(out:ba)(n:Nat)(j:out.length+4<=za)(i:n<8388608):
 da code lib kb [.Sa 4,.flat (.int .i32 (n:Nat))] (Ik s u out) [.cell 2 1]=some ([.flat (.bool true)],false,Ik s true (out++Ka n),[.cell 2 1]):=by
 refine ep Wo EN rfl rfl rfl ?_;have g:=es (lib:=lib) n aa;have e:=ah n
 have c:∀m:ba,m.length<=4->da code lib 45 [.ptr 2 0,.flat (.string (S m))] [(9,[.flat (.string (S []))]),(24,[.flat (.int .i64 0)]),(101,bld u 2 out []),(9,[.flat (.string (S s))]),(0,[.lp 120 0 .busy [2,3,4] [.ptr 0 0,.ptr 1 0,.ptr 2 0]])] [.cell 2 1]=
  some ([.flat (.int .i64 m.length),.flat .nilIface],false,[(9,[.flat (.string (S []))]),(24,[.flat (.int .i64 0)]),(101,bld true 2 (out++m) []),(9,[.flat (.string (S s))]),(0,[.lp 120 0 .busy [2,3,4] [.ptr 0 0,.ptr 1 0,.ptr 2 0]])],[.cell 2 1]):=fun m h=>
  ai d (b:=2) (r:=[]) (rest:=[]) rfl lj aa (fun q a=>by cases a) (fun q a=>by cases a)
 have w:=c _ e;clear c;exact xe @hQ.eq_1 @RP.eq_1 @Ik.eq_1
theorem uW(j:Zp lib)(i:Sb lib)(s:ba)(hs:s.length<=100000){t:ba}(ht:ry s=some t):
 ∃u,da code lib 253 [.Sa 4,.ptr 3 0] (Ik s false []) [.cell 2 1]=some ([],false,Ik s u t,[.cell 2 1]):=by
 have g:=yz (body:=ma (da code lib) ja KB) (live:=[0,1,3]) (nb:=5) (fun(u:Bool)(q:ba×Nat)=>(⟨[(0,.Sa 4),(1,.ptr 3 0),(3,.flat (.int .i64 (q.2:Nat)))],[.cell 2 1],[],Ik s u q.1⟩:St))
  (Zo s) (fun t o st=>o=.exit 0/\∃u,st=⟨[],[.cell 2 1],[],Ik s u t⟩) (fun q=>q.2<=s.length/\q.1.length<=4* q.2) (fun u ⟨out,k⟩ p=>?_) (n:=s.length+1) (m:=ja) false ⟨Cb _,ea⟩ ht (by grind [ja])
 ·obtain⟨o,st,e,rfl,u,rfl⟩:=g
  refine⟨u,la RY (qa rfl) ?_⟩;simp only[n0,Ik]at e⊢;exact sa
 ·dsimp only at p⊢
  have l:za=4294967296:=rfl;unfold Zo;dsimp only;cases b:s.drop k with
  |nil=>
   have e:=xk.1 b;exact Hq (o:=.exit 0) (s:=⟨[],[.cell 2 1],[],Ik s u out⟩) (Kb LS @Ik.eq_1) ea ⟨rfl,u,rfl⟩
  |cons c r=>
   have e:=gg b;dsimp only;cases h:tf (c::r)with
   |none=>trivial
   |some v=>
    dsimp only;by_cases d:v.2<=6
    ·rw[if_pos d]
     have a:=Ys h;rw[ua]at a;have y:=J_ j s k hs (v:=v) (by rw[b];exact h) d;have w:=zbX i s u out v.1 aa a.2.2;have x:=ah v.1;refine⟨⟨true,?_⟩,by rw[Ba];omega⟩;clear b h;simp only[Ik]at w⊢;exact va LS
    ·rw[if_neg d];trivial
def zbW(c:Zp lib)(a:Sb lib)(s:ba)(hs:s.length<=100000){t:ba}(ht:ry s=some t):da code lib 120 [.flat (.string (S s))] [] []=some ([.flat (.string (S t)),.flat (.int .i64 0)],false,[],[]):=by
 obtain⟨u,hr⟩:=uW c a s hs ht;have j:(⟨#[]⟩:ByteArray)=S []:=rfl;have d:=lk (lib:=lib) (oc:=[.cell 2 1]) a (bx:=[(9,[.flat (.string (S []))]),(24,[.flat (.int .i64 0)]),(101,bld u 2 t []),(9,[.flat (.string (S s))])]) (b:=2) rfl ea;have h:da code lib 193 [.flat (.string (S s))] [] []=some ([.ib 253 [.ptr 0 0]],false,[(9,[.flat (.string (S s))])],[]):=Fa FN;have i:da code lib 193 [.flat (.string (S s))] [(9,[.flat (.string (S []))]),(24,[.flat (.int .i64 0)]),(101,[.flat (.pointer none),.ia 0 []])] [.cell 2 1]=some ([.ib 253 [.ptr 3 0]],false,[(9,[.flat (.string (S []))]),(24,[.flat (.int .i64 0)]),(101,[.flat (.pointer none),.ia 0 []]),(9,[.flat (.string (S s))])],[.cell 2 1]):=Fa FN;have g:Ia 4 (bld u 2 t [])=true:=Mo ha rfl;have e:Ia 3 (bld u 2 t [])=true:=Mo ha rfl;simp only[Ik,IC]at hr;exact Fa EN
def dH(Q:List (Nat×PV)->List Loc->Oa->Prop):Option (Out×St)->Prop
 |some (.normal,⟨sl,ow,[],bx⟩)=>Q sl ow bx
 |_=>False
theorem u_{Q sl ow bx}:dH Q (some (.normal,⟨sl,ow,[],bx⟩))=Q sl ow bx:=rfl
attribute [go_sem] u_
def xr{cf m A B sl ow bx Ua a r}(Q:List (Nat×PV)->List Loc->Oa->Prop)(b:dH Q (ma cf m A ⟨sl,ow,[],bx⟩))(c:∀sl ow bx,Q sl ow bx->Uj Ua a (ma cf m B ⟨sl,ow,[],bx⟩)=r):Uj Ua a (ma cf m (.seq A B) ⟨sl,ow,[],bx⟩)=r:=by
 unfold dH at b;split at b
 ·rename_i h;rw[ju,h,jv];exact c _ _ _ b
 ·exact b.elim
def nU{cf m A B C st}:ma cf m (.seq A (.seq B C)) st=ma cf m (.seq (.seq A B) C) st:=by
 simp only[ju];rcases ma cf m A st with _|⟨o,s⟩
 ·rfl
 ·cases o with
  |normal=>rw[jv,jv,ju]
  |_=>rfl
def xb(s:ba)(k:Nat)(ys:Oa):Oa:=(201,[.flat (.string (S s)),.flat (.int .i64 (k:Nat))])::ys
attribute [go_sem] xb
def qT{s:ba}{k}{ys}{r}(hs:s.length<=100000)(fa:∀q∈r,q.1<ys.length+1):da code lib 117 [.ptr 0 0] (xb s k ys) (cl r)=some ([.flat (.int .u8 (match s[k]? with|some c=>(c.toNat:Int)|none=>0))],false,xb s k ys,cl r):=by
 cases a:s[k]? with
 |none=>
  have:=ul.1 a;exact Fa DN
 |some c=>
  have:=(qg a).1;exact Fa DN
theorem wA(h:We lib){s w:ba}{k}{ys}{r}(hs:s.length<=100000)(n:w.length<=1000)(hr:∀q∈r,q≠(0,1))(fa:∀q∈r,q.1<ys.length+1){b:Bool}(a:(match s[k]? with|some c=>w.contains c|none=>false)=b):
 da code lib 251 [.ptr 0 0,.flat (.string (S w))] (xb s k ys) (cl r)=some ([.flat (.bool b)],false,xb s (if b=true then k+1 else k) ys,cl r):=by
 cases d:s[k]? with
 |none=>
  have:=ul.1 d;rw[d]at a;subst a;exact Fa eD
 |some c=>
  have l:=(qg d).1;have g:=pp h w c aa;rw[d]at a;dsimp only at a;rw[<-oq]at a;cases e:Cc c w with
  |none=>
   rw[e]at g a;subst a;exact Fa eD
  |some i=>
   rw[e]at g a;subst a;have j:=Rr e;exact Fa eD
theorem l1{s:ba}{k:Nat}{ys}{r}(hs:s.length<=100000)(y:k<=200000)(hr:∀q∈r,q≠(0,1))(fa:∀q∈r,q.1<ys.length+1):
 da code lib 252 [.ptr 0 0] (xb s k ys) (cl r)=some ([.flat (.int .i64 (Wc (s.drop k):Nat))],false,xb s (k+Wc (s.drop k)) ys,cl r):=by
 have h:=fun k=>qT (lib:=lib) (k:=k) hs fa
 have b:=Ah (body:=ma (da code lib) ja GB) (live:=[0,3,4]) (nb:=ys.length+1) (fun j:Nat=>(⟨[(0,.ptr 0 0),(3,.flat (.int .i64 (k:Nat))),(4,.flat (.int .u8 (match s[j]? with|some c=>(c.toNat:Int)|none=>0)))],cl r,[],xb s j ys⟩:St)) (fun j=>j<=200000) (fun j=>s.length - j)
  (fun j=>(.exit 0,⟨[(0,.ptr 0 0),(3,.flat (.int .i64 (k:Nat)))],cl r,[],xb s (j+Wc (s.drop j)) ys⟩)) (fun j g=>?_) (n:=ja) (a:=k) y (by grind [ja])
 ·have h:=h k
  simp only[xb]at h b;have e:IntKind.i64.wrap (((k+Wc (s.drop k):Nat):Int) - (k:Int))=((Wc (s.drop k):Nat):Int):=by
   have:Wc (s.drop k)<=s.length:=by have:=(List.takeWhile_sublist (p:=rp) (l:=s.drop k)).length_le;rw[fc]at this;unfold Wc;omega
   rw[iB aa aa];omega
  generalize Wc (s.drop k)=d at*;simp only[Ee]at e;exact Fa LY
 ·cases g:s.drop j with
  |nil=>
   have x:=xk.1 g;have o:=Qf x;rw[o];exact .inl ⟨.exit 0,⟨[(0,.ptr 0 0),(3,.flat (.int .i64 (k:Nat)))],cl r,[],xb s j ys⟩,va Oz,ea,rfl⟩
  |cons c t=>
   have o:=Vh g;have x:=gg g;have u:=Em g;have v:=h (j+1);rw[BD,o];unfold rp;simp only[xb,Ee,n1]at v;clear g h;have A:=c.toNat_lt;obtain⟨n,z⟩:∃n,c.toNat=n:=⟨_,rfl⟩;rw[z];by_cases i:48<=n
   ·by_cases w:n<=57
    ·refine .inr ⟨⟨[(0,.ptr 0 0),(3,.flat (.int .i64 (k:Nat))),(4,.flat (.int .u8 (match s[j+1]? with|some c=>(c.toNat:Int)|none=>0)))],cl r,[],xb s (j+1) ys⟩,j+1,va Oz,sa,aa,aa,?_⟩
     rw[u];simp[i,w,tk,Nat.add_comm 1]
    ·refine .inl ⟨.exit 0,⟨[(0,.ptr 0 0),(3,.flat (.int .i64 (k:Nat)))],cl r,[],xb s j ys⟩,va Oz,ea,?_⟩
     simp[i,w]
   ·refine .inl ⟨.exit 0,⟨[(0,.ptr 0 0),(3,.flat (.int .i64 (k:Nat)))],cl r,[],xb s j ys⟩,va Oz,ea,?_⟩
    simp[i]
def qU{o:Option UInt8}{d:UInt8}:(match o with|some c=>([d]:ba).contains c|none=>false)=decide (o=some d):=by cases o<;>simp
def rU{o:Option UInt8}{d e:UInt8}:(match o with|some c=>([d,e]:ba).contains c|none=>false)=decide (o=some d\/o=some e):=by cases o<;>simp
abbrev kh:Nat×List PV:=(203,[.flat (.int .u8 0),.flat (.string (S [])),.flat (.int .i64 0),.flat (.int .i64 0)])
def O5(H:We lib){s:ba}{k n:Nat}(hs:s.length<=100000)(hkZ:k<=s.length)(u:Yk (s.drop k)=some n):
 da code lib 192 [.ptr 0 0] (xb s k []) []=some ([.agg (Oe ⟨48,(s.take (k+n)).drop k,k,k+n⟩),.flat (.bool true)],false,xb s (k+n) [],[]):=by
 have hzZ:(⟨#[]⟩:ByteArray)=S []:=rfl;have E:=fun d j(e:s[j]?=some d)=>wA (ys:=[kh]) (r:=[]) H hs (w:=[d]) (k:=j) ea ea ea (b:=true) (qU.trans (decide_eq_true e))
 have hF:=fun d j(e:¬s[j]?=some d)=>wA (ys:=[kh]) (r:=[]) H hs (w:=[d]) (k:=j) ea ea ea (b:=false) (qU.trans (decide_eq_false e))
 have J:=fun j b(e:decide (s[j]?=some 101\/s[j]?=some 69)=b)=>wA (ys:=[kh]) (r:=[]) H hs (w:=[101,69]) (k:=j) ea ea ea (b:=b) (rU.trans e)
 have N:=fun j b(e:decide (s[j]?=some 43\/s[j]?=some 45)=b)=>wA (ys:=[kh]) (r:=[]) H hs (w:=[43,45]) (k:=j) ea ea ea (b:=b) (rU.trans e)
 have A:=fun j(h:j<=200000)=>l1 (lib:=lib) (k:=j) (ys:=[kh]) (r:=[]) hs h ea ea
 simp only[Am,La,if_true,if_false,xb]at E hF J N A;have t:=fun j(h:j<=s.length)=>Eu s j h
 have fa:=fun j c(h:s[j]?=some c)=>sm h
 obtain⟨R,X,p2Z,p3Z,p5Z,p4Z⟩:=FS_ s k;have v:=p2Z (jd (s.drop k));have o:=p3Z (Vf (s.drop k) (jd (s.drop k)));have i:=p4Z (gh (s.drop k) (Vf (s.drop k) (jd (s.drop k))));have C:=p5Z (gh (s.drop k) (Vf (s.drop k) (jd (s.drop k)))+1);have V:k+jd (s.drop k)<=s.length:=by
  rw[R];split
  ·rename_i h;have:=fa _ _ h;omega
  ·omega
 have D:=u;rw[X]at u;split at u
 ·cases u
 rename_i L;have u:=jf u;rw[u]at i;clear X p2Z p3Z p4Z p5Z u;refine la NY (qa rfl) ?_;refine xr (fun sl ow bx=>look sl 0=.ptr 0 0/\look sl 2=.ptr 1 0/\ow=[]/\bx=xb s k [kh]) sa ?_;rintro sl _ _ ⟨y,z,rfl,rfl⟩;refine xr (fun sl ow bx=>look sl 0=.ptr 0 0/\look sl 2=.ptr 1 0/\look sl 4=.flat (.int .i64 (k:Nat))/\ow=[]/\bx=xb s k [kh]) sa ?_;rintro sl _ _ ⟨y,z,B,rfl,rfl⟩;refine xr (fun sl ow bx=>look sl 0=.ptr 0 0/\look sl 2=.ptr 1 0/\look sl 4=.flat (.int .i64 (k:Nat))/\ow=[]/\bx=xb s (k+jd (s.drop k)) [kh]) ?_ ?_
 ·rw[R]
  by_cases F:s[k]?=some 45
  ·have p:=E 45 k F
   rw[if_pos F];exact sa
  ·have p:=hF 45 k F
   rw[if_neg F];exact sa
 rintro sl _ _ ⟨y,z,B,rfl,rfl⟩;obtain⟨a,T⟩:∃a,k+jd (s.drop k)=a:=⟨_,rfl⟩;rw[T]at V v L⊢;obtain⟨c,O⟩:=FO L;have l0Z:=t a V;obtain⟨e,U⟩:∃e,k+Vf (s.drop k) (jd (s.drop k))=e:=⟨_,rfl⟩;rw[U]at v o;have q:e<=s.length:=by
  rw[v];split
  ·have:=fa _ _ O;omega
  ·omega
 refine xr (fun sl ow bx=>look sl 0=.ptr 0 0/\look sl 2=.ptr 1 0/\look sl 4=.flat (.int .i64 (k:Nat))/\ow=[]/\bx=xb s e [kh]) ?_ ?_
 ·by_cases h:s[a]?=some 48
  ·have p:=E 48 a h
   rw[if_pos h]at v;subst v;clear O;exact sa
  ·have p:=hF 48 a h
   have P:=A a aa;rw[if_neg h]at v;subst v;exact sa
 clear v O l0Z L;rintro sl _ _ ⟨y,z,B,rfl,rfl⟩;refine xr (fun sl ow bx=>look sl 0=.ptr 0 0/\look sl 2=.ptr 1 0/\look sl 4=.flat (.int .i64 (k:Nat))/\look sl 5=.flat (.int .i64 (e:Nat))/\ow=[]/\bx=xb s e [kh]) sa ?_;rintro sl _ _ ⟨y,z,B,K,rfl,rfl⟩;obtain⟨f,I⟩:∃f,k+gh (s.drop k) (Vf (s.drop k) (jd (s.drop k)))=f:=⟨_,rfl⟩;rw[I]at o i;rw[<-tk,I]at C;have G:=fun h=>t (e+1) h
 have hf:f<=s.length:=by
  rw[o];split
  ·rename_i h;have:=fa _ _ h.1;have:=G aa;omega
  ·exact q
 rw[nU];refine xr (fun sl ow bx=>look sl 0=.ptr 0 0/\look sl 2=.ptr 1 0/\look sl 4=.flat (.int .i64 (k:Nat))/\look sl 5=.flat (.int .i64 (f:Nat))/\ow=[]/\bx=xb s f [kh]) ?_ ?_
 ·by_cases h:s[e]?=some 46
  ·have p:=E 46 e h
   have P:=A (e+1) (by have:=fa _ _ h;omega);simp only[Ee,n1]at P p;by_cases F:0<Wc (s.drop (e+1))
   ·rw[if_pos ⟨h,F⟩]at o;subst o
    clear A;exact sa
   ·rw[if_neg fun x=>F x.2]at o;subst o
    clear A;exact sa
  ·have p:=hF 46 e h
   rw[if_neg fun x=>h x.1]at o;subst o;exact sa
 clear o G q y z B K;rintro sl _ _ ⟨y,z,B,K,rfl,rfl⟩;obtain⟨g,M⟩:∃g,k+Di (s.drop k) (gh (s.drop k) (Vf (s.drop k) (jd (s.drop k)))+1)=g:=⟨_,rfl⟩;rw[M]at i C;rw[nU];refine xr (fun sl ow bx=>look sl 0=.ptr 0 0/\look sl 2=.ptr 1 0/\look sl 4=.flat (.int .i64 (k:Nat))/\look sl 5=.flat (.int .i64 (k+n:Nat))/\ow=[]/\bx=xb s (k+n) [kh]) ?_ ?_
 ·by_cases q:s[f]?=some 101\/s[f]?=some 69
  ·have hgZ:f+1<=s.length:=by rcases q with h|h<;>(have:=fa _ _ h;omega)
   have p:=J f true (decide_eq_true q);have W:(s[f]?=some 101\/s[f]?=some 69)=True:=eq_true q;simp only[W,true_and]at i;have Q:g<=s.length:=by
    rw[C];split
    ·rename_i h;rcases h with h|h<;>(have:=fa _ _ h;omega)
    ·exact hgZ
   have P:=A g aa;have hlg:=t g Q;have Z:g=if decide (s[f+1]?=some 43\/s[f+1]?=some 45)=true then f+1+1 else f+1:=by rw[C];simp
   have Y:=N (f+1) _ rfl;rw[<-Z]at Y;simp only[Ee,n1]at Y p;clear E hF J N A t fa C Z W q T U I M R;generalize decide (s[f+1]?=some 43\/s[f+1]?=some 45)=b1Z at*;generalize Wc (s.drop g)=d at*;by_cases F:0<d
   ·rw[if_pos F]at i
    rw[i];exact sa
   ·rw[if_neg F]at i
    rw[i];exact sa
  ·have p:=J f false (decide_eq_false q)
   rw[if_neg fun x=>q x.1]at i;rw[i];exact sa
 have hkn:k+n<=s.length:=by
  have:=Nz (l:=s.drop k) (k:=n) D;rw[fc]at this;omega
 have hkk:k<=k+n:=Nat.le_add_right _ _;clear y z B K i C M I D;rintro sl _ _ ⟨y,z,B,K,rfl,rfl⟩;generalize k+n=m at*;exact sa
def u9{s:ba}{k:Nat}{c:UInt8}(hs:s.length<=100000)(a:s[k]?=some c):
 da code lib 189 [.ptr 0 0] (xb s k []) []=some ([.agg (Oe ⟨c,[],k,k+1⟩),.flat (.bool true)],false,xb s (k+1) [],[]):=by
 have d:(⟨#[]⟩:ByteArray)=S []:=rfl;have b:=sm a;have e:IntKind.i64.wrap ((k:Int)+1 - 1)=(k:Int):=by rw[iB aa aa];omega
 exact Fa MY
def zf8(l:sc lib){s w:ba}{k:Nat}(hs:s.length<=100000)(n:k<=s.length)(a:lg (s.drop k)=some w):
 da code lib 191 [.ptr 0 0] (xb s k []) []=some ([.agg (Oe ⟨97,w,k,k+w.length⟩),.flat (.bool true)],false,xb s (k+w.length) [],[]):=by
 have o:(⟨#[]⟩:ByteArray)=S []:=rfl;have g:=fun w h=>dA l (s.drop k) w (by rw[fc];omega) h
 have d:=g wT ha;have i:=g Yh ha;have j:=g wN ha;clear g;unfold lg at a;rcases Nh (wT.isPrefixOf (s.drop k))with b|b
 ·rw[if_pos b]at a
  cases a;rw[b]at d;unfold wT at d⊢;refine la fD (qa rfl) ?_;exact ye @Rc @ec @pc @Ec @Ed jH
 rw[if_neg (by simp[b])]at a;rw[b]at d;rcases Nh (Yh.isPrefixOf (s.drop k))with c|c
 ·rw[if_pos c]at a
  cases a;rw[c]at i;unfold wT at d;unfold Yh at i⊢;refine la fD (qa rfl) ?_;exact ye @Rc @ec @pc @Ec @Ed jH
 rw[if_neg (by simp[c])]at a;rw[c]at i;rcases Nh (wN.isPrefixOf (s.drop k))with e|e
 ·rw[if_pos e]at a
  cases a;rw[e]at j;unfold wT at d;unfold Yh at i;unfold wN at j⊢;refine la fD (qa rfl) ?_;exact ye @Rc @ec @pc @Ec @Ed jH
 ·rw[if_neg (by simp[e])]at a;cases a
end ya

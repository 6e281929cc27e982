/- The library of EmailReads, and what its frame needs. -/
import Derived.Test.YtglaihdcndcmkaaGreatDoorRg
import Derived.IntWalk
import Derived.Deep.RegionHeld3
import Derived.Deep.AppendLies
import Derived.StillTactics
import Derived.OwnWalk
import Derived.Test.YtglaihdcndcmkaaGreatDoorRows
import Derived.LaidMore
import Derived.ProofKit
import Derived.OpenShut
import Derived.Stop.Joined
import Derived.Handed
import Derived.HandedShaped
import Derived.Lib.LaidU8
import Derived.Shelf.Vars
import Derived.Test.YtglaihdcndcmkaaGreatDoorTie
import Derived.Test.YtglaihdcndcmkaaGreatDoorCards
import Derived.SevenTiedAt
set_option linter.all false
open Go wa Go.Proofs Go.RowKit Go.Proofs.YtglaihdcndcmkaaGreatDoor
set_option maxHeartbeats 4000000
namespace wa
variable {lib:Callee}
def NF:nj 111 2:=by unfold nj;kernel_rfl
def wo(lib:Callee)(qp:ba->ba):Prop:=∀s:ba,s.length<=10000->(qp s).length<=100000/\lib 99 [.flat (.string (S s))] [] []=some ([.flat (.string (S (qp s)))],false,[],[])
def Nw(lib:Callee)(qp:ba->ba):Prop:=∀s:ba,s.length<=10000->lib 67 [.flat (.string (S s))] [] []=some ([.flat (.string (S (qp s)))],false,[],[])
def L0{enc}(o:ci lib enc)(p:Cf lib)(t:sd lib)(e:pe lib){bx}{r:List (Nat×Nat)}{b:Nat}{u}{l f v:ba}(g:bx[b]?=some (111,bld u b l []))(y:v.length<=10000)(w:f.length<=10000)(x:kf f=true)(a:l.length+(Kf enc f v).length<=Da)(hr:∀q∈r,q≠(b,1))(ea:∀q∈r,q.1<bx.length):
 fa code lib 48 [.ptr b 0,.flat (.string (S f)),.flat (.string (S v))] bx (.cell b 1::cl r)=some ([],false,bx.set b (111,bld true b (l++Kf enc f v) []),.cell b 1::cl r):=by
 have k:=zeu o p t e f v y w;simp only[x,if_true]at k;have n:=Hl (lib:=lib) (r:=r) (m:=Kf enc f v) e g NF a hr ea;have h:=(qg g).1;obtain⟨r',c⟩:∃r',r'=(b,1)::r:=⟨_,rfl⟩;have d:Loc.cell b 1::cl r=cl r':=by rw[c];rfl
 rw[d]at n⊢;have i:∀q∈r',q.1<bx.length:=by
  rw[c];intro q j;rcases Wb.1 j with rfl|j
  ·omega
  ·grind
 refine ma MW (qa rfl) ?_;simp(maxSteps:=999999) (disch:=first|assumption|omega) only[go_sem,simprocAttr,au,k,n]
theorem PP(G:pe lib){bx}{r}{b}(L){u}{l}(H:bx[b]?=some (111,bld u b l []))(R:L.length<=1000000)(j:l.length+(zd L).length<=Da)(hr:∀q∈r,q≠(b,1))(ea:∀q∈r,q.1<bx.length)(O:1<=L.length):
 fa code lib 49 [.ptr b 0,.ha L.length (ua L)] bx (.cell b 1::cl r)=some ([],false,bx.set b (111,bld true b (l++zd L) []),.cell b 1::cl r):=by
 have a:=(qg H).1;obtain⟨r',o⟩:∃r',r'=(b,1)::r:=⟨_,rfl⟩;have e:Loc.cell b 1::cl r=cl r':=by rw[o];rfl
 have I:∀q∈r',q.1<bx.length:=by
  rw[o];intro q i;rcases Wb.1 i with rfl|i
  ·omega
  ·grind
 have g:∀(t:List ba)(k:Nat)(u:Bool)(x:ba)(n:Nat),k+t.length=L.length->L.drop k=t->x.length+(zd t).length<=Da->t.length<n->
  ∃c,(1<=t.length->c=true)/\(t=[]->c=u)/\Fc (pa (fa code lib) ka iB) [0,6,7,8] bx.length n ⟨[(0,.ptr b 0),(6,.ha L.length (ua L)),(7,.flat (.int .i64 (L.length:Nat))),(8,.flat (.int .i64 (k:Nat)))],cl r',[],bx.set b (111,bld u b x [])⟩=some (.exit 0,⟨[],cl r',[],bx.set b (111,bld c b (x++zd t) [])⟩):=by
  intro t
  induction t with
  |nil=>
   intro k u x n B v M J;obtain⟨m,rfl⟩:∃m,n=m+1:=⟨n - 1,aa⟩;have i:k=L.length:=by simp only[ya]at B;omega
   subst i;refine⟨u,da,fun _=>rfl,?_⟩;rw[tc];simp only[zd,Ye];exact Rc jR @Sc
  |cons y t P=>
   intro k u x n B v M J;simp only[za]at B J;obtain⟨m,rfl⟩:∃m,n=m+1:=⟨n - 1,aa⟩;have i:k<L.length:=aa
   have D:(ua L).drop k=.flat (.string (S y))::(ua L).drop (k+1):=by
    have:(ua L).drop k=ua (y::t):=by rw[ua,<-Yi,v];rfl
    rw[this];have w:L.drop (k+1)=t:=by
     have:=congrArg (List.drop 1) v;rwa[rf]at this
    show .flat (.string (S y))::ua t=_;rw[ua,ua,<-Yi,w]
   have A:L.drop (k+1)=t:=by
    have:=congrArg (List.drop 1) v;rwa[rf]at this
   have C:(zd (y::t)).length=y.length+2+(zd t).length:=by simp only[zd,crlf,Ja,za,ya]
   rw[C]at M;have K:∀q,(bx.set b (111,bld u b x [])).set b q=bx.set b q:=fun q=>jo ..
   have N:=Hl (lib:=lib) (bx:=bx.set b (111,bld u b x [])) (r:=r) (b:=b) (u:=u) (l:=x) (m:=y) (rest:=[]) G (yg a) NF aa hr (by rw[Bc];exact ea);have F:=Hl (lib:=lib) (bx:=bx.set b (111,bld true b (x++y) [])) (r:=r) (b:=b) (u:=true) (l:=x++y) (m:=[13,10]) (rest:=[]) G (yg a) NF (by simp only[Ja,za,ya];omega) hr (by rw[Bc];exact ea);rw[e,jo]at N F;obtain⟨c,d,Q,z⟩:=P (k+1) true (x++y++crlf) m aa A (by grind [crlf]) aa;have E:x++zd (y::t)=x++y++crlf++zd t:=by simp only[zd,sf]
   rw[E];refine⟨c,fun _=>?_,fun h=>(List.cons_ne_nil _ _ h).elim,?_⟩
   ·grind
   have p:x++(y++[13,10])=x++y++crlf:=by rw[sf];rfl
   rw[tc];simp only[crlf]at z⊢;simp only[Wi,Xi,sf]at z;simp only[sf]at F⊢;simp(maxSteps:=999999) (disch:=first|assumption|omega) only[go_sem,simprocAttr,au,jR,Gc,D,N,F,z,bc]
 obtain⟨c,w,_,d⟩:=g L 0 u l ka aa rfl j Kh;rw[w O]at d;rw[xp H]at d;simp only[n0]at d;rw[e];refine ma NW (qa rfl) ?_;simp(maxSteps:=999999) (disch:=first|assumption|omega) only[go_sem,simprocAttr,au,d,bc]
end wa
section
namespace wa
variable {lib:Callee}
def qZ{d}{a b}:Ta d (a++b)=Ta d a++Ta d b:=by unfold Ta;rw[List.filter_append]
def mz:ba:=[45,45,61,95,110,117,110,99,105,111]
def Tr:ba:=[67,111,110,116,101,110,116,45,84,121,112,101,58,32,116,101,120,116,47]
def Sr:ba:=[59,32,99,104,97,114,115,101,116,61,117,116,102,45,56]
def Ur:ba:=[67,111,110,116,101,110,116,45,84,114,97,110,115,102,101,114,45,69,110,99,111,100,105,110,103,58,32,113,117,111,116,101,100,45,112,114,105,110,116,97,98,108,101]
def Js:ba:=[77,73,77,69,45,86,101,114,115,105,111,110,58,32,49,46,48]
def Ks:ba:=[67,111,110,116,101,110,116,45,84,121,112,101,58,32,109,117,108,116,105,112,97,114,116,47,97,108,116,101,114,110,97,116,105,118,101,59,32,98,111,117,110,100,97,114,121,61,34,61,95,110,117,110,99,105,111,34]
def Yr:ba:=[45,45,61,95,110,117,110,99,105,111,45,45]
def Yq:ba:=[112,108,97,105,110]
def Aq:ba:=[104,116,109,108]
def km:ba:=[70,114,111,109]
def Fm:ba:=[84,111]
def Em:ba:=[83,117,98,106,101,99,116]
def Uh(qp:ba->ba)(kind s:ba):List ba:=[mz,Tr++kind++Sr,Ur,[],qp s]
def am(enc qp:ba->ba)(m:Ml):ba:=Kf enc km m.fr++Kf enc Fm m.to++Kf enc Em m.su++zd [Js,Ks,[]]++zd (Uh qp Yq m.te)++zd (Uh qp Aq m.ht)++zd [Yr]
def BQ:kf km=true:=lc
def DQ:kf Fm=true:=lc
def CQ:kf Em=true:=lc
def Gs{enc}(a:ci lib enc)(f v)(c:f.length<=10000)(b:v.length<=10000):(Kf enc f v).length<=200000002:=by
 have:=my (Bg enc v) 0 (f++[58],f.length+1) ⟨by simp only[Ja,za,ya];omega,Fg⟩ (qI a v b);unfold Kf;simp only[Ja,za,ya];omega
def JR{qp}(a:wo lib qp)(kind s)(b:kind.length<=100)(hs:s.length<=10000):(zd (Uh qp kind s)).length<=100300:=by
 have:=(a s hs).1;simp only[Uh,zd,crlf,mz,Tr,Sr,Ur,Ja,za,ya];omega
def z8{qp}(o:pe lib)(p:wo lib qp){bx}{r}{b}{u}{l kind s:ba}(k:bx[b]?=some (111,bld u b l []))(v:kind.length<=100)(hs:s.length<=10000)(c:l.length+(zd (Uh qp kind s)).length<=Da)(hr:∀q∈r,q≠(b,1))(ea:∀q∈r,q.1<bx.length):
 fa code lib 50 [.ptr b 0,.flat (.string (S kind)),.flat (.string (S s))] bx (.cell b 1::cl r)=some ([],false,bx.set b (111,bld true b (l++zd (Uh qp kind s)) []),.cell b 1::cl r):=by
 have d:fa code lib 99 [.flat (.string (S s))] [] []=some ([.flat (.string (S (qp s)))],false,[],[]):=Ud ga ca (p s hs).2;have g:=PP (lib:=lib) o (r:=r) (Uh qp kind s) k (by simp[Uh]) c hr ea (by simp[Uh]);have a:=(qg k).1;obtain⟨z,t⟩:∃z,zd (Uh qp kind s)=z:=⟨_,rfl⟩;rw[t]at g⊢;simp only[Uh,ua,kc,Bf,za,ya,sc,Nat.reduceAdd,mz,Tr,Sr,Ur,ub,Gb]at g;obtain⟨r',e⟩:∃r',r'=(b,1)::r:=⟨_,rfl⟩;have i:Loc.cell b 1::cl r=cl r':=by rw[e];rfl
 rw[i]at g⊢;have n:∀q∈r',q.1<bx.length:=by
  rw[e];intro q d;rcases Wb.1 d with rfl|d
  ·exact a
  ·exact ea q d
 have j:(⟨#[]⟩:ByteArray)=S []:=rfl;have h:Da=4294967296:=rfl;refine ma OW (qa rfl) ?_;simp(maxSteps:=999999) (disch:=first|assumption|omega) only[go_sem,simprocAttr,au,j,d,g,h,Ja,qZ]end wa
end
namespace wa
variable {lib:Callee}
def ar(enc qp:ba->ba)(m:Ml):ba:=if ei m=0 then am enc qp m else[]
def tM(m):ei m<=7:=by unfold ei;split<;>(try split)<;>omega
def ZJ{enc qp}(z:ci lib enc)(J:wo lib qp)(N:Cf lib)(U:hu lib)(T:eu lib)(O:sd lib)(w:pe lib)(V:ju lib)(m)(hmZ:m.small):fa code lib 21 [.agg (nc m)] [] []=some ([.flat (.string (S (ar enc qp m))),.flat (.int .i64 (ei m:Nat))],false,[],[]):=by
 have g:=BW N U T O w V m hmZ;have hz0:(⟨#[]⟩:ByteArray)=S []:=rfl;unfold ar;have hle:=tM m;by_cases C:ei m=0
 ·rw[if_pos C]
  rw[C,n0]at g;rw[C];obtain⟨D,E,F,G,H⟩:=hmZ;have l1Z:=Gs z km m.fr ga D;have l2Z:=Gs z Fm m.to ga E;have l3Z:=Gs z Em m.su ga F;have l4Z:=JR J Yq m.te ga G;have l5Z:=JR J Aq m.ht ga H;have a:Da=4294967296:=rfl;have hF:∀(u:Bool)(l f v:ba),v.length<=10000->f.length<=10000->kf f=true->l.length+(Kf enc f v).length<=Da->fa code lib 48 [.ptr 1 0,.flat (.string (S f)),.flat (.string (S v))] [(23,nc m),(111,bld u 1 l [])] [.cell 1 1]=some ([],false,[(23,nc m),(111,bld true 1 (l++Kf enc f v) [])],[.cell 1 1]):=fun u l f v A K B h4Z=>L0 (r:=[]) z N O w rfl A K B h4Z (fun q h=>by cases h) (fun q h=>by cases h)
  have d:∀(l:ba)(L:List ba),1<=L.length->L.length<=100->l.length+(zd L).length<=Da->fa code lib 49 [.ptr 1 0,.ha L.length (ua L)] [(23,nc m),(111,bld true 1 l [])] [.cell 1 1]=some ([],false,[(23,nc m),(111,bld true 1 (l++zd L) [])],[.cell 1 1]):=fun l L A K B=>PP (r:=[]) w L rfl aa B (fun q h=>by cases h) (fun q h=>by cases h) A
  have e:∀(l kind s:ba),kind.length<=100->s.length<=10000->l.length+(zd (Uh qp kind s)).length<=Da->fa code lib 50 [.ptr 1 0,.flat (.string (S kind)),.flat (.string (S s))] [(23,nc m),(111,bld true 1 l [])] [.cell 1 1]=some ([],false,[(23,nc m),(111,bld true 1 (l++zd (Uh qp kind s)) [])],[.cell 1 1]):=fun l kind s A K B=>z8 (r:=[]) w J rfl A K B (fun q h=>by cases h) (fun q h=>by cases h)
  have P:(zd [Js,Ks,[]]).length<=100:=ga
  have Q:(zd [Yr]).length<=100:=ga
  unfold am;obtain⟨t,c⟩:∃x,Kf enc km m.fr=x:=⟨_,rfl⟩;obtain⟨y,i⟩:∃x,Kf enc Fm m.to=x:=⟨_,rfl⟩;obtain⟨I,j⟩:∃x,Kf enc Em m.su=x:=⟨_,rfl⟩;obtain⟨R,k⟩:∃x,zd (Uh qp Yq m.te)=x:=⟨_,rfl⟩;obtain⟨x5Z,n⟩:∃x,zd (Uh qp Aq m.ht)=x:=⟨_,rfl⟩;obtain⟨M,o⟩:∃x,zd [Js,Ks,[]]=x:=⟨_,rfl⟩;obtain⟨x7Z,p⟩:∃x,zd [Yr]=x:=⟨_,rfl⟩;have W:=hF false [] km m.fr D ga BQ (by rw[a];simp only[ya];omega);rw[c,Gb]at W;rw[c]at l1Z;have X:=hF true t Fm m.to E ga DQ (by rw[a];omega);rw[i]at X l2Z;have Y:=hF true (t++y) Em m.su F ga CQ (by rw[a,Ja];omega);rw[j]at Y l3Z;have Z:=d (t++y++I) [Js,Ks,[]] ga ga (by rw[a,Ja,Ja];omega);rw[o]at Z P;have f5Z:=e (t++y++I++M) Yq m.te ga G (by rw[a];simp only[Ja];omega);rw[k]at f5Z l4Z;have f6Z:=e (t++y++I++M++R) Aq m.ht ga H (by rw[a];simp only[Ja];omega);rw[n]at f6Z l5Z;have f7Z:=d (t++y++I++M++R++x5Z) [Yr] ga ga (by rw[a];simp only[Ja];omega);rw[p]at f7Z Q;have f8Z:=xt (lib:=lib) (bx:=[(23,nc m),(111,bld true 1 (t++y++I++M++R++x5Z++x7Z) [])]) (oc:=[.cell 1 1]) (b:=1) (u:=true) (rest:=[]) w rfl da;rw[c,i,j,k,n,o,p];clear hF d e c i j k n o p z J N U T O w V;simp only[nc,sx,ua,kc,Bf,za,ya,sc,Nat.reduceAdd,Js,Ks,Yr,km,Fm,Em,Yq,Aq,sf]at g W X Y Z f5Z f6Z f7Z f8Z⊢;refine ma xM (qa rfl) ?_;exact ta
 ·rw[if_neg C]
  simp only[nc]at g⊢;have a:=eq_false C;refine ma xM (qa rfl) ?_;exact ta
def IR{qp}(a:wo lib qp)(b:Nw lib qp)(kind s:ba)(e:kind.length<=100)(hs:s.length<=10000):fa code lib 31 [.flat (.string (S kind)),.flat (.string (S s))] [] []=some ([.flat (.string (S (zd [Tr++kind++Sr,Ur,[],qp s])))],false,[],[]):=by
 have h:fa code lib 67 [.flat (.string (S s))] [] []=some ([.flat (.string (S (qp s)))],false,[],[]):=Ud ga ca (b s hs);have g:=(a s hs).1;have d:(⟨#[]⟩:ByteArray)=S []:=rfl;have c:Da=4294967296:=rfl;refine ma LX (qa rfl) ?_;simp only[zd,crlf,Tr,Sr,Ur,sf,ub,Gb];exact va @Ja.{0}
set_option maxRecDepth 100000 in
def OV{enc qp}(b:ci lib enc)(a:Sp lib enc)(h:wo lib qp)(p:Nw lib qp)(m)(u:m.small):fa code lib 16 [.agg (nc m)] [] []=some ([.flat (.string (S (ar enc qp m))),.flat (.int .i64 (ei m:Nat))],false,[],[]):=by
 have c:=AW (lib:=lib) m u;have A:(⟨#[]⟩:ByteArray)=S []:=rfl;unfold ar;have z:=tM m;by_cases i:ei m=0
 ·rw[if_pos i]
  rw[i,n0]at c;rw[i];obtain⟨j,k,l,n,o⟩:=u;have B:=Gs b km m.fr ga j;have C:=Gs b Fm m.to ga k;have D:=Gs b Em m.su ga l;have E:=(h m.te n).1;have F:=(h m.ht o).1;have y:Da=4294967296:=rfl;have q:=tI b a km m.fr j ga;have r:=tI b a Fm m.to k ga;have t:=tI b a Em m.su l ga;have v:=IR h p Yq m.te ga n;have w:=IR h p Aq m.ht ga o;unfold am;simp only[BQ,DQ,CQ,if_true]at q r t;obtain⟨G,d⟩:∃x,Kf enc km m.fr=x:=⟨_,rfl⟩;obtain⟨H,e⟩:∃x,Kf enc Fm m.to=x:=⟨_,rfl⟩;obtain⟨I,g⟩:∃x,Kf enc Em m.su=x:=⟨_,rfl⟩;rw[d]at q B;rw[e]at r C;rw[g]at t D;rw[d,e,g];clear b a h p d e g;simp only[nc,Uh,zd,crlf,Tr,Sr,Ur,mz,Js,Ks,Yr,km,Fm,Em,Yq,Aq,sf,ub,Gb]at c q r t v w⊢;refine ma CM (qa rfl) ?_;exact va @Ja.{0}
 ·rw[if_neg i]
  simp only[nc]at c⊢;have d:=eq_false i;refine ma CM (qa rfl) ?_;exact ta
def zdL:∀i:Fin 64,Ed (Pb i.1)=some i.1:=lc
theorem El{n}(h:n<64):Ed (Pb n)=some n:=zdL ⟨n,h⟩
def RY:∀i:Fin 64,Pb i.1≠61:=lc
def lN{n}(h:n<64):Pb n≠61:=RY ⟨n,h⟩
def Xr{c}{n}(h:Ed c=some n):Pb n=c:=by
 have:∀c:UInt8,(match Ed c with|some n=>Pb n==c|none=>true)=true:=lc
 grind
def jO{a b c d}{e g h i}(j:Ed a=some e)(k:Ed b=some g)(l:Ed c=some h)(n:Ed d=some i):
 ke [a,b,c,d] 4 4=some (((e* 64+g)* 64+h)* 64+i):=by simp[ke,j,k,l,n]
def iO{a b c k}{d e g}(h:Ed a=some d)(i:Ed b=some e)(j:Ed c=some g):
 ke [a,b,c,k] 3 4=some (((d* 64+e)* 64+g)* 64):=by simp[ke,h,i,j]
def hO{a b h i}{c d}(e:Ed a=some c)(g:Ed b=some d):
 ke [a,b,h,i] 2 4=some (((c* 64+d)* 64)* 64):=by simp[ke,e,g]
theorem RC(x l):jb (gd x++l)=if(hf (gd x) l.isEmpty).2 then(jb l).map ((hf (gd x) l.isEmpty).1++·)else none:=rfl
def Ek(a)(n:Nat)(h:n % 256=a.toNat):UInt8.ofNat n=a:=by
 apply Yb.1;simp[h]
theorem i1(a b c)(l)(last):hf (gd (a::b::c::l)) last=([a,b,c],true):=by
 have j:=a.toNat_lt;have k:=b.toNat_lt;have o:=c.toNat_lt;have g:gd (a::b::c::l)=[Pb (num (a::b::c::l) 3/262144 % 64),Pb (num (a::b::c::l) 3/4096 % 64),Pb (num (a::b::c::l) 3/64 % 64),Pb (num (a::b::c::l) 3 % 64)]:=by
  unfold gd;rw[if_neg da,if_neg da]
 rw[g,Az];generalize i:(a.toNat* 256+b.toNat)* 256+c.toNat=N;have d:Ig [Pb (N/262144 % 64),Pb (N/4096 % 64),Pb (N/64 % 64),Pb (N % 64)] last=4:=by
  unfold Ig;rw[if_neg];intro h;exact lN (n:=N % 64) aa (by simpa using h.2)
 unfold hf;rw[d,jO (El aa) (El aa) (El aa) (El aa)];have e:((N/262144 % 64* 64+N/4096 % 64)* 64+N/64 % 64)* 64+N % 64=N:=aa
 simp only[e];rw[Ek a (N/65536) aa,Ek b (N/256) aa,Ek c N aa]
 grind
def h1(a b):hf (gd [a,b]) true=([a,b],true):=by
 have i:=a.toNat_lt;have j:=b.toNat_lt;have d:gd [a,b]=[Pb (num [a,b] 3/262144 % 64),Pb (num [a,b] 3/4096 % 64),Pb (num [a,b] 3/64 % 64),61]:=by
  unfold gd;rw[if_neg da,if_pos da]
 rw[d,zz];generalize g:(a.toNat* 256+b.toNat)* 256=N;have c:Ig [Pb (N/262144 % 64),Pb (N/4096 % 64),Pb (N/64 % 64),61] true=3:=by
  unfold Ig;rw[if_pos da,if_neg];intro h;exact lN (n:=N/64 % 64) aa ia
 unfold hf;rw[c,iO (El aa) (El aa) (El aa)];have e:((N/262144 % 64* 64+N/4096 % 64)* 64+N/64 % 64)* 64=N:=aa
 simp only[e];rw[Ek a (N/65536) aa,Ek b (N/256) aa];simp;omega
def f1(a):hf (gd [a]) true=([a],true):=by
 have g:=a.toNat_lt;have c:gd [a]=[Pb (num [a] 3/262144 % 64),Pb (num [a] 3/4096 % 64),61,61]:=by
  unfold gd;rw[if_pos da,if_pos da]
 rw[c,yz];generalize d:a.toNat* 256* 256=N;have b:Ig [Pb (N/262144 % 64),Pb (N/4096 % 64),61,61] true=2:=by
  unfold Ig;rw[if_pos da,if_pos da]
 unfold hf;rw[b,hO (El aa) (El aa)];have e:((N/262144 % 64* 64+N/4096 % 64)* 64)* 64=N:=aa
 simp only[e];rw[Ek a (N/65536) aa];simp;omega
def GY(n):∀l,l.length<=n->jb (rc l)=some l:=by
 induction n with
 |zero=>
  intro l h;have:l=[]:=qz aa;subst this;rfl
 |succ n d=>
  intro l h
  match l,h with
  |[],_=>rfl
  |[a],_=>show jb (gd [a]++[])=_;rw[RC];rw[show([]:List UInt8).isEmpty=true from rfl,f1];rfl
  |[a,b],_=>show jb (gd [a,b]++[])=_;rw[RC];rw[show([]:List UInt8).isEmpty=true from rfl,h1];rfl
  |a::b::c::l,h=>
   grind [rc,RC,i1]
def n7(n)(h:n<16777216):num [UInt8.ofNat (n/65536),UInt8.ofNat (n/256),UInt8.ofNat n] 3=n:=by
 rw[Az];simp;omega
def o7(n)(h:n<16777216)(a:n % 256=0):num [UInt8.ofNat (n/65536),UInt8.ofNat (n/256)] 3=n:=by
 rw[zz];simp;omega
theorem k7(n)(h:n<16777216)(a:n % 65536=0):num [UInt8.ofNat (n/65536)] 3=n:=by
 rw[yz];simp;omega
def Y0{c d a b}{last}(h:Ig [c,d,a,b] last=2):last=true/\a=61/\b=61:=by
 grind [Ig]
def X0{b c d a}{last}(h:Ig [b,c,d,a] last=3):last=true/\a=61:=by
 grind [Ig]
def V9{q r n t}{last}{y}(h:hf [q,r,n,t] last=(y,true)):gd y=[q,r,n,t]/\y≠[]/\(last=false->∃a b c,y=[a,b,c]):=by
 unfold hf at h;rcases i:Ed q with _|o
 ·simp[ke,i]at h
  grind [oy]
 rcases j:Ed r with _|p
 ·grind [ke,oy]
 have F:=go _ _ i;have G:=go _ _ j;have x:=Xr i;have z:=Xr j;rcases oy [q,r,n,t] last with g|g|g
 ·obtain⟨rfl,rfl,rfl⟩:=Y0 g
  rw[g,hO i j]at h;generalize A:((o* 64+p)* 64)* 64=N at h;simp only[Fp,beq_iff_eq]at h;obtain⟨l,k⟩:=h;have d:=l.symm;subst d;refine⟨?_,da,da⟩;unfold gd
  grind [k7]
 ·obtain⟨rfl,rfl⟩:=X0 g
  rcases e:Ed n with _|u
  ·grind [ke]
  have E:=go _ _ e;have v:=Xr e;rw[g,iO i j e]at h;generalize A:((o* 64+p)* 64+u)* 64=N at h;simp only[Fp,beq_iff_eq]at h;obtain⟨l,k⟩:=h;have d:y=[UInt8.ofNat (N/65536),UInt8.ofNat (N/256)]:=l.symm;subst d;refine⟨?_,da,da⟩;unfold gd;rw[if_neg da,if_pos da,o7 N aa aa,<-x,<-z,<-v];have D:N/262144 % 64=o:=aa
  have e1:N/4096 % 64=p:=aa
  grind
 ·rcases e:Ed n with _|u
  ·rw[g]at h;simp[ke,i,j,e]at h
  rcases w:Ed t with _|B
  ·grind [ke]
  have E:=go _ _ e;have v:=Xr e;have H:=go _ _ w;have C:=Xr w;rw[g,jO i j e w]at h;generalize A:((o* 64+p)* 64+u)* 64+B=N at h;simp only[Fp,beq_iff_eq]at h;obtain⟨l,k⟩:=h;have d:y=[UInt8.ofNat (N/65536),UInt8.ofNat (N/256),UInt8.ofNat N]:=l.symm;subst d;refine⟨?_,da,fun _=>⟨_,_,_,rfl⟩⟩;unfold gd;rw[if_neg da,if_neg da,n7 N aa,<-x,<-z,<-v,<-C];have D:N/262144 % 64=o:=aa
  have e1:N/4096 % 64=p:=aa
  have e2:N/64 % 64=u:=aa
  have e3:N % 64=B:=aa
  grind
def vZ(n):∀l x,l.length<=n->jb l=some x->rc x=l:=by
 induction n with
 |zero=>
  intro l x h e;have:l=[]:=qz aa;subst this;simp[jb]at e;subst e;rfl
 |succ n j=>
  intro l x h e
  match l,h,e with
  |[],_,e=>grind
  |[_],_,e=>grind [jb]
  |[_,_],_,e=>grind [jb]
  |[_,_,_],_,e=>grind [jb]
  |a::b::c::d::l,h,e=>
   rw[jb]at e;rcases g:hf [a,b,c,d] l.isEmpty with⟨y,ok⟩
   rw[g]at e;cases ok
   ·grind
   simp only[if_true]at e;rcases i:jb l with _|z
   ·grind
   rw[i]at e;simp at e;obtain⟨p,ra,k⟩:=V9 g;have q:=j l z ia i;subst e;rcases o:l.isEmpty with _|_
   ·grind [rc]
   grind [jb,nD,YC,List.drop_of_length_le]
def vj(dec:ba->ba×Bool)(q:ba×Bool×Bool)(w:ba):ba×Bool×Bool:=
 if w=[]then q else(q.1++(if q.2.1&& !(q.2.2&&(dec w).2)then[32]else[])++(dec w).1,true,(dec w).2)
def kt(dec:ba->ba×Bool)(rest:ba):ba:=((gb 32 rest).foldl (vj dec) ([],false,false)).1
def ue(w:ba):ba×Bool:=
 if Jd.isPrefixOf w&&[63,61].isSuffixOf (w.drop 10)then
  match jb ((w.drop 10).take ((w.drop 10).length - 2))with
  |some t=>if ni t then(t,true)else(w,false)
  |none=>(w,false)
 else(w,false)
def Te(v:ba):ba:=[88,58,32]++v++[13,10]
variable {lib:Callee}
def Qp(lib:Callee):Prop:=∀s w:ba,s.length<=1000000000->lib 84 [.flat (.string (S s)),.flat (.string (S w))] [] []=some ([.flat (.string (S (if w.isSuffixOf s then s.take (s.length - w.length)else s))),.flat (.bool (w.isSuffixOf s))],false,[],[])
def aN(H:Qp lib)(s w)(h:s.length<=1000000000):fa code lib 84 [.flat (.string (S s)),.flat (.string (S w))] [] []=some ([.flat (.string (S (if w.isSuffixOf s then s.take (s.length - w.length)else s))),.flat (.bool (w.isSuffixOf s))],false,[],[]):=Ud ga ca (H s w h)
def sr(lib:Callee):Prop:=∀s:ba,s.length<=1000000->lib 91 [.flat (.string (S s))] [] []=some ((match jb s with|some t=>[.flat (.string (S t)),.flat (.int .i64 0)]|none=>[.flat (.string (S [])),.flat (.int .i64 7)]),false,[],[])
def HY(H:sr lib)(s)(h:s.length<=1000000):fa code lib 91 [.flat (.string (S s))] [] []=some ((match jb s with|some t=>[.flat (.string (S t)),.flat (.int .i64 0)]|none=>[.flat (.string (S [])),.flat (.int .i64 7)]),false,[],[]):=Ud ga ca (H s h)
def Px(n):∀l t:ba,l.length<=n->jb l=some t->t.length<=l.length:=by
 induction n with
 |zero=>
  intro l t h a;have:l=[]:=qz aa;subst this;cases a;simp
 |succ n a=>
  grind [eN,Option.map_eq_some_iff,nD,fN]
theorem Sx(w):(ue w).1.length<=w.length:=by
 unfold ue;split
 ·split
  ·rename_i t ht
   split
   ·have:=Px _ _ _ (la _) ht
    grind
   simp
  simp
 simp
def NY(g:Kl lib)(i:Qp lib)(e:sr lib)(s)(hs:s.length<=1000000):fa code lib 43 [.flat (.string (S s))] [] []=some ([.flat (.string (S (ue s).1)),.flat (.bool (ue s).2)],false,[],[]):=by
 have e1:=QC g s Jd aa;have e2:=fun t(h:t.length<=1000000000)=>aN i t [63,61] h
 have e3:=fun t h=>HY e t h
 have e4:=fun t(h:t.length<=1000000)=>fP (lib:=lib) t (by grind [Sm])
 refine ma SW (qa rfl) ?_;unfold ue;have j:Jd.length=10:=rfl;rw[j]at e1;by_cases a:Jd.isPrefixOf s=true
 ·rw[if_pos a,a]at e1
  rw[a,pc];have l:(s.drop 10).length<=s.length:=by rw[Ya];omega
  obtain⟨x,n⟩:∃x,s.drop 10=x:=⟨_,rfl⟩;rw[n]at e1 l⊢;have e2:=e2 x aa;by_cases b:([63,61]:ba).isSuffixOf x=true
  ·rw[if_pos b,b]at e2
   rw[if_pos b];have d:(x.take (x.length - 2)).length<=x.length:=by rw[Ac];omega
   have e3:=e3 (x.take (x.length - 2)) aa;have k:([63,61]:ba).length=2:=rfl;rw[k]at e2;obtain⟨y,o⟩:∃y,x.take (x.length - 2)=y:=⟨_,rfl⟩;rw[o]at e2 e3 d⊢;cases c:jb y with
   |none=>
    rw[c]at e3;unfold Jd at e1;exact ta
   |some t=>
    have ht:=Px _ _ _ (la _) c;rw[c]at e3;have e4:=e4 t aa;unfold Jd at e1;dsimp only at e3⊢;rcases Om (ni t)with h|h
    ·rw[h]at e4⊢
     exact ta
    ·rw[h]at e4⊢
     exact ta
  ·have c:=mr.2 b
   rw[if_neg b,c]at e2;rw[if_neg b];unfold Jd at e1;exact ta
 ·have a':=mr.2 a
  rw[if_neg a,a']at e1;rw[a',Wc];have e2:=e2 s aa;unfold Jd at e1;exact ta
def wV(c):fa code lib 86 [.flat (.int .u8 c.toNat)] [] []=some ([.flat (.bool (Ia c))],false,[],[]):=by
 refine ma RW (qa rfl) ?_;have e:=(by decide+kernel:∀c:UInt8,Ia c=(decide (c.toNat=32)||decide (c.toNat=9))) c;rw[e];obtain⟨x,h⟩:∃x,c.toNat=x:=⟨_,rfl⟩;rw[h];by_cases d:x=32
 ·subst d
  exact ta
 ·by_cases g:x=9
  ·subst g
   exact ta
  ·have a:=eq_false d
   have b:=eq_false g;simp only[a,b,decide_false,Pm];exact ta
def zp(l:ba)(k:Nat):Bool:=Wa l [13,10] k&&(match l[k+2]? with|some d=>Ia d|none=>false)
def il(l:ba)(q:ba×Nat):(ba×Nat) ⊕ Option ba:=
 match l[q.2]? with
 |none=>.inr (some q.1)
 |some c=>if zp l q.2 then .inl (q.1,q.2+2)
  else if c=13\/c=10 then .inr none else .inl (q.1++[c],q.2+1)
def Hn(l:ba):Option ba:=hc (il l) none (l.length+1) ([],0)
def RF{l}(a c)(b:a.2<=l.length/\a.1.length<=a.2)(h:il l a=.inl c):(c.2<=l.length/\c.1.length<=c.2)/\l.length - c.2<l.length - a.2:=by
 grind [il,zp]
def m6(F:sd lib)(D:pe lib)(G:Qp lib)(s:ba)(hs:s.length<=100000000):fa code lib 38 [.flat (.string (S s))] [] []=some ((match(if([13,10]:ba).isSuffixOf s then Hn (s.take (s.length - 2))else none)with|some x=>[.flat (.string (S x)),.flat (.bool true)]|none=>[.flat (.string (S [])),.flat (.bool false)]),false,[],[]):=by
 have e1:=aN G s [13,10] aa;refine ma UW (qa rfl) ?_;by_cases b:([13,10]:ba).isSuffixOf s=true
 case neg=>
  have e:=mr.2 b;rw[if_neg b,e]at e1;rw[if_neg b];exact ta
 rw[if_pos b,b]at e1;rw[if_pos b];have I:([13,10]:ba).length=2:=rfl;rw[I]at e1;have C:(s.take (s.length - 2)).length<=100000000:=by rw[Ac];omega
 obtain⟨l,J⟩:∃l,s.take (s.length - 2)=l:=⟨_,rfl⟩;rw[J]at e1 C⊢;have A:∀(x:UInt8)(u:Bool)(out:ba),out.length+1<=Da->fa code lib 44 [.ptr 0 0,.flat (.int .u8 x.toNat)] [(101,bld u 0 out [])] [.cell 0 1]=some ([.flat .nilIface],false,[(101,bld true 0 (out++[x]) [])],[.cell 0 1]):=fun x u out h=>hI (lib:=lib) (r:=[]) (c:=x) D rfl Hs h da da
 have hrel:=In (body:=pa (fa code lib) ka jB) (live:=[0,5,6]) (nb:=1)
  (fun(u:Bool)(q:ba×Nat)=>(⟨[(0,.flat (.string (S l))),(5,.ptr 0 0),(6,.flat (.int .i64 (q.2:Nat)))],[.cell 0 1],[],[(101,bld u 0 q.1 [])]⟩:St))
  (il l) none (fun a o st=>match a with
    |some x=>o=.exit 0/\∃u,st=⟨[(5,.ptr 0 0)],[.cell 0 1],[],[(101,bld u 0 x [])]⟩
    |none=>o=.ret/\∃y,st=⟨[(2,.flat (.string (S []))),(3,.flat (.bool false))],[.cell 0 1],[],[y]⟩)
  (fun a=>a.2<=l.length/\a.1.length<=a.2) (fun a=>l.length - a.2) (fun u ⟨out,j⟩ z=>?_) (fun u ⟨out,j⟩ z=>?_) (fun a c z h=>RF a c z h) (n:=l.length+1) (m:=ka) false ([],0) ⟨Za _,la _⟩ aa (by grind [ka])
 ·obtain⟨o,st,e,g⟩:=hrel
  have k:hc (il l) none (l.length+1) ([],0)=Hn l:=rfl;rw[k]at g;dsimp only at e;rw[sx]at e;simp only[n0]at e;cases i:Hn l with
  |some x=>
   rw[i]at g;obtain⟨rfl,u,rfl⟩:=g;have p:=xt (lib:=lib) (bx:=[(101,bld u 0 x [])]) (b:=0) (oc:=[.cell 0 1]) D rfl da;exact ta
  |none=>
   rw[i]at g;obtain⟨rfl,y,rfl⟩:=g;exact ta
 ·dsimp only at z⊢
  have v:=KJ F l [13,10] j aa ga;unfold il;dsimp only;by_cases ea:j<l.length
  ·have w:=qe ea
   obtain⟨c,E⟩:∃c,l[j]=c:=⟨_,rfl⟩;rw[E]at w;simp only[w];by_cases g:Wa l [13,10] j=true
   ·have i:c=13:=by
     unfold Wa at g;rw[ld ea,E,Vc]at g;have:=g.2;simp only[List.isPrefixOf,Vc,beq_iff_eq]at this;exact this.1.symm
    have k:(c.toNat=13)=True:=eq_true ie;rw[g]at v;by_cases H:j+2<l.length
    ·have t:=qe H
     obtain⟨d,B⟩:∃d,l[j+2]=d:=⟨_,rfl⟩;rw[B]at t;have p:=wV (lib:=lib) d;cases e:Ia d with
     |true=>
      rw[e]at p;simp only[zp,g,t,e,tf,if_true];refine⟨u,?_⟩;have e2:(j:Int)+1+1=(j:Int)+2:=aa
      exact va Uq
     |false=>
      rw[e]at p;simp only[zp,g,t,e,fg,Fa,if_false,i,true_or,if_true];refine⟨.ret,⟨[(2,.flat (.string (S []))),(3,.flat (.bool false))],[.cell 0 1],[],[(101,bld u 0 out [])]⟩,?_,da,rfl,_,rfl⟩;exact va Uq
    ·have t:l[j+2]?=none:=Ie aa
     simp only[zp,g,t,fg,Fa,if_false,i,true_or,if_true];refine⟨.ret,⟨[(2,.flat (.string (S []))),(3,.flat (.bool false))],[.cell 0 1],[],[(101,bld u 0 out [])]⟩,?_,da,rfl,_,rfl⟩;exact va Uq
   ·have t:=mr.2 g
    rw[t]at v;simp only[zp,t,Wc,Fa,if_false];by_cases k:c=13
    ·have p:(c.toNat=13)=True:=eq_true ie
     rw[if_pos (.inl k)];refine⟨.ret,⟨[(2,.flat (.string (S []))),(3,.flat (.bool false))],[.cell 0 1],[],[(101,bld u 0 out [])]⟩,?_,da,rfl,_,rfl⟩;exact va Uq
    ·have p:(c.toNat=13)=False:=eq_false fun h=>k (Yb.1 h)
     by_cases e:c=10
     ·have i:(c.toNat=10)=True:=eq_true ie
      rw[if_pos (.inr e)];refine⟨.ret,⟨[(2,.flat (.string (S []))),(3,.flat (.bool false))],[.cell 0 1],[],[(101,bld u 0 out [])]⟩,?_,da,rfl,_,rfl⟩;exact va Uq
     ·have i:(c.toNat=10)=False:=eq_false fun h=>e (Yb.1 h)
      rw[if_neg ia];have B:=A c u out (by grind [Da]);refine⟨true,?_⟩;exact va Uq
  ·have w:l[j]?=none:=Ie aa
   simp only[w];refine⟨.exit 0,⟨[(5,.ptr 0 0)],[.cell 0 1],[],[(101,bld u 0 out [])]⟩,?_,da,rfl,u,rfl⟩;exact va Uq
 ·exact ta
abbrev Cr:=ba×Bool×Bool
def jt(W:List ba)(q:Cr×Nat):(Cr×Nat) ⊕ Cr:=match W[q.2]? with
 |none=>.inr q.1
 |some w=>.inl (vj ue q.1 w,q.2+1)
theorem hS(W)(d):∀(t:List ba)(k n)(q),W.drop k=t->t.length<n->hc (jt W) d n (q,k)=t.foldl (vj ue) q
 |[],k,n+1,q,h,_=>by
  have:W[k]?=none:=by
   have:=congrArg List.length h;rw[Ya]at this;exact Ie ia
  rw[Dd (r:=q) (by grind [jt])];rfl
 |w::t,k,n+1,q,h,c=>by
  have a:W[k]?=some w:=by
   have:=congrArg (·[0]?) h;simpa using this
  rw[xf (b:=(vj ue q w,k+1)) (by grind [jt]),Jm];refine hS W d t (k+1) n _ ?_ ia;rw[<-rf,h];rfl
theorem iS(q:Cr)(w):(vj ue q w).1.length<=q.1.length+1+w.length:=by
 grind [Sx,vj]
def cg(s:ba):ba×ba×Nat:=
 match(if([13,10]:ba).isSuffixOf s then Hn (s.take (s.length - 2))else none)with
 |none=>([],[],7)
 |some l=>if(Lib.cut l [58]).2.2&&kf (Lib.cut l [58]).1 then((Lib.cut l [58]).1,kt ue (Lib.replaceAll (Lib.cut l [58]).2.1 [9] [32]),0)else([],[],7)
def SF{l x}(h:Hn l=some x):x.length<=l.length:=by
 have:=up (step:=il l) (d:=none) (I:=fun a=>a.2<=l.length/\a.1.length<=a.2) (μ:=fun a=>l.length - a.2) (Q:=fun r=>∀x,r=some x->x.length<=l.length) (fun a c=>by
  cases hs:il l a with
  |inl b=>exact RF a b c hs
  |inr r=>
   grind [il]) (l.length+1) ([],0) ⟨Za _,la _⟩ aa
 exact this x h
def zem(I:Cf lib)(C:Kl lib)(v:pe lib)(D:Qp lib)(B:sr lib)(f)(W)(K:W.length<=10001)(H:∀w∈W,w.length<=10000):
 ∃o st,Fc (pa (fa code lib) ka dx) [2,9,10,11,40,41,42] 1 ka ⟨[(2,.flat (.string (S f))),(9,.ptr 0 0),(10,.flat (.bool false)),(11,.flat (.bool false)),(40,.ha W.length (ua W)),(41,.flat (.int .i64 (W.length:Nat))),(42,.flat (.int .i64 0))],[.cell 0 1],[],[(101,bld false 0 [] [])]⟩=some (o,st)/\
  o=.exit 0/\∃u,st=⟨[(2,.flat (.string (S f))),(9,.ptr 0 0)],[.cell 0 1],[],[(101,bld u 0 (W.foldl (vj ue) ([],false,false)).1 [])]⟩:=by
 have d:∀(x:ba)(u:Bool)(out:ba),out.length+x.length<=Da->fa code lib 45 [.ptr 0 0,.flat (.string (S x))] [(101,bld u 0 out [])] [.cell 0 1]=some ([.flat (.int .i64 x.length),.flat .nilIface],false,[(101,bld true 0 (out++x) [])],[.cell 0 1]):=fun x u out h=>Hl (lib:=lib) (r:=[]) (m:=x) v rfl Hs h da da
 have k:∀(u:Bool)(out:ba),out.length+1<=Da->fa code lib 44 [.ptr 0 0,.flat (.int .u8 32)] [(101,bld u 0 out [])] [.cell 0 1]=some ([.flat .nilIface],false,[(101,bld true 0 (out++[32]) [])],[.cell 0 1]):=fun u out h=>hI (lib:=lib) (r:=[]) (c:=32) v rfl Hs h da da
 have hrel:=In (body:=pa (fa code lib) ka dx) (live:=[2,9,10,11,40,41,42]) (nb:=1)
  (fun(u:Bool)(q:Cr×Nat)=>(⟨[(2,.flat (.string (S f))),(9,.ptr 0 0),(10,.flat (.bool q.1.2.1)),(11,.flat (.bool q.1.2.2)),(40,.ha W.length (ua W)),(41,.flat (.int .i64 (W.length:Nat))),(42,.flat (.int .i64 (q.2:Nat)))],[.cell 0 1],[],[(101,bld u 0 q.1.1 [])]⟩:St))
  (jt W) ([],false,false) (fun q o st=>o=.exit 0/\∃u,st=⟨[(2,.flat (.string (S f))),(9,.ptr 0 0)],[.cell 0 1],[],[(101,bld u 0 q.1 [])]⟩)
  (fun q=>q.2<=W.length/\q.1.1.length<=q.2* 10001) (fun q=>W.length - q.2) (fun u ⟨⟨out,z,A⟩,j⟩ b=>?_) (fun u ⟨⟨out,z,A⟩,j⟩ b=>?_) (fun a c b h=>?_) (n:=W.length+1) (m:=ka) false (([],false,false),0) ⟨Za _,la _⟩ aa (by grind [ka])
 ·rw[hS W _ W 0 (W.length+1) _ rfl aa]at hrel
  exact hrel
 ·dsimp only at b⊢
  unfold jt;dsimp only;by_cases ea:j<W.length
  ·have g:=qe ea
   have l:(ua W).drop j=.flat (.string (S W[j]))::(ua W).drop (j+1):=by
    rw[ua,<-Yi,<-Yi,ld ea];rfl
   have p:=H W[j] (Qm ea);obtain⟨w,G⟩:∃w,W[j]=w:=⟨_,rfl⟩;rw[G]at g l p;simp only[g];have L:out.length+10001<=200000000:=by have:=b.2;have:=b.1;have J:j* 10001<=10001* 10001:=Nat.mul_le_mul_right _ aa;omega
   clear b;have F:Da=4294967296:=rfl;unfold vj;by_cases i:w=[]
   ·subst i
    rw[if_pos rfl];refine⟨u,?_⟩;exact va Ss
   ·rw[if_neg i]
    have E:=eq_false i;have y:=NY C D B w aa;have e:=Sx w;obtain⟨⟨t,c⟩,ht⟩:∃q,ue w=q:=⟨_,rfl⟩;rw[ht]at y e⊢;dsimp only at y e⊢;have M:=k u out aa;have N:=d t true (out++[32]) ia;have O:=d t u out aa;refine⟨true,?_⟩;cases z
    ·simp only[Wc,Fa,if_false,Ye]
     exact va Ss
    ·cases A
     ·simp only[Wc,Gj,tf,if_true]
      exact va Ss
     ·cases c
      ·simp only[fg,Gj,tf,if_true]
       exact va Ss
      ·simp only[tf,Ui,fg,Fa,if_false,Ye]
       exact va Ss
  ·have g:W[j]?=none:=Ie aa
   simp only[g];refine⟨.exit 0,⟨[(2,.flat (.string (S f))),(9,.ptr 0 0)],[.cell 0 1],[],[(101,bld u 0 out [])]⟩,?_,da,rfl,u,rfl⟩;exact va Ss
 ·exact ta
 grind [jt,iS]
def XM(l w:ba):(Lib.cut l w).1.length<=l.length/\(Lib.cut l w).2.1.length<=l.length:=by
 grind [Lib.cut]
def oD(t:Cf lib)(C:sd lib)(p:vo lib)(e:Kl lib)(D:Ll lib)(d:pe lib)(v:Qp lib)(B:sr lib)(s)(hs:s.length<=10000):fa code lib 20 [.flat (.string (S s))] [] []=some ([.flat (.string (S (cg s).1)),.flat (.string (S (cg s).2.1)),.flat (.int .i64 ((cg s).2.2:Nat))],false,[],[]):=by
 have e1:=m6 C d v s aa;refine ma QW (qa rfl) ?_;unfold cg;have c:∀x,(if([13,10]:ba).isSuffixOf s then Hn (s.take (s.length - 2))else none)=some x->x.length<=10000:=fun x A=>by
  split at A
  ·have:=SF A;grind
  grind
 obtain⟨o,H⟩:∃o,(if([13,10]:ba).isSuffixOf s then Hn (s.take (s.length - 2))else none)=o:=⟨_,rfl⟩;rw[H]at e1 c⊢;cases o with
 |none=>
  dsimp only at e1⊢;have e2:=Ox p [] [58] da;rw[show Lib.cut [] [58]=([],[],false) by decide]at e2;dsimp only at e2;exact ta
 |some l=>
  have N:=c l rfl;dsimp only at e1⊢;have e2:=Ox p l [58] aa;have a:=XM l [58];obtain⟨⟨f,r,b⟩,E⟩:∃q,Lib.cut l [58]=q:=⟨_,rfl⟩;rw[E]at e2 a⊢;dsimp only at e2 a⊢;have e3:=EQ (lib:=lib) f aa;cases b with
  |false=>
   rw[Wc];exact ta
  |true=>
   rcases Om (kf f)with i|i
   ·rw[i]at e3⊢
    have e4:=Wz D r [9] [32] aa ga ga;have k:=pt r [9] [32] ga;obtain⟨y,M⟩:∃y,Lib.replaceAll r [9] [32]=y:=⟨_,rfl⟩;rw[M]at e4 k⊢;have e5:=VM t y 32 aa;have L:=Vr 32 y;obtain⟨o,st,g,rfl,u,rfl⟩:=zem t e d v B f (gb 32 y) aa fun w K=>by have:=Ju 32 y w K;omega
    have J:=xt (lib:=lib) (bx:=[(101,bld u 0 (kt ue y) [])]) (b:=0) (oc:=[.cell 0 1]) d rfl da;have j:((gb 32 y).foldl (vj ue) ([],false,false)).1=kt ue y:=rfl;rw[j]at g;rw[sx]at g;have h:((32:UInt8).toNat:Int)=32:=rfl;rw[h]at e5;obtain⟨W,z⟩:∃W,gb 32 y=W:=⟨_,rfl⟩;rw[z]at e5 g;have G:=Od W;have F:=fun n=>yf (n:=n) W
    have I:W.length<=10001:=by rw[<-z];omega
    exact ta
   ·rw[i]at e3⊢
    exact ta
theorem cI{α β}{g}{fin}:∀(L:List β)(a:α)(k),jd (fun a _ x=>.inl (g a x)) fin a k L=fin (L.foldl g a)
 |[],_,_=>rfl
 |x::t,a,k=>cI t (g a x) (k+1)
def QJ(c):fa code lib 52 [.flat (.int .u8 c.toNat)] [] []=some ([.flat (.bool (Ia c))],false,[],[]):=by
 refine ma rX (qa rfl) ?_;have e:=(by decide+kernel:∀c:UInt8,Ia c=(decide (c.toNat=32)||decide (c.toNat=9))) c;rw[e];obtain⟨x,h⟩:∃x,c.toNat=x:=⟨_,rfl⟩;rw[h];by_cases d:x=32
 ·subst d
  exact ta
 ·by_cases g:x=9
  ·subst g
   exact ta
  ·have a:=eq_false d
   have b:=eq_false g;simp only[a,b,decide_false,Pm];exact ta
def uj(q:List ba×ba)(c:UInt8):List ba×ba:=if Ia c then(if q.2=[]then q.1 else q.1++[q.2],[])else(q.1,q.2++[c])
def Mv(q:List ba×ba):List ba:=if q.2=[]then q.1 else q.1++[q.2]
def ul(l:ba):List ba:=Mv (l.foldl uj ([],[]))
theorem LR:∀(l:ba)(q),(l.foldl uj q).1.length<=q.1.length+l.length/\(l.foldl uj q).2.length<=q.2.length+l.length
 |[],q=>by simp
 |c::l,q=>by
  have:=LR l (uj q c)
  grind [uj]
theorem pieces_eq:∀(l:ba)(q),∃p ps,gb 32 (l.map fun c=>if c=9 then 32 else c)=p::ps/\Mv (l.foldl uj q)=q.1++((q.2++p)::ps).filter (fun w=>!decide (w=[]))
 |[],q=>⟨[],[],rfl,by grind [Mv]⟩
 |c::l,q=>by
  obtain⟨p,ps,a,b⟩:=pieces_eq l (uj q c);have d:Ia c=true ↔ c=32\/c=9:=by unfold Ia;simp
  rw[kc,Jm,gb,a];by_cases h:c=32\/c=9<;>grind [uj]
def o9(s)(hs:s.length<=1000000):fa code lib 54 [.flat (.string (S s))] [] []=some ([.ha (ul s).length (ua (ul s))],false,[],[]):=by
 have a:=Nf (body:=pa (fa code lib) ka yB) (live:=[0,3,4,5]) (nb:=0) (fun(q:List ba×ba) k=>⟨[(0,.flat (.string (S s))),(3,.ha q.1.length (ua q.1)),(4,.flat (.string (S q.2))),(5,.flat (.int .i64 (k:Nat)))],[.slot 3],[],[]⟩) s (fun q k=>q.1.length<=k/\q.2.length<=k)
  (fun q _ c=>.inl (uj q c)) (fun q=>(.exit 0,⟨[(3,.ha q.1.length (ua q.1)),(4,.flat (.string (S q.2)))],[.slot 3],[],[]⟩)) (fun⟨out,b⟩ k c l g n o=>?_) (fun _ _=>by simp only[go_sem,simprocAttr]) (fun q k x a' l _ _ h=>by cases h;grind [uj]) (fun _ _ x r h=>by cases h) (fun⟨out,b⟩ l=>?_) (fun _=>by simp) ([],[]) ⟨la _,la _⟩ Kh
 ·rw[cI]at a
  have g:=LR s ([],[]);have i:ul s=Mv (s.foldl uj ([],[])):=rfl;obtain⟨⟨out,b⟩,p⟩:∃q,s.foldl uj ([],[])=q:=⟨_,rfl⟩;rw[p]at a g i;simp only[ya,n0,show ua []=[]from rfl]at a;rw[i];unfold Mv;dsimp only at g⊢;simp only[ya,sc]at g;have j:Da=4294967296:=rfl;have e1:[PV.flat (.string (S b))]=ua [b]:=rfl;refine ma uX (qa rfl) ?_;by_cases e:b=[]
  ·have d:=eq_true e
   rw[if_pos e];exact ta
  ·have d:=eq_false e
   rw[if_neg e];simp(maxSteps:=999999) (disch:=first|assumption|omega) only[go_sem,simprocAttr,au,a,d,bc,Xe]
   grind [Al]
 ·dsimp only at l
  have g:=QJ (lib:=lib) c;have j:Da=4294967296:=rfl;have e1:[PV.flat (.string (S b))]=ua [b]:=rfl;unfold uj;rcases Om (Ia c)with i|i
  ·rw[i]at g
   rw[if_pos i];by_cases e:b=[]
   ·have d:=eq_true e
    rw[if_pos e];exact va Fz
   ·have d:=eq_false e
    rw[if_neg e];simp(maxSteps:=999999) (disch:=first|assumption|omega) only[go_sem,simprocAttr,au,Fz,n,g,d,bc,Xe]
    grind [Al]
  ·rw[i]at g
   rw[if_neg ia];have p:(s.take (k+1)).drop k=[c]:=by
    rw[Lp,oh,o];rfl
   exact Rc Fz @Ja.{0}
 ·exact va Fz
theorem A_(s:ba):Lib.replaceAll s [9] [32]=s.map fun c=>if c=9 then 32 else c:=by
 rw[kH da ga s.length s (la _)];have:∀(n:Nat)(s:ba),s.length<=n->Vh [9] [32] n s=s.map fun c=>if c=9 then 32 else c:=by
  intro n
  induction n with
  |zero=>grind [Vh]
  |succ n a=>
   intro s h;cases s<;>grind [Vh]
 grind
def Zq(q:ba×Bool×Bool)(w:ba):ba×Bool×Bool:=(q.1++(if q.2.1&& !(q.2.2&&(ue w).2)then[32]else[])++(ue w).1,true,(ue w).2)
theorem jS:∀(l:List ba)(q),l.foldl (vj ue) q=(l.filter fun w=>!decide (w=[])).foldl Zq q
 |[],q=>rfl
 |w::l,q=>by
  rw[Jm,jS l]
  grind [vj,Zq]
def i_(l:ba):kt ue (Lib.replaceAll l [9] [32])=((ul l).foldl Zq ([],false,false)).1:=by
 obtain⟨p,ps,a,b⟩:=pieces_eq l ([],[])
 grind [kt,ul,A_,jS]
def ur(lib:Callee):Prop:=∀s:ba,s.length<=100000->lib 109 [.flat (.string (S s))] [] []=some ((match jb s with|some t=>[.flat (.string (S t)),.flat (.int .i64 0)]|none=>[.flat (.string (S [])),.flat (.int .i64 7)]),false,[],[])
def DY(H:ur lib)(s)(h:s.length<=100000):fa code lib 109 [.flat (.string (S s))] [] []=some ((match jb s with|some t=>[.flat (.string (S t)),.flat (.int .i64 0)]|none=>[.flat (.string (S [])),.flat (.int .i64 7)]),false,[],[]):=Ud ga ca (H s h)
def HH(w:ba)(h:2<=w.length):decide (w.drop (w.length - 2)=[63,61])=([63,61]:ba).isSuffixOf w:=by
 grind [List.suffix_iff_eq_drop]
def zb7(w:ba)(h:12<=w.length):([63,61]:ba).isSuffixOf (w.drop 10)=([63,61]:ba).isSuffixOf w:=by
 rw[<-HH _ ia,<-HH w aa,rf,Ya,show 10+(w.length - 10 - 2)=w.length - 2 by omega]
def MY(i:ur lib)(s:ba)(hs:s.length<=100000):fa code lib 55 [.flat (.string (S s))] [] []=some ([.flat (.string (S (ue s).1)),.flat (.bool (ue s).2)],false,[],[]):=by
 refine ma tX (qa rfl) ?_;by_cases j:s.length<12
 ·have d:ue s=(s,false):=by
   unfold ue;rw[if_neg];rw[Vc,Ij,List.isSuffixOf_iff_suffix];rintro⟨n,e⟩;have k:=e.length_le;simp only[za,ya,Ya]at k;omega
  rw[d];exact ta
 have e1:decide (s.take 10=Jd)=Jd.isPrefixOf s:=by
  rw[Gp,decide_eq_true_eq,Ij,KA];exact eq_comm
 have o:((s.length:Int) - 2).toNat=s.length - 2:=aa
 have e2:=HH s aa;have e3:=zb7 s aa;have e4:(s.drop 10).take ((s.drop 10).length - 2)=(s.take (s.length - 2)).drop 10:=by rw[Lp,Ya,Nat.sub_right_comm]
 have l:((s.take (s.length - 2)).drop 10).length<=100000:=by rw[Ya,Ac];omega
 obtain⟨x,g⟩:∃x,(s.take (s.length - 2)).drop 10=x:=⟨_,rfl⟩;have e5:=DY i x ia;unfold ue;rw[e3,e4,g];rw[g]at l;rcases Om (Jd.isPrefixOf s)with a|a
 ·rw[a]at e1⊢
  have c:=eq_true (of_decide_eq_true e1);unfold Jd at c;rcases Om (([63,61]:ba).isSuffixOf s)with b|b
  ·rw[b]at e2⊢
   have e:=eq_true (of_decide_eq_true e2);simp only[tf,if_true];cases d:jb x with
   |none=>
    rw[d]at e5;exact ta
   |some t=>
    have ht:=Px _ _ _ (la _) d;rw[d]at e5;have e6:=dP (lib:=lib) t (by grind [Sm]);dsimp only at e5⊢;rcases Om (ni t)with h|h
    ·rw[h]at e6⊢
     exact ta
    ·rw[h]at e6⊢
     exact ta
  ·rw[b]at e2⊢
   have e:=eq_false (of_decide_eq_false e2);simp only[fg,Fa,if_false];exact ta
 ·rw[a]at e1⊢
  have c:=eq_false (of_decide_eq_false e1);unfold Jd at c;simp only[Wc,Fa,if_false];exact ta
def wY(c)(l:ba):Lib.cut l [c]=match Zb c l with|some i=>(l.take i,l.drop (i+1),true)|none=>(l,[],false):=by
 grind [Lib.cut,index_one]
theorem jU(c)(st:Nat->Out×St):∀(t:ba)(k n),k+t.length=n->jd (fun(_:Unit) k(x:UInt8)=>if x=c then .inr (st k)else .inl ()) (fun _=>st n) () k t=st (k+(match Zb c t with|some i=>i|none=>t.length))
 |[],k,n,h=>by rw[<-h];rfl
 |x::t,k,n,h=>by
  rw[jd,Zb];by_cases e:x=c
  ·simp[e]
  ·have:=jU c st t (k+1) n ia
   grind
def q9(l):ul l=(gb 32 (l.map fun c=>if c=9 then 32 else c)).filter fun w=>!decide (w=[]):=by
 obtain⟨p,ps,a,b⟩:=pieces_eq l ([],[])
 grind [ul]
def zel(n:ur lib)(l)(a)(W)(C:W.length<=10001)(z:∀w∈W,w.length<=10000):
 Fc (pa (fa code lib) ka lx) [5,7,8,9,10,11] 0 ka ⟨[(5,.flat (.string (S l))),(7,.flat (.int .i64 (a:Nat))),(8,.ha W.length (ua W)),(9,.flat (.string (S []))),(10,.flat (.bool false)),(11,.flat (.int .i64 0))],[],[],[]⟩=some (.exit 4,⟨[(5,.flat (.string (S l))),(7,.flat (.int .i64 (a:Nat))),(9,.flat (.string (S (W.foldl Zq ([],false,false)).1)))],[],[],[]⟩):=by
 have e:=Nf (body:=pa (fa code lib) ka lx) (live:=[5,7,8,9,10,11]) (nb:=0) (fun(q:ba×Bool×Bool) k=>⟨[(5,.flat (.string (S l))),(7,.flat (.int .i64 (a:Nat))),(8,.ha W.length (ua W)),(9,.flat (.string (S q.1))),(10,.flat (.bool q.2.2)),(11,.flat (.int .i64 (k:Nat)))],[],[],[]⟩) W (fun q k=>q.2.1=decide (0<k)/\q.1.length<=k* 10001)
  (fun q _ w=>.inl (Zq q w)) (fun q=>(.exit 4,⟨[(5,.flat (.string (S l))),(7,.flat (.int .i64 (a:Nat))),(9,.flat (.string (S q.1)))],[],[],[]⟩)) (fun⟨out,b,j⟩ k w d i p u=>?_) (fun _ _=>by simp only[go_sem,simprocAttr]) (fun q k w a' d _ g h=>by
    grind [Sx,Zq]) (fun _ _ x r h=>by cases h) (fun⟨out,b,j⟩ d=>?_) (fun _=>by simp) ([],false,false) ⟨rfl,la _⟩ (by grind [ka])
 ·grind [cI]
 ·dsimp only at d
  obtain⟨rfl,d⟩:=d;have D:out.length+10001<=200000000:=by have B:k* 10001<=10001* 10001:=Nat.mul_le_mul_right _ aa;omega
  have v:(ua W).drop k=.flat (.string (S w))::(ua W).drop (k+1):=by simp only[ua,<-Yi,u,kc]
  have A:=z w (Ah p);have e1:=MY n w aa;have i:=Sx w;have o:Da=4294967296:=rfl;have y:=@bc W;unfold Zq;obtain⟨⟨t,c⟩,ht⟩:∃q,ue w=q:=⟨_,rfl⟩;rw[ht]at e1 i⊢;dsimp only at e1 i⊢;clear d;by_cases g:0<k
  ·have b:=decide_eq_true g
   rw[b];cases j<;>cases c<;>simp only[tf,fg,Wc,Ui,Gj,if_true,if_false,Fa,Ye]
   all_goals
    exact Rc uG @Ja.{0}
  ·have b:=decide_eq_false g
   rw[b];simp only[Wc,if_false,Fa,Ye];exact Rc uG @Ja.{0}
 ·exact va uG
def l6(l)(I:l.length<=100000):
 Fc (pa (fa code lib) ka kx) [0,5,6] 0 ka ⟨[(0,.flat (.string (S l))),(5,.flat (.string (S []))),(6,.flat (.int .i64 0))],[],[],[]⟩=some (match Hn l with|some x=>(.exit 0,⟨[(5,.flat (.string (S x)))],[],[],[]⟩)|none=>(.ret,⟨[(2,.flat (.string (S []))),(3,.flat (.string (S []))),(4,.flat (.int .i64 7))],[],[],[]⟩)):=by
 have v:=Jn (body:=pa (fa code lib) ka kx) (live:=[0,5,6]) (nb:=0) (fun q:ba×Nat=>⟨[(0,.flat (.string (S l))),(5,.flat (.string (S q.1))),(6,.flat (.int .i64 (q.2:Nat)))],[],[],[]⟩) (il l) none
  (fun r=>match r with|some x=>(.exit 0,⟨[(5,.flat (.string (S x)))],[],[],[]⟩)|none=>(.ret,⟨[(2,.flat (.string (S []))),(3,.flat (.string (S []))),(4,.flat (.int .i64 7))],[],[],[]⟩))
  (fun a=>a.2<=l.length/\a.1.length<=a.2) (fun a=>l.length - a.2) (fun⟨out,j⟩ E=>?_) (fun _ _=>by simp only[go_sem,simprocAttr]) (fun a b E h=>RF a b E h) (fun r=>by cases r<;>simp) (n:=l.length+1) ([],0) ⟨Za _,la _⟩ Fg (by unfold ka;dsimp only;omega)
 ·exact v
 ·dsimp only at E⊢
  have H:Da=4294967296:=rfl;unfold il;dsimp only;by_cases ea:j<l.length
  ·have o:l[j]?=some l[j]:=qe ea
   have A:(l.take (j+1)).drop j=[l[j]]:=by
    rw[Lp,oh,ld ea];rfl
   obtain⟨c,F⟩:∃c,l[j]=c:=⟨_,rfl⟩;rw[F]at o A;rw[o];dsimp only;have C:(c=13)=(c.toNat=13):=propext ⟨fun h=>by simp_all,fun h=>Yb.1 h⟩;have B:(c=10)=(c.toNat=10):=propext ⟨fun h=>by simp_all,fun h=>Yb.1 h⟩;simp only[C,B];have z:zp l j=(decide (j+2<l.length)&&(decide ((l.take (j+2)).drop j=[13,10])&&(match l[j+2]? with|some d=>Ia d|none=>false))):=by
    unfold zp;by_cases y:j+2<l.length
    ·have:=gT l [13,10] j ia aa
     simp only[za,ya]at this;rw[this,Gh aa,decide_eq_true y,pc]<;>rfl
    ·grind
   rw[z];clear F z;obtain⟨n,u⟩:∃n,c.toNat=n:=⟨_,rfl⟩;rw[u];by_cases y:j+2<l.length
   ·have k:l[j+2]?=some l[j+2]:=qe y
    obtain⟨d,G⟩:∃d,l[j+2]=d:=⟨_,rfl⟩;rw[G]at k;rw[k,decide_eq_true y,pc];have t:=QJ (lib:=lib) d;obtain⟨x,i⟩:∃x,(l.take (j+2)).drop j=x:=⟨_,rfl⟩;rw[i];obtain⟨b,D⟩:∃b,Ia d=b:=⟨_,rfl⟩;rw[D]at t;simp only[D];clear G D;by_cases w:x=[13,10]
    ·have p:=eq_true w
     cases b
     ·simp only[w,decide_true,fg,Fa,if_false]
      rw[w]at i;by_cases n1:n=13
      ·have e:=eq_true n1
       simp only[e,true_or,if_true];simp(maxSteps:=999999) (disch:=first|assumption|omega) only[go_sem,simprocAttr,au,tl,o,k,t,i,u,e,Vb]
      ·have e:=eq_false n1
       by_cases n2:n=10
       ·have g:=eq_true n2
        simp only[e,g,or_true,if_true];simp(maxSteps:=999999) (disch:=first|assumption|omega) only[go_sem,simprocAttr,au,tl,o,k,t,i,u,Vb]
       ·have g:=eq_false n2
        simp only[e,g,or_self,if_false];simp(maxSteps:=999999) (disch:=first|assumption|omega) only[go_sem,simprocAttr,au,tl,o,k,t,i,u,A,Vb]
     ·simp only[w,decide_true,Ej,if_true]
      rw[w]at i;simp(maxSteps:=999999) (disch:=first|assumption|omega) only[go_sem,simprocAttr,au,tl,o,k,t,i,u,Vb];rfl
    ·have p:=eq_false w
     simp only[p,decide_false,Wc,Fa,if_false];by_cases n1:n=13
     ·have e:=eq_true n1
      simp only[e,true_or,if_true];simp(maxSteps:=999999) (disch:=first|assumption|omega) only[go_sem,simprocAttr,au,tl,o,k,i,p,u,e,Vb]
     ·have e:=eq_false n1
      by_cases n2:n=10
      ·have g:=eq_true n2
       simp only[e,g,or_true,if_true];simp(maxSteps:=999999) (disch:=first|assumption|omega) only[go_sem,simprocAttr,au,tl,o,i,p,u,Vb]
      ·have g:=eq_false n2
       simp only[e,g,or_self,if_false];simp(maxSteps:=999999) (disch:=first|assumption|omega) only[go_sem,simprocAttr,au,tl,o,k,i,p,u,A,Vb]
   ·rw[decide_eq_false y,Wc]
    simp only[Fa,if_false];by_cases n1:n=13
    ·have e:=eq_true n1
     simp only[e,true_or,if_true];simp(maxSteps:=999999) (disch:=first|assumption|omega) only[go_sem,simprocAttr,au,tl,o,u,e,Vb]
    ·have e:=eq_false n1
     by_cases n2:n=10
     ·have g:=eq_true n2
      simp only[e,g,or_true,if_true];simp(maxSteps:=999999) (disch:=first|assumption|omega) only[go_sem,simprocAttr,au,tl,o,u,e,g,Vb]
     ·have g:=eq_false n2
      simp only[e,g,or_self,if_false];simp(maxSteps:=999999) (disch:=first|assumption|omega) only[go_sem,simprocAttr,au,tl,o,u,A,Vb]
  ·rw[Ie aa]
   simp(maxSteps:=999999) (disch:=first|assumption|omega) only[go_sem,simprocAttr,au,tl,Vb]
def gH(B:ur lib)(s)(hs:s.length<=10000):fa code lib 23 [.flat (.string (S s))] [] []=some ([.flat (.string (S (cg s).1)),.flat (.string (S (cg s).2.1)),.flat (.int .i64 ((cg s).2.2:Nat))],false,[],[]):=by
 refine ma pX (qa rfl) ?_;unfold cg;by_cases E:s.length<2
 ·have e:([13,10]:ba).isSuffixOf s=false:=by
   rw[mr,ne_eq,List.isSuffixOf_iff_suffix];intro h;have:=h.length_le;simp only[za,ya]at this;omega
  rw[e];simp only[Fa,if_false];exact ta
 have J:((s.length:Int) - 2).toNat=s.length - 2:=aa
 have e1:decide (s.drop (s.length - 2)=[13,10])=([13,10]:ba).isSuffixOf s:=by
  rw[Gp,decide_eq_true_eq,List.isSuffixOf_iff_suffix,List.suffix_iff_eq_drop];exact eq_comm
 rcases Om (([13,10]:ba).isSuffixOf s)with b|b
 case inr=>
  rw[b]at e1⊢;have q:=eq_false (of_decide_eq_false e1);simp only[Fa,if_false];exact ta
 rw[b]at e1⊢;have q:=eq_true (of_decide_eq_true e1);simp only[if_true];have v:(s.take (s.length - 2)).length<=10000:=by rw[Ac];omega
 obtain⟨l,D⟩:∃l,s.take (s.length - 2)=l:=⟨_,rfl⟩;rw[D]at v⊢;have d:=l6 (lib:=lib) l aa;cases a:Hn l with
 |none=>
  rw[a]at d;dsimp only at d⊢;exact va @d
 |some x=>
  rw[a]at d;have H:=SF a;dsimp only at d⊢;clear a e1 b
  have g:=Nf (body:=pa (fa code lib) ka wB) (live:=[5,7]) (nb:=0) (fun(_:Unit) k=>⟨[(5,.flat (.string (S x))),(7,.flat (.int .i64 (k:Nat)))],[],[],[]⟩) x (fun _ _=>True)
   (fun _ k c=>if c=58 then .inr (.exit 2,⟨[(5,.flat (.string (S x))),(7,.flat (.int .i64 (k:Nat)))],[],[],[]⟩)else .inl ()) (fun _=>(.exit 2,⟨[(5,.flat (.string (S x))),(7,.flat (.int .i64 (x.length:Nat)))],[],[],[]⟩)) (fun _ k c _ p e o=>?_) (fun _ _=>by simp only[go_sem,simprocAttr]) (fun _ _ _ _ _ _ _ _=>trivial) (fun _ _ c r h=>by split at h<;>simp at h;rw[<-h];simp) (fun _ _=>?_) (fun _=>by simp) () trivial Kh
  ·rw[jU 58 (fun k=>(.exit 2,⟨[(5,.flat (.string (S x))),(7,.flat (.int .i64 (k:Nat)))],[],[],[]⟩)) x 0 x.length aa]at g
   simp only[n0,sc]at g;rw[wY];cases u:Zb 58 x with
   |none=>
    rw[u]at g;dsimp only at g⊢;simp only[Wc,Fa,if_false];exact va @d
   |some i=>
    rw[u]at g;have I:=Dr u;dsimp only at g⊢;have j:=AQ (lib:=lib) (x.take i) ia;obtain⟨f,A⟩:∃f,x.take i=f:=⟨_,rfl⟩;rw[A]at j;simp only[A];rcases Om (kf f)with e|e
    ·rw[e]at j⊢
     simp only[tf,if_true];rw[i_];have y:(x.drop (i+1)).length<=10000:=by rw[Ya];omega
     obtain⟨r,hr⟩:∃r,x.drop (i+1)=r:=⟨_,rfl⟩;rw[hr]at y⊢;have e2:=o9 (lib:=lib) r aa;have o:=q9 r;have C:(ul r).length<=10001:=by
      rw[o];have z:=Vr 32 (r.map fun c=>if c=9 then 32 else c);rw[Hj]at z;exact Ob (Ew _ _) aa
     have p:∀w∈ul r,w.length<=10000:=fun w p=>by
      rw[o]at p;have z:=Ju 32 _ w (Hc.1 p).1
      grind
     have e3:=zel B x i (ul r) C p;obtain⟨W,t⟩:∃W,ul r=W:=⟨_,rfl⟩;rw[t]at e2 e3⊢;have G:=Od W;have F:=fun n=>yf (n:=n) W
     exact va @d
    ·rw[e]at j⊢
     simp only[fg,Fa,if_false];exact va @d
  ·have o:(c=58)=(c.toNat=58):=propext ⟨fun h=>by simp_all,fun h=>Yb.1 h⟩
   simp only[o];obtain⟨n,j⟩:∃n,c.toNat=n:=⟨_,rfl⟩;rw[j];by_cases p:n=58
   ·have e:=eq_true p
    simp only[e,if_true];exact va tG
   ·have e:=eq_false p
    simp only[e,if_false];exact va tG
  ·exact va tG
theorem DS{α:Type}{step:Nat->Option (List α×Nat)}{len:Nat}(h:∀k o n,step k=some (o,n)->o.length<=1):∀(f k:Nat)(r:List α),wj step len f k=some r->r.length<=f
 |0,k,r,e=>by cases e;simp
 |f+1,k,r,e=>by
  rw[wj]at e;split at e
  ·split at e
   ·cases e
   ·rename_i o n hs
    obtain⟨r',a,rfl⟩:=qm e;have:=DS h f _ _ a;have:=h _ _ _ hs;rw[Ja];omega
  ·cases e;simp
def EY{s t:ba}(h:Qe s=some t):t.length<=s.length:=by
 refine DS (fun k o n hs=>?_) _ _ _ h;unfold Xo at hs;split at hs
 ·cases hs
 ·repeat' split at hs
  all_goals first
   |(cases hs;done)
   |(cases hs;simp;done)
   |(obtain⟨b,_,e⟩:=qm hs
     cases e;exact la _)
def W_{s c t:ba}(h:si s c=some t):t.length<=s.length:=by
 unfold si at h;split at h
 ·unfold Ak at h
  split at h
  ·split at h
   ·cases h
    exact Ob (pt _ _ _ ga) (pt _ _ _ ga)
   ·cases h
  ·cases h
 split at h
 ·exact EY h
 split at h
 ·have a:=Px _ _ _ (la _) h
  have b:(bare s).length<=s.length:=fV s;omega
 ·cases h
def Bk(k:Nat):LP->Prop
 | .mk F _ t _=>(∀f∈F,f.2.length<=k)/\t.length<=k/\F.length<=1000000
def LP.ps:LP->List LP
 | .mk _ _ _ ps=>ps
theorem WP{f:ba->Nat->Except Nat (LP×Nat)}{P:LP->Prop}:∀{l:List ba}{n:Nat}{q:List LP×Nat},(∀b∈l,∀n q,f b n=.ok q->P q.1)->Mf f l n=.ok q->∀p∈q.1,P p
 |[],n,q,_,h,p,a=>by cases h;simp at a
 |b::r,n,q,c,h,p,a=>by
  rw[Mf]at h;split at h
  ·cases h
  ·rename_i i n1 d
   split at h
   ·cases h
   ·rename_i ps m e
    cases h;rcases Wb.1 a with rfl|a
    ·exact c b da _ _ d
    ·exact WP (fun b g=>c b (by simp[g])) e p a
def IP{rec:Option (ba->Nat->Except Nat (LP×Nat))}(a:∀f,rec=some f->∀(b:ba)(n:Nat)(q:LP×Nat),b.length<=10000->f b n=.ok q->Bk 10000 q.1){s:ba}{n:Nat}{q:LP×Nat}(hs:s.length<=10000)(h:ik rec s n=.ok q):Bk s.length q.1/\∀p∈q.1.ps,Bk 10000 p:=by
 unfold ik at h;split at h
 ·cases h
 ·cases h
 ·rename_i F at_ d
  have k:=AH d aa;have l:=k.1.1;split at h
  ·cases h
  ·split at h
   ·split at h
    ·cases h
    ·rename_i t ht
     cases h;have:=W_ ht;rw[Ya]at this;exact⟨⟨fun f a=>(k.2.2 f a).2,aa,aa⟩,fun p c=>by simp[LP.ps]at c⟩
   ·split at h
    ·split at h
     ·cases h
     ·rename_i all e
      split at h
      ·cases h
      ·rename_i f
       split at h
       ·split at h
        ·cases h
        ·rename_i ps m g
         cases h;refine⟨⟨fun f a=>(k.2.2 f a).2,Za _,aa⟩,fun p c=>?_⟩;exact WP (P:=Bk 10000) (fun b i n q j=>a f rfl b n q (jC e (by rw[Ya];omega) b i) j) g p c
       ·cases h
    ·cases h
theorem zap{k:Nat}(h:k<=10000):∀{p:LP},Bk k p->Bk 10000 p
 | .mk F _ t _,⟨a,b,c⟩=>⟨fun f d=>Ob (a f d) h,Ob b h,c⟩
theorem KF:∀(d:Nat)(s:ba)(n:Nat)(q:LP×Nat),s.length<=10000->Lg d s n=.ok q->Bk s.length q.1/\∀p∈q.1.ps,Bk 10000 p
 |0,s,n,q,hs,h=>IP (fun f e=>by cases e) hs h
 |d+1,s,n,q,hs,h=>IP (fun f e b n q a c=>by cases e;exact zap a (KF d b n q a c).1) hs h
def ji(v:ba):Option ba:=if(cg (Te v)).2.2=0 then some (cg (Te v)).2.1 else none
def ot(s:ba):LP->Option Ml
 | .mk (e::g::h::_) _ _ [.mk _ _ d _,.mk _ _ t2 _]=>match ji e.2,ji g.2,ji h.2 with
   |some a,some b,some c=>if ei ⟨a,b,c,d,t2⟩=0/\am rc (uc 0) ⟨a,b,c,d,t2⟩=s then some ⟨a,b,c,d,t2⟩else none
   |_,_,_=>none
 |_=>none
def Nv(s:ba):Option Ml:=match Lg 4 s 0 with
 | .ok q=>ot s q.1
 | .error _=>none
def re:Option Ml->List PV
 |some m=>[.agg (nc m),.flat (.int .i64 0)]
 |none=>[.agg (nc ⟨[],[],[],[],[]⟩),.flat (.int .i64 7)]
theorem kS:∀(L:List ba)(q:Cr),(L.foldl (vj ue) q).1.length<=q.1.length+(L.map fun w=>w.length+1).sum
 |[],q=>by simp
 |w::L,q=>by
  have a:=kS L (vj ue q w);have b:=iS q w;simp only[Jm,kc,List.sum_cons];omega
theorem YM(c:UInt8):∀s:ba,((gb c s).map fun w=>w.length+1).sum=s.length+1
 |[]=>rfl
 |x::s=>by
  have h:=YM c s;obtain⟨p,ps,e⟩:=OC c s;rw[e]at h;rw[gb,e];split<;>simp at h⊢<;>omega
def k_(s:ba):(cg s).2.1.length<=s.length+1:=by
 unfold cg;split
 ·simp
 ·rename_i l a
  have c:l.length<=s.length:=by
   split at a
   ·have:=SF a;rw[Ac]at this;omega
   ·cases a
  split
  ·have b:=kS (gb 32 (Lib.replaceAll (Lib.cut l [58]).2.1 [9] [32])) ([],false,false)
   have d:=(XM l [58]).2;have e:=pt (Lib.cut l [58]).2.1 [9] [32] ga;rw[YM,ya]at b;unfold kt;dsimp only;omega
  ·simp
def gs{v x:ba}(h:ji v=some x):x.length<=v.length+6:=by
 unfold ji at h;split at h
 ·cases h
  have:=k_ (Te v);unfold Te at this⊢;simp only[Ja,za,ya]at this⊢;omega
 ·cases h
def js{v x:ba}(h:ji v=some x):(cg (Te v)).2.2=0/\(cg (Te v)).2.1=x:=by
 unfold ji at h;split at h
 ·cases h;exact⟨by assumption,rfl⟩
 ·cases h
def is{v:ba}(h:ji v=none):(cg (Te v)).2.2≠0:=by
 unfold ji at h;split at h
 ·cases h
 ·assumption
def II(lib:Callee):Prop:=∀s:ba,s.length<=10000->lib 19 [.flat (.string (S s))] [] []=some (ym s,false,[],[])
def w8(H:II lib)(s:ba)(hs:s.length<=10000):fa code lib 19 [.flat (.string (S s))] [] []=some (ym s,false,[],[]):=Ud ga ca (H s hs)
def three(F:List ec):F.length<3\/∃d e g r,F=d::e::g::r:=by
 match F with
 |[]=>simp
 |[_]=>simp
 |[_,_]=>simp
 |a::b::c::r=>exact .inr ⟨a,b,c,r,rfl⟩
def two(ps:List LP):ps.length≠2\/∃p q,ps=[p,q]:=by
 match ps with
 |[]=>simp
 |[_]=>simp
 |[a,b]=>exact .inr ⟨a,b,rfl⟩
 |a::b::c::r=>simp
def Vz{s:ba}{F:List ec}{ty a:ba}{ps:List LP}(h:ps.length≠2\/F.length<3):ot s (.mk F ty a ps)=none:=by
 match F,ps with
 |[],_=>rfl
 |[_],_=>rfl
 |[_,_],_=>rfl
 |_::_::_::_,[]=>rfl
 |_::_::_::_,[.mk ..]=>rfl
 |_::_::_::_,[.mk ..,.mk ..]=>simp at h;omega
 |_::_::_::_,.mk ..::.mk ..::_::_=>rfl
theorem o_(V:ci lib rc)(Y:wo lib (uc 0))(g:Cf lib)(W:hu lib)(U:eu lib)(i:sd lib)(e:pe lib)(X:ju lib)
 (d:vo lib) (c:Kl lib) (l:Ll lib) (n:Qp lib) (j:sr lib) (s:ba) (hs:s.length<=1500) (p:LP) (h1Z:Bk 1500 p) (Z:∀q∈p.ps,Bk 10000 q)
 (e1:fa code lib 19 [.flat (.string (S s))] [] []=some ([.agg p.cells,.flat (.int .i64 0)],false,[],[])):
 fa code lib 7 [.flat (.string (S s))] [] []=some (re (ot s p),false,[],[]):=by
 obtain⟨F,ty,txZ,ps⟩:=p;obtain⟨K,k2Z,k3Z⟩:=h1Z;have I:Da=4294967296:=rfl;rw[LP.cells]at e1;rcases two ps with hpZ|⟨⟨F1Z,y1Z,B,r1⟩,⟨F2Z,y2Z,t2,r2Z⟩,rfl⟩
 ·rw[Vz (.inl hpZ)]
  have o:((ps.length:Int)=2)=False:=by apply eq_false;omega
  refine ma pn (qa rfl) ?_;unfold re nc;exact me @je @cd @jf @dd
 rcases three F with hF|⟨⟨n1,a⟩,⟨n2,b⟩,⟨n3,v3⟩,r,rfl⟩
 ·rw[Vz (.inr hF)]
  refine ma pn (qa rfl) ?_;unfold re nc;simp only[za,ya]at e1;exact me @je @cd @jf @dd
 have m1Z:a.length<=1500:=K (n1,a) da;have m2Z:b.length<=1500:=K (n2,b) da;have m3Z:v3.length<=1500:=K (n3,v3) da;have m4Z:=(Z (.mk F1Z y1Z B r1) (by simp[LP.ps])).2.1;have m5Z:=(Z (.mk F2Z y2Z t2 r2Z) (by simp[LP.ps])).2.1;have A:∀v:ba,v.length<=1500->(Te v).length<=10000:=fun v h=>by unfold Te;simp only[Ja,za,ya];omega
 have t:=oD g i d c l e n j (Te a) (A a m1Z);have u:=oD g i d c l e n j (Te b) (A b m2Z);have w:=oD g i d c l e n j (Te v3) (A v3 m3Z);have e2:=fun m=>ZJ V Y g W U i e X m
 clear V Y g W U i e X d c l n j A;simp only[za,ya,LP.cells,Tc,bb,ub,Gb,Ye]at e1;unfold ot;dsimp only;have L:=@js a;have M:=@js b;have N:=@js v3;have l1Z:=@gs a;have l2Z:=@gs b;have l3Z:=@gs v3;have R:=@is a;have T:=@is b;have z3:=@is v3;obtain⟨⟨a1Z,C,a3⟩,hAZ⟩:∃q,cg (Te a)=q:=⟨_,rfl⟩;obtain⟨⟨b1Z,D,b3Z⟩,hBZ⟩:∃q,cg (Te b)=q:=⟨_,rfl⟩;obtain⟨⟨c1,c2,c3⟩,hCZ⟩:∃q,cg (Te v3)=q:=⟨_,rfl⟩;rw[hAZ]at t L R;rw[hBZ]at u M T;rw[hCZ]at w N z3;dsimp only at t u w L M N R T z3;clear hAZ hBZ hCZ;unfold Te at t u w;simp only[ub,Gb]at t u w;have g0Z:a.length+5<=Da/\b.length+5<=Da/\v3.length+5<=Da:=by rw[I];omega
 cases O:ji a with
 |none=>
  have z:=R O;have z'Z:((a3:Int)=0)=False:=by apply eq_false;omega
  refine ma pn (qa rfl) ?_;unfold re nc;exact dk @je @cd @jf @dd @Dh.{0} @pd @tc @Gc @Sc @Wd Rs @Ja.{0}
 |some x1Z=>
  obtain⟨rfl,rfl⟩:=L O;have d1Z:=l1Z O;cases P:ji b with
  |none=>
   have z:=T P;have z'Z:((b3Z:Int)=0)=False:=by apply eq_false;omega
   refine ma pn (qa rfl) ?_;unfold re nc;exact dk @je @cd @jf @dd @Dh.{0} @pd @tc @Gc @Sc @Wd Rs @Ja.{0}
  |some x2Z=>
   obtain⟨rfl,rfl⟩:=M P;have d2Z:=l2Z P;cases Q:ji v3 with
   |none=>
    have z:=z3 Q;have z'Z:((c3:Int)=0)=False:=by apply eq_false;omega
    refine ma pn (qa rfl) ?_;unfold re nc;exact dk @je @cd @jf @dd @Dh.{0} @pd @tc @Gc @Sc @Wd Rs @Ja.{0}
   |some x3Z=>
    obtain⟨rfl,rfl⟩:=N Q;have d3Z:=l3Z Q;have e2:=e2 ⟨C,D,c2,B,t2⟩ ⟨Fg,Fg,Fg,m4Z,m5Z⟩;dsimp only;unfold ar at e2;simp only[nc]at e2;obtain⟨o,J⟩:∃o,ei ⟨C,D,c2,B,t2⟩=o:=⟨_,rfl⟩;obtain⟨E,H⟩:∃E,am rc (uc 0) ⟨C,D,c2,B,t2⟩=E:=⟨_,rfl⟩;rw[J,H]at e2⊢;by_cases y:o=0
    ·rw[if_pos y]at e2
     by_cases x:E=s
     ·rw[if_pos ⟨y,x⟩]
      have G:=eq_true x;refine ma pn (qa rfl) ?_;unfold re nc;exact dk @je @cd @jf @dd @Dh.{0} @pd @tc @Gc @Sc @Wd Rs @Ja.{0}
     ·rw[if_neg fun k=>x k.2]
      have G:=eq_false x;refine ma pn (qa rfl) ?_;unfold re nc;exact dk @je @cd @jf @dd @Dh.{0} @pd @tc @Gc @Sc @Wd Rs @Ja.{0}
    ·rw[if_neg fun k=>y k.1]
     rw[if_neg y]at e2;have x:((o:Int)=0)=False:=by apply eq_false;omega
     refine ma pn (qa rfl) ?_;unfold re nc;exact dk @je @cd @jf @dd @Dh.{0} @pd @tc @Gc @Sc @Wd Rs @Ja.{0}
theorem p_(O:ci lib rc)(c:Sp lib rc)(P:wo lib (uc 0))(d:Nw lib (uc 0))(e:ur lib)(s:ba)(hs:s.length<=1500)(p:LP)(Z:Bk 1500 p)(Q:∀q∈p.ps,Bk 10000 q)
 (e1:fa code lib 22 [.flat (.string (S s))] [] []=some ([.agg p.cells,.flat (.int .i64 0)],false,[],[])):
 fa code lib 8 [.flat (.string (S s))] [] []=some (re (ot s p),false,[],[]):=by
 obtain⟨F,ty,txZ,ps⟩:=p;obtain⟨E,k2Z,k3Z⟩:=Z;have C:Da=4294967296:=rfl;rw[LP.cells]at e1;rcases two ps with hpZ|⟨⟨W,y1Z,u,r1⟩,⟨X,y2Z,t2,r2Z⟩,rfl⟩
 ·rw[Vz (.inl hpZ)]
  have g:((ps.length:Int)=2)=False:=by apply eq_false;omega
  refine ma qn (qa rfl) ?_;unfold re nc;rcases ai F.length 3 with hF|hF
  ·exact me @je @cd @jf @dd
  ·exact me @je @cd @jf @dd
 rcases three F with hF|⟨⟨n1,a⟩,⟨n2,b⟩,⟨n3,v3⟩,r,rfl⟩
 ·rw[Vz (.inr hF)]
  refine ma qn (qa rfl) ?_;unfold re nc;simp only[za,ya]at e1;exact me @je @cd @jf @dd
 have m1Z:a.length<=1500:=E (n1,a) da;have m2Z:b.length<=1500:=E (n2,b) da;have m3Z:v3.length<=1500:=E (n3,v3) da;have m4Z:=(Q (.mk W y1Z u r1) (by simp[LP.ps])).2.1;have m5Z:=(Q (.mk X y2Z t2 r2Z) (by simp[LP.ps])).2.1;have t:∀v:ba,v.length<=1500->(Te v).length<=10000:=fun v h=>by unfold Te;simp only[Ja,za,ya];omega
 have i:=gH e (Te a) (t a m1Z);have j:=gH e (Te b) (t b m2Z);have l:=gH e (Te v3) (t v3 m3Z);have e2:=fun m=>OV O c P d m
 clear O c P d e t;simp only[za,ya,LP.cells,Tc,bb,ub,Gb,Ye]at e1;unfold ot;dsimp only;have G:=@js a;have H:=@js b;have I:=@js v3;have l1Z:=@gs a;have l2Z:=@gs b;have l3Z:=@gs v3;have M:=@is a;have N:=@is b;have z3:=@is v3;obtain⟨⟨a1Z,w,a3⟩,R⟩:∃q,cg (Te a)=q:=⟨_,rfl⟩;obtain⟨⟨b1Z,x,Y⟩,T⟩:∃q,cg (Te b)=q:=⟨_,rfl⟩;obtain⟨⟨c1,c2,c3⟩,U⟩:∃q,cg (Te v3)=q:=⟨_,rfl⟩;rw[R]at i G M;rw[T]at j H N;rw[U]at l I z3;dsimp only at i j l G H I M N z3;clear R T U;unfold Te at i j l;simp only[ub,Gb]at i j l;have g0Z:a.length+5<=Da/\b.length+5<=Da/\v3.length+5<=Da:=by rw[C];omega
 cases J:ji a with
 |none=>
  have z:=M J;have V:((a3:Int)=0)=False:=by apply eq_false;omega
  refine ma qn (qa rfl) ?_;unfold re nc;exact dk @je @cd @jf @dd @Dh.{0} @pd @tc @Gc @Sc @Wd Ws @Ja.{0}
 |some x1Z=>
  obtain⟨rfl,rfl⟩:=G J;have d1Z:=l1Z J;cases K:ji b with
  |none=>
   have z:=N K;have V:((Y:Int)=0)=False:=by apply eq_false;omega
   refine ma qn (qa rfl) ?_;unfold re nc;exact dk @je @cd @jf @dd @Dh.{0} @pd @tc @Gc @Sc @Wd Ws @Ja.{0}
  |some x2Z=>
   obtain⟨rfl,rfl⟩:=H K;have d2Z:=l2Z K;cases L:ji v3 with
   |none=>
    have z:=z3 L;have V:((c3:Int)=0)=False:=by apply eq_false;omega
    refine ma qn (qa rfl) ?_;unfold re nc;exact dk @je @cd @jf @dd @Dh.{0} @pd @tc @Gc @Sc @Wd Ws @Ja.{0}
   |some x3Z=>
    obtain⟨rfl,rfl⟩:=I L;have d3Z:=l3Z L;have e2:=e2 ⟨w,x,c2,u,t2⟩ ⟨Fg,Fg,Fg,m4Z,m5Z⟩;dsimp only;unfold ar at e2;simp only[nc]at e2;obtain⟨g,D⟩:∃g,ei ⟨w,x,c2,u,t2⟩=g:=⟨_,rfl⟩;obtain⟨y,B⟩:∃y,am rc (uc 0) ⟨w,x,c2,u,t2⟩=y:=⟨_,rfl⟩;rw[D,B]at e2⊢;by_cases o:g=0
    ·rw[if_pos o]at e2
     by_cases n:y=s
     ·rw[if_pos ⟨o,n⟩]
      have A:=eq_true n;refine ma qn (qa rfl) ?_;unfold re nc;exact dk @je @cd @jf @dd @Dh.{0} @pd @tc @Gc @Sc @Wd Ws @Ja.{0}
     ·rw[if_neg fun k=>n k.2]
      have A:=eq_false n;refine ma qn (qa rfl) ?_;unfold re nc;exact dk @je @cd @jf @dd @Dh.{0} @pd @tc @Gc @Sc @Wd Ws @Ja.{0}
    ·rw[if_neg fun k=>o k.1]
     rw[if_neg o]at e2;have n:((g:Int)=0)=False:=by apply eq_false;omega
     refine ma qn (qa rfl) ?_;unfold re nc;exact dk @je @cd @jf @dd @Dh.{0} @pd @tc @Gc @Sc @Wd Ws @Ja.{0}
def zey(e:Nat)(s:ba)(e1:fa code lib 19 [.flat (.string (S s))] [] []=some ([.agg Xa,.flat (.int .i64 (e:Nat))],false,[],[])):fa code lib 7 [.flat (.string (S s))] [] []=some (re none,false,[],[]):=by
 refine ma pn (qa rfl) ?_;unfold re nc;unfold Xa at e1;rcases Ep e with h|h
 ·subst h
  rw[n0]at e1;exact ta
 ·exact ta
def zew(e:Nat)(s:ba)(e1:fa code lib 22 [.flat (.string (S s))] [] []=some ([.agg Xa,.flat (.int .i64 (e:Nat))],false,[],[])):fa code lib 8 [.flat (.string (S s))] [] []=some (re none,false,[],[]):=by
 refine ma qn (qa rfl) ?_;unfold re nc;unfold Xa at e1;rcases Ep e with h|h
 ·subst h
  rw[n0]at e1;exact ta
 ·exact ta
structure iu (lib:Callee):Prop where
 b64:ci lib rc
 qp:wo lib (uc 0)
 idx:Cf lib
 last:hu lib
 JC:eu lib
 pre:sd lib
 bld:pe lib
 nest:ju lib
 cut:vo lib
 Ku:Kl lib
 rep:Ll lib
 ZM:Qp lib
 dec:sr lib
 tp:II lib
 cS:Sp lib rc
 rq:Nw lib (uc 0)
 bN:ur lib
 ref:yr lib
def m_(L:iu lib)(s:ba)(hs:s.length<=1500):fa code lib 7 [.flat (.string (S s))] [] []=some (re (Nv s),false,[],[]):=by
 have e1:=w8 L.tp s aa;unfold ym at e1;unfold Nv;cases h:Lg 4 s 0 with
 |error e=>
  rw[h]at e1;exact zey e s e1
 |ok q=>
  rw[h]at e1;obtain⟨a,b⟩:=KF 4 s 0 q aa h;obtain⟨p,m⟩:=q;refine o_ L.b64 L.qp L.idx L.last L.JC L.pre L.bld L.nest L.cut L.Ku L.rep L.ZM L.dec s hs p ?_ b e1;obtain⟨F,ty,t,ps⟩:=p;obtain⟨d,g,i⟩:=a;exact⟨fun f c=>Ob (d f c) hs,Ob g hs,i⟩
def n_(L:iu lib)(s:ba)(hs:s.length<=1500):fa code lib 8 [.flat (.string (S s))] [] []=some (re (Nv s),false,[],[]):=by
 have e1:=HR L.ref s aa;unfold ym at e1;unfold Nv;cases h:Lg 4 s 0 with
 |error e=>
  rw[h]at e1;exact zew e s e1
 |ok q=>
  rw[h]at e1;obtain⟨a,b⟩:=KF 4 s 0 q aa h;obtain⟨p,m⟩:=q;refine p_ L.b64 L.cS L.qp L.rq L.bN s hs p ?_ b e1;obtain⟨F,ty,t,ps⟩:=p;obtain⟨d,g,i⟩:=a;exact⟨fun f c=>Ob (d f c) hs,Ob g hs,i⟩
def m0:Ml:=⟨[97,64,98],[99,64,100],[120],[104,105,10],[60,112,62,104,105,60,47,112,62]⟩
def eP:Except Nat (LP×Nat)->Bool
 | .ok (.mk _ _ _ [.mk _ _ t _,_],_)=>decide (t=[104,105,10])
 |_=>false
def CW:ei m0=0:=lc
def d6:(am rc (uc 0) m0).length<=10000:=lc
set_option maxRecDepth 100000 in
def bl:eP (Lg 4 (am rc (uc 0) m0) 0)=true:=lc
def XU(L:iu lib):fa code lib 9 [] [] []=some ([.flat (.bool true)],false,[],[]):=by
 have e1:=ZJ L.b64 L.qp L.idx L.last L.JC L.pre L.bld L.nest m0 ⟨ga,ga,ga,ga,ga⟩;have e2:=HR L.ref (am rc (uc 0) m0) d6;have h:=bl;unfold ar at e1;rw[CW,if_pos rfl]at e1;simp only[nc,m0]at e1;unfold ym at e2;have a:m0=⟨[97,64,98],[99,64,100],[120],[104,105,10],[60,112,62,104,105,60,47,112,62]⟩:=rfl;rw[<-a]at e1;generalize am rc (uc 0) m0=b at*;unfold eP at h;split at h
 ·rename_i F ty j e k t r1 d n c
  obtain⟨g,l,t2,i⟩:=d;have ht:=of_decide_eq_true h;subst ht;rw[c]at e2;simp only[LP.cells,Tc,Ye,ub,Gb,za,ya]at e2;refine ma NX (qa rfl) ?_;exact me @je @cd @jf @dd
 ·cases h
def q_(L:iu lib)(s:ba)(hs:s.length<=9223372036854775807):fa code lib 3 [.flat (.string (S s))] [] []=some ([.flat (.bool true)],false,[],[]):=by
 have b:=XU L;have a:(s.take 1500).length<=1500:=by rw[Ac];omega
 have e1:=m_ L (s.take 1500) a;have e2:=n_ L (s.take 1500) a;clear L;generalize Nv (s.take 1500)=o at*;refine ma MX (qa rfl) ?_;rcases ai 1500 s.length with h|h
 ·cases o with
  |none=>
   simp only[re,nc]at e1 e2;exact va @Dh.{0}
  |some m=>
   simp only[re,nc]at e1 e2;exact va @Dh.{0}
 ·rw[Rf h]at e1 e2
  cases o with
  |none=>
   simp only[re,nc]at e1 e2;exact va @Dh.{0}
  |some m=>
   simp only[re,nc]at e1 e2;exact va @Dh.{0}
end wa
section
set_option synthInstance.maxSize 4000
namespace wa
def strCells(l:List (List UInt8)):List Value:=l.map fun x=>.string ⟨x.toArray⟩
def zb3(l)(x):strCells (l++[x])=strCells l++[.string ⟨x.toArray⟩]:=by simp[strCells]
theorem JJ(s)(i):Eg s [13,10] i=true ↔ s[i]?=some 13/\s[i+1]?=some 10:=by
 unfold Eg;rw[Vc,decide_eq_true_eq,beq_iff_eq,<-List.head?_drop,show s[i+1]?=(s.drop i)[1]? by simp];have c:(s.drop i).length=s.length - i:=Ya
 match h:s.drop i with
 |[]=>simp
 |[a]=>simp
 |a::b::r=>grind
def Mu(k:Nat):Option Nat->Int|some j=>((k+j:Nat):Int)|none=>-1
def pg:List (List UInt8×Nat)->Option (List (List UInt8)×Nat)
 |[]=>none
 |(b,a)::r=>if b=[]then some ([],a)else(pg r).map fun p=>(b::p.1,p.2)
theorem HS:∀(xs)(st),pg xs=none->ve xs st=none
 |[],st,_=>rfl
 |(c,a)::r,st,h=>by
  rw[pg]at h;by_cases b:c=[]
  ·grind
  ·rw[if_neg b]at h
   have hr:pg r=none:=by simpa using h
   rw[ve,if_neg b];rcases ed st c with _|st'
   ·rfl
   ·exact HS r st' hr
theorem IS:∀(xs)(st)(d)(a),pg xs=some (d,a)->ve xs st=(Kd d st).map fun s=>(s.1,s.2,a)
 |[],st,d,a,h=>by cases h
 |(g,b)::r,st,d,a,h=>by
  rw[pg]at h;by_cases c:g=[]
  ·rw[if_pos c]at h;cases h;rw[ve,if_pos c];rfl
  ·rw[if_neg c]at h
   rcases hr:pg r with _|⟨e,a'⟩
   ·grind
   ·rw[hr]at h
    cases h;rw[ve,if_neg c,Kd,Gw];rcases hs:ed st g with _|st'
    ·rfl
    ·exact IS r st' e a' hr
theorem OP:∀(xs)(c)(a),pg xs=some (c,a)->∀x∈c,x≠[]
 |[],c,a,h=>by cases h
 |(i,b)::r,c,a,h=>by
  rw[pg]at h;by_cases g:i=[]
  ·grind
  ·rw[if_neg g]at h
   rcases hr:pg r with _|⟨e,a'⟩
   ·grind
   ·rw[hr]at h
    cases h;intro x d;rcases Wb.1 d with rfl|d
    ·exact g
    ·exact OP r e _ hr x d
theorem NP:∀(xs)(c)(a),pg xs=some (c,a)->c.length<=xs.length/\∀x∈c,∃b,(x,b)∈xs
 |[],c,a,h=>by cases h
 |(g,b)::r,c,a,h=>by
  rw[pg]at h;by_cases e:g=[]
  ·grind
  ·rw[if_neg e]at h
   rcases hr:pg r with _|⟨d,a'⟩
   ·grind
   ·rw[hr]at h
    cases h;have:=NP r d _ hr
    grind
end wa
namespace Go.Proofs.YtglaihdcndcmkaaGreatDoor
theorem bC(s x)(k)(b)(h:Eg s.data.toList x.data.toList k=b)(w)(hs:s.size<=1000000000)(c:x.size<=1000000000)(a:k<=1000000000):Calls Tryz.prog 105 #[.string s,.string x,.int .i64 k] w (Rb (.bool b) w):=h▸iV s x k w hs c a
def AZ(s)(k:Nat)(w)(hs:s.size<=1000000)(E:k<=s.size)(o)(n:Zc (s.data.toList.drop k)=o):Calls Tryz.prog 235 #[.string s,.int .i64 k] w (Rb (.int .i64 (Mu k o)) w):=by
 have j:∀d,k+d<=s.size->Eg s.data.toList [13,10] (k+d)=decide (o=some d)\/∃e,o=some e/\e<d:=by
  intro d x;by_cases c:o=some d
  ·left
   rw[c]at n;have:=Lx n
   grind [JJ]
  ·by_cases ea:∃e,o=some e/\e<d
   ·grind
   ·left
    rw[show decide (o=some d)=false by grind];have a:¬(Eg s.data.toList [13,10] (k+d)=true):=by
     rw[JJ];intro h;rw[<-Fj,show k+d+1=k+(d+1) by omega,<-Fj]at h;rcases o with _|e
     ·grind [KC]
     ·grind [Kx]
    grind
 have l:∀e,o=some e->k+e+2<=s.size:=by
  intro e h;rw[h]at n;have:=Vj n;rw[Ya,show s.data.toList.length=s.size from rfl]at this;omega
 have y:=Lib.hid j;clear j n;obtain⟨V,t⟩:∃V,Mu k o=V:=⟨_,rfl⟩;rw[t];have v:=Lib.hid t;have q:=Lib.hid l;clear t l
 go_enter Tryz.func235,Tryz.ntmps235
 go_wp2
 go_loop [5] (fun i=>∃d:Nat,i=.int .i64 ((k+d:Nat):Int)/\k+d<=s.size/\Hid (¬∃e,o=some e/\e<d)) (fun i=>s.size - (intOf i).toNat)
 case atStart=>exact⟨0,rfl,aa,Lib.hid aa⟩
 case round=>
  obtain⟨d,rfl,x,g⟩:=hrel;have a:((k+d:Nat):Int)=(k:Int)+d:=aa
  by_cases ea:k+d<s.size
  ·have u:=(y.out d aa).resolve_right g.out
   obtain⟨i,b⟩:∃i,k+d=i:=⟨_,rfl⟩;rw[b]at u x ea;by_cases c:o=some d
   ·have p:=Lib.hid (show Eg s.data.toList (ByteArray.mk #[13,10]).data.toList i=true by grind)
    have r:=Lib.hid (show(i:Int)=V by rw[<-v.out,c,<-b];rfl);have z:=Lib.hid b;rw[b];clear u a c b
    go_wp2_with(go_at_call 105;refine(bC s ⟨#[13,10]⟩ i true p.out _ aa ga aa).mono ?_;rintro e C ⟨rfl,rfl⟩)
    go_ret;exact⟨r1 (vi r.out),rfl⟩
   ·have p:=Lib.hid (show Eg s.data.toList (ByteArray.mk #[13,10]).data.toList i=false by grind)
    have D:=Lib.hid (show¬∃e,o=some e/\e<d+1 by
     rintro⟨e,A,B⟩;exact g.out ⟨e,A,by
      grind⟩)
    have z:=Lib.hid b;rw[b];clear u a c b
    go_wp2_with(go_at_call 105;refine(bC s ⟨#[13,10]⟩ i false p.out _ aa ga aa).mono ?_;rintro e C ⟨rfl,rfl⟩)
    grind [Hid.out,intOf]
  ·have b:o=none:=by
    rcases o with _|e
    ·rfl
    ·have u:=q.out e rfl
     have z:¬e<d:=fun h=>g.out ⟨e,rfl,h⟩
     omega
   have r:=Lib.hid (show(-1:Int)=V by rw[<-v.out,b];rfl);have p:¬((k:Int)+d<s.size):=aa
   clear b;go_wp2;go_ret;exact⟨r1 (vi r.out),rfl⟩
def SJ(c)(w):Calls Tryz.prog 168 #[.int .u8 c.toNat] w (Rb (.bool (Ia c)) w):=by
 go_enter Tryz.func168,Tryz.ntmps168
 go_wp2
 all_goals (go_ret;refine⟨r1 (vb ?_),rfl⟩)
 all_goals (go_light;revert c;decide+kernel)
def n6:Option (List (List UInt8)×Nat)->World->Ending->World->Prop
 |none,w,e,w'=>e=.returned (.tuple #[.slice none 0 0,.int .i64 0,.bool false])/\Below w.heap.size w w'
 |some (b,a),w,e,w'=>∃v,e=.returned (.tuple #[v,.int .i64 a,.bool true])/\w'.ownsRow w.heap.size 9 1 v b.length (strCells b)/\Below w.heap.size w w'
def Q1:(Tryz.prog.info? 9).map (fun i=>(i.zero,i.size,i.bytes))=some (some (.string ⟨#[]⟩),1,16):=ca
def aD(s)(k)(V)(o)(c:Zc (s.data.toList.drop k)=o)(a:Mu k o=V)(w)(hs:s.size<=1000000)(b:k<=s.size):Calls Tryz.prog 235 #[.string s,.int .i64 k] w (Rb (.int .i64 V) w):=a▸AZ s k w hs b o c
def RP(s)(w)(hs:s.size<=1000000)(R)(I:pg (Vd s.data.toList 0)=R):Calls Tryz.prog 166 #[.string s] w (n6 R w):=by
 have C:=Lib.hid I;clear I
 go_enter Tryz.func166,Tryz.ntmps166
 go_wp2
 go_loopw [5,6,7] (fun v i _ wr=>∃(k:Nat)(d:List (List UInt8)),i=.int .i64 k/\k<=s.size/\d.length<=k/\wr.ownsRow w.heap.size 9 1 v d.length (strCells d)/\Below w.heap.size w wr/\Hid (R=(pg (Vd (s.data.toList.drop k) k)).map fun p=>(d++p.1,p.2)))
  (fun _ i _ _=>s.size+1 - (intOf i).toNat)
 case atStart=>exact⟨0,[],rfl,Za _,la _,Fw (size:=1) w _ 0 (la _) ga ga,(Below.refl _ _).alloc (la _) _,Lib.hid (by rw[Af,C.out];simp)⟩
 case round=>
  obtain⟨k,d,rfl,E,Q,q,l,n⟩:=hrel;rcases r:Zc (s.data.toList.drop k)with _|j
  ·have A:=Lib.hid (show Mu k none=-1 from rfl)
   have z:=Lib.hid r;have b:R=none:=by rw[n.out,ek r];rfl
   have t:=Lib.hid b;clear r b
   go_wp2_with(go_at_call 235;refine(aD s k (-1) none z.out A.out _ aa E).mono ?_;rintro e H ⟨rfl,rfl⟩)
   go_ret3
   rw[t.out];exact⟨rfl,l⟩
  ·have ea:=Vj r
   rw[Ya,show s.data.toList.length=s.size from rfl]at ea;have hit:=En (a:=k) r;rw[rf]at hit;have z:=Lib.hid r;have u:=Lib.hid hit;clear r hit;obtain⟨c,o⟩:∃c,k+j=c:=⟨_,rfl⟩;have A:=Lib.hid (show Mu k (some j)=(c:Int) by rw[<-o];rfl);by_cases B:j=0
   ·have b:R=some (d,k+2):=by
     rw[n.out,u.out,B];simp[pg]
    have t:=Lib.hid b;obtain rfl:k=c:=aa
    clear B o b
    go_wp2_with(go_at_call 235;refine(aD s k k (some j) z.out A.out _ aa E).mono ?_;rintro e H ⟨rfl,rfl⟩)
    go_ret3
    rw[t.out];exact⟨_,rfl,q,l⟩
   ·have ra:((c:Int)==(k:Int))=false:=by rw[beq_eq_false_iff_ne];omega
    have y:(s.extract k c).data.toList=(s.data.toList.drop k).take j:=by rw[Lib.extract_data,show c - k=j by omega]
    have b:R=(pg (Vd (s.data.toList.drop (c+2)) (c+2))).map fun p=>(d++[(s.extract k c).data.toList]++p.1,p.2):=by
     have F:(s.data.toList.drop k).take j≠[]:=by
      intro h;have:=congrArg List.length h;rw[Ac,Ya,show s.data.toList.length=s.size from rfl]at this;simp at this;omega
     rw[n.out,u.out,pg,if_neg F,if_neg B,y,show k+(j+2)=c+2 by omega,show k+j+2=c+2 by omega];rcases pg (Vd (s.data.toList.drop (c+2)) (c+2))with _|p<;>simp
    have t:=Lib.hid b;have K:(k:Int)<=(c:Int):=aa
    have L:(c:Int)+2<=(s.size:Int):=aa
    have T:(0:Int)<=c:=aa
    have J:k<c:=aa
    have O:=Lib.hid o;obtain⟨x,N⟩:∃x,s.extract k c=x:=⟨_,rfl⟩;rw[N]at t;have U:x.size<=1000000:=by rw[<-N,Kj];omega
    clear B o b y
    go_wp2_with(first|(go_at_call 235;refine(aD s k c (some j) z.out A.out _ aa E).mono ?_;rintro e H ⟨rfl,rfl⟩)|(at_builtin;refine Am ja _ _ _ ja 9 (.string ⟨#[]⟩) 1 16 Tryz.underlying29 Q1 rfl ga w.heap.size wr _ _ _ ja q [.string x] rfl (by simp[Value.oneCell']) ja aa aa l.size ?_;intro g P H V G S D M))
    go_roundw
    case rel=>
     exact⟨c+2,d++[x.data.toList],by go_num,aa,ia,by rw[zb3,Ja];omega,l.trans D,t⟩
    grind [intOf]
end Go.Proofs.YtglaihdcndcmkaaGreatDoor
end
section
set_option synthInstance.maxSize 4000
namespace wa
theorem zb0{st st'}{l}(h:ed st l=some st'):st'.1≠[]:=by
 unfold ed at h;split at h
 ·cases h
 ·split at h
  ·split at h
   ·cases h
   ·cases h;simp
  ·split at h
   ·cases h
   ·split at h
    ·cases h;simp
    grind
theorem QP:∀(a)(st st'),Kd a st=some st'->a≠[]->st'.1≠[]
 |[],st,st',_,h=>absurd rfl h
 |[l],st,st',h,_=>by
  grind [Kd.eq_1,Option.bind_eq_some_iff,zb0]
 |l::m::a,st,st',h,_=>by
  rw[Kd,Gw]at h;obtain⟨s1,c,b⟩:=qb h;exact QP (m::a) s1 st' b da
def OF(b:List (List UInt8))(k)(a st)(c)(h:Kd (b.take k) a=some st):Kd (b.take (k+1)) a=ed st b[k]:=by
 grind [List.take_succ_eq_append_getElem,MP]
def p6(a)(k)(b st)(e)(h:Kd (a.take k) b=some st)(d:ed st a[k]=none):Kd a b=none:=by
 have c:=OF a k b st e h;rw[d]at c;have:a=a.take (k+1)++a.drop (k+1):=(jI _ _).symm;rw[this];unfold Kd at c⊢
 grind [List.foldlM_append]
def H_{w:World}{B e g a m:Nat}{F0}{q:ec}{p}(b:w.ownsRow B e 2 (.slice (some ⟨g,0,none⟩) (m+1) a) (m+1) (Ua F0++[.string ⟨q.1.toArray⟩,.string ⟨q.2.toArray⟩]))(c:F0.length=m):
 (w.setCell ⟨g,m* 2+1,none⟩ (.string (⟨q.2.toArray⟩++p))).ownsRow B e 2 (.slice (some ⟨g,0,none⟩) (m+1) a) (F0++[(q.1,q.2++p.data.toList)]).length (Ua (F0++[(q.1,q.2++p.data.toList)])):=by
 have:=(b.stored (m* 2+1) (.string (⟨q.2.toArray⟩++p))).1;rw[An];dsimp only;rw[Ja,c,List.length_singleton];rw[io _ _ (by grind [bk]),bk,c,show m* 2+1 - m* 2=1 by omega]at this;have e:(ByteArray.mk q.2.toArray++p)=⟨(q.2++p.data.toList).toArray⟩:=by
  apply Jk;apply Sg;simp
 grind
def g0(p:ByteArray)(d):p.extract 0 d=⟨(p.data.toList.take d).toArray⟩:=by
 apply Jk;apply Sg;simp
def d0(p:ByteArray)(d):p.extract d p.size=⟨(p.data.toList.drop d).toArray⟩:=by
 apply Jk;apply Sg;rw[Lib.extract_data,Rf da]
def J_{w:World}{B e:Nat}{v}{F}{a b}{X Y}(h:w.ownsRow B e 2 v (F.length+1) (Ua F++[.string X,.string Y]))(c:X=⟨a.toArray⟩)(d:Y=⟨b.toArray⟩):w.ownsRow B e 2 v (F.length+1) (Ua (F++[(a,b)])):=by
 grind [An]
def Z7{w:World}{b d}{e}{size}{v}{n}{xs}(h:w.ownsRow b e size v n xs)(l:d<=b):w.ownsRow d e size v n xs:=⟨h.1,h.2.imp id fun⟨g,a,c,i,j,k⟩=>⟨g,a,c,i,Ob l j,k⟩⟩
def Gm(F:List ec)(k:Nat):List ec:=(F.take k).map (fun p=>(p.1,trimB p.2))++F.drop k
def zdv(F)(k)(c)(q)(d:F[k]=q):(Ua (Gm F k)).length=F.length* 2/\(Ua (Gm F k))[k* 2+1]?=some (.string ⟨q.2.toArray⟩)/\(Ua (Gm F k)).set (k* 2+1) (.string ⟨(trimB q.2).toArray⟩)=Ua (Gm F (k+1)):=by
 have a:Ua (Gm F k)=Ua ((F.take k).map (fun p=>(p.1,trimB p.2)))++([.string ⟨q.1.toArray⟩,.string ⟨q.2.toArray⟩]++Ua (F.drop (k+1))):=by
  unfold Gm;rw[ld c,d];simp[Ua]
 have b:(Ua ((F.take k).map (fun p=>(p.1,trimB p.2)))).length=k* 2:=by rw[bk,Hj,Ac];omega
 refine⟨?_,?_,?_⟩
 ·grind [bk]
 ·simp_all
 ·rw[a,io _ _ aa,b,show k* 2+1 - k* 2=1 by omega]
  grind [Gm,List.take_succ_eq_append_getElem,Ua]
def LQ:∀d:UInt8,d≠58->((d.toNat:Int) !=58)=true:=lc
def YP(L)(p:ByteArray)(b)(h:(L||decide ((998:Int)<p.size))=b):Value.bool b=.bool (L||decide (998<p.data.toList.length)):=by
 rw[<-h];congr 2;rw[decide_eq_decide,show p.data.toList.length=p.size from rfl];omega
def CU(v:Value)(c:List (List UInt8))(w:World):Prop:=∃a n b,v=.slice a n b/\n=c.length/\n<=b/\(n=0\/∃g o,a=some ⟨g,o,none⟩/\g<w.heap.size/\∀(j:Nat)(x:List UInt8),c[j]?=some x->w.cell? ⟨g,o+j,none⟩=some (.string ⟨x.toArray⟩))
def zb5{w}{B e:Nat}{v}{a}(h:w.ownsRow B e 1 v a.length (strCells a)):CU v a w:=by
 rcases Xn h with⟨rfl,c⟩|⟨g,b,rfl,n,i,d⟩
 ·exact⟨_,_,_,rfl,c.symm,la _,.inl rfl⟩
 ·refine⟨_,_,_,rfl,rfl,d,.inr ⟨g,0,rfl,i,fun j x k=>?_⟩⟩
  have l:=(qg k).1;have:=h.cellAt j aa
  grind [strCells.eq_1]
end wa
namespace Go.Proofs.YtglaihdcndcmkaaGreatDoor
def zbj:Split->World->Ending->World->Prop
 | .form,w,e,w'=>e=.returned (.tuple #[.slice none 0 0,.int .i64 0,.int .i64 7])/\Below w.heap.size w w'
 | .long,w,e,w'=>e=.returned (.tuple #[.slice none 0 0,.int .i64 0,.int .i64 6])/\Below w.heap.size w w'
 | .ok l b,w,e,w'=>∃v,e=.returned (.tuple #[v,.int .i64 b,.int .i64 0])/\w'.ownsRow w.heap.size 67 2 v l.length (Ua l)/\Below w.heap.size w w'
def rt(s)(b)(h:s.data.toList.all eg=b)(w)(hs:s.size<=maxLen):Calls Tryz.prog 167 #[.string s] w (Rb (.bool b) w):=h▸F_ s w hs
def HQ(s)(b)(h:Ue s.data.toList=b)(w)(hs:s.size<=maxLen):Calls Tryz.prog 53 #[.string s] w (Rb (.bool b) w):=h▸FQ s w hs
def uu(c)(b)(h:Ia c=b)(w):Calls Tryz.prog 168 #[.int .u8 c.toNat] w (Rb (.bool b) w):=h▸SJ c w
def P1:(Tryz.prog.info? 67).map (fun i=>(i.zero,i.size,i.bytes))=some (some (.agg #[.string ⟨#[]⟩,.string ⟨#[]⟩]),2,32):=ca
set_option maxRecDepth 100000 in
def zbn(s)(w)(hs:s.size<=10000)(V)(hVZ:Pd s.data.toList=V):Calls Tryz.prog 100 #[.string s] w (zbj V w):=by
 rcases T:pg (Vd s.data.toList 0)with _|⟨N,at_⟩
 ·have a:V=.form:=by rw[<-hVZ];unfold Pd;rw[HS _ _ T]
  subst a;have HRZ:=Lib.hid T;clear T hVZ
  go_enter Tryz.func100,Tryz.ntmps100
  go_wp2_with(go_at_call 166;refine(RP s _ aa none HRZ.out).mono ?_;rintro e w1Z ⟨rfl,hb1⟩)
  go_ret3
  exact⟨rfl,hb1⟩
 ·have hrun:=IS _ ([],false) _ _ T
  have hlen:N.length<=10000/\∀x∈N,x.length<=10000:=by
   have h1Z:=NP _ _ _ T;have h2Z:=CD _ s.data.toList 0 (la _);refine⟨Ob h1Z.1 (Ob h2Z hs),fun x j=>?_⟩;obtain⟨b,a⟩:=h1Z.2 x j;exact Ob (G2 _ _ _ (la _) _ a) hs
  have ra:=OP _ _ _ T;have HRZ:=Lib.hid T;have D:V=match Kd N ([],false)with|none=>.form|some (_,true)=>.long|some (f,false)=>.ok (f.map fun p=>(p.1,trimB p.2)) at_:=by
   rw[<-hVZ];unfold Pd;rw[hrun];rcases Kd N ([],false)with _|⟨f,_|_⟩<;>rfl
  have HVZ:=Lib.hid D;obtain⟨hln,hlx⟩:=hlen;have HXZ:=Lib.hid hlx;have HNE:=Lib.hid ra;clear T hVZ hrun D hlx ra
  go_enter Tryz.func100,Tryz.ntmps100
  go_wp2_with(go_at_call 166;refine(RP s _ aa _ HRZ.out).mono ?_;rintro e w1Z ⟨v,rfl,r,hb1⟩;obtain⟨a0,n0,cap0,rfl,hn0,hc0,hr0⟩:=zb5 r;have HN0:=Lib.hid hn0;have HR0:=Lib.hid hr0;clear r hn0 hr0)
  have hbs:=hb1.size
  go_loopw [8,9,10,11,12] (fun v lgZ i _ _ wr=>∃(k:Nat)(F:List ec)(L:Bool),i=.int .i64 k/\k<=n0/\lgZ=.bool L/\wr.ownsRow w1Z.heap.size 67 2 v F.length (Ua F)/\Below w1Z.heap.size w1Z wr/\Hid (Kd (N.take k) ([],false)=some (F,L)))
   (fun _ _ i _ _ _=>n0 - (intOf i).toNat)
  case atStart=>exact⟨0,[],false,rfl,Za _,rfl,Fw (size:=2) w1Z _ 0 (la _) ga ga,(Below.refl _ _).alloc (la _) _,Lib.hid rfl⟩
  case round=>
   obtain⟨k,F,L,rfl,hkZ,rfl,r,u,I⟩:=hrel;have y:=hb1.trans (u.mono hbs);by_cases ea:k<n0
   ·have hkl:k<N.length:=by rw[<-HN0.out];exact ea
    obtain⟨g,o,rfl,hgZ,hrow⟩:=HR0.out.resolve_left aa;obtain⟨p,hpZ⟩:∃p:ByteArray,(⟨N[k].toArray⟩:ByteArray)=p:=⟨_,rfl⟩;have hpl:p.data.toList=N[k]:=by rw[<-hpZ]
    have z:=(u.cell (p:=⟨g,o+k,none⟩) hgZ).trans (hrow k _ (qe hkl));rw[hpZ]at z;have hgwr:=Qf hgZ u.size;have hps:p.size<=10000:=by
     have:=HXZ.out N[k] (Qm _);rw[<-hpl]at this;exact this
    have hpne:p.data.toList≠[]:=by rw[hpl];exact HNE.out _ (Qm _)
    have hpos:0<p.size:=by
     rcases Ep p.size with h|h
     ·simp_all
     ·exact h
    have S:p.size<=maxLen:=by unfold maxLen;omega
    have hLl:L=true\/(L=false/\(998:Int)<p.size)\/(L=false/\¬(998:Int)<p.size):=by
     rcases L with _|_
     ·grind
     ·simp
    have hbadV:ed (F,L) p.data.toList=none->V=.form:=by
     intro h;rw[hpl]at h;rw[HVZ.out,p6 N k _ _ hkl I.out h]
    have HPL:=Lib.hid hpl;have HBV:=Lib.hid hbadV;have P:=Lib.hid hLl;have HKL:=Lib.hid hkl;have HRW:=Lib.hid hrow;clear hpZ hpl hbadV hLl hrow hpne;have a:=BO p hpos;rcases G:p.data.toList.all eg with _|_
    ·have K:=HBV.out (GH G)
     have H:=Lib.hid G;subst K;clear G a;rcases P.out with rfl|⟨rfl,A⟩|⟨rfl,A⟩
     all_goals
      go_wp2_with(go_at_call 167;refine(rt p false H.out _ S).mono ?_;rintro e U ⟨rfl,rfl⟩)
      go_ret3
      exact⟨rfl,y⟩
    ·rcases J:Ia p[0]with _|_
     ·rw[J]at a
      have H:=Lib.hid G;have O:=Lib.hid J;rcases E:ff 58 p.data.toList with _|c
      ·have K:=HBV.out (zT a E)
       have R:∀j,(hjZ:j<p.size)->((p[j].toNat:Int) !=58)=true:=by
        intro j hjZ;have:=bK E j;rw[qe (show j<p.data.toList.length from hjZ)]at this;have h2Z:p[j]≠58:=fun h=>this (by rw[<-h];rfl)
        exact LQ _ h2Z
       have HNC:=Lib.hid R;subst K;clear G J a E R;rcases P.out with rfl|⟨rfl,A⟩|⟨rfl,A⟩
       all_goals
        go_wp2_with(first|(go_at_call 167;refine(rt p true H.out _ S).mono ?_;rintro e U ⟨rfl,rfl⟩)|(go_at_call 168;refine(uu _ false O.out _).mono ?_;rintro e U ⟨rfl,rfl⟩))
        go_loopw [12] (fun j w4Z=>∃d:Nat,j=.int .i64 d/\d<=p.size/\w4Z=wr) (fun j _=>p.size - (intOf j).toNat)
        case atStart=>exact⟨0,rfl,Za _,rfl⟩
        case round=>
         obtain⟨d,rfl,hdZ,rfl⟩:=hrel;by_cases hdl:d<p.size
         ·have hqZ:=HNC.out d hdl
          go_wp2;go_roundw
          case rel=>exact⟨d+1,by go_num,aa,trivial⟩
          case measure=>simp[intOf];omega
         ·obtain rfl:d=p.size:=aa
          go_wp2
          go_ret3
          exact⟨rfl,y⟩
      ·have hcl:=vx E
       rw[show p.data.toList.length=p.size from rfl]at hcl;have R:∀j,(hjZ:j<c)->((p[j].toNat:Int) !=58)=true:=by
        intro j hjZ;have:=aK E j hjZ;rw[qe (show j<p.data.toList.length from Nat.lt_trans hjZ hcl)]at this;have h2Z:p[j]≠58:=fun h=>this (by rw[<-h];rfl)
        exact LQ _ h2Z
       have hcc:((p[c].toNat:Int) !=58)=false:=by
        have:=cK E;rw[qe (show c<p.data.toList.length from hcl)]at this;have h2Z:p[c]=58:=ko this;rw[h2Z];rfl
       have HNC:=Lib.hid R;rcases Q:Ue (p.data.toList.take c)with _|_
       ·have K:=HBV.out (AT a E Q)
        have HNA:=Lib.hid Q;subst K;clear G J a E R Q;rcases P.out with rfl|⟨rfl,A⟩|⟨rfl,A⟩
        all_goals
         go_wp2_with(first|(go_at_call 167;refine(rt p true H.out _ S).mono ?_;rintro e U ⟨rfl,rfl⟩)|(go_at_call 168;refine(uu _ false O.out _).mono ?_;rintro e U ⟨rfl,rfl⟩))
         go_loopw [12] (fun j w4Z=>∃d:Nat,j=.int .i64 d/\d<=c/\w4Z=wr) (fun j _=>p.size - (intOf j).toNat)
         case atStart=>exact⟨0,rfl,Za _,rfl⟩
         case round=>
          obtain⟨d,rfl,hdZ,rfl⟩:=hrel;by_cases hdl:d<c
          ·have hdp:d<p.size:=aa
           have hqZ:=HNC.out d hdl;go_wp2;go_roundw
           case rel=>exact⟨d+1,by go_num,aa,trivial⟩
           case measure=>simp[intOf];omega
          ·obtain rfl:d=c:=aa
           have hnl:((d:Int)==(p.size:Int))=false:=by rw[beq_eq_false_iff_ne];omega
           go_wp2_with(go_at_call 53;refine(HQ (p.extract 0 d) false (by rw[Lib.extract_data,Af,qo];exact HNA.out) _ (by rw[Kj];unfold maxLen;omega)).mono ?_;rintro e U ⟨rfl,rfl⟩)
           go_ret3
           exact⟨rfl,y⟩
       ·obtain⟨i0Z,bl,hz0,hz1,hz2⟩:=info_parts P1
        have C:=yT (st:=(F,L)) G a E Q;have B:Kd (N.take (k+1)) ([],false)=some (F++[(p.data.toList.take c,p.data.toList.drop (c+1))],L||decide (998<p.data.toList.length)):=by rw[OF N k _ _ HKL.out I.out,<-HPL.out];exact C
        have hFl:F.length<=k:=by
         have:=vv _ _ _ I.out;rw[Ac]at this;simp only[ya,sc]at this;omega
        have HNX:=Lib.hid B;have HNA:=Lib.hid Q;clear G J a E R Q C B;rcases P.out with rfl|⟨rfl,A⟩|⟨rfl,A⟩
        all_goals
         go_wp2_with(first|(go_at_call 167;refine(rt p true H.out _ S).mono ?_;rintro e U ⟨rfl,rfl⟩)|(go_at_call 168;refine(uu _ false O.out _).mono ?_;rintro e U ⟨rfl,rfl⟩))
         go_loopw [12] (fun j w4Z=>∃d:Nat,j=.int .i64 d/\d<=c/\w4Z=wr) (fun j _=>p.size - (intOf j).toNat)
         case atStart=>exact⟨0,rfl,Za _,rfl⟩
         case round=>
          obtain⟨d,rfl,hdZ,rfl⟩:=hrel;by_cases hdl:d<c
          ·have hdp:d<p.size:=aa
           have hqZ:=HNC.out d hdl;go_wp2;go_roundw
           case rel=>exact⟨d+1,by go_num,aa,trivial⟩
           case measure=>simp[intOf];omega
          ·obtain rfl:d=c:=aa
           have hnl:((d:Int)==(p.size:Int))=false:=by rw[beq_eq_false_iff_ne];omega
           go_wp2_with(go_at_call 53;refine(HQ (p.extract 0 d) true (by rw[Lib.extract_data,Af,qo];exact HNA.out) _ (by rw[Kj];unfold maxLen;omega)).mono ?_;rintro e U ⟨rfl,rfl⟩)
           have hw1:IntKind.i64.wrap ((d:Int)+1)=(d:Int)+1:=IntWalk.i64_in _ aa;have hw2:(0:Int)<=(d:Int)+1:=aa
           have hw3:((d:Int)+1).toNat=d+1:=aa
           have hw4:(k:Int)<(n0:Int):=aa
           have hw5:(0:Int)<=(d:Int):=aa
           have hw6:(d:Int)<=(p.size:Int):=aa
           have hw7:(d:Int)+1<=(p.size:Int):=aa
           have hw8:(d:Int).toNat=d:=aa
           have hfar:(u8:Value).ownBlock≠some g:=by
            intro e;have:=(r.lt g e).1;omega
           obtain⟨X,hXZ⟩:∃X:ByteArray,p.extract 0 d=X:=⟨_,rfl⟩;obtain⟨Y,hYZ⟩:∃Y:ByteArray,p.extract (d+1) p.size=Y:=⟨_,rfl⟩;have hwb:=u.size
           go_region_held3 (fun w'=>w'.cell? ⟨g,o+k,none⟩=some (.string p)) (first|go_keep|exact z|(rw[M.cell_far _ Sa (yi hfar)];omega))
            ((refine step_append_lies _ ja _ _ _ ja w1Z.heap.size 67 i0Z _ 2 32 Tryz.underlying61 bl hz0 hz1 hz2 rfl aa u8 F.length (Ua F) ja ((r.alloc _).drew)
               ⟨wr.heap.size,0,none⟩ 1 1 [.string X,.string Y] ja ja (World.news_of_block (cs:=#[.string X,.string Y]) (t:=67) (fr:=(0,0)) (heap_alloc_new wr _)) (by simp[Value.oneCell'])
               aa (by unfold maxLen;omega) aa Sa (wr.heap.size+1) da ?_;intro ggZ cap w5Z hown5 M hat hlt5))
           have Z:=Lib.hid (J_ hown5 (show X=⟨(p.data.toList.take d).toArray⟩ by rw[<-hXZ];exact g0 _ _) (show Y=⟨(p.data.toList.drop (d+1)).toArray⟩ by rw[<-hYZ];exact d0 _ _));have W:=Lib.hid (Below.grown (((u.alloc hwb _).drew)) M Sa (fun k h=>(r.lt k h).1));clear hown5 M hXZ hYZ;go_wp2;go_roundw
           case rel=>exact⟨k+1,F++[(p.data.toList.take d,p.data.toList.drop (d+1))],_,by go_num,aa,YP _ p _ ie,by rw[Ja];exact Z.out,W.out,HNX⟩
           case measure=>simp[intOf];omega
     ·rw[J]at a
      have H:=Lib.hid G;have O:=Lib.hid J;have HHZ:=Lib.hid a;clear G J a;rcases Ep k with h0Z|hk0
      ·have hF:F=[]:=by
        have:=I.out;rw[h0Z]at this;simp[Kd]at this;exact this.1
       have K:=HBV.out (xT HHZ.out hF);subst K;have hk0:((k:Int)==0)=true:=by rw[h0Z];rfl
       clear hF h0Z;rcases P.out with rfl|⟨rfl,A⟩|⟨rfl,A⟩
       all_goals
        go_wp2_with(first|(go_at_call 167;refine(rt p true H.out _ S).mono ?_;rintro e U ⟨rfl,rfl⟩)|(go_at_call 168;refine(uu _ true O.out _).mono ?_;rintro e U ⟨rfl,rfl⟩))
        go_ret3
        exact⟨rfl,y⟩
      ·have M:F≠[]:=QP _ _ _ I.out (by grind [List.length_nil])
       obtain⟨F0,q,rfl⟩:∃F0 q,F=F0++[q]:=⟨F.dropLast,F.getLast M,(List.dropLast_concat_getLast M).symm⟩;have hFl:(F0++[q]).length<=k:=by
        have:=vv _ _ _ I.out;rw[Ac]at this;simp only[ya,sc]at this;omega
       have hqv:q.2.length<=10000* k:=by
        have:=hz _ _ _ 0 10000 I.out da (fun l hlZ=>HXZ.out l (zw hlZ)) q da;rw[Ac,sc]at this;exact Ob this (Jt (la _) (Nat.min_le_left _ _))
       obtain⟨m,hm0⟩:∃m,F0.length=m:=⟨_,rfl⟩;have E:(F0++[q]).length=m+1:=by rw[Ja,hm0];rfl
       rw[E,An]at r;rw[E]at hFl;obtain⟨gf,cap,rfl,hg0,hglt,hcap⟩:∃gf cap,u8=.slice (some ⟨gf,0,none⟩) (m+1) cap/\w1Z.heap.size<=gf/\gf<wr.heap.size/\m+1<=cap:=by
        grind [Xn]
       have hcf:=r.cellAt (m* 2+1) aa;rw[He (by rw[bk];omega),bk,hm0,show m* 2+1 - m* 2=1 by omega]at hcf;have Q:wr.cell? ⟨gf,m* 2+1,none⟩=some (.string ⟨q.2.toArray⟩):=hcf;have hff:=r.frozenAt (m* 2+1);have hqs:(ByteArray.mk q.2.toArray).size<=200000000:=by show q.2.length<=_;omega
       have C:=wT (st:=(F0++[q],L)) H.out HHZ.out rfl;have B:Kd (N.take (k+1)) ([],false)=some (F0++[(q.1,q.2++p.data.toList)],L||decide (998<p.data.toList.length)):=by rw[OF N k _ _ HKL.out I.out,<-HPL.out];exact C
       have HNX:=Lib.hid B;have HOWN:=Lib.hid r;have HMZ:=Lib.hid hm0;have hk0':((k:Int)==0)=false:=by rw[beq_eq_false_iff_ne];omega
       have hml:m<=10000:=aa
       clear M E hcf r C B hm0 hk0;have hclq:=fun d os=>cell_regrown z d os
       have hcgq:=fun d os=>cell_regrown Q d os
       have hmi:(m:Int)<(m:Int)+1:=aa
       rcases P.out with rfl|⟨rfl,A⟩|⟨rfl,A⟩
       all_goals
        go_wp2_with(first|(go_at_call 167;refine(rt p true H.out _ S).mono ?_;rintro e U ⟨rfl,rfl⟩)|(go_at_call 168;refine(uu _ true O.out _).mono ?_;rintro e U ⟨rfl,rfl⟩))
        (refine rS 12 ca ca ?_;simp only[Ft,List.take_zero];(repeat (first|go_big_quiet_skip|(go_big_quiet_want;go_big_quiet_op;first|go_big_quiet_on|(apply Exists.intro;refine⟨fun _=>?_,?_⟩;(· (fail));go_big_quiet_on))));refine wpQuiet_nil ?_;intro wqZ R;simp only[ir,Af])
        have hcf5:=(R.cell (p:=⟨gf,m* 2+1,none⟩) hglt).trans Q;have hff5:=(R.frozen (p:=⟨gf,m* 2+1,none⟩) hglt).trans hff;have Z:=Lib.hid (H_ (p:=p) (Sn HOWN.out R) HMZ.out);have W:=Lib.hid ((u.trans (R.mono u.size)).setCell (p:=⟨gf,m* 2+1,none⟩) hg0 (.string (⟨q.2.toArray⟩++p)));clear hclq hcgq z Q hff;go_wp2;go_roundw
        case rel=>exact⟨k+1,_,_,by go_num,aa,YP _ p _ (by first|rfl|simp[*]),Z.out,W.out,HNX⟩
        case measure=>simp[intOf];omega
   ·obtain rfl:k=n0:=aa
    have B:Kd N ([],false)=some (F,L):=by
     have:=I.out;rw[HN0.out,Eh]at this;exact this
    have hFl:F.length<=10000:=by
     have:=vv _ _ _ B;simp only[ya,sc]at this;omega
    have C:∀q∈F,q.2.length<=100000000:=by
     intro q hqZ;have:=hz _ _ _ 0 10000 B da (fun l hlZ=>HXZ.out l hlZ) q hqZ;rw[sc]at this;exact Ob this (Jt (la _) hln)
    have D:=HVZ.out;rw[B]at D;have O:=Lib.hid C;clear B C;rcases L with _|_
    ·replace D:=D
     subst D;obtain⟨n,Q⟩:∃n,F.length=n:=⟨_,rfl⟩;rw[Q]at r hFl;have K:=Lib.hid Q;clear Q;obtain⟨M,A,rfl,E⟩:∃M A,u8=.slice M n A/\(n=0\/∃g,M=some ⟨g,0,none⟩/\w1Z.heap.size<=g/\g<wr.heap.size/\n<=A):=by
      rcases Xn r with⟨h,h0Z⟩|⟨g,cap,h,h1Z,h2Z,a⟩
      ·exact⟨none,0,by rw[h,h0Z],.inl h0Z⟩
      ·exact⟨_,_,h,.inr ⟨g,rfl,h1Z,h2Z,a⟩⟩
     have HAZ:=Lib.hid E;clear E;go_wp2
     go_loopw [13] (fun i w4Z=>∃j:Nat,i=.int .i64 j/\j<=n/\Hid (w4Z.ownsRow w1Z.heap.size 67 2 (.slice M n A) n (Ua (Gm F j)))/\Hid (Below w1Z.heap.size w1Z w4Z))
      (fun i _=>n - (intOf i).toNat)
     case atStart=>exact⟨0,rfl,Za _,Lib.hid (by simpa[Gm]using r),Lib.hid u⟩
     case round=>
      rename_i i4Z w4Z;clear r u y;obtain⟨j,rfl,hjZ,a,S⟩:=hrel;by_cases G:j<n
      ·obtain⟨g,rfl,hg0,_,hcap⟩:=HAZ.out.resolve_left aa
       have P:j<F.length:=by rw[K.out];exact G
       obtain⟨q,hqZ⟩:∃q,F[j]=q:=⟨_,rfl⟩;obtain⟨R,H,J⟩:=zdv F j P q hqZ;have z:=a.out.cellAt (j* 2+1) aa;rw[H]at z;have U:=a.out.frozenAt (j* 2+1);have hqs:(ByteArray.mk q.2.toArray).size<=1000000000:=by
        have:=O.out q (by rw[<-hqZ];exact Qm _);show q.2.length<=_;omega
       have hji:(j:Int)<(n:Int):=aa
       have T:=(a.out.stored (j* 2+1) (.string ⟨(trimB q.2).toArray⟩)).1;rw[J]at T;have Z:=Lib.hid T;have W:=Lib.hid (S.out.setCell (p:=⟨g,j* 2+1,none⟩) hg0 (.string ⟨(trimB q.2).toArray⟩));clear R H J T
       go_wp2_with(go_at_call 169;refine(zdu _ _ hqs).mono ?_;rintro e w5Z ⟨rfl,rfl⟩)
       go_roundw
       case rel=>exact⟨j+1,by go_num,aa,Z,W⟩
       case measure=>simp[intOf];omega
      ·obtain rfl:j=n:=aa
       go_wp2
       go_ret3
       refine⟨_,rfl,?_,hb1.trans (S.out.mono hbs)⟩;have h:=Z7 a.out hbs;unfold Gm at h;rw[Rf (by rw[K.out];exact la _),Ai (by rw[K.out];exact la _),Ye]at h;rw[Hj,K.out];exact h
    ·replace D:=D
     subst D;go_wp2
     go_ret3
     exact⟨rfl,y⟩
end Go.Proofs.YtglaihdcndcmkaaGreatDoor
end
section
set_option synthInstance.maxSize 4000
namespace wa
def ce(p:UInt8->Bool)(l:List UInt8)(k:Nat):Nat:=k+((l.drop k).takeWhile p).length
def DN{p}{l}{k}(h)(a:p l[k]=true):ce p l k=ce p l (k+1):=by
 grind [ce,List.drop_eq_getElem_cons,List.takeWhile_cons]
def EN{p}{l}{k}(h)(a:p l[k]=false):ce p l k=k:=by
 grind [ce,List.drop_eq_getElem_cons,List.takeWhile_cons]
def CN{p}{l}{k}(h:l.length<=k):ce p l k=k:=by
 unfold ce;rw[Ai h];rfl
def Zr(p)(l)(k):k<=ce p l k:=Nat.le_add_right _ _
def ap(p)(l)(k)(h:k<=l.length):ce p l k<=l.length:=by
 grind [ce,tw]
theorem PH(p):∀l:List UInt8,l.take (l.takeWhile p).length=l.takeWhile p/\l.drop (l.takeWhile p).length=l.dropWhile p
 |[]=>⟨rfl,rfl⟩
 |c::l=>by
  rw[NA,MA];rcases p c with _|_
  ·simp
  ·have:=PH p l
   grind
def Zo(p)(l:List UInt8)(k):l.drop (ce p l k)=(l.drop k).dropWhile p:=by
 grind [ce,List.drop_drop,PH]
def ZC(p)(s:ByteArray)(k):(s.extract k (ce p s.data.toList k)).data.toList=(s.data.toList.drop k).takeWhile p:=by
 grind [Lib.extract_data,ce,PH]
def IJ(l)(c)(k):Eg l [c] k=(Yd c (l.drop k)).isSome:=by
 unfold Eg;rcases b:l.drop k with _|⟨a,t⟩<;>grind [Yd]
def aT{l t:List UInt8}{c}{k}(h:Yd c (l.drop k)=some t):t=l.drop (k+1)/\k+1<=l.length:=by
 grind [List.drop_eq_getElem_cons,Yd.eq_1,Yd.eq_2,List.drop_of_length_le]
def W9(l)(k):tg l k=ri ((l.drop k).length+1) (l.drop k):=by
 grind [tg]
def one_byte(s:ByteArray)(j)(h):(s.extract j (j+1)).data.toList=[s[j]]:=by
 rw[Lib.extract_data,ld (show j<s.data.toList.length from h),show j+1 - j=1 by omega];rfl
def gJ(a b:ByteArray):(a++b).data.toList=a.data.toList++b.data.toList:=da
end wa
namespace Go.Proofs.YtglaihdcndcmkaaGreatDoor
def D9(c)(w):Calls Tryz.prog 236 #[.int .u8 c.toNat] w (Rb (.bool (Fb c)) w):=by
 go_enter Tryz.func236,Tryz.ntmps236
 go_wp2
 all_goals (go_ret;refine⟨r1 (vb ?_),rfl⟩)
 all_goals (go_light;revert c;decide+kernel)
def OR(c)(b)(h:Fb c=b)(w):Calls Tryz.prog 236 #[.int .u8 c.toNat] w (Rb (.bool b) w):=h▸D9 c w
def RJ(c)(b)(h:Ia c=b)(w):Calls Tryz.prog 168 #[.int .u8 c.toNat] w (Rb (.bool b) w):=h▸SJ c w
theorem yV(s)(k:Nat)(w:World)(hs:s.size<=1000000)(h:k<=s.size)(E:Nat)(a:ce Ia s.data.toList k=E):Calls Tryz.prog 170 #[.string s,.int .i64 k] w (Rb (.int .i64 E) w):=by
 have g:=Lib.hid a;clear a
 go_enter Tryz.func170,Tryz.ntmps170
 go_wp2
 go_loop [1] (fun i=>∃j:Nat,i=.int .i64 j/\j<=s.size/\Hid (ce Ia s.data.toList j=E)) (fun i=>s.size - (intOf i).toNat)
 case atStart=>grind
 case round=>
  clear h g;obtain⟨j,rfl,n,a⟩:=hrel;by_cases ea:j<s.size
  ·rcases b:Ia s[j]with _|_
   ·have c:=Lib.hid (show(j:Int)=E by rw[<-a.out,EN (show j<s.data.toList.length from ea) b])
    have d:=Lib.hid b;clear b
    go_wp2_with(go_at_call 168;refine(RJ _ false d.out _).mono ?_;rintro e l ⟨rfl,rfl⟩)
    go_ret;exact⟨r1 (vi c.out),rfl⟩
   ·have c:=Lib.hid (show ce Ia s.data.toList (j+1)=E by rw[<-a.out,<-DN (show j<s.data.toList.length from ea) b])
    have d:=Lib.hid b;clear b
    go_wp2_with(go_at_call 168;refine(RJ _ true d.out _).mono ?_;rintro e l ⟨rfl,rfl⟩)
    grind [intOf]
  ·have c:=Lib.hid (show(j:Int)=E by rw[<-a.out,CN (show s.data.toList.length<=j by simp_all)])
   have b:¬(j:Int)<(s.size:Int):=aa
   go_wp2;go_ret;exact⟨r1 (vi c.out),rfl⟩
theorem O_(s)(k:Nat)(w:World)(hs:s.size<=1000000)(h:k<=s.size)(E:Nat)(a:ce Fb s.data.toList k=E):Calls Tryz.prog 171 #[.string s,.int .i64 k] w (Rb (.int .i64 E) w):=by
 have g:=Lib.hid a;clear a
 go_enter Tryz.func171,Tryz.ntmps171
 go_wp2
 go_loop [1] (fun i=>∃j:Nat,i=.int .i64 j/\j<=s.size/\Hid (ce Fb s.data.toList j=E)) (fun i=>s.size - (intOf i).toNat)
 case atStart=>grind
 case round=>
  clear h g;obtain⟨j,rfl,n,a⟩:=hrel;by_cases ea:j<s.size
  ·rcases b:Fb s[j]with _|_
   ·have c:=Lib.hid (show(j:Int)=E by rw[<-a.out,EN (show j<s.data.toList.length from ea) b])
    have d:=Lib.hid b;clear b
    go_wp2_with(go_at_call 236;refine(OR _ false d.out _).mono ?_;rintro e l ⟨rfl,rfl⟩)
    go_ret;exact⟨r1 (vi c.out),rfl⟩
   ·have c:=Lib.hid (show ce Fb s.data.toList (j+1)=E by rw[<-a.out,<-DN (show j<s.data.toList.length from ea) b])
    have d:=Lib.hid b;clear b
    go_wp2_with(go_at_call 236;refine(OR _ true d.out _).mono ?_;rintro e l ⟨rfl,rfl⟩)
    grind [intOf]
  ·have c:=Lib.hid (show(j:Int)=E by rw[<-a.out,CN (show s.data.toList.length<=j by simp_all)])
   have b:¬(j:Int)<(s.size:Int):=aa
   go_wp2;go_ret;exact⟨r1 (vi c.out),rfl⟩
def ZR(s:ByteArray)(w:World):Option (List UInt8×List UInt8)->Ending->World->Prop
 |none,e,w'=>e=.returned (.tuple #[.string ⟨#[]⟩,.int .i64 (-1)])/\w=w'
 |some (v,r),e,w'=>∃j:Nat,e=.returned (.tuple #[.string ⟨v.toArray⟩,.int .i64 j])/\j<=s.size/\Hid (s.data.toList.drop j=r)/\w=w'
set_option maxRecDepth 100000 in
theorem Z9(s)(k)(w)(hs:s.size<=1000000)(u:k<=s.size)(Q)(z:tg s.data.toList k=Q):Calls Tryz.prog 172 #[.string s,.int .i64 k] w (ZR s w Q):=by
 have y:=Lib.hid z;clear z
 go_enter Tryz.func172,Tryz.ntmps172
 go_wp2
 go_loopw [1,6,7] (fun i o _ wr=>∃(k:Nat)(O:ByteArray),i=.int .i64 k/\o=.string O/\k<=s.size/\O.size<=k/\wr=w/\Hid (Q=(tg s.data.toList k).map fun p=>(O.data.toList++p.1,p.2)))
  (fun i _ _ _=>s.size - (intOf i).toNat)
 case atStart=>exact⟨k,⟨#[]⟩,rfl,rfl,u,Za _,rfl,Lib.hid (by rw[y.out];simp)⟩
 case round=>
  clear u y;obtain⟨k,O,rfl,rfl,u,H,rfl,q⟩:=hrel;by_cases ea:k<s.size
  ·have v:(k:Int)<(s.size:Int):=aa
   have a:=q.out;rw[XR _ k ea]at a;have t:s.data.toList[k]=s[k]:=rfl;simp only[t]at a;by_cases c:s[k]=34
   ·rw[if_pos c]at a
    have F:=tJ _ c;have e:=Lib.hid a;clear a c;go_wp2
    go_ret2
    rw[e.out];refine⟨k+1,?_,ea,Lib.hid rfl,rfl⟩;simp
   ·have F:=vJ _ c
    rw[if_neg c]at a;by_cases b:s[k]<32\/126<s[k]
    ·rw[if_pos b]at a
     have e:=Lib.hid a;clear a c;rcases b with h|h
     ·have C:=rJ _ h
      clear h;go_wp2
      go_ret2
      rw[e.out];exact⟨rfl,rfl⟩
     ·have C:=pJ _ h
      have G:¬(s[k].toNat:Int)<32:=aa
      clear h;go_wp2
      go_ret2
      rw[e.out];exact⟨rfl,rfl⟩
    ·rw[if_neg b]at a
     have C:=sJ _ (fun h=>b (.inl h));have G:=qJ _ (fun h=>b (.inr h));by_cases d:s[k]=92
     ·rw[if_pos d]at a
      have D:=yJ _ d;have E:IntKind.i64.wrap ((k:Int)+1)=(k:Int)+1:=IntWalk.i64_in _ aa;by_cases l:k+1<s.size
      ·rw[qe (show k+1<s.data.toList.length from l)]at a
       have j:s.data.toList[k+1]=s[k+1]:=rfl;simp only[j]at a;have A:(k:Int)+1<(s.size:Int):=aa
       have n:((k:Int)+1==(s.size:Int))=false:=by rw[beq_eq_false_iff_ne];omega
       by_cases g:s[k+1]=34\/s[k+1]=92
       ·rw[if_pos g]at a
        have e:=Lib.hid (show Q=(tg s.data.toList (k+2)).map fun p=>((O++s.extract (k+1) (k+1+1)).data.toList++p.1,p.2) by rw[a,gJ,one_byte s (k+1) l];simp[Function.comp_def]);have r:(O++s.extract (k+1) (k+1+1)).size<=k+2:=by rw[Tm,Kj];omega
        clear a c b d q;rcases g with h|h
        ·have B:=wJ _ h
         clear h;go_wp2
         grind [intOf]
        ·have B:=BJ _ h
         have x:((s[k+1].toNat:Int) !=34)=true:=by rw[h];rfl
         clear h;go_wp2
         grind [intOf]
       ·rw[if_neg g]at a
        have e:=Lib.hid a;have B:=uJ _ (fun h=>g (.inl h));have x:=zJ _ (fun h=>g (.inr h));clear a c b d g;go_wp2
        go_ret2
        rw[e.out];exact⟨rfl,rfl⟩
      ·rw[Ie (show s.data.toList.length<=k+1 by simp_all)]at a
       have e:=Lib.hid a;have n:((k:Int)+1==(s.size:Int))=true:=by rw[beq_iff_eq];omega
       clear a c b d;go_wp2
       go_ret2
       rw[e.out];exact⟨rfl,rfl⟩
     ·rw[if_neg d]at a
      have D:=AJ _ d;have e:=Lib.hid (show Q=(tg s.data.toList (k+1)).map fun p=>((O++s.extract k (k+1)).data.toList++p.1,p.2) by rw[a,gJ,one_byte s k ea];simp[Function.comp_def]);have r:(O++s.extract k (k+1)).size<=k+1:=by rw[Tm,Kj];omega
      clear a c b d q;go_wp2
      grind [intOf]
  ·have v:¬(k:Int)<(s.size:Int):=aa
   have e:=Lib.hid (show Q=none by rw[q.out,YR _ _ (show s.data.toList.length<=k by simp_all)];rfl);go_wp2
   go_ret2
   rw[e.out];exact⟨rfl,rfl⟩
end Go.Proofs.YtglaihdcndcmkaaGreatDoor
end
section
set_option synthInstance.maxSize 4000
namespace wa
def eJ(k)(F:List ec):F.any (fun x=>xa k==xa x.1)=F.any (fun x=>xa x.1==xa k):=by
 grind
def zar{l:List UInt8}{k}(c)(h):Yd c (l.drop k)=if l[k]=c then some (l.drop (k+1))else none:=by
 rw[ld h,Yd]
def cV:∀c:UInt8,¬c=59->((c.toNat:Int) !=59)=true:=lc
def dV:∀c:UInt8,c=59->((c.toNat:Int) !=59)=false:=da
end wa
namespace Go.Proofs.YtglaihdcndcmkaaGreatDoor
def Qk(s)(i:Int)(k E)(a:ce Ia s.data.toList k=E)(w)(b:i=k)(hs:s.size<=1000000)(c:k<=s.size):Calls Tryz.prog 170 #[.string s,.int .i64 i] w (Rb (.int .i64 E) w):=by
 grind [yV]
def Bm(s)(i:Int)(k E:Nat)(a:ce Fb s.data.toList k=E)(w:World)(b:i=k)(hs:s.size<=1000000)(c:k<=s.size):Calls Tryz.prog 171 #[.string s,.int .i64 i] w (Rb (.int .i64 E) w):=by
 grind [O_]
def aS(s)(i:Int)(k)(Q)(a:tg s.data.toList k=Q)(w)(b:i=k)(hs:s.size<=1000000)(c:k<=s.size):Calls Tryz.prog 172 #[.string s,.int .i64 i] w (ZR s w Q):=by
 grind [Z9]
def gn(s x)(i:Int)(k)(b)(h:Eg s.data.toList x.data.toList k=b)(w)(a:i=k)(hs:s.size<=1000000)(d:x.size<=1000)(c:k<=1000000):Calls Tryz.prog 105 #[.string s,.string x,.int .i64 i] w (Rb (.bool b) w):=by
 grind [bC]
def Ms(s)(b)(h:Ue s.data.toList=b)(w)(hs:s.size<=maxLen):Calls Tryz.prog 53 #[.string s] w (Rb (.bool b) w):=h▸FQ s w hs
set_option maxRecDepth 100000 in
def TG(s)(w)(hs:s.size<=10000)(V)(hVZ:bg s.data.toList=V):Calls Tryz.prog 102 #[.string s] w (GR V w):=by
 obtain⟨l,hlZ⟩:∃l,s.data.toList=l:=⟨_,rfl⟩;have hll:l.length=s.size:=by rw[<-hlZ];rfl
 have c:s.size<=1000000:=aa
 obtain⟨a0,ha0⟩:∃a0,ce Ia l 0=a0:=⟨_,rfl⟩;obtain⟨t0,ht0⟩:∃t0,ce Fb l a0=t0:=⟨_,rfl⟩;obtain⟨k0Z,hk0⟩:∃k0Z,ce Ia l t0=k0Z:=⟨_,rfl⟩;have hd0:l.dropWhile Ia=l.drop a0:=by rw[<-ha0,Zo,Af]
 have hd1:(l.drop a0).dropWhile Fb=l.drop t0:=by rw[<-ht0,Zo]
 have hd2:(l.drop t0).dropWhile Ia=l.drop k0Z:=by rw[<-hk0,Zo]
 have la0:a0<=l.length:=by rw[<-ha0];exact ap _ _ _ (Za _)
 have lt0:t0<=l.length:=by rw[<-ht0];exact ap _ _ _ la0
 have lk0:k0Z<=l.length:=by rw[<-hk0];exact ap _ _ _ lt0
 have gt0:a0<=t0:=by rw[<-ht0];exact Zr _ _ _
 obtain⟨m,hmZ⟩:∃m,(l.drop a0).takeWhile Fb=m:=⟨_,rfl⟩;obtain⟨M,hMZ⟩:∃M,s.extract a0 t0=M:=⟨_,rfl⟩;have hMd:M.data.toList=m:=by rw[<-hMZ,<-ht0,<-hlZ,ZC,hlZ,hmZ]
 have hMm:=(congrArg (fun x:List UInt8=>(⟨x.toArray⟩:ByteArray)) hMd.symm).trans (pz M);unfold bg at hVZ;rw[hlZ,hll,hd0,hmZ,hd1]at hVZ;rw[<-hlZ]at ha0 ht0 hk0;rw[hll]at la0 lt0 lk0;have HA0:=Lib.hid ha0;have HT0:=Lib.hid ht0;have HK0:=Lib.hid hk0;have HMM:=Lib.hid hMm;have HD2:=Lib.hid hd2;have i1Z:(a0:Int)<=(t0:Int):=aa
 have i2Z:(t0:Int)<=(s.size:Int):=aa
 by_cases hm0:m=[]
 ·have hem:=Yo m M hMm true ia
  have N:V=.form:=by
   rw[<-hVZ];rcases eh (s.size+1) (l.drop t0) [] false with _|⟨o,Z⟩
   ·rfl
   ·grind
  subst N;clear hVZ hlZ hll ha0 ht0 hk0 hd0 hd1 hd2 hmZ hMd hMm hm0
  go_enter Tryz.func102,Tryz.ntmps102
  go_wp2_with(first|(go_at_call 170;refine(Qk s 0 0 a0 HA0.out _ ja c (Za _)).mono ?_;rintro e B ⟨rfl,rfl⟩;clear HA0)|(go_at_call 171;refine(Bm s _ a0 t0 HT0.out _ ja c la0).mono ?_;rintro e B ⟨rfl,rfl⟩))
  go_ret3
  exact⟨rfl,Below.refl _ _⟩
 ·have hem:=Yo m M hMm false ia
  have hV':V=match eh (s.size+1) (l.drop t0) [] false with|none=>mu.form|some (out,Z)=>if Z then .zh else .ok m out:=by
   rw[<-hVZ];rcases eh (s.size+1) (l.drop t0) [] false with _|⟨o,Z⟩
   ·rfl
   ·grind
  have HVZ:=Lib.hid hV';have HLZ:=Lib.hid hlZ;have D:=Lib.hid hll;clear hVZ hV' hlZ hll ha0 ht0 hk0 hd0 hd1 hd2 hmZ hMd hMm hm0
  go_enter Tryz.func102,Tryz.ntmps102
  go_wp2_with(first|(go_at_call 170;refine(Qk s 0 0 a0 HA0.out _ ja c (Za _)).mono ?_;rintro e B ⟨rfl,rfl⟩;clear HA0)|(go_at_call 171;refine(Bm s _ a0 t0 HT0.out _ ja c la0).mono ?_;rintro e B ⟨rfl,rfl⟩)|(go_at_call 170;refine(Qk s _ t0 k0Z HK0.out _ ja c lt0).mono ?_;rintro e B ⟨rfl,rfl⟩))
  go_loopw [5,6,8,9,10,11,12] (fun at_ _ out Z _ _ _ wr=>∃(n k:Nat)(r:List UInt8)(F:List ec)(t:Bool),at_=.int .i64 k/\Z=.bool t/\k<=s.size/\r.length<n/\r.length+F.length<=s.size/\Hid (l.drop k=r.dropWhile Ia)/\Hid (∀p∈F,p.1.length<=1000000)/\
   Hid (V=match eh n r F t with|none=>mu.form|some (out,Z)=>if Z then .zh else .ok m out)/\Hid (wr.ownsRow w.heap.size 180 2 out F.length (Ua F))/\Hid (Below w.heap.size w wr))
   (fun at_ _ _ _ _ _ _ _=>s.size - (intOf at_).toNat)
  case atStart=>exact⟨s.size+1,k0Z,l.drop t0,[],false,rfl,rfl,lk0,by grind [Hid.out],by grind [Hid.out],Lib.hid HD2.out.symm,Lib.hid da,HVZ,Lib.hid (Fw (size:=2) w _ 0 (la _) ga ga),Lib.hid ((Below.refl _ _).alloc (la _) _)⟩
  case round=>
   clear HT0 HK0 HD2 HVZ;obtain⟨n,k,r,F,Z,rfl,rfl,hkZ,hrn,hrF,hqZ,hFs,hVV,hown,y⟩:=hrel;obtain⟨n,rfl⟩:∃n'Z,n=n'Z+1:=⟨n - 1,aa⟩;have hqr:(l.drop k).length<=r.length:=by rw[hqZ.out];exact gi Ia r
   rw[Ya,D.out]at hqr;by_cases ea:k<s.size
   ·have hki:(k:Int)<(s.size:Int):=aa
    have hkl:k<l.length:=by rw[D.out];exact ea
    have hgs:l[k]=s[k]:=by
     have:∀(a:List UInt8)(h:s.data.toList=a)(d:k<a.length),a[k]=s[k]:=by intro a h d;subst h;rfl
     exact this l HLZ.out hkl
    have ra:¬r.dropWhile Ia=[]:=by rw[<-hqZ.out,ld hkl];exact List.cons_ne_nil _ _
    have hsg:=zar 59 hkl;rw[hgs]at hsg;by_cases h59:s[k]=59
    ·rw[if_pos h59]at hsg
     have hxZ:=dV _ h59;obtain⟨L,ha1⟩:∃L,ce Ia l (k+1)=L:=⟨_,rfl⟩;obtain⟨d,htq⟩:∃d,ce Fb l L=d:=⟨_,rfl⟩;have la1:L<=l.length:=by rw[<-ha1];exact ap _ _ _ aa
     have lto:d<=l.length:=by rw[<-htq];exact ap _ _ _ la1
     have gto:L<=d:=by rw[<-htq];exact Zr _ _ _
     have ga1:k+1<=L:=by rw[<-ha1];exact Zr _ _ _
     have hd1:(l.drop (k+1)).dropWhile Ia=l.drop L:=by rw[<-ha1,Zo]
     have hd2:(l.drop L).dropWhile Fb=l.drop d:=by rw[<-htq,Zo]
     obtain⟨S,hp1⟩:∃S,(l.drop L).takeWhile Fb=S:=⟨_,rfl⟩;obtain⟨K,hKZ⟩:∃K,s.extract L d=K:=⟨_,rfl⟩;have hKd:K.data.toList=S:=by
      have:=ZC Fb s L;rw[HLZ.out,htq,hKZ,hp1]at this;exact this
     have W:=(congrArg (fun x:List UInt8=>(⟨x.toArray⟩:ByteArray)) hKd.symm).trans (pz K);have hKs:K.size<=10000:=by rw[<-hKZ,Kj];omega
     have hKm:K.size<=maxLen:=by unfold maxLen;omega
     have a:vk (l.drop (k+1))=if Ue S=true then(match Yd 61 (l.drop d)with
      |none=>none
      |some l3Z=>match Yd 34 l3Z with
       |some l4Z=>(ri (l4Z.length+1) l4Z).map fun p=>((S,p.1),p.2)
       |none=>if l3Z.takeWhile Fb=[]then none else some ((S,l3Z.takeWhile Fb),l3Z.dropWhile Fb))else none:=by
      unfold vk;rw[hd1,hp1,hd2];rfl
     rw[D.out]at la1 lto;rw[<-HLZ.out]at ha1 htq;have I:=Lib.hid ha1;have J:=Lib.hid htq;have HKP:=Lib.hid W;have j1Z:(L:Int)<=(d:Int):=aa
     have j2Z:(d:Int)<=(s.size:Int):=aa
     have hsg2:Yd 59 (r.dropWhile Ia)=some (l.drop (k+1)):=by rw[<-hqZ.out];exact hsg
     have HSG:=Lib.hid hsg2;have hform:vk (l.drop (k+1))=none->V=.form:=by
      intro h;have:=hVV.out;rw[iQ n r _ F Z ra hsg2 h]at this;exact this
     have U:=Lib.hid hform;have HNE:=Lib.hid ra;clear hsg hsg2 hform ra ha1 htq hd1 hd2 hp1 h59;rcases hnZ:Ue S with _|_
     ·have N:=U.out ia
      have HNZ:=Lib.hid (show Ue K.data.toList=false by grind);subst N;clear a hnZ hKd W
      go_wp2_with(first|(go_at_call 170;refine(Qk s _ (k+1) L I.out _ aa c aa).mono ?_;rintro e B ⟨rfl,rfl⟩;clear I)|(go_at_call 171;refine(Bm s _ L d J.out _ ja c la1).mono ?_;rintro e B ⟨rfl,rfl⟩;clear J)|(go_at_call 53;refine(Ms K false HNZ.out _ hKm).mono ?_;rintro e B ⟨rfl,rfl⟩))
      go_ret3
      exact⟨rfl,y.out⟩
     ·have HNZ:=Lib.hid (show Ue K.data.toList=true by grind)
      rw[hnZ,if_pos rfl]at a;have hb61:=IJ l 61 d;rcases hs1:Yd 61 (l.drop d)with _|l3Z
      ·have N:=U.out ia
       have u:=Lib.hid (show Eg s.data.toList (ByteArray.mk #[61]).data.toList d=false by grind [Hid.out]);subst N;clear a hnZ hKd W hb61 hs1
       go_wp2_with(first|(go_at_call 170;refine(Qk s _ (k+1) L I.out _ aa c aa).mono ?_;rintro e B ⟨rfl,rfl⟩;clear I)|(go_at_call 171;refine(Bm s _ L d J.out _ ja c la1).mono ?_;rintro e B ⟨rfl,rfl⟩;clear J)|(go_at_call 53;refine(Ms K true HNZ.out _ hKm).mono ?_;rintro e B ⟨rfl,rfl⟩)|(go_at_call 105;refine(gn s ⟨#[61]⟩ _ d false u.out _ ja c ga aa).mono ?_;rintro e B ⟨rfl,rfl⟩;clear u))
       go_ret3
       exact⟨rfl,y.out⟩
      ·obtain⟨rfl,l3l⟩:=aT hs1
       rw[D.out]at l3l;have u:=Lib.hid (show Eg s.data.toList (ByteArray.mk #[61]).data.toList d=true by grind [Hid.out]);rw[hs1]at a;dsimp only at a;have hb34:=IJ l 34 (d+1);have hw1:IntKind.i64.wrap ((d:Int)+1)=(d:Int)+1:=IntWalk.i64_in _ aa;have hw2:(0:Int)<=(d:Int)+1:=aa
       have hw3:((d:Int)+1).toNat=d+1:=aa
       rcases hs2:Yd 34 (l.drop (d+1))with _|l4Z
       ·have C:=Lib.hid (show Eg s.data.toList (ByteArray.mk #[34]).data.toList (d+1)=false by grind [Hid.out])
        rw[hs2]at a;dsimp only at a;obtain⟨j,hjZ⟩:∃j,ce Fb l (d+1)=j:=⟨_,rfl⟩;have ljZ:j<=l.length:=by rw[<-hjZ];exact ap _ _ _ (by grind [Hid.out])
        have gjZ:d+1<=j:=by rw[<-hjZ];exact Zr _ _ _
        have hd3:(l.drop (d+1)).dropWhile Fb=l.drop j:=by rw[<-hjZ,Zo]
        obtain⟨v,hvZ⟩:∃v,(l.drop (d+1)).takeWhile Fb=v:=⟨_,rfl⟩;obtain⟨X,hXZ⟩:∃X,s.extract (d+1) j=X:=⟨_,rfl⟩;have hXd:X.data.toList=v:=by
         have:=ZC Fb s (d+1);rw[HLZ.out,hjZ,hXZ,hvZ]at this;exact this
        have T:=(congrArg (fun x:List UInt8=>(⟨x.toArray⟩:ByteArray)) hXd.symm).trans (pz X);rw[hvZ,hd3]at a;rw[<-HLZ.out]at hjZ;rw[D.out]at ljZ;have HJZ:=Lib.hid hjZ;have j3Z:(d:Int)+1<=(j:Int):=aa
        have j4Z:(j:Int)<=(s.size:Int):=aa
        by_cases hv0:v=[]
        ·have hem3:=Yo v X T true ia
         have N:=U.out ia;subst N;clear a hnZ hKd W hb61 hs1 hs2 hb34 hjZ hd3 hvZ hXd T hv0
         go_wp2_with(first|(go_at_call 170;refine(Qk s _ (k+1) L I.out _ aa c aa).mono ?_;rintro e B ⟨rfl,rfl⟩;clear I)|(go_at_call 171;refine(Bm s _ L d J.out _ ja c la1).mono ?_;rintro e B ⟨rfl,rfl⟩;clear J)|(go_at_call 53;refine(Ms K true HNZ.out _ hKm).mono ?_;rintro e B ⟨rfl,rfl⟩)|(go_at_call 105;refine(gn s ⟨#[61]⟩ _ d true u.out _ ja c ga aa).mono ?_;rintro e B ⟨rfl,rfl⟩;clear u)|(go_at_call 105;refine(gn s ⟨#[34]⟩ _ (d+1) false C.out _ aa c ga aa).mono ?_;rintro e B ⟨rfl,rfl⟩;clear C)|(go_at_call 171;refine(Bm s _ (d+1) j HJZ.out _ aa c aa).mono ?_;rintro e B ⟨rfl,rfl⟩))
         go_ret3
         exact⟨rfl,y.out⟩
        ·have hem3:=Yo v X T false ia
         rw[if_neg hv0]at a;have hjn:=ljZ;have hdj:l.drop j=l.drop j:=rfl;obtain⟨r2Z,hr2⟩:∃r2Z,l.drop j=r2Z:=⟨_,rfl⟩;rw[hr2]at a;have hxs:=trivial;clear hnZ hb61 hs1 hs2 hb34 hjZ hd3 hvZ hXd hv0 hdj;obtain⟨a8Z,E,rfl,hsl⟩:∃a8Z E,u8=.slice a8Z F.length E/\(F.length=0\/∃g,a8Z=some ⟨g,0,none⟩/\w.heap.size<=g/\g<wr.heap.size/\F.length<=E):=by
          grind [Xn,Hid.out]
         have hsl8:=Lib.hid hsl;clear hsl
         rename World=>W0
         obtain⟨hrl,hpl,hpv⟩:=Lz a;dsimp only at hrl hpl hpv;rw[Ya,D.out]at hrl hpl hpv;have hFl:F.length<=10000:=aa
         have hFs2:∀x∈F++[(S,v)],x.1.length<=1000000:=by
          intro x hxZ;rcases wg.1 hxZ with h|h
          ·exact hFs.out x h
          ·grind
         have Q:Ua (F++[(S,v)])=Ua F++[.string K,.string X]:=by rw[An];dsimp only;rw[W,T]
         have hlp:(F++[(S,v)]).length=F.length+1:=by rw[Ja];rfl
         have hkn:=fun b hbZ=>UF n r (l.drop (k+1)) r2Z (S,v) F Z b HNE.out HSG.out a hbZ
         have HST:=Lib.hid hkn;have HSN:=Lib.hid Q;have HLP:=Lib.hid hlp;have HFS2:=Lib.hid hFs2;have HXP:=Lib.hid T;obtain⟨fkZ,hfk⟩:∃fkZ,xa S=fkZ:=⟨_,rfl⟩;have HFK:=Lib.hid (show xa K.data.toList=fkZ by grind);have HFK2:=Lib.hid hfk;clear a hFs2 Q hlp hkn T hKd W hfk
         go_wp2_with(first|(go_at_call 170;refine(Qk s _ (k+1) L I.out _ aa c aa).mono ?_;rintro e B ⟨rfl,rfl⟩;clear I)|(go_at_call 171;refine(Bm s _ L d J.out _ ja c la1).mono ?_;rintro e B ⟨rfl,rfl⟩;clear J)|(go_at_call 53;refine(Ms K true HNZ.out _ hKm).mono ?_;rintro e B ⟨rfl,rfl⟩)|(go_at_call 105;refine(gn s ⟨#[61]⟩ _ d true u.out _ ja c ga aa).mono ?_;rintro e B ⟨rfl,rfl⟩;clear u)|(go_at_call 105;refine(gn s ⟨#[34]⟩ _ (d+1) false C.out _ aa c ga aa).mono ?_;rintro e B ⟨rfl,rfl⟩;clear C)|(go_at_call 171;refine(Bm s _ (d+1) j HJZ.out _ aa c aa).mono ?_;rintro e B ⟨rfl,rfl⟩))
         have HR2:=Lib.hid hr2
         go_loopw [9,12] (fun t i wr=>∃(G:Nat)(b:Bool),i=.int .i64 G/\G<=F.length/\t=.bool (Z||b)/\Hid ((F.take G).any (fun x=>xa x.1==fkZ)=b)/\Hid (Below W0.heap.size W0 wr))
          (fun _ i _=>F.length - (intOf i).toNat)
         case atStart=>exact⟨0,false,rfl,Za _,da,Lib.hid rfl,Lib.hid (Below.refl _ _)⟩
         case round=>
          obtain⟨G,b,rfl,bl,rfl,hbZ,z⟩:=hrel;by_cases hilt:G<F.length
          ·obtain⟨g,rfl,hg0,hgl,hcap⟩:∃g,a8Z=some ⟨g,0,none⟩/\w.heap.size<=g/\g<W0.heap.size/\F.length<=E:=hsl8.out.resolve_left aa
           obtain⟨f0Z,f1Z⟩:=lD F G hilt;obtain⟨q,Y⟩:∃q,F[G]=q:=⟨_,rfl⟩;rw[Y]at f0Z;have hc0:=hown.out.cellAt (G* 2) aa;rw[f0Z]at hc0;have hcw:=(z.out.cell (p:=⟨g,G* 2,none⟩) hgl).trans hc0;obtain⟨A,hAZ⟩:∃A:ByteArray,(⟨q.1.toArray⟩:ByteArray)=A:=⟨_,rfl⟩;rw[hAZ]at hcw;have hAs:A.size<=1000000:=by rw[<-hAZ];exact hFs.out q (by rw[<-Y];simp)
           obtain⟨faZ,hfa⟩:∃faZ,xa q.1=faZ:=⟨_,rfl⟩;have HFA:=Lib.hid (show xa A.data.toList=faZ by rw[<-hAZ];exact hfa);have O:(F.take (G+1)).any (fun x=>xa x.1==fkZ)=(b||(faZ==fkZ)):=by rw[gB _ _ _ hilt,hbZ.out,Y,hfa]
           have HNX:=Lib.hid O;have hii:(G:Int)<(F.length:Int):=aa
           clear f0Z f1Z hc0 hAZ hfa O Y;rcases htb:(Z||b)with _|_
           ·go_wp2_with(go_at_call 103;first|((with_reducible refine(ny A faZ HFA.out _ hAs).mono ?_);rintro e w6Z ⟨rfl,hb6⟩)|((with_reducible refine(ny K fkZ HFK.out _ aa).mono ?_);rintro e w7Z ⟨rfl,hb7⟩))
            go_roundw
            case rel=>exact⟨G+1,b||(faZ==fkZ),by go_num,aa,ie,HNX,Lib.hid ((z.out.trans (hb6.mono z.out.size)).trans (hb7.mono (Ob z.out.size hb6.size)))⟩
            case measure=>simp[intOf];omega
           ·go_wp2
            go_roundw
            case rel=>exact⟨G+1,_,by go_num,aa,by rw[<-Bool.or_assoc,htb];rfl,HNX,z⟩
            case measure=>simp[intOf];omega
          ·obtain rfl:G=F.length:=aa
           have hw0:=y.out.size;have hb2:=hbZ.out;rw[Eh]at hb2;have R:=HST.out b (show(F.any fun x=>xa S==xa x.1)=b by rw[eJ,HFK2.out];exact hb2);have hvv:=hVV.out;rw[R]at hvv;have HVN:=Lib.hid hvv;have HOW:=Lib.hid (Sn hown.out z.out);have hwi:=Ob hw0 z.out.size;have HBI:=Lib.hid (y.out.trans (z.out.mono hw0));have hii:¬(F.length:Int)<(F.length:Int):=aa
           obtain⟨k2Z,H⟩:∃k2Z,ce Ia l j=k2Z:=⟨_,rfl⟩;have hk2l:k2Z<=s.size:=by rw[<-H,<-D.out];exact ap _ _ _ (by rw[D.out];exact hjn)
           have hk2g:j<=k2Z:=by rw[<-H];exact Zr _ _ _
           have hk2d:l.drop k2Z=r2Z.dropWhile Ia:=by rw[<-H,Zo,HR2.out]
           have HK2D:=Lib.hid hk2d;rw[<-HLZ.out]at H;have HK2:=Lib.hid H;have hjr:s.size - j=r2Z.length:=by rw[<-HR2.out,Ya,D.out]
           clear hk2d H hb2 R hvv
           go_wp2_with(first|(at_builtin;refine Am ja _ _ _ ja 180 _ 2 32 Tryz.underlying176 zy ja aa w.heap.size wr _ _ _ ja HOW.out [.string K,.string X] ja (by simp[Value.oneCell']) ja aa aa hwi ?_;intro ggZ cap w8Z hgg P hgr8 hb8 hsz8;have HO8:=Lib.hid P;have HB8:=Lib.hid (HBI.out.trans hb8);clear P hgr8)|(go_at_call 170;refine(Qk s _ j k2Z HK2.out _ aa c hjn).mono ?_;rintro e w9Z ⟨rfl,rfl⟩))
           go_roundw
           case rel=>exact⟨n,k2Z,r2Z,F++[(S,v)],_,rfl,rfl,hk2l,aa,by rw[HLP.out];omega,HK2D,HFS2,HVN,Lib.hid (by rw[HSN.out,HLP.out];exact HO8.out),HB8⟩
           case measure=>simp[intOf];omega
       ·obtain⟨rfl,l4l⟩:=aT hs2
        rw[D.out]at l4l;have C:=Lib.hid (show Eg s.data.toList (ByteArray.mk #[34]).data.toList (d+1)=true by grind [Hid.out]);rw[hs2]at a;dsimp only at a;rw[<-W9]at a;rcases hqd:tg l (d+1+1)with _|⟨v,r2Z⟩
        ·have HQD:=Lib.hid (show tg s.data.toList (d+2)=none by rw[HLZ.out];exact hqd)
         have N:=U.out ia;subst N;clear a hnZ hKd W hb61 hs1 hs2 hb34 hqd
         go_wp2_with(first|(go_at_call 170;refine(Qk s _ (k+1) L I.out _ aa c aa).mono ?_;rintro e B ⟨rfl,rfl⟩;clear I)|(go_at_call 171;refine(Bm s _ L d J.out _ ja c la1).mono ?_;rintro e B ⟨rfl,rfl⟩;clear J)|(go_at_call 53;refine(Ms K true HNZ.out _ hKm).mono ?_;rintro e B ⟨rfl,rfl⟩)|(go_at_call 105;refine(gn s ⟨#[61]⟩ _ d true u.out _ ja c ga aa).mono ?_;rintro e B ⟨rfl,rfl⟩;clear u)|(go_at_call 105;refine(gn s ⟨#[34]⟩ _ (d+1) true C.out _ aa c ga aa).mono ?_;rintro e B ⟨rfl,rfl⟩;clear C)|(go_at_call 172;refine(aS s _ (d+2) none HQD.out _ aa c aa).mono ?_;rintro e B ⟨rfl,rfl⟩))
         go_ret3
         exact⟨rfl,y.out⟩
        ·have HQD:=Lib.hid (show tg s.data.toList (d+2)=some (v,r2Z) by rw[HLZ.out];exact hqd)
         rw[hqd]at a;replace a:vk (l.drop (k+1))=some ((S,v),r2Z):=a;obtain⟨X,T⟩:∃X:ByteArray,(⟨v.toArray⟩:ByteArray)=X:=⟨_,rfl⟩;clear hnZ hb61 hs1 hs2 hb34 hqd;obtain⟨a8Z,E,rfl,hsl⟩:∃a8Z E,u8=.slice a8Z F.length E/\(F.length=0\/∃g,a8Z=some ⟨g,0,none⟩/\w.heap.size<=g/\g<wr.heap.size/\F.length<=E):=by
          grind [Xn,Hid.out]
         have hsl8:=Lib.hid hsl;clear hsl
         rename World=>W0
         obtain⟨hrl,hpl,hpv⟩:=Lz a;dsimp only at hrl hpl hpv;rw[Ya,D.out]at hrl hpl hpv;have hFl:F.length<=10000:=aa
         have hFs2:∀x∈F++[(S,v)],x.1.length<=1000000:=by
          intro x hxZ;rcases wg.1 hxZ with h|h
          ·exact hFs.out x h
          ·grind
         have Q:Ua (F++[(S,v)])=Ua F++[.string K,.string X]:=by rw[An];dsimp only;rw[W,T]
         have hlp:(F++[(S,v)]).length=F.length+1:=by rw[Ja];rfl
         have hkn:=fun b hbZ=>UF n r (l.drop (k+1)) r2Z (S,v) F Z b HNE.out HSG.out a hbZ
         have HST:=Lib.hid hkn;have HSN:=Lib.hid Q;have HLP:=Lib.hid hlp;have HFS2:=Lib.hid hFs2;have HXP:=Lib.hid T;obtain⟨fkZ,hfk⟩:∃fkZ,xa S=fkZ:=⟨_,rfl⟩;have HFK:=Lib.hid (show xa K.data.toList=fkZ by grind);have HFK2:=Lib.hid hfk;clear a hFs2 Q hlp hkn T hKd W hfk
         go_wp2_with(first|(go_at_call 170;refine(Qk s _ (k+1) L I.out _ aa c aa).mono ?_;rintro e B ⟨rfl,rfl⟩;clear I)|(go_at_call 171;refine(Bm s _ L d J.out _ ja c la1).mono ?_;rintro e B ⟨rfl,rfl⟩;clear J)|(go_at_call 53;refine(Ms K true HNZ.out _ hKm).mono ?_;rintro e B ⟨rfl,rfl⟩)|(go_at_call 105;refine(gn s ⟨#[61]⟩ _ d true u.out _ ja c ga aa).mono ?_;rintro e B ⟨rfl,rfl⟩;clear u)|(go_at_call 105;refine(gn s ⟨#[34]⟩ _ (d+1) true C.out _ aa c ga aa).mono ?_;rintro e B ⟨rfl,rfl⟩;clear C)|(go_at_call 172;refine(aS s _ (d+2) (some (v,r2Z)) HQD.out _ aa c aa).mono ?_;rintro e B ⟨j,rfl,hjn,hr2,rfl⟩;rw[HXP.out];have hj0:(0:Int)<=(j:Int):=aa;have HR2:=Lib.hid hr2.out;rw[HLZ.out]at HR2))
         go_loopw [9,12] (fun t i wr=>∃(G:Nat)(b:Bool),i=.int .i64 G/\G<=F.length/\t=.bool (Z||b)/\Hid ((F.take G).any (fun x=>xa x.1==fkZ)=b)/\Hid (Below W0.heap.size W0 wr))
          (fun _ i _=>F.length - (intOf i).toNat)
         case atStart=>exact⟨0,false,rfl,Za _,da,Lib.hid rfl,Lib.hid (Below.refl _ _)⟩
         case round=>
          obtain⟨G,b,rfl,bl,rfl,hbZ,z⟩:=hrel;by_cases hilt:G<F.length
          ·obtain⟨g,rfl,hg0,hgl,hcap⟩:∃g,a8Z=some ⟨g,0,none⟩/\w.heap.size<=g/\g<W0.heap.size/\F.length<=E:=hsl8.out.resolve_left aa
           obtain⟨f0Z,f1Z⟩:=lD F G hilt;obtain⟨q,Y⟩:∃q,F[G]=q:=⟨_,rfl⟩;rw[Y]at f0Z;have hc0:=hown.out.cellAt (G* 2) aa;rw[f0Z]at hc0;have hcw:=(z.out.cell (p:=⟨g,G* 2,none⟩) hgl).trans hc0;obtain⟨A,hAZ⟩:∃A:ByteArray,(⟨q.1.toArray⟩:ByteArray)=A:=⟨_,rfl⟩;rw[hAZ]at hcw;have hAs:A.size<=1000000:=by rw[<-hAZ];exact hFs.out q (by rw[<-Y];simp)
           obtain⟨faZ,hfa⟩:∃faZ,xa q.1=faZ:=⟨_,rfl⟩;have HFA:=Lib.hid (show xa A.data.toList=faZ by rw[<-hAZ];exact hfa);have O:(F.take (G+1)).any (fun x=>xa x.1==fkZ)=(b||(faZ==fkZ)):=by rw[gB _ _ _ hilt,hbZ.out,Y,hfa]
           have HNX:=Lib.hid O;have hii:(G:Int)<(F.length:Int):=aa
           clear f0Z f1Z hc0 hAZ hfa O Y;rcases htb:(Z||b)with _|_
           ·go_wp2_with(go_at_call 103;first|((with_reducible refine(ny A faZ HFA.out _ hAs).mono ?_);rintro e w6Z ⟨rfl,hb6⟩)|((with_reducible refine(ny K fkZ HFK.out _ aa).mono ?_);rintro e w7Z ⟨rfl,hb7⟩))
            go_roundw
            case rel=>exact⟨G+1,b||(faZ==fkZ),by go_num,aa,ie,HNX,Lib.hid ((z.out.trans (hb6.mono z.out.size)).trans (hb7.mono (Ob z.out.size hb6.size)))⟩
            case measure=>simp[intOf];omega
           ·go_wp2
            go_roundw
            case rel=>exact⟨G+1,_,by go_num,aa,by rw[<-Bool.or_assoc,htb];rfl,HNX,z⟩
            case measure=>simp[intOf];omega
          ·obtain rfl:G=F.length:=aa
           have hw0:=y.out.size;have hb2:=hbZ.out;rw[Eh]at hb2;have R:=HST.out b (show(F.any fun x=>xa S==xa x.1)=b by rw[eJ,HFK2.out];exact hb2);have hvv:=hVV.out;rw[R]at hvv;have HVN:=Lib.hid hvv;have HOW:=Lib.hid (Sn hown.out z.out);have hwi:=Ob hw0 z.out.size;have HBI:=Lib.hid (y.out.trans (z.out.mono hw0));have hii:¬(F.length:Int)<(F.length:Int):=aa
           obtain⟨k2Z,H⟩:∃k2Z,ce Ia l j=k2Z:=⟨_,rfl⟩;have hk2l:k2Z<=s.size:=by rw[<-H,<-D.out];exact ap _ _ _ (by rw[D.out];exact hjn)
           have hk2g:j<=k2Z:=by rw[<-H];exact Zr _ _ _
           have hk2d:l.drop k2Z=r2Z.dropWhile Ia:=by rw[<-H,Zo,HR2.out]
           have HK2D:=Lib.hid hk2d;rw[<-HLZ.out]at H;have HK2:=Lib.hid H;have hjr:s.size - j=r2Z.length:=by rw[<-HR2.out,Ya,D.out]
           clear hk2d H hb2 R hvv
           go_wp2_with(first|(at_builtin;refine Am ja _ _ _ ja 180 _ 2 32 Tryz.underlying176 zy ja aa w.heap.size wr _ _ _ ja HOW.out [.string K,.string X] ja (by simp[Value.oneCell']) ja aa aa hwi ?_;intro ggZ cap w8Z hgg P hgr8 hb8 hsz8;have HO8:=Lib.hid P;have HB8:=Lib.hid (HBI.out.trans hb8);clear P hgr8)|(go_at_call 170;refine(Qk s _ j k2Z HK2.out _ aa c hjn).mono ?_;rintro e w9Z ⟨rfl,rfl⟩))
           go_roundw
           case rel=>exact⟨n,k2Z,r2Z,F++[(S,v)],_,rfl,rfl,hk2l,aa,by rw[HLP.out];omega,HK2D,HFS2,HVN,Lib.hid (by rw[HSN.out,HLP.out];exact HO8.out),HB8⟩
           case measure=>simp[intOf];omega
    ·rw[if_neg h59]at hsg
     have hxZ:=cV _ h59;have N:V=.form:=by
      have:=hVV.out;rw[jQ n r F Z ra (by grind [Hid.out])]at this;exact this
     subst N;clear hsg ra h59;go_wp2
     go_ret3
     exact⟨rfl,y.out⟩
   ·have hki:¬(k:Int)<(s.size:Int):=aa
    have hvZ:=hVV.out;rw[hQ n r F Z (by grind [Hid.out])]at hvZ;rcases Z with _|_
    ·replace hvZ:=hvZ
     subst hvZ;go_wp2
     go_ret3
     exact⟨_,by rw[HMM.out];rfl,hown.out,y.out⟩
    ·replace hvZ:=hvZ
     subst hvZ;go_wp2
     go_ret3
     exact⟨rfl,y.out⟩
end Go.Proofs.YtglaihdcndcmkaaGreatDoor
end
namespace wa
def lg(n:Nat):List Nat:=[n/32 % 2,n/16 % 2,n/8 % 2,n/4 % 2,n/2 % 2,n % 2]
def bitsOf(l:List UInt8):List Nat:=l.flatMap fun c=>match Ed c with|some n=>lg n|none=>[]
def eight(l:List Nat):Nat->Nat
 |0=>0
 |i+1=>2* eight l i+(l[i]?).getD 0
def Og(l:List Nat):List UInt8:=if h:8<=l.length then UInt8.ofNat (eight l 8)::Og (l.drop 8)else[]
termination_by l.length
decreasing_by grind
def gR{l}(h:8<=l.length):Og l=UInt8.ofNat (eight l 8)::Og (l.drop 8):=by rw[Og,dif_pos h]
theorem Bz{l}(h:¬8<=l.length):Og l=[]:=by rw[Og,dif_neg h]
def Ps(a b c d e g h i)(l):Og (a::b::c::d::e::g::h::i::l)=UInt8.ofNat (128* a+64* b+32* c+16* d+8* e+4* g+2* h+i)::Og l:=by
 rw[gR da];have:eight (a::b::c::d::e::g::h::i::l) 8=128* a+64* b+32* c+16* d+8* e+4* g+2* h+i:=by simp[eight];omega
 simp_all
def eV:∀i:Fin 64,32* (i.1/32 % 2)+16* (i.1/16 % 2)+8* (i.1/8 % 2)+4* (i.1/4 % 2)+2* (i.1/2 % 2)+i.1 % 2=i.1/\2* (i.1/32 % 2)+i.1/16 % 2=i.1/16/\8* (i.1/32 % 2)+4* (i.1/16 % 2)+2* (i.1/8 % 2)+i.1/4 % 2=i.1/4/\2* (i.1/2 % 2)+i.1 % 2=i.1 % 4/\8* (i.1/8 % 2)+4* (i.1/4 % 2)+2* (i.1/2 % 2)+i.1 % 2=i.1 % 16:=aa
def b6(n)(h:n<64):32* (n/32 % 2)+16* (n/16 % 2)+8* (n/8 % 2)+4* (n/4 % 2)+2* (n/2 % 2)+n % 2=n/\2* (n/32 % 2)+n/16 % 2=n/16/\8* (n/32 % 2)+4* (n/16 % 2)+2* (n/8 % 2)+n/4 % 2=n/4/\2* (n/2 % 2)+n % 2=n % 4/\8* (n/8 % 2)+4* (n/4 % 2)+2* (n/2 % 2)+n % 2=n % 16:=eV ⟨n,h⟩
def jn(n)(h:n<64)(l):bitsOf (Pb n::l)=lg n++bitsOf l:=by
 grind [bitsOf,El]
def eC(l):bitsOf (61::l)=bitsOf l:=rfl
theorem Q7(a b c)(l r):Og (bitsOf (gd (a::b::c::l)++r))=a::b::c::Og (bitsOf r):=by
 have j:=a.toNat_lt;have k:=b.toNat_lt;have n:=c.toNat_lt;unfold gd;rw[if_neg da,if_neg da,Az];generalize i:(a.toNat* 256+b.toNat)* 256+c.toNat=N;simp only[ub,Gb];rw[jn _ aa,jn _ aa,jn _ aa,jn _ aa];have u:N/262144 % 64* 4+N/4096 % 64/16=a.toNat:=aa
 have v:N/4096 % 64 % 16* 16+N/64 % 64/4=b.toNat:=aa
 have w:N/64 % 64 % 4* 64+N % 64=c.toNat:=aa
 have o:=b6 (N/262144 % 64) aa;have p:=b6 (N/4096 % 64) aa;have q:=b6 (N/64 % 64) aa;have t:=b6 (N % 64) aa;generalize N/262144 % 64=d at*;generalize N/4096 % 64=e at*;generalize N/64 % 64=g at*;generalize N % 64=h at*;unfold lg;simp only[ub,Gb];rw[Ps,Ps,Ps];rw[Ek a _ aa,Ek b _ aa,Ek c _ aa]
def U7(a b):Og (bitsOf (gd [a,b]))=[a,b]:=by
 have h:=a.toNat_lt;have i:=b.toNat_lt;unfold gd;rw[if_neg da,if_pos da,zz];generalize g:(a.toNat* 256+b.toNat)* 256=N;rw[jn _ aa,jn _ aa,jn _ aa,eC];have n:N/262144 % 64* 4+N/4096 % 64/16=a.toNat:=aa
 have o:N/4096 % 64 % 16* 16+N/64 % 64/4=b.toNat:=aa
 have j:=b6 (N/262144 % 64) aa;have k:=b6 (N/4096 % 64) aa;have l:=b6 (N/64 % 64) aa;generalize N/262144 % 64=c at*;generalize N/4096 % 64=d at*;generalize N/64 % 64=e at*;unfold lg;simp only[ub,Gb];rw[Ps,Ps,Bz (by simp[bitsOf])];rw[Ek a _ aa,Ek b _ aa]
def S7(a):Og (bitsOf (gd [a]))=[a]:=by
 have e:=a.toNat_lt;unfold gd;rw[if_pos da,if_pos da,yz];generalize d:a.toNat* 256* 256=N;rw[jn _ aa,jn _ aa,eC,eC];have i:N/262144 % 64* 4+N/4096 % 64/16=a.toNat:=aa
 have g:=b6 (N/262144 % 64) aa;have h:=b6 (N/4096 % 64) aa;generalize N/262144 % 64=b at*;generalize N/4096 % 64=c at*;unfold lg;simp only[ub,Gb];rw[Ps,Bz (by simp[bitsOf])];rw[Ek a _ aa]
def P7(n):∀x,x.length<=n->Og (bitsOf (rc x))=x:=by
 induction n with
 |zero=>
  grind [Bz,rc,bitsOf]
 |succ n d=>
  intro l h
  match l,h with
  |[],_=>grind
  |[a],_=>exact S7 a
  |[a,b],_=>exact U7 a b
  |a::b::c::l,h=>
   grind [rc,Q7]
def IY(s):jb s=if rc (Og (bitsOf s))=s then some (Og (bitsOf s))else none:=by
 rcases h:jb s with _|x
 ·rw[if_neg]
  intro a;rw[<-a,GY _ _ (la _)]at h;cases h
 ·have e:=vZ _ _ _ (la _) h
  have o:Og (bitsOf s)=x:=by rw[<-e];exact P7 _ _ (la _)
  grind
end wa
section
set_option synthInstance.maxSize 4000
namespace wa
def QY(k)(h:k<64):(ByteArray.mk Wj.toArray)[k]'(by show k<Wj.length;exact h)=Pb k:=by
 have:∀i:Fin 64,(ByteArray.mk Wj.toArray)[i.1]'(by show i.1<Wj.length;exact i.2)=Pb i.1:=lc
 exact this ⟨k,h⟩
def pV(l)(c):bitsOf (l++[c])=bitsOf l++(match Ed c with|some n=>lg n|none=>[]):=by grind [bitsOf]
def oV(l):(bitsOf l).length<=6* l.length:=by
 induction l<;>grind [bitsOf,lg,List.length_cons]
def uZ(l)(b:∀x∈l,x<=1)(i)(a:i<=8):eight l i<256:=by
 have:∀i,eight l i<2^i:=by
  intro i
  induction i with
  |zero=>simp[eight]
  |succ i c=>
   have:(l[i]?).getD 0<=1:=by
    rcases h:l[i]? with _|x
    ·simp
    ·exact b x (Ah h)
   grind [eight.eq_2]
 exact Qf (this i) (Jp (n:=2) ga a)
def nV(l):∀x∈bitsOf l,x<=1:=by
 intro x h;unfold bitsOf at h;obtain⟨c,_,a⟩:=List.mem_flatMap.1 h;cases b:Ed c<;>simp[b,lg]at a;omega
def jV(c)(j)(h:j<6):(lg c).take (j+1)=(lg c).take j++[(lg c).getD j 0]:=by
 grind [List.take_succ_eq_append_getElem,lg]
end wa
namespace Go.Proofs.YtglaihdcndcmkaaGreatDoor
def zdN(c)(w):Calls Tryz.prog 176 #[.int .u8 c.toNat] w (Rb (.int .i64 ((Ed c).getD 64:Nat)) w):=by
 have d:(ByteArray.mk Wj.toArray).size=64:=rfl;generalize t:(Ed c).getD 64=V;have r:=Lib.hid t;clear t
 go_enter Tryz.func176,Tryz.ntmps176
 go_wp2_with(go_at_call 238;refine(nN _).mono ?_;rintro e w' ⟨rfl,rfl⟩)
 go_loopw [4] (fun i wr=>∃(k:Nat),k<=64/\i=.int .i64 k/\Hid (∀j,j<k->Pb j≠c)/\wr=w)
  (fun i _=>64 - (intOf i).toNat)
 case atStart=>exact⟨0,aa,rfl,Lib.hid (fun j h=>by omega),rfl⟩
 case round=>
  obtain⟨k,x,rfl,g,rfl⟩:=hrel;by_cases ea:k<64
  ·have o:=QY k ea
   by_cases b:Pb k=c
   ·have l:V=k:=by rw[<-r.out,<-b,El ea];rfl
    have q:(((ByteArray.mk Wj.toArray)[k]'(by rw[d];exact ea)).toNat==(c.toNat:Int))=true:=by rw[o,b];simp
    have a:=Lib.hid l;clear l b o;go_wp2;go_ret;rw[a.out];exact⟨rfl,rfl⟩
   ·have u:∀j,j<k+1->Pb j≠c:=fun j v=>by
     by_cases e:j=k
     ·grind
     ·exact g.out j aa
    have p:=Lib.hid u;clear u;have q:((((ByteArray.mk Wj.toArray)[k]'(by rw[d];exact ea)).toNat:Int)==(c.toNat:Int))=false:=by
     rw[o];simp[<-Yb]at b⊢;omega
    clear b o;go_wp2;go_roundw
    case rel=>exact⟨k+1,aa,by go_num,p,trivial⟩
    grind [intOf]
  ·have b:k=64:=aa
   have l:V=64:=by
    rw[<-r.out];rcases h:Ed c with _|n
    ·rfl
    ·exact absurd (Xr h) (g.out n (by have:=go _ _ h;omega))
   have a:=Lib.hid l;clear l;go_wp2;go_ret;rw[a.out];exact⟨rfl,rfl⟩
def value_of(c)(o)(h:Ed c=o)(w):Calls Tryz.prog 176 #[.int .u8 c.toNat] w (Rb (.int .i64 (o.getD 64:Nat)) w):=h▸zdN c w
def zZ(s)(l)(h:tj (Ee (Ce s.data.toList))=l)(w)(hs:s.size<=1000000):Calls Tryz.prog 177 #[.string s] w (ud (.string ⟨l.toArray⟩) w):=h▸BN s w hs
set_option maxRecDepth 100000 in
def iN(s)(w)(hs:s.size<=100000):Calls Tryz.prog 109 #[.string s] w (ud (vn (jb s.data.toList)) w):=by
 have J:s.data.toList.length=s.size:=rfl;have HLZ:=Lib.hid J;clear J;generalize hVZ:jb s.data.toList=V;have HVZ:=Lib.hid hVZ;clear hVZ
 go_enter Tryz.func109,Tryz.ntmps109
 go_wp2
 go_loopw [4,5,6,7] (fun v i _ _ wr=>∃(k:Nat),k<=s.size/\i=.int .i64 k/\qh w.heap.size 3 v (bitsOf (s.data.toList.take k)) wr/\Below w.heap.size w wr)
  (fun _ i _ _ _=>s.size - (intOf i).toNat)
 case atStart=>exact⟨0,Za _,rfl,qh.made w (la _) _ _ rfl ga,(Below.refl _ _).alloc (la _) _⟩
 case round=>
  obtain⟨k,hkZ,rfl,r,d⟩:=hrel;have hbl:(bitsOf (s.data.toList.take k)).length<=6* k:=by have:=oV (s.data.toList.take k);rw[Ac]at this;omega
  by_cases ea:k<s.size
  ·have z:bitsOf (s.data.toList.take (k+1))=bitsOf (s.data.toList.take k)++(match Ed s[k]with|some n=>lg n|none=>[]):=by
    rw[uw _ _ (by grind [Hid.out]),pV];rfl
   generalize bitsOf (s.data.toList.take k)=u at*;rcases D:Ed s[k]with _|n
   ·rw[D]at z
    simp only[Ye]at z;have S:=Lib.hid z;have F:=Lib.hid D;clear z D
    go_wp2_with(go_at_call 176;refine(value_of _ _ F.out _).mono ?_;rintro e w' ⟨rfl,rfl⟩)
    go_loopw [4,7] (fun v q jg=>q=.int .i64 32/\qh w.heap.size 3 v u jg/\Below w.heap.size w jg) (fun _ q _=>(intOf q).toNat)
    case atStart=>exact⟨rfl,r,d⟩
    case round=>
     clear r d;obtain⟨rfl,r,d⟩:=hrel;rw[<-S.out]at r;go_wp2;go_roundw
     case rel=>exact⟨k+1,aa,by go_num,r,d⟩
     case measure=>simp[intOf];omega
   ·rw[D]at z
    simp only[]at z;have N:=go _ _ D;have S:=Lib.hid z;have F:=Lib.hid D;clear z D
    go_wp2_with(go_at_call 176;refine(value_of _ _ F.out _).mono ?_;rintro e w' ⟨rfl,rfl⟩)
    go_loopw [4,7] (fun v q jg=>∃(j:Nat),j<=6/\q=.int .i64 ((32/2^j:Nat):Int)/\qh w.heap.size 3 v (u++(lg n).take j) jg/\Below w.heap.size w jg)
     (fun _ q _=>(intOf q).toNat)
    case atStart=>exact⟨0,aa,rfl,by simpa using r,d⟩
    case round=>
     clear r d;obtain⟨j,Q,rfl,r,d⟩:=hrel;by_cases H:j<6
     ·obtain⟨b,G⟩:∃b,(lg n).getD j 0=b:=⟨_,rfl⟩
      have B:=jV n j H;rw[G]at B;have E:=Lib.hid (show u++(lg n).take (j+1)=u++(lg n).take j++[b] by rw[B,sf]);clear B;have K:((u++(lg n).take j).length+1)* 8<=140737488355328:=by
       rw[Ja,Ac];omega
      have O:=Lib.hid G;clear G;have I:=Lib.hid K;clear K;obtain rfl|rfl|rfl|rfl|rfl|rfl:j=0\/j=1\/j=2\/j=3\/j=4\/j=5:=aa
      all_goals
       go_wp2_with(at_builtin;refine pushn ja _ _ _ ja 3 Tryz.underlying151 bP w.heap.size wr _ _ ja r _ b (by rw[<-O.out];simp[lg]) ja I.out d.size ?_;intro R w1Z C hgr A Y)
       go_roundw
       case rel=>
        have y:=C;rw[<-E.out]at y
        first|exact⟨1,aa,by go_num,y,d.trans A⟩|exact⟨2,aa,by go_num,y,d.trans A⟩|exact⟨3,aa,by go_num,y,d.trans A⟩|exact⟨4,aa,by go_num,y,d.trans A⟩|exact⟨5,aa,by go_num,y,d.trans A⟩|exact⟨6,aa,by go_num,y,d.trans A⟩
       case measure=>simp[intOf]
     ·obtain rfl:j=6:=aa
      have heZ:u++(lg n).take 6=bitsOf (s.data.toList.take (k+1)):=by rw[S.out];rfl
      rw[heZ]at r;clear heZ;go_wp2;go_roundw
      case rel=>exact⟨k+1,aa,by go_num,r,d⟩
      case measure=>simp[intOf];omega
  ·obtain rfl:k=s.size:=aa
   rw[Rf da]at r hbl;obtain⟨F,hw2⟩:∃F,F=wr:=⟨_,rfl⟩;subst hw2;have I:=nV s.data.toList;have y:=IY s.data.toList;rw[HVZ.out]at y;generalize bitsOf s.data.toList=L at*;have R:=Lib.hid y;clear y;obtain⟨a0,n0,D,rfl,W,hc0,X⟩:∃a0 n0 D,u4=.slice a0 n0 D/\n0=L.length/\n0<=D/\(n0=0\/∃g o,a0=some ⟨g,o,none⟩/\g<F.heap.size/\∀(j x:Nat),L[j]?=some x->F.cell? ⟨g,o+j,none⟩=some (.int .i64 x)):=by
    rcases yR r with⟨rfl,rfl⟩|⟨g,H,rfl,T,hr⟩
    ·grind
    ·by_cases z:L.length=0
     ·grind
     ·obtain⟨x,K⟩:∃x,L[0]?=some x:=⟨_,qe aa⟩
      exact⟨_,_,_,rfl,rfl,T,.inr ⟨g,0,rfl,Et F _ (hr 0 x K),hr⟩⟩
   have HR0:=Lib.hid X;have HBT:=Lib.hid I;have hn8:n0<=1000000:=aa
   have HN0:=Lib.hid W;clear r X I W;go_wp2
   go_loopw [4,8,9,10] (fun v t _ _ wqZ=>∃(M:List Nat)(u:List UInt8)(a:Option Addr)(n H:Nat),v=.slice a n H/\xe F.heap.size 5 t u wqZ/\Below F.heap.size F wqZ/\n<=H/\u.length+n<=1000000/\Hid (n=M.length)/\Hid (∀x∈M,x<=1)/\Hid (Og L=u++Og M)/\Hid (n=0\/∃g o,a=some ⟨g,o,none⟩/\g<F.heap.size/\∀(j x:Nat),M[j]?=some x->F.cell? ⟨g,o+j,none⟩=some (.int .i64 x)))
    (fun v _ _ _ _=>match v with| .slice _ n _=>n|_=>0)
   case atStart=>exact⟨L,[],a0,n0,D,rfl,xe.made F (la _) _ _ rfl ga,(Below.refl _ _).alloc (la _) _,hc0,by simpa using hn8,HN0,HBT,Lib.hid rfl,HR0⟩
   case round=>
    obtain⟨M,u,a,n,kap,rfl,r,G,hcap,hsum,Z,N,hdZ,hr⟩:=hrel;by_cases h8Z:8<=n
    ·rcases hr.out with h|⟨ggZ,o,rfl,U,z⟩
     ·omega
     have E:=fun j x Q=>(G.cell (p:=⟨ggZ,o+j,none⟩) U).trans (z j x Q)
     have HCZ:=Lib.hid E;have HC2:=Lib.hid z;clear E z;go_wp2
     go_loopw [9,10] (fun m i wzZ=>∃(j:Nat),j<=8/\i=.int .i64 j/\m=.int .i64 (eight M j)/\wzZ=wr) (fun _ i _=>8 - (intOf i).toNat)
     case atStart=>exact⟨0,aa,rfl,rfl,rfl⟩
     case round=>
      obtain⟨j,Q,rfl,rfl,rfl⟩:=hrel;have heZ:=uZ M N.out j Q;by_cases hj8:j<8
      ·obtain⟨x,K⟩:∃x,M[j]?=some x:=⟨_,qe (by rw[<-Z.out];omega)⟩
       have z:=HCZ.out j x K;have O:=N.out x (Ah K);have B:((eight M (j+1):Nat):Int)=2* eight M j+x:=by rw[eight,K];simp
       have S:=Lib.hid B;clear B K;go_wp2;go_roundw
       case rel=>exact⟨j+1,aa,by go_num,vi (by rw[S.out]),trivial⟩
       case measure=>simp[intOf];omega
      ·obtain rfl:j=8:=aa
       obtain⟨c,T⟩:∃c:UInt8,UInt8.ofNat (eight M 8)=c:=⟨_,rfl⟩;have O:eight M 8=c.toNat:=by rw[<-T];simp;omega
       have hc256:=c.toNat_lt;have B:=gR (l:=M) (by rw[<-Z.out];exact h8Z);rw[T]at B;have HMo:=Lib.hid B;clear B T;rw[O];rw[O]at heZ;clear O
       go_wp2_with(at_builtin;refine ih ja _ _ _ ja 5 Tryz.underlying99 infoByte F.heap.size wr _ _ ja r c ja aa G.size ?_;intro g H w1Z hgZ C hgr A Y)
       go_roundw
       case rel=>
        refine⟨M.drop 8,u++[c],_,_,_,rfl,C,G.trans A,aa,Sa,Lib.hid (by rw[Ya,<-Z.out]),Lib.hid (fun x K=>N.out x (List.mem_of_mem_drop K)),Lib.hid (by rw[hdZ.out,HMo.out];simp),Lib.hid ?_⟩;by_cases hk8:kap=8
        ·omega
        ·refine .inr ⟨ggZ,o+8,by rw[if_neg hk8],U,fun j x Q=>?_⟩
         rw[Fj]at Q;have:=HC2.out _ _ Q;rw[<-this];congr 2;omega
       case measure=>simp;omega
    ·have hAZ:Og L=u:=by rw[hdZ.out,Bz (by rw[<-Z.out];exact h8Z)];simp
     have y:=R.out;rw[hAZ]at y;have kcZ:=sn (P:=Tryz.prog) Tryz.underlying99 Tryz.underlying5 Tryz.underlying9 r;have E:=zZ ⟨u.toArray⟩ (rc u) (AN _ u (la _));have U:=Lib.hid E;clear E;have O:(ByteArray.mk u.toArray).size<=1000000:=by show u.length<=_;omega
     by_cases B:rc u=s.data.toList
     ·rw[if_pos B]at y
      subst y;have hs':(ByteArray.mk (rc u).toArray)=s:=by rw[B]
      rw[hs']at U
      go_wp2_with(go_at_call 177;refine(U.out _ O).mono ?_;rintro e w3Z ⟨rfl,z⟩;have kc3:=sn (P:=Tryz.prog) Tryz.underlying99 Tryz.underlying5 Tryz.underlying9 (xe.kept r z))
      go_ret2
      exact⟨rfl,(d.trans (G.mono d.size)).trans (z.mono (Ob d.size G.size))⟩
     ·rw[if_neg B]at y
      subst y;have ra:(rc u==s.toList)=false:=by
       rw[ByteArray.toList_eq,beq_eq_false_iff_ne];exact B
      go_wp2_with(go_at_call 177;refine(U.out _ O).mono ?_;rintro e w3Z ⟨rfl,z⟩;have kc3:=sn (P:=Tryz.prog) Tryz.underlying99 Tryz.underlying5 Tryz.underlying9 (xe.kept r z))
      go_ret2
      exact⟨rfl,(d.trans (G.mono d.size)).trans (z.mono (Ob d.size G.size))⟩
end Go.Proofs.YtglaihdcndcmkaaGreatDoor
end
namespace Go.Proofs.YtglaihdcndcmkaaGreatDoor
variable {Γ:Ze}
def hw:List Value->Option Pc
 |[.string s]=>if s.size<=1000000 then some (Re [.string (S (xa s.data.toList))])else none
 |_=>none
def zcg:Ef Tryz.prog Γ 103 hw:=Yh ca fun vs R h=>by
 unfold hw at h;split at h
 ·split at h
  ·rename_i hs
   cases h;exact⟨_,rfl,by simp[Ab],fun w _=>(fO _ w hs).mono (by rintro e w' ⟨rfl,a⟩;exact⟨rfl,a⟩)⟩
  ·cases h
 ·cases h
def ew:List Value->Option Pc
 |[.string s]=>if s.size<=1000000 then some (match Qe s.data.toList with
  |some t=>Re [.string (S t),.int .i64 0]
  |none=>Re [.string (S []),.int .i64 7])else none
 |_=>none
def zce:Ef Tryz.prog Γ 174 ew:=Yh ca fun vs R h=>by
 unfold ew at h;split at h
 ·rename_i s
  split at h
  ·rename_i hs
   have a:=fun w=>LY s w aa
   cases c:Qe s.data.toList with
   |some t=>
    rw[c]at h a;cases h;exact⟨_,rfl,by simp[Ab],fun w _=>(a w).mono (by rintro e w' ⟨rfl,b⟩;exact⟨rfl,b⟩)⟩
   |none=>
    rw[c]at h a;cases h;exact⟨_,rfl,by simp[Ab],fun w _=>(a w).mono (by rintro e w' ⟨rfl,b⟩;exact⟨rfl,b⟩)⟩
  ·cases h
 ·cases h
def qw:List Value->Option Pc
 |[.string s]=>if s.size<=100000 then some (match jb (bare s.data.toList)with
  |some t=>Re [.string (S t),.int .i64 0]
  |none=>Re [.string (S []),.int .i64 7])else none
 |_=>none
def zcr:Ef Tryz.prog Γ 175 qw:=Yh ca fun vs R h=>by
 unfold qw at h;split at h
 ·rename_i s
  split at h
  ·rename_i hs
   have a:=fun w=>zdK iN s w hs
   cases c:jb (bare s.data.toList)with
   |some t=>
    rw[c]at h a;cases h;exact⟨_,rfl,by simp[Ab],fun w _=>(a w).mono (by rintro e w' ⟨rfl,b⟩;exact⟨rfl,b⟩)⟩
   |none=>
    rw[c]at h a;cases h;exact⟨_,rfl,by simp[Ab],fun w _=>(a w).mono (by rintro e w' ⟨rfl,b⟩;exact⟨rfl,b⟩)⟩
  ·cases h
 ·cases h
def nw:List Value->Option Pc
 |[.string s]=>if s.size<=10000 then some (match Pd s.data.toList with
  | .form=>⟨[],some ([],0,2,67),[.int .i64 0,.int .i64 7]⟩
  | .long=>⟨[],some ([],0,2,67),[.int .i64 0,.int .i64 6]⟩
  | .ok l b=>⟨[],some (Ua l,l.length,2,67),[.int .i64 b,.int .i64 0]⟩)else none
 |_=>none
def zco:Ef Tryz.prog Γ 100 nw:=⟨ca,fun vs R h=>by
 unfold nw at h;split at h
 ·rename_i s
  split at h
  ·rename_i hs
   have a:=fun w=>zbn s w hs _ rfl
   cases g:Pd s.data.toList with
   |form=>
    rw[g]at h a;cases h;exact⟨⟨by simp[Ab],fun c n z ty e=>by grind⟩,fun w i=>(a w).mono (by rintro e w' ⟨rfl,d⟩;exact⟨.slice none 0 0,rfl,(fun c n z ty e=>by grind [World.ownsRow_nil]),d⟩)⟩
   |long=>
    rw[g]at h a;cases h;exact⟨⟨by simp[Ab],fun c n z ty e=>by grind⟩,fun w i=>(a w).mono (by rintro e w' ⟨rfl,d⟩;exact⟨.slice none 0 0,rfl,(fun c n z ty e=>by grind [World.ownsRow_nil]),d⟩)⟩
   |ok l b=>
    rw[g]at h a;cases h;exact⟨⟨by simp[Ab],fun c n z ty e=>by grind [ly]⟩,fun w i=>(a w).mono (by rintro e w' ⟨v,rfl,j,d⟩;exact⟨v,rfl,(fun c n z ty e=>by grind),d⟩)⟩
  ·cases h
 ·cases h⟩
def kw:List Value->Option Pc
 |[.string s]=>if s.size<=10000 then some (match bg s.data.toList with
  | .form=>⟨[.string (S [])],some ([],0,2,180),[.int .i64 7]⟩
  | .zh=>⟨[.string (S [])],some ([],0,2,180),[.int .i64 9]⟩
  | .ok m l=>⟨[.string (S m)],some (Ua l,l.length,2,180),[.int .i64 0]⟩)else none
 |_=>none
def zck:Ef Tryz.prog Γ 102 kw:=⟨ca,fun vs R h=>by
 unfold kw at h;split at h
 ·rename_i s
  split at h
  ·rename_i hs
   cases a:bg s.data.toList with
   |form=>
    have d:=fun w=>TG s w hs _ a
    rw[a]at h;cases h;exact⟨⟨by simp[Ab],fun c n z ty e=>by grind⟩,fun w g=>(d w).mono (by rintro e w' ⟨rfl,b⟩;exact⟨.slice none 0 0,rfl,(fun c n z ty e=>by grind [World.ownsRow_nil]),b⟩)⟩
   |zh=>
    have d:=fun w=>TG s w hs _ a
    rw[a]at h;cases h;exact⟨⟨by simp[Ab],fun c n z ty e=>by grind⟩,fun w g=>(d w).mono (by rintro e w' ⟨rfl,b⟩;exact⟨.slice none 0 0,rfl,(fun c n z ty e=>by grind [World.ownsRow_nil]),b⟩)⟩
   |ok m l=>
    have d:=fun w=>TG s w hs _ a
    rw[a]at h;cases h;exact⟨⟨by simp[Ab],fun c n z ty e=>by grind [ly]⟩,fun w g=>(d w).mono (by rintro e w' ⟨v,rfl,i,b⟩;exact⟨v,rfl,(fun c n z ty e=>by grind),b⟩)⟩
  ·cases h
 ·cases h⟩
def cw:List Value->Option Pc
 |[.string s]=>if s.size<=100000 then some (match jb s.data.toList with
  |some t=>Re [.string (S t),.int .i64 0]
  |none=>Re [.string (S []),.int .i64 7])else none
 |_=>none
def zcc:Ef Tryz.prog Γ 109 cw:=Yh ca fun vs R h=>by
 unfold cw at h;split at h
 ·rename_i s
  split at h
  ·rename_i hs
   have a:=fun w=>iN s w hs
   cases c:jb s.data.toList<;>
    (rw[c]at h a
     cases h;exact⟨_,rfl,by simp[Ab],fun w _=>(a w).mono (by rintro e w' ⟨rfl,b⟩;exact⟨rfl,b⟩)⟩)
  ·cases h
 ·cases h
def NH:List (FuncId×wa.Callee):=[(103,qf 103 hw),(174,qf 174 ew),(175,qf 175 qw),(102,qf 102 kw),(100,qf 100 nw),(109,qf 109 cw)]
def zcw:∀p∈NH,dc Tryz.prog Γ p.2:=fun p a=>by
 simp only[NH,Wb,Zt,or_false]at a;rcases a with rfl|rfl|rfl|rfl|rfl|rfl
 ·exact vg ga zcg
 ·exact vg ga zce
 ·exact vg ga zcr
 ·exact vg ga zck
 ·exact vg ga zco
 ·exact vg ga zcc
def aw:List Value->Option Pc
 |[.string s,.string p]=>if s.size<=1000000000 then some (Re [.string ⟨(Lib.trimSuffix s.data.toList p.data.toList).toArray⟩,.bool (Lib.hasSuffix s.data.toList p.data.toList)])else none
 |_=>none
def zca{Γ:Ze}:Ef Tryz.prog Γ 84 aw:=Yh ca fun vs R h=>by
 unfold aw at h;split at h
 ·split at h
  ·rename_i hs
   cases h;exact⟨_,rfl,by simp[Ab],fun w _=>(Tryz.strings_CutSuffix _ _ w aa).mono (by rintro e w' ⟨rfl,rfl⟩;exact⟨rfl,tu⟩)⟩
  ·cases h
 ·cases h
def bw:List Value->Option Pc
 |[.string s]=>if s.size<=1000000 then some (match jb s.data.toList with
  |some t=>Re [.string (S t),.int .i64 0]
  |none=>Re [.string (S []),.int .i64 7])else none
 |_=>none
def zcd{Γ:Ze}:Ef Tryz.prog Γ 91 bw:=Yh ca fun vs R h=>by
 unfold bw at h;split at h
 ·rename_i s
  split at h
  ·rename_i hs
   have a:=fun w=>hN s w aa
   cases c:jb s.data.toList<;>
    (rw[c]at h a
     cases h;exact⟨_,rfl,by simp[Ab],fun w _=>(a w).mono (by rintro e w' ⟨rfl,b⟩;exact⟨rfl,b⟩)⟩)
  ·cases h
 ·cases h
def l0:uo Tryz.prog ro 177 (Si rc):=⟨ca,fun vs v h=>by
 unfold Si at h;split at h
 ·split at h
  ·rename_i hs
   cases h;refine⟨rfl,fun w b=>(BN _ w hs).mono ?_⟩;rintro e w' ⟨rfl,a⟩;exact⟨by rw[AN _ _ (la _)];rfl,a⟩
  ·cases h
 ·cases h⟩
def o0:uo Tryz.prog ro 67 (Si (uc 0)):=⟨ca,fun vs v h=>by
 unfold Si at h;split at h
 ·split at h
  ·rename_i hs
   cases h;exact⟨rfl,fun w b=>(xZ _ w hs).mono (by rintro e w' ⟨rfl,a⟩;exact⟨rfl,a⟩)⟩
  ·cases h
 ·cases h⟩
noncomputable def MH:List (FuncId×wa.Callee):=[(96,Lf),(80,Lf),(39,Lf),(90,Lf),(42,Lf),(19,Kv),(93,Lo),(46,Lo),(162,Dv),(157,ak (Ki 157 gA)),(158,ak (Ki 158 fA)),(232,ak (Ki 232 (Si rc))),(99,ak (Ki 99 (Si (uc 0)))),(177,ak (Ki 177 (Si rc))),(67,ak (Ki 67 (Si (uc 0)))),(84,qf 84 aw),(91,qf 91 bw)]++NH
noncomputable def jp:wa.Callee:=Bt MH
def k6:dc Tryz.prog ro jp:=ET fun p b=>by
 have a:dc Tryz.prog ro Lf:=h6 fun w h=>h.1
 rcases wg.1 b with b|b
 ·simp only[Wb,Zt,or_false]at b
  rcases b with rfl|rfl|rfl|rfl|rfl|rfl|rfl|rfl|rfl|rfl|rfl|rfl|rfl|rfl|rfl|rfl|rfl
  ·exact a
  ·exact a
  ·exact a
  ·exact a
  ·exact a
  ·exact v8 g6 a
  ·exact UJ
  ·exact UJ
  ·exact T6
  ·exact Ys ga j0
  ·exact Ys ga i0
  ·exact Ys ga h0
  ·exact Ys ga k0
  ·exact Ys ga l0
  ·exact Ys ga o0
  ·exact vg ga zca
  ·exact vg ga zcd
 ·exact zcw p b
def og{f:FuncId}{c:wa.Callee}{args:List PV}{bx:Ha}{oc:List wa.Loc}{r:wa.Cg}(h:MH.lookup f=some c)(k:c f args bx oc=some r):jp f args bx oc=some r:=by
 unfold jp;rw[DT h];exact k
def y5:pe jp:=fun f args bx oc r h=>by
 have a:f=93\/f=46:=by
  unfold Lo at h;split at h
  ·grind
  ·grind
 rcases a with rfl|rfl
 ·exact og rfl h
 ·exact og rfl h
def dy{f:FuncId}{e:ba->ba}(h:MH.lookup f=some (ak (Ki f (Si e))))(s:ba)(hs:s.length<=1000000):jp f [.flat (.string (S s))] [] []=some ([.flat (.string (S (e s)))],false,[],[]):=og h (KG rfl (by grind [Si,Na,OI]))
def j6:yr jp where
 fold s hs:=og rfl (by
  have h:=mh (k:=103) (spec:=hw) (args:=[.flat (.string (S s))]) rfl (by unfold hw;dsimp only;rw[Na,if_pos hs,bf]);rw[h];rfl)
 dq s hs:=og rfl (by
  have h:=mh (k:=174) (spec:=ew) (args:=[.flat (.string (S s))]) rfl (by unfold ew;dsimp only;rw[Na,if_pos hs,bf]);rw[h];cases Qe s<;>rfl)
 um s hs:=og rfl (by
  have h:=mh (k:=175) (spec:=qw) (args:=[.flat (.string (S s))]) rfl (by unfold qw;dsimp only;rw[Na,if_pos hs,bf]);rw[h];cases jb (bare s)<;>rfl)
 tp s hs:=og rfl (by
  have h:=mh (k:=102) (spec:=kw) (args:=[.flat (.string (S s))]) rfl (by unfold kw;dsimp only;rw[Na,if_pos hs,bf])
  grind [Pc.Pg,Ru])
 oA s hs:=og rfl (by
  have h:=mh (k:=100) (spec:=nw) (args:=[.flat (.string (S s))]) rfl (by unfold nw;dsimp only;rw[Na,if_pos hs,bf])
  grind [Pc.Pg,Ru])
def i6:iu jp where
 b64 s hs:=⟨by grind [vN],dy rfl s aa⟩
 qp s hs:=⟨by grind [cy],dy rfl s aa⟩
 idx s c hs:=og rfl (wP s c hs)
 last s c hs:=og rfl (KG rfl (by unfold gA;dsimp only;rw[if_pos (by grind [Na]),A5];rfl))
 JC s hs:=og rfl (KG rfl (by grind [fA,Na,OI,pT]))
 pre s p hs hp:=og rfl (xP s p hs hp)
 bld:=y5
 nest L hL:=og rfl (S6 L hL)
 cut s w hs:=og rfl (uP s w hs)
 Ku s w hs:=og rfl (vP s w hs)
 rep s o n hs ho hn:=og rfl (yP s o n hs ho hn)
 ZM s w hs:=og rfl (by
  have h:=mh (k:=84) (spec:=aw) (args:=[.flat (.string (S s)),.flat (.string (S w))]) rfl (by unfold aw;dsimp only;rw[Na,if_pos hs,bf,bf]);rw[h];rfl)
 dec s hs:=og rfl (by
  have h:=mh (k:=91) (spec:=bw) (args:=[.flat (.string (S s))]) rfl (by unfold bw;dsimp only;rw[Na,if_pos hs,bf]);rw[h];cases jb s<;>rfl)
 tp s hs:=og rfl (t8 s hs)
 cS s hs:=⟨by grind [vN],dy rfl s aa⟩
 rq s hs:=dy rfl s aa
 bN s hs:=og rfl (by
  have h:=mh (k:=109) (spec:=cw) (args:=[.flat (.string (S s))]) rfl (by unfold cw;dsimp only;rw[Na,if_pos hs,bf]);rw[h];cases jb s<;>rfl)
 ref:=j6
end Go.Proofs.YtglaihdcndcmkaaGreatDoor
namespace wa
variable {H:Type} {enc:TypeId × Value→H}
def E_{a}{C}{os}{f}{fn}{s}{g}{b fresh d k}{X:World->Array Value->Prop}
 (H:∀(w w')(args),w.heap=w'.heap->X w args->X w' args)
 (own:ownKnob C.prog.godebug=none) (l:os.Started) (p:C.prog.inits.idxOf? f=none) (z:C.prog.funcs[f]?=some fn)
 (n:∃(w:World)(tape:Tape)(i:Input),w.os=os/\(w.forCall tape i).Shaped C.prog/\i.vars=[]/\Input.okWide C.prog (w.forCall tape i) .any w.heap.size f i/\
   ((s.pre enc C.prog fn g b (w.forCall tape i).memory i.args/\X (w.forCall tape i).memory i.args)/\sizedMet enc C.prog fn (OpenSpec.ofChange s) b (w.forCall tape i).memory i.args)/\a.holds C.prog (lone (Frame.enter C.prog f i.args .normal) [] (w.forCall tape i)))
 (h:∀(W)(base)(args)(q r)(c),
   (∀(j:Nat) t v,fn.params[j]?=some t->args[j]?=some v->Value.okWide C.prog W .any base t v)->
   DataW.Whole enc C.prog fn.params.toList s.vars b W args.toList q r c->
   g.all (PathCond.test C.prog ⟨fn.params.toList,q,s.plain.varTypes C.prog,r⟩)=true->
   (DataW.weightsEach C.prog (fn.params.toList++s.plain.varTypes C.prog) (q++r)).all (·<=reachBytes)=true->X W args->
   W.ShapedOpen C.prog->
   a.holds C.prog (lone (Frame.enter C.prog f args .normal) [] W)->
   Calls C.prog f args W fun e E=>∃v,e=.returned v/\s.post enc C.prog fn b fresh d k W args v E):
 ReturnsInHanded a C os f .any (fun w args=>(s.pre enc C.prog fn g b w args/\X w args)/\sizedMet enc C.prog fn (OpenSpec.ofChange s) b w args) (s.post enc C.prog fn b fresh d k):=by
 refine returnsInHanded_of_calls own l p n ?_;intro w tape i _ B _ A x o;obtain⟨_,_,_,G,u,_,_,_,_,y⟩:=A;have e:=ko (u.symm.trans z);subst e;obtain⟨⟨⟨q,r,c,F,I⟩,L⟩,M⟩:=x;have D:=DataW.Whole.of_heap (w':=w.forCall tape i) ja F;refine(h (w.forCall tape i) w.heap.size i.args q r c y D I (M.weights F) (H _ _ _ ja L) B o).mono fun e E ⟨v,J,K⟩=>?_
 subst J;exact ChangeSpec.post_blind K
def yW{H}{enc:TypeId×Value->H}{P}{w}{base}{r}{held}{fuel}{t e}{n}{cs}{zs:List (List UInt8)}{p}
 (ht:P.underlying t=some (.array n e)) (o:P.underlying e=some .string) (hce:P.cellsOf e=1)
 (h:DataW.trod enc P w base r held fuel t cs=some (.agg (zs.map fun z=>.lit (.string z)),p)) (i:Nat) (z) (l:zs[i]?=some z):cs[i]?=some (.string ⟨z.toArray⟩):=by
 obtain⟨xs,m,rfl,d,u,v,c⟩:=DataW.trod_array ht h;simp only[Fp,DataW.agg.injEq]at d;have q:i<n:=by
  have g:zs.length=xs.length:=by simpa using congrArg List.length d.1
  have b:=(qg l).1;omega
 have a:=c i q;rw[hce,Nat.mul_one]at a;obtain⟨y,k⟩:∃y,xs[i]?=some y:=⟨_,qe aa⟩;rw[k]at a;obtain⟨s,g,rfl,_⟩:=DataW.trod_string o a;have b:(xs.map (·.1))[i]?=some (.lit (.string s.data.toList)):=by simp[k]
 rw[<-d.1]at b;simp[l]at b;have j:=congrArg (·[0]?) g;simp[Fj]at j;rw[j,b]
end wa
namespace Go.Proofs.YtglaihdcndcmkaaGreatDoor
open Go.ChangeShapes Go.WideShapes Go.ChangeAt
def z1:Tryz.prog.globalNamed "nuncio/b64.table"=some 3:=ca
def zcq:(Tryz.prog.globals[3]?).map (·.type)=some 332:=ca
def ZV:Tryz.prog.cellsOf 9=1:=ca
open Go.ChangeShapes Go.WideShapes Go.ChangeAt
abbrev WA:List (String×DataW Unit):=[("unicode/utf8.acceptRanges",Rows.laid_unicode_utf8_acceptRanges),("nuncio/b64.table",Rows.laid_nuncio_b64_table),("unicode/utf8.first",Rows.laid_unicode_utf8_first)]
noncomputable def zP(os:Os):World:=
 let w0:=World.doorLaid Tryz.prog 400 os
 {w0 with heap:=w0.heap.modify 1 fun
  | .cells _ t frozen=>.cells (Lib.firstTab.map fun z=>Value.int .u8 z).toArray t frozen
  |o=>o}
def ZY(os)(args):laidMetH Tryz.prog WA ((zP os).forCall (fun _ _=>0) ⟨#[],args,[]⟩).memory:=
 laidMetH_of_parts3 (fuel:=8) (laidMet_of_run' 8 ca ca) ca ca
def zcx{W}(h:laidMetH Tryz.prog WA W):Ol W:=by
 rw[MakeChecks.laidMetH_plain _ _ _ ca]at h;obtain⟨ps,⟨_,_,_,_,_,_,_,_,_,_,⟨l,t0,e,k,n,o,a,c,d,b,_,_⟩,_⟩,_,_⟩:=h;obtain rfl:=ko (z1.symm.trans a);obtain rfl:=ko (zcq.symm.trans c);intro i j;have hr:([zj 0,zj 1,zj 2,zj 3]:List (List UInt8))[i]?=some (zj i):=by
  match i,j with
  |0,_=>rfl
  |1,_=>rfl
  |2,_=>rfl
  |3,_=>rfl
 have:=yW (zs:=[zj 0,zj 1,zj 2,zj 3]) Tryz.underlying332 Tryz.underlying9 ZV b i _ hr;have g:=World.var?_cell a d i;rw[g];simpa using this
end Go.Proofs.YtglaihdcndcmkaaGreatDoor

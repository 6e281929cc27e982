/- Texts of this proof, merged. -/
import Derived.Test.YtglaihdcndcmkaaGreatDoorRd
import Derived.Lib.Index
import Derived.Lib.IndexMore
import Derived.Lib.LastIndexByte
import Derived.Lib.Strings
set_option linter.all false
open Go Go.Proofs Go.RowKit Go.Proofs.YtglaihdcndcmkaaGreatDoor
set_option maxHeartbeats 4000000
namespace wa
variable {lib:Callee}
def qc(l:List Nj):List PV:=l.flatMap ib
def HU{n}(a):La n (ib a)=true:=rfl
theorem Ff:∀l,(qc l).length=l.length* 4
 |[]=>rfl
 |a::l=>by
  show(ib a++qc l).length=_;rw[Ja,Ff l,za];show 4+_=_;omega
theorem VF{n}:∀{a b},La n (a++b)=(La n a&&La n b)
 |[],b=>by rfl
 |x::a,b=>by simp only[ub,La,VF,Bool.and_assoc]
theorem be{n}:∀l,La n (qc l)=true
 |[]=>rfl
 |a::l=>by show La n (ib a++qc l)=true;rw[VF,be l];rfl
theorem Sl:∀l,gc (qc l)=true
 |[]=>rfl
 |a::l=>by
  show gc (ib a++qc l)=true;simp only[ib,ub,Gb,gc,PV.pl,Sl l,pc]
def QI{a b}:qc a++qc b=qc (a++b):=by simp[qc]
def RI{l}{k}{x}(h:l[k]?=some x):(qc l).drop (k* 4)=ib x++qc (l.drop (k+1)):=by
 induction l generalizing k with
 |nil=>cases h
 |cons a l b=>
  show(ib a++qc l).drop _=_;cases k with
  |zero=>
   grind
  |succ k=>
   rw[kr]at h;have e:(k+1)* 4=4+k* 4:=aa
   rw[e,<-rf];show(qc l).drop _=_
   grind
def SV{bx ys:Ha}{p:Nat}{q}(h:bx[p]?=some q):(bx++ys)[p]?=some q:=by
 grind
def RV{bx ys:Ha}:(bx++ys)[bx.length]?=ys[0]?:=ia
def TV{bx ys:Ha}:(bx++ys).take bx.length=bx:=da
def y7{bx}{r}{p e}{a}(c)(g:bx[p]?=some (e,ib a))(b:Cc bx.length bx=true)(ea:∀q∈r,q.1<bx.length):
 fa code lib 245 [.agg (ib c),.ptr p 0] bx (cl r)=some ([.flat (.bool (decide (c.name=a.name)))],false,bx,cl r):=by
 refine ma cY (qa rfl) ?_;have d:=fun ys=>SV (ys:=ys) g
 simp only[ib]at d⊢;exact Zf @RV @TV @Ja.{0}
theorem eI{p}{fin}{g:Nat->Out×St}:∀(L:List Nj)(k),(L.any p=false/\jd (fun(_:Unit) k x=>if p x then .inr (g k)else .inl ()) fin () k L=fin ())\/(L.any p=true/\∃j,j<k+L.length/\jd (fun(_:Unit) k x=>if p x then .inr (g k)else .inl ()) fin () k L=g j)
 |[],k=>.inl ⟨rfl,rfl⟩
 |x::t,k=>by
  rw[jd,List.any_cons];cases h:p x with
  |true=>grind
  |false=>
   rw[if_neg da,Ch];dsimp only;rcases eI (fin:=fin) (g:=g) t (k+1)with a|⟨a,j,b,c⟩
   ·exact .inl a
   grind
def N1{bx}{r}{p e}{a}(L)(v:bx[p]?=some (e,ib a))(d:Cc bx.length bx=true)(ea:∀q∈r,q.1<bx.length)(w:L.length<=1000000000):
 ∃i,(L.any (fun c=>decide (c.name=a.name))=decide (0<=i))/\fa code lib 280 [.ha L.length (qc L),.fb 245 [.ptr p 0]] bx (cl r)=some ([.flat (.int .i64 i)],false,bx,cl r):=by
 have b:=Nf (body:=pa (fa code lib) ka PB) (live:=[0,1,7,8]) (nb:=bx.length) (fun(_:Unit) k=>⟨[(0,.ha L.length (qc L)),(1,.fb 245 [.ptr p 0]),(7,.flat (.int .i64 (L.length:Nat))),(8,.flat (.int .i64 (k:Nat)))],cl r,[],bx⟩) L (fun _ _=>True)
  (fun _ k x=>if decide (x.name=a.name)then .inr (.ret,⟨[(4,.flat (.int .i64 (k:Nat)))],cl r,[],bx⟩)else .inl ()) (fun _=>(.exit 0,⟨[],cl r,[],bx⟩)) (fun _ k x _ l u j=>?_) (fun _ _=>by simp only[go_sem,simprocAttr,xb,cb,db r ea]) (fun _ _ _ _ _ _ _ _=>trivial) (fun _ _ x r h=>by split at h<;>simp at h;rw[<-h];simp) (fun _ _=>?_) (fun _=>by simp) () trivial Kh
 ·simp only[n0]at b
  rcases eI (p:=fun x=>decide (x.name=a.name)) (fin:=fun _=>(.exit 0,⟨[],cl r,[],bx⟩)) (g:=fun k=>(.ret,⟨[(4,.flat (.int .i64 (k:Nat)))],cl r,[],bx⟩)) L 0 with⟨n,l⟩|⟨n,j,l,o⟩
  ·rw[l]at b
   refine⟨-1,ia,?_⟩;refine ma FM (qa rfl) ?_;have t:Int.negSucc 0=-1:=rfl;exact va @Ff
  ·rw[o]at b
   refine⟨j,ia,?_⟩;refine ma FM (qa rfl) ?_;exact va @Ff
 ·have j:=RI u
  have l:=y7 (lib:=lib) x v d ea;simp only[ib,ub,Gb]at j l;have t:∀i,(qc (L.drop (k+1))).length+1+1+1+1>=4:=fun _=>by omega
  have o:(245=4611686018427387904)=False:=eq_false ga;by_cases h:x.name=a.name
  ·have n:=eq_true h
   simp only[n,decide_true]at l⊢;simp(maxSteps:=999999) (disch:=first|assumption|omega) only[go_sem,simprocAttr,au,EG,j,l,o,Ff]
  ·have n:=eq_false h
   simp only[n,decide_false]at l⊢;exact Rc EG @Ff
 ·exact va EG
def lY{bx}{r}{p e}{a}(L)(h:bx[p]?=some (e,ib a))(b:Cc bx.length bx=true)(ea:∀q∈r,q.1<bx.length)(g:L.length<=1000000000):
 fa code lib 244 [.ha L.length (qc L),.fb 245 [.ptr p 0]] bx (cl r)=some ([.flat (.bool (L.any (fun c=>decide (c.name=a.name))))],false,bx,cl r):=by
 obtain⟨i,d,j⟩:=N1 (lib:=lib) L h b ea g;refine ma QX (qa rfl) ?_;rw[d];exact ta
def Aa(t:Tok):List PV:=[.flat (.int .u8 t.kind.toNat),.flat (.string (S t.name)),.flat (.string (S t.text)),.ha t.Er.length (qc t.Er),.flat (.int .i64 (t.fr:Nat)),.flat (.int .i64 (t.to:Nat))]
def vw{n}(t):La n (Aa t)=true:=by
 grind [Aa,La,PV.low,be]
def Eb.Zw{B}{n b e}{s}{r}(H:Eb B n b e s r){m}(ys)(c:n+ys.length=m)(a:Cc m ys=true)(r')(hr:∀q∈r',q∈r\/(n<=q.1/\q.1<m)):Eb (fun j=>B j++ys) m b e s r' where
 len:=(H.app ys c a).len
 get:=(H.app ys c a).get
 set:=(H.app ys c a).set
 lt:=(H.app ys c a).lt
 low:=(H.app ys c a).low
 hs:=H.hs
 hr q hq:=by
  rcases hr q hq with h|h
  ·exact H.hr q h
  ·intro e;have:=H.lt;grind
 ea q hq:=by
  rcases hr q hq with h|h
  ·have:=H.ea q h;omega
  omega
def Eb.Xp{B}{n b e}{s}{r}(H:Eb B n b e s r)(j i)(ys):Cc (n+i) (B j++ys)=Cc (n+i) ys:=by
 rw[yv,vu (Nat.le_add_right n i) _ (H.low j),pc]
def oJ{s}{k}{q}(i:k<=s.length)(h:Co s k=some q):k<q.2/\q.2<=s.length:=by
 unfold Co at h;split at h
 ·rename_i c
  rw[Vc]at c;have b:=c.2;unfold Wa at b;rw[Vc]at b;have a:=xk b.2;rw[Ya]at a;simp only[za,ya,decide_eq_true_eq]at a b;split at h
  ·cases h
  ·rename_i v e d
   have g:=ut aa d
   grind
 grind
def Jz{s}:∀a c,(a.2<=s.length/\a.1.length<=a.2)->Of s a=.inl c->(c.2<=s.length/\c.1.length<=c.2)/\s.length - c.2<s.length - a.2:=by
 intro⟨l,k⟩ c ⟨b,d⟩ h;dsimp only at b d;have i:=ry b;unfold Of at h;dsimp only at h;split at h
 ·cases h
 ·split at h
  ·cases h
  ·rename_i a e g
   have:=oJ i g
   grind
theorem C7{B}{n b e}{s}{r}(H:Eb B n b e s r)(HPZ:sd lib)(HBZ:pe lib)(w)(fr)(l)(k)(hkZ:k<=s.length)(hlZ:l.length<=k)(Z):
 match Of s (l,k)with
 | .inl c=>pa (fa code lib) ka Hr ⟨[(0,.ptr b 0),(4,.ptr n 0),(6,.ptr (n+1) 0)],cl ((n+1,3)::(n,3)::r),[],B k++[(190,Aa Z),(190,Aa ⟨111,w,[],l,fr,0⟩)]⟩=some (.normal,⟨[(0,.ptr b 0),(4,.ptr n 0),(6,.ptr (n+1) 0)],cl ((n+1,3)::(n,3)::r),[],B c.2++[(190,Aa Z),(190,Aa ⟨111,w,[],c.1,fr,0⟩)]⟩)
 | .inr (some c)=>∃ow ys,Nb n ow=cl r/\pa (fa code lib) ka Hr ⟨[(0,.ptr b 0),(4,.ptr n 0),(6,.ptr (n+1) 0)],cl ((n+1,3)::(n,3)::r),[],B k++[(190,Aa Z),(190,Aa ⟨111,w,[],l,fr,0⟩)]⟩=some (.ret,⟨[(4,.ptr n 0),(5,.flat (.bool true))],ow,[],B c.2++(190,Aa ⟨111,w,[],c.1,fr,c.2⟩)::ys⟩)
 | .inr none=>∃t k' ow ys,k'<=s.length/\Nb n ow=cl r/\pa (fa code lib) ka Hr ⟨[(0,.ptr b 0),(4,.ptr n 0),(6,.ptr (n+1) 0)],cl ((n+1,3)::(n,3)::r),[],B k++[(190,Aa Z),(190,Aa ⟨111,w,[],l,fr,0⟩)]⟩=some (.ret,⟨[(4,.ptr n 0),(5,.flat (.bool false))],ow,[],B k'++(190,Aa t)::ys⟩):=by
 have hs:=H.hs;have x:=ry hkZ;have hr1:=H.Ym;have E:=H.Xm;have y:=H.aj;have hr4:=H.Pl;have G:=H.Zm;have I:=H.an;have J:=H.rh;have K:=H.Ql;have L:=H.bn;have M:=H.len;have o:=H.low;have C:=H.fm;have v:=H.tn;have N:=H.Bj;have T:=H.Fk;obtain⟨z,i⟩:∃z,z=(n+1,3)::(n,3)::r:=⟨_,rfl⟩;obtain⟨r3Z,X⟩:∃r3Z,r3Z=(n+1,3)::r:=⟨_,rfl⟩;have Q:Qc (n+1) 5 1 (cl z)=cl z:=by
  rw[i];show Qc (n+1) 5 1 (Loc.cell (n+1) 3::Loc.cell n 3::cl r)=Loc.cell (n+1) 3::Loc.cell n 3::cl r;rw[hj,if_neg aa,hj,if_neg aa,v]
 have A:Qc n 0 6 (cl z)=cl r3Z:=by
  rw[i,X];show Qc n 0 6 (Loc.cell (n+1) 3::Loc.cell n 3::cl r)=Loc.cell (n+1) 3::cl r;rw[hj,if_neg aa,hj,if_pos aa,C]
 obtain⟨r4Z,F⟩:∃r4Z,r4Z=(n,3)::r:=⟨_,rfl⟩;have dz3:ad (Loc.cell (n+1) 3) (cl z)=cl r4Z:=by
  rw[i,F];show ad _ (Loc.cell (n+1) 3::Loc.cell n 3::cl r)=Loc.cell n 3::cl r;rw[Lu,if_pos ⟨rfl,rfl⟩,Lu,if_neg aa,mn];intro q u e;have:=H.ea q u;rw[e]at this;dsimp only at this;omega
 have dz4:Qc (n+1) 3 1 (cl r4Z)=cl r4Z:=by
  rw[F];show Qc (n+1) 3 1 (Loc.cell n 3::cl r)=Loc.cell n 3::cl r;rw[hj,if_neg aa,v]
 have ow1:owns (cl z) (Loc.cell (n+1) 3)=true:=by
  rw[i];show owns (Loc.cell (n+1) 3::Loc.cell n 3::cl r) _=true;rw[zR];simp
 have hc4:Loc.cell (n+1) 3::cl r4Z=cl z:=by rw[i,F];rfl
 have U:Nb n (cl r3Z)=cl r:=by
  rw[X];show Nb n (Loc.cell (n+1) 3::cl r)=cl r;rw[Gk,if_neg aa,N]
 rw[<-i];have K2Z:Eb (fun j=>B j++[(190,Aa Z),(190,Aa ⟨111,w,[],l,fr,0⟩)]) (n+2) b e s z:=H.Zw (m:=n+2) _ rfl (by simp only[Zl,wu,vw,tf]) z (by
  grind)
 have D:=K2Z.fm;have hblt:=H.lt;have hlt2:=Dx z K2Z.ea;have V:=K2Z.A1 (lib:=lib) hkZ;unfold Of;dsimp only;obtain⟨g,hgZ⟩:∃g,ch s k=g:=⟨_,rfl⟩;rw[hgZ]at V x⊢;obtain⟨Y,hk1⟩:∃Y,k+g.length=Y:=⟨_,rfl⟩;rw[hk1]at V x⊢;have P:=K2Z.take (lib:=lib) HPZ [62] x ga;have hbu:Wa s [62] Y=([62]:ba).isPrefixOf (s.drop Y):=by unfold Wa;simp only[x,decide_true,pc]
 rw[hbu];have d:((UInt8.toNat 111:Nat):Int)=111:=rfl;simp only[Aa,n0,d]at V P⊢;cases hpZ:([62]:ba).isPrefixOf (s.drop Y)with
 |true=>
  rw[hpZ]at P;simp only[if_true,za,ya,sc]at P⊢;refine⟨cl r3Z,[(190,Aa ⟨111,w,[],l,fr,Y+1⟩)],U,?_⟩
  ·simp only[Aa,d]
   simp(maxSteps:=999999) (disch:=first|assumption|omega) only[go_sem,simprocAttr,au,Gv,V,P,hr1,E,y,G,I,J,K,L,M,o,C,v,N,T,Q,A,D,rd]
 |false=>
  rw[hpZ]at P;simp only[Fa,if_false]at P⊢;have O:=UU K2Z HPZ HBZ (k:=Y) x;cases hEZ:Co s Y with
  |none=>
   rw[hEZ]at O;obtain⟨a,k',u,O⟩:=O;simp only[Aa,n0,d,ib]at O⊢;refine⟨⟨111,w,[],l,fr,0⟩,k',cl r3Z,[(190,Aa ⟨111,w,[],l,fr,0⟩),(282,ib a)],u,U,?_⟩;simp only[Aa,n0,d,ib];simp(maxSteps:=999999) (disch:=first|assumption|omega) only[go_sem,simprocAttr,au,Gv,V,P,O,E,y,G,I,J,K,L,M,o,C,v,N,T,Q,A,D,rd]
  |some q=>
   obtain⟨a,p⟩:=q;rw[hEZ]at O;have hel:=oJ x hEZ;have K3Z:Eb (fun j=>B j++[(190,Aa Z),(190,Aa ⟨111,w,[],l,fr,0⟩),(282,ib a)]) (n+3) b e s z:=H.Zw (m:=n+3) _ rfl (by simp only[Zl,wu,vw,HU,tf]) z (by
    grind)
   have hCZ:=lY (lib:=lib) (a:=a) (p:=n+2) (e:=282) l (y p 2 [(190,Aa Z),(190,Aa ⟨111,w,[],l,fr,0⟩),(282,ib a)]) (by rw[K3Z.len];exact K3Z.low p) (by rw[K3Z.len];exact K3Z.ea) aa;simp only[Aa,n0,d,ib]at O hCZ⊢;by_cases R:g.length=0
   ·have u:=eq_true (qz R)
    simp only[R,true_or,if_true];refine⟨⟨111,w,[],l,fr,0⟩,p,cl r3Z,[(190,Aa ⟨111,w,[],l,fr,0⟩),(282,ib a)],hel.2,U,?_⟩;simp only[Aa,n0,d,ib];have hzZ:(⟨#[]⟩:ByteArray)=S []:=rfl;simp(maxSteps:=999999) (disch:=first|assumption|omega) only[go_sem,simprocAttr,au,Gv,V,P,O,u,hzZ,E,y,hr4,G,I,J,K,L,M,o,C,v,N,T,Q,A,D,rd]
   ·have u:(g=[])=False:=eq_false fun h=>R (by rw[h];rfl)
    simp only[R,false_or];have hzZ:(⟨#[]⟩:ByteArray)=S []:=rfl;cases W:l.any (fun c=>decide (c.name=a.name))with
    |true=>
     rw[W]at hCZ;simp only[if_true];refine⟨⟨111,w,[],l,fr,0⟩,p,cl r3Z,[(190,Aa ⟨111,w,[],l,fr,0⟩),(282,ib a)],hel.2,U,?_⟩;simp only[Aa,n0,d,ib];simp(maxSteps:=999999) (disch:=first|assumption|omega) only[go_sem,simprocAttr,au,Gv,V,P,O,hCZ,u,hzZ,hr1,E,y,hr4,G,I,J,K,L,M,o,C,v,N,T,Q,A,D,rd]
    |false=>
     rw[W]at hCZ;simp only[Fa,if_false];have hl2:=H.Xp;have hac:qc l++[PV.flat (.string (S a.name)),.flat (.string (S a.val)),.flat (.int .i64 (a.fr:Nat)),.flat (.int .i64 (a.to:Nat))]=qc (l++[a]):=by rw[<-QI];rfl
     have hbd:l.length+1<=Da:=Me
     simp(maxSteps:=999999) (disch:=first|assumption|omega) only[go_sem,simprocAttr,au,Gv,V,P,O,hCZ,u,hzZ,hr1,E,y,hr4,G,I,J,K,L,M,o,hl2,A,D,Ff,be,hbd,dz3,dz4,ow1,hc4,hac,hlt2,Ja]
def Z0:Tok:=⟨0,[],[],[],0,0⟩
theorem B7{B}{n b e}{s}{r}(H:Eb B n b e s r)(HPZ:sd lib)(HBZ:pe lib)(fr k)(hkZ:k<=s.length):
 match(if Vf.contains (Ib s k)then tk s (k+(Ib s k).length)else none)with
 |some (l,p)=>fa code lib 183 [.ptr b 0,.flat (.int .i64 (fr:Nat))] (B k) (cl r)=some ([.agg (Aa ⟨111,Ib s k,[],l,fr,p⟩),.flat (.bool true)],false,B p,cl r)/\p<=s.length
 |none=>∃t k',k'<=s.length/\fa code lib 183 [.ptr b 0,.flat (.int .i64 (fr:Nat))] (B k) (cl r)=some ([.agg (Aa t),.flat (.bool false)],false,B k',cl r):=by
 have h0Z:=H.hs;have h1Z:=Um hkZ;have O:=H.Ym;have P:=H.Xm;have Q:=H.aj;have R:=H.Pl;have T:=H.Zm;have U:=H.an;have F:=H.rh;have V:=H.Ql;have W:=H.bn;have X:=H.len;have z:=H.low;have D:=H.fm;have M:=H.tn;have A:=H.Bj;have Y:=H.Fk;have hblt:=H.lt;have hzZ:(⟨#[]⟩:ByteArray)=S []:=rfl;have x:((UInt8.toNat 111:Nat):Int)=111:=rfl;have ez0:Aa Z0=[.flat (.int .u8 0),.flat (.string (S [])),.flat (.string (S [])),.ha 0 [],.flat (.int .i64 0),.flat (.int .i64 0)]:=rfl;obtain⟨I,i⟩:∃I,I=(n+1,3)::(n,3)::r:=⟨_,rfl⟩;obtain⟨J,d⟩:∃J,J=(n,3)::r:=⟨_,rfl⟩;have y:Loc.cell n 3::cl r=cl J:=by rw[d];rfl
 have u:Loc.cell (n+1) 3::cl J=cl I:=by rw[i,d];rfl
 have G:Nb n (cl J)=cl r:=by
  rw[d];show Nb n (Loc.cell n 3::cl r)=cl r;rw[Gk,if_neg aa,A]
 have Z:Nb n (cl I)=cl r:=by
  rw[<-u,Gk,if_neg aa,G]
 have K:Qc (n+1) 0 6 (cl I)=cl J:=by
  rw[<-u,hj,if_pos aa];exact Nr J (by
   rw[d];intro q g;rcases Wb.1 g with rfl|g
   ·omega
   ·have:=H.ea q g;omega)
 have L:Qc n 0 6 (cl I)=Loc.cell (n+1) 3::cl r:=by
  rw[<-u,hj,if_neg aa,d];show _::Qc n 0 6 (Loc.cell n 3::cl r)=_;rw[hj,if_pos aa,D]
 have C:Nb (n+2) (cl I)=cl I:=db I (by
  rw[i];intro q g;rcases Wb.1 g with rfl|g
  ·omega
  rcases Wb.1 g with rfl|g
  ·omega
  ·have:=H.ea q g;omega)
 have hu5:Nb n (Loc.cell (n+1) 3::cl r)=cl r:=by rw[Gk,if_neg aa,A]
 have K1Z:Eb (fun j=>B j++[(190,Aa Z0)]) (n+1) b e s J:=H.Zw (m:=n+1) _ rfl (by simp only[Zl,wu,vw,tf]) J (by
  grind)
 have hwZ:=K1Z.word (lib:=lib) hkZ;have v:=uN (lib:=lib) (Ib s k);obtain⟨w,hwd⟩:∃w,Ib s k=w:=⟨_,rfl⟩;rw[hwd]at hwZ v h1Z⊢;obtain⟨k1Z,hk1⟩:∃k1Z,k+w.length=k1Z:=⟨_,rfl⟩;rw[hk1]at hwZ h1Z⊢;cases hcZ:Vf.contains w with
 |false=>
  rw[hcZ]at v;simp only[Fa,if_false];refine⟨⟨111,w,[],[],fr,0⟩,k1Z,h1Z,?_⟩;simp only[ez0]at hwZ;simp only[Aa,x,n0,qc,ph,ya];refine ma IC (qa rfl) ?_;simp(maxSteps:=999999) (disch:=first|assumption|omega) only[go_sem,simprocAttr,au,hzZ,hwZ,v,y,u,O,P,Q,R,T,U,F,V,W,X,z,D,M,A,Y,Z,G,hu5,K,L,rd]
 |true=>
  rw[hcZ]at v;simp only[if_true]
  have hrel:=In (body:=pa (fa code lib) ka Hr) (live:=[0,4,6]) (nb:=n+2)
   (fun(_:Unit)(q:List Nj×Nat)=>(⟨[(0,.ptr b 0),(4,.ptr n 0),(6,.ptr (n+1) 0)],cl ((n+1,3)::(n,3)::r),[],B q.2++[(190,Aa Z0),(190,Aa ⟨111,w,[],q.1,fr,0⟩)]⟩:St))
   (Of s) none (fun a o st=>match a with
     |some c=>c.2<=s.length/\o=.ret/\∃ow ys,Nb n ow=cl r/\st=⟨[(4,.ptr n 0),(5,.flat (.bool true))],ow,[],B c.2++(190,Aa ⟨111,w,[],c.1,fr,c.2⟩)::ys⟩
     |none=>o=.ret/\∃t k' ow ys,k'<=s.length/\Nb n ow=cl r/\st=⟨[(4,.ptr n 0),(5,.flat (.bool false))],ow,[],B k'++(190,Aa t)::ys⟩)
   (fun a=>a.2<=s.length/\a.1.length<=a.2) (fun a=>s.length - a.2) (fun _ ⟨l,j⟩ hiZ=>?_) (fun _ ⟨l,j⟩ hiZ=>?_) (fun a c hiZ h=>Jz a c hiZ h) (n:=s.length+1) (m:=ka) () ([],k1Z) ⟨h1Z,Za _⟩ aa (by grind [ka])
  ·obtain⟨o,st,N,g⟩:=hrel
   have E:hc (Of s) none (s.length+1) ([],k1Z)=tk s k1Z:=rfl;rw[E]at g;rw[<-i]at N;simp only[ez0]at hwZ N;simp only[Aa,x,n0,qc,ph,ya]at N;cases hEZ:tk s k1Z with
   |some c=>
    rw[hEZ]at g;obtain⟨hc2,rfl,ow,ys,huZ,rfl⟩:=g;dsimp only;refine⟨?_,hc2⟩;refine ma IC (qa rfl) ?_;simp only[Aa,x]at N⊢;simp(maxSteps:=999999) (disch:=first|assumption|omega) only[go_sem,simprocAttr,au,hzZ,hwZ,v,N,huZ,C,y,u,O,P,Q,R,T,U,F,V,W,X,z,D,M,A,Y,Z,G,hu5,K,L,rd,be]
   |none=>
    rw[hEZ]at g;obtain⟨rfl,t,k',ow,ys,hk',huZ,rfl⟩:=g;dsimp only;refine⟨t,k',hk',?_⟩;refine ma IC (qa rfl) ?_;simp only[Aa]at N⊢;simp(maxSteps:=999999) (disch:=first|assumption|omega) only[go_sem,simprocAttr,au,hzZ,hwZ,v,N,huZ,C,y,u,O,P,Q,R,T,U,F,V,W,X,z,D,M,A,Y,Z,G,hu5,K,L,rd,be]
  ·have:=C7 H HPZ HBZ w fr l j hiZ.1 hiZ.2 Z0
   cases E:Of s (l,j)with
   |inl c=>rw[E]at this;exact⟨(),this⟩
   |inr c=>
    rw[E]at this;cases c with
    |none=>
     obtain⟨t,k',ow,ys,N,h3Z,h4Z⟩:=this;exact⟨_,_,h4Z,da,rfl,t,k',ow,ys,N,h3Z,rfl⟩
    |some c=>
     obtain⟨ow,ys,N,h3Z⟩:=this;refine⟨_,_,h3Z,da,?_,rfl,ow,ys,N,rfl⟩
     grind [Of,Wa]
  ·rw[<-i]
   simp(maxSteps:=999999) (disch:=first|assumption|omega) only[go_sem,simprocAttr,au,F,C]
def it{s w:ba}{k}(a:k<=s.length)(h:w.isPrefixOf (s.drop k)=true):k+w.length<=s.length:=by
 grind
theorem a7{B}{n b e}{s}{r}(H:Eb B n b e s r)(HPZ:sd lib)(HBZ:pe lib)(k)(hkZ:k<=s.length):
 match pk s k with
 |some t=>fa code lib 112 [.ptr b 0] (B k) (cl r)=some ([.agg (Aa t),.flat (.bool true)],false,B t.to,cl r)/\t.to<=s.length
 |none=>∃t k',k'<=s.length/\fa code lib 112 [.ptr b 0] (B k) (cl r)=some ([.agg (Aa t),.flat (.bool false)],false,B k',cl r):=by
 have h0Z:=H.hs;have z:=H.Ym;have A:=H.Xm;have M:=H.aj;have N:=H.Pl;have C:=H.Zm;have D:=H.an;have E:=H.rh;have F:=H.Ql;have G:=H.bn;have I:=H.len;have c:=H.low;have h:=H.fm;have y:=H.tn;have o:=H.Bj;have J:=H.Fk;have hblt:=H.lt;have X:(⟨#[]⟩:ByteArray)=S []:=rfl;have e111:((UInt8.toNat 111:Nat):Int)=111:=rfl;have T:((UInt8.toNat 99:Nat):Int)=99:=rfl;have W:((UInt8.toNat 116:Nat):Int)=116:=rfl;have e60:((UInt8.toNat 60:Nat):Int)=60:=rfl;have e62:((UInt8.toNat 62:Nat):Int)=62:=rfl;have P:Aa Z0=[.flat (.int .u8 0),.flat (.string (S [])),.flat (.string (S [])),.ha 0 [],.flat (.int .i64 0),.flat (.int .i64 0)]:=rfl;obtain⟨V,hr4'⟩:∃V,V=(n,3)::r:=⟨_,rfl⟩;have a:Loc.cell n 3::cl r=cl V:=by rw[hr4'];rfl
 have K:Nb n (cl V)=cl r:=by rw[<-a,Gk,if_neg aa,o]
 have u:Qc n 0 6 (cl V)=cl r:=by rw[<-a,hj,if_pos aa,h]
 have K1Z:Eb (fun j=>B j++[(190,Aa Z0)]) (n+1) b e s V:=H.Zw (m:=n+1) _ rfl (by simp only[Zl,wu,vw,tf]) V (by
  grind)
 have d:=K1Z.Bj;have tkZ:∀(w:ba)(k:Nat),k<=s.length->w.length<=1000000000->fa code lib 178 [.ptr b 0,.flat (.string (S w))] (B k++[(190,Aa Z0)]) (cl V)=some ([.flat (.bool (Wa s w k))],false,B (if Wa s w k then k+w.length else k)++[(190,Aa Z0)],cl V):=fun w k h1Z Q=>by
  rw[Gh h1Z];exact K1Z.take HPZ w h1Z Q
 have L:∀{w:ba}{k:Nat},k<=s.length->Wa s w k=true->k+w.length<=s.length:=fun h1Z Q=>it h1Z (by grind [Gh])
 have g:=tkZ [60,47] k hkZ ga;have v:=tkZ [60] k hkZ ga;unfold pk;simp only[P]at g v tkZ;cases Z:Wa s [60,47] k with
 |true=>
  have Q:=L hkZ Z;simp only[Z,if_true,za,ya,sc,Nat.reduceAdd]at g Q⊢;obtain⟨k2Z,hk2⟩:∃k2Z,k+2=k2Z:=⟨_,rfl⟩;rw[hk2]at g Q⊢;have hwZ:=K1Z.word (lib:=lib) Q;have Y:=Um Q;have i:=uN (lib:=lib) (Ib s k2Z);have O:=zdO (lib:=lib) (Ib s k2Z);obtain⟨w,hwd⟩:∃w,Ib s k2Z=w:=⟨_,rfl⟩;rw[hwd]at hwZ i O Y⊢;obtain⟨R,hk3⟩:∃R,k2Z+w.length=R:=⟨_,rfl⟩;rw[hk3]at hwZ Y⊢;have U:=tkZ [62] R Y ga;simp only[P]at hwZ;cases hc1:Vf.contains w with
  |false=>
   rw[hc1]at i;simp only[Wc,Fa,if_false];refine⟨⟨99,w,[],[],k,R⟩,R,Y,?_⟩;simp only[Aa,T,qc,ph,ya];refine ma Vo (qa rfl) ?_;simp(maxSteps:=999999) (disch:=first|assumption|omega) only[go_sem,simprocAttr,au,X,g,hwZ,i,a,z,A,C,D,E,F,G,I,c,h,y,o,J,K,u,d,rd]
  |true=>
   rw[hc1]at i;cases hc2:xi w with
   |true=>
    rw[hc2]at O;simp only[Ui,Wc,fg,Fa,if_false];refine⟨⟨99,w,[],[],k,R⟩,R,Y,?_⟩;simp only[Aa,T,qc,ph,ya];refine ma Vo (qa rfl) ?_;simp(maxSteps:=999999) (disch:=first|assumption|omega) only[go_sem,simprocAttr,au,X,g,hwZ,i,O,a,z,A,C,D,E,F,G,I,c,h,y,o,J,K,u,d,rd]
   |false=>
    rw[hc2]at O;cases hp3:Wa s [62] R with
    |false=>
     simp only[hp3,Fa,if_false]at U;simp only[Gj,fg,Fa,if_false];refine⟨⟨99,w,[],[],k,R⟩,R,Y,?_⟩;simp only[Aa,T,qc,ph,ya];refine ma Vo (qa rfl) ?_;simp(maxSteps:=999999) (disch:=first|assumption|omega) only[go_sem,simprocAttr,au,X,g,hwZ,i,O,U,a,z,A,M,N,C,D,E,F,G,I,c,h,y,o,J,K,u,d,rd]
    |true=>
     have h4Z:=L Y hp3;simp only[hp3,if_true,za,ya,sc]at U h4Z;simp only[Gj,tf,if_true];refine⟨?_,h4Z⟩;simp only[Aa,T,qc,ph,ya];refine ma Vo (qa rfl) ?_;simp(maxSteps:=999999) (disch:=first|assumption|omega) only[go_sem,simprocAttr,au,X,g,hwZ,i,O,U,a,z,A,M,N,C,D,E,F,G,I,c,h,y,o,J,K,u,d,rd]
 |false=>
  simp only[Z,Fa,if_false]at g⊢;cases hp2:Wa s [60] k with
  |true=>
   have Q:=L hkZ hp2;simp only[hp2,if_true,za,ya,sc]at v Q⊢;have O:=B7 (lib:=lib) K1Z HPZ HBZ k (k+1) Q;obtain⟨R,hk1⟩:∃R,k+1=R:=⟨_,rfl⟩;rw[hk1]at v Q O⊢;obtain⟨x,hxZ⟩:∃x,(if Vf.contains (Ib s R)then tk s (R+(Ib s R).length)else none)=x:=⟨_,rfl⟩;have U:(if Vf.contains (Ib s R)then(tk s (R+(Ib s R).length)).map (fun q=>(⟨111,Ib s R,[],q.1,k,q.2⟩:Tok))else none)=x.map (fun q=>(⟨111,Ib s R,[],q.1,k,q.2⟩:Tok)):=by
    rw[<-hxZ];split<;>rfl
   rw[U];rw[hxZ]at O;cases x with
   |none=>
    obtain⟨t,k',Y,O⟩:=O;simp only[Vi];refine⟨t,k',Y,?_⟩;simp only[P]at O;simp only[Aa]at O⊢;refine ma Vo (qa rfl) ?_;simp(maxSteps:=999999) (disch:=first|assumption|omega) only[go_sem,simprocAttr,au,X,g,v,O,a,z,A,M,N,C,D,E,F,G,I,c,h,y,o,J,K,u,d,rd,be]
   |some q=>
    obtain⟨l,p⟩:=q;obtain⟨O,hpZ⟩:=O;simp only[kd];refine⟨?_,hpZ⟩;simp only[P]at O;simp only[Aa,e111]at O⊢;refine ma Vo (qa rfl) ?_;simp(maxSteps:=999999) (disch:=first|assumption|omega) only[go_sem,simprocAttr,au,X,g,v,O,a,z,A,M,N,C,D,E,F,G,I,c,h,y,o,J,K,u,d,rd,be]
  |false=>
   simp only[hp2,Fa,if_false]at v⊢;have O:=K1Z.QS (lib:=lib) (en:=60) (bd:=62) HPZ HBZ hkZ;simp only[P,e60,e62]at O;cases R:ti s 60 62 k with
   |none=>
    rw[R]at O;obtain⟨k',Y,O⟩:=O;simp only[Vi];refine⟨⟨116,[],[],[],k,k'⟩,k',Y,?_⟩;simp only[Aa,W,qc,ph,ya];refine ma Vo (qa rfl) ?_;simp(maxSteps:=999999) (disch:=first|assumption|omega) only[go_sem,simprocAttr,au,X,g,v,O,a,z,A,M,N,C,D,E,F,G,I,c,h,y,o,J,K,u,d,rd,be]
   |some q=>
    obtain⟨x,p⟩:=q;have i:=ut hkZ R;rw[R]at O;simp only[kd];refine⟨?_,i.2.1⟩;simp only[Aa,W,qc,ph,ya];refine ma Vo (qa rfl) ?_;simp(maxSteps:=999999) (disch:=first|assumption|omega) only[go_sem,simprocAttr,au,X,g,v,O,a,z,A,M,N,C,D,E,F,G,I,c,h,y,o,J,K,u,d,rd,be]
def Kc(l:List Tok):List PV:=l.flatMap Aa
theorem zf:∀l,(Kc l).length=l.length* 6
 |[]=>rfl
 |a::l=>by
  show(Aa a++Kc l).length=_;rw[Ja,zf l,za];show 6+_=_;omega
theorem dr{n}:∀l,La n (Kc l)=true
 |[]=>rfl
 |a::l=>by show La n (Aa a++Kc l)=true;rw[VF,dr l,vw];rfl
theorem QH:∀l,gc (Kc l)=true
 |[]=>rfl
 |a::l=>by
  show gc (Aa a++Kc l)=true;simp only[Aa,ub,Gb,gc,PV.pl,Sl,QH l,pc]
def NT{a b}:Kc a++Kc b=Kc (a++b):=by simp[Kc]
def Z6{s}{k}{t}(n:k<s.length)(h:pk s k=some t):k<t.to:=by
 unfold pk at h;split at h
 ·grind
 ·split at h
  ·split at h
   ·obtain⟨q,b,rfl⟩:=qm h
    dsimp only;have e:k+1<=s.length:=aa
    have i:=Um e;have:=up (step:=Of s) (d:=none) (I:=fun a=>(a.2<=s.length/\a.1.length<=a.2)/\k<a.2) (μ:=fun a=>s.length - a.2) (Q:=fun r=>∀q,r=some q->k<q.2) (fun a g=>by
     cases hs:Of s a with
     |inl c=>
      obtain⟨j,l⟩:=Jz a c g.1 hs;omega
     |inr r=>
      grind [Of]) (s.length+1) ([],k+1+(Ib s (k+1)).length) ⟨⟨i,da⟩,aa⟩ aa
    exact this q b
   grind
  ·rename_i e
   obtain⟨q,b,rfl⟩:=qm h;have g:=ut aa b
   grind [Gh,ZG]
def RH{s}(e:∀k t,k<=s.length->pk s k=some t->t.to<=s.length):∀a c,(a.2<=s.length/\a.1.length<=a.2)->Dk s a=.inl c->(c.2<=s.length/\c.1.length<=c.2)/\s.length - c.2<s.length - a.2:=by
 intro⟨l,k⟩ c ⟨b,d⟩ h;dsimp only at b d;unfold Dk at h;dsimp only at h;split at h
 ·cases h
 ·rename_i ea
  split at h
  ·cases h
  ·rename_i t ht
   have g:=Z6 aa ht
   grind
def zaa{s}{en bd}{k}{q}(a:k<=s.length)(h:ti s en bd k=some q):q.2<=s.length:=(ut a h).2.1
def z7{s}{k}{q}(g:k<=s.length)(h:tk s k=some q):q.2<=s.length:=by
 have:=up (step:=Of s) (d:=none) (I:=fun a=>a.2<=s.length/\a.1.length<=a.2\/(a.1=[]/\a.2<=s.length)) (μ:=fun a=>s.length - a.2) (Q:=fun r=>∀q,r=some q->q.2<=s.length) (fun a e=>by
  have b:a.2<=s.length/\a.1.length<=a.2:=by
   rcases e with h|⟨h,i⟩
   ·exact h
   ·grind
  cases hs:Of s a with
  |inl c=>
   obtain⟨i,j⟩:=Jz a c b hs;omega
  |inr r=>
   intro q i;subst i;have j:=ry b.1
   grind [Of,Gh]) (s.length+1) ([],k) (.inr ⟨rfl,g⟩) aa
 exact this q h
def fG{s}{k}{t}(b:k<=s.length)(h:pk s k=some t):t.to<=s.length:=by
 unfold pk at h;split at h
 ·rename_i d
  have a:=it b (by rw[<-Gh b];exact d);simp only[za,ya]at a;split at h
  ·rename_i c
   simp only[Vc]at c;have e:=Um a
   grind [Gh]
  grind
 ·split at h
  ·rename_i d
   have a:=it b (by rw[<-Gh b];exact d);simp only[za,ya]at a;split at h
   ·obtain⟨q,c,rfl⟩:=qm h
    exact z7 (Um a) c
   grind
  ·obtain⟨q,c,rfl⟩:=qm h
   exact zaa b c
def Br(s:ba)(j:Nat):Ha:=[(187,rd s j)]
def h_{s}(hs:s.length<=100000000):Eb (Br s) 1 0 187 s [] where
 len _:=rfl
 get _:=rfl
 set _ _:=rfl
 lt:=aa
 low _:=rfl
 hs:=hs
 hr q h:=by cases h
 ea q h:=by cases h
theorem zdk(u:sd lib)(r:pe lib)(s)(hs:s.length<=100000000):
 fa code lib 56 [.flat (.string (S s))] [] []=match eo s with
 |some l=>some ([.ha l.length (Kc l),.flat (.int .i64 0)],false,[],[])
 |none=>some ([.ha 0 [],.flat (.int .i64 7)],false,[],[]):=by
 have x:(⟨#[]⟩:ByteArray)=S []:=rfl;have H:=h_ hs;have g:=fP (lib:=lib) s (by grind [Sm])
 have hrel:=In (body:=pa (fa code lib) ka RB) (live:=[4,5]) (nb:=1) (fun(_:Unit)(q:List Tok×Nat)=>(⟨[(4,.ptr 0 0),(5,.ha q.1.length (Kc q.1))],[.slot 5],[],Br s q.2⟩:St))
  (Dk s) none (fun q o st=>match q with
    |some l=>o=.exit 0/\∃k',st=⟨[(5,.ha l.length (Kc l))],[.slot 5],[],Br s k'⟩
    |none=>o=.ret/\∃y z,st=⟨[(2,.ha 0 []),(3,.flat (.int .i64 7))],[.slot 2],[],[y,z]⟩) (fun q=>q.2<=s.length/\q.1.length<=q.2) (fun q=>s.length - q.2) (fun _ ⟨l,j⟩ i=>?_) (fun _ ⟨l,j⟩ i=>?_) (fun a c b h=>RH (fun k t=>fG) a c b h) (n:=s.length+1) (m:=ka) () ([],0) ⟨Za _,la _⟩ aa (by grind [ka])
 ·unfold eo
  cases p:ni s with
  |false=>
   rw[p]at g;simp only[Fa,if_false];refine ma HC (qa rfl) ?_;exact ta
  |true=>
   rw[p]at g;simp only[if_true];obtain⟨o,st,d,b⟩:=hrel;simp only[Br,rd,Kc,ph,ya,n0]at d;cases e:hc (Dk s) none (s.length+1) ([],0)with
   |some l=>
    rw[e]at b;obtain⟨rfl,k',rfl⟩:=b;refine ma HC (qa rfl) ?_;simp only[Br,rd]at d;exact va @dr
   |none=>
    rw[e]at b;obtain⟨rfl,y,z,rfl⟩:=b;refine ma HC (qa rfl) ?_;exact va @dr
 ·dsimp only at i⊢
  have b:=H.done (lib:=lib) j;unfold Dk;dsimp only;by_cases ea:s.length<=j
  ·have d:=eq_true ea
   simp only[ea,decide_true,if_true]at b⊢;refine⟨.exit 0,⟨[(5,.ha l.length (Kc l))],[.slot 5],[],Br s j⟩,?_,da,rfl,j,rfl⟩;simp only[Br,rd,kq]at b⊢;exact va GG
  ·simp only[ea,decide_false,if_false]at b⊢
   have d:=a7 (lib:=lib) H u r j i.1;cases e:pk s j with
   |none=>
    rw[e]at d;obtain⟨t,k',p,d⟩:=d;refine⟨.ret,⟨[(2,.ha 0 []),(3,.flat (.int .i64 7))],[.slot 2],[],[(187,rd s k'),(190,Aa t)]⟩,?_,da,rfl,_,_,rfl⟩;simp only[Br,rd,kq,Aa]at b d⊢;exact va GG
   |some t=>
    rw[e]at d;obtain⟨d,w⟩:=d;refine⟨(),?_⟩;simp only[Br,rd,kq,Aa]at b d⊢;have v:l.length+1<=Da:=Me
    have p:Kc l++[.flat (.int .u8 t.kind.toNat),.flat (.string (S t.name)),.flat (.string (S t.text)),.ha t.Er.length (qc t.Er),.flat (.int .i64 (t.fr:Nat)),.flat (.int .i64 (t.to:Nat))]=Kc (l++[t]):=by rw[<-NT];rfl
    exact Zk GG @zf @be @dr @Ja.{0}
 ·simp(maxSteps:=999999) (disch:=first|assumption|omega) only[go_sem,simprocAttr,au,Br]
def TY(c:UInt8)(base:Nat)(k:base<=16):fa code lib 292 [.flat (.int .u8 c.toNat),.flat (.int .i64 (base:Nat))] [] []=some ([.flat (.int .i64 (if wd c.toNat<base then(wd c.toNat:Int)else-1))],false,[],[]):=by
 refine ma lX (qa rfl) ?_;have h:Int.negSucc 0=-1:=rfl;have i:=c.toNat_lt;obtain⟨n,j⟩:∃n,c.toNat=n:=⟨_,rfl⟩;rw[j]at i⊢;rcases Ka (48<=n/\n<=57)with b|b
 ·have a:wd n=n - 48:=by unfold wd;rw[if_pos b]
  rw[a];by_cases ea:n - 48<base
  ·rw[if_pos ea]
   have e:((n - 48:Nat):Int)=(n:Int) - 48:=aa
   rw[e];exact ta
  ·rw[if_neg ea]
   exact ta
 rcases Ka (65<=n/\n<=70)with d|d
 ·have a:wd n=n - 55:=by unfold wd;rw[if_neg b,if_pos d]
  rw[a];by_cases ea:n - 55<base
  ·rw[if_pos ea]
   have e:((n - 55:Nat):Int)=(n:Int) - 65+10:=aa
   rw[e];exact ta
  ·rw[if_neg ea]
   exact ta
 rcases Ka (97<=n/\n<=102)with g|g
 ·have a:wd n=n - 87:=by unfold wd;rw[if_neg b,if_neg d,if_pos g]
  rw[a];by_cases ea:n - 87<base
  ·rw[if_pos ea]
   have e:((n - 87:Nat):Int)=(n:Int) - 97+10:=aa
   rw[e];exact ta
  ·rw[if_neg ea]
   exact ta
 ·have a:wd n=99:=by unfold wd;rw[if_neg b,if_neg d,if_neg g]
  rw[a,if_neg aa];simp(maxSteps:=999999) (disch:=first|assumption|omega) only[go_sem,simprocAttr,au,h]
  repeat' (split<;>simp(maxSteps:=999999) (disch:=first|assumption|omega) only[go_sem,simprocAttr,au,h])
def fh(s:ba)(base most:Nat)(q:Nat×Nat):(Nat×Nat) ⊕ Option (Option (Nat×Nat)):=match s[q.2]? with
 |none=>.inr none
 |some c=>if most<q.2 then .inr none else if c.toNat=59/\0<q.2 then .inr (some (some (q.1,q.2+1)))else if wd c.toNat<base then .inl (q.1* base+wd c.toNat,q.2+1)else .inr (some none)
def rl(base most:Nat)(s:ba):Option (Nat×Nat):=if 0<(Cd base most 0 s).2/\s[(Cd base most 0 s).2]?=some 59 then some ((Cd base most 0 s).1,(Cd base most 0 s).2+1)else none
theorem ZQ(s)(base most)(o:base<=16):∀(f n i),s.length - i<f->i<=most+1->(hc (fh s base most) none f (n,i)).join=if i<=most then(if 0<i+(Cd base (most - i) n (s.drop i)).2/\s[i+(Cd base (most - i) n (s.drop i)).2]?=some 59 then some ((Cd base (most - i) n (s.drop i)).1,i+(Cd base (most - i) n (s.drop i)).2+1)else none)else none
 |0,n,i,h,_=>by omega
 |f+1,n,i,h,q=>by
  by_cases l:i<s.length
  ·have g:=ld l
   have d:=qe l;by_cases e:i<=most
   ·rw[if_pos e]
    have k:¬most<i:=aa
    by_cases b:s[i].toNat=59
    ·have j:¬wd s[i].toNat<base:=by rw[b];have:wd 59=99:=rfl;omega
     have a:Cd base (most - i) n (s.drop i)=(n,0):=by
      rw[g];cases most - i with
      |zero=>rfl
      |succ m=>grind [Cd]
     have c:s[i]=59:=Yb.1 b;rw[a];simp only[Cj,d,c];by_cases p:0<i
     ·rw[Dd (show fh s base most (n,i)=.inr (some (some (n,i+1))) by grind [fh])]
      grind
     ·rw[Dd (show fh s base most (n,i)=.inr (some none) by unfold fh;rw[d];grind)]
      grind
    ·by_cases j:wd s[i].toNat<base
     ·rw[xf (show fh s base most (n,i)=.inl (n* base+wd s[i].toNat,i+1) by grind [fh]),ZQ s base most o f _ _ aa aa]
      by_cases c:i=most
      ·subst c
       rw[if_neg aa,Nat.sub_self];simp only[Cd,Cj,d,Xb];rw[if_neg (fun h=>b ie)]
      ·rw[if_pos aa,g]
       obtain⟨m,p⟩:∃m,most - i=m+1:=⟨most - i - 1,aa⟩
       grind [Cd]
     ·rw[Dd (show fh s base most (n,i)=.inr (some none) by grind [fh])]
      have a:Cd base (most - i) n (s.drop i)=(n,0):=by
       rw[g];cases most - i with
       |zero=>rfl
       |succ m=>grind [Cd]
      rw[a];simp only[Cj,d,Xb,Option.join_some];rw[if_neg (fun h=>b ie)]
   ·rw[if_neg e,Dd (show fh s base most (n,i)=.inr none by grind [fh])]
    rfl
  ·have d:s[i]?=none:=Ie aa
   rw[Dd (show fh s base most (n,i)=.inr none by grind [fh]),Ai aa]
   grind
theorem q7(s)(base most:Nat)(hs:s.length<=1000000000)(z:base=16\/base=10)(A:most<=7):fa code lib 286 [.flat (.string (S s)),.flat (.int .i64 (base:Nat)),.flat (.int .i64 (most:Nat))] [] []=
 some ([.flat (.int .i64 (((rl base most s).map (·.1)).getD 0:Nat)),.flat (.int .i64 (((rl base most s).map (·.2)).getD 0:Nat))],false,[],[]):=by
 have b:=Jn (body:=pa (fa code lib) ka sB) (live:=[0,1,2,8,9]) (nb:=0) (fun q:Nat×Nat=>(⟨[(0,.flat (.string (S s))),(1,.flat (.int .i64 (base:Nat))),(2,.flat (.int .i64 (most:Nat))),(8,.flat (.int .i64 (q.1:Nat))),(9,.flat (.int .i64 (q.2:Nat)))],[],[],[]⟩:St))
  (fh s base most) none (fun q=>match q with
    |none=>(.exit 0,⟨[],[],[],[]⟩)
    |some none=>(.ret,⟨[(6,.flat (.int .i64 0)),(7,.flat (.int .i64 0))],[],[],[]⟩)
    |some (some x)=>(.ret,⟨[(6,.flat (.int .i64 (x.1:Nat))),(7,.flat (.int .i64 (x.2:Nat)))],[],[],[]⟩)) (fun q=>q.2<=s.length/\q.2<=most+1/\q.1+1<=16^q.2) (fun q=>s.length - q.2) (fun⟨n,i⟩ p=>?_) (fun⟨n,i⟩ p=>?_) (fun⟨n,i⟩ c p h=>?_) (fun q=>by grind) (n:=s.length+1) (0,0) ⟨Za _,aa,da⟩ aa (by grind [ka])
 ·have a:=ZQ s base most aa (s.length+1) 0 0 aa aa
  rw[if_pos (Za _)]at a;simp only[sc,qo,Af]at a;have d:(hc (fh s base most) none (s.length+1) (0,0)).join=rl base most s:=a;rw[<-d];obtain⟨x,e⟩:∃x,hc (fh s base most) none (s.length+1) (0,0)=x:=⟨_,rfl⟩;rw[e]at b⊢;refine ma mX (qa rfl) ?_;simp only[n0]at b;rcases x with _|_|x
  ·simp only[Option.join_none,Vi,Mp,n0]
   exact ta
  ·simp only[Option.join_some,Vi,Mp,n0]
   exact ta
  ·simp only[Option.join_some,kd,jr]
   exact ta
 ·obtain⟨r,t,u⟩:=p
  dsimp only at r t u⊢;have y:16^i<=4294967296:=Ob (Jp aa (show i<=8 by omega)) ga;have o:base<=16:=aa
  unfold fh;dsimp only;by_cases w:i<s.length
  ·have j:s[i]?=some s[i]:=qe w
   obtain⟨c,v⟩:∃c,s[i]=c:=⟨_,rfl⟩;rw[v]at j;have a:=TY (lib:=lib) c base o;simp only[j];by_cases k:most<i
   ·rw[if_pos k]
    simp only[Vb];exact va Us
   ·rw[if_neg k]
    by_cases d:c.toNat=59
    ·by_cases e:0<i
     ·rw[if_pos ⟨d,e⟩]
      simp only[Vb];exact va Us
     ·rw[if_neg (fun h=>e h.2)]
      have g:wd c.toNat=99:=by rw[d];rfl
      rw[if_neg aa]at a⊢;simp only[Vb];simp(maxSteps:=999999) (disch:=first|assumption|omega) only[go_sem,simprocAttr,au,Us,j,a]
    ·rw[if_neg (fun h=>d h.1)]
     by_cases e:wd c.toNat<base
     ·rw[if_pos e]at a⊢
      simp only[Vb];obtain⟨l,g⟩:∃l,wd c.toNat=l:=⟨_,rfl⟩;rw[g]at a e⊢;have B:IntKind.i64.wrap ((n:Int)* (base:Int))=((n* base:Nat):Int):=by rw[wrap64 ia];rfl
      have C:IntKind.i64.wrap (((n* base:Nat):Int)+(l:Int))=((n* base:Nat):Int)+(l:Int):=by rw[wrap64 ia]
      exact va Us
     ·rw[if_neg e]at a⊢
      simp only[Vb];exact va Us
  ·have j:s[i]?=none:=Ie aa
   simp only[j,Vb];exact va Us
 ·exact ta
 grind [fh,Nat.pow_succ]
theorem i7(base):∀(m n)(s),(Cd base m n s).2=0->(Cd base m n s).1=n
 |0,n,s,_=>rfl
 |m+1,n,[],_=>rfl
 |m+1,n,c::t,h=>by
  grind [Cd]
theorem aR(base most)(s):ql base most s=match rl base most s with
 |none=>none
 |some (n,k)=>if n≠0/\ee n=true then some (ob n,k)else none:=by
 grind [i7,ql,rl]
def dR{base most}{s}{q}(h:rl base most s=some q):1<=q.2/\q.2<=most+1:=by
 grind [jG,rl]
theorem t7(s)(k:Nat)(hs:s.length<=1000000000)(H:k<=s.length):fa code lib 257 [.flat (.string (S s)),.flat (.int .i64 (k:Nat))] [] []=match On (s.drop k)with
 |some (x,c)=>some ([.flat (.string (S x)),.flat (.int .i64 (c:Nat)),.flat (.bool true)],false,[],[])
 |none=>some ([.flat (.string (S [])),.flat (.int .i64 0),.flat (.bool false)],false,[],[]):=by
 have l:∀w:ba,w.length<=10->fa code lib 105 [.flat (.string (S s)),.flat (.string (S w)),.flat (.int .i64 (k:Nat))] [] []=some ([.flat (.bool (w.isPrefixOf (s.drop k)))],false,[],[]):=fun w J=>by
  rw[<-Gh H];exact bj s w k hs aa aa
 have a:=l [38,97,109,112,59] ga;have b:=l [38,108,116,59] ga;have A:=l [38,103,116,59] ga;have B:=l [38,113,117,111,116,59] ga;have C:=l [38,35,120] ga;have b6:=l [38,35] ga;have K:(⟨#[]⟩:ByteArray)=S []:=rfl;unfold On;cases D:([38,97,109,112,59]:ba).isPrefixOf (s.drop k)with
 |true=>
  rw[D]at a;rw[if_pos rfl];refine ma fj (qa rfl) ?_;exact yD @a @pd @tc @Gc @Sc @Wd rj
 |false=>
 rw[D]at a;rw[if_neg da];cases E:([38,108,116,59]:ba).isPrefixOf (s.drop k)with
 |true=>
  rw[E]at b;rw[if_pos rfl];refine ma fj (qa rfl) ?_;exact Cn @a @b @pd @tc @Gc @Sc @Wd rj
 |false=>
 rw[E]at b;rw[if_neg da];cases F:([38,103,116,59]:ba).isPrefixOf (s.drop k)with
 |true=>
  rw[F]at A;rw[if_pos rfl];refine ma fj (qa rfl) ?_;exact Cn @a @b @pd @tc @Gc @Sc @Wd rj
 |false=>
 rw[F]at A;rw[if_neg da];cases G:([38,113,117,111,116,59]:ba).isPrefixOf (s.drop k)with
 |true=>
  rw[G]at B;rw[if_pos rfl];refine ma fj (qa rfl) ?_;exact Cn @a @b @pd @tc @Gc @Sc @Wd rj
 |false=>
 rw[G]at B;rw[if_neg da]
 have g:∀(p m h:Nat)(w:ba),(p=16/\m=6/\h=3/\w=[38,35,120])\/(p=10/\m=7/\h=2/\w=[38,35])->w.isPrefixOf (s.drop k)=true->k+h<=s.length/\fa code lib 286 [.flat (.string (S (s.drop (k+h)))),.flat (.int .i64 (p:Nat)),.flat (.int .i64 (m:Nat))] [] []=
  some ([.flat (.int .i64 (((rl p m (s.drop (k+h))).map (·.1)).getD 0:Nat)),.flat (.int .i64 (((rl p m (s.drop (k+h))).map (·.2)).getD 0:Nat))],false,[],[]):=fun p m h w J I=>by
   have:=it H I;refine⟨ia,q7 _ _ _ ia aa aa⟩
 cases t:([38,35,120]:ba).isPrefixOf (s.drop k)with
 |true=>
  rw[t]at C;rw[if_pos rfl];obtain⟨z,d⟩:=g 16 6 3 _ (.inl ⟨rfl,rfl,rfl,rfl⟩) t;have i:((16:Nat):Int)=16:=rfl;have e6:((6:Nat):Int)=6:=rfl;rw[i,e6]at d;rw[rf,aR];cases j:rl 16 6 (s.drop (k+3))with
  |none=>
   rw[j]at d;simp only[Vi,Mp,n0]at d⊢;refine ma fj (qa rfl) ?_;exact Cn @a @b @pd @tc @Gc @Sc @Wd rj
  |some q=>
   obtain⟨n,c⟩:=q;rw[j]at d;have y:=dR j;dsimp only at y;have e:=bA (lib:=lib) n;have v:=iq (lib:=lib) n;simp only[kd,jr]at d⊢;by_cases r:n=0
   ·subst r
    simp only[ne_eq,not_true_eq_false,false_and,if_false,Vi,n0]at d⊢;refine ma fj (qa rfl) ?_;exact Cn @a @b @pd @tc @Gc @Sc @Wd rj
   ·cases o:ee n with
    |false=>
     rw[o]at e;simp only[Fa,and_false,if_false,Vi];refine ma fj (qa rfl) ?_;exact Cn @a @b @pd @tc @Gc @Sc @Wd rj
    |true=>
     rw[o]at e;simp only[ne_eq,r,not_false_eq_true,and_self,if_true,kd];refine ma fj (qa rfl) ?_;have e3:((3:Nat):Int)=3:=rfl;exact Cn @a @b @pd @tc @Gc @Sc @Wd rj
 |false=>
 rw[t]at C;rw[if_neg da];cases u:([38,35]:ba).isPrefixOf (s.drop k)with
 |true=>
  rw[u]at b6;rw[if_pos rfl];obtain⟨z,d⟩:=g 10 7 2 _ (.inr ⟨rfl,rfl,rfl,rfl⟩) u;have i:((10:Nat):Int)=10:=rfl;have e6:((7:Nat):Int)=7:=rfl;rw[i,e6]at d;rw[rf,aR];cases j:rl 10 7 (s.drop (k+2))with
  |none=>
   rw[j]at d;simp only[Vi,Mp,n0]at d⊢;refine ma fj (qa rfl) ?_;exact Xu @a @b @b6 @pd @tc @Gc @Sc @Wd rj
  |some q=>
   obtain⟨n,c⟩:=q;rw[j]at d;have y:=dR j;dsimp only at y;have e:=bA (lib:=lib) n;have v:=iq (lib:=lib) n;simp only[kd,jr]at d⊢;by_cases r:n=0
   ·subst r
    simp only[ne_eq,not_true_eq_false,false_and,if_false,Vi,n0]at d⊢;refine ma fj (qa rfl) ?_;exact Xu @a @b @b6 @pd @tc @Gc @Sc @Wd rj
   ·cases o:ee n with
    |false=>
     rw[o]at e;simp only[Fa,and_false,if_false,Vi];refine ma fj (qa rfl) ?_;exact Xu @a @b @b6 @pd @tc @Gc @Sc @Wd rj
    |true=>
     rw[o]at e;simp only[ne_eq,r,not_false_eq_true,and_self,if_true,kd];refine ma fj (qa rfl) ?_;have e3:((2:Nat):Int)=2:=rfl;exact Xu @a @b @b6 @pd @tc @Gc @Sc @Wd rj
 |false=>
 rw[u]at b6;rw[if_neg da];refine ma fj (qa rfl) ?_;exact Xu @a @b @b6 @pd @tc @Gc @Sc @Wd rj
def zD(L)(s)(i:L.length<=1000000):fa code lib 198 [.ha L.length (ua L),.flat (.string (S s))] [] []=some ([.flat (.bool (L.contains s))],false,[],[]):=by
 have a:=Nf (body:=pa (fa code lib) ka EB) (live:=[0,1,5]) (nb:=0) (fun(_:Unit) k=>⟨[(0,.ha L.length (ua L)),(1,.flat (.string (S s))),(5,.flat (.int .i64 (k:Nat)))],[],[],[]⟩) L (fun _ _=>True)
  (fun _ k x=>if x=s then .inr (.ret,⟨[(4,.flat (.bool true))],[],[],[]⟩)else .inl ()) (fun _=>(.exit 0,⟨[],[],[],[]⟩)) (fun _ k x _ c e b=>?_) (fun _ _=>by simp only[go_sem,simprocAttr]) (fun _ _ _ _ _ _ _ _=>trivial) (fun _ _ x r h=>by split at h<;>simp at h;rw[<-h];simp) (fun _ _=>?_) (fun _=>by simp) () trivial Kh
 ·simp only[n0]at a
  rcases fI (s:=s) (fin:=fun _=>(.exit 0,⟨[],[],[],[]⟩)) (g:=fun _=>(.ret,⟨[(4,.flat (.bool true))],[],[],[]⟩)) L 0 with⟨b,c⟩|⟨b,j,c,d⟩
  ·rw[c]at a
   rw[b];refine ma AM (qa rfl) ?_;exact va @bc
  ·rw[d]at a
   rw[b];refine ma AM (qa rfl) ?_;exact va @bc
 ·have b:(ua L)[k]?=some (.flat (.string (S x))):=by simp only[ua,Bw,e,kd]
  have d:(ua L).drop k=.flat (.string (S x))::(ua L).drop (k+1):=by
   rw[ld ia];rw[qe ia,Xb]at b;rw[b]
  by_cases h:x=s
  ·have c:=eq_true h
   rw[if_pos h];exact Rc yG @bc
  ·have c:=eq_false h
   rw[if_neg h];exact Rc yG @bc
 ·exact Rc yG @bc
def IQ:fa code lib 199 [] [] []=some ([.ha Vf.length (ua Vf)],true,[],[]):=by
 refine ma yX (qa rfl) ?_;simp only[ua,Vf,kc,Bf];simp only[go_sem,simprocAttr,Ge]
def WU:fa code lib 259 [] [] []=some ([.ha Ok.length (ua Ok)],true,[],[]):=by
 refine ma wX (qa rfl) ?_;simp only[ua,Ok,kc,Bf];simp only[go_sem,simprocAttr,Ge]
def eU(s):fa code lib 127 [.flat (.string (S s))] [] []=some ([.flat (.bool (xi s))],false,[],[]):=by
 refine ma vX (qa rfl) ?_;unfold xi;rcases Ka (s=[98,114])with a|a<;>rcases Ka (s=[104,114])with b|b<;>rcases Ka (s=[105,109,103])with c|c
 all_goals
  first|have d:=eq_false a|have d:=eq_true a
  first|have e:=eq_false b|have e:=eq_true b
  first|have g:=eq_false c|have g:=eq_true c
  clear a b c;exact ta
def pI(s)(k:Nat)(hs:s.length<=1000000000)(e:k<=s.length):fa code lib 197 [.flat (.string (S s)),.flat (.int .i64 (k:Nat))] [] []=some ([.flat (.string (S (Ib s k)))],false,[],[]):=by
 have a:=Jn (body:=pa (fa code lib) ka GB) (live:=[0,1,5]) (nb:=0) (fun j:Nat=>(⟨[(0,.flat (.string (S s))),(1,.flat (.int .i64 (j:Nat))),(5,.flat (.int .i64 (k:Nat)))],[],[],[]⟩:St))
  (Ag s rm) 0 (fun j=>(.exit 0,⟨[(0,.flat (.string (S s))),(1,.flat (.int .i64 (j:Nat))),(5,.flat (.int .i64 (k:Nat)))],[],[],[]⟩)) (fun j=>j<=s.length) (fun j=>s.length - j) (fun j b=>?_) (fun j b=>?_) (fun j i b h=>?_) (fun j=>by simp) (n:=s.length+1) k e aa (by grind [ka])
 ·rw[tA s rm _ k aa e]at a
  have d:=Um e;unfold Ib at d⊢;obtain⟨n,b⟩:∃n,k+((s.drop k).takeWhile rm).length=n:=⟨_,rfl⟩;have l:(s.take n).drop k=(s.drop k).takeWhile rm:=by
   rw[<-b,Lp,oh];exact(KA.1 (kI rm)).symm
  rw[b]at a d;have g:k<=n:=aa
  refine ma zX (qa rfl) ?_;exact ta
 ·by_cases ea:j<s.length
  ·have b:s[j]?=some s[j]:=qe ea
   obtain⟨c,l⟩:∃c,s[j]=c:=⟨_,rfl⟩;rw[l]at b;simp only[Ag,b];unfold rm;obtain⟨n,d⟩:∃n,c.toNat=n:=⟨_,rfl⟩;rw[d];rcases Ka (97<=n)with g|g<;>rcases Ka (n<=122)with a2|a2<;>rcases Ka (48<=n)with a3|a3<;>rcases Ka (n<=57)with a4|a4
   all_goals first|(exfalso;omega)|skip
   all_goals
    simp(maxSteps:=999999) (disch:=first|assumption|omega) only[go_sem,simprocAttr,au,sR,b,d,Vb]
  ·have b:s[j]?=none:=Ie aa
   simp only[Ag,b,Vb];exact va sR
 ·exact ta
 grind [Ag]
def xV(s)(k:Nat)(hs:s.length<=1000000000)(o:k<=s.length):fa code lib 258 [.flat (.string (S s)),.flat (.int .i64 (k:Nat))] [] []=some ([.flat (.int .i64 ((k+(ch s k).length:Nat)))],false,[],[]):=by
 have a:=Jn (body:=pa (fa code lib) ka DB) (live:=[0,1]) (nb:=0) (fun j:Nat=>(⟨[(0,.flat (.string (S s))),(1,.flat (.int .i64 (j:Nat)))],[],[],[]⟩:St))
  (Ag s Ko) 0 (fun j=>(.exit 0,⟨[(1,.flat (.int .i64 (j:Nat)))],[],[],[]⟩)) (fun j=>j<=s.length) (fun j=>s.length - j) (fun j b=>?_) (fun j b=>?_) (fun j i b h=>?_) (fun j=>by simp) (n:=s.length+1) k o aa (by grind [ka])
 ·rw[tA s Ko _ k aa o]at a
  unfold ch;obtain⟨n,b⟩:∃n,k+((s.drop k).takeWhile Ko).length=n:=⟨_,rfl⟩;rw[b]at a⊢;refine ma xX (qa rfl) ?_;exact ta
 ·by_cases ea:j<s.length
  ·have b:=qe ea
   obtain⟨c,q⟩:∃c,s[j]=c:=⟨_,rfl⟩;rw[q]at b;simp only[Ag,b];unfold Ko;obtain⟨n,p⟩:∃n,c.toNat=n:=⟨_,rfl⟩;rw[p];rcases Ka (n=32)with d|d<;>rcases Ka (n=9)with a2|a2<;>rcases Ka (n=10)with a3|a3
   all_goals first|(exfalso;omega)|skip
   all_goals
    first|have e:=eq_false d|have e:=eq_true d
    first|have g:=eq_false a2|have g:=eq_true a2
    first|have l:=eq_false a3|have l:=eq_true a3
    simp(maxSteps:=999999) (disch:=first|assumption|omega) only[go_sem,simprocAttr,au,rR,b,p,e,g,l,Vb]
  ·have b:s[j]?=none:=Ie aa
   simp only[Ag,b,Vb];exact va rR
 ·exact ta
 grind [Ag]
theorem RS(s)(en bd)(k:Nat)(hs:s.length<=100000000)(C:k<=s.length):fa code lib 195 [.flat (.string (S s)),.flat (.int .i64 (k:Nat)),.flat (.int .u8 en.toNat),.flat (.int .u8 bd.toNat)] [] []=match ti s en bd k with
 |some (x,p)=>some ([.flat (.string (S x)),.flat (.int .i64 (p:Nat)),.flat (.bool true)],false,[],[])
 |none=>some ([.flat (.string (S [])),.flat (.int .i64 0),.flat (.bool false)],false,[],[]):=by
 have z:(⟨#[]⟩:ByteArray)=S []:=rfl
 have b:=Jn (body:=pa (fa code lib) ka FB) (live:=[0,1,2,3,11]) (nb:=0) (fun q:ba×Nat=>(⟨[(0,.flat (.string (S s))),(1,.flat (.int .i64 (q.2:Nat))),(2,.flat (.int .u8 en.toNat)),(3,.flat (.int .u8 bd.toNat)),(11,.flat (.string (S q.1)))],[],[],[]⟩:St))
  (Ti s en bd) none (fun q=>match q with
    |some x=>(.exit 0,⟨[(1,.flat (.int .i64 (x.2:Nat))),(11,.flat (.string (S x.1)))],[],[],[]⟩)
    |none=>(.ret,⟨[(8,.flat (.string (S []))),(9,.flat (.int .i64 0)),(10,.flat (.bool false))],[],[],[]⟩)) (fun a=>a.2<=s.length/\k<=a.2/\a.1.length<=4* (a.2 - k)) (fun a=>s.length - a.2) (fun⟨out,j⟩ u=>?_) (fun⟨out,j⟩ u=>?_) (fun a c u h=>tH k a c u h) (fun q=>by grind) (n:=s.length+1) ([],k) ⟨C,la _,da⟩ aa (by grind [ka])
 ·have d:hc (Ti s en bd) none (s.length+1) ([],k)=ti s en bd k:=rfl
  rw[d]at b;cases o:ti s en bd k with
  |none=>
   rw[o]at b;dsimp only at b⊢;refine ma BM (qa rfl) ?_;exact ta
  |some q=>
   rw[o]at b;dsimp only at b⊢;refine ma BM (qa rfl) ?_;exact ta
 ·dsimp only at u⊢
  by_cases g:j<s.length
  ·have l:s[j]?=some s[j]:=qe g
   obtain⟨c,A⟩:∃c,s[j]=c:=⟨_,rfl⟩;rw[A]at l;unfold Ti;simp only[l];by_cases v:c=en
   ·have d:=eq_true (congrArg UInt8.toNat v)
    rw[if_pos v];simp only[Vb];exact va Vs
   ·have d:=eq_false fun h=>v (Yb.1 h)
    rw[if_neg v];by_cases w:c=bd
    ·have e:=eq_true (congrArg UInt8.toNat w)
     rw[if_pos w];simp only[Vb];simp(maxSteps:=999999) (disch:=first|assumption|omega) only[go_sem,simprocAttr,au,z,Vs,l,d,e]
    ·have e:=eq_false fun h=>w (Yb.1 h)
     rw[if_neg w];by_cases y:c=38
     ·have i:(c.toNat=38)=True:=eq_true ie
      rw[if_pos y];have r:=t7 (lib:=lib) s j aa u.1;cases o:On (s.drop j)with
      |none=>
       rw[o]at r;simp only[Vb]at r⊢;simp(maxSteps:=999999) (disch:=first|assumption|omega) only[go_sem,simprocAttr,au,z,Vs,l,d,e,i,r]
      |some q=>
       obtain⟨x,n⟩:=q;rw[o]at r;have B:=JG o;rw[Ya]at B;dsimp only at B;have t:out.length+x.length<=Da:=Me
       simp only[Vb]at r⊢;simp(maxSteps:=999999) (disch:=first|assumption|omega) only[go_sem,simprocAttr,au,z,Vs,l,d,e,i,r,t]
     ·have i:(c.toNat=38)=False:=eq_false fun h=>y (Yb.1 h)
      rw[if_neg y];have r:=ld g;have B:(s.take (j+1)).drop j=[c]:=by
       rw[Lp,r,A,oh];rfl
      have t:out.length+1<=Da:=Me
      simp only[Vb];exact va Vs
  ·have l:s[j]?=none:=Ie aa
   unfold Ti;simp only[l,Vb];exact va Vs
 ·exact ta
def bR(l:List Nj)(w:ba)(k to:Nat):List PV:=Aa ⟨111,w,[],l,k,to⟩
def tZ(s w)(k d)(a)(l)(t:l.length<=1000000000)(X:List PV):
 Fc (pa (fa code lib) ka nx) [0,4,6,7,8,9] 3 ka ⟨[(0,.flat (.string (S s))),(4,.ptr 0 0),(6,.ptr 1 0),(7,.flat (.int .i64 (d:Nat))),(8,.ptr 2 0),(9,.flat (.int .i64 0))],[.cell 1 3,.cell 0 3],[],[(135,Aa Z0),(135,bR l w k 0),(137,ib a)]⟩=
 some (if l.any (fun c=>decide (c.name=a.name))then(.ret,⟨[(4,.ptr 0 0),(5,.flat (.bool false))],[.cell 1 3],[],[(135,bR l w k 0),(135,bR l w k 0),(137,ib a)]⟩)
  else(.exit 2,⟨[(0,.flat (.string (S s))),(4,.ptr 0 0),(6,.ptr 1 0),(7,.flat (.int .i64 (d:Nat))),(8,.ptr 2 0)],[.cell 1 3,.cell 0 3],[],[(135,Aa Z0),(135,bR l w k 0),(137,ib a)]⟩)):=by
 have b:=Nf (body:=pa (fa code lib) ka nx) (live:=[0,4,6,7,8,9]) (nb:=3) (fun(_:Unit) i=>⟨[(0,.flat (.string (S s))),(4,.ptr 0 0),(6,.ptr 1 0),(7,.flat (.int .i64 (d:Nat))),(8,.ptr 2 0),(9,.flat (.int .i64 (i:Nat)))],[.cell 1 3,.cell 0 3],[],[(135,Aa Z0),(135,bR l w k 0),(137,ib a)]⟩) l (fun _ _=>True)
  (fun _ i x=>if decide (x.name=a.name)then .inr (.ret,⟨[(4,.ptr 0 0),(5,.flat (.bool false))],[.cell 1 3],[],[(135,bR l w k 0),(135,bR l w k 0),(137,ib a)]⟩)else .inl ()) (fun _=>(.exit 2,⟨[(0,.flat (.string (S s))),(4,.ptr 0 0),(6,.ptr 1 0),(7,.flat (.int .i64 (d:Nat))),(8,.ptr 2 0)],[.cell 1 3,.cell 0 3],[],[(135,Aa Z0),(135,bR l w k 0),(137,ib a)]⟩)) (fun _ i x _ j q e=>?_) (fun _ _=>by simp only[go_sem,simprocAttr]) (fun _ _ _ _ _ _ _ _=>trivial) (fun _ _ x r h=>by split at h<;>simp at h;rw[<-h];simp) (fun _ _=>?_) (fun _=>by simp) () trivial Kh
 ·simp only[n0]at b
  rw[b];rcases eI (p:=fun x=>decide (x.name=a.name)) (fin:=fun _=>(.exit 2,⟨[(0,.flat (.string (S s))),(4,.ptr 0 0),(6,.ptr 1 0),(7,.flat (.int .i64 (d:Nat))),(8,.ptr 2 0)],[.cell 1 3,.cell 0 3],[],[(135,Aa Z0),(135,bR l w k 0),(137,ib a)]⟩)) (g:=fun _=>(.ret,⟨[(4,.ptr 0 0),(5,.flat (.bool false))],[.cell 1 3],[],[(135,bR l w k 0),(135,bR l w k 0),(137,ib a)]⟩)) l 0 with⟨e,n⟩|⟨e,j,n,o⟩
  ·rw[n,e];rfl
  ·rw[o,e];rfl
 ·have j:=RI q
  simp only[ib,ub,Gb]at j⊢;simp only[bR,Aa];have n:Aa Z0=[.flat (.int .u8 0),.flat (.string (S [])),.flat (.string (S [])),.ha 0 [],.flat (.int .i64 0),.flat (.int .i64 0)]:=rfl;by_cases h:x.name=a.name
  ·have e:=eq_true h
   simp only[e,decide_true,if_true];exact Zf zG @Ff @be
  ·have e:=eq_false h
   simp only[e,decide_false,Fa,if_false];exact Zf zG @Ff @be
 ·simp only[bR,Aa,ib]
  exact va zG
def A7{s}{l}{k}(a:(ch s k).length=0)(b:Wa s [62] (k+(ch s k).length)=false):Of s (l,k)=.inr none:=by
 grind [Of]
theorem E7(s w)(hs:s.length<=100000000)(fr)(l)(k)(U:k<=s.length)(hlZ:l.length<=k):
 match Of s (l,k)with
 | .inl c=>pa (fa code lib) ka Gr ⟨[(0,.flat (.string (S s))),(1,.flat (.int .i64 (k:Nat))),(4,.ptr 0 0),(6,.ptr 1 0)],[.cell 1 3,.cell 0 3],[],[(135,Aa Z0),(135,bR l w fr 0)]⟩=some (.normal,⟨[(0,.flat (.string (S s))),(1,.flat (.int .i64 (c.2:Nat))),(4,.ptr 0 0),(6,.ptr 1 0)],[.cell 1 3,.cell 0 3],[],[(135,Aa Z0),(135,bR c.1 w fr 0)]⟩)
 | .inr (some c)=>pa (fa code lib) ka Gr ⟨[(0,.flat (.string (S s))),(1,.flat (.int .i64 (k:Nat))),(4,.ptr 0 0),(6,.ptr 1 0)],[.cell 1 3,.cell 0 3],[],[(135,Aa Z0),(135,bR l w fr 0)]⟩=some (.ret,⟨[(4,.ptr 0 0),(5,.flat (.bool true))],[.cell 1 3],[],[(135,bR c.1 w fr c.2),(135,bR c.1 w fr c.2)]⟩)
 | .inr none=>∃t ys,pa (fa code lib) ka Gr ⟨[(0,.flat (.string (S s))),(1,.flat (.int .i64 (k:Nat))),(4,.ptr 0 0),(6,.ptr 1 0)],[.cell 1 3,.cell 0 3],[],[(135,Aa Z0),(135,bR l w fr 0)]⟩=some (.ret,⟨[(4,.ptr 0 0),(5,.flat (.bool false))],[.cell 1 3],[],(135,Aa t)::ys⟩):=by
 have hzZ:(⟨#[]⟩:ByteArray)=S []:=rfl;have X:Aa Z0=[.flat (.int .u8 0),.flat (.string (S [])),.flat (.string (S [])),.ha 0 [],.flat (.int .i64 0),.flat (.int .i64 0)]:=rfl;have d:((UInt8.toNat 111:Nat):Int)=111:=rfl;have I:((UInt8.toNat 34:Nat):Int)=34:=rfl;have J:((UInt8.toNat 60:Nat):Int)=60:=rfl;have o:=ry U;have R:=xV (lib:=lib) s k aa U;have z:=@A7 s l k
 have i:Of s (l,k)=(if Wa s [62] (k+(ch s k).length)then .inr (some (l,k+(ch s k).length+1))
  else match Co s (k+(ch s k).length)with
  |none=>.inr none
  |some (a,e)=>if(ch s k).length=0\/(l.any fun b=>decide (b.name=a.name))=true then .inr none else .inl (l++[a],e)):=rfl
 obtain⟨g,hgZ⟩:∃g,ch s k=g:=⟨_,rfl⟩;rw[hgZ]at R o z i;obtain⟨j,O⟩:∃j,k+g.length=j:=⟨_,rfl⟩;rw[O]at R o z i;have T:=bj (lib:=lib) s [62] j aa ga aa;have r:=Um o;have Y:=pI (lib:=lib) s j aa o;have L:=zD (lib:=lib) Ok (Ib s j) ga;have hat:=WU (lib:=lib);have n:=bj (lib:=lib) s [61,34] (j+(Ib s j).length) aa ga aa;unfold Co at i;obtain⟨x,hxZ⟩:∃x,Ib s j=x:=⟨_,rfl⟩;rw[hxZ]at Y L n r i;obtain⟨B,P⟩:∃B,j+x.length=B:=⟨_,rfl⟩;rw[P]at n r i;have V:(j:Int)+(x.length:Int)=(B:Nat):=aa
 simp only[bR,Aa,n0,d];cases H:Wa s [62] j with
 |true=>
  rw[H]at T i;simp only[if_true]at i;rw[i];dsimp only;exact Zf wm @Ff @be
 |false=>
  rw[H]at T;by_cases D:g.length=0
  ·have N:=eq_true aa
   rw[z D H];dsimp only;refine⟨⟨111,w,[],l,fr,0⟩,[(135,Aa ⟨111,w,[],l,fr,0⟩),(137,ib ⟨x,[],0,0⟩)],?_⟩;simp only[Aa,ib,d,n0];exact Zf wm @Ff @be
  ·have N:(j=k)=False:=eq_false aa
   rw[H]at i;simp only[Fa,if_false,D,false_or]at i;rw[i];cases C:Ok.contains x with
   |false=>
    rw[C]at L;simp only[Wc,Fa,if_false];refine⟨⟨111,w,[],l,fr,0⟩,[(135,Aa ⟨111,w,[],l,fr,0⟩),(137,ib ⟨x,[],0,0⟩)],?_⟩;simp only[Aa,ib,d,n0];exact me wm @Od @Ff @be
   |true=>
    rw[C]at L;simp only[pc];cases A:Wa s [61,34] B with
    |false=>
     rw[A]at n;simp only[Fa,if_false];refine⟨⟨111,w,[],l,fr,0⟩,[(135,Aa ⟨111,w,[],l,fr,0⟩),(137,ib ⟨x,[],0,0⟩)],?_⟩;simp only[Aa,ib,d,n0];exact me wm @Od @Ff @be
    |true=>
     rw[A]at n;have F:=it r (by rw[<-Gh r];exact A);simp only[za,ya,sc,Nat.reduceAdd]at F;simp only[if_true];obtain⟨u,Q⟩:∃u,B+2=u:=⟨_,rfl⟩;rw[Q]at F⊢;have W:(B:Int)+2=(u:Nat):=aa
     have G:=RS (lib:=lib) s 34 60 u hs F;rw[I,J]at G;have y:=tZ (lib:=lib) s w fr j ⟨x,[],0,0⟩ l aa [];simp only[bR,Aa,ib,d,n0]at y;cases K:ti s 34 60 u with
     |none=>
      rw[K]at G;cases h:l.any (fun c=>decide (c.name=x))with
      |true=>
       simp only[h,if_true]at y;refine⟨⟨111,w,[],l,fr,0⟩,[(135,Aa ⟨111,w,[],l,fr,0⟩),(137,ib ⟨x,[],0,0⟩)],?_⟩;simp only[Aa,ib,d,n0];exact me wm @Od @Ff @be
      |false=>
       simp only[h,Fa,if_false]at y;refine⟨⟨111,w,[],l,fr,0⟩,[(135,Aa ⟨111,w,[],l,fr,0⟩),(137,ib ⟨x,[],u,0⟩)],?_⟩;simp only[Aa,ib,d,n0];exact me wm @Od @Ff @be
     |some q=>
      obtain⟨v,p⟩:=q;rw[K]at G;have M:=ut F K;dsimp only at G M⊢;by_cases E:p<s.length
      ·simp only[E,if_true]
       cases h:l.any (fun c=>decide (c.name=x))with
       |true=>
        simp only[h,if_true]at y⊢;refine⟨⟨111,w,[],l,fr,0⟩,[(135,Aa ⟨111,w,[],l,fr,0⟩),(137,ib ⟨x,[],0,0⟩)],?_⟩;simp only[Aa,ib,d,n0];exact me wm @Od @Ff @be
       |false=>
        simp only[h,Fa,if_false]at y⊢;have Z:qc l++[PV.flat (.string (S x)),.flat (.string (S v)),.flat (.int .i64 (u:Nat)),.flat (.int .i64 (p:Nat))]=qc (l++[⟨x,v,u,p⟩]):=by rw[<-QI];rfl
        have hbd:l.length+1<=Da:=Me
        exact Zk wm @Od @Ff @be @Ja.{0}
      ·simp only[E,if_false]
       cases h:l.any (fun c=>decide (c.name=x))with
       |true=>
        simp only[h,if_true]at y;refine⟨⟨111,w,[],l,fr,0⟩,[(135,Aa ⟨111,w,[],l,fr,0⟩),(137,ib ⟨x,[],0,0⟩)],?_⟩;simp only[Aa,ib,d,n0];exact me wm @Od @Ff @be
       |false=>
        simp only[h,Fa,if_false]at y;refine⟨⟨111,w,[],l,fr,0⟩,[(135,Aa ⟨111,w,[],l,fr,0⟩),(137,ib ⟨x,[],u,0⟩)],?_⟩;simp only[Aa,ib,d,n0];exact me wm @Od @Ff @be
theorem D7(s)(hs:s.length<=100000000)(fr)(z:fr+1<=s.length):
 match(if Vf.contains (Ib s (fr+1))then tk s (fr+1+(Ib s (fr+1)).length)else none)with
 |some (l,p)=>fa code lib 196 [.flat (.string (S s)),.flat (.int .i64 (fr:Nat))] [] []=some ([.agg (Aa ⟨111,Ib s (fr+1),[],l,fr,p⟩),.flat (.bool true)],false,[],[])
 |none=>∃t,fa code lib 196 [.flat (.string (S s)),.flat (.int .i64 (fr:Nat))] [] []=some ([.agg (Aa t),.flat (.bool false)],false,[],[]):=by
 have C:(⟨#[]⟩:ByteArray)=S []:=rfl;have u:Aa Z0=[.flat (.int .u8 0),.flat (.string (S [])),.flat (.string (S [])),.ha 0 [],.flat (.int .i64 0),.flat (.int .i64 0)]:=rfl;have b:((UInt8.toNat 111:Nat):Int)=111:=rfl;have y:=pI (lib:=lib) s (fr+1) aa z;have v:=zD (lib:=lib) Vf (Ib s (fr+1)) ga;have A:=IQ (lib:=lib);have k:=Um z;simp only[Wi,Xi]at y;obtain⟨w,B⟩:∃w,Ib s (fr+1)=w:=⟨_,rfl⟩;rw[B]at y v k⊢;cases e:Vf.contains w with
 |false=>
  rw[e]at v;simp only[Fa,if_false];refine⟨⟨111,w,[],[],fr,0⟩,?_⟩;simp only[Aa,qc,ph,ya,b,n0];refine ma GC (qa rfl) ?_;exact va @Od
 |true=>
  rw[e]at v;simp only[if_true]
  have hrel:=In (body:=pa (fa code lib) ka Gr) (live:=[0,1,4,6]) (nb:=2)
   (fun(_:Unit)(q:List Nj×Nat)=>(⟨[(0,.flat (.string (S s))),(1,.flat (.int .i64 (q.2:Nat))),(4,.ptr 0 0),(6,.ptr 1 0)],[.cell 1 3,.cell 0 3],[],[(135,Aa Z0),(135,bR q.1 w fr 0)]⟩:St))
   (Of s) none (fun a o st=>match a with
     |some c=>o=.ret/\st=⟨[(4,.ptr 0 0),(5,.flat (.bool true))],[.cell 1 3],[],[(135,bR c.1 w fr c.2),(135,bR c.1 w fr c.2)]⟩
     |none=>o=.ret/\∃t ys,st=⟨[(4,.ptr 0 0),(5,.flat (.bool false))],[.cell 1 3],[],(135,Aa t)::ys⟩)
   (fun a=>a.2<=s.length/\a.1.length<=a.2) (fun a=>s.length - a.2) (fun _ ⟨l,j⟩ g=>?_) (fun _ ⟨l,j⟩ g=>?_) (fun a c g h=>Jz a c g h) (n:=s.length+1) (m:=ka) () ([],fr+1+w.length) ⟨k,Za _⟩ aa (by grind [ka])
  ·obtain⟨o,st,r,i⟩:=hrel
   have d:hc (Of s) none (s.length+1) ([],fr+1+w.length)=tk s (fr+1+w.length):=rfl;rw[d]at i;simp only[u,bR]at r;simp only[Aa,b,n0,qc,ph,ya,Wi,Xi]at r;cases x:tk s (fr+1+w.length)with
   |some c=>
    rw[x]at i;obtain⟨rfl,rfl⟩:=i;dsimp only;refine ma GC (qa rfl) ?_;simp only[bR,Aa,b]at r⊢;exact Zf @Od @be @Sl
   |none=>
    rw[x]at i;obtain⟨rfl,t,ys,rfl⟩:=i;dsimp only;refine⟨t,?_⟩;refine ma GC (qa rfl) ?_;simp only[Aa]at r⊢;exact Zf @Od @be @Sl
  ·have:=E7 (lib:=lib) s w hs fr l j g.1 g.2
   cases d:Of s (l,j)with
   |inl c=>rw[d]at this;exact⟨(),this⟩
   |inr c=>
    rw[d]at this;cases c with
    |none=>
     obtain⟨t,ys,i⟩:=this;exact⟨_,_,i,da,rfl,t,ys,rfl⟩
    |some c=>exact⟨_,_,this,da,rfl,rfl⟩
  ·exact ta
theorem u7(s)(hs:s.length<=100000000)(k)(J:k<s.length):
 match pk s k with
 |some t=>fa code lib 123 [.flat (.string (S s)),.flat (.int .i64 (k:Nat))] [] []=some ([.agg (Aa t),.flat (.bool true)],false,[],[])
 |none=>∃t,fa code lib 123 [.flat (.string (S s)),.flat (.int .i64 (k:Nat))] [] []=some ([.agg (Aa t),.flat (.bool false)],false,[],[]):=by
 have C:(⟨#[]⟩:ByteArray)=S []:=rfl;have G:Aa Z0=[.flat (.int .u8 0),.flat (.string (S [])),.flat (.string (S [])),.ha 0 [],.flat (.int .i64 0),.flat (.int .i64 0)]:=rfl;have b:((UInt8.toNat 99:Nat):Int)=99:=rfl;have g:((UInt8.toNat 116:Nat):Int)=116:=rfl;have D:((UInt8.toNat 60:Nat):Int)=60:=rfl;have E:((UInt8.toNat 62:Nat):Int)=62:=rfl;have v:s[k]?=some s[k]:=qe J;obtain⟨c,I⟩:∃c,s[k]=c:=⟨_,rfl⟩;rw[I]at v;have d:k<=s.length:=aa
 have B:Wa s [60] k=decide (c.toNat=60):=by
  rw[Gh d,ZG,v,decide_eq_decide,Xb];exact⟨fun h=>by simp_all,fun h=>Yb.1 h⟩
 have n:=bj (lib:=lib) s [60,47] k aa ga aa;unfold pk;cases j:Wa s [60,47] k with
 |true=>
  rw[j]at n;have a:(c.toNat=60)=True:=eq_true (by
   grind [Gh,List.drop_eq_getElem_cons])
  have F:=it d (by rw[<-Gh d];exact j);simp only[if_true,za,ya,sc,Nat.reduceAdd]at F⊢;have u:=pI (lib:=lib) s (k+2) aa F;have H:=Um F;have i:=zD (lib:=lib) Vf (Ib s (k+2)) ga;have r:=eU (lib:=lib) (Ib s (k+2));have e:=IQ (lib:=lib);have o:=bj (lib:=lib) s [62] (k+2+(Ib s (k+2)).length) aa ga aa;simp only[Wi,JA]at u o;obtain⟨w,K⟩:∃w,Ib s (k+2)=w:=⟨_,rfl⟩;rw[K]at u i r o H⊢;have e2:((2:Nat):Int)=2:=rfl;have e5:k+2+w.length+1=k+(2+w.length+1):=aa
  cases y:Vf.contains w with
  |false=>
   rw[y]at i;simp only[Wc,Fa,if_false];refine⟨⟨99,w,[],[],k,k+2+w.length+1⟩,?_⟩;simp only[Aa,b,qc,ph,ya];refine ma To (qa rfl) ?_;simp(maxSteps:=999999) (disch:=first|assumption|omega) only[go_sem,simprocAttr,au,C,v,a,n,u,i,e,e2,Od]
  |true=>
   rw[y]at i;cases z:xi w with
   |true=>
    rw[z]at r;simp only[Ui,Wc,fg,Fa,if_false];refine⟨⟨99,w,[],[],k,k+2+w.length+1⟩,?_⟩;simp only[Aa,b,qc,ph,ya];refine ma To (qa rfl) ?_;simp(maxSteps:=999999) (disch:=first|assumption|omega) only[go_sem,simprocAttr,au,C,v,a,n,u,i,r,e,e2,Od]
   |false=>
    rw[z]at r;cases A:Wa s [62] (k+2+w.length)with
    |false=>
     rw[A]at o;simp only[Gj,fg,Fa,if_false];refine⟨⟨99,w,[],[],k,k+2+w.length+1⟩,?_⟩;simp only[Aa,b,qc,ph,ya];refine ma To (qa rfl) ?_;simp(maxSteps:=999999) (disch:=first|assumption|omega) only[go_sem,simprocAttr,au,C,v,a,n,u,i,r,o,e,e2,Od]
    |true=>
     rw[A]at o;simp only[Gj,tf,if_true];simp only[Aa,b,qc,ph,ya];refine ma To (qa rfl) ?_;simp(maxSteps:=999999) (disch:=first|assumption|omega) only[go_sem,simprocAttr,au,C,v,a,n,u,i,r,o,e,e2,Od]
 |false=>
  rw[j]at n;simp only[Fa,if_false];rw[B];by_cases o:c.toNat=60
  ·have a:=eq_true o
   have i:=D7 (lib:=lib) s hs k aa;simp only[o,decide_true,if_true];obtain⟨x,r⟩:∃x,(if Vf.contains (Ib s (k+1))then tk s (k+1+(Ib s (k+1)).length)else none)=x:=⟨_,rfl⟩;have e:(if Vf.contains (Ib s (k+1))then(tk s (k+1+(Ib s (k+1)).length)).map (fun q=>(⟨111,Ib s (k+1),[],q.1,k,q.2⟩:Tok))else none)=x.map (fun q=>(⟨111,Ib s (k+1),[],q.1,k,q.2⟩:Tok)):=by
    rw[<-r];split<;>rfl
   rw[e];rw[r]at i;cases x with
   |none=>
    obtain⟨t,i⟩:=i;simp only[Vi];refine⟨t,?_⟩;simp only[Aa]at i⊢;refine ma To (qa rfl) ?_;exact Rc @be @Sl
   |some q=>
    obtain⟨l,p⟩:=q;simp only[kd];simp only[Aa]at i⊢;refine ma To (qa rfl) ?_;exact Rc @be @Sl
  ·have a:=eq_false o
   have e:=RS (lib:=lib) s 60 62 k hs d;rw[D,E]at e;simp only[o,decide_false,Fa,if_false];cases i:ti s 60 62 k with
   |none=>
    rw[i]at e;simp only[Vi];refine⟨⟨116,[],[],[],k,0⟩,?_⟩;simp only[Aa,g,qc,ph,ya,n0];refine ma To (qa rfl) ?_;exact Rc @be @Sl
   |some q=>
    obtain⟨x,p⟩:=q;rw[i]at e;simp only[kd];simp only[Aa,g,qc,ph,ya];refine ma To (qa rfl) ?_;exact Rc @be @Sl
theorem zdj(s)(hs:s.length<=100000000):
 fa code lib 60 [.flat (.string (S s))] [] []=match eo s with
 |some l=>some ([.ha l.length (Kc l),.flat (.int .i64 0)],false,[],[])
 |none=>some ([.ha 0 [],.flat (.int .i64 7)],false,[],[]):=by
 have r:(⟨#[]⟩:ByteArray)=S []:=rfl;have e:=dP (lib:=lib) s (by grind [Sm])
 have hrel:=In (body:=pa (fa code lib) ka CB) (live:=[0,4,5]) (nb:=0) (fun(_:Unit)(q:List Tok×Nat)=>(⟨[(0,.flat (.string (S s))),(4,.ha q.1.length (Kc q.1)),(5,.flat (.int .i64 (q.2:Nat)))],[.slot 4],[],[]⟩:St))
  (Dk s) none (fun q o st=>match q with
    |some l=>o=.exit 0/\st=⟨[(4,.ha l.length (Kc l))],[.slot 4],[],[]⟩
    |none=>o=.ret/\∃y,st=⟨[(2,.ha 0 []),(3,.flat (.int .i64 7))],[.slot 2],[],[y]⟩) (fun q=>q.2<=s.length/\q.1.length<=q.2) (fun q=>s.length - q.2) (fun _ ⟨l,j⟩ g=>?_) (fun _ ⟨l,j⟩ g=>?_) (fun a c b h=>RH (fun k t=>fG) a c b h) (n:=s.length+1) (m:=ka) () ([],0) ⟨Za _,la _⟩ aa (by grind [ka])
 ·unfold eo
  cases i:ni s with
  |false=>
   rw[i]at e;simp only[Fa,if_false];refine ma FC (qa rfl) ?_;exact ta
  |true=>
   rw[i]at e;simp only[if_true];obtain⟨o,st,p,b⟩:=hrel;simp only[Kc,ph,ya,n0]at p;cases d:hc (Dk s) none (s.length+1) ([],0)with
   |some l=>
    rw[d]at b;obtain⟨rfl,rfl⟩:=b;refine ma FC (qa rfl) ?_;exact va @dr
   |none=>
    rw[d]at b;obtain⟨rfl,y,rfl⟩:=b;refine ma FC (qa rfl) ?_;exact va @dr
 ·dsimp only at g⊢
  unfold Dk;dsimp only;by_cases ea:s.length<=j
  ·simp only[ea,if_true]
   refine⟨.exit 0,⟨[(4,.ha l.length (Kc l))],[.slot 4],[],[]⟩,?_,da,rfl,rfl⟩;exact va xG
  ·simp only[ea,if_false]
   have b:=u7 (lib:=lib) s hs j aa;cases d:pk s j with
   |none=>
    rw[d]at b;obtain⟨t,b⟩:=b;refine⟨.ret,⟨[(2,.ha 0 []),(3,.flat (.int .i64 7))],[.slot 2],[],[(135,Aa t)]⟩,?_,da,rfl,_,rfl⟩;simp only[Aa]at b⊢;exact Zf xG @be @Sl
   |some t=>
    rw[d]at b;refine⟨(),?_⟩;simp only[Aa]at b⊢;have p:l.length+1<=Da:=Me
    have i:Kc l++[.flat (.int .u8 t.kind.toNat),.flat (.string (S t.name)),.flat (.string (S t.text)),.ha t.Er.length (qc t.Er),.flat (.int .i64 (t.fr:Nat)),.flat (.int .i64 (t.to:Nat))]=Kc (l++[t]):=by rw[<-NT];rfl
    exact Bn xG @zf @be @Sl @dr @Ja.{0}
 ·exact ta
def Ii(t:Tok)(op:List ba):Option (List ba):=
 if t.kind.toNat=111/\xi t.name=false then(if 32<op.length+1 then none else some (op++[t.name]))
 else if t.kind.toNat=99 then(if op.getLast?=some t.name then some op.dropLast else none)else some op
def nk(L:List Tok)(q:List ba×Nat):(List ba×Nat) ⊕ Option (List ba):=match L[q.2]? with
 |none=>.inr (some q.1)
 |some t=>match Ii t q.1 with
  |none=>.inr none
  |some op=>.inl (op,q.2+1)
def Mn(L:List Tok):Bool:=decide (hc (nk L) none (L.length+1) ([],0)=some [])
theorem V6{t}{op a}(h:op.length<=32)(b:Ii t op=some a):a.length<=32:=by
 grind [Ii]
def U6(L):∀a b,(a.2<=L.length/\a.1.length<=32)->nk L a=.inl b->(b.2<=L.length/\b.1.length<=32)/\L.length - b.2<L.length - a.2:=by
 grind [nk,V6]
def OT{l}{k}{x}(h:l[k]?=some x):(Kc l).drop (k* 6)=Aa x++Kc (l.drop (k+1)):=by
 induction l generalizing k with
 |nil=>cases h
 |cons a l b=>
  show(Aa a++Kc l).drop _=_;cases k with
  |zero=>
   grind
  |succ k=>
   rw[kr]at h;have e:(k+1)* 6=6+k* 6:=aa
   rw[e,<-rf];show(Kc l).drop _=_
   grind
def BP{op}{n}(h:op.length=n+1):∃x,op[n]?=some x/\op.getLast?=some x/\op.dropLast=op.take n/\(ua op).drop n=[.flat (.string (S x))]:=by
 have ea:n<op.length:=aa
 refine⟨op[n],qe ea,?_,?_,?_⟩
 ·grind
 ·grind [List.dropLast_eq_take]
 grind [ua.eq_1,List.drop_eq_getElem_cons]
def W6(L)(J:L.length<=1000000000):fa code lib 65 [.ha L.length (Kc L)] [] []=some ([.flat (.bool (Mn L))],false,[],[]):=by
 have hrel:=In (body:=pa (fa code lib) ka BB) (live:=[0,3,4]) (nb:=0) (fun(o:Bool)(q:List ba×Nat)=>(⟨[(0,.ha L.length (Kc L)),(3,.ha q.1.length (ua q.1)),(4,.flat (.int .i64 (q.2:Nat)))],if o then[.slot 3]else[],[],[]⟩:St))
  (nk L) none (fun q o st=>match q with
    |some op=>o=.exit 0/\∃b:Bool,st=⟨[(3,.ha op.length (ua op))],if b then[.slot 3]else[],[],[]⟩
    |none=>o=.ret/\st=⟨[(2,.flat (.bool false))],[],[],[]⟩) (fun q=>q.2<=L.length/\q.1.length<=32) (fun q=>L.length - q.2) (fun o ⟨op,k⟩ C=>?_) (fun o ⟨op,k⟩ C=>?_) (U6 L) (n:=L.length+1) (m:=ka) true ([],0) ⟨Za _,da⟩ aa (by grind [ka])
 ·obtain⟨o,st,d,a⟩:=hrel
  unfold Mn;simp only[ua,Bf,ya,n0,if_true]at d;cases c:hc (nk L) none (L.length+1) ([],0)with
  |none=>
   rw[c]at a;obtain⟨rfl,rfl⟩:=a;refine ma zM (qa rfl) ?_;exact ta
  |some op=>
   rw[c]at a;obtain⟨rfl,b,rfl⟩:=a;have g:(op.length=0)=(op=[]):=propext List.length_eq_zero_iff;refine ma zM (qa rfl) ?_;by_cases e:op=[]
   ·subst e
    cases b
    ·exact ta
    ·exact ta
   ·have p:=eq_false e
    have r:=fun h=>e (qz h)
    cases b
    ·exact ta
    ·exact ta
 ·dsimp only at C
  dsimp only;unfold nk;dsimp only;have a:(if o=true then[Loc.slot 3]else[])=[Loc.slot 3]\/(if o=true then[Loc.slot 3]else[])=([]:List Loc):=by cases o<;>simp
  by_cases F:k<L.length
  ·have u:=qe F
   obtain⟨t,ht⟩:∃t,L[k]=t:=⟨_,rfl⟩;rw[ht]at u;have i:=OT u;simp only[Aa,ub,Gb]at i;have D:=eU (lib:=lib) t.name;have E:op.length<=Da:=Me
   have B:op.length+1<=Da:=Me
   have H:ua op++[PV.flat (.string (S t.name))]=ua (op++[t.name]):=by rw[<-Al];rfl
   simp only[u];unfold Ii;by_cases p:t.kind.toNat=111
   ·have g:=eq_true p
    have d:(t.kind.toNat=99)=False:=eq_false aa;cases j:xi t.name with
    |true=>
     rw[j]at D;simp only[p,Hw,and_false,if_false];refine⟨o,?_⟩;rcases a with a|a<;>rw[a]
     ·exact me Sh @zf @bc @Xe
     ·exact me Sh @zf @bc @Xe
    |false=>
     rw[j]at D;simp only[p,and_self,if_true];by_cases c:32<op.length+1
     ·simp only[c,if_true]
      refine⟨.ret,⟨[(2,.flat (.bool false))],[],[],[]⟩,?_,da,rfl,rfl⟩;rcases a with a|a<;>rw[a]
      ·exact Zk Sh @zf @bc @Xe @Ja.{0}
      ·exact Zk Sh @zf @bc @Xe @Ja.{0}
     ·simp only[c,if_false]
      refine⟨true,?_⟩;rcases a with a|a<;>rw[a]
      ·exact Zk Sh @zf @bc @Xe @Ja.{0}
      ·exact Zk Sh @zf @bc @Xe @Ja.{0}
   ·have g:=eq_false p
    by_cases r:t.kind.toNat=99
    ·have d:=eq_true r
     simp only[r,if_true];by_cases e:op=[]
     ·subst e
      simp only[List.getLast?_nil,reduceCtorEq,if_false];refine⟨.ret,⟨[(2,.flat (.bool false))],[],[],[]⟩,?_,da,rfl,rfl⟩;rcases a with a|a<;>rw[a]
      ·exact me Sh @zf @bc @Xe
      ·exact me Sh @zf @bc @Xe
     ·obtain⟨n,G⟩:∃n,op.length=n+1:=⟨op.length - 1,by have:op.length≠0:=fun h=>e (qz h);omega⟩
      obtain⟨x,I,z,A,j⟩:=BP G;have en:(op.length:Int) - 1=(n:Nat):=aa
      have w:IntKind.i64.wrap ((op.length:Int) - 1)=(n:Nat):=by rw[wrap64 aa];omega
      rw[z,A];by_cases l:x=t.name
      ·have c:=eq_true l
       simp only[Xb,c,if_true];refine⟨false,?_⟩;have v:(ua op).take n=ua (op.take n):=by simp only[ua,List.map_take]
       have y:(op.take n).length=n:=by rw[Ac];omega
       simp only[y,Fa,if_false];rcases a with a|a<;>rw[a]
       ·simp(maxSteps:=999999) (disch:=first|assumption|omega) only[go_sem,simprocAttr,au,Sh,i,g,d,j,c,w,v,zf,bc,Xe,qo]
       ·simp(maxSteps:=999999) (disch:=first|assumption|omega) only[go_sem,simprocAttr,au,Sh,i,g,d,j,c,w,v,zf,bc,Xe,qo]
      ·have c:=eq_false l
       have v:(some x=some t.name)=False:=eq_false (fun h=>l ia);simp only[c,Xb,if_false];refine⟨.ret,⟨[(2,.flat (.bool false))],[],[],[]⟩,?_,da,rfl,rfl⟩;rcases a with a|a<;>rw[a]
       ·simp(maxSteps:=999999) (disch:=first|assumption|omega) only[go_sem,simprocAttr,au,Sh,i,g,d,j,c,w,zf,bc,Xe]
       ·simp(maxSteps:=999999) (disch:=first|assumption|omega) only[go_sem,simprocAttr,au,Sh,i,g,d,j,c,w,zf,bc,Xe]
    ·have d:=eq_false r
     simp only[p,r,false_and,if_false];refine⟨o,?_⟩;rcases a with a|a<;>rw[a]
     ·exact me Sh @zf @bc @Xe
     ·exact me Sh @zf @bc @Xe
  ·have u:L[k]?=none:=Ie aa
   simp only[u];refine⟨.exit 0,⟨[(3,.ha op.length (ua op))],if o then[.slot 3]else[],[],[]⟩,?_,da,rfl,o,rfl⟩;rcases a with a|a<;>rw[a]
   ·exact Rc Sh @zf
   ·exact Rc Sh @zf
 ·cases o<;>dsimp only
  ·exact ta
  ·exact ta
def Wh:ba->ba->Bool
 |[],_=>false
 |x::l,w=>w.isPrefixOf (x::l)||Wh l w
theorem lU{s w:ba}{r}{fin}:∀(t:ba)(k),s.drop k=t->k+t.length=s.length->jd (fun(_:Unit) k(_:UInt8)=>if Wa s w k then .inr r else .inl ()) fin () k t=if Wh t w then r else fin ()
 |[],k,_,_=>rfl
 |x::t,k,h,b=>by
  have a:k<=s.length:=aa
  have ht:=XC h;rw[jd,Wh,Gh a,h];cases c:w.isPrefixOf (x::t)with
  |true=>rfl
  |false=>
   simp only[Fa,if_false,Ch];exact lU t (k+1) ht ia
def BH(s w)(hs:s.length<=100000000)(e:w.length<=100000000):fa code lib 64 [.flat (.string (S s)),.flat (.string (S w))] [] []=some ([.flat (.bool (Wh s w))],false,[],[]):=by
 have a:=Nf (body:=pa (fa code lib) ka MB) (live:=[0,1,5]) (nb:=0) (fun(_:Unit) k=>⟨[(0,.flat (.string (S s))),(1,.flat (.string (S w))),(5,.flat (.int .i64 (k:Nat)))],[],[],[]⟩) s (fun _ _=>True)
  (fun _ k(_:UInt8)=>if Wa s w k then .inr (.ret,⟨[(4,.flat (.bool true))],[],[],[]⟩)else .inl ()) (fun _=>(.exit 0,⟨[],[],[],[]⟩)) (fun _ k x _ d b c=>?_) (fun _ _=>by simp only[go_sem,simprocAttr]) (fun _ _ _ _ _ _ _ _=>trivial) (fun _ _ x r h=>by split at h<;>simp at h;rw[<-h];simp) (fun _ _=>?_) (fun _=>by simp) () trivial Kh
 ·rw[lU s 0 rfl aa]at a
  simp only[n0]at a;refine ma IX (qa rfl) ?_;cases b:Wh s w with
  |true=>
   simp only[b,if_true]at a;exact ta
  |false=>
   simp only[b,Fa,if_false]at a;exact ta
 ·have b:=bj (lib:=lib) s w k aa aa aa
  cases c:Wa s w k with
  |true=>
   rw[c]at b;simp only[if_true];exact va CG
  |false=>
   rw[c]at b;simp only[Fa,if_false];exact va CG
 ·exact va CG
def Eo:ba:=[60,62,40,41,91,93,44,59,58,34,92]
def rk(c:UInt8):Bool:=!(decide (c.toNat<=32)||(decide (126<c.toNat)||Eo.contains c))
theorem CH(c):∀s,Wh s [c]=s.contains c
 |[]=>rfl
 |x::l=>by
  rw[Wh,List.contains_cons,CH c l]
  grind
def Fe(c:UInt8):ba->Option Nat
 |[]=>none
 |x::l=>match Fe c l with
  |some i=>some (i+1)
  |none=>if x=c then some 0 else none
def Tw(s:ba):Bool:=s.all rk&&(decide (3<=s.length)&&(decide (s.length<=60)&&((match Zb 64 s with|none=>false|some i=>decide (0<i)&&(decide (i+1<s.length)&&decide (Fe 64 s=some i)))&& !Wh s [61,63])))
def Tl(s:ba):Bool:=!(decide (s.length<3)||(decide (60<s.length)||(decide (s[0]?=some 64)||(decide (s[s.length - 1]?=some 64)||Wh s [61,63]))))&&(s.all rk&&decide (s.count 64=1))
def hu(lib:Callee):Prop:=∀(s:ba)(c:UInt8),s.length<=1000000000->lib 157 [.flat (.string (S s)),.flat (.int .u8 c.toNat)] [] []=some ([.flat (.int .i64 (match Fe c s with|some i=>(i:Int)|none=>-1))],false,[],[])
def eu(lib:Callee):Prop:=∀s:ba,s.length<=1000000000->lib 158 [.flat (.string (S s)),.flat (.string (S [61,63]))] [] []=some ([.flat (.bool (Wh s [61,63]))],false,[],[])
def WI(w:Cf lib)(B:hu lib)(A:eu lib)(s)(hs:s.length<=100000000):fa code lib 94 [.flat (.string (S s))] [] []=some ([.flat (.bool (Tw s))],false,[],[]):=by
 have a:=Nf (body:=pa (fa code lib) ka hB) (live:=[0,6,7]) (nb:=0) (fun(_:Unit) k=>⟨[(0,.flat (.string (S s))),(6,.flat (.int .i64 (s.length:Nat))),(7,.flat (.int .i64 (k:Nat)))],[],[],[]⟩) s (fun _ _=>True)
  (fun _ k x=>if rk x then .inl ()else .inr (.ret,⟨[(2,.flat (.bool false))],[],[],[]⟩)) (fun _=>(.exit 0,⟨[(0,.flat (.string (S s)))],[],[],[]⟩)) (fun _ k c _ g d e=>?_) (fun _ _=>by simp only[go_sem,simprocAttr]) (fun _ _ _ _ _ _ _ _=>trivial) (fun _ _ x r h=>by split at h<;>simp at h;rw[<-h];simp) (fun _ _=>?_) (fun _=>by simp) () trivial Kh
 ·rw[Gt]at a
  simp only[n0]at a;have v:=dl w s 64 aa;have g:fa code lib 157 [.flat (.string (S s)),.flat (.int .u8 ((64:UInt8).toNat:Nat))] [] []=some ([.flat (.int .i64 (match Fe 64 s with|some i=>(i:Int)|none=>-1))],false,[],[]):=Ud ga ca (B s 64 aa);have l:fa code lib 158 [.flat (.string (S s)),.flat (.string (S [61,63]))] [] []=some ([.flat (.bool (Wh s [61,63]))],false,[],[]):=Ud ga ca (A s aa);have t:((UInt8.toNat 64:Nat):Int)=64:=rfl;rw[t]at v g;unfold Tw;refine ma JW (qa rfl) ?_;cases y:s.all rk with
  |false=>
   simp only[y,Fa,if_false]at a;simp only[Wc];exact ta
  |true=>
   simp only[y,if_true]at a;simp only[pc];rcases Ka (3<=s.length)with q|q
   ·rcases Ka (s.length<=60)with d|d
    ·simp only[q,d,decide_true,pc]
     cases b:Zb 64 s with
     |none=>
      simp only[b]at v;simp only[Wc];exact ta
     |some i=>
      simp only[b]at v;dsimp only;rcases Ka (0<i)with p|p
      ·rcases Ka (i+1<s.length)with u|u
       ·simp only[p,u,decide_true,pc]
        cases ea:Fe 64 s with
        |none=>
         simp only[ea]at g;simp only[reduceCtorEq,decide_false,Wc];exact ta
        |some j=>
         simp only[ea]at g;by_cases e:j=i
         ·subst e
          simp only[decide_true,pc];cases o:Wh s [61,63]with
          |true=>
           rw[o]at l;exact ta
          |false=>
           rw[o]at l;exact ta
         ·have o:(some j=some i)=False:=eq_false (fun h=>e ia)
          have z:(i=j)=False:=eq_false (fun h=>e h.symm);simp only[o,decide_false,Wc];exact ta
       ·simp only[p,u,decide_true,decide_false,pc,Wc]
        exact ta
      ·simp only[p,decide_false,Wc]
       exact ta
    ·simp only[q,d,decide_true,decide_false,pc,Wc]
     exact ta
   ·simp only[q,decide_false,Wc]
    exact ta
 ·have g:=dl w Eo c ga
  have e:Eo=[60,62,40,41,91,93,44,59,58,34,92]:=rfl;have d:=pu c Eo;unfold rk;obtain⟨n,j⟩:∃n,c.toNat=n:=⟨_,rfl⟩;cases b:Zb c Eo with
  |none=>
   rw[b]at d;simp only[b]at g;rw[<-d];rw[e,j]at g;rw[j];simp only[Tt];rcases Ka (n<=32)with l|l<;>rcases Ka (126<n)with a2|a2
   all_goals first|(exfalso;omega)|skip
   all_goals
    exact va mG
  |some i=>
   rw[b]at d;simp only[b]at g;rw[<-d];rw[e,j]at g;rw[j];simp only[Nt];rcases Ka (n<=32)with l|l<;>rcases Ka (126<n)with a2|a2
   all_goals first|(exfalso;omega)|skip
   all_goals
    exact va mG
 ·exact va mG
theorem kU{r}{fin}:∀(L:ba)(n k),jd (fun(n:Nat) _(x:UInt8)=>if rk x then .inl (if x.toNat=64 then n+1 else n)else .inr r) fin n k L=if L.all rk then fin (n+L.count 64)else r
 |[],n,k=>rfl
 |x::t,n,k=>by
  rw[jd,Mm,List.count_cons];cases b:rk x with
  |true=>
   simp only[if_true,pc];rw[kU t _ _];by_cases h:x.toNat=64
   ·have a:x=64:=Yb.1 h
    grind
   ·have a:(x==64)=false:=by simpa using fun e=>h ie
    grind
  |false=>rfl
def VI(s)(hs:s.length<=100000000):fa code lib 63 [.flat (.string (S s))] [] []=some ([.flat (.bool (Tl s))],false,[],[]):=by
 have b:=Nf (body:=pa (fa code lib) ka NB) (live:=[0,3,4]) (nb:=0) (fun(n:Nat) k=>⟨[(0,.flat (.string (S s))),(3,.flat (.int .i64 (n:Nat))),(4,.flat (.int .i64 (k:Nat)))],[],[],[]⟩) s (fun n k=>n<=k)
  (fun n k x=>if rk x then .inl (if x.toNat=64 then n+1 else n)else .inr (.ret,⟨[(2,.flat (.bool false))],[],[],[]⟩)) (fun n=>(.exit 0,⟨[(3,.flat (.int .i64 (n:Nat)))],[],[],[]⟩)) (fun n k c d g e C=>?_) (fun _ _=>by simp only[go_sem,simprocAttr]) (fun n k x a' d _ _ h=>by
    grind) (fun _ _ x r h=>by grind) (fun n i=>?_) (fun _=>by simp) 0 (la _) (by grind [ka])
 ·rw[kU,sc]at b
  simp only[n0]at b;have j:=BH (lib:=lib) s [61,63] hs ga;unfold Tl;refine ma JX (qa rfl) ?_;rcases Ka (s.length<3)with y|y
  ·simp only[y,decide_true,lr,Ui,Wc]
   exact ta
  rcases Ka (60<s.length)with d|d
  ·simp only[d,decide_true,lr,Ip,Ui,Wc]
   exact ta
  simp only[y,d,decide_false,Ch];have l:s[0]?=some s[0]:=qe aa;have o:s[s.length - 1]?=some (s[s.length - 1]' aa):=qe aa;obtain⟨a,q⟩:∃a,s[0]=a:=⟨_,rfl⟩;obtain⟨z,A⟩:∃z,s[s.length - 1]' aa=z:=⟨_,rfl⟩;rw[q]at l;rw[A]at o;rw[l,o];have D:IntKind.i64.wrap ((s.length:Int) - 1)=((s.length - 1:Nat):Int):=by rw[wrap64 aa];omega
  have t:(some a=some (64:UInt8))=(a.toNat=64):=by
   apply propext;rw[Xb];exact⟨fun h=>by simp_all,fun h=>Yb.1 h⟩
  have u:(some z=some (64:UInt8))=(z.toNat=64):=by
   apply propext;rw[Xb];exact⟨fun h=>by simp_all,fun h=>Yb.1 h⟩
  simp only[t,u];have B:s.count 64<=s.length:=List.count_le_length;rcases Ka (a.toNat=64)with g|g
  ·have v:=eq_true g
   simp only[g,decide_true,lr,Ui,Wc];exact ta
  have v:=eq_false g;rcases Ka (z.toNat=64)with i|i
  ·have w:=eq_true i
   simp only[g,i,decide_true,decide_false,Ch,lr,Ui,Wc];exact ta
  have w:=eq_false i;simp only[g,i,decide_false,Ch];cases p:Wh s [61,63]with
  |true=>
   rw[p]at j;simp only[Ui,Wc];exact ta
  |false=>
   rw[p]at j;simp only[Gj,pc];cases q:s.all rk with
   |false=>
    simp only[q,Fa,if_false]at b;simp only[Wc];exact ta
   |true=>
    simp only[q,if_true]at b;simp only[pc];rcases Ka (s.count 64=1)with e|e
    ·simp only[e,decide_true]at b⊢
     exact ta
    ·simp only[e,decide_false]
     exact ta
 ·have d:=BH (lib:=lib) Eo [c] ga da
  have e:Eo=[60,62,40,41,91,93,44,59,58,34,92]:=rfl;rw[CH]at d;have l:(s.take (k+1)).drop k=[c]:=by
   rw[Lp,C,oh];rfl
  unfold rk;obtain⟨v,o⟩:∃v,Eo.contains c=v:=⟨_,rfl⟩;rw[o]at d⊢;rw[e]at d;obtain⟨m,j⟩:∃m,c.toNat=m:=⟨_,rfl⟩;rw[j];rcases Ka (m<=32)with g|g<;>rcases Ka (126<m)with a2|a2<;>rcases Ka (m=64)with a3|a3<;>cases v
  all_goals first|(exfalso;omega)|skip
  all_goals
   first|have i:=eq_false a3|have i:=eq_true a3
   exact va tR
 ·exact va tR
theorem nJ{c}:∀{s}{i},Zb c s=some i->∃p t,s=p++c::t/\c∉p/\p.length=i
 |[],i,h=>by cases h
 |x::l,i,h=>by
  unfold Zb at h;split at h
  ·rename_i e
   cases h;simp_all
  ·rename_i e
   obtain⟨j,a,rfl⟩:=qm h;obtain⟨p,t,b,d,g⟩:=nJ a
   grind
theorem TU{c}{s}(h:Zb c s=none):c∉s:=by
 grind [pu]
theorem Kq{c}:∀{s},c∉s->Fe c s=none
 |[],_=>rfl
 |x::l,h=>by
  simp only[Wb,not_or]at h;simp only[Fe,Kq h.2]
  grind
theorem cz{c}:∀{s},c∈s->∃i,Fe c s=some i
 |[],h=>by cases h
 |x::l,h=>by
  by_cases a:c∈l
  ·obtain⟨i,b⟩:=cz a
   grind [Fe]
  ·have e:x=c:=by
    rcases Wb.1 h with e|e
    ·grind
    ·grind
   exact⟨0,by grind [Fe,Kq]⟩
theorem bz{c}{t}{i}(h:Fe c t=some i):∀p,Fe c (p++t)=some (p.length+i)
 |[]=>by grind
 |x::p=>by
  have:=bz h p
  grind [Fe]
def addr_eq(s):Tw s=Tl s:=by
 unfold Tw Tl;by_cases h:s.length<3
 ·grind
 by_cases e:60<s.length
 ·grind
 have d:3<=s.length:=aa
 have a:s.length<=60:=aa
 simp only[h,e,d,a,decide_false,decide_true,pc,Ch];cases q:s.all rk with
 |false=>simp
 |true=>
  simp only[pc];cases g:Zb 64 s with
  |none=>
   grind [TU,List.count_eq_zero]
  |some i=>
   obtain⟨p,t,rfl,o,rfl⟩:=nJ g;have b:(p++64::t).count 64=1+t.count 64:=by
    rw[List.count_append,List.count_cons_self,List.count_eq_zero.2 o];omega
   have c:(p++64::t).length=p.length+1+t.length:=by simp only[Ja,za];omega
   rw[b,c];by_cases n:(64:UInt8)∈t
   ·obtain⟨j,k⟩:=cz n
    have l:Fe 64 (p++64::t)=some (p.length+(j+1)):=bz (by simp only[Fe,k]) p
    grind
   ·have l:Fe 64 (p++64::t)=some (p.length+0):=bz (by grind [Fe,Kq]) p
    grind [Option.some.injEq]
def ju(lib:Callee):Prop:=∀L:List Tok,L.length<=1000000000->lib 162 [.ha L.length (Kc L)] [] []=some ([.flat (.bool (Mn L))],false,[],[])
def Iv(s:ba):Bool:=match eo s with
 |some l=>Mn l
 |none=>false
def WT{s}{l}(h:eo s=some l):l.length<=s.length:=by
 unfold eo at h;split at h
 ·have:=up (step:=Dk s) (d:=none) (I:=fun q=>q.2<=s.length/\q.1.length<=q.2) (μ:=fun q=>s.length - q.2) (Q:=fun r=>∀l,r=some l->l.length<=s.length) (fun a c=>by
   cases hs:Dk s a with
   |inl b=>exact RH (fun k t=>fG) a b c hs
   |inr r=>
    grind [Dk]) (s.length+1) ([],0) ⟨Za _,la _⟩ aa
  grind
 grind
def i8(d:sd lib)(b:pe lib)(c:ju lib)(s)(hs:s.length<=100000000):fa code lib 97 [.flat (.string (S s))] [] []=some ([.flat (.bool (Iv s))],false,[],[]):=by
 have ht:=zdk d b s hs;unfold Iv;refine ma LW (qa rfl) ?_;cases a:eo s with
 |none=>
  rw[a]at ht;exact ta
 |some l=>
  rw[a]at ht;have e:fa code lib 162 [.ha l.length (Kc l)] [] []=some ([.flat (.bool (Mn l))],false,[],[]):=Ud ga ca (c l (by have:=WT a;omega));exact va @QH
structure Ml where
 fr:ba
 to:ba
 su:ba
 te:ba
 ht:ba
def nc(m:Ml):List PV:=[.flat (.string (S m.fr)),.flat (.string (S m.to)),.flat (.string (S m.su)),.flat (.string (S m.te)),.flat (.string (S m.ht))]
def Ml.small(m:Ml):Prop:=m.fr.length<=10000/\m.to.length<=10000/\m.su.length<=10000/\m.te.length<=10000/\m.ht.length<=10000
def ei(m:Ml):Nat:=
 if(Tl m.fr&&Tl m.to)=false then 1
 else if Lh m.su=m.su/\Lh m.te=m.te/\Lh m.ht=m.ht/\m.su.contains 10=false/\Iv m.ht=true then 0 else 7
def BW(r:Cf lib)(y:hu lib)(x:eu lib)(B:sd lib)(q:pe lib)(A:ju lib)(m)(H:m.small):fa code lib 47 [.agg (nc m)] [] []=some ([.flat (.int .i64 (ei m:Nat))],false,[],[]):=by
 obtain⟨fr,to,su,te,ht⟩:=m;obtain⟨C,D,E,F,G⟩:=H;dsimp only at C D E F G;have t:=WI r y x fr aa;have u:=WI r y x to aa;rw[addr_eq]at t u;have c1:=uC q su aa;have c2:=uC q te aa;have c3:=uC q ht aa;have w:=dl r su 10 aa;have e:=pu 10 su;have n:=i8 B q A ht aa;have v:((UInt8.toNat 10:Nat):Int)=10:=rfl;rw[v]at w;unfold ei;simp only[nc];refine ma KW (qa rfl) ?_;cases z:Tl fr with
 |false=>
  rw[z]at t;simp only[Wc,if_true,n1];exact ta
 |true=>
 rw[z]at t;cases p:Tl to with
 |false=>
  rw[p]at u;simp only[fg,if_true,n1];exact ta
 |true=>
 rw[p]at u;simp only[tf,Hw,if_false];have g:((7:Nat):Int)=7:=rfl;by_cases b:Lh su=su
 ·have j:=eq_true b
  by_cases c:Lh te=te
  ·have k:=eq_true c
   by_cases d:Lh ht=ht
   ·have l:=eq_true d
    cases a:Zb 10 su with
    |some i=>
     rw[a]at e;simp only[a]at w;simp only[<-e,Nt,Hw,false_and,and_false,if_false,g];exact Bn @pd @tc @Gc @Sc @Wd Qs
    |none=>
     rw[a]at e;simp only[a]at w;cases o:Iv ht with
     |false=>
      rw[o]at n;simp only[Fa,and_false,if_false,g];exact Bn @pd @tc @Gc @Sc @Wd Qs
     |true=>
      rw[o]at n;rw[if_pos ⟨b,c,d,ia,rfl⟩];exact Bn @pd @tc @Gc @Sc @Wd Qs
   ·have l:=eq_false d
    rw[if_neg (fun h=>d h.2.2.1),g];exact Bn @pd @tc @Gc @Sc @Wd Qs
  ·have k:=eq_false c
   rw[if_neg (fun h=>c h.2.1),g];exact Bn @pd @tc @Gc @Sc @Wd Qs
 ·have j:=eq_false b
  rw[if_neg (fun h=>b h.1),g];exact Bn @pd @tc @Gc @Sc @Wd Qs
def AW(m)(y:m.small):fa code lib 29 [.agg (nc m)] [] []=some ([.flat (.int .i64 (ei m:Nat))],false,[],[]):=by
 obtain⟨fr,to,su,te,ht⟩:=m;obtain⟨t,u,v,w,x⟩:=y;dsimp only at t u v w x;have o:=VI (lib:=lib) fr aa;have p:=VI (lib:=lib) to aa;have c1:=tC (lib:=lib) su aa;have c2:=tC (lib:=lib) te aa;have c3:=tC (lib:=lib) ht aa;have n:=BH (lib:=lib) su [10] aa ga;rw[CH]at n;have h:=zdj (lib:=lib) ht aa;unfold ei;simp only[nc];refine ma KX (qa rfl) ?_;cases r:Tl fr with
 |false=>
  rw[r]at o;simp only[Wc,if_true,n1];exact ta
 |true=>
 rw[r]at o;cases i:Tl to with
 |false=>
  rw[i]at p;simp only[fg,if_true,n1];exact ta
 |true=>
 rw[i]at p;simp only[tf,Hw,if_false];have q:((7:Nat):Int)=7:=rfl;unfold Iv;cases k:eo ht with
 |none=>
  rw[k]at h;dsimp only at h⊢;simp only[Fa,and_false,if_false,q];rcases Ka (Lh su=su)with a|a<;>rcases Ka (Lh te=te)with c|c<;>rcases Ka (Lh ht=ht)with e|e<;>cases j:su.contains 10
  all_goals
   rw[j]at n
   first|have b:=eq_false a|have b:=eq_true a
   first|have d:=eq_false c|have d:=eq_true c
   first|have g:=eq_false e|have g:=eq_true e
   clear a c e;exact ta
 |some l=>
  rw[k]at h;have z:=W6 (lib:=lib) l (by have:=WT k;omega);dsimp only at h⊢;rcases Ka (Lh su=su)with a|a<;>rcases Ka (Lh te=te)with c|c<;>rcases Ka (Lh ht=ht)with e|e<;>rcases Om (su.contains 10)with j|j<;>rcases Om (Mn l)with ra|ra
  all_goals
   rw[j]at n;rw[ra]at z
   first|have b:=eq_false a|have b:=eq_true a
   first|have d:=eq_false c|have d:=eq_true c
   first|have g:=eq_false e|have g:=eq_true e
   clear a c e;simp only[b,d,g,j,ra,Fa,Hw,and_true,and_false,if_true,if_false,q,n0];exact va @QH
def ix(o:Option Nat):Int:=match o with
 |some i=>(i:Int)
 |none=>-1
theorem AP(c)(s):∀k,k<=s.length->Lib.lastIdx (S s) (c.toNat:Nat) k=ix (Fe c (s.take k))
 |0,_=>by simp[Lib.lastIdx,Fe,ix]
 |k+1,h=>by
  have n:k<s.length:=h;have ht:=Km n;have q:(S s).data[k]! =s[k]:=by
   show s.toArray[k]! =s[k];simp[n]
  rw[Lib.lastIdx,q,ht];by_cases a:s[k]=c
  ·have b:Fe c [s[k]]=some 0:=by simp[Fe,a]
   rw[bz b,Ac,Nat.min_eq_left aa,a,if_pos rfl]
   all_goals (simp[ix])
  ·have o:¬((s[k].toNat:Int)=(c.toNat:Nat)):=fun e=>a (Yb.1 aa)
   rw[if_neg o,AP c s k aa];congr 1;by_cases d:c∈s.take k
   ·obtain⟨i,r⟩:=cz d
    have:∀p:ba,(∃j,Fe c p=some j)->Fe c (p++[s[k]])=Fe c p:=by
     intro p
     induction p with
     |nil=>rintro⟨j,g⟩;cases g
     |cons x l t=>
      rintro⟨j,g⟩;simp only[ub,Fe];by_cases b:c∈l
      ·rw[t (cz b)]
      ·rw[Kq b]
       rw[Kq (s:=l++[s[k]]) (by
        rw[wg];rintro(h|h)
        ·exact b h
        ·simp at h;exact a h.symm)]
    exact(this _ ⟨i,r⟩).symm
   ·rw[Kq d,Kq (s:=s.take k++[s[k]]) (by
     rw[wg];rintro(h|h)
     ·exact d h
     ·simp at h;exact a h.symm)]
def A5(c)(s):Lib.lastIndexByte (S s) (c.toNat:Nat)=ix (Fe c s):=by
 unfold Lib.lastIndexByte;rw[Na,AP c s _ (la _),Eh]
theorem pT(w:ba)(c:w≠[]):∀s:ba,Lib.contains s w=Wh s w
 |[]=>by
  unfold Lib.contains Lib.index Wh;cases w with
  |nil=>exact absurd rfl c
  |cons a l=>rfl
 |x::l=>by
  have h:=pT w c l;unfold Lib.contains at h⊢;unfold Lib.index Wh;rw[<-h];cases e:w.isPrefixOf (x::l)with
  |true=>simp
  |false=>
   simp only[Fa,if_false,Ch];have d:=Lib.index_ge l w;by_cases b:Lib.index l w=-1
   ·have:(Lib.index l w==-1)=true:=by simpa using b
    rw[this,if_pos rfl,b]
   ·have:(Lib.index l w==-1)=false:=by simpa using b
    rw[this,if_neg da,decide_eq_decide];omega
variable {lib:Callee}
def zQ(c:UInt8):Bool:=(decide (65<=c.toNat)&&decide (c.toNat<=90))||((decide (97<=c.toNat)&&decide (c.toNat<=122))||((decide (48<=c.toNat)&&decide (c.toNat<=57))||decide (c.toNat=45)))
def P6(c):zQ c=Ln c:=by
 have:=Rk (p:=fun n=>((decide (65<=n)&&decide (n<=90))||((decide (97<=n)&&decide (n<=122))||((decide (48<=n)&&decide (n<=57))||decide (n=45))))==(!((decide ((n|||32)<97)||decide (122<(n|||32)))&&((decide (n<48)||decide (57<n))&& !decide (n=45))))) lc c;exact eq_of_beq this
def AQ(s)(hs:s.length<=1000000000):fa code lib 53 [.flat (.string (S s))] [] []=some ([.flat (.bool (kf s))],false,[],[]):=by
 refine ma nX (qa rfl) ?_
 have a:=Nf (body:=pa (fa code lib) ka tB) (live:=[0,3]) (nb:=0) (fun(_:Unit) k=>⟨[(0,.flat (.string (S s))),(3,.flat (.int .i64 (k:Nat)))],[],[],[]⟩) s (fun _ _=>True)
  (fun _ k x=>if Ln x then .inl ()else .inr (.ret,⟨[(2,.flat (.bool false))],[],[],[]⟩)) (fun _=>(.exit 0,⟨[],[],[],[]⟩)) (fun _ k c _ e b d=>?_) (fun _ _=>by simp only[go_sem,simprocAttr]) (fun _ _ _ _ _ _ _ _=>trivial) (fun _ _ x r h=>by split at h<;>simp at h;rw[<-h];simp) (fun _ _=>?_) (fun _=>by simp) () trivial Kh
 ·rw[Gt]at a
  simp only[n0]at a;by_cases j:s.length<1
  ·have d:s=[]:=qz aa
   subst d;have g:(0:Int)<1:=aa
   exact Zf @ya.{0} @kf.eq_1 @Int.ofNat_zero
  ·have g:¬(s.length:Int)<1:=aa
   have d:¬s=[]:=fun h=>by grind
   by_cases l:32<s.length
   ·have i:(32:Int)<s.length:=aa
    have b:¬s.length<=32:=aa
    exact Rc @kf.eq_1 @fg
   ·have i:¬(32:Int)<s.length:=aa
    have b:s.length<=32:=aa
    cases e:s.all Ln with
    |true=>
     simp only[e,if_true]at a;exact va @kf.eq_1
    |false=>
     simp only[e,Fa,if_false]at a;exact va @kf.eq_1
 ·have c1:(k:Int)<s.length:=aa
  have c2:(0:Int)<=(k:Nat):=aa
  have v:IntKind.i64.wrap ((k:Int)+1)=((k+1:Nat):Int):=wrap64 aa;rw[<-P6];unfold zQ;obtain⟨n,l⟩:∃n,c.toNat=n:=⟨_,rfl⟩;rw[l];have g:((65:Int)<=((n:Nat):Int))=(65<=n):=by apply propext;omega
  have i:(((n:Nat):Int)<=(90:Int))=(n<=90):=by apply propext;omega
  have o:((97:Int)<=((n:Nat):Int))=(97<=n):=by apply propext;omega
  have p:(((n:Nat):Int)<=(122:Int))=(n<=122):=by apply propext;omega
  have q:((48:Int)<=((n:Nat):Int))=(48<=n):=by apply propext;omega
  have t:(((n:Nat):Int)<=(57:Int))=(n<=57):=by apply propext;omega
  have u:(((n:Nat):Int)=(45:Int))=(n=45):=by apply propext;omega
  rcases Ka (65<=n)with b|b
  all_goals first|(exfalso;omega)|skip
  all_goals rcases Ka (n<=90)with a2|a2
  all_goals first|(exfalso;omega)|skip
  all_goals rcases Ka (97<=n)with a3|a3
  all_goals first|(exfalso;omega)|skip
  all_goals rcases Ka (n<=122)with a4|a4
  all_goals first|(exfalso;omega)|skip
  all_goals rcases Ka (48<=n)with a5|a5
  all_goals first|(exfalso;omega)|skip
  all_goals rcases Ka (n<=57)with d|d
  all_goals first|(exfalso;omega)|skip
  all_goals rcases Ka (n=45)with e|e
  all_goals first|(exfalso;omega)|skip
  all_goals
   first|have e1:=eq_false b|have e1:=eq_true b
   first|have e2:=eq_false a2|have e2:=eq_true a2
   first|have e3:=eq_false a3|have e3:=eq_true a3
   first|have e4:=eq_false a4|have e4:=eq_true a4
   first|have e5:=eq_false a5|have e5:=eq_true a5
   first|have e6:=eq_false d|have e6:=eq_true d
   first|have j:=eq_false e|have j:=eq_true e
   clear b a2 a3 a4 a5 d e
  all_goals exact va oR
 ·have c1:¬(s.length:Int)<s.length:=aa
  exact va oR
def zo{β:Type}(p:Nat->β->Bool):Nat->List β->Bool
 |_,[]=>true
 |k,x::t=>p k x&&zo p (k+1) t
theorem iU{β}{p:Nat->β->Bool}{r}{fin}:∀(L)(k),jd (fun(_:Unit) k x=>if p k x then .inl ()else .inr r) fin () k L=if zo p k L then fin ()else r
 |[],k=>rfl
 |x::t,k=>by
  rw[jd,zo];cases a:p k x with
  |true=>rw[if_pos rfl,pc];exact iU t _
  |false=>rfl
def okB(s:ba)(k:Nat)(c:UInt8):Bool:=!(decide (c.toNat<32)||(decide (126<c.toNat)||Wa s [61,63] k))
def qj(long:Nat)(w:ba):Bool:=!(decide (long+w.length<1)||decide (60<long+w.length))
def OC(c)(s):∃p ps,gb c s=p::ps:=by
 cases s with
 |nil=>exact⟨_,_,rfl⟩
 |cons x l=>
  simp only[gb];split
  ·simp
  ·split<;>exact⟨_,_,rfl⟩
theorem rD(s):∀(t)(k long),long<=60->(match lm s k long t with|none=>false|some n=>decide (0<n))=(zo (okB s) k t&&(match gb 32 t with|p::ps=>qj long p&&ps.all (qj 0)|[]=>false))
 |[],k,long,r=>by
  simp only[lm,zo,gb,qj,ya,List.all_nil,Ej,pc,Cj];by_cases h:0<long<;>grind
 |c::t,k,long,r=>by
  obtain⟨p,ps,e⟩:=OC 32 t;rw[lm,zo];obtain⟨ok,g⟩:∃b,okB s k c=b:=⟨_,rfl⟩;have l:At s k c long=((decide (c.toNat=32)&&decide (long=0))|| !ok):=by
   rw[<-g];unfold At okB;rw[Bool.not_not]
  rw[l,g];cases ok with
  |false=>simp
  |true=>
   simp only[Ui,Pm,pc];by_cases a:c.toNat=32
   ·have i:c=32:=Yb.1 a
    have q:=rD s t (k+1) 0 aa;have j:oj c long=0:=by simp only[oj,a,if_true]
    rw[j,gb,if_pos i];by_cases u:long=0
    ·grind [qj]
    ·have d:¬60<long+0:=aa
     have o:¬long+0<1:=aa
     simp only[a,u,decide_true,decide_false,fg,Ch,Fa,if_false,Nat.not_lt_zero];rw[q,e];simp only[qj,ya,d,o,Mm,decide_false,Pm,Gj,pc,sc]
   ·have i:¬c=32:=fun h=>a ie
    have j:oj c long=long+1:=by simp only[oj,a,if_false]
    rw[j,gb,if_neg i,e];simp only[a,decide_false,Wc,Ch];by_cases d:60<long+1
    ·grind [qj]
    ·have q:=rD s t (k+1) (long+1) aa
     simp only[d,decide_false,Fa,if_false];rw[q,e];have e1:qj long (c::p)=qj (long+1) p:=by unfold qj;rw[za,show long+(p.length+1)=long+1+p.length from by omega]
     grind
def et(s:ba):Bool:=decide (s=[])||((gb 32 s).all (qj 0)&&zo (okB s) 0 s)
def u9(s):et s=Un s:=by
 unfold et Un;have h:=rD s s 0 0 aa;obtain⟨p,ps,a⟩:=OC 32 s
 grind
def w9(s)(hs:s.length<=1000000000):fa code lib 128 [.flat (.string (S s))] [] []=some ([.flat (.bool (Un s))],false,[],[]):=by
 refine ma oX (qa rfl) ?_;rw[<-u9];have z:(⟨#[]⟩:ByteArray)=S []:=rfl;by_cases q:s=[]
 ·have j:=eq_true q
  exact va @et.eq_1
 have j:=eq_false q;have hcut:=MC (lib:=lib) s 32 hs;have l:((32:UInt8).toNat:Int)=32:=rfl;rw[l]at hcut;have o:=Vr 32 s;obtain⟨L,w⟩:∃L,gb 32 s=L:=⟨_,rfl⟩;rw[w]at hcut o
 have b:=Nf (body:=pa (fa code lib) ka uB) (live:=[0,3,4]) (nb:=0) (fun(_:Unit) k=>⟨[(0,.flat (.string (S s))),(3,.ha L.length (ua L)),(4,.flat (.int .i64 (k:Nat)))],[.slot 3],[],[]⟩) L (fun _ _=>True)
  (fun _ k x=>if qj 0 x then .inl ()else .inr (.ret,⟨[(2,.flat (.bool false))],[],[],[]⟩)) (fun _=>(.exit 0,⟨[(0,.flat (.string (S s)))],[],[],[]⟩)) (fun _ k x _ A y t=>?_) (fun _ _=>by simp only[go_sem,simprocAttr]) (fun _ _ _ _ _ _ _ _=>trivial) (fun _ _ x r h=>by split at h<;>simp at h;rw[<-h];simp) (fun _ _=>?_) (fun _=>by simp) () trivial Kh
 ·have d:=Nf (body:=pa (fa code lib) ka vB) (live:=[0,5]) (nb:=0) (fun(_:Unit) k=>⟨[(0,.flat (.string (S s))),(5,.flat (.int .i64 (k:Nat)))],[],[],[]⟩) s (fun _ _=>True)
   (fun _ k x=>if okB s k x then .inl ()else .inr (.ret,⟨[(2,.flat (.bool false))],[],[],[]⟩)) (fun _=>(.exit 2,⟨[],[],[],[]⟩)) (fun _ k c _ A y t=>?_) (fun _ _=>by simp only[go_sem,simprocAttr]) (fun _ _ _ _ _ _ _ _=>trivial) (fun _ _ x r h=>by split at h<;>simp at h;rw[<-h];simp) (fun _ _=>?_) (fun _=>by simp) () trivial Kh
  ·rw[Gt]at b
   rw[iU]at d;simp only[n0]at b d;cases e:L.all (qj 0)with
   |false=>
    simp only[e,Fa,if_false]at b;exact Zf @et.eq_1 @Od @Wc
   |true=>
    simp only[e,if_true]at b;cases g:zo (okB s) 0 s with
    |false=>
     simp only[g,Fa,if_false]at d;exact Zk @et.eq_1 @Od @pc @fg @Ej
    |true=>
     simp only[g,if_true]at d;exact Zk @et.eq_1 @Od @pc @fg @Ej
  ·have c1:(k:Int)<s.length:=aa
   have c2:(0:Int)<=(k:Nat):=aa
   have B:IntKind.i64.wrap ((k:Int)+1)=((k+1:Nat):Int):=wrap64 aa;have C:(⟨#[61,63]⟩:ByteArray)=S [61,63]:=rfl;have g:=bj (lib:=lib) s [61,63] k hs da aa;unfold okB;obtain⟨n,p⟩:∃n,c.toNat=n:=⟨_,rfl⟩;obtain⟨i,e⟩:∃i,Wa s [61,63] k=i:=⟨_,rfl⟩;rw[p,e];rw[e]at g;have u:(((n:Nat):Int)<(32:Int))=(n<32):=by apply propext;omega
   have v:((126:Int)<((n:Nat):Int))=(126<n):=by apply propext;omega
   rcases Ka (n<32)with a|a
   all_goals first|(exfalso;omega)|skip
   all_goals rcases Ka (126<n)with a2|a2
   all_goals first|(exfalso;omega)|skip
   all_goals
    first|have e1:=eq_false a|have e1:=eq_true a
    first|have e2:=eq_false a2|have e2:=eq_true a2
    clear a a2
   all_goals cases i
   all_goals exact va qR
  ·have c1:¬(s.length:Int)<s.length:=aa
   exact va qR
 ·have c1:(k:Int)<L.length:=aa
  have c2:(0:Int)<=(k:Nat):=aa
  have B:IntKind.i64.wrap ((k:Int)+1)=((k+1:Nat):Int):=wrap64 aa;have e:(ua L).drop k=.flat (.string (S x))::(ua L).drop (k+1):=by simp only[ua,<-Yi,t,kc]
  have d:1<=((ua L).drop (k+1)).length+1:=aa
  unfold qj;obtain⟨n,p⟩:∃n,x.length=n:=⟨_,rfl⟩;rw[p,sc];have u:(((n:Nat):Int)<(1:Int))=(n<1):=by apply propext;omega
  have v:((60:Int)<((n:Nat):Int))=(60<n):=by apply propext;omega
  rcases Ka (n<1)with a|a
  all_goals first|(exfalso;omega)|skip
  all_goals rcases Ka (60<n)with a2|a2
  all_goals first|(exfalso;omega)|skip
  all_goals
   first|have e1:=eq_false a|have e1:=eq_true a
   first|have e2:=eq_false a2|have e2:=eq_true a2
   clear a a2
  all_goals exact Zf pR @za.{0} @bc
 ·have c1:¬(L.length:Int)<L.length:=aa
  exact va pR
def Sp(lib:Callee)(enc:ba->ba):Prop:=∀s:ba,s.length<=100->(enc s).length<=136/\lib 177 [.flat (.string (S s))] [] []=some ([.flat (.string (S (enc s)))],false,[],[])
def a_{enc}(H:Sp lib enc)(s:ba)(h:s.length<=100):fa code lib 177 [.flat (.string (S s))] [] []=some ([.flat (.string (S (enc s)))],false,[],[]):=
 Ud ga ja (H s h).2
def LM{enc}(H:Sp lib enc)(s:ba)(h:s.length<=100):fa code lib 130 [.flat (.string (S s))] [] []=some ([.flat (.string (S (Pe enc s)))],false,[],[]):=by
 refine ma sX (qa rfl) ?_;have d:=a_ H s h;have e:(⟨#[61,63,85,84,70,45,56,63,66,63]⟩:ByteArray)=S Jd:=rfl;have b:(⟨#[63,61]⟩:ByteArray)=S [63,61]:=rfl;have a:Jd++enc s++[63,61]=Pe enc s:=rfl;have c:=(H s h).1;have g:Jd.length+(enc s).length<=Da:=by unfold Da;simp only[Jd,za,ya];omega
 have i:(Jd++enc s).length+2<=Da:=by unfold Da;simp only[Jd,Ja,za,ya];omega
 exact va @za.{0}
def uq(enc:ba->ba)(q:List ba×ba)(_:Nat)(r:Nat):(List ba×ba) ⊕ (Out×St):=.inl (if 45<q.2.length+(ob r).length then(q.1++[Pe enc q.2],ob r)else(q.1,q.2++ob r))
theorem dI(enc)(fin):∀(l)(out)(a)(k),jd (uq enc) fin (out,a) k l=fin (ze (fun o x=>o++[x]) enc out a l)
 |[],out,a,k=>rfl
 |r::l,out,a,k=>by
  simp only[jd,uq,ze];by_cases h:45<a.length+(ob r).length
  ·simp only[h,if_true];exact dI enc fin l _ _ _
  ·simp only[h,if_false];exact dI enc fin l _ _ _
theorem gO:∀(L o:List ba),L.foldl (fun o x=>o++[x]) o=o++L
 |[],o=>by simp
 |x::L,o=>by rw[Jm,gO L];simp
theorem xD(enc):∀(l)(out)(a),a.length<=45->(ze (fun o x=>o++[x]) enc out a l).2.length<=45/\(ze (fun o x=>o++[x]) enc out a l).1.length<=out.length+l.length
 |[],out,a,h=>⟨h,by simp[ze]⟩
 |r::l,out,a,h=>by
  have b:=Tj r;simp only[ze];split
  ·have:=xD enc l (out++[Pe enc a]) (ob r) aa
   grind
  ·have:=xD enc l out (a++ob r) ia
   grind
def As(R:List Nat)(q:List ba×ba)(k:Nat):St:=⟨[(3,.ha q.1.length (ua q.1)),(4,.ha R.length (Jf R)),(5,.flat (.string (S q.2))),(6,.flat (.int .i64 (k:Nat)))],[.slot 3],[],[]⟩
theorem GO:∀a,gc (Jf a)=true
 |[]=>rfl
 |c::a=>by show gc (.flat (.int .i64 (c:Nat))::Jf a)=true;simp only[gc,PV.pl,GO a,pc]
def zek{enc:ba->ba}(H:Sp lib enc)(s:ba)(hs:s.length<=1000000):fa code lib 66 [.flat (.string (S s))] [] []=some ([.ha (Bg enc s).length (ua (Bg enc s))],true,[],[]):=by
 have g:(⟨#[]⟩:ByteArray)=S []:=rfl;have j:=w9 (lib:=lib) s aa;by_cases p:s=[]
 ·have d:=eq_true p
  refine ma EC (qa rfl) ?_;simp only[go_sem,simprocAttr,g,xo,d,Bg,ua,Bf,ya]
 have d:=eq_false p;cases v:Un s with
 |true=>
  rw[v]at j;have hcut:=MC (lib:=lib) s 32 aa;have a:((32:UInt8).toNat:Int)=32:=rfl;rw[a]at hcut;refine ma EC (qa rfl) ?_;exact Zf @Bg.eq_1 @Od @yf
 |false=>
  rw[v]at j;have l:=Q_ (lib:=lib) s aa;have u:=lG s;obtain⟨R,z⟩:∃R,Ng s=R:=⟨_,rfl⟩;rw[z]at l u
  have b:=Nf (body:=pa (fa code lib) ka zB) (live:=[3,4,5,6]) (nb:=0) (As R) R (fun q k=>q.2.length<=45/\q.1.length<=k)
   (uq enc) (fun q=>(.exit 0,⟨[(3,.ha q.1.length (ua q.1)),(5,.flat (.string (S q.2)))],[.slot 3],[],[]⟩)) (fun⟨out,a⟩ k r n i c A=>?_) (fun _ _=>by simp only[As,go_sem,simprocAttr]) (fun⟨out,a⟩ k r a' n _ _ h=>by
     grind [Tj,uq]) (fun _ _ x r h=>by grind [uq]) (fun⟨out,a⟩ n=>?_) (fun _=>by simp) ([],[]) ⟨da,la _⟩ (by grind [ka])
  ·rw[dI]at b
   have i:=xD enc R [] [] da;have c:=uy (fun o x=>o++[x]) enc R [] [];obtain⟨⟨out,a⟩,w⟩:∃q,ze (fun o x=>o++[x]) enc [] [] R=q:=⟨_,rfl⟩;rw[w]at b i c;dsimp only at i c;rw[gO,Gb]at c;simp only[As,n0,ya,ua,Bf]at b;have e2:List.map (fun x=>PV.flat (.string (S x))) out=ua out:=rfl;rw[e2]at b;have e:=LM H a aa;have t:out.length+1<=Da:=by unfold Da;simp only[ya]at i;omega
   have e1:[PV.flat (.string (S (Pe enc a)))]=ua [Pe enc a]:=rfl;have y:Bg enc s=out++[Pe enc a]:=by simp only[Bg,p,v,z,Fa,if_false];exact c
   rw[y];refine ma EC (qa rfl) ?_;simp only[go_sem,simprocAttr,g,xo,d,j,l,GO,b,e,bc,Xe,t]
   grind [Al]
  ·dsimp only at n
   have c1:(k:Int)<R.length:=aa
   have c2:(0:Int)<=(k:Nat):=aa
   have C:IntKind.i64.wrap ((k:Int)+1)=((k+1:Nat):Int):=wrap64 aa;have w:(Jf R).drop k=.flat (.int .i64 (r:Nat))::(Jf R).drop (k+1):=by simp only[Jf,<-Yi,A,kc]
   have i:1<=((Jf R).drop (k+1)).length+1:=aa
   have c:=iq (lib:=lib) r;have E:=Tj r;have D:IntKind.i64.wrap ((a.length:Int)+((ob r).length:Int))=((a.length+(ob r).length:Nat):Int):=by rw[wrap64 aa];rfl
   have F:a.length+(ob r).length<=Da:=Me
   have B:(ob r).length<=Da:=Me
   have t:out.length+1<=Da:=Me
   have e:=LM H a aa;have e1:[PV.flat (.string (S (Pe enc a)))]=ua [Pe enc a]:=rfl;by_cases h:45<a.length+(ob r).length
   ·have y:(45:Int)<((a.length+(ob r).length:Nat):Int):=aa
    simp only[wG,As,uq,go_sem,simprocAttr,Na,Zi,cc,c1,c2,C,D,w,i,za,c,h,y,e,g,t,B,bc,Xe,Gb]
    grind [Al]
   ·have y:¬(45:Int)<((a.length+(ob r).length:Nat):Int):=aa
    exact Bn wG @As.eq_1 @uq.eq_1 @EO @za.{0} @bc
  ·dsimp only at n
   have c1:¬(R.length:Int)<R.length:=aa
   exact Rc wG @As.eq_1
def vq(q:ba×Nat)(_:Nat)(x:ba):(ba×Nat) ⊕ (Out×St):=.inl (yj q x)
theorem mU(fin):∀(l)(q)(k),jd vq fin q k l=fin (l.foldl yj q)
 |[],q,k=>rfl
 |x::l,q,k=>by simp only[jd,vq,Jm];exact mU fin l _ _
def Cs(L:List ba)(q:ba×Nat)(k:Nat):St:=⟨[(6,.flat (.string (S q.1))),(7,.flat (.int .i64 (q.2:Nat))),(8,.ha L.length (ua L)),(9,.flat (.int .i64 (k:Nat)))],[.slot 8],[],[]⟩
theorem tI{enc}(B:ci lib enc)(H:Sp lib enc)(f v:ba)(I:v.length<=10000)(R:f.length<=10000):fa code lib 30 [.flat (.string (S f)),.flat (.string (S v))] [] []=
 some ([.flat (.string (S (if kf f then Kf enc f v else[]))),.flat (.int .i64 (if kf f then 0 else 1))],false,[],[]):=by
 refine ma qX (qa rfl) ?_;have t:=AQ (lib:=lib) f aa;have g:(⟨#[]⟩:ByteArray)=S []:=rfl;have i:(⟨#[58]⟩:ByteArray)=S [58]:=rfl;have e:(⟨#[13,10]⟩:ByteArray)=S [13,10]:=rfl;have j:(⟨#[32]⟩:ByteArray)=S [32]:=rfl;cases c:kf f with
 |false=>
  rw[c]at t;exact ta
 |true=>
  rw[c]at t;have A:=zek H v aa;have d:=qI B v I;obtain⟨L,z⟩:∃L,Bg enc v=L:=⟨_,rfl⟩;rw[z]at A d;have a:=Nf (body:=pa (fa code lib) ka xB) (live:=[6,7,8,9]) (nb:=0) (Cs L) L (fun q k=>Bq q k) vq (fun q=>(.exit 0,⟨[(6,.flat (.string (S q.1)))],[],[],[]⟩)) (fun⟨l,long⟩ k x n G E F=>?_) (fun _ _=>by simp only[Cs,go_sem,simprocAttr]) (fun q k x a' n G T h=>by
   grind [vq,FH]) (fun _ _ x r h=>by grind [vq]) (fun⟨l,long⟩ n=>?_) (fun _=>by simp) (f++[58],f.length+1) ⟨ia,aa⟩ (by grind [ka])
  ·rw[mU]at a
   have b:=my L 0 (f++[58],f.length+1) ⟨ia,aa⟩ d;obtain⟨⟨l,long⟩,y⟩:∃q,L.foldl yj (f++[58],f.length+1)=q:=⟨_,rfl⟩;rw[y]at a b;dsimp only at b;have p:Kf enc f v=l++[13,10]:=by simp only[Kf,z,y]
   have u:f.length+1<=Da:=Me
   have w:l.length+2<=Da:=Me
   have o:(f++[58]).length=f.length+1:=da
   simp only[Cs,n0]at a;simp only[go_sem,simprocAttr,t,g,i,e,c,Zi,Na,za,o,u,w,A,a,p,Od]
  ·obtain⟨C,D⟩:=n
   dsimp only at C D;have J:=d.2 x (Ah E);have c1:(k:Int)<L.length:=aa
   have c2:(0:Int)<=(k:Nat):=aa
   have M:IntKind.i64.wrap ((k:Int)+1)=((k+1:Nat):Int):=wrap64 aa;have p:(ua L).drop k=.flat (.string (S x))::(ua L).drop (k+1):=by simp only[ua,<-Yi,F,kc]
   have o:1<=((ua L).drop (k+1)).length+1:=aa
   have N:IntKind.i64.wrap ((long:Int)+1)=((long+1:Nat):Int):=wrap64 aa;have O:IntKind.i64.wrap (((long+1:Nat):Int)+(x.length:Int))=((long+1+x.length:Nat):Int):=by rw[wrap64 aa];rfl
   have P:IntKind.i64.wrap 1=1:=ga
   have Q:IntKind.i64.wrap (1+(x.length:Int))=((1+x.length:Nat):Int):=by rw[wrap64 aa];rfl
   have u:l.length+2<=Da:=Me
   have w:(l++[13,10]).length+1<=Da:=by unfold Da;simp only[Ja,za,ya];omega
   have K:(l++[13,10]++[32]).length+x.length<=Da:=by unfold Da;simp only[Ja,za,ya];omega
   have U:l.length+1<=Da:=Me
   have V:(l++[32]).length+x.length<=Da:=by unfold Da;simp only[Ja,za,ya];omega
   by_cases h:76<=x.length+long
   ·have y:(76:Int)<((long+1+x.length:Nat):Int):=aa
    have b:jl x long=true:=by simp[jl,h]
    have e1:xl l x long=l++[13,10]++[32]++x:=by simp[xl,b]
    have e2:wl x long=1+x.length:=by simp[wl,b]
    simp only[vG,Cs,vq,yj,e1,e2,go_sem,simprocAttr,Na,Zi,cc,c1,c2,M,N,O,P,Q,p,o,za,y,e,j,u,w,K]
   ·have y:¬(76:Int)<((long+1+x.length:Nat):Int):=aa
    have b:jl x long=false:=by simp[jl,h]
    have e1:xl l x long=l++[32]++x:=by simp[xl,b]
    have e2:wl x long=long+1+x.length:=by simp[wl,b];omega
    exact Bn vG @Cs.eq_1 @vq.eq_1 @yj.eq_1 @bc @za.{0}
  ·have c1:¬(L.length:Int)<L.length:=aa
   exact Rc vG @Cs.eq_1
end wa

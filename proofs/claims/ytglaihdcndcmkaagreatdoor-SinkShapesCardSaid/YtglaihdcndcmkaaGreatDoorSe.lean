/- Texts of this proof, merged. -/
import Derived.Test.YtglaihdcndcmkaaGreatDoorSd
import Derived.KernelRfl
import Derived.Lib.IndexMore
import Derived.Lib.Replace
set_option linter.all false
open Go Go.Proofs Go.RowKit Go.Proofs.YtglaihdcndcmkaaGreatDoor
set_option maxHeartbeats 4000000
namespace ya
variable {lib:Callee}
def E4(c:UInt8)(h:ab c<=15):(48<=c.toNat/\c.toNat<=57/\ab c=c.toNat - 48)\/¬(48<=c.toNat/\c.toNat<=57)/\∃x:Nat,Fg .u8 (c.toNat:Int) 32=(x:Int)/\97<=x/\x<=102/\ab c=x - 87:=by
 have:=Lj (p:=fun n=>decide (ab (UInt8.ofNat n)<=15->(48<=n/\n<=57/\ab (UInt8.ofNat n)=n - 48)\/¬(48<=n/\n<=57)/\Fg .u8 (n:Int) 32=((Fg .u8 (n:Int) 32).toNat:Int)/\97<=(Fg .u8 (n:Int) 32).toNat/\(Fg .u8 (n:Int) 32).toNat<=102/\ab (UInt8.ofNat n)=(Fg .u8 (n:Int) 32).toNat - 87)) Fb c;rw[UInt8.ofNat_toNat,decide_eq_true_eq]at this;rcases this h with h|⟨h,a⟩
 ·exact .inl h
 ·exact .inr ⟨h,_,a⟩
def Z9(a b:Nat)(e:a<1048576)(g:b<16):Fg .i32 (IntKind.i32.wrap ((a:Int)* 2^min 4 32)) (b:Int)=((16* a+b:Nat):Int):=by
 have d:IntKind.i32.wrap ((a:Int)* 2^min 4 32)=((a* 16:Nat):Int):=by
  rw[show((2:Int)^min 4 32)=16 from rfl,wrap32 aa];omega
 have c:=UI (i:=4) (b:=b) aa a;rw[Nat.shiftLeft_eq]at c;rw[d,rE _ _ aa aa,<-c];omega
def LA{s:ba}{k i n:Nat}{c:UInt8}{ys}{r}(hs:s.length<=100000)(t:i<4)(v:n<65536)(h:s[k+2+i]?=some c)(j:ab c<=15)(fa:∀q∈r,q.1<ys.length+1):
 ma (da code lib) ja du ⟨[(0,.ptr 0 0),(4,.flat (.int .i32 (n:Nat))),(31,.flat (.int .i64 (i:Nat)))],cl r,[],xb s k ys⟩=some (.normal,⟨[(0,.ptr 0 0),(4,.flat (.int .i32 (16* n+ab c:Nat))),(31,.flat (.int .i64 (i+1:Nat)))],cl r,[],xb s k ys⟩):=by
 have u:=sm h;have w:=Z9 n (ab c) aa aa;have y:=c.toNat_lt;have l:((k:Int)+2+(i:Int)).toNat=k+2+i:=aa
 rcases E4 c j with⟨b,d,a⟩|⟨b,x,d,a,o,g⟩
 ·have e:(c.toNat:Int) - 48=((ab c:Nat):Int):=aa
  clear a;generalize 16* n+ab c=z at*;exact va Qz
 ·have e:(x:Int) - 97+10=((ab c:Nat):Int):=aa
  clear g;generalize 16* n+ab c=z at*;by_cases p:48<=c.toNat
  ·exact va Qz
  ·exact va Qz
theorem zfq(B:sc lib){s:ba}{k v:Nat}{ys}{r}(hs:s.length<=100000)(hr:∀q∈r,q≠(0,1))(fa:∀q∈r,q.1<ys.length+1)(j:re (s.drop k)=some v):
 da code lib 284 [.ptr 0 0] (xb s k ys) (cl r)=some ([.flat (.int .i32 (v:Nat)),.flat (.bool true)],false,xb s (k+6) ys,cl r):=by
 have E:=Pp j;have F:=dA B (s.drop k) [92,117] (by rw[fc];omega) ha;rw[fc]at E;have l:=j;rw[KI]at l;split at l
 ·rename_i C
  rw[C]at F;clear l
  match u:s.drop k with
  |a::b::c::d::e::f::t=>
   rw[u]at j;unfold re at j;dsimp only at j;split at j
   ·rename_i D
    obtain⟨_,⟨w,y⟩,z,A⟩:=D;have o:∀i x,(s.drop k)[i]?=some x->s[k+i]?=some x:=fun i x h=>by rwa[kg]at h
    rw[u]at o;have r0:=LA (lib:=lib) (k:=k) (i:=0) (n:=0) hs aa aa (o 2 c rfl) w fa;have r1:=LA (lib:=lib) (k:=k) (i:=1) (n:=16* 0+ab c) hs aa aa (o 3 d rfl) y fa;have r2:=LA (lib:=lib) (k:=k) (i:=2) (n:=16* (16* 0+ab c)+ab d) hs aa aa (o 4 e rfl) z fa;have r3:=LA (lib:=lib) (k:=k) (i:=3) (n:=16* (16* (16* 0+ab c)+ab d)+ab e) hs aa aa (o 5 f rfl) A fa;have j:256* (16* ab c+ab d)+(16* ab e+ab f)=v:=jf j;have e3:16* (16* (16* (16* 0+ab c)+ab d)+ab e)+ab f=v:=aa
    rw[e3]at r3;generalize 16* (16* (16* 0+ab c)+ab d)+ab e=I at*;generalize 16* (16* 0+ab c)+ab d=H at*;generalize 16* 0+ab c=G at*;have r4:ma (da code lib) ja du ⟨[(0,.ptr 0 0),(4,.flat (.int .i32 (v:Nat))),(31,.flat (.int .i64 4))],cl r,[],xb s k ys⟩=some (.exit 0,⟨[(0,.ptr 0 0),(4,.flat (.int .i32 (v:Nat)))],cl r,[],xb s k ys⟩):=va Qz;clear u o w y z A j e3;simp only[n0,n1,n2,n3,n4,ld,Nat.reduceAdd,xb]at r0 r1 r2 r3 r4;have g:∀n,Ac (ma (da code lib) ja du) [0,4,31] (ys.length+1) (n+5) ⟨[(0,.ptr 0 0),(4,.flat (.int .i32 0)),(31,.flat (.int .i64 0))],cl r,[],xb s k ys⟩=some (.exit 0,⟨[(0,.ptr 0 0),(4,.flat (.int .i32 (v:Nat)))],cl r,[],xb s k ys⟩):=fun n=>xe @ec @pc @Ec
    have p:=g (ja - 5);rw[show ja - 5+5=ja from rfl]at p;simp only[xb]at p;clear r0 r1 r2 r3 r4 g;exact Fa PY
   ·cases j
  |[]|[_]|[_,_]|[_,_,_]|[_,_,_,_]|[_,_,_,_,_]=>
   have:=congrArg List.length u;rw[fc]at this;simp only[ua,Ca]at this;omega
 ·cases l
def K0{c:UInt8}{r:ba}(h:32<=(Ta (c::r)).1):32<=c.toNat:=by
 rcases Mh c.toNat 128 with a|a
 ·simp only[Ta,a,if_true]at h;exact h
 ·omega
def T0{c:UInt8}{r:ba}(h:Qd (Ta (c::r))=false):(c::r).take (Ta (c::r)).2=Ka (Ta (c::r)).1:=by
 rcases yO c r with a|⟨k,a,e,b,d⟩
 ·rw[a]at h;cases h
 ·rw[zV d b]
  grind [lh]
theorem m2(M:We lib)(N:sc lib){s:ba}{k:Nat}{v:Nat×Nat}{ys}{r}(hs:s.length<=100000)(hr:∀q∈r,q≠(0,1))(fa:∀q∈r,q.1<ys.length+1)(e:Fm (s.drop k)=some v):
 da code lib 250 [.ptr 0 0] (xb s k ys) (cl r)=some ([.flat (.int .i32 (v.1:Nat)),.flat (.bool true)],false,xb s (k+v.2) ys,cl r):=by
 have p:=fun k a(h:re (s.drop k)=some a)=>zfq N (k:=k) hs hr fa h
 have A:∀d:UInt8,da code lib 96 [.flat (.string (S [34,92,47,98,102,110,114,116])),.flat (.int .u8 d.toNat)] [] []=some ([.flat (.int .i64 (match Cc d [34,92,47,98,102,110,114,116]with|some i=>(i:Int)|none=>-1))],false,[],[]):=fun d=>pp M _ d ha
 have z:s[k+1]?=(s.drop k)[1]?:=by rw[kg]
 match g:s.drop k with
 |[]=>rw[g]at e;cases e
 |[_]=>rw[g]at e;cases e
 |c::d::t=>
  have O:=gg g;rw[ua]at O;rw[g]at z e;have z:s[k+1]?=some d:=z;have o:=A d;unfold Fm at e;simp only[vk,ro,Ja]at e;rcases hI d with((rfl|rfl|rfl|rfl|rfl|rfl|rfl|rfl)|⟨K,B,C,D,E,F,G,H,I⟩)
  iterate 8
   ·cases e
    clear g p A;simp[Cc]at o;exact Fa ay
  rw[K]at e;have u:Cc d [34,92,47,98,102,110,114,116]=none:=by
   simp only[Cc,Yf B,Yf C,Yf D,Yf E,Yf F,Yf G,Yf H,Yf I,if_false,Ti]
  rw[u]at o;clear B C D E F G H I A;dsimp only at e o;have j:=fun a h=>p k a (by rw[g];exact h)
  cases l:re (c::d::t)with
  |none=>rw[l]at e;cases e
  |some a=>
   have P:=Pp l;have j:=j a l;rw[l]at e;dsimp only at e;simp only[xb]at j;by_cases g1:55296<=a
   ·by_cases J:a<=57343
    ·rw[if_pos ⟨g1,J⟩]at e
     split at e
     ·rename_i g3
      have L:s.drop (k+6)=(c::d::t).drop 6:=by rw[<-g,yd]
      have n:=fun b h=>p (k+6) b (by rw[L];exact h)
      cases w:re ((c::d::t).drop 6)with
      |none=>rw[w]at e;cases e
      |some b=>
       have n:=n b w;rw[w]at e;dsimp only at e;split at e
       ·rename_i g4
        obtain⟨g4,Q⟩:=g4;have e:=jf e;subst e;obtain⟨x,rfl⟩:∃x,a=55296+x:=⟨a - 55296,aa⟩;obtain⟨y,rfl⟩:∃y,b=56320+y:=⟨b - 56320,aa⟩;simp only[xb,Ee,show((6:Nat):Int)=6 from rfl,ri,show((55296:Nat):Int)=55296 from rfl,show((56320:Nat):Int)=56320 from rfl]at j n⊢;have e1:(55296:Int)+(x:Int) - 55296=x:=aa
        have e2:(56320:Int)+(y:Int) - 56320=y:=aa
        have e3:(x:Int)* 2^min 10 32=1024* (x:Int):=by rw[show((2:Int)^min 10 32)=1024 from rfl];omega
        have e4:((1024* x:Nat):Int)=1024* (x:Int):=aa
        have e5:(k:Int)+6+6=(k:Int)+12:=aa
        clear g p l w L z K u;exact Fa ay
       ·cases e
     ·cases e
    ·rw[if_neg fun h=>J h.2]at e
     cases e;clear g p l;exact Fa ay
   ·rw[if_neg fun h=>g1 h.1]at e
    cases e;clear g p l;exact Fa ay
abbrev it(s:ba)(j:Nat)(u:Bool)(out:ba):Oa:=xb s j [kh,(101,bld u 2 out [])]
def aW(c:Sb lib){s:ba}{j:Nat}{u}{out:ba}(w:ba)(h:out.length+w.length<=za):da code lib 45 [.ptr 2 0,.flat (.string (S w))] (it s j u out) [.cell 2 1]=some ([.flat (.int .i64 (w.length:Nat)),.flat .nilIface],false,it s j true (out++w),[.cell 2 1]):=
 ai c (b:=2) (r:=[]) (rest:=[]) rfl lj h (fun q a=>by cases a) (fun q a=>by cases a)
theorem zbG(E:We lib)(F:sc lib)(l:Sb lib){s:ba}{k:Nat}{v:ba×Nat}(hs:s.length<=100000)(N:k<s.length)(K:cn s (k+1)=some v):
 da code lib 190 [.ptr 0 0] (xb s k []) []=some ([.agg (Oe ⟨34,v.1,k,v.2⟩),.flat (.bool true)],false,xb s v.2 [],[]):=by
 have P:(⟨#[]⟩:ByteArray)=S []:=rfl;have H:za=4294967296:=rfl
 have z:=yz (body:=ma (da code lib) ja HB) (live:=[0,2,4,5]) (nb:=3) (fun(u:Bool)(q:ba×Nat)=>(⟨[(0,.ptr 0 0),(2,.ptr 1 0),(4,.ptr 2 0),(5,.flat (.int .i64 (k:Nat)))],[.cell 2 1],[],it s q.2 u q.1⟩:St))
  (Mi s) (fun q o st=>o=.exit 0/\∃u j,q.2=j+1/\j<s.length/\st=⟨[(0,.ptr 0 0),(2,.ptr 1 0),(4,.ptr 2 0),(5,.flat (.int .i64 (k:Nat)))],[.cell 2 1],[],it s j u q.1⟩) (fun q=>q.2<=s.length/\q.1.length<=4* q.2) (fun u ⟨out,j⟩ I=>?_) (n:=s.length+1) (m:=ja) false (a:=([],k+1)) ⟨aa,ea⟩ K (by grind [ja])
 ·obtain⟨o,st,y,rfl,u,j,e,g,rfl⟩:=z
  obtain⟨t,p⟩:=v;dsimp only at e y⊢;subst e;have d:=lk (lib:=lib) (oc:=[.cell 2 1]) l (bx:=it s (j+1) u t) (b:=2) rfl ea;have h:Ia 2 (bld u 2 t [])=Ia 2 (bld u 2 t []):=rfl;simp only[xb,IC,Ee,n1]at y d⊢;exact Fa OY
 ·dsimp only at I⊢
  unfold Mi;dsimp only;cases h:s.drop j with
  |nil=>trivial
  |cons c r=>
   have M:=Vh h;have y:=gg h;dsimp only;by_cases e:c=34
   ·subst e
    rw[if_pos rfl];dsimp only;exact Hq (o:=.exit 0) (s:=⟨[(0,.ptr 0 0),(2,.ptr 1 0),(4,.ptr 2 0),(5,.flat (.int .i64 (k:Nat)))],[.cell 2 1],[],it s j u out⟩) (va Pz) ea ⟨rfl,u,j,rfl,aa,rfl⟩
   rw[if_neg e];cases d:tf (c::r)with
   |none=>trivial
   |some v=>
    have A:=Ys d;rw[ua]at A;have L:=ah v.1;refine⟨⟨true,?_⟩,by dsimp only;rw[Ba];omega⟩;have w:=toNat_ne e;simp only[show((UInt8.toNat 34:Nat):Int)=34 from rfl]at w;by_cases g:c=92
    ·subst g
     have i:=m2 E F (k:=j) (v:=v) (ys:=[kh,(101,bld u 2 out [])]) (r:=[(2,1)]) hs ea ea (by rw[h];unfold tf at d;dsimp only at d;rwa[if_pos rfl]at d);have x:=es (lib:=lib) v.1 aa;have B:=aW l (s:=s) (j:=j+v.2) (u:=u) (out:=out) (Ka v.1) aa;clear h d;simp only[xb,show cl [(2,1)]=[Loc.cell 2 1]from rfl,Ee]at i B⊢;exact va Pz
    ·have x:=toNat_ne g
     simp only[show((UInt8.toNat 92:Nat):Int)=92 from rfl]at x;have C:=Gz (lib:=lib) s (by unfold Sm;omega) j aa;unfold tf at d;dsimp only at d;rw[if_neg g]at d;split at d
     ·cases d
     rename_i i;have d:=jf d;rw[not_or,not_or,Bool.not_eq_true]at i;obtain⟨g1,G,g3⟩:=i;have J:=K0 (Nat.le_of_not_lt g1);have ht:=T0 g3;rw[h]at C;rw[d]at C g1 G g3 ht;have O:(s.take (j+v.2)).drop j=Ka v.1:=by rw[<-ht,<-h,Jr,ri]
     have B:=aW l (s:=s) (j:=j) (u:=u) (out:=out) (Ka v.1) aa;obtain⟨a,n⟩:=v;unfold Qd at g3;simp only[decide_eq_false_iff_not,not_and]at g3;dsimp only at*;clear h d ht;simp only[xb,Ee]at B⊢;by_cases D:a=65533
     ·have g3:=g3 D
      subst D;exact va Pz
     ·exact va Pz
def kr(c:UInt8):FuncId:=if ll c=true then 189 else if c=34 then 190 else if 97<=c.toNat/\c.toNat<=122 then 191 else 192
def V9(n:We lib){s:ba}{k:Nat}(c:UInt8):da code lib 118 [.ptr 0 0,.flat (.int .u8 c.toNat)] (xb s k []) []=some ([.tag (2* kr c) [.ptr 0 0]],false,xb s k [],[]):=by
 have e:=pp n [123,125,91,93,58,44] c ha;have a:=oq c [123,125,91,93,58,44];have hs:ll c=([123,125,91,93,58,44]:ba).contains c:=rfl;rw[<-hs]at a;unfold kr;cases g:Cc c [123,125,91,93,58,44]with
 |some i=>
  rw[g]at e a;have a:true=ll c:=a;rw[<-a,if_pos rfl];clear hs a;exact Fa qu
 |none=>
  rw[g]at e a;have a:false=ll c:=a;rw[<-a,if_neg ea];clear hs a;by_cases b:c=34
  ·subst b
   rw[if_pos rfl];simp only[show((UInt8.toNat 34:Nat):Int)=34 from rfl]at e;exact Fa qu
  ·have d:=toNat_ne b
   simp only[show((UInt8.toNat 34:Nat):Int)=34 from rfl]at d;rw[if_neg b];by_cases j:97<=c.toNat
   ·by_cases l:c.toNat<=122
    ·rw[if_pos ⟨j,l⟩];exact Fa qu
    ·rw[if_neg fun h=>l h.2];exact Fa qu
   ·rw[if_neg fun h=>j h.1];exact Fa qu
def zf9{c:UInt8}{r w:ba}(h:lg (c::r)=some w):97<=c.toNat/\c.toNat<=122:=by
 have a:c=116\/c=102\/c=110:=by
  unfold lg wT Yh wN at h;simp only[List.isPrefixOf,bc,beq_iff_eq]at h
  grind
 rcases a with rfl|rfl|rfl<;>decide
def k_{c:UInt8}{r:ba}{n}(h:Yk (c::r)=some n):c.toNat<=57:=by
 unfold Yk at h;split at h
 ·cases h
 ·rename_i a
  unfold jd at a;by_cases b:c=45
  ·subst b;decide
  ·rw[if_neg (by simpa using b),List.drop_zero,BD]at a
   unfold rp at a
   grind
theorem P5(i:We lib)(j:sc lib)(o:Sb lib){s:ba}{k:Nat}{c:UInt8}{t:Qa}(hs:s.length<=100000)(g:s[k]?=some c)(ht:Fh s k=some t):
 da code lib (kr c) [.ptr 0 0] (xb s k []) []=some ([.agg (Oe t),.flat (.bool true)],false,xb s t.to [],[]):=by
 have e:=sm g;unfold Fh at ht;obtain⟨r,d⟩:∃r,s.drop k=c::r:=⟨s.drop (k+1),by rw[Pd e];congr 1;exact(qg g).2⟩;have u:=fun w h=>zf8 j (w:=w) hs (Nat.le_of_lt e) (by rw[d];exact h)
 have p:=fun n h=>O5 i (n:=n) hs (Nat.le_of_lt e) (by rw[d];exact h)
 have v:∀n,(s.take (k+n)).drop k=(c::r).take n:=fun n=>by rw[<-d,Jr,ri]
 rw[d]at ht;dsimp only at ht;unfold kr;by_cases g1:ll c=true
 ·rw[if_pos g1]at ht⊢
  cases ht;exact u9 hs g
 rw[if_neg g1]at ht⊢;by_cases l:c=34
 ·rw[if_pos l]at ht⊢
  obtain⟨q,b,rfl⟩:=qm ht;exact zbG i j o hs e b
 rw[if_neg l]at ht⊢;cases a:lg (c::r)with
 |some w=>
  rw[a]at ht;cases ht;rw[if_pos (zf9 a)];exact u w a
 |none=>
  rw[a]at ht;obtain⟨n,b,rfl⟩:=qm ht;have:=k_ b;rw[if_neg aa];rw[<-v];exact p n b
def W9(c:UInt8):kr c≠kb:=by
 unfold kr
 repeat' split
 all_goals decide
def rV(p:We lib)(B:sc lib)(A:Sb lib){s:ba}{l:List Qa}(hs:s.length<=100000)(u:Gh s=some l):da code lib 58 [.flat (.string (S s))] [] []=some ([.ia l.length (mb l),.flat (.int .i64 0)],false,[],[]):=by
 have D:za=4294967296:=rfl
 have w:=yz (body:=ma (da code lib) ja FB) (live:=[0,4,5]) (nb:=1) (fun(_:Unit)(q:List Qa×Nat)=>(⟨[(0,.flat (.string (S s))),(4,.ptr 0 0),(5,.ia q.1.length (mb q.1))],[.slot 5],[],xb s q.2 []⟩:St))
  (xf s) (fun l o st=>o=.exit 0/\∃k,st=⟨[(5,.ia l.length (mb l))],[.slot 5],[],xb s k []⟩) (fun q=>q.2<=s.length/\q.1.length<=q.2) (fun _ ⟨l,j⟩ F=>?_) (n:=s.length+1) (m:=ja) () (a:=([],0)) ⟨Cb _,Cb _⟩ u (by grind [ja])
 ·obtain⟨o,st,d,rfl,k,rfl⟩:=w
  simp only[show mb []=[]from rfl,Ca,n0,xb]at d;refine la KY (qa rfl) ?_;exact va @Vc
 ·dsimp only at F⊢
  unfold xf;dsimp only;cases g:s.drop j with
  |nil=>
   have u:=xk.1 g;exact Hq (o:=.exit 0) (s:=⟨[(5,.ia l.length (mb l))],[.slot 5],[],xb s j []⟩) (Kb iH @Vc) ea ⟨rfl,j,rfl⟩
  |cons c r=>
   have y:=Vh g;have u:=gg g;have h:=qT (lib:=lib) (s:=s) (k:=j) (ys:=[]) (r:=[]) hs ea;rw[y]at h;have z:=pp p [32,9,13,10] c ha;have d:=oq c [32,9,13,10];have e:xm c=([32,9,13,10]:ba).contains c:=rfl;rw[<-e]at d;clear g e;dsimp only at h⊢;cases x:Cc c [32,9,13,10]with
   |some i=>
    rw[x]at z d;have d:true=xm c:=d;rw[<-d,if_pos rfl];clear d;refine⟨⟨(),?_⟩,Hg⟩;simp only[Am,xb]at h⊢;exact Kb iH @Vc
   |none=>
    rw[x]at z d;have d:false=xm c:=d;rw[<-d,if_neg ea];clear d;cases ht:Fh s j with
    |none=>trivial
    |some t=>
     have I:=V9 p (s:=s) (k:=j) c;have G:=P5 p B A hs y ht;have v:=pw ht;have J:=eq_false (W9 c);refine⟨⟨(),?_⟩,by dsimp only;rw[Ba,Lt];omega⟩;generalize kr c=f at*;obtain⟨L,M,z3⟩:=v;have C:mb l++[.flat (.int .u8 t.kind.toNat),.flat (.string (S t.text)),.flat (.int .i64 (j:Nat)),.flat (.int .i64 (t.to:Nat))]=mb (l++[t]):=by rw[<-z3];exact iR (b:=[t])
     have K:2* f % 2=0:=Nat.mul_mod_right 2 f;have E:2* f/2=f:=Nat.mul_div_cancel_left f ha;have H:=Vj l;simp only[Am,xb,Oe]at h I G⊢;exact xe iH @Vc @Ba.{0}
theorem jR:∀(l:List Qa)(k),(mb l).drop (k* 4)=mb (l.drop k)
 |[],k=>by simp[mb]
 |t::l,0=>by simp
 |t::l,k+1=>by
  rw[ov,show(k+1)* 4=k* 4+1+1+1+1 by omega];simp only[Zl];exact jR l k
def f8(l:List Qa):(mb l).take (l.length* 4)=mb l:=uk (by rw[Vj];omega)
def Xn(b:Bool):List Loc:=if b=true then[.cell 1 2,.cell 1 3,.cell 0 2,.cell 0 3]else[.cell 1 3,.cell 1 2,.cell 0 2,.cell 0 3]
def Ok(L:List Qa)(c:UInt8)(t:ba)(b:Bool)(ks:List ba)(vs:List JV)(at_:Nat):St:=
 ⟨[(0,.ia L.length (mb L)),(2,.ptr 0 0),(4,.ptr 1 0),(5,.flat (.int .i64 (at_:Nat)))],Xn b,[],[(291,zJ),(291,[.flat (.int .u8 c.toNat),.flat (.string (S t)),.ia ks.length (wa ks),.ia vs.length (je vs)])]⟩
def nX{L:List Qa}{c:UInt8}{t:ba}{b ks g}{vs:List JV}{at_ Cc p q:Nat}{v:JV}{a:Qa}(hLZ:L.length<=100000)(K:ks.length<=100000)(M:vs.length<=100000)(w:L[at_]?=some a)(j:(a.kind=44/\Cc=at_+1)\/(a.kind≠93/\a.kind≠125/\a.kind≠44/\Cc=at_))
 (I:(c=123/\∃e:Qa,L[Cc]?=some e/\g=ks++[e.text]/\p=Cc+2)\/(c=91/\g=ks/\p=Cc)) (hpZ:p<=L.length) (hqZ:q<=100000)
 (y:da code lib 283 [.ia (L.length - p) (mb (L.drop p))] [] []=some ([.agg v.cells,.flat (.int .i64 (q:Nat))],false,[],[])):
 Gp [0,2,4,5] 2 (Ok L c t false g (vs++[v]) (p+q)) (ma (da code lib) ja qq (Ok L c t b ks vs at_)):=by
 have H:za=4294967296:=rfl;have G:=(qg w).1;have r:=Fl w;have e1:=Vj L;have e2:=f8 L;have e3:=jR L p;have e5:=Mg (L.drop p);have U:=Mg (L.drop (at_+1));have R:=fun n=>Vc (n:=n) L
 have T:∀n,Ia n zJ=true:=fun n=>rfl
 have e6:((at_:Int)+1+2).toNat=at_+1+2:=aa
 obtain⟨ac,D,B,C⟩:=a;simp only[Oe,Ha,Ra]at r;dsimp only at j;have V:=Vu vs;have W:=fun n=>Xd (n:=n) ks
 have X:=fun n=>fg (n:=n) vs
 have Y:=dd ks;have Z:=jj vs;have f6Z:=cd (l:=ks);have E:=fun n=>Xd (n:=n) g
 have f8Z:=fun n=>fg (n:=n) (vs++[v])
 obtain⟨c1,z,h,i⟩:=v;have g1:=dd h;have g2Z:=jj i;have g3:=fun n=>Xd (n:=n) h
 have g4:=fun n=>fg (n:=n) i
 have F:=Py (a:=vs) (b:=[.mk c1 z h i]);have g6Z:(vs++[JV.mk c1 z h i]).length=vs.length+1:=ea
 simp only[je,JV.cells,Sg]at y F;have A:ac≠93->ac≠125->ac≠44->(((ac.toNat:Int)=93)=False)/\(((ac.toNat:Int)=125)=False)/\(((ac.toNat:Int)=44)=False):=fun j k o=>⟨toNat_ne j,toNat_ne k,toNat_ne o⟩
 rcases I with⟨rfl,e,d,rfl,rfl⟩|⟨rfl,rfl,rfl⟩
 ·have J:=(qg d).1
  have e4:=Fl d;obtain⟨kcZ,x,kfZ,N⟩:=e;simp only[Oe,Ha,Ra]at e4;dsimp only at E⊢;have g7Z:wa ks++[.flat (.string (S x))]=wa (ks++[x]):=by simp[wa]
  have g8Z:(ks++[x]).length=ks.length+1:=ea
  have g9Z:=Lf ks;rcases j with⟨rfl,rfl⟩|⟨k,o,u,rfl⟩
  ·cases b<;>exact xe Cv @Ok.eq_1 @Xn.eq_1
  ·obtain⟨O,P,Q⟩:=A k o u
   obtain⟨rfl,rfl,rfl,rfl⟩:=(Qa.mk.injEq ..).mp (jf (w.symm.trans d));cases b<;>exact xe Cv @Ok.eq_1 @Xn.eq_1
 ·rcases j with⟨rfl,rfl⟩|⟨k,o,u,rfl⟩
  ·cases b<;>exact xe Cv @Ok.eq_1 @Xn.eq_1
  ·obtain⟨O,P,Q⟩:=A k o u
   rw[e3]at r;rw[r]at y e5;cases b<;>exact xe Cv @Ok.eq_1 @Xn.eq_1
def B_{live nb t body n st}(h:Gp live nb t (body st)):Ac body live nb (n+1) st=Ac body live nb n t:=by
 rw[ec];unfold Gp at h;split at h
 ·rename_i a;rw[a,pc,h]
 ·exact h.elim
def Mq(t:Qa):Bool:=zh t.kind||If t.kind
def s3{t:Qa}(h:Mq t=true):t.kind≠93/\t.kind≠125/\t.kind≠44:=by
 unfold Mq zh If at h;refine⟨?_,?_,?_⟩<;>(intro e;rw[e]at h;cases h)
def lK{L:List Qa}{c:UInt8}{t:ba}{b ks}{vs:List JV}{at_ m:Nat}{a:Qa}(l:L.length<=100000)(d:L[at_]?=some a)(e:(c=91/\a.kind=93)\/(c=123/\a.kind=125)):
 Ac (ma (da code lib) ja qq) [0,2,4,5] 2 (m+1) (Ok L c t b ks vs at_)=some (.exit 0,⟨[(2,.ptr 0 0),(4,.ptr 1 0),(5,.flat (.int .i64 (at_:Nat)))],Xn b,[],[(291,zJ),(291,[.flat (.int .u8 c.toNat),.flat (.string (S t)),.ia ks.length (wa ks),.ia vs.length (je vs)])]⟩):=by
 have k:=(qg d).1;have j:=Fl d;obtain⟨ac,i,g,h⟩:=a;simp only[Oe,Ha,Ra]at j;dsimp only at e;rcases e with⟨rfl,rfl⟩|⟨rfl,rfl⟩<;>cases b<;>exact Sj Cv @ec @Ec @Ok.eq_1 @Xn.eq_1
def mK{L:List Qa}{x:Qa}{b ks}{vs:List JV}{at_:Nat}(l:L.length<=100000)(e:L[0]?=some x)(g:x.kind=123\/x.kind=91)(i:at_<=100000)
 (a:Ac (ma (da code lib) ja qq) [0,2,4,5] 2 ja (Ok L x.kind x.text true [] [] 1)=some (.exit 0,⟨[(2,.ptr 0 0),(4,.ptr 1 0),(5,.flat (.int .i64 (at_:Nat)))],Xn b,[],[(291,zJ),(291,[.flat (.int .u8 x.kind.toNat),.flat (.string (S x.text)),.ia ks.length (wa ks),.ia vs.length (je vs)])]⟩)):
 da code lib 283 [.ia L.length (mb L)] [] []=some ([.agg (JV.mk x.kind x.text ks vs).cells,.flat (.int .i64 (at_+1:Nat))],false,[],[]):=by
 have o:(⟨#[]⟩:ByteArray)=S []:=rfl;have fa:=(qg e).1;have d:=Fl e;have h:=fun n=>Xd (n:=n) ks
 have j:=fun n=>fg (n:=n) vs
 have k:=fun n=>Vc (n:=n) L
 obtain⟨c,p,fr,to⟩:=x;simp only[Oe,Ha,Ra,Nat.zero_mul,yf,ld]at d;dsimp only at a g⊢;simp only[Ok,Xn,if_true,wa,je,Ve,Ca,zJ,n1]at a;rw[d]at a;rw[JV.cells];unfold wa at h;unfold wa;rcases g with rfl|rfl
 ·rw[show((UInt8.toNat 123:Nat):Int)=123 from rfl]at a
  cases b<;>exact Fa dD
 ·rw[show((UInt8.toNat 91:Nat):Int)=91 from rfl]at a
  cases b<;>exact Fa dD
def N5{l:List Qa}(hlZ:l.length<=100000):∀n k v k',Vb n l k=some (v,k')->
 (∃t,l[k]?=some t/\Mq t=true)/\k<k'/\k'<=l.length/\da code lib 283 [.ia (l.length - k) (mb (l.drop k))] [] []=some ([.agg v.cells,.flat (.int .i64 (k' - k:Nat))],false,[],[]):=by
 have hzZ:(⟨#[]⟩:ByteArray)=S []:=rfl;have Q:∀{c:UInt8},If c=true->c=123\/c=91:=fun{c} h=>by
  have:c=91\/c=123:=by simpa[If]using h
  exact this.symm
 have D:∀k j,(l.drop k)[j]?=l[k+j]?:=fun k j=>kg ..
 refine MA (P:=fun k v k'=>(∃t,l[k]?=some t/\Mq t=true)/\k<k'/\k'<=l.length/\da code lib 283 [.ia (l.length - k) (mb (l.drop k))] [] []=some ([.agg v.cells,.flat (.int .i64 (k' - k:Nat))],false,[],[]))
  (R:=fun d c t ks vs k=>(∃x,l[d]?=some x/\x.kind=c/\x.text=t)/\d<=k/\k<l.length/\(k=d\/mc l k 44=true)/\ks.length<=k - d/\vs.length<=k - d/\∃m b,ja<=m+(k - d)/\Ac (ma (da code lib) ja qq) [0,2,4,5] 2 ja (Ok (l.drop d) c t true [] [] 1)=Ac (ma (da code lib) ja qq) [0,2,4,5] 2 m (Ok (l.drop d) c t b ks vs (if k=d then 1 else k - d))) ?_ ?_ ?_ ?_
 ·intro k t ht g
  have X:=(qg ht).1;refine⟨⟨t,ht,by unfold Mq;rw[g];rfl⟩,aa,aa,?_⟩;have i:=Fl (l:=l.drop k) (k:=0) (x:=t) (by rw[D];exact ht);have e1:k+1 - k=1:=aa
  have u:0<l.length - k:=aa
  obtain⟨c,w,fr,to⟩:=t;simp only[Oe,Ha,Ra,Nat.zero_mul,yf,yd]at i;rw[e1];simp only[JV.cells,wa,je,Ve,Ca];clear ht;have U:c=34\/c=48\/c=97:=by simpa[zh]using g
  clear g;generalize l.length - k=z at*;rcases U with rfl|rfl|rfl
  all_goals
   refine la dD (qa rfl) ?_;exact Kb @Vc @zJ.eq_1
 ·intro k t ht I H
  have X:=(qg ht).1;obtain⟨Y,a,K,g⟩:=Th H;refine⟨⟨t,ht,by unfold Mq;rw[I];simp⟩,aa,aa,?_⟩;have r:=Q I;have o:(l.drop k).length<=100000:=by rw[fc];omega
  have T:=lK (lib:=lib) (L:=l.drop k) (c:=t.kind) (t:=t.text) (b:=true) (ks:=[]) (vs:=[]) (at_:=1) (m:=ja - 1) (a:=a) o (by rw[D];exact K) (by rcases r with h|h<;>(rw[h]at g⊢;simp[g,Dd]));have:=mK (lib:=lib) (L:=l.drop k) (x:=t) (b:=true) (ks:=[]) (vs:=[]) (at_:=1) o (by rw[D];exact ht) r aa T;rw[fc]at this;rw[show k+2 - k=1+1 by omega];exact this
 ·intro k t ht I H
  have X:=(qg ht).1;exact⟨⟨t,ht,rfl,rfl⟩,aa,X,.inl rfl,ea,ea,ja,true,aa,by rw[if_pos rfl]⟩
 ·intro d c t ks vs k v k' I hRZ U hPZ
  obtain⟨⟨x,T,rfl,rfl⟩,hk0,hkl,W,hks,hvs,m,b,hmZ,g⟩:=hRZ;obtain⟨⟨y,hyZ,Z⟩,fa,hle,M⟩:=hPZ;have r:=Q I;have hbg:200000<ja:=ha
  obtain⟨m,rfl⟩:∃m'Z,m=m'Z+2:=⟨m - 2,aa⟩;obtain⟨p,J⟩:∃p,(if x.kind=123 then k+3 else k+1)=p:=⟨_,rfl⟩;obtain⟨G,i⟩:∃q,(if x.kind=123 then ks++[oi l (k+1)]else ks)=q:=⟨_,rfl⟩;obtain⟨at_,A⟩:∃q,(if k=d then 1 else k - d)=q:=⟨_,rfl⟩;rw[J]at fa M hyZ;rw[A]at g;rw[i];have hpk:k<p:=by rw[<-J];split<;>omega
  have o:(l.drop d).length<=100000:=by rw[fc];omega
  have hkl':G.length<=ks.length+1:=by rw[<-i];split<;>simp
  have F:(x.kind=123/\∃w:Qa,(l.drop d)[k+1 - d]?=some w/\G=ks++[w.text]/\p - d=k+1 - d+2)\/(x.kind=91/\G=ks/\p - d=k+1 - d):=by
   rcases r with h|h
   ·obtain⟨_,w,u,_⟩:=Th (U h).1
    rw[if_pos h]at J i;refine .inl ⟨h,w,by rw[D];rw[show d+(k+1 - d)=k+1 by omega];exact u,?_,aa⟩;rw[<-i,oi,u]
   ·have R:¬x.kind=123:=by rw[h];decide
    rw[if_neg R]at J i;exact .inr ⟨h,i.symm,aa⟩
  have N:∃a,(l.drop d)[at_]?=some a/\((a.kind=44/\k+1 - d=at_+1)\/(a.kind≠93/\a.kind≠125/\a.kind≠44/\k+1 - d=at_)):=by
   by_cases E:k=d
   ·rw[if_pos E]at A
    subst E A;rcases r with h|h
    ·obtain⟨_,w,u,B⟩:=Th (U h).1
     exact⟨w,by rw[D];exact u,.inr ⟨by rw[B];decide,by rw[B];decide,by rw[B];decide,aa⟩⟩
    ·have R:¬x.kind=123:=by rw[h];decide
     rw[if_neg R]at J;obtain⟨B,f2Z,f3Z⟩:=s3 Z;exact⟨y,by rw[D,J];exact hyZ,.inr ⟨B,f2Z,f3Z,aa⟩⟩
   ·rw[if_neg E]at A
    obtain⟨_,a,K,C⟩:=Th (W.resolve_left E);exact⟨a,by rw[D,<-A,show d+(k - d)=k by omega];exact K,.inl ⟨C,aa⟩⟩
  obtain⟨a,K,V⟩:=N;have hr:=nX (lib:=lib) (c:=x.kind) (t:=x.text) (b:=b) (vs:=vs) (q:=k' - p) (v:=v) o aa aa K V F (by rw[fc];omega) aa (by
   rw[fc,yd,show d+(p - d)=p by omega,show l.length - d - (p - d)=l.length - p by omega];exact M)
  rw[show p - d+(k' - p)=k' - d by omega]at hr;rw[B_ hr]at g;refine⟨fun H=>?_,fun _ C=>⟨⟨x,T,rfl,rfl⟩,aa,(Th C).1,.inr C,aa,by rw[Ba,Lt];omega,m+1,false,aa,by rw[if_neg aa];exact g⟩⟩;obtain⟨Y,e,H,O⟩:=Th H;rw[lK (lib:=lib) o (a:=e) (by rw[D,show d+(k' - d)=k' by omega];exact H) (by rcases r with h|h<;>(rw[h]at O⊢;simp[O,Dd]))]at g;have:=mK (lib:=lib) o (by rw[D];exact T) r aa g;rw[fc]at this;refine⟨⟨x,T,by unfold Mq;rw[I];simp⟩,aa,aa,?_⟩;rw[show k'+1 - d=k' - d+1 by omega];exact this
def aq(lib:Callee):Prop:=∀s w:ba,s.length<=1000000000->lib 146 [.flat (.string (S s)),.flat (.string (S w))] [] []=some ([.flat (.int .i64 (Lib.index s w))],false,[],[])
def HQ(H:aq lib)(s w)(h:s.length<=1000000000):da code lib 146 [.flat (.string (S s)),.flat (.string (S w))] [] []=some ([.flat (.int .i64 (Lib.index s w))],false,[],[]):=Ef ha ca (H s w h)
def Xi(lib:Callee):Prop:=∀s w:ba,s.length<=1000000000->lib 90 [.flat (.string (S s)),.flat (.string (S w))] [] []=some ([.flat (.string (S (if w.isPrefixOf s then s.drop w.length else s))),.flat (.bool (w.isPrefixOf s))],false,[],[])
def tD(H:Xi lib)(s w)(h:s.length<=1000000000):da code lib 90 [.flat (.string (S s)),.flat (.string (S w))] [] []=some ([.flat (.string (S (if w.isPrefixOf s then s.drop w.length else s))),.flat (.bool (w.isPrefixOf s))],false,[],[]):=Ef ha ca (H s w h)
def jm(lib:Callee):Prop:=∀s w:ba,s.length<=1000000000->lib 84 [.flat (.string (S s)),.flat (.string (S w))] [] []=some ([.flat (.string (S (if w.isSuffixOf s then s.take (s.length - w.length)else s))),.flat (.bool (w.isSuffixOf s))],false,[],[])
def uD(H:jm lib)(s w)(h:s.length<=1000000000):da code lib 84 [.flat (.string (S s)),.flat (.string (S w))] [] []=some ([.flat (.string (S (if w.isSuffixOf s then s.take (s.length - w.length)else s))),.flat (.bool (w.isSuffixOf s))],false,[],[]):=Ef ha ca (H s w h)
def Xw(lib:Callee):Prop:=∀s old a:ba,s.length<=1000000->1<=old.length->a.length<=10->lib 42 [.flat (.string (S s)),.flat (.string (S old)),.flat (.string (S a))] [] []=some ([.flat (.string (S (Lib.replaceAll s old a)))],false,[],[])
def zb7(H:Xw lib)(s old a)(hs:s.length<=1000000)(c:1<=old.length)(b:a.length<=10):da code lib 42 [.flat (.string (S s)),.flat (.string (S old)),.flat (.string (S a))] [] []=some ([.flat (.string (S (Lib.replaceAll s old a)))],false,[],[]):=Ef ha ca (H s old a hs c b)
def Wt(lib:Callee):Prop:=∀s w:ba,s.length<=1000000000->lib 39 [.flat (.string (S s)),.flat (.string (S w))] [] []=some ([.flat (.string (S (Lib.cut s w).1)),.flat (.string (S (Lib.cut s w).2.1)),.flat (.bool (Lib.cut s w).2.2)],false,[],[])
def qO(H:Wt lib)(s w)(h:s.length<=1000000000):da code lib 39 [.flat (.string (S s)),.flat (.string (S w))] [] []=some ([.flat (.string (S (Lib.cut s w).1)),.flat (.string (S (Lib.cut s w).2.1)),.flat (.bool (Lib.cut s w).2.2)],false,[],[]):=Ef ha ca (H s w h)
theorem uE:∀(p w r:ba),w≠[]->(∀i,i<p.length->w.isPrefixOf (p.drop i++(w++r))=false)->Lib.index (p++(w++r)) w=(p.length:Int)
 |[],w,r,b,h=>by
  have d:w.isPrefixOf (w++r)=true:=by rw[tl];exact List.prefix_append w r
  cases w with
  |nil=>exact absurd rfl b
  |cons a w=>
   rw[Ra,Ha];rw[Ha]at d;unfold Lib.index;rw[if_pos d];rfl
 |c::p,w,r,b,h=>by
  have e:=uE p w r b fun i g=>h (i+1) Ma
  have d:=h 0 ea;rw[yf,Ha]at d;rw[Ha];unfold Lib.index;rw[d,e];have:((p.length:Int)==-1)=false:=by rw[beq_eq_false_iff_ne];omega
  simp only[La,if_false,this,ua];omega
theorem RT(old a:ba)(h:a.length<=old.length):∀(n)(s:ba),(Lib.replaceK old a n s).length<=s.length
 |0,s=>Aa _
 |n+1,s=>by
  rw[Lib.replaceK];split
  ·omega
  ·rename_i b
   have c:=Lib.index_ge s old;have d:Lib.index s old≠-1:=by simpa using b
   have e:=Lib.index_room s old aa;have g:=RT old a h n (s.drop ((Lib.index s old).toNat+old.length))
   grind
def zb8(s old a:ba)(h:a.length<=old.length):(Lib.replaceAll s old a).length<=s.length:=by
 grind [Lib.replaceAll,Lib.replace,RT]
def Fc:ba:=[34,44,34,115,116,97,116,117,115,34,58,34]
def fJ(n:Nat):jc n=[44]\/jc n=[92,34]\/∃c l,jc n=c::l/\44∉jc n/\34∉jc n:=by
 by_cases p:n<160
 ·have:=(by decide+kernel:((List.range 160).all fun n=>decide (jc n=[44])||decide (jc n=[92,34])||(!(jc n).contains 44&& !(jc n).contains 34&& !(jc n).isEmpty))=true)
  have:=Bg.1 this n (Ri.2 p);simp only[Sp,bc,Fw,decide_eq_true_eq]at this;rcases this with(h|h)|⟨⟨a,b⟩,j⟩
  ·exact .inl h
  ·exact .inr (.inl h)
  ·cases o:jc n with
   |nil=>rw[o]at j;cases j
   |cons c l=>rw[o]at a b;exact .inr (.inr ⟨c,l,rfl,by simpa using a,by simpa using b⟩)
 by_cases a:n=8232
 ·subst a;exact .inr (.inr ⟨_,_,rfl,Fb,Fb⟩)
 by_cases b:n=8233
 ·subst b;exact .inr (.inr ⟨_,_,rfl,Fb,Fb⟩)
 obtain⟨r,t⟩:=eJ aa a b;have e:jc n=Ka n:=by unfold jc;rw[r,t];rfl
 have q:∀m,160<=m->m<1114112->∀x∈we m,128<=x/\x<256:=fun m h u x g=>by
  unfold we at g
  repeat' split at g
  all_goals simp only[wb,Nt,or_false]at g;omega
 have k:160<=(if Ob n then n else 65533)/\(if Ob n then n else 65533)<1114112:=by
  split
  ·rename_i h;have:=NQ h;omega
  ·omega
 have d:∀c:UInt8,c.toNat<128->c∉Ka n:=fun c i h=>by
  unfold Ka at h;obtain⟨x,g,rfl⟩:=si.1 h;have:=q _ k.1 k.2 x g;simp at i;omega
 obtain⟨c,l,i⟩:=QC (if Ob n then n else 65533);rw[e];exact .inr (.inr ⟨UInt8.ofNat c,l.map UInt8.ofNat,by unfold Ka;rw[i];rfl,d 44 ha,d 34 ha⟩)
theorem qS(r:ba):∀(rs:List Nat)(i:Nat),i<(rs.flatMap jc).length->Fc.isPrefixOf ((rs.flatMap jc).drop i++(Fc++r))=false
 |[],i,h=>by simp at h
 |n::rs,i,h=>by
  rw[fm]at h⊢;rcases Mh i (jc n).length with o|o
  ·rw[Jw aa,vc]
   obtain⟨x,t,a⟩:∃x t,(jc n).drop i=x::t:=⟨_,_,Pd o⟩;rw[a];by_cases p:x=34
   ·subst p
    have b:(34:UInt8)∈jc n:=(List.drop_sublist i _).subset (by rw[a];simp);rcases fJ n with j|j|⟨_,_,_,_,j⟩
    ·rw[j]at b;simp at b
    ·rw[j]at a
     have ht:t=[]:=by
      match i,a with
      |0,a=>simp at a
      |1,a=>simp at a;exact a
      |i+2,a=>simp at a
     subst ht;cases rs with
     |nil=>simp[Fc,List.isPrefixOf]
     |cons m rs=>
      rw[fm];rcases fJ m with d|d|⟨c,l,d,q,v⟩
      ·rw[d]
       cases rs with
       |nil=>simp[Fc,List.isPrefixOf]
       |cons k rs=>
        rw[fm];rcases fJ k with g|g|⟨c,l,g,w,u⟩
        ·rw[g];simp[Fc,List.isPrefixOf]
        ·rw[g];simp[Fc,List.isPrefixOf]
        ·have:c≠34:=fun e=>u (by rw[g,e];simp)
         rw[g];simp[Fc,List.isPrefixOf,Yf this]
      ·rw[d];simp[Fc,List.isPrefixOf]
      ·have:c≠44:=fun e=>q (by rw[d,e];simp)
       rw[d];simp[Fc,List.isPrefixOf,Yf this]
    ·exact absurd b j
   ·simp[Fc,List.isPrefixOf,Yf p]
  ·rw[List.drop_append,Ej o,Ra]
   exact qS r rs _ (by rw[Ba]at h;omega)
def O4(rc r:ba):Lib.index (Yd rc++(Fc++r)) Fc=((Yd rc).length:Int):=
 uE _ _ _ ha (fun i h=>qS r _ i h)
def XC{rc bd:ba}(h:Sf rc bd=0):Cf rc=rc/\∃l v,Gh bd=some l/\Vb (l.length+1) l 0=some (v,l.length)/\ee v<32:=by
 unfold Sf at h;split at h
 ·cases h
 rename_i c;split at h
 ·cases h
 rename_i e;split at h
 ·cases h
 rename_i g;split at h
 ·cases h
 rename_i a;rcases@jT bd with⟨b,l,v,ht,d,i,e1⟩|⟨b,e1⟩
 ·rw[e1]at a
  exact⟨by simpa using c,l,v,ht,d,by unfold zD at a;dsimp only at a;omega⟩
 ·omega
theorem FV{l:List Qa}:∀n k q,Vb n l k=some q->Vb (n+1) l k=some q
 |0,_,_,h=>by cases h
 |n+1,k,q,h=>by
  have e:=FV (l:=l) n;unfold Vb at h⊢;cases ht:l[k]? with
  |none=>rw[ht]at h;cases h
  |some t=>
   rw[ht]at h;dsimp only at h⊢;by_cases g1:zh t.kind=true
   ·rw[if_pos g1]at h⊢;exact h
   rw[if_neg g1]at h⊢;by_cases d:If t.kind=true
   ·rw[if_pos d]at h⊢
    by_cases g3:mc l (k+1) (Dd t.kind)=true
    ·rw[if_pos g3]at h⊢;exact h
    ·rw[if_neg g3]at h⊢
     refine oA (step:=Kf (Vb n l) l t.kind t.text) (step':=Kf (Vb (n+1) l) l t.kind t.text) id id (fun a b h=>?_) (fun a b h=>?_) (Aa _) h<;>
     ·unfold Kf at h⊢
      simp only[id];split at h
      ·cases h
      ·rename_i g4
       rw[if_neg g4];cases c:Vb n l (if t.kind=123 then a.2.2+3 else a.2.2+1)with
       |none=>rw[c]at h;cases h
       |some w=>rw[c]at h;rw[e _ _ c];exact h
   ·rw[if_neg d]at h;cases h
theorem zft{s:ba}{l:List Qa}{v:JV}(ht:Gh s=some l)(q:Vb (l.length+1) l 0=some (v,l.length)):
 ∃l' j,Gh (yg s)=some l'/\Vb (l'.length+1) l' 0=some (j,l'.length)/\ee j=ee v+1:=by
 refine⟨_,.mk 91 [] [] [v],ze2 ht,?_,by simp[ee,Xe]⟩;obtain⟨l',b⟩:∃l',(⟨91,[],0,1⟩::(l.map Qa.up++[⟨93,[],s.length+1,s.length+2⟩]):List Qa)=l':=⟨_,rfl⟩;rw[b];have d:l'.length=l.length+2:=by rw[<-b];simp
 have a:=zfs (l:=l) (l':=l') aa (fun i t h=>by
  have g:=(qg h).1;refine⟨t.up,?_,rfl,rfl⟩;rw[<-b,vk,ql (by simpa using g),List.getElem?_map,h];rfl) _ _ _ _ q
 have k:l'[0]?=some ⟨91,[],0,1⟩:=by rw[<-b];rfl
 have r:mc l' (l.length+1) 93=true:=by
  have:l'[l.length+1]?=some ⟨93,[],s.length+1,s.length+2⟩:=by
   rw[<-b,vk,Pf ea];simp
  unfold mc;rw[this];rfl
 have n:mc l' 1 93=false:=by
  cases o:mc l' 1 93 with
  |false=>rfl
  |true=>
   obtain⟨_,t,g,p⟩:=Th o;unfold Vb at a;rw[show(0+1)=1 from rfl,g]at a;dsimp only at a;rw[p]at a;have e1:zh 93=false:=ha
   have e2:If 93=false:=ha
   rw[e1,e2]at a;cases a
 rw[d];unfold Vb;rw[k];dsimp only;rw[show zh 91=false by decide,show If 91=true by decide,show Dd 91=93 by decide,n];simp only[La,if_false,if_true];refine ad ?_;unfold Kf;have e:¬((91:UInt8)=123):=ha
 simp only[e,false_and,if_false];have c:Vb (l.length+2) l' (0+1)=some (v,l.length+1):=FV _ _ _ a;rw[c];dsimp only;rw[show Dd 91=93 by decide,r,if_pos rfl];rfl
variable {lib:Callee}
def fq(lib:Callee):Prop:=∀(l:List Qa)(d:Nat),l.length<=100000->Xh l ([],0,0)=some ([],d,5)->lib 282 [.ia l.length (mb l)] [] []=some ([.flat (.int .i64 (d:Nat))],false,[],[])
def SQ(i:We lib)(j:sc lib)(h:Sb lib)(k:fq lib){s:ba}{l:List Qa}{v:JV}(hs:s.length<=10000)(ht:Gh s=some l)(g:Vb (l.length+1) l 0=some (v,l.length))(A:ee v<=32):
 da code lib 247 [.flat (.string (S s))] [] []=some ([.agg v.cells,.flat (.int .i64 0)],false,[],[]):=by
 have C:(⟨#[]⟩:ByteArray)=S []:=rfl;have q:=qw ht;have e1:=rV i j h aa ht;have e:=(vU l _ 0 v _ g).2 [] 0 0 (.inl rfl);rw[yf,Vp]at e;have o:Xh l ([],0,0)=some ([],ee v,5):=by rw[e];simp[Xh]
 have e2:da code lib 282 [.ia l.length (mb l)] [] []=some ([.flat (.int .i64 (ee v:Nat))],false,[],[]):=Ef ha ca (k l _ aa o);obtain⟨_,_,_,e3⟩:=N5 (lib:=lib) aa _ 0 v _ g;simp only[yf,Nat.sub_zero]at e3;have B:=(ls v).2;have p:1<=ee v:=by obtain⟨a,b,c,d⟩:=v;simp only[ee];omega
 have t:=fun n=>Vc (n:=n) l
 have u:=Mg l;obtain⟨c,r,ks,vs⟩:=v;have w:=fun n=>Xd (n:=n) ks
 have x:=fun n=>fg (n:=n) vs
 have y:=dd ks;have z:=jj vs;rw[JV.cells]at e3⊢;generalize ee (.mk c r ks vs)=d at*;clear e o g i j h k;exact Fa JY
def mY(i:We lib)(j:sc lib)(h:Sb lib)(k:fq lib)(f:Bool){rc bd:ba}(D:rc.length<=1000)(E:bd.length<=1000)(q:Sf rc bd=0):
 da code lib 187 [.agg [.flat (.bool f),.flat (.string (S rc)),.flat (.string (S bd))]] [] []=some ([.flat (.int .i64 0)],false,[],[]):=by
 have r:za=4294967296:=rfl;have F:(⟨#[]⟩:ByteArray)=S []:=rfl;obtain⟨a,l,v,ht,p,t⟩:=XC q;obtain⟨l',w,b,d,o⟩:=zft ht p;have e1:=SQ i j h k aa ht p aa;have e2:=SQ i j h k (by unfold yg;simp;omega) b d aa;have e3:=Vx h rc aa;rw[a]at e3;unfold yg at e2;obtain⟨c,G,ks,vs⟩:=v;obtain⟨c',u,e,g⟩:=w;have x:=fun n=>Xd (n:=n) ks
 have y:=fun n=>fg (n:=n) vs
 have z:=dd ks;have A:=jj vs;have g3:=fun n=>Xd (n:=n) e
 have g4:=fun n=>fg (n:=n) g
 have B:=dd e;have C:=jj g;rw[JV.cells]at e1 e2;clear i j h k ht p t b d o a q;refine la e0 (qa rfl) ?_;exact va @Ba.{0}
def oX(b:We lib)(c:sc lib)(a:Sb lib)(d:fq lib)(f:Bool){rc bd:ba}(g:rc.length<=1000)(h:bd.length<=1000)(e:Sf rc bd=0):
 da code lib 116 [.agg [.flat (.bool f),.flat (.string (S rc)),.flat (.string (S bd))]] [] []=some ([.flat (.string (S (Bi f rc bd))),.flat (.int .i64 0)],false,[],[]):=by
 have i:za=4294967296:=rfl;have k:(⟨#[]⟩:ByteArray)=S []:=rfl;have e1:=mY b c a d f g h e;have e2:=Q5 a rc aa;have j:=dJ rc;clear b c a d e;unfold Bi;generalize Yd rc=w at*;cases f
 ·have e3:da code lib 186 [.flat (.bool false)] [] []=some ([.flat (.string (S [114,101,115,111,108,118,101,100]))],false,[],[]):=Wj ca
  refine la ZN (qa rfl) ?_;exact va @Ba.{0}
 ·have e3:da code lib 186 [.flat (.bool true)] [] []=some ([.flat (.string (S [102,105,114,105,110,103]))],false,[],[]):=Wj ca
  refine la ZN (qa rfl) ?_;exact va @Ba.{0}
def wB(l:ba)(f:Bool)(rc bd:ba):Oa:=[(40,[.flat (.bool false),.flat (.string (S [])),.flat (.string (S []))]),(197,[.flat (.string (S l)),.flat (.bool f),.flat (.string (S rc)),.flat (.string (S bd))])]
def mw(c:Xi lib){l w r:ba}{f rc bd}(d:l.length<=1000000){b:Bool}(a:w.isPrefixOf l=b)(hr:(if b=true then l.drop w.length else l)=r):
 da code lib 185 [.ptr 1 0,.flat (.string (S w))] (wB l f rc bd) []=some ([.flat (.bool b)],false,wB r f rc bd,[]):=by
 have h:=tD c l w aa;have e:(if w.isPrefixOf l=true then l.drop w.length else l)=r:=by rw[a];exact hr
 rw[a]at h;rw[a]at e;rw[e]at h;clear e a hr;refine la g0 (qa rfl) ?_;exact va @wB.eq_1
def zb0(c:Xi lib)(e:aq lib)(d:Zp lib)(a:Sb lib){rc r:ba}(h:Cf rc=rc)(n:rc.length<=10000)(o:r.length<=10000):
 da code lib 113 [.ptr 1 0] (wB ([123,34,114,101,99,101,105,118,101,114,34,58,34]++(Yd rc++(Fc++r))) false [] []) []=some ([.flat (.bool true)],false,wB (Fc++r) false rc [],[]):=by
 have q:=dJ rc;have p:Fc.length=12:=rfl;have e1:=mw c (l:=[123,34,114,101,99,101,105,118,101,114,34,58,34]++(Yd rc++(Fc++r))) (w:=[123,34,114,101,99,101,105,118,101,114,34,58,34]) (r:=Yd rc++(Fc++r)) (f:=false) (rc:=[]) (bd:=[]) (by simp only[Ba,ua,Ca];omega) (b:=true) (by rw[tl];exact List.prefix_append _ _) rfl;have e2:=HQ e (Yd rc++(Fc++r)) Fc (by simp only[Ba];omega);rw[O4]at e2;have e3:=zbW d a (Yd rc) aa (t1 h);have e4:(Yd rc++(Fc++r)).take (Yd rc).length=Yd rc:=List.take_left;have e5:(Yd rc++(Fc++r)).drop (Yd rc).length=Fc++r:=Mt;have e6:(Yd rc++(Fc++r)).length=(Yd rc).length+(Fc++r).length:=Ba;have g:(Yd rc).length<=(Yd rc++(Fc++r)).length:=aa
 obtain⟨z,j⟩:∃z,Fc++r=z:=⟨_,rfl⟩;rw[j]at e1 e2 e4 e5 e6 g⊢;unfold Fc at e2;generalize Yd rc=x at*;obtain⟨y,i⟩:∃y,x++z=y:=⟨_,rfl⟩;rw[i]at e1 e2 e4 e5 e6 g⊢;have k:y.take (x.length+z.length)=y:=uk aa;clear c e d a h j i;simp only[wB,Ha,Ra]at e1⊢;exact Fa i0
def zeh(a:Xi lib){f:Bool}{rc r:ba}(d:r.length<=10000):
 da code lib 114 [.ptr 1 0] (wB (Fc++((if f then[102,105,114,105,110,103]else[114,101,115,111,108,118,101,100])++r)) false rc []) []=some ([.flat (.bool true)],false,wB r f rc [],[]):=by
 have c:za=4294967296:=rfl;have e:da code lib 186 [.flat (.bool true)] [] []=some ([.flat (.string (S [102,105,114,105,110,103]))],false,[],[]):=Wj ca;have hF:da code lib 186 [.flat (.bool false)] [] []=some ([.flat (.string (S [114,101,115,111,108,118,101,100]))],false,[],[]):=Wj ca;cases f
 ·have e1:=mw a (l:=Fc++([114,101,115,111,108,118,101,100]++r)) (w:=Fc++[102,105,114,105,110,103]) (r:=Fc++([114,101,115,111,108,118,101,100]++r)) (f:=false) (rc:=rc) (bd:=[]) (by simp[Fc];omega) (b:=false) rfl rfl
  have e2:=mw a (l:=Fc++([114,101,115,111,108,118,101,100]++r)) (w:=Fc++[114,101,115,111,108,118,101,100]) (r:=r) (f:=false) (rc:=rc) (bd:=[]) (by simp[Fc];omega) (b:=true) rfl rfl;simp only[wB,Fc,Ha,Ra,La,if_false]at e1 e2⊢;exact Fa aO
 ·have e1:=mw a (l:=Fc++([102,105,114,105,110,103]++r)) (w:=Fc++[102,105,114,105,110,103]) (r:=r) (f:=false) (rc:=rc) (bd:=[]) (by simp[Fc];omega) (b:=true) rfl rfl
  simp only[wB,Fc,Ha,Ra,if_true]at e1⊢;exact Fa aO
def kX(a:Xi lib)(c:jm lib){f:Bool}{rc bd:ba}(d:bd.length<=10000):
 da code lib 115 [.ptr 1 0] (wB ([34,44,34,98,111,100,121,34,58]++(bd++[125])) f rc []) []=some ([.flat (.bool true)],false,wB (bd++[125]) f rc bd,[]):=by
 have e1:=mw a (l:=[34,44,34,98,111,100,121,34,58]++(bd++[125])) (w:=[34,44,34,98,111,100,121,34,58]) (r:=bd++[125]) (f:=f) (rc:=rc) (bd:=[]) Ma (b:=true) rfl rfl;have e2:=uD c (bd++[125]) [125] Ma;have e3:([125]:ba).isSuffixOf (bd++[125])=true:=by rw[List.isSuffixOf_iff_suffix];exact List.suffix_append _ _
 have e4:(bd++[125]).take ((bd++[125]).length - ([125]:ba).length)=bd:=by rw[Ba,Nat.add_sub_cancel];exact List.take_left
 rw[e3,if_pos rfl,e4]at e2;generalize bd++[125]=y at*;clear e3 e4;simp only[wB,Ha,Ra]at e1⊢;exact Fa h0
def zbY(e:We lib)(g:sc lib)(b:Sb lib)(h:fq lib)(a:Xi lib)(j:aq lib)(d:Zp lib)(i:jm lib)(f:Bool){rc bd:ba}(l:rc.length<=1000)(n:bd.length<=1000)(c:Sf rc bd=0):
 da code lib 57 [.flat (.string (S (Bi f rc bd)))] [] []=some ([.agg [.flat (.bool f),.flat (.string (S rc)),.flat (.string (S bd))],.flat (.int .i64 0)],false,[],[]):=by
 have p:(⟨#[]⟩:ByteArray)=S []:=rfl;have o:=oX e g b h f l n c;have e1:=zb0 a j d b (r:=(if f then[102,105,114,105,110,103]else[114,101,115,111,108,118,101,100])++([34,44,34,98,111,100,121,34,58]++(bd++[125]))) (XC c).1 aa (by cases f<;>simp<;>omega);have e2:=zeh a (f:=f) (rc:=rc) (r:=[34,44,34,98,111,100,121,34,58]++(bd++[125])) Ma;have e3:=kX a i (f:=f) (rc:=rc) (bd:=bd) aa;have k:Bi f rc bd=[123,34,114,101,99,101,105,118,101,114,34,58,34]++(Yd rc++(Fc++((if f then[102,105,114,105,110,103]else[114,101,115,111,108,118,101,100])++([34,44,34,98,111,100,121,34,58]++(bd++[125]))))):=rfl;rw[<-k]at e1;generalize Bi f rc bd=y at*;generalize Fc++((if f then[102,105,114,105,110,103]else[114,101,115,111,108,118,101,100])++([34,44,34,98,111,100,121,34,58]++(bd++[125])))=q at*;generalize [34,44,34,98,111,100,121,34,58]++(bd++[125])=t at*;generalize bd++[125]=u at*;clear k e g b h a j d i c;simp only[wB]at e1 e2 e3;refine la f0 (qa rfl) ?_;exact fQ @Rc @ec @pc @Ec @Ed D_ @BEq.rfl.{0}
def pt(t:Qa):ba:=if t.kind=34 then[34,34]else if t.kind=48\/t.kind=97 then t.text else[t.kind]
def fo(l:List Qa):ba:=l.flatMap pt
theorem IP:∀(l:List Qa)(a:ba),l.foldl (fun a t=>a++pt t) a=a++fo l
 |[],a=>by simp[fo]
 |t::l,a=>by rw[Cg,IP l];simp[fo]
def ze4{s:ba}{l}(h:Gh s=some l):∀t∈l,t.text.length<=4* s.length+5:=by
 refine kk (step:=xf s) (I:=fun a:List Qa×Nat=>a.2<=s.length/\∀t∈a.1,t.text.length<=4* s.length+5) (μ:=fun a=>s.length - a.2) (Q:=fun r=>∀l,r=some l->∀t∈l,t.text.length<=4* s.length+5) (fun a e=>?_) _ _ ⟨Cb _,ea⟩ Hg l h;unfold xf;cases o:s.drop a.2 with
 |nil=>intro l i;cases i;exact e.2
 |cons c r=>
  have i:=gg o;dsimp only;split
  ·rename_i b d
   split at d
   ·cases d;exact⟨⟨Hg,e.2⟩,Hg⟩
   split at d
   ·cases d
   ·rename_i t ht
    cases d;obtain⟨p,k,u⟩:=pw ht;refine⟨⟨k,fun x g=>?_⟩,Hg⟩;rcases Ue.1 g with g|g
    ·exact e.2 x g
    rw[so.1 g];unfold Fh at ht;rw[o]at ht;dsimp only at ht;split at ht
    ·cases ht;simp
    split at ht
    ·obtain⟨q,j,rfl⟩:=qm ht
     have:q.1.length<=4* q.2:=by
      refine kk (step:=Mi s) (I:=fun a:ba×Nat=>a.2<=s.length/\a.1.length<=4* a.2) (μ:=fun a=>s.length - a.2) (Q:=fun r=>∀q,r=some q->q.1.length<=4* q.2) (fun a e=>?_) _ _ ⟨Hg,ea⟩ Hg q j;cases hs:Mi s a with
      |inl b=>exact YU a b e hs
      |inr r=>
       intro q j;subst j;unfold Mi at hs;split at hs
       ·cases hs
       ·split at hs
        ·cases hs;dsimp only;omega
        ·split at hs<;>cases hs
     dsimp only at k⊢;omega
    split at ht
    ·rename_i w j
     cases ht;have:w=wT\/w=Yh\/w=wN:=by unfold lg at j;grind
     rcases this with rfl|rfl|rfl<;>simp[wT,Yh,wN]<;>omega
    ·obtain⟨n,j,rfl⟩:=qm ht
     dsimp only;rw[Se,ua];omega
  ·rename_i b d
   split at d
   ·cases d
   split at d
   ·cases d;intro l i;cases i
   ·cases d
theorem zcH(v:Sb lib)(f:Bool)(rc bd:ba)(l:List Qa)(G:l.length<=10000)(hs:∀t∈l,t.text.length<=100000):
 da code lib 315 [.agg [.flat (.bool f),.flat (.string (S rc)),.flat (.string (S bd)),.ia l.length (mb l)]] [] []=some ([.flat (.string (S (fo l)))],false,[],[]):=by
 have C:(⟨#[]⟩:ByteArray)=S []:=rfl;have A:za=4294967296:=rfl;have e:∀t∈l,(pt t).length<=100000:=fun t ht=>by
  have:=hs t ht;unfold pt;split
  ·simp
  split
  ·omega
  ·simp
 have E:=fun n=>Vc (n:=n) l
 have hrel:=On (body:=ma (da code lib) ja pC) (live:=[3,7,8,9]) (nb:=2) (fun(u:Bool)(q:ba×Nat)=>(⟨[(3,.ptr 1 0),(7,.ia l.length (mb l)),(8,.flat (.int .i64 (l.length:Nat))),(9,.flat (.int .i64 (q.2:Nat)))],[.cell 1 1],[],[(127,[.flat (.bool f),.flat (.string (S rc)),.flat (.string (S bd)),.ia l.length (mb l)]),(101,bld u 1 q.1 [])]⟩:St))
  (ug (fun a t=>a++pt t) l) [] (fun r o st=>o=.exit 0/\∃u,st=⟨[(3,.ptr 1 0)],[.cell 1 1],[],[(127,[.flat (.bool f),.flat (.string (S rc)),.flat (.string (S bd)),.ia l.length (mb l)]),(101,bld u 1 r [])]⟩) (fun q=>q.2<=l.length/\q.1.length<=100000* q.2) (fun q=>l.length - q.2) (fun u ⟨out,j⟩ B=>?_) (fun a b d h=>?_) (n:=l.length+1) (m:=ja) false ([],0) ⟨Cb _,ea⟩ aa (by grind [ja])
 ·obtain⟨o,st,d,rfl,u,rfl⟩:=hrel
  rw[kp aa,yf,IP,Ra]at d;have g:=lk (lib:=lib) (oc:=[.cell 1 1]) v (bx:=[(127,[.flat (.bool f),.flat (.string (S rc)),.flat (.string (S bd)),.ia l.length (mb l)]),(101,bld u 1 (fo l) [])]) (b:=1) rfl ea;simp only[n0,show bld false 1 [] []=[.flat (.pointer none),.ia 0 []]from rfl]at d;exact Fa GZ
 ·dsimp only at B⊢
  unfold ug;dsimp only;cases p:l[j]? with
  |none=>
   have:=ul.1 p;exact Hq (o:=.exit 0) (s:=⟨[(3,.ptr 1 0)],[.cell 1 1],[],[(127,[.flat (.bool f),.flat (.string (S rc)),.flat (.string (S bd)),.ia l.length (mb l)]),(101,bld u 1 out [])]⟩) (va Ev) ea ⟨rfl,u,rfl⟩
  |some t=>
   have fa:=(qg p).1;have e1:=Fl p;have ht:=e t (nh p);have d:=fun w h=>ai v (bx:=[(127,[.flat (.bool f),.flat (.string (S rc)),.flat (.string (S bd)),.ia l.length (mb l)]),(101,bld u 1 out []),(203,Oe t)]) (b:=1) (u:=u) (l:=out) (m:=w) (r:=[]) (rest:=[]) rfl lj h (fun q k=>by cases k) (fun q k=>by cases k)
   have g:=fun c h=>Cw v (bx:=[(127,[.flat (.bool f),.flat (.string (S rc)),.flat (.string (S bd)),.ia l.length (mb l)]),(101,bld u 1 out []),(203,Oe t)]) (b:=1) (u:=u) (l:=out) (c:=c) (r:=[]) (rest:=[]) rfl lj h (fun q k=>by cases k) (fun q k=>by cases k)
   have F:∀w,Ia 2 (bld true 1 w [])=true:=fun w=>Mo ha rfl
   clear hs e p v C;obtain⟨c,D,fr,to⟩:=t;refine⟨true,?_⟩;unfold pt at ht⊢;dsimp only at ht⊢;simp only[Oe,Ha,Ra,Am,List.set_cons_succ,Gw]at e1 d g;by_cases g1:c=34
   ·subst g1
    rw[if_pos rfl]at ht⊢;have w:=d [34,34] Ma;clear d g;simp only[show((UInt8.toNat 34:Nat):Int)=34 from rfl]at w;exact va Ev
   have x:=toNat_ne g1;simp only[show((UInt8.toNat 34:Nat):Int)=34 from rfl]at x;rw[if_neg g1]at ht⊢;by_cases i:c=48\/c=97
   ·rw[if_pos i]at ht⊢
    have w:=d D aa;clear d g;rcases i with rfl|rfl
    ·simp only[show((UInt8.toNat 48:Nat):Int)=48 from rfl]at w
     exact va Ev
    ·simp only[show((UInt8.toNat 97:Nat):Int)=97 from rfl]at w
     exact va Ev
   ·rw[if_neg i]at ht⊢
    rw[not_or]at i;have y:=toNat_ne i.1;have z:=toNat_ne i.2;simp only[show((UInt8.toNat 48:Nat):Int)=48 from rfl,show((UInt8.toNat 97:Nat):Int)=97 from rfl]at y z;have w:=g c aa;clear d g i;exact va Ev
 ·obtain⟨i,d,t,ht,g⟩:=Nq a b h
  have:=e t (nh ht);rw[d,g];simp only[Ba];omega
theorem b9{a k b:Nat}{c}:List.lookup a ((k,b)::c)=if a=k then some b else List.lookup a c:=by
 rw[List.lookup_cons];by_cases h:a=k
 ·subst h;simp
 ·rw[if_neg h,show(a==k)=false by simpa using h]
theorem PW{α β:Type}{a:α}{f:α->Option β}:(some a).bind f=f a:=rfl
attribute [go_sem] b9 PW
def Kj(H:Nat×List PV)(out:List ba)(ys:Oa):Oa:=(29,[.ia out.length (wa out)])::H::(0,[.lp 10 0 .ready [8] [.ptr 0 0]])::ys
def FI{H:Nat×List PV}{out:List ba}{x:ba}{ys}(g:out.length<=1000000):da code lib kb [.Sa 2,.flat (.string (S x))] (Kj H out ys) [.cell 0 0]=some ([.flat (.bool true)],false,Kj H (out++[x]) ys,[.cell 0 0]):=by
 have a:za=4294967296:=rfl;refine ep Wo QN rfl rfl rfl ?_;have b:wa out++[.flat (.string (S x))]=wa (out++[x]):=by simp[wa]
 have c:(out++[x]).length=out.length+1:=ea
 have d:=cd (l:=out);have e:=Lf out;exact xe @lQ.eq_1 @VP.eq_1 @Kj.eq_1
def vw(a:List ba)(t:Qa):List ba:=if t.kind=34 then a++[t.text]else a
def zr(rc bd:ba)(l:List Qa):List ba:=l.foldl vw [rc,bd]
abbrev Kn(f:Bool)(rc bd:ba)(l:List Qa):Nat×List PV:=(127,[.flat (.bool f),.flat (.string (S rc)),.flat (.string (S bd)),.ia l.length (mb l)])
def zeX(f:Bool)(rc bd:ba)(l:List Qa)(p:l.length<=10000):da code lib 317 [.Sa 2,.ptr 1 0] (Kj (Kn f rc bd l) [] []) [.cell 0 0]=some ([],false,Kj (Kn f rc bd l) (zr rc bd l) [],[.cell 0 0]):=by
 have i:=fun n=>Vc (n:=n) l
 have hrel:=On (body:=ma (da code lib) ja qC) (live:=[0,20,21,22]) (nb:=3) (fun(_:Unit)(q:List ba×Nat)=>(⟨[(0,.Sa 2),(20,.ia l.length (mb l)),(21,.flat (.int .i64 (l.length:Nat))),(22,.flat (.int .i64 (q.2:Nat)))],[.cell 0 0],[],Kj (Kn f rc bd l) q.1 []⟩:St))
  (ug vw l) [] (fun r o st=>o=.exit 0/\st=⟨[],[.cell 0 0],[],Kj (Kn f rc bd l) r []⟩) (fun q=>q.2<=l.length/\q.1.length<=q.2+2) (fun q=>l.length - q.2) (fun _ ⟨out,j⟩ g=>?_) (fun a b d h=>?_) (n:=l.length+1) (m:=ja) () ([rc,bd],0) ⟨Cb _,ea⟩ aa (by grind [ja])
 ·obtain⟨o,st,d,rfl,rfl⟩:=hrel
  rw[kp aa,yf]at d;have r1:=FI (lib:=lib) (H:=Kn f rc bd l) (out:=[]) (x:=rc) (ys:=[]) ea;have r2:=FI (lib:=lib) (H:=Kn f rc bd l) (out:=[rc]) (x:=bd) (ys:=[]) ea;unfold zr;generalize l.foldl vw [rc,bd]=L at*;simp only[Kj,n0,Ra,Ha,Ca,ua,ld,Nat.reduceAdd]at d r1 r2⊢;exact Fa HZ
 ·dsimp only at g⊢
  unfold ug;dsimp only;cases d:l[j]? with
  |none=>
   have:=ul.1 d;exact Kb uH @Kj.eq_1
  |some t=>
   have fa:=(qg d).1;have e1:=Fl d;have r1:=FI (lib:=lib) (H:=Kn f rc bd l) (out:=out) (x:=t.text) (ys:=[(203,Oe t)]) aa;have k:=fun n L=>Xd (n:=n) L
   clear d;obtain⟨c,u,fr,to⟩:=t;refine⟨(),?_⟩;simp only[Oe,Ha,Ra,Kj]at e1 r1;unfold vw;dsimp only;by_cases g1:c=34
   ·subst g1
    rw[if_pos rfl];simp only[show((UInt8.toNat 34:Nat):Int)=34 from rfl]at r1;exact Kb uH @Kj.eq_1
   ·have e:=toNat_ne g1
    simp only[show((UInt8.toNat 34:Nat):Int)=34 from rfl]at e;rw[if_neg g1];exact Kb uH @Kj.eq_1
 ·obtain⟨k,d,t,ht,e⟩:=Nq a b h
  rw[d,e];unfold vw;split
  ·simp only[Ba,ua,Ca];omega
  ·omega
def QT(b:We lib)(c:sc lib)(a:Sb lib)(g:fq lib)(d:Xi lib)(i:aq lib)(e:Zp lib)(h:jm lib)(f:Bool){rc bd:ba}{l:List Qa}(k:rc.length<=1000)(o:bd.length<=1000)(j:Sf rc bd=0)(ht:Gh bd=some l):
 da code lib 24 [.flat (.int .i64 2),.flat (.string (S (Bi f rc bd)))] [] []=some ([.tag 255 [.agg [.flat (.bool f),.flat (.string (S rc)),.flat (.string (S bd)),.ia l.length (mb l)]],.flat (.int .i64 0)],false,[],[]):=by
 have r:(⟨#[]⟩:ByteArray)=S []:=rfl;have e1:=zbY b c a g d i e h f k o j;have e2:=rV b c a (s:=bd) aa ht;have p:=fun n=>Vc (n:=n) l
 have q:=Mg l;generalize Bi f rc bd=y at*;clear b c a g d i e h j ht;exact Fa SN
def zcI(a:Sb lib)(f:Bool){rc bd y:ba}{l:List Qa}(b:l.length<=10000)(hs:∀t∈l,t.text.length<=100000)
 (hr:da code lib 24 [.flat (.int .i64 2),.flat (.string (S y))] [] []=some ([.tag 255 [.agg [.flat (.bool f),.flat (.string (S rc)),.flat (.string (S bd)),.ia l.length (mb l)]],.flat (.int .i64 0)],false,[],[])):
 da code lib 11 [.flat (.int .i64 2),.flat (.string (S y))] [] []=some ([.flat (.string (S (fo l))),.flat (.int .i64 0)],false,[],[]):=by
 have e:(⟨#[]⟩:ByteArray)=S []:=rfl;have e1:=zcH a f rc bd l b hs;have c:=fun n=>Vc (n:=n) l
 have d:=Mg l;clear hs;exact Fa PN
def zeY(f:Bool){rc bd y:ba}{l:List Qa}(a:l.length<=10000)
 (hr:da code lib 24 [.flat (.int .i64 2),.flat (.string (S y))] [] []=some ([.tag 255 [.agg [.flat (.bool f),.flat (.string (S rc)),.flat (.string (S bd)),.ia l.length (mb l)]],.flat (.int .i64 0)],false,[],[])):
 da code lib 10 [.flat (.int .i64 2),.flat (.string (S y))] [] []=some ([.ia (zr rc bd l).length (wa (zr rc bd l)),.flat (.int .i64 0)],false,[],[]):=by
 have e:(⟨#[]⟩:ByteArray)=S []:=rfl;have b:=fun n=>Vc (n:=n) l
 have c:=Mg l;have e1:da code lib 316 [.agg [.flat (.bool f),.flat (.string (S rc)),.flat (.string (S bd)),.ia l.length (mb l)]] [] []=some ([.ib 317 [.ptr 0 0]],false,[Kn f rc bd l],[]):=Fa RN;have e2:da code lib 316 [.agg [.flat (.bool f),.flat (.string (S rc)),.flat (.string (S bd)),.ia l.length (mb l)]] [(29,[.ia 0 []])] [.cell 0 0]=some ([.ib 317 [.ptr 1 0]],false,[(29,[.ia 0 []]),Kn f rc bd l],[.cell 0 0]):=Fa RN;have e3:=zeX (lib:=lib) f rc bd l a;have d:=fun n=>Xd (n:=n) (zr rc bd l)
 generalize zr rc bd l=L at*;simp only[Kj,show wa []=[]from rfl,Ca]at e3;exact Fa QN
def Sn(c:UInt8):Bool:=!((decide ((c.toNat|||32)<97)||decide (122<(c.toNat|||32)))&&((decide (c.toNat<48)||decide (57<c.toNat))&& !decide (c.toNat=45)))
def Jn(s:ba)(k:Nat):St:=⟨[(0,.flat (.string (S s))),(6,.flat (.int .i64 (s.length:Nat))),(7,.flat (.int .i64 (k:Nat)))],[],[],[]⟩
def K9(s)(k)(c)(v:k<s.length)(hs:s.length<=1000000000)(p:s[k]?=some c):ma (da code lib) ja wx (Jn s k)=if Sn c then some (.normal,Jn s (k+1))else some (.ret,⟨[(2,.flat (.bool false))],[],[],[]⟩):=by
 have c1:(k:Int)<s.length:=aa
 have c2:(0:Int)<=(k:Nat):=aa
 have u:IntKind.i64.wrap ((k:Int)+1)=((k+1:Nat):Int):=wrap64 aa;have r:=c.toNat_lt;have a:Fg .u8 (c.toNat:Int) 32=((c.toNat|||32:Nat):Int):=u8_or c.toNat 32 aa aa;obtain⟨m,t⟩:∃m,c.toNat|||32=m:=⟨_,rfl⟩;obtain⟨n,b⟩:∃n,c.toNat=n:=⟨_,rfl⟩;unfold Sn;rw[t]at a⊢;rw[b]at a⊢;have g:((m:Int)<97)=(m<97):=by apply propext;omega
 have i:((122:Int)<m)=(122<m):=by apply propext;omega
 have j:((n:Int)<48)=(n<48):=by apply propext;omega
 have l:((57:Int)<n)=(57<n):=by apply propext;omega
 have o:((n:Int)=45)=(n=45):=by apply propext;omega
 by_cases d:m<97<;>by_cases e:122<m<;>by_cases a3:n<48<;>by_cases a4:57<n<;>by_cases a5:(n=45)=True
 all_goals first
  |(exfalso;omega)
  |skip
 all_goals
  first
   |(simp only[gH,Jn,go_sem,simprocAttr,c1,c2,hd,ic,p,eh,b,a,g,i,j,l,o,d,e,a3,a4,a5,u,nn,Ug,pn];done)
   |(have q:¬n=45:=fun h=>a5 (eq_true h)
     simp only[gH,Jn,go_sem,simprocAttr,c1,c2,hd,ic,p,eh,b,a,g,i,j,l,o,d,e,a3,a4,q,nn,Ug,pn])
def Hf(s:ba):Bool:=s.all Sn&&(!decide (s=[])&&decide (s.length<=32))
def bS(s)(hs:s.length<=1000000000):da code lib 40 [.flat (.string (S s))] [] []=some ([.flat (.bool (Hf s))],false,[],[]):=by
 refine la FY (qa rfl) ?_
 have b:=Ah (body:=ma (da code lib) ja wx) (live:=[0,6,7]) (nb:=0) (Jn s) (fun k=>k<=s.length) (fun k=>s.length - k)
  (fun k=>if(s.drop k).all Sn then(.exit 0,⟨[(0,.flat (.string (S s)))],[],[],[]⟩)else(.ret,⟨[(2,.flat (.bool false))],[],[],[]⟩)) (fun k c=>?_) (n:=ja) (a:=0) (Cb _) (by grind [ja])
 ·simp only[Jn,yf,n0]at b
  have g:(⟨#[]⟩:ByteArray)=S []:=rfl;cases d:s.all Sn with
  |true=>
   simp only[d,if_true]at b;by_cases e:s=[]
   ·have c:=eq_true e
    simp only[go_sem,simprocAttr,Xa,b,g,Bo,Hf,d,c]
   ·by_cases h:s.length<=32
    ·have c:(s.length:Int)<=32:=aa
     exact va @Hf.eq_1
    ·have c:¬(s.length:Int)<=32:=aa
     exact va @Hf.eq_1
  |false=>
   simp only[d,La,if_false]at b;exact va @Hf.eq_1
 ·by_cases fa:k<s.length
  ·have d:=qe fa
   have e:=Pd fa;have hr:=K9 (lib:=lib) s k s[k] fa hs d;cases c:Sn s[k]with
   |true=>
    right;rw[c,if_pos rfl]at hr;exact⟨Jn s (k+1),k+1,hr,by simp only[Jn,go_sem,simprocAttr],fa,aa,by rw[e,zk,c,od]⟩
   |false=>
    left;rw[c]at hr;exact⟨.ret,_,hr,ea,na⟩
  ·left
   obtain rfl:k=s.length:=aa
   have c1:¬(s.length:Int)<s.length:=aa
   refine⟨.exit 0,⟨[(0,.flat (.string (S s)))],[],[],[]⟩,?_,ea,ea⟩;exact Kb gH @Jn.eq_1
def ak(w:ba)(long:Nat):Bool:=decide (76<=w.length+long)
def jk(l w:ba)(long:Nat):ba:=(if ak w long then l++[13,10]else l)++(32::w)
def fl(w:ba)(long:Nat):Nat:=(if ak w long then 0 else long)+(1+w.length)
def zbz(F:Sb lib){bx}{r}{b e}{u}{l w}{long}(v:bx[b]?=some (e,bld u b l [.flat (.int .i64 (long:Nat))]))(M:Yj e 3)(hs:l.length+w.length<=1000000000)(T:long<=1000000000)(hr:∀q∈r,q≠(b,1))(A:∀q∈r,q≠(b,2))(fa:∀q∈r,q.1<bx.length):
 da code lib 164 [.ptr b 0,.flat (.string (S w))] bx (.cell b 1::cl r)=some ([],false,bx.set b (e,bld true b (jk l w long) [.flat (.int .i64 (fl w long:Nat))]),.cell b 1::cl r):=by
 refine la EY (qa rfl) ?_;have g:=(qg v).1;have K:∃E,bx[b]?=some (e,E::.ia l.length (Sd l)::[.flat (.int .i64 (long:Nat))])/\(E=.ptr b 0\/E=.flat (.pointer none)):=by
  cases u
  ·exact⟨_,v,.inr rfl⟩
  ·exact⟨_,v,.inl rfl⟩
 obtain⟨E,x,z⟩:=K;have Q:IntKind.i64.wrap (76 - (long:Int))=76 - (long:Int):=wrap64 aa;have R:IntKind.i64.wrap (1+(w.length:Int))=((1+w.length:Nat):Int):=by rw[wrap64 aa];rfl
 have U:IntKind.i64.wrap ((long:Int)+((1+w.length:Nat):Int))=((long+(1+w.length):Nat):Int):=wrap64 aa;have V:IntKind.i64.wrap (0+((1+w.length:Nat):Int))=((0+(1+w.length):Nat):Int):=wrap64 aa;have L:(⟨#[13,10]⟩:ByteArray)=S [13,10]:=rfl;have B:(⟨#[32]⟩:ByteArray)=S [32]:=rfl;have C:1+w.length<=za:=He
 by_cases h:76<=w.length+long
 ·have G:76 - (long:Int)<=w.length:=aa
  have j:ak w long=true:=by simp[ak,h]
  have D:=ai (lib:=lib) (r:=r) (m:=[13,10]) F v M (by grind [za]) hr fa;obtain⟨c,H⟩:∃c,bx.set b (e,bld true b (l++[13,10]) [.flat (.int .i64 (long:Nat))])=c:=⟨_,rfl⟩;have J:c[b]?=some (e,.ptr b 0::.ia (l++[13,10]).length (Sd (l++[13,10]))::[.flat (.int .i64 (long:Nat))]):=by rw[<-H,Tg g];rfl
  have N:c.length=bx.length:=by rw[<-H,Kc]
  obtain⟨d,I⟩:∃d,c.set b (e,.ptr b 0::.ia (l++[13,10]).length (Sd (l++[13,10]))::[.flat (.int .i64 0)])=d:=⟨_,rfl⟩;have y:d[b]?=some (e,bld true b (l++[13,10]) [.flat (.int .i64 0)]):=by rw[<-I,Tg aa];rfl
  have O:d.length=bx.length:=by rw[<-I,Kc,N]
  have n:=ai (lib:=lib) (r:=r) (m:=32::w) F y M (by grind [za]) hr na;obtain⟨a,o⟩:∃a,d.set b (e,bld true b (l++[13,10]++(32::w)) [.flat (.int .i64 0)])=a:=⟨_,rfl⟩;have p:a[b]?=some (e,.ptr b 0::.ia (l++[13,10]++(32::w)).length (Sd (l++[13,10]++(32::w)))::[.flat (.int .i64 0)]):=by rw[<-o,Tg aa];rfl
  have P:a.length=bx.length:=by rw[<-o,Kc,O]
  have k:∀q,a.set b q=bx.set b q:=fun q=>by grind [List.set_set]
  rw[H]at D;rw[o]at n;have i:jk l w long=l++[13,10]++(32::w):=by simp only[jk,j,if_true]
  have t:fl w long=0+(1+w.length):=by simp only[fl,j,if_true]
  rw[i,t];rcases z with rfl|rfl<;>simp only[go_sem,simprocAttr,x,J,y,p,I,D,n,G,Q,R,V,L,B,C,Xa,Ij,sb,Gb,Eb,Nb,pg r A,ub r fa,g,Kc,k,zc]
  all_goals (try rfl)
 ·have G:¬76 - (long:Int)<=w.length:=aa
  have j:ak w long=false:=by simp[ak,h]
  have n:=ai (lib:=lib) (r:=r) (m:=32::w) F v M (by grind [za]) hr fa;obtain⟨a,o⟩:∃a,bx.set b (e,bld true b (l++(32::w)) [.flat (.int .i64 (long:Nat))])=a:=⟨_,rfl⟩;have p:a[b]?=some (e,.ptr b 0::.ia (l++(32::w)).length (Sd (l++(32::w)))::[.flat (.int .i64 (long:Nat))]):=by rw[<-o,Tg aa];rfl
  have P:a.length=bx.length:=by rw[<-o,Kc]
  have k:∀q,a.set b q=bx.set b q:=fun q=>by grind [List.set_set]
  rw[o]at n;have i:jk l w long=l++(32::w):=by simp only[jk,j,La,if_false]
  have t:fl w long=long+(1+w.length):=by simp only[fl,j,La,if_false]
  rw[i,t];rcases z with rfl|rfl<;>simp only[go_sem,simprocAttr,x,p,n,G,Q,R,U,B,C,Xa,Ij,sb,Gb,Eb,Nb,pg r A,ub r fa,g,Kc,k,zc]
  all_goals (try rfl)
def IG:Yj 236 3:=by unfold Yj;kernel_rfl
def bn(s:ba)(k:Nat)(c:UInt8)(long:Nat):Bool:=(decide (c.toNat=32)&&decide (long=0))||(decide (c.toNat<32)||(decide (126<c.toNat)||Tb s [61,63] k))
def Bh(c:UInt8)(long:Nat):Nat:=if c.toNat=32 then 0 else long+1
def np(s:ba)(q:Nat×Nat):St:=⟨[(0,.flat (.string (S s))),(3,.flat (.int .i64 (q.2:Nat))),(9,.flat (.int .i64 (s.length:Nat))),(10,.flat (.int .i64 (q.1:Nat)))],[],[],[]⟩
theorem plain_round(H:sc lib)(s)(k long)(c)(u:k<s.length)(hs:s.length<=1000000000)(v:long<=60)(p:s[k]?=some c):
 ma (da code lib) ja ux (np s (k,long))=if bn s k c long||decide (60<Bh c long)then some (.ret,⟨[(2,.flat (.bool false))],[],[],[]⟩)else some (.normal,np s (k+1,Bh c long)):=by
 have c1:(k:Int)<s.length:=aa
 have c2:(0:Int)<=(k:Nat):=aa
 have r:IntKind.i64.wrap ((k:Int)+1)=((k+1:Nat):Int):=wrap64 aa;have t:IntKind.i64.wrap ((long:Int)+1)=((long+1:Nat):Int):=wrap64 aa;have q:(⟨#[61,63]⟩:ByteArray)=S [61,63]:=rfl;have e:=EC (lib:=lib) H s [61,63] k hs ea;obtain⟨n,g⟩:∃n,c.toNat=n:=⟨_,rfl⟩;obtain⟨b,d⟩:∃b,Tb s [61,63] k=b:=⟨_,rfl⟩;unfold bn Bh;rw[d]at e⊢;rw[g];have h:((n:Int)=32)=(n=32):=by apply propext;omega
 have i:((n:Int)<32)=(n<32):=by apply propext;omega
 have j:((126:Int)<n)=(126<n):=by apply propext;omega
 have l:((long:Int)=0)=(long=0):=by apply propext;omega
 have o:((60:Int)<((long+1:Nat):Int))=(60<long+1):=by apply propext;omega
 have w:¬(n=32)->(n=32)=False:=eq_false;rcases pb (n=32)with a|a<;>rcases pb (n<32)with a2|a2<;>rcases pb (126<n)with a3|a3<;>rcases pb (long=0)with a4|a4<;>rcases pb (60<long+1)with a5|a5<;>cases b
 all_goals first
  |(exfalso;omega)
  |skip
 all_goals
  first|have e1:=eq_false a|have e1:=eq_true a
  first|have e2:=eq_false a2|have e2:=eq_true a2
  first|have e3:=eq_false a3|have e3:=eq_true a3
  first|have e4:=eq_false a4|have e4:=eq_true a4
  first|have e5:=eq_false a5|have e5:=eq_true a5
  clear a a2 a3 a4 a5;simp only[JS,np,go_sem,simprocAttr,c1,c2,hd,ic,p,eh,g,h,i,j,l,o,e1,e2,e3,e4,e5,r,t,q,e,n0,nn,pn]
def Kg(s:ba)(k long:Nat):ba->Option Nat
 |[]=>some long
 |c::t=>if bn s k c long||decide (60<Bh c long)then none else Kg s (k+1) (Bh c long) t
def Fi(s:ba):Bool:=decide (s=[])||(match Kg s 0 0 s with|none=>false|some n=>decide (0<n))
def zbn(H:sc lib)(s)(hs:s.length<=1000000000):da code lib 230 [.flat (.string (S s))] [] []=some ([.flat (.bool (Fi s))],false,[],[]):=by
 refine la zY (qa rfl) ?_;have p:(⟨#[]⟩:ByteArray)=S []:=rfl;by_cases e:s=[]
 ·subst e
  exact va @Fi.eq_1
 have b:=Ah (body:=ma (da code lib) ja ux) (live:=[0,3,9,10]) (nb:=0) (np s) (fun q=>q.1<=s.length/\q.2<=60) (fun q=>s.length - q.1)
  (fun q=>match Kg s q.1 q.2 (s.drop q.1)with|some n=>(.exit 0,⟨[(3,.flat (.int .i64 (n:Nat)))],[],[],[]⟩)|none=>(.ret,⟨[(2,.flat (.bool false))],[],[],[]⟩)) (fun q o=>?_) (n:=ja) (a:=(0,0)) ⟨Cb _,Cb _⟩ (by grind [ja])
 ·simp only[np,yf,n0]at b
  have c:=eq_false e;simp only[Fi,c,decide_false,Ug];cases g:Kg s 0 0 s with
  |none=>
   simp only[g]at b;exact sa
  |some n=>
   simp only[g]at b;have d:((0:Int)<(n:Nat))=(0<n):=by apply propext;omega
   exact sa
 ·obtain⟨k,long⟩:=q
  obtain⟨j,g⟩:=o;simp only at j g;by_cases fa:k<s.length
  ·have h:=qe fa
   have i:=Pd fa;have hr:=plain_round H s k long s[k] fa hs g h;cases c:bn s k s[k] long||decide (60<Bh s[k] long)with
   |false=>
    right;rw[c]at hr;have l:Bh s[k] long<=60:=by simp only[bB,decide_eq_false_iff_not]at c;omega
    exact⟨np s (k+1,Bh s[k] long),(k+1,Bh s[k] long),hr,by simp only[np,go_sem,simprocAttr],⟨fa,l⟩,by simp only;omega,by simp only[i,Kg,c,La,if_false]⟩
   |true=>
    left;rw[c]at hr;exact⟨.ret,_,hr,ea,by grind [Kg]⟩
  ·left
   obtain rfl:k=s.length:=aa
   have c1:¬(s.length:Int)<s.length:=aa
   refine⟨.exit 0,⟨[(3,.flat (.int .i64 (long:Nat)))],[],[],[]⟩,?_,ea,by grind [Kg]⟩;exact Kb JS @np.eq_1
variable {lib:Callee}
def Wi(lib:Callee)(enc:ba->ba):Prop:=∀s:ba,s.length<=100->(enc s).length<=136/\lib 232 [.flat (.string (S s))] [] []=some ([.flat (.string (S (enc s)))],false,[],[])
def NJ{enc}(H:Wi lib enc)(s:ba)(h:s.length<=100):da code lib 232 [.flat (.string (S s))] [] []=some ([.flat (.string (S (enc s)))],false,[],[]):=
 Ef ha ra (H s h).2
def Kd:ba:=[61,63,85,84,70,45,56,63,66,63]
def Gc(enc:ba->ba)(g:ba):ba:=Kd++enc g++[63,61]
def Lg(enc:ba->ba):ba->List Nat->List ba
 |now,[]=>[Gc enc now]
 |now,r::l=>if 45<now.length+(Ka r).length then Gc enc now::Lg enc (Ka r) l else Lg enc (now++Ka r) l
def Ad(enc:ba->ba)(s:ba):List ba:=if s=[]then[]else if Fi s then db 32 s else Lg enc [] (Gd s)
theorem zu{enc}(H:Wi lib enc){g}(h:g.length<=100):(Gc enc g).length<=200:=by
 have:=(H g h).1
 grind [Gc,Kd,List.length_cons]
theorem kE(enc):∀(l)(a),(Lg enc a l).length<=l.length+1
 |[],a=>by simp[Lg]
 |r::l,a=>by
  simp only[Lg];split
  ·have:=kE enc l (Ka r);grind
  ·have:=kE enc l (a++Ka r);grind
theorem Bu(c):∀s,(db c s).length<=s.length+1
 |[]=>by simp[db]
 |x::l=>by
  have:=Bu c l
  grind [db]
theorem gy(c):∀(s x),x∈db c s->x.length<=s.length
 |[],x,h=>by grind [db]
 |y::l,x,h=>by
  have:=gy c l
  grind [db]
theorem bI:∀(n)(s),s.length<=n->(ff s).length<=s.length
 |_,[],_=>by simp[cI]
 |0,_::_,h=>by simp at h
 |n+1,c::l,h=>by
  have a:=Bq c l;have b:((c::l).drop (Ta (c::l)).2).length<=l.length:=by rw[fc];simp only[ua];omega
  have:=bI n ((c::l).drop (Ta (c::l)).2) na
  grind [Rv]
theorem fU:∀(n)(s),s.length<=n->∀q∈ff s,q.1<8388608
 |_,[],_,q,a=>by grind [cI]
 |0,_::_,h,q,a=>by simp at h
 |n+1,c::l,h,q,a=>by
  have b:=Bq c l;rw[Rv]at a;rcases wb.1 a with rfl|a
  ·exact Aq _
  ·exact fU n _ na q a
theorem HT:∀a,Ib (Wd a)=true
 |[]=>rfl
 |c::a=>by show Ib (.flat (.int .i32 (c:Nat))::Wd a)=true;simp only[Ib,PV.pj,HT a,od]
def aH(s):(Gd s).length<=s.length:=by
 unfold Gd;rw[jn];exact bI _ s (Aa _)
def r_(s)(x)(h:x∈Gd s):x<8388608:=by
 unfold Gd at h;obtain⟨q,a,rfl⟩:=si.1 h;exact fU _ s (Aa _) q a
section
variable {α:Type} (BX:α→Oa) (oc:α→List (Nat × Nat)) (step:α→ba→α) (I:α→Nat→Prop) (b p nb:Nat)
def zgc(c:∀a,(BX a).length=nb)(l:∀a,∀q∈oc a,q.1<nb)(N)
 (r:∀a k x,I a k->k<N->x.length<=10000->I (step a x) (k+1))
 (w:∀a k x,I a k->k<N->x.length<=10000->da code lib kb [.Sa b,.flat (.string (S x))] (BX a) (cl (oc a))=some ([.flat (.bool true)],false,BX (step a x),cl (oc (step a x))))
 (L) (z:L.length<=N) (t:L.length<=1000000) (v:∀x∈L,x.length<=10000) (a) (d:I a 0) (A:L.length<ja):
 Ac (ma (da code lib) ja xx) [0,14,15,16] nb ja ⟨[(0,.Sa b),(14,.ia L.length (wa L)),(15,.flat (.int .i64 (L.length:Nat))),(16,.flat (.int .i64 0))],cl (oc a),[],BX a⟩=
  some (.exit 0,⟨[],cl (oc (L.foldl step a)),[],BX (L.foldl step a)⟩):=by
 have j:=Ah (body:=ma (da code lib) ja xx) (live:=[0,14,15,16]) (nb:=nb) (fun q:α×Nat=>(⟨[(0,.Sa b),(14,.ia L.length (wa L)),(15,.flat (.int .i64 (L.length:Nat))),(16,.flat (.int .i64 (q.2:Nat)))],cl (oc q.1),[],BX q.1⟩:St)) (fun q=>I q.1 q.2/\q.2<=L.length) (fun q=>L.length - q.2)
  (fun q=>(.exit 0,⟨[],cl (oc ((L.drop q.2).foldl step q.1)),[],BX ((L.drop q.2).foldl step q.1)⟩)) (fun⟨a,k⟩ d=>?_) (n:=ja) (a:=(a,0)) ⟨d,Cb _⟩ aa
 ·grind
 ·dsimp only at d⊢
  obtain⟨d,C⟩:=d;have g:=c a;by_cases fa:k<L.length
  ·right
   have B:=qe fa;have u:=Pd fa;have e:=v _ (List.getElem_mem fa);have c1:(k:Int)<L.length:=aa
   have c2:(0:Int)<=(k:Nat):=aa
   have y:IntKind.i64.wrap ((k:Int)+1)=((k+1:Nat):Int):=wrap64 aa;have o:(wa L).drop k=.flat (.string (S L[k]))::(wa L).drop (k+1):=by simp only[wa,<-dm,u,gc]
   have i:1<=((wa L).drop (k+1)).length+1:=aa
   have p:=w a k L[k] d aa e;have h:=c (step a L[k]);refine⟨⟨[(0,.Sa b),(14,.ia L.length (wa L)),(15,.flat (.int .i64 (L.length:Nat))),(16,.flat (.int .i64 ((k+1:Nat):Int)))],cl (oc (step a L[k])),[],BX (step a L[k])⟩,(step a L[k],k+1),?_,?_,⟨r a k _ d aa e,fa⟩,aa,na⟩
   ·simp only[KS,go_sem,simprocAttr,Hb,sb,Gb,Eb,Nb,c1,c2,y,o,i,ua,p,ic,Ce g,g,h,zc]
   ·simp only[go_sem,simprocAttr,Hb,sb,Ce h,h,ub _ (l _)]
  ·left
   obtain rfl:k=L.length:=aa
   have c1:¬(L.length:Int)<L.length:=aa
   refine⟨.exit 0,⟨[],cl (oc a),[],BX a⟩,?_,ea,ea⟩;simp only[KS,go_sem,simprocAttr,Hb,sb,Gb,Eb,Nb,c1,Ce g,g,zc]
def Ke(enc:ba->ba):α->ba->List Nat->α×ba
 |a,b,[]=>(a,b)
 |a,b,r::l=>if 45<b.length+(Ka r).length then Ke enc (step a (Gc enc b)) (Ka r) l else Ke enc a (b++Ka r) l
theorem Jy(enc):∀(l)(a)(b),(Lg enc b l).foldl step a=step (Ke step enc a b l).1 (Gc enc (Ke step enc a b l).2)
 |[],a,b=>rfl
 |r::l,a,b=>by
  simp only[Lg,Ke];split
  ·rw[Cg];exact Jy enc l _ _
  ·exact Jy enc l _ _
theorem zgd{enc}(y:Wi lib enc)(i:∀a,(BX a).length=nb)(u:∀a,∀q∈oc a,q.1<nb)(N)
 (F:∀a k x,I a k->k<N->x.length<=10000->I (step a x) (k+1))
 (V:∀a k x,I a k->k<N->x.length<=10000->da code lib kb [.Sa b,.flat (.string (S x))] (BX a) (cl (oc a))=some ([.flat (.bool true)],false,BX (step a x),cl (oc (step a x))))
 (L) (Y:L.length<=N) (O:L.length<=1000000) (U:∀x∈L,x<2147483648) (a) (h:I a 0) (Z:L.length<ja):
 Ac (ma (da code lib) ja yx) [0,5,26,27,28] nb ja ⟨[(0,.Sa b),(5,.flat (.string (S []))),(26,.ia L.length (Wd L)),(27,.flat (.int .i64 (L.length:Nat))),(28,.flat (.int .i64 0))],cl (oc a),[],BX a⟩=
  some (.exit 2,⟨[(0,.Sa b),(5,.flat (.string (S (Ke step enc a [] L).2)))],cl (oc (Ke step enc a [] L).1),[],BX (Ke step enc a [] L).1⟩)/\(∃j,j<=L.length/\I (Ke step enc a [] L).1 j)/\(Ke step enc a [] L).2.length<=45:=by
 have p:=Ah (body:=ma (da code lib) ja yx) (live:=[0,5,26,27,28]) (nb:=nb) (fun q:(α×ba)×Nat=>(⟨[(0,.Sa b),(5,.flat (.string (S q.1.2))),(26,.ia L.length (Wd L)),(27,.flat (.int .i64 (L.length:Nat))),(28,.flat (.int .i64 (q.2:Nat)))],cl (oc q.1.1),[],BX q.1.1⟩:St)) (fun q=>(∃j,j<=q.2/\I q.1.1 j)/\q.1.2.length<=45/\q.2<=L.length) (fun q=>L.length - q.2)
  (fun q=>(.exit 2,⟨[(0,.Sa b),(5,.flat (.string (S (Ke step enc q.1.1 q.1.2 (L.drop q.2)).2)))],cl (oc (Ke step enc q.1.1 q.1.2 (L.drop q.2)).1),[],BX (Ke step enc q.1.1 q.1.2 (L.drop q.2)).1⟩)) (fun⟨⟨a,c⟩,k⟩ h=>?_) (n:=ja) (a:=((a,[]),0)) ⟨⟨0,Aa _,h⟩,ea,Cb _⟩ aa
 ·refine⟨p,?_⟩
  have o:∀(l:List Nat)(a:α)(c:ba)(k:Nat),k+l.length=L.length->(∃j,j<=k/\I a j)->c.length<=45->(∃j,j<=L.length/\I (Ke step enc a c l).1 j)/\(Ke step enc a c l).2.length<=45:=by
   intro l
   induction l with
   |nil=>exact fun a c k C ⟨j,d,e⟩ t=>⟨⟨j,aa,e⟩,t⟩
   |cons r l v=>
    intro a c k C ⟨j,d,e⟩ t;have w:=ah r;simp only[ua]at C;simp only[Ke];split
    ·exact v _ _ (k+1) aa ⟨j+1,aa,F a j _ e aa (Xf (zu y aa) ha)⟩ aa
    ·exact v _ _ (k+1) aa ⟨j,aa,e⟩ na
  simp_all
 ·dsimp only at h⊢
  obtain⟨⟨j,hjZ,h⟩,J,C⟩:=h;have d:=i a;by_cases fa:k<L.length
  ·right
   have hcZ:=qe fa;have H:=Pd fa;have w:=U _ (List.getElem_mem fa);obtain⟨r,hr⟩:∃r,L[k]=r:=⟨_,rfl⟩;rw[hr]at H w;have c1:(k:Int)<L.length:=aa
   have c2:(0:Int)<=(k:Nat):=aa
   have K:IntKind.i64.wrap ((k:Int)+1)=((k+1:Nat):Int):=wrap64 aa;have M:IntKind.i64.wrap (45 - (c.length:Int))=45 - (c.length:Int):=wrap64 aa;have v:(Wd L).drop k=.flat (.int .i32 (r:Nat))::(Wd L).drop (k+1):=by simp only[Wd,<-dm,H,gc]
   have t:1<=((Wd L).drop (k+1)).length+1:=aa
   have G:=es (lib:=lib) r w;have P:=ah r;have hf:(⟨#[61,63,85,84,70,45,56,63,66,63]⟩:ByteArray)=S Kd:=rfl;have A:(⟨#[63,61]⟩:ByteArray)=S [63,61]:=rfl;have B:(⟨#[]⟩:ByteArray)=S []:=rfl;by_cases hgZ:45<c.length+(Ka r).length
   ·have o:45 - (c.length:Int)<((Ka r).length:Int):=aa
    have Q:=zu y (g:=c) aa;have D:=V a j (Gc enc c) h aa aa;have e:=i (step a (Gc enc c));have R:=NJ y c aa;have z:Kd++enc c++[63,61]=Gc enc c:=rfl;have T:=(y c aa).1;have E:Kd.length+(enc c).length<=za:=by unfold za;simp only[Kd,ua,Ca];omega
    have X:(Ka r).length<=za:=He
    have W:(Kd++enc c).length+2<=za:=by unfold za;simp only[Kd,Ba,ua,Ca];omega
    refine⟨⟨[(0,.Sa b),(5,.flat (.string (S (Ka r)))),(26,.ia L.length (Wd L)),(27,.flat (.int .i64 (L.length:Nat))),(28,.flat (.int .i64 ((k+1:Nat):Int)))],cl (oc (step a (Gc enc c))),[],BX (step a (Gc enc c))⟩,((step a (Gc enc c),Ka r),k+1),?_,?_,⟨⟨j+1,aa,F a j _ h aa aa⟩,na,fa⟩,aa,by grind [Ke]⟩
    ·simp only[hH,go_sem,simprocAttr,Hb,sb,Gb,Eb,Nb,OH,c1,c2,K,M,v,t,ua,G,o,Xa,Ij,hf,A,B,R,z,E,W,X,D,ic,d,e,zc,Ra]
    ·simp only[go_sem,simprocAttr,Hb,sb,Ce e,e,ub _ (u _)]
   ·have o:¬45 - (c.length:Int)<((Ka r).length:Int):=aa
    have E:c.length+(Ka r).length<=za:=He
    refine⟨⟨[(0,.Sa b),(5,.flat (.string (S (c++Ka r)))),(26,.ia L.length (Wd L)),(27,.flat (.int .i64 (L.length:Nat))),(28,.flat (.int .i64 ((k+1:Nat):Int)))],cl (oc a),[],BX a⟩,((a,c++Ka r),k+1),?_,?_,⟨⟨j,aa,h⟩,na,fa⟩,aa,by grind [Ke]⟩
    ·simp only[hH,go_sem,simprocAttr,Hb,sb,Gb,Eb,Nb,OH,c1,c2,K,M,v,t,ua,G,o,E,Xa,Ij,ic,d]
    ·simp only[go_sem,simprocAttr,Hb,sb,Ce d,d,ub _ (u _)]
  ·left
   obtain rfl:k=L.length:=aa
   have c1:¬(L.length:Int)<L.length:=aa
   refine⟨.exit 2,⟨[(0,.Sa b),(5,.flat (.string (S c)))],cl (oc a),[],BX a⟩,?_,ea,by grind [Ke]⟩;simp only[hH,go_sem,simprocAttr,Hb,sb,Gb,Eb,Nb,c1,Ce d,d,zc]
theorem zge{enc}(w:Wi lib enc)(N:We lib)(O:sc lib)(s:ba)(hs:s.length<=10000)(u:∀a,(BX a)[p]?=some (9,[.flat (.string (S s))]))(d:∀a,(BX a).length=nb)(e:∀a,∀q∈oc a,q.1<nb)
 (L:∀a k x,I a k->k<10002->x.length<=10000->I (step a x) (k+1))
 (H:∀a k x,I a k->k<10002->x.length<=10000->da code lib kb [.Sa b,.flat (.string (S x))] (BX a) (cl (oc a))=some ([.flat (.bool true)],false,BX (step a x),cl (oc (step a x)))) (a) (M:I a 0):
 da code lib 229 [.Sa b,.ptr p 0] (BX a) (cl (oc a))=some ([],false,BX ((Ad enc s).foldl step a),cl (oc ((Ad enc s).foldl step a))):=by
 refine la HY (qa rfl) ?_;have n:(⟨#[]⟩:ByteArray)=S []:=rfl;have C:=u a;have t:=d a;by_cases A:s=[]
 ·have h:=eq_true A
  simp only[go_sem,simprocAttr,Hb,sb,Gb,Eb,Nb,C,n,Bo,h,Ad,List.foldl_nil,Ce t,t,ub _ (e a)]
 have h:=eq_false A;have i:=zbn (lib:=lib) O s aa;cases v:Fi s with
 |true=>
  rw[v]at i;have hcut:=pO N s 32 aa;have E:=Bu 32 s;have hr:=zgc (lib:=lib) BX oc step I b nb d e 10002 L H (db 32 s) aa aa (fun x G=>by have:=gy 32 s x G;omega) a M (by grind [ja]);have z:=d ((db 32 s).foldl step a);have c:((32:UInt8).toNat:Int)=32:=rfl;rw[c]at hcut;simp only[go_sem,simprocAttr,Hb,sb,Gb,Eb,Nb,C,n,Bo,h,i,v,hcut,hr,Ad,dd,Ce t,t,Ce z,z,ub _ (e _)]
 |false=>
  rw[v]at i;have F:=gU (lib:=lib) s aa;have T:=aH s;obtain⟨hr,⟨j,X,r⟩,l⟩:=zgd (lib:=lib) BX oc step I b nb w d e 10002 L H (Gd s) aa aa (fun x G=>by have:=r_ s x G;omega) a M (by grind [ja]);have o:=Jy step enc (Gd s) a [];obtain⟨⟨y,c⟩,R⟩:∃q,Ke step enc a [] (Gd s)=q:=⟨_,rfl⟩;rw[R]at hr o r l;dsimp only at hr o r l;have hf:(⟨#[61,63,85,84,70,45,56,63,66,63]⟩:ByteArray)=S Kd:=rfl;have D:(⟨#[63,61]⟩:ByteArray)=S [63,61]:=rfl;have E:=zu w (g:=c) aa;have J:=H y j (Gc enc c) r aa aa;have z:=d y;have K:=d (step y (Gc enc c));have P:=NJ w c aa;have B:Kd++enc c++[63,61]=Gc enc c:=rfl;have Q:=(w c aa).1;have V:Kd.length+(enc c).length<=za:=by unfold za;simp only[Kd,ua,Ca];omega
  have W:(Kd++enc c).length+2<=za:=by unfold za;simp only[Kd,Ba,ua,Ca];omega
  have U:(Ad enc s).foldl step a=step y (Gc enc c):=by simp only[Ad,A,v,La,if_false];exact o
  rw[U];simp only[go_sem,simprocAttr,Hb,sb,Gb,Eb,Nb,C,n,Bo,h,i,v,F,hr,HT,hf,D,Ij,Xa,P,B,V,W,J,ua,Ce t,t,z,Ce K,K,zc,ub _ (e _)]
end
variable {lib:Callee}
def TV(s)(bx)(oc)(h:∀q∈oc,q.1<bx.length):da code lib 163 [.flat (.string (S s))] bx (cl oc)=some ([.ib 229 [.ptr bx.length 0]],false,bx++[(9,[.flat (.string (S s))])],cl oc):=by
 refine la GY (qa rfl) ?_;have a:¬(bx.length+1=bx.length):=aa
 have b:qc (bx.length+1) (cl oc)=cl oc:=ub _ fun q c=>by grind
 exact Kb @Ba.{0} @Nat.lt_irrefl
def Pg(q:ba×Nat)(x:ba):ba×Nat:=(jk q.1 x q.2,fl x q.2)
def Ze(enc:ba->ba)(f v:ba):ba:=((Ad enc v).foldl Pg (f++[58],f.length+1)).1++[13,10]
def Ix(v:ba)(q:ba×Nat):Oa:=[(236,bld true 0 q.1 [.flat (.int .i64 (q.2:Nat))]),(9,[.flat (.string (S v))]),(0,[.lp 98 0 .ready [6] [.ptr 0 0]])]
def Qq(q:ba×Nat)(k:Nat):Prop:=q.1.length<=11000+k* 10010/\q.2<=10010
theorem tI(q)(k)(x)(h:Qq q k)(a:k<10002)(b:x.length<=10000):Qq (Pg q x) (k+1):=by
 grind [Qq,Pg,jk,fl,ak]
theorem Gy:∀(L:List ba)(k)(q),Qq q k->(k+L.length<=10002/\∀x∈L,x.length<=10000)->(L.foldl Pg q).1.length<=200000000
 |[],k,q,h,a=>by obtain⟨b,c⟩:=h;grind
 |x::L,k,q,h,a=>by
  rw[Cg];have b:=a.1;simp only[ua]at b;exact Gy L (k+1) _ (tI q k x h aa (a.2 x It)) ⟨aa,fun y c=>a.2 y (kn _ c)⟩
theorem lE{enc}(c:Wi lib enc):∀(l)(a),a.length<=45->∀x∈Lg enc a l,x.length<=200
 |[],a,h,x,b=>by grind [Lg,zu]
 |r::l,a,h,x,b=>by
  have d:=ah r;simp only[Lg]at b;split at b
  ·rcases wb.1 b with rfl|b
   ·grind [zu]
   ·exact lE c l _ aa x b
  ·exact lE c l _ na x b
def aJ{enc}(b:Wi lib enc)(v)(c:v.length<=10000):0+(Ad enc v).length<=10002/\∀x∈Ad enc v,x.length<=10000:=by
 unfold Ad;split
 ·simp
 ·split
  ·have:=Bu 32 v
   exact⟨aa,fun x a=>by have:=gy 32 v x a;omega⟩
  ·have:=kE enc (Gd v) []
   have:=aH v;exact⟨aa,fun x a=>by have:=lE b _ [] ea x a;omega⟩
def zgn(c:Sb lib)(v)(q)(k)(x)(h:Qq q k)(j:k<10002)(n:x.length<=10000):da code lib kb [.Sa 2,.flat (.string (S x))] (Ix v q) [.cell 0 1]=some ([.flat (.bool true)],false,Ix v (Pg q x),[.cell 0 1]):=by
 refine ep Wo BN rfl rfl rfl ?_;obtain⟨g,i⟩:=h;have a:=zbz (lib:=lib) c (bx:=[(236,bld true 0 q.1 [.flat (.int .i64 (q.2:Nat))]),(9,[.flat (.string (S v))]),(0,[.lp 98 0 .busy [6] [.ptr 0 0]])]) (r:=[]) (b:=0) (e:=236) (u:=true) (l:=q.1) (w:=x) (long:=q.2) rfl IG aa aa ea ea ea;have d:(Loc.cell 0 1::cl [])=[.cell 0 1]:=rfl;simp only[d,Gw]at a;simp only[gQ,QP,Ix,Pg,go_sem,simprocAttr,a]
theorem zgm{enc}(D:Wi lib enc)(F:We lib)(G:sc lib)(g:Sb lib)(f v:ba)(E:v.length<=10000)(hf:f.length<=10000):da code lib 98 [.flat (.string (S f)),.flat (.string (S v))] [] []=
 some ([.flat (.string (S (if Hf f then Ze enc f v else[]))),.flat (.int .i64 (if Hf f then 0 else 1))],false,[],[]):=by
 refine la BN (qa rfl) ?_;have z:=bS (lib:=lib) f aa;have p:(⟨#[]⟩:ByteArray)=S []:=rfl;have t:(⟨#[58]⟩:ByteArray)=S [58]:=rfl;have w:(⟨#[13,10]⟩:ByteArray)=S [13,10]:=rfl;cases e:Hf f with
 |false=>
  rw[e]at z;exact sa
 |true=>
  rw[e]at z;have O:IntKind.i64.wrap ((f.length:Int)+1)=((f.length+1:Nat):Int):=wrap64 aa;have B:=ai (lib:=lib) (bx:=[(236,bld false 0 [] [.flat (.int .i64 ((f.length+1:Nat):Int))])]) (r:=[]) (m:=f++[58]) (b:=0) (u:=false) (l:=[]) g rfl IG (by simp only[Ba,ua,Ca];unfold za;omega) ea ea;have L:(Loc.cell 0 1::cl [])=[.cell 0 1]:=rfl;have d:=zge (lib:=lib) (Ix v) (fun _=>[(0,1)]) Pg Qq 2 1 3 D F G v E (fun _=>rfl) (fun _=>rfl) (fun a q A=>by grind) (fun a k x h i j=>tI a k x h i j) (fun a k x h i j=>zgn g v a k x h i j) (f++[58],f.length+1) ⟨na,aa⟩;obtain⟨⟨l,long⟩,A⟩:∃q,(Ad enc v).foldl Pg (f++[58],f.length+1)=q:=⟨_,rfl⟩;have c:=Gy (Ad enc v) 0 (f++[58],f.length+1) ⟨na,aa⟩ (aJ D v E);rw[A]at d c;have M:l.length<=200000000:=c;have N:f.length+1<=za:=He
  have H:da code lib 45 [.ptr 0 0,.flat (.string (S (f++[58])))] [(236,[.flat (.pointer none),.ia 0 [],.flat (.int .i64 ((f.length+1:Nat):Int))])] [.cell 0 1]=some ([.flat (.int .i64 ((f++[58]).length:Nat)),.flat .nilIface],false,[(236,[.ptr 0 0,.ia (f++[58]).length (Sd (f++[58])),.flat (.int .i64 ((f.length+1:Nat):Int))])],[.cell 0 1]):=B;have e1:=TV (lib:=lib) v [(236,[.ptr 0 0,.ia (f++[58]).length (Sd (f++[58])),.flat (.int .i64 ((f.length+1:Nat):Int))])] [(0,1)] ea;have e2:=TV (lib:=lib) v [] [] ea;have n:cl [(0,1)]=[.cell 0 1]:=rfl;have o:cl []=[]:=rfl;simp only[n,o,go_sem,simprocAttr]at e1 e2;have I:da code lib 229 [.Sa 2,.ptr 1 0] [(236,[.ptr 0 0,.ia (f++[58]).length (Sd (f++[58])),.flat (.int .i64 ((f.length+1:Nat):Int))]),(9,[.flat (.string (S v))]),(0,[.lp 98 0 .ready [6] [.ptr 0 0]])] [.cell 0 1]=some ([],false,[(236,[.ptr 0 0,.ia l.length (Sd l),.flat (.int .i64 (long:Nat))]),(9,[.flat (.string (S v))]),(0,[.lp 98 0 .ready [6] [.ptr 0 0]])],[.cell 0 1]):=d;have C:=ai (lib:=lib) (bx:=[(236,bld true 0 l [.flat (.int .i64 (long:Nat))]),(9,[.flat (.string (S v))])]) (r:=[]) (m:=[13,10]) (b:=0) (u:=true) (l:=l) g rfl IG (by simp only[ua,Ca];unfold za;omega) ea ea;have J:da code lib 45 [.ptr 0 0,.flat (.string (S [13,10]))] [(236,[.ptr 0 0,.ia l.length (Sd l),.flat (.int .i64 (long:Nat))]),(9,[.flat (.string (S v))])] [.cell 0 1]=some ([.flat (.int .i64 (([13,10]:ba).length:Nat)),.flat .nilIface],false,[(236,[.ptr 0 0,.ia (l++[13,10]).length (Sd (l++[13,10])),.flat (.int .i64 (long:Nat))]),(9,[.flat (.string (S v))])],[.cell 0 1]):=C;have K:da code lib 46 [.ptr 0 0] [(236,[.ptr 0 0,.ia (l++[13,10]).length (Sd (l++[13,10])),.flat (.int .i64 (long:Nat))]),(9,[.flat (.string (S v))])] [.cell 0 1]=some ([.flat (.string (S (l++[13,10])))],false,[(236,[.ptr 0 0,.ia (l++[13,10]).length (Sd (l++[13,10])),.flat (.int .i64 (long:Nat))]),(9,[.flat (.string (S v))])],fe (.cell 0 1) [.cell 0 1]):=lk (u:=true) (rest:=[.flat (.int .i64 (long:Nat))]) g rfl ea;have y:Ze enc f v=l++[13,10]:=by simp only[Ze,A]
  simp only[go_sem,simprocAttr,z,p,t,w,e,O,N,Xa,Ij,H,e1,e2,I,J,K,AC,y]
def ud(n:Nat):Nat:=if 48<=n/\n<=57 then n - 48 else if 65<=n/\n<=70 then n - 55 else if 97<=n/\n<=102 then n - 87 else 99
def xd(base:Nat):Nat->Nat->ba->Nat×Nat
 |0,n,_=>(n,0)
 |_+1,n,[]=>(n,0)
 |m+1,n,c::t=>if ud c.toNat<base then((xd base m (n* base+ud c.toNat) t).1,(xd base m (n* base+ud c.toNat) t).2+1)else(n,0)
def Ml(base most:Nat)(s:ba):Option (ba×Nat):=
 if(xd base most 0 s).1≠0/\Ob (xd base most 0 s).1=true/\s[(xd base most 0 s).2]?=some 59 then some (Ka (xd base most 0 s).1,(xd base most 0 s).2+1)else none
def Vn(s:ba):Option (ba×Nat):=
 if([38,97,109,112,59]:ba).isPrefixOf s then some ([38],5)
 else if([38,108,116,59]:ba).isPrefixOf s then some ([60],4)
 else if([38,103,116,59]:ba).isPrefixOf s then some ([62],4)
 else if([38,113,117,111,116,59]:ba).isPrefixOf s then some ([34],6)
 else if([38,35,120]:ba).isPrefixOf s then(Ml 16 6 (s.drop 3)).map fun q=>(q.1,3+q.2)
 else if([38,35]:ba).isPrefixOf s then(Ml 10 7 (s.drop 2)).map fun q=>(q.1,2+q.2)
 else none
theorem YG(base):∀(m n)(s),(xd base m n s).2<=m/\(xd base m n s).2<=s.length
 |0,n,s=>by simp[xd]
 |m+1,n,[]=>by simp[xd]
 |m+1,n,c::t=>by
  have:=YG base m (n* base+ud c.toNat) t
  grind [xd]
def yS{base most}{s}{q}(h:Ml base most s=some q):1<=q.2/\q.2<=s.length/\q.1.length<=4:=by
 grind [Ml,ah]
def AH{s}{q}(h:Vn s=some q):1<=q.2/\q.2<=s.length/\q.1.length<=4:=by
 unfold Vn at h;split at h
 ·grind
 split at h
 ·grind
 split at h
 ·grind
 split at h
 ·grind
 split at h
 ·rename_i b;have c:=Zm b
  obtain⟨d,a,rfl⟩:=qm h;have:=yS a
  grind
 split at h
 ·rename_i b;have c:=Zm b
  obtain⟨d,a,rfl⟩:=qm h;have:=yS a
  grind
 grind
def Bj(s:ba)(e a:UInt8)(q:ba×Nat):(ba×Nat) ⊕ Option (ba×Nat):=match s[q.2]? with
 |none=>.inr (some q)
 |some c=>if c=e then .inr (some q)else if c=a then .inr none else if c=38 then(match Vn (s.drop q.2)with
  |none=>.inr none
  |some (b,k)=>.inl (q.1++b,q.2+k))else .inl (q.1++[c],q.2+1)
def Ji(s:ba)(e a:UInt8)(at_:Nat):Option (ba×Nat):=Mb (Bj s e a) none (s.length+1) ([],at_)
theorem fI{s}{e g}(d):∀a b,(a.2<=s.length/\d<=a.2/\a.1.length<=4* (a.2 - d))->Bj s e g a=.inl b->(b.2<=s.length/\d<=b.2/\b.1.length<=4* (b.2 - d))/\s.length - b.2<s.length - a.2
 |(out,k),b,⟨i,j,l⟩,h=>by
  unfold Bj at h;dsimp only at h i j l;split at h
  ·cases h
  ·rename_i c o
   have fa:=(qg o).1;split at h
   ·cases h
   split at h
   ·cases h
   split at h
   ·split at h
    ·cases h
    ·rename_i x n p
     have:=AH p
     grind
   grind
def ot{s}{e c}{at_}(h:at_<=s.length){q}(i:Ji s e c at_=some q):at_<=q.2/\q.2<=s.length/\q.1.length<=4* s.length/\(s[q.2]?=none\/s[q.2]?=some e):=by
 have:=kk (step:=Bj s e c) (d:=none) (I:=fun a=>a.2<=s.length/\at_<=a.2/\a.1.length<=4* (a.2 - at_)) (μ:=fun a=>s.length - a.2) (Q:=fun r=>∀q,r=some q->at_<=q.2/\q.2<=s.length/\q.1.length<=4* s.length/\(s[q.2]?=none\/s[q.2]?=some e)) (fun a g=>by
  cases hs:Bj s e c a with
  |inl b=>exact fI at_ a b g hs
  |inr r=>
   grind [Bj]) (s.length+1) ([],at_) ⟨h,Aa _,ea⟩ aa
 exact this q i
def Tk(c:UInt8):Bool:=(decide (97<=c.toNat)&&decide (c.toNat<=122))||(decide (48<=c.toNat)&&decide (c.toNat<=57))
def Ko(c:UInt8):Bool:=decide (c.toNat=32)||(decide (c.toNat=9)||decide (c.toNat=10))
def Bb(s:ba)(at_:Nat):ba:=(s.drop at_).takeWhile Tk
def wh(s:ba)(at_:Nat):ba:=(s.drop at_).takeWhile Ko
structure Vi where
 name:ba
 val:ba
 fr:Nat
 to:Nat
structure Tok where
 kind:UInt8
 name:ba
 text:ba
 Jj:List Vi
 fr:Nat
 to:Nat
def sg:List ba:=[[97],[98],[98,114],[99,111,100,101],[100,105,118],[101,109],[104,49],[104,50],[104,51],[104,114],[105],[105,109,103],[108,105],[111,108],[112],[112,114,101],[115,112,97,110],[115,116,114,111,110,103],[116,97,98,108,101],[116,98,111,100,121],[116,100],[116,104],[116,104,101,97,100],[116,114],[117],[117,108]]
def Al:List ba:=[[97,108,116],[99,108,97,115,115],[99,111,108,115,112,97,110],[104,114,101,102],[105,100],[114,111,119,115,112,97,110],[115,114,99],[116,105,116,108,101],[119,105,100,116,104]]
def Qi(s:ba):Bool:=decide (s=[98,114])||(decide (s=[104,114])||decide (s=[105,109,103]))
def tm(s:ba)(at_:Nat):Option (Vi×Nat):=
 if Al.contains (Bb s at_)&&Tb s [61,34] (at_+(Bb s at_).length)then(match Ji s 34 60 (at_+(Bb s at_).length+2)with
  |none=>none
  |some (v,e)=>if e<s.length then some (⟨Bb s at_,v,at_+(Bb s at_).length+2,e⟩,e+1)else none)
 else none
def Jf(s:ba)(q:List Vi×Nat):(List Vi×Nat) ⊕ Option (List Vi×Nat):=
 if Tb s [62] (q.2+(wh s q.2).length)then .inr (some (q.1,q.2+(wh s q.2).length+1))
 else match tm s (q.2+(wh s q.2).length)with
  |none=>.inr none
  |some (a,e)=>if(wh s q.2).length=0\/(q.1.any fun b=>decide (b.name=a.name))=true then .inr none else .inl (q.1++[a],e)
def fk(s:ba)(at_:Nat):Option (List Vi×Nat):=Mb (Jf s) none (s.length+1) ([],at_)
def oj(s:ba)(at_:Nat):Option Tok:=
 if Tb s [60,47] at_ then
  (if sg.contains (Bb s (at_+2))&&(!Qi (Bb s (at_+2))&&Tb s [62] (at_+2+(Bb s (at_+2)).length))then some ⟨99,Bb s (at_+2),[],[],at_,at_+2+(Bb s (at_+2)).length+1⟩else none)
 else if Tb s [60] at_ then
  (if sg.contains (Bb s (at_+1))then(fk s (at_+1+(Bb s (at_+1)).length)).map fun q=>⟨111,Bb s (at_+1),[],q.1,at_,q.2⟩else none)
 else(Ji s 60 62 at_).map fun q=>⟨116,[],q.1,[],at_,q.2⟩
def ni(s:ba)(q:List Tok×Nat):(List Tok×Nat) ⊕ Option (List Tok):=
 if s.length<=q.2 then .inr (some q.1)else match oj s q.2 with
  |none=>.inr none
  |some t=>.inl (q.1++[t],t.to)
def Ni(s:ba):Option (List Tok):=if Sh s then Mb (ni s) none (s.length+1) ([],0)else none
variable {lib:Callee}
def rd(s:ba)(k:Nat):List PV:=[.flat (.string (S s)),.flat (.int .i64 (k:Nat))]
def qy{bx}{r}{b e}{s}{k}(a:bx[b]?=some (e,rd s k))(fa:∀q∈r,q.1<bx.length):
 da code lib 111 [.ptr b 0] bx (cl r)=some ([.flat (.bool (decide (s.length<=k)))],false,bx,cl r):=by
 refine la RZ (qa rfl) ?_;unfold rd at a;exact Kb @Rp (ub r fa)
theorem DI(i:sc lib){bx}{r}{b e}{s w}{k}(d:bx[b]?=some (e,rd s k))(hs:s.length<=1000000000)(j:w.length<=1000000000)(n:k<=s.length)(hr:∀q∈r,q≠(b,1))(fa:∀q∈r,q.1<bx.length):
 da code lib 178 [.ptr b 0,.flat (.string (S w))] bx (cl r)=some ([.flat (.bool (w.isPrefixOf (s.drop k)))],false,bx.set b (e,rd s (if w.isPrefixOf (s.drop k)then k+w.length else k)),cl r):=by
 refine la SZ (qa rfl) ?_;have a:=Kp d;unfold rd at d;have g:=(qg d).1;have l:(0:Int)<=(k:Nat):=aa
 have c1:(k:Int)<=s.length:=aa
 have o:(s.take s.length).drop k=s.drop k:=by rw[cm]
 have h:=dA i (s.drop k) w na j;have p:=Uw (k:=k) (m:=w.length) aa;cases c:w.isPrefixOf (s.drop k)with
 |false=>
  rw[c]at h;simp only[a,La,if_false];exact va (ub r fa)
 |true=>
  rw[c]at h;simp only[if_true];exact xe (pg r hr) @rd.eq_1 (ub r fa)
def T8(c):da code lib 180 [.flat (.int .u8 c.toNat)] [] []=some ([.flat (.bool (Tk c))],false,[],[]):=by
 refine la UZ (qa rfl) ?_;unfold Tk;obtain⟨n,b⟩:∃n,c.toNat=n:=⟨_,rfl⟩;rw[b];have d:((97:Int)<=((n:Nat):Int))=(97<=n):=by apply propext;omega
 have e:(((n:Nat):Int)<=(122:Int))=(n<=122):=by apply propext;omega
 have g:((48:Int)<=((n:Nat):Int))=(48<=n):=by apply propext;omega
 have h:(((n:Nat):Int)<=(57:Int))=(n<=57):=by apply propext;omega
 rcases pb (97<=n)with a|a
 all_goals first|(exfalso;omega)|skip
 all_goals rcases pb (n<=122)with a2|a2
 all_goals first|(exfalso;omega)|skip
 all_goals rcases pb (48<=n)with a3|a3
 all_goals first|(exfalso;omega)|skip
 all_goals rcases pb (n<=57)with a4|a4
 all_goals first|(exfalso;omega)|skip
 all_goals
  first|have e1:=eq_false a|have e1:=eq_true a
  first|have e2:=eq_false a2|have e2:=eq_true a2
  first|have e3:=eq_false a3|have e3:=eq_true a3
  first|have e4:=eq_false a4|have e4:=eq_true a4
  clear a a2 a3 a4
 all_goals exact sa
def XW(c):da code lib 242 [.flat (.int .u8 c.toNat)] [] []=some ([.flat (.bool (Ko c))],false,[],[]):=by
 refine la PZ (qa rfl) ?_;unfold Ko;obtain⟨n,b⟩:∃n,c.toNat=n:=⟨_,rfl⟩;rw[b];have d:(((n:Nat):Int)=(32:Int))=(n=32):=by apply propext;omega
 have e:(((n:Nat):Int)=(9:Int))=(n=9):=by apply propext;omega
 have g:(((n:Nat):Int)=(10:Int))=(n=10):=by apply propext;omega
 rcases pb (n=32)with a|a
 all_goals first|(exfalso;omega)|skip
 all_goals rcases pb (n=9)with a2|a2
 all_goals first|(exfalso;omega)|skip
 all_goals rcases pb (n=10)with a3|a3
 all_goals first|(exfalso;omega)|skip
 all_goals
  first|have e1:=eq_false a|have e1:=eq_true a
  first|have e2:=eq_false a2|have e2:=eq_true a2
  first|have e3:=eq_false a3|have e3:=eq_true a3
  clear a a2 a3
 all_goals exact sa
def Wg(s:ba)(p:UInt8->Bool)(k:Nat):Nat ⊕ Nat:=match s[k]? with
 |some c=>if p c then .inl (k+1)else .inr k
 |none=>.inr k
theorem EA(s)(p):∀(n k),s.length - k<n->k<=s.length->Mb (Wg s p) 0 n k=k+((s.drop k).takeWhile p).length
 |0,k,h,_=>by omega
 |n+1,k,h,c=>by
  by_cases fa:k<s.length
  ·have a:=Pd fa
   have b:=qe fa;rw[a,List.takeWhile_cons];cases d:p s[k]with
   |true=>
    rw[ef (show Wg s p k=.inl (k+1) by grind [Wg]),EA s p n (k+1) aa fa]
    grind
   |false=>
    rw[ad (show Wg s p k=.inr k by grind [Wg])];simp
  ·have b:s[k]?=none:=Qf aa
   rw[ad (show Wg s p k=.inr k by grind [Wg]),Ej aa];simp
theorem QV{bx}{r}{b e f:Nat}{s}{k}{p}(x:bx[b]?=some (e,rd s k))(hs:s.length<=1000000000)(y:k<=s.length)(hr:∀q∈r,q≠(b,1))(fa:∀q∈r,q.1<bx.length)
 (B:(f=4611686018427387904)=False) (hf:∀c,da code lib f [.flat (.int .u8 c.toNat)] [] []=some ([.flat (.bool (p c))],false,[],[])):
 da code lib 179 [.ptr b 0,.ib f []] bx (cl r)=some ([.flat (.string (S ((s.drop k).takeWhile p)))],false,bx.set b (e,rd s (k+((s.drop k).takeWhile p).length)),cl r):=by
 refine la TZ (qa rfl) ?_;have g:=(qg x).1
 have a:=Ls (body:=ma (da code lib) ja vC) (live:=[0,1,5]) (nb:=bx.length) (fun j:Nat=>(⟨[(0,.ptr b 0),(1,.ib f []),(5,.flat (.int .i64 (k:Nat)))],cl r,[],bx.set b (e,rd s j)⟩:St))
  (Wg s p) 0 (fun j=>(.exit 0,⟨[(0,.ptr b 0),(5,.flat (.int .i64 (k:Nat)))],cl r,[],bx.set b (e,rd s j)⟩)) (fun j=>j<=s.length) (fun j=>s.length - j) (fun j o=>?_) (fun j o=>?_) (fun j i o h=>?_) (fun j=>by simp) (n:=s.length+1) k y aa (by grind [ja])
 ·rw[EA s p _ k aa y,Kp x]at a
  have t:k+((s.drop k).takeWhile p).length<=s.length:=by
   have:=(Hw p (l:=s.drop k)).length_le;rw[fc]at this;omega
  obtain⟨n,o⟩:∃n,k+((s.drop k).takeWhile p).length=n:=⟨_,rfl⟩;have u:(s.take n).drop k=(s.drop k).takeWhile p:=by
   rw[<-o,Jr,ri];exact(List.prefix_iff_eq_take.1 (Hw p)).symm
  rw[o]at a t⊢;have d:(bx.set b (e,rd s n))[b]?=some (e,rd s n):=Tg g;unfold rd at x d;have v:(0:Int)<=(k:Nat):=aa
  have c1:(k:Int)<=(n:Nat):=aa
  have c2:(n:Int)<=s.length:=aa
  have c3:(0:Int)<=(n:Nat):=aa
  simp only[rd]at a⊢;exact va (ub r fa)
 ·have d:(bx.set b (e,rd s j))[b]?=some (e,rd s j):=Tg g
  have A:=qy (lib:=lib) (r:=r) d na;have v:∀q,(bx.set b (e,rd s j)).set b q=bx.set b q:=fun q=>qo ..
  unfold rd at d A v⊢;by_cases u:j<s.length
  ·have t:=qe u
   obtain⟨c,z⟩:∃c,s[j]=c:=⟨_,rfl⟩;rw[z]at t;have o:=hf c;have c1:¬s.length<=j:=aa
   have c2:(0:Int)<=(j:Nat):=aa
   have C:=Ui (k:=j) aa;cases w:p c with
   |true=>
    rw[w]at o;simp only[Wg,t,w,if_true,oe];exact xe yH (pg r hr) (ub r fa)
   |false=>
    rw[w]at o;simp only[Wg,t,w,La,if_false,oe];exact xe yH (pg r hr) (ub r fa)
  ·have t:s[j]?=none:=Qf aa
   have c1:s.length<=j:=aa
   simp only[Wg,t,oe];exact Kb yH (ub r fa)
 ·exact va (ub r fa)
 grind [Wg]
def gV(a:sc lib){bx}{r}{b e}{s}{k}(w)(c:bx[b]?=some (e,rd s k))(hs:s.length<=1000000000)(g:w.length<=1000000000)(d:k<=s.length)(hr:∀q∈r,q≠(b,1))(fa:∀q∈r,q.1<bx.length)(h:w.isPrefixOf (s.drop k)=false):
 da code lib 178 [.ptr b 0,.flat (.string (S w))] bx (cl r)=some ([.flat (.bool false)],false,bx,cl r):=by
 have:=DI a (w:=w) c hs g d hr fa
 grind [Kp]
def iV(a:sc lib){bx}{r}{b e}{s}{k}(w)(c:bx[b]?=some (e,rd s k))(hs:s.length<=1000000000)(g:w.length<=1000000000)(d:k<=s.length)(hr:∀q∈r,q≠(b,1))(fa:∀q∈r,q.1<bx.length)(h:w.isPrefixOf (s.drop k)=true):
 da code lib 178 [.ptr b 0,.flat (.string (S w))] bx (cl r)=some ([.flat (.bool true)],false,bx.set b (e,rd s (k+w.length)),cl r):=by
 grind [DI]
def b1(c:UInt8):if 48<=c.toNat/\c.toNat<=57 then ud c.toNat=c.toNat - 48 else if 97<=(c.toNat|||32)/\(c.toNat|||32)<=102 then ud c.toNat=(c.toNat|||32) - 87 else ud c.toNat=99:=by
 have:=Lj (p:=fun n=>decide (if 48<=n/\n<=57 then ud n=n - 48 else if 97<=(n|||32)/\(n|||32)<=102 then ud n=(n|||32) - 87 else ud n=99)) Fb c
 grind
def qj(s:ba)(base most:Nat)(q:Nat×Nat×Nat):(Nat×Nat×Nat) ⊕ (Nat×Nat):=if q.2.1<most then(match s[q.2.2]? with
 |some c=>if ud c.toNat<base then .inl (q.1* base+ud c.toNat,q.2.1+1,q.2.2+1)else .inr (q.1,q.2.2)
 |none=>.inr (q.1,q.2.2))else .inr (q.1,q.2.2)
theorem ZG(s)(base most):∀(f n a k),most - a<f->Mb (qj s base most) (0,0) f (n,a,k)=((xd base (most - a) n (s.drop k)).1,k+(xd base (most - a) n (s.drop k)).2)
 |0,n,a,k,h=>by omega
 |f+1,n,a,k,h=>by
  by_cases l:a<most
  ·obtain⟨j,g⟩:∃j,most - a=j+1:=⟨most - a - 1,aa⟩
   have b:most - (a+1)=j:=aa
   rw[g];by_cases c:k<s.length
   ·have d:=Pd c
    have e:=qe c;rw[d];by_cases i:ud s[k].toNat<base
    ·rw[ef (show qj s base most (n,a,k)=.inl (n* base+ud s[k].toNat,a+1,k+1) by grind [qj]),ZG s base most f _ _ _ aa,b]
     grind [xd]
    ·rw[ad (show qj s base most (n,a,k)=.inr (n,k) by grind [qj])]
     grind [xd]
   ·have e:s[k]?=none:=Qf aa
    rw[ad (show qj s base most (n,a,k)=.inr (n,k) by grind [qj]),Ej aa];rfl
  ·have:most - a=0:=aa
   rw[this,ad (show qj s base most (n,a,k)=.inr (n,k) by grind [qj])];rfl
def M0(n):(Ta (Ka n)).1=if Ob n then n else 65533:=by
 unfold Ka;have h:Ob (if Ob n then n else 65533)=true:=by
  cases a:Ob n with
  |true=>grind
  |false=>rfl
 have:=Du _ h []
 grind
theorem uT(m)(h:m<=7):16^m<=268435456:=Xf (Gr aa h) ha
theorem p_(HPZ:sc lib){bx}{r}{b e}{s}{k base most}(hbZ:bx[b]?=some (e,rd s k))(hs:s.length<=1000000000)(hkZ:k<=s.length)(hr:∀q∈r,q≠(b,1))(fa:∀q∈r,q.1<bx.length)(V:base=16\/base=10)(hmost:most<=7):
 match Ml base most (s.drop k)with
 |some (x,c)=>da code lib 281 [.ptr b 0,.flat (.int .i64 (base:Nat)),.flat (.int .i64 (most:Nat))] bx (cl r)=some ([.flat (.string (S x)),.flat (.bool true)],false,bx.set b (e,rd s (k+c)),cl r)
 |none=>∃k',k'<=s.length/\da code lib 281 [.ptr b 0,.flat (.int .i64 (base:Nat)),.flat (.int .i64 (most:Nat))] bx (cl r)=some ([.flat (.string (S [])),.flat (.bool false)],false,bx.set b (e,rd s k'),cl r):=by
 have T:=(qg hbZ).1
 have g:=Ls (body:=ma (da code lib) ja wC) (live:=[0,1,2,8,9]) (nb:=bx.length) (fun q:Nat×Nat×Nat=>(⟨[(0,.ptr b 0),(1,.flat (.int .i64 (base:Nat))),(2,.flat (.int .i64 (most:Nat))),(8,.flat (.int .i64 (q.1:Nat))),(9,.flat (.int .i64 (q.2.1:Nat)))],cl r,[],bx.set b (e,rd s q.2.2)⟩:St))
  (qj s base most) (0,0) (fun q=>(.exit 0,⟨[(0,.ptr b 0),(8,.flat (.int .i64 (q.1:Nat)))],cl r,[],bx.set b (e,rd s q.2)⟩)) (fun q=>q.2.2<=s.length/\q.2.1<=most/\q.1+1<=16^q.2.1) (fun q=>most - q.2.1) (fun⟨n,u,j⟩ hjZ=>?_) (fun q hjZ=>?_) (fun⟨n,u,j⟩ i hjZ h=>?_) (fun j=>by simp) (n:=most+1) (0,0,k) ⟨hkZ,ea,ea⟩ aa (by grind [ja])
 ·rw[ZG s base most _ _ _ _ aa]at g
  have B:=YG base most 0 (s.drop k);have w:=kk (step:=qj s base most) (d:=(0,0)) (I:=fun q=>q.2.2<=s.length/\q.2.1<=most/\q.1+1<=16^q.2.1) (μ:=fun q=>most - q.2.1) (Q:=fun r=>r.1<268435456) (fun⟨n,u,j⟩ U=>by
   grind [qj,uT]) (most+1) (0,0,k) ⟨hkZ,ea,ea⟩ aa
  rw[ZG s base most _ _ _ _ aa]at w;simp only[Nat.sub_zero]at g w;rw[fc]at B;unfold Ml;obtain⟨⟨n,p⟩,R⟩:∃q,xd base most 0 (s.drop k)=q:=⟨_,rfl⟩;rw[R]at g B w⊢;dsimp only at g B w⊢;have o:(bx.set b (e,rd s (k+p)))[b]?=some (e,rd s (k+p)):=Tg T;have G:∀q∈r,q.1<(bx.set b (e,rd s (k+p))).length:=by rw[Kc];exact fa
  have l:∀q,(bx.set b (e,rd s (k+p))).set b q=bx.set b q:=fun q=>qo ..
  have J:IntKind.i32.wrap (n:Int)=(n:Int):=wrap32 aa;have y:=es (lib:=lib) n aa;have O:=ah n;have v:=Gz (lib:=lib) (Ka n) (by grind [Sm]) 0 (Cb _);have K:IntKind.i64.wrap (((Ta (Ka n)).1:Nat):Int)=(((Ta (Ka n)).1:Nat):Int):=wrap64 (by grind [Aq]);have A:=M0 n;have H:((n:Int)=0)=(n=0):=by rw[<-Int.ofNat_zero,Er]
  have E:(s.drop k)[p]?=(s.drop (k+p))[0]?:=by rw[kg,kg,pi]
  rw[Kp hbZ]at g;simp only[n0]at g;by_cases M:n=0
  ·subst M
   rw[if_neg (fun h=>h.1 rfl)];refine⟨k+p,aa,?_⟩;refine la ey (qa rfl) ?_;simp only[n0]at g J y;simp only[yf,n0]at v;simp only[go_sem,simprocAttr,bf,g,J,y,v,sb,Gb,Eb,Nb,ub r fa,Kc]
  ·have F:=eq_false M
   simp only[yf,n0]at v;cases L:Ob n with
   |false=>
    rw[L]at A;simp only[La,if_false]at A;have C:¬(65533:Int)=(n:Int):=fun h=>by
     have:n=65533:=aa
     rw[this]at L;exact absurd L ha
    rw[if_neg (fun h=>by grind)];refine⟨k+p,aa,?_⟩;refine la ey (qa rfl) ?_;rw[A]at v K;have P:IntKind.i64.wrap 65533=65533:=ha
    simp only[go_sem,simprocAttr,bf,g,J,y,v,P,H,F,C,sb,Gb,Eb,Nb,ub r fa,Kc]
   |true=>
    rw[L]at A;simp only[if_true]at A;rw[A]at v K;by_cases D:(s.drop k)[p]?=some 59
    ·rw[if_pos ⟨M,rfl,D⟩]
     have C:([59]:ba).isPrefixOf (s.drop (k+p))=true:=by
      rw[E]at D;cases N:s.drop (k+p)with
      |nil=>grind
      |cons a t=>grind
     have ht:=iV (lib:=lib) HPZ [59] o hs ea aa hr G C;rw[l]at ht;refine la ey (qa rfl) ?_;simp only[ua,Ca,ld,tk]at ht;simp only[go_sem,simprocAttr,bf,g,J,y,v,K,H,F,ht,Hb,sb,Gb,Eb,Nb,ub r fa,Kc,zc]
    ·rw[if_neg (fun h=>D h.2.2)]
     have C:([59]:ba).isPrefixOf (s.drop (k+p))=false:=by
      rw[E]at D;cases N:s.drop (k+p)with
      |nil=>rfl
      |cons a t=>
       grind
     have ht:=gV (lib:=lib) HPZ [59] o hs ea aa hr G C;refine⟨k+p,aa,?_⟩;refine la ey (qa rfl) ?_;simp only[go_sem,simprocAttr,bf,g,J,y,v,K,H,F,ht,Hb,sb,Gb,Eb,Nb,ub r fa,Kc,zc]
 ·
  obtain⟨hj1,hj2,hj3⟩:=hjZ;dsimp only at hj1 hj2 hj3;have o:(bx.set b (e,rd s j))[b]?=some (e,rd s j):=Tg T;have G:∀q∈r,q.1<(bx.set b (e,rd s j)).length:=by rw[Kc];exact fa
  have l:∀q,(bx.set b (e,rd s j)).set b q=bx.set b q:=fun q=>qo ..
  have p:=qy (lib:=lib) (r:=r) o G;have hpw:=uT u aa;unfold qj;dsimp only;unfold rd at o p l⊢;by_cases X:j<s.length
  ·have C:s[j]?=some s[j]:=qe X
   obtain⟨c,hcZ⟩:∃c,s[j]=c:=⟨_,rfl⟩;rw[hcZ]at C;have c1:¬s.length<=j:=aa
   have c2:(0:Int)<=(j:Nat):=aa
   by_cases U:u<most
   ·have c3:(u:Int)<most:=aa
    have A:=b1 c;have hc256:=c.toNat_lt;obtain⟨x,E⟩:∃x,c.toNat=x:=⟨_,rfl⟩;have B:=u8_or x 32 aa aa;have O:(x|||32)<256:=Nat.or_lt_two_pow (n:=8) aa aa;have e32:((32:Nat):Int)=32:=rfl;rw[e32]at B;rw[E]at A;obtain⟨y,hyZ⟩:∃y,(x|||32)=y:=⟨_,rfl⟩;rw[hyZ]at B A O;obtain⟨v,F⟩:∃v,ud x=v:=⟨_,rfl⟩;rw[F]at A;have J:=Ui (k:=j) aa;have K:=Ui (k:=u) aa;have hexit:∀z:Int,(base:Int)<=z->((base:Int)<=z)=True:=fun z h=>eq_true h
    rcases(show(48<=x/\x<=57/\v=x - 48)\/(¬(48<=x/\x<=57)/\97<=y/\y<=102/\v=y - 87)\/(¬(48<=x/\x<=57)/\¬(97<=y/\y<=102)/\v=99) by
     grind)with⟨M,N,p3Z⟩|⟨M,N,p3Z,p4Z⟩|⟨M,N,p3Z⟩
    ·have M:(48:Int)<=(x:Nat):=aa
     have L:((x:Nat):Int)<=57:=aa
     have P:IntKind.u8.wrap ((x:Int) - 48)=((v:Nat):Int):=by rw[Fj aa];omega
     have W:IntKind.i64.wrap ((v:Nat):Int)=((v:Nat):Int):=wrap64 aa;by_cases w:v<base
     ·have H:¬(base:Int)<=(v:Nat):=aa
      have Y:IntKind.i64.wrap ((n:Int)* (base:Int))=((n* base:Nat):Int):=by rw[wrap64 na];rfl
      have Z:IntKind.i64.wrap (((n* base:Nat):Int)+(v:Int))=((n* base+v:Nat):Int):=Uw na;simp only[U,C,E,F,w,if_true,oe];simp only[Zk,go_sem,simprocAttr,o,p,l,E,Hb,sb,Gb,Eb,Nb,pg r hr,Xa,hd,C,eh,c1,c2,c3,M,L,H,J,K,P,W,Y,Z,ic,Kc,ub r fa,zc]
     ·have H:(base:Int)<=(v:Nat):=aa
      simp only[U,C,E,F,w,if_true,if_false,oe];simp only[Zk,go_sem,simprocAttr,o,p,l,E,Hb,sb,Gb,Eb,Nb,pg r hr,Xa,hd,C,eh,c1,c2,c3,M,L,H,J,K,P,W,ic,Kc,ub r fa,zc]
    ·have M:(97:Int)<=(y:Nat):=aa
     have R:((y:Nat):Int)<=102:=aa
     have P:IntKind.u8.wrap ((y:Int) - 97)=((y - 97:Nat):Int):=by rw[Fj aa];omega
     have W:IntKind.i64.wrap ((y - 97:Nat):Int)=((y - 97:Nat):Int):=wrap64 aa;have N:IntKind.i64.wrap (((y - 97:Nat):Int)+10)=((v:Nat):Int):=by rw[wrap64 aa];omega
     have hno:(if(48:Int)<=(x:Nat)then decide (((x:Nat):Int)<=57)else false)=false:=by
      split
      ·grind
      ·rfl
     by_cases D:(48:Int)<=(x:Nat)
     ·have L:¬((x:Nat):Int)<=57:=aa
      by_cases w:v<base
      ·have H:¬(base:Int)<=(v:Nat):=aa
       have Y:IntKind.i64.wrap ((n:Int)* (base:Int))=((n* base:Nat):Int):=by rw[wrap64 na];rfl
       have Z:IntKind.i64.wrap (((n* base:Nat):Int)+(v:Int))=((n* base+v:Nat):Int):=Uw na;simp only[U,C,E,F,w,if_true,oe];simp only[Zk,go_sem,simprocAttr,o,p,l,E,B,Hb,sb,Gb,Eb,Nb,pg r hr,Xa,hd,C,eh,c1,c2,c3,D,L,H,M,R,J,K,P,W,Y,Z,N,ic,Kc,ub r fa,zc]
      ·have H:(base:Int)<=(v:Nat):=aa
       simp only[U,C,E,F,w,if_true,if_false,oe];simp only[Zk,go_sem,simprocAttr,o,p,l,E,B,Hb,sb,Gb,Eb,Nb,pg r hr,Xa,hd,C,eh,c1,c2,c3,D,L,H,M,R,J,K,P,W,N,ic,Kc,ub r fa,zc]
     ·by_cases w:v<base
      ·have H:¬(base:Int)<=(v:Nat):=aa
       have Y:IntKind.i64.wrap ((n:Int)* (base:Int))=((n* base:Nat):Int):=by rw[wrap64 na];rfl
       have Z:IntKind.i64.wrap (((n* base:Nat):Int)+(v:Int))=((n* base+v:Nat):Int):=Uw na;simp only[U,C,E,F,w,if_true,oe];simp only[Zk,go_sem,simprocAttr,o,p,l,E,B,Hb,sb,Gb,Eb,Nb,pg r hr,Xa,hd,C,eh,c1,c2,c3,D,H,M,R,J,K,P,W,Y,Z,N,ic,Kc,ub r fa,zc]
      ·have H:(base:Int)<=(v:Nat):=aa
       simp only[U,C,E,F,w,if_true,if_false,oe];simp only[Zk,go_sem,simprocAttr,o,p,l,E,B,Hb,sb,Gb,Eb,Nb,pg r hr,Xa,hd,C,eh,c1,c2,c3,D,H,M,R,J,K,P,W,N,ic,Kc,ub r fa,zc]
    ·have w:¬v<base:=by rcases V with rfl|rfl<;>omega
     have H:(base:Int)<=(base:Int):=Int.le_refl _;have N:=eq_true H;simp only[U,C,E,F,w,if_true,if_false,oe];by_cases D:(48:Int)<=(x:Nat)<;>by_cases M:(97:Int)<=(y:Nat)
     ·have L:¬((x:Nat):Int)<=57:=aa
      have R:¬((y:Nat):Int)<=102:=aa
      simp only[Zk,go_sem,simprocAttr,o,p,l,E,B,Hb,sb,Gb,Eb,Nb,pg r hr,Xa,hd,C,eh,c1,c2,c3,D,M,L,R,N,ic,Kc,ub r fa,zc]
     ·have L:¬((x:Nat):Int)<=57:=aa
      simp only[Zk,go_sem,simprocAttr,o,p,l,E,B,Hb,sb,Gb,Eb,Nb,pg r hr,Xa,hd,C,eh,c1,c2,c3,D,M,L,N,ic,Kc,ub r fa,zc]
     ·have R:¬((y:Nat):Int)<=102:=aa
      simp only[Zk,go_sem,simprocAttr,o,p,l,E,B,Hb,sb,Gb,Eb,Nb,pg r hr,Xa,hd,C,eh,c1,c2,c3,D,M,R,N,ic,Kc,ub r fa,zc]
     ·simp only[Zk,go_sem,simprocAttr,o,p,l,E,B,Hb,sb,Gb,Eb,Nb,pg r hr,Xa,hd,C,eh,c1,c2,c3,D,M,N,ic,Kc,ub r fa,zc]
   ·have c3:¬(u:Int)<most:=aa
    simp only[U,if_false,oe];simp only[Zk,go_sem,simprocAttr,o,p,Hb,sb,Gb,Eb,Nb,c1,c3,zc]
  ·have C:s[j]?=none:=Qf aa
   have c1:s.length<=j:=aa
   have v:(if u<most then(Sum.inr (n,j):(Nat×Nat×Nat) ⊕ (Nat×Nat))else .inr (n,j))=.inr (n,j):=by split<;>rfl
   simp only[C,v,oe];simp only[Zk,go_sem,simprocAttr,o,p,Hb,sb,Gb,Eb,Nb,c1,zc]
 ·simp only[go_sem,simprocAttr,Hb,sb,Kc,ub r fa]
 grind [qj,Nat.pow_succ]
theorem zb2(z:sc lib){bx}{r}{b e}{s}{k}(y:bx[b]?=some (e,rd s k))(hs:s.length<=1000000000)(C:k<=s.length)(hr:∀q∈r,q≠(b,1))(fa:∀q∈r,q.1<bx.length):
 match Vn (s.drop k)with
 |some (x,c)=>da code lib 246 [.ptr b 0] bx (cl r)=some ([.flat (.string (S x)),.flat (.bool true)],false,bx.set b (e,rd s (k+c)),cl r)
 |none=>∃k',k'<=s.length/\da code lib 246 [.ptr b 0] bx (cl r)=some ([.flat (.string (S [])),.flat (.bool false)],false,bx.set b (e,rd s k'),cl r):=by
 have o:=(qg y).1;have l:∀w:ba,w.length<=10->w.isPrefixOf (s.drop k)=true->da code lib 178 [.ptr b 0,.flat (.string (S w))] bx (cl r)=some ([.flat (.bool true)],false,bx.set b (e,rd s (k+w.length)),cl r):=fun w E h=>iV z w y hs aa C hr fa h
 have j:∀w:ba,w.length<=10->w.isPrefixOf (s.drop k)=false->da code lib 178 [.ptr b 0,.flat (.string (S w))] bx (cl r)=some ([.flat (.bool false)],false,bx,cl r):=fun w E h=>gV z w y hs aa C hr fa h
 have num:∀(w:ba)(base most:Nat),base=16\/base=10->most<=7->w.isPrefixOf (s.drop k)=true->match Ml base most (s.drop (k+w.length))with
  |some (x,c)=>da code lib 281 [.ptr b 0,.flat (.int .i64 (base:Nat)),.flat (.int .i64 (most:Nat))] (bx.set b (e,rd s (k+w.length))) (cl r)=some ([.flat (.string (S x)),.flat (.bool true)],false,bx.set b (e,rd s (k+w.length+c)),cl r)
  |none=>∃k',k'<=s.length/\da code lib 281 [.ptr b 0,.flat (.int .i64 (base:Nat)),.flat (.int .i64 (most:Nat))] (bx.set b (e,rd s (k+w.length))) (cl r)=some ([.flat (.string (S [])),.flat (.bool false)],false,bx.set b (e,rd s k'),cl r):=fun w base most t u v=>by
  have i:=Zm v;rw[fc]at i;have:=p_ (lib:=lib) z (bx:=bx.set b (e,rd s (k+w.length))) (r:=r) (b:=b) (e:=e) (s:=s) (k:=k+w.length) (base:=base) (most:=most) (Tg o) hs aa hr na t u;simp only[qo]at this;omega
 have g:=Kp y;unfold Vn;cases t:([38,97,109,112,59]:ba).isPrefixOf (s.drop k)with
 |true=>
  have a:=l _ ha t;rw[if_pos rfl];refine la zn (qa rfl) ?_;simp only[ua,Ca,ld]at a;simp only[go_sem,simprocAttr,bf,a,Hb,sb,Gb,Eb,Nb,ub r fa,Kc,zc]
 |false=>
 have a:=j _ ha t;rw[if_neg ea];cases u:([38,108,116,59]:ba).isPrefixOf (s.drop k)with
 |true=>
  have t2:=l _ ha u;rw[if_pos rfl];refine la zn (qa rfl) ?_;simp only[ua,Ca,ld]at t2;simp only[go_sem,simprocAttr,bf,a,t2,Hb,sb,Gb,Eb,Nb,ub r fa,Kc,zc]
 |false=>
 have t2:=j _ ha u;rw[if_neg ea];cases v:([38,103,116,59]:ba).isPrefixOf (s.drop k)with
 |true=>
  have t3:=l _ ha v;rw[if_pos rfl];refine la zn (qa rfl) ?_;simp only[ua,Ca,ld]at t3;simp only[go_sem,simprocAttr,bf,a,t2,t3,Hb,sb,Gb,Eb,Nb,ub r fa,Kc,zc]
 |false=>
 have t3:=j _ ha v;rw[if_neg ea];cases D:([38,113,117,111,116,59]:ba).isPrefixOf (s.drop k)with
 |true=>
  have t4:=l _ ha D;rw[if_pos rfl];refine la zn (qa rfl) ?_;simp only[ua,Ca,ld]at t4;simp only[go_sem,simprocAttr,bf,a,t2,t3,t4,Hb,sb,Gb,Eb,Nb,ub r fa,Kc,zc]
 |false=>
 have t4:=j _ ha D;rw[if_neg ea];cases A:([38,35,120]:ba).isPrefixOf (s.drop k)with
 |true=>
  have t5:=l _ ha A;have i:=num _ 16 6 (.inl rfl) ha A;rw[if_pos rfl];simp only[ua,Ca,ld,Nat.reduceAdd,ZA]at t5 i;rw[yd];cases n:Ml 16 6 (s.drop (k+3))with
  |some q=>
   obtain⟨x,c⟩:=q;rw[n]at i;simp only[fd];rw[show k+(3+c)=k+3+c by omega];refine la zn (qa rfl) ?_;simp only[go_sem,simprocAttr,bf,a,t2,t3,t4,t5,i,Hb,sb,Gb,Eb,Nb,ub r fa,Kc,zc]
  |none=>
   rw[n]at i;obtain⟨k',d,i⟩:=i;simp only[Ti];refine⟨k',d,?_⟩;refine la zn (qa rfl) ?_;simp only[go_sem,simprocAttr,bf,a,t2,t3,t4,t5,i,Hb,sb,Gb,Eb,Nb,ub r fa,Kc,zc]
 |false=>
 have t5:=j _ ha A;rw[if_neg ea];cases B:([38,35]:ba).isPrefixOf (s.drop k)with
 |true=>
  have p:=l _ ha B;have i:=num _ 10 7 (.inr rfl) ha B;rw[if_pos rfl];simp only[ua,Ca,ld,Nat.reduceAdd,ZA]at p i;rw[yd];cases n:Ml 10 7 (s.drop (k+2))with
  |some q=>
   obtain⟨x,c⟩:=q;rw[n]at i;simp only[fd];rw[show k+(2+c)=k+2+c by omega];refine la zn (qa rfl) ?_;simp only[go_sem,simprocAttr,bf,a,t2,t3,t4,t5,p,i,Hb,sb,Gb,Eb,Nb,ub r fa,Kc,zc]
  |none=>
   rw[n]at i;obtain⟨k',d,i⟩:=i;simp only[Ti];refine⟨k',d,?_⟩;refine la zn (qa rfl) ?_;simp only[go_sem,simprocAttr,bf,a,t2,t3,t4,t5,p,i,Hb,sb,Gb,Eb,Nb,ub r fa,Kc,zc]
 |false=>
 have p:=j _ ha B;rw[if_neg ea];refine⟨k,C,?_⟩;rw[g];refine la zn (qa rfl) ?_;simp only[go_sem,simprocAttr,bf,a,t2,t3,t4,t5,p,sb,Gb,Eb,Nb,ub r fa,zc]
def iA{n}{s}{k}:Ia n (rd s k)=true:=rfl
def Fx{b}{l}:bld false b [] l=PV.flat (.pointer none)::PV.ia 0 []::l:=rfl
theorem zct(W:sc lib)(N:Sb lib){bx}{r}{b e}{s}{k}{en bd}(U:bx[b]?=some (e,rd s k))(E:nf bx.length bx=true)(hs:s.length<=100000000)(Z:k<=s.length)(hr:∀q∈r,q≠(b,1))(fa:∀q∈r,q.1<bx.length):
 match Ji s en bd k with
 |some (x,p)=>da code lib 184 [.ptr b 0,.flat (.int .u8 en.toNat),.flat (.int .u8 bd.toNat)] bx (cl r)=some ([.flat (.string (S x)),.flat (.bool true)],false,bx.set b (e,rd s p),cl r)
 |none=>∃k',k'<=s.length/\da code lib 184 [.ptr b 0,.flat (.int .u8 en.toNat),.flat (.int .u8 bd.toNat)] bx (cl r)=some ([.flat (.string (S [])),.flat (.bool false)],false,bx.set b (e,rd s k'),cl r):=by
 have i:=(qg U).1;obtain⟨r',v⟩:∃r',r'=(bx.length,1)::r:=⟨_,rfl⟩;have D:Loc.cell bx.length 1::cl r=cl r':=by rw[v];rfl
 have F:∀q∈r',q.1<bx.length+1:=by rw[v];exact y9 (x:=(0,0)) fa
 have I:∀q∈r',q≠(b,1):=by
  rw[v];intro q A;rcases wb.1 A with rfl|A
  ·grind
  ·grind
 have H:∀q∈r,q≠(bx.length,1):=fun q A h=>by grind
 have Y:fe (Loc.cell bx.length 1) (cl r')=cl r:=by
  rw[v];show fe _ (Loc.cell bx.length 1::cl r)=_;simp only[Gu,and_self,if_true,uq r H,if_false]
 have T:qc bx.length (cl r')=cl r:=by
  rw[v];show qc _ (Loc.cell bx.length 1::cl r)=_;simp only[ol,Nat.lt_irrefl,if_false,ub r fa]
 have t:∀q∈r,q.1<bx.length+1:=fun q A=>Nat.lt_succ_of_lt (fa q A)
 have R:∀(j:Nat)(x:ba)(u:Bool)(out:ba),out.length+x.length<=za->da code lib 45 [.ptr bx.length 0,.flat (.string (S x))] (bx.set b (e,rd s j)++[(101,bld u bx.length out [])]) (cl r')=some ([.flat (.int .i64 x.length),.flat .nilIface],false,bx.set b (e,rd s j)++[(101,bld true bx.length (out++x) [])],cl r'):=fun j x u out h=>by
  have:=ai (lib:=lib) (r:=r) (m:=x) N (Fo (bx:=bx) (b:=b) (x:=(e,rd s j)) (q:=(101,bld u bx.length out []))) lj h H (by rw[Hk];exact t);rw[lq,D]at this;exact this
 have Q:∀(j:Nat)(x:UInt8)(u:Bool)(out:ba),out.length+1<=za->da code lib 44 [.ptr bx.length 0,.flat (.int .u8 x.toNat)] (bx.set b (e,rd s j)++[(101,bld u bx.length out [])]) (cl r')=some ([.flat .nilIface],false,bx.set b (e,rd s j)++[(101,bld true bx.length (out++[x]) [])],cl r'):=fun j x u out h=>by
  have:=Cw (lib:=lib) (r:=r) (c:=x) N (Fo (bx:=bx) (b:=b) (x:=(e,rd s j)) (q:=(101,bld u bx.length out []))) lj h H (by rw[Hk];exact t);rw[lq,D]at this;exact this
 have hrel:=Il (body:=ma (da code lib) ja xC) (live:=[0,1,2,8]) (nb:=bx.length+1)
  (fun(u:Bool)(q:ba×Nat)=>(⟨[(0,.ptr b 0),(1,.flat (.int .u8 en.toNat)),(2,.flat (.int .u8 bd.toNat)),(8,.ptr bx.length 0)],cl r',[],bx.set b (e,rd s q.2)++[(101,bld u bx.length q.1 [])]⟩:St))
  (Bj s en bd) none (fun a o st=>match a with
    |some q=>o=.exit 0/\∃u,st=⟨[(8,.ptr bx.length 0)],cl r',[],bx.set b (e,rd s q.2)++[(101,bld u bx.length q.1 [])]⟩
    |none=>o=.ret/\∃k' y,k'<=s.length/\st=⟨[(6,.flat (.string (S []))),(7,.flat (.bool false))],cl r',[],bx.set b (e,rd s k')++[y]⟩)
  (fun a=>a.2<=s.length/\k<=a.2/\a.1.length<=4* (a.2 - k)) (fun a=>s.length - a.2) (fun u ⟨out,j⟩ M=>?_) (fun u ⟨out,j⟩ M=>?_) (fun a c M h=>fI k a c M h) (n:=s.length+1) (m:=ja) false ([],k) ⟨Z,Aa _,ea⟩ aa (by grind [ja])
 ·obtain⟨o,st,w,A⟩:=hrel
  have d:Mb (Bj s en bd) none (s.length+1) ([],k)=Ji s en bd k:=rfl;rw[d]at A;dsimp only at w;rw[Kp U,Fx]at w;cases B:Ji s en bd k with
  |some q=>
   obtain⟨x,p⟩:=q;rw[B]at A;obtain⟨rfl,u,rfl⟩:=A;dsimp only at w⊢;have z:=lk (lib:=lib) (oc:=cl r') (u:=u) (l:=x) (rest:=[]) N (Fo (bx:=bx) (b:=b) (x:=(e,rd s p)) (q:=(101,bld u bx.length x []))) (by rw[v];exact It);have g:=OR (b:=b) (q:=(e,rd s p)) iA E;refine la VN (qa rfl) ?_;simp(maxSteps:=999999) (disch:=first|assumption|omega) only[go_sem,simprocAttr,au,D,w,z,Y,g,iA,GJ,Ba]
  |none=>
   rw[B]at A;obtain⟨rfl,k',y,G,rfl⟩:=A;dsimp only at w⊢;have g:=OR (b:=b) (q:=(e,rd s k')) iA E;refine⟨k',G,?_⟩;refine la VN (qa rfl) ?_;simp(maxSteps:=999999) (disch:=first|assumption|omega) only[go_sem,simprocAttr,au,D,w,T,g,iA,Hk,GJ,Ba]
 ·
  dsimp only at M;have g:=qy (lib:=lib) (r:=r') (Eo (x:=(e,rd s j)) (q:=(101,bld u bx.length out [])) i) (by rw[Hk];exact F);dsimp only;by_cases t:j<s.length
  ·have B:s[j]?=some s[j]:=qe t
   obtain⟨c,X⟩:∃c,s[j]=c:=⟨_,rfl⟩;rw[X]at B;unfold Bj;simp only[B];by_cases K:c=en
   ·rw[if_pos K]
    have w:=congrArg UInt8.toNat K;refine⟨.exit 0,⟨[(8,.ptr bx.length 0)],cl r',[],bx.set b (e,rd s j)++[(101,bld u bx.length out [])]⟩,?_,ea,rfl,u,rfl⟩;simp only[rd,qn]at g⊢;simp(maxSteps:=999999) (disch:=first|assumption|omega) only[go_sem,simprocAttr,au,Ws,g,B,Eo,Fo,kq,lq,Hk]
   ·rw[if_neg K]
    have w:=eq_false fun h=>K (Xb.1 h)
    by_cases L:c=bd
    ·rw[if_pos L]
     have z:=eq_true (congrArg UInt8.toNat L);refine⟨.ret,⟨[(6,.flat (.string (S []))),(7,.flat (.bool false))],cl r',[],bx.set b (e,rd s j)++[(101,bld u bx.length out [])]⟩,?_,ea,rfl,j,_,aa,rfl⟩;simp only[rd,qn]at g⊢;simp(maxSteps:=999999) (disch:=first|assumption|omega) only[go_sem,simprocAttr,au,Ws,g,B,w,z,Eo,Hk]
    ·rw[if_neg L]
     have z:=eq_false fun h=>L (Xb.1 h)
     by_cases O:c=38
     ·rw[if_pos O]
      have C:(c.toNat=38)=True:=eq_true bh;have d:=zb2 (lib:=lib) W (r:=r') (Eo (x:=(e,rd s j)) (q:=(101,bld u bx.length out [])) i) aa (by omega:j<=s.length) I (by rw[Hk];exact F);cases P:Vn (s.drop j)with
      |none=>
       rw[P]at d;obtain⟨k',G,d⟩:=d;rw[kq i]at d;dsimp only;refine⟨.ret,⟨[(6,.flat (.string (S []))),(7,.flat (.bool false))],cl r',[],bx.set b (e,rd s k')++[(101,bld u bx.length out [])]⟩,?_,ea,rfl,k',_,G,rfl⟩;simp only[rd,qn]at g d⊢;simp(maxSteps:=999999) (disch:=first|assumption|omega) only[go_sem,simprocAttr,au,Ws,g,d,B,w,z,C,Eo,Fo,kq,lq,Hk]
      |some q=>
       obtain⟨x,n⟩:=q;rw[P]at d;dsimp only at d⊢;rw[kq i]at d;have V:=AH P;rw[fc]at V;dsimp only at V;have J:=R (j+n) x u out He;refine⟨true,?_⟩;simp only[rd,Ee]at g d J⊢;simp(maxSteps:=999999) (disch:=first|assumption|omega) only[go_sem,simprocAttr,au,Ws,g,d,J,B,w,z,C,Eo,Fo,kq,lq,Hk]
     ·rw[if_neg O]
      have C:(c.toNat=38)=False:=eq_false fun h=>O (Xb.1 h)
      have J:=Q j c u out He;refine⟨true,?_⟩;simp only[rd,Ee,qn]at g J⊢;simp(maxSteps:=999999) (disch:=first|assumption|omega) only[go_sem,simprocAttr,au,Ws,g,J,B,w,z,C,Eo,Fo,kq,lq,Hk]
  ·have B:s[j]?=none:=Qf aa
   unfold Bj;simp only[B];refine⟨.exit 0,⟨[(8,.ptr bx.length 0)],cl r',[],bx.set b (e,rd s j)++[(101,bld u bx.length out [])]⟩,?_,ea,rfl,u,rfl⟩;simp only[rd,qn]at g⊢;simp(maxSteps:=999999) (disch:=first|assumption|omega) only[go_sem,simprocAttr,au,Ws,g,B,Eo,Fo,kq,lq,Hk]
 ·simp(maxSteps:=999999) (disch:=first|assumption|omega) only[go_sem,simprocAttr,au,Hk]
theorem TI{s}{fin}{g:Nat->Out×St}:∀(L:List ba)(k),(L.contains s=false/\Te (fun(_:Unit) k x=>if x=s then .inr (g k)else .inl ()) fin () k L=fin ())\/(L.contains s=true/\∃j,j<k+L.length/\Te (fun(_:Unit) k x=>if x=s then .inr (g k)else .inl ()) fin () k L=g j)
 |[],k=>.inl ⟨rfl,rfl⟩
 |x::t,k=>by
  rw[Te,List.contains_cons];by_cases h:x=s
  ·grind
  ·rw[if_neg h]
   dsimp only;have b:(s==x)=false:=by simpa using fun e=>h e.symm
   rw[b,Ug];rcases TI (fin:=fin) (g:=g) t (k+1)with a|⟨a,j,c,d⟩
   ·exact .inl a
   grind
def N4(L)(s)(n:L.length<=1000000):∃i,(L.contains s=decide (0<=i))/\da code lib 278 [.ia L.length (wa L),.flat (.string (S s))] [] []=some ([.flat (.int .i64 i)],false,[],[]):=by
 have a:=bk (body:=ma (da code lib) ja tC) (live:=[0,1,7,8]) (nb:=0) (fun(_:Unit) k=>⟨[(0,.ia L.length (wa L)),(1,.flat (.string (S s))),(7,.flat (.int .i64 (L.length:Nat))),(8,.flat (.int .i64 (k:Nat)))],[],[],[]⟩) L (fun _ _=>True)
  (fun _ k x=>if x=s then .inr (.ret,⟨[(4,.flat (.int .i64 (k:Nat)))],[],[],[]⟩)else .inl ()) (fun _=>(.exit 0,⟨[],[],[],[]⟩)) (fun _ k x _ c l b=>?_) (fun _ _=>by simp only[go_sem,simprocAttr]) (fun _ _ _ _ _ _ _ _=>trivial) (fun _ _ x r h=>by split at h<;>simp at h;rw[<-h];simp) (fun _ _=>?_) (fun _=>by simp) () trivial zm
 ·simp only[n0]at a
  rcases TI (s:=s) (fin:=fun _=>(.exit 0,⟨[],[],[],[]⟩)) (g:=fun k=>(.ret,⟨[(4,.flat (.int .i64 (k:Nat)))],[],[],[]⟩)) L 0 with⟨c,b⟩|⟨c,j,b,d⟩
  ·rw[b]at a
   refine⟨-1,na,?_⟩;refine la UN (qa rfl) ?_;have o:Int.negSucc 0=-1:=rfl;exact va @cd
  ·rw[d]at a
   refine⟨j,na,?_⟩;refine la UN (qa rfl) ?_;exact va @cd
 ·have b:(wa L)[k]?=some (.flat (.string (S x))):=by simp only[wa,XA,l,fd]
  have d:(wa L).drop k=.flat (.string (S x))::(wa L).drop (k+1):=by
   rw[Pd na];rw[qe na,Wb]at b;rw[b]
  by_cases h:x=s
  ·have c:=eq_true h.symm
   rw[if_pos h];exact Kb wH @cd
  ·have c:(s=x)=False:=eq_false fun e=>h e.symm
   rw[if_neg h];exact Kb wH @cd
 ·exact va wH
def eO(L)(s)(b:L.length<=1000000):da code lib 241 [.ia L.length (wa L),.flat (.string (S s))] [] []=some ([.flat (.bool (L.contains s))],false,[],[]):=by
 obtain⟨i,a,c⟩:=N4 (lib:=lib) L s b;refine la KZ (qa rfl) ?_;rw[a];exact va @dd
def PO(s):da code lib 181 [.flat (.string (S s))] [] []=some ([.flat (.bool (sg.contains s))],false,[],[]):=by
 have h:=eO (lib:=lib) sg s ha;obtain⟨v,a⟩:∃v,sg.contains s=v:=⟨_,rfl⟩;rw[a]at h⊢;simp only[wa,sg,gc,Ve,ua,Ca,ld,Nat.reduceAdd]at h;refine la QZ (qa rfl) ?_;exact sa
def FW(s):da code lib 279 [.flat (.string (S s))] [] []=some ([.flat (.bool (Al.contains s))],false,[],[]):=by
 have h:=eO (lib:=lib) Al s ha;obtain⟨v,a⟩:∃v,Al.contains s=v:=⟨_,rfl⟩;rw[a]at h⊢;simp only[wa,Al,gc,Ve,ua,Ca,ld,Nat.reduceAdd]at h;refine la OZ (qa rfl) ?_;exact sa
def zfw(s):da code lib 182 [.flat (.string (S s))] [] []=some ([.flat (.bool (Qi s))],false,[],[]):=by
 refine la NZ (qa rfl) ?_;unfold Qi;rcases pb (s=[98,114])with a|a<;>rcases pb (s=[104,114])with b|b<;>rcases pb (s=[105,109,103])with c|c
 all_goals
  first|have d:=eq_false a|have d:=eq_true a
  first|have e:=eq_false b|have e:=eq_true b
  first|have g:=eq_false c|have g:=eq_true c
  clear a b c;exact sa
variable {lib:Callee}
structure Db (B:Nat→Oa) (n b e:Nat) (s:ba) (r:List (Nat × Nat)):Prop where
 len:∀ j,(B j).length=n
 get:∀ j,(B j)[b]? =some (e,rd s j)
 set:∀ i j,(B j).set b (e,rd s i)=B i
 lt:b<n
 low:∀ j,nf n (B j)=true
 hs:s.length≤100000000
 hr:∀ q∈r,q≠(b,1)
 fa:∀ q∈r,q.1<n
section
variable {B:Nat→Oa} {n b e:Nat} {s:ba} {r:List (Nat × Nat)}
def Db.app(H:Db B n b e s r){m}(ys)(c:n+ys.length=m)(a:nf m ys=true):Db (fun j=>B j++ys) m b e s r where
 len j:=by rw[Ba,H.len];exact c
 get j:=by grind [get]
 set i j:=by rw[List.set_append_left _ _ (by rw[H.len];exact H.lt),H.set]
 lt:=by have:=H.lt;omega
 low j:=by rw[NG,MC aa _ (H.low j),a];rfl
 hs:=H.hs
 hr:=H.hr
 fa q hq:=by have:=H.fa q hq;omega
def Db.gx(H:Db B n b e s r)(j)(ys):(B j++ys)[b]?=some (e,rd s j):=by grind [get]
def Db.dx(H:Db B n b e s r)(j)(ys):(B j++ys)[n]?=ys[0]?:=by rw[Pf (by rw[H.len];omega),H.len,Nat.sub_self]
def Db.fx(H:Db B n b e s r)(j i)(ys):(B j++ys)[n+i]?=ys[i]?:=by rw[Pf (by rw[H.len];omega),H.len,ri]
def Db.lx(H:Db B n b e s r)(i j)(ys):(B j++ys).set b (e,rd s i)=B i++ys:=by rw[List.set_append_left _ _ (by rw[H.len];exact H.lt),H.set]
def Db.jx(H:Db B n b e s r)(j)(ys)(q):(B j++ys).set n q=B j++ys.set 0 q:=by rw[Dt _ _ (by rw[H.len];omega),H.len,Nat.sub_self]
def Db.kx(H:Db B n b e s r)(j i)(ys)(q):(B j++ys).set (n+i) q=B j++ys.set i q:=by rw[Dt _ _ (by rw[H.len];omega),H.len,ri]
def Db.hx(H:Db B n b e s r)(j)(ys):(B j++ys).length=n+ys.length:=by rw[Ba,H.len]
def Db.nx(H:Db B n b e s r)(j)(ys):(B j++ys).take n=B j:=by rw[List.take_append_of_le_length (by rw[H.len];omega),uk (by rw[H.len];omega)]
def Db.ox(H:Db B n b e s r)(j i)(ys):(B j++ys).take (n+i)=B j++ys.take i:=by
 rw[List.take_append,H.len,ri,uk (by rw[H.len];omega)]
def Db.Cu(H:Db B n b e s r)(o m):Td n o m (cl r)=cl r:=Tx r H.fa
def Db.iy(H:Db B n b e s r)(i o m):Td (n+i) o m (cl r)=cl r:=Tx r fun q a=>by have:=H.fa q a;omega
def Db.ww(H:Db B n b e s r):qc n (cl r)=cl r:=ub r H.fa
def Db.JA(H:Db B n b e s r)(i):qc (n+i) (cl r)=cl r:=ub r fun q a=>by have:=H.fa q a;omega
def Db.done(H:Db B n b e s r)(k):da code lib 111 [.ptr b 0] (B k) (cl r)=some ([.flat (.bool (decide (s.length<=k)))],false,B k,cl r):=
 qy (H.get k) (by rw[H.len];exact H.fa)
def Db.take(H:Db B n b e s r)(a:sc lib)(w){k}(c:k<=s.length)(d:w.length<=1000000000):da code lib 178 [.ptr b 0,.flat (.string (S w))] (B k) (cl r)=some ([.flat (.bool (w.isPrefixOf (s.drop k)))],false,B (if w.isPrefixOf (s.drop k)then k+w.length else k),cl r):=by
 have:=H.hs;have h:=DI a (w:=w) (H.get k) aa d c H.hr (by rw[H.len];exact H.fa);rw[H.set]at h;exact h
def Db.word(H:Db B n b e s r){k:Nat}(a:k<=s.length):da code lib 179 [.ptr b 0,.ib 180 []] (B k) (cl r)=some ([.flat (.string (S (Bb s k)))],false,B (k+(Bb s k).length),cl r):=by
 have:=H.hs;have h:=QV (lib:=lib) (f:=180) (p:=Tk) (H.get k) aa a H.hr (by rw[H.len];exact H.fa) ha T8;rw[H.set]at h;exact h
def Db.m4(H:Db B n b e s r){k:Nat}(a:k<=s.length):da code lib 179 [.ptr b 0,.ib 242 []] (B k) (cl r)=some ([.flat (.string (S (wh s k)))],false,B (k+(wh s k).length),cl r):=by
 have:=H.hs;have h:=QV (lib:=lib) (f:=242) (p:=Ko) (H.get k) aa a H.hr (by rw[H.len];exact H.fa) ha XW;rw[H.set]at h;exact h
theorem Db.kU(H:Db B n b e s r)(c:sc lib)(a:Sb lib){k}{en bd}(d:k<=s.length):
 match Ji s en bd k with
 |some (x,p)=>da code lib 184 [.ptr b 0,.flat (.int .u8 en.toNat),.flat (.int .u8 bd.toNat)] (B k) (cl r)=some ([.flat (.string (S x)),.flat (.bool true)],false,B p,cl r)
 |none=>∃k',k'<=s.length/\da code lib 184 [.ptr b 0,.flat (.int .u8 en.toNat),.flat (.int .u8 bd.toNat)] (B k) (cl r)=some ([.flat (.string (S [])),.flat (.bool false)],false,B k',cl r):=by
 have h:=zct (lib:=lib) (en:=en) (bd:=bd) c a (H.get k) (by rw[H.len];exact H.low k) H.hs d H.hr (by rw[H.len];exact H.fa);simp only[H.set]at h;exact h
end
def rn{s}{k}(h:k<=s.length):k+(Bb s k).length<=s.length:=by
 grind [List.takeWhile_prefix,Bb]
def Pu{s}{k}(h:k<=s.length):k+(wh s k).length<=s.length:=by
 grind [List.takeWhile_prefix,wh]
theorem IH{s:ba}{k}{c}:([c]:ba).isPrefixOf (s.drop k)=decide (s[k]?=some c):=by
 have a:s[k]?=(s.drop k)[0]?:=by rw[kg,pi]
 rw[a];cases s.drop k<;>grind
def hb(a:Vi):List PV:=[.flat (.string (S a.name)),.flat (.string (S a.val)),.flat (.int .i64 (a.fr:Nat)),.flat (.int .i64 (a.to:Nat))]
theorem EW{B}{n b e}{s}{r}(H:Db B n b e s r)(W:sc lib)(HBZ:Sb lib){k}(hkZ:k<=s.length):
 match tm s k with
 |some (a,p)=>da code lib 243 [.ptr b 0] (B k) (cl r)=some ([.agg (hb a),.flat (.bool true)],false,B p,cl r)
 |none=>∃a k',k'<=s.length/\da code lib 243 [.ptr b 0] (B k) (cl r)=some ([.agg (hb a),.flat (.bool false)],false,B k',cl r):=by
 have h0Z:=H.hs;have Q:=rn hkZ;have i:=H.gx;have l:=H.dx;have o:=H.fx;have F:=H.lx;have t:=H.jx;have u:=H.kx;have x:=H.hx;have y:=H.nx;have z:=H.ox;have A:=H.len;have c:=H.low;have d:=H.Cu;have g:=H.iy;have C:=H.ww;have D:=H.JA;have U:(⟨#[]⟩:ByteArray)=S []:=rfl;have X:∀V L,nf (n+2) [L,V]=true->Db (fun j=>B j++[L,V]) (n+2) b e s r:=fun V L h=>H.app _ rfl h
 have K1Z:∀L,nf (n+1) [L]=true->Db (fun j=>B j++[L]) (n+1) b e s r:=fun L h=>H.app _ rfl h
 have O:=(K1Z (282,[.flat (.string (S [])),.flat (.string (S [])),.flat (.int .i64 0),.flat (.int .i64 0)]) rfl).word (lib:=lib) hkZ;have I:=FW (lib:=lib) (Bb s k);unfold tm;obtain⟨w,hwd⟩:∃w,Bb s k=w:=⟨_,rfl⟩;rw[hwd]at O I Q⊢;cases hcZ:Al.contains w with
 |false=>
  rw[hcZ]at I;refine⟨⟨w,[],0,0⟩,k+w.length,Q,?_⟩;refine la yu (qa rfl) ?_;simp(maxSteps:=999999) (disch:=first|assumption|omega) only[go_sem,simprocAttr,au,U,O,I,i,l,o,t,u,x,y,z,A,c,d,g,C,D,rd,hb]
 |true=>
  rw[hcZ]at I;obtain⟨P,hk1⟩:∃P,k+w.length=P:=⟨_,rfl⟩;rw[hk1]at O Q⊢;obtain⟨K,hk2⟩:∃K,P+2=K:=⟨_,rfl⟩;have G:=(X (282,[.flat (.string (S w)),.flat (.string (S [])),.flat (.int .i64 0),.flat (.int .i64 0)]) (282,[.flat (.string (S [])),.flat (.string (S [])),.flat (.int .i64 0),.flat (.int .i64 0)]) rfl).take (lib:=lib) W [61,34] Q ha;have hbu:Tb s [61,34] P=([61,34]:ba).isPrefixOf (s.drop P):=by unfold Tb;simp only[Q,decide_true,od]
  rw[hbu];cases hpZ:([61,34]:ba).isPrefixOf (s.drop P)with
  |false=>
   rw[hpZ]at G;simp only[La,if_false]at G;refine⟨⟨w,[],0,0⟩,P,Q,?_⟩;refine la yu (qa rfl) ?_;simp(maxSteps:=999999) (disch:=first|assumption|omega) only[go_sem,simprocAttr,au,U,O,I,G,i,l,o,F,t,u,x,y,z,A,c,d,g,C,D,rd,hb]
  |true=>
   rw[hpZ]at G;have T:=Zm hpZ;rw[fc]at T;simp only[if_true,ua,Ca,ld,Nat.reduceAdd,hk2]at G T⊢;have h2Z:K<=s.length:=aa
   have E:=(X (282,[.flat (.string (S w)),.flat (.string (S [])),.flat (.int .i64 (K:Nat)),.flat (.int .i64 0)]) (282,[.flat (.string (S [])),.flat (.string (S [])),.flat (.int .i64 0),.flat (.int .i64 0)]) rfl).kU (lib:=lib) (en:=34) (bd:=60) W HBZ h2Z;have Y:((UInt8.toNat 34:Nat):Int)=34:=rfl;have Z:((UInt8.toNat 60:Nat):Int)=60:=rfl;rw[Y,Z]at E;cases hEZ:Ji s 34 60 K with
   |none=>
    rw[hEZ]at E;obtain⟨k',v,E⟩:=E;refine⟨⟨w,[],K,k'⟩,k',v,?_⟩;refine la yu (qa rfl) ?_;simp(maxSteps:=999999) (disch:=first|assumption|omega) only[go_sem,simprocAttr,au,U,O,I,G,E,i,l,o,F,t,u,x,y,z,A,c,d,g,C,D,rd,hb]
   |some q=>
    obtain⟨v,p⟩:=q;rw[hEZ]at E;have M:=ot h2Z hEZ;dsimp only at E M⊢;have R:=(X (282,[.flat (.string (S w)),.flat (.string (S v)),.flat (.int .i64 (K:Nat)),.flat (.int .i64 (p:Nat))]) (282,[.flat (.string (S [])),.flat (.string (S [])),.flat (.int .i64 0),.flat (.int .i64 0)]) rfl).take (lib:=lib) W [34] M.2.1 ha;rw[IH]at R;by_cases J:p<s.length
    ·have N:(s[p]?=some 34)=True:=by
      rcases M.2.2.2 with h|h
      ·grind
      ·grind
     simp only[N,decide_true,if_true,ua,Ca,ld]at R;simp only[Dg,if_true,J];refine la yu (qa rfl) ?_;simp(maxSteps:=999999) (disch:=first|assumption|omega) only[go_sem,simprocAttr,au,U,O,I,G,E,R,i,l,o,F,t,u,x,y,z,A,c,d,g,C,D,rd,hb,eI]
    ·have N:(s[p]?=some 34)=False:=eq_false na
     simp only[N,decide_false,La,if_false]at R;simp only[Dg,if_true,J,if_false];refine⟨⟨w,v,K,p⟩,p,aa,?_⟩;refine la yu (qa rfl) ?_;simp(maxSteps:=999999) (disch:=first|assumption|omega) only[go_sem,simprocAttr,au,U,O,I,G,E,R,i,l,o,F,t,u,x,y,z,A,c,d,g,C,D,rd,hb,eI]
variable {lib:Callee}
def tc(l:List Vi):List PV:=l.flatMap hb
def nW{n}(a):Ia n (hb a)=true:=rfl
theorem bg:∀l,(tc l).length=l.length* 4
 |[]=>rfl
 |a::l=>by
  show(hb a++tc l).length=_;rw[Ba,bg l,ua];show 4+_=_;omega
theorem Az{n}:∀{a b},Ia n (a++b)=(Ia n a&&Ia n b)
 |[],b=>by rfl
 |x::a,b=>by simp only[Ha,Ia,Az,Bool.and_assoc]
theorem Jd{n}:∀l,Ia n (tc l)=true
 |[]=>rfl
 |a::l=>by show Ia n (hb a++tc l)=true;rw[Az,Jd l];rfl
theorem pm:∀l,Ib (tc l)=true
 |[]=>rfl
 |a::l=>by
  show Ib (hb a++tc l)=true;simp only[hb,Ha,Ra,Ib,PV.pj,pm l,od]
def rJ{a b}:tc a++tc b=tc (a++b):=by simp[tc]
def rB{l}{k}{x}(h:l[k]?=some x):(tc l).drop (k* 4)=hb x++tc (l.drop (k+1)):=by
 induction l generalizing k with
 |nil=>cases h
 |cons a l b=>
  show(hb a++tc l).drop _=_;cases k with
  |zero=>
   grind
  |succ k=>
   rw[vk]at h;have e:(k+1)* 4=4+k* 4:=aa
   rw[e,<-yd];show(tc l).drop _=_
   grind
def rX{bx ys:Oa}{p:Nat}{q}(h:bx[p]?=some q):(bx++ys)[p]?=some q:=by
 grind
def qX{bx ys:Oa}:(bx++ys)[bx.length]?=ys[0]?:=na
def tX{bx ys:Oa}:(bx++ys).take bx.length=bx:=ea
def N_{bx}{r}{p e}{a}(c)(g:bx[p]?=some (e,hb a))(b:nf bx.length bx=true)(fa:∀q∈r,q.1<bx.length):
 da code lib 245 [.agg (hb c),.ptr p 0] bx (cl r)=some ([.flat (.bool (decide (c.name=a.name)))],false,bx,cl r):=by
 refine la VZ (qa rfl) ?_;have d:=fun ys=>rX (ys:=ys) g
 simp only[hb]at d⊢;exact xe @qX @tX @Ba.{0}
theorem SI{p}{fin}{g:Nat->Out×St}:∀(L:List Vi)(k),(L.any p=false/\Te (fun(_:Unit) k x=>if p x then .inr (g k)else .inl ()) fin () k L=fin ())\/(L.any p=true/\∃j,j<k+L.length/\Te (fun(_:Unit) k x=>if p x then .inr (g k)else .inl ()) fin () k L=g j)
 |[],k=>.inl ⟨rfl,rfl⟩
 |x::t,k=>by
  rw[Te,List.any_cons];cases h:p x with
  |true=>grind
  |false=>
   rw[if_neg ea,Ug];dsimp only;rcases SI (fin:=fin) (g:=g) t (k+1)with a|⟨a,j,b,c⟩
   ·exact .inl a
   grind
def P4{bx}{r}{p e}{a}(L)(v:bx[p]?=some (e,hb a))(d:nf bx.length bx=true)(fa:∀q∈r,q.1<bx.length)(w:L.length<=1000000000):
 ∃i,(L.any (fun c=>decide (c.name=a.name))=decide (0<=i))/\da code lib 280 [.ia L.length (tc L),.ib 245 [.ptr p 0]] bx (cl r)=some ([.flat (.int .i64 i)],false,bx,cl r):=by
 have b:=bk (body:=ma (da code lib) ja sC) (live:=[0,1,7,8]) (nb:=bx.length) (fun(_:Unit) k=>⟨[(0,.ia L.length (tc L)),(1,.ib 245 [.ptr p 0]),(7,.flat (.int .i64 (L.length:Nat))),(8,.flat (.int .i64 (k:Nat)))],cl r,[],bx⟩) L (fun _ _=>True)
  (fun _ k x=>if decide (x.name=a.name)then .inr (.ret,⟨[(4,.flat (.int .i64 (k:Nat)))],cl r,[],bx⟩)else .inl ()) (fun _=>(.exit 0,⟨[],cl r,[],bx⟩)) (fun _ k x _ l u j=>?_) (fun _ _=>by simp only[go_sem,simprocAttr,Hb,sb,ub r fa]) (fun _ _ _ _ _ _ _ _=>trivial) (fun _ _ x r h=>by split at h<;>simp at h;rw[<-h];simp) (fun _ _=>?_) (fun _=>by simp) () trivial zm
 ·simp only[n0]at b
  rcases SI (p:=fun x=>decide (x.name=a.name)) (fin:=fun _=>(.exit 0,⟨[],cl r,[],bx⟩)) (g:=fun k=>(.ret,⟨[(4,.flat (.int .i64 (k:Nat)))],cl r,[],bx⟩)) L 0 with⟨n,l⟩|⟨n,j,l,o⟩
  ·rw[l]at b
   refine⟨-1,na,?_⟩;refine la TN (qa rfl) ?_;have t:Int.negSucc 0=-1:=rfl;exact va @bg
  ·rw[o]at b
   refine⟨j,na,?_⟩;refine la TN (qa rfl) ?_;exact va @bg
 ·have j:=rB u
  have l:=N_ (lib:=lib) x v d fa;simp only[hb,Ha,Ra]at j l;have t:∀i,(tc (L.drop (k+1))).length+1+1+1+1>=4:=fun _=>by omega
  have o:(245=4611686018427387904)=False:=eq_false ha;by_cases h:x.name=a.name
  ·have n:=eq_true h
   simp only[n,decide_true]at l⊢;simp(maxSteps:=999999) (disch:=first|assumption|omega) only[go_sem,simprocAttr,au,vH,j,l,o,bg]
  ·have n:=eq_false h
   simp only[n,decide_false]at l⊢;exact Kb vH @bg
 ·exact va vH
def l0{bx}{r}{p e}{a}(L)(h:bx[p]?=some (e,hb a))(b:nf bx.length bx=true)(fa:∀q∈r,q.1<bx.length)(g:L.length<=1000000000):
 da code lib 244 [.ia L.length (tc L),.ib 245 [.ptr p 0]] bx (cl r)=some ([.flat (.bool (L.any (fun c=>decide (c.name=a.name))))],false,bx,cl r):=by
 obtain⟨i,d,j⟩:=P4 (lib:=lib) L h b fa g;refine la JZ (qa rfl) ?_;rw[d];exact sa
def xa(t:Tok):List PV:=[.flat (.int .u8 t.kind.toNat),.flat (.string (S t.name)),.flat (.string (S t.text)),.ia t.Jj.length (tc t.Jj),.flat (.int .i64 (t.fr:Nat)),.flat (.int .i64 (t.to:Nat))]
def wt{n}(t):Ia n (xa t)=true:=by
 grind [xa,Ia,PV.low,Jd]
def Db.sx{B}{n b e}{s}{r}(H:Db B n b e s r){m}(ys)(c:n+ys.length=m)(a:nf m ys=true)(r')(hr:∀q∈r',q∈r\/(n<=q.1/\q.1<m)):Db (fun j=>B j++ys) m b e s r' where
 len:=(H.app ys c a).len
 get:=(H.app ys c a).get
 set:=(H.app ys c a).set
 lt:=(H.app ys c a).lt
 low:=(H.app ys c a).low
 hs:=H.hs
 hr q hq:=by
  rcases hr q hq with h|h
  ·exact H.hr q h
  ·intro e;have:=H.lt;grind
 fa q hq:=by
  rcases hr q hq with h|h
  ·have:=H.fa q h;omega
  omega
def Db.lW{B}{n b e}{s}{r}(H:Db B n b e s r)(j i)(ys):nf (n+i) (B j++ys)=nf (n+i) ys:=by
 rw[NG,MC (Nat.le_add_right n i) _ (H.low j),od]
def BB{s}{k}{q}(i:k<=s.length)(h:tm s k=some q):k<q.2/\q.2<=s.length:=by
 unfold tm at h;split at h
 ·rename_i c
  rw[bc]at c;have b:=c.2;unfold Tb at b;rw[bc]at b;have a:=Zm b.2;rw[fc]at a;simp only[ua,Ca,decide_eq_true_eq]at a b;split at h
  ·cases h
  ·rename_i v e d
   have g:=ot aa d
   grind
 grind
def Yz{s}:∀a c,(a.2<=s.length/\a.1.length<=a.2)->Jf s a=.inl c->(c.2<=s.length/\c.1.length<=c.2)/\s.length - c.2<s.length - a.2:=by
 intro⟨l,k⟩ c ⟨b,d⟩ h;dsimp only at b d;have i:=Pu b;unfold Jf at h;dsimp only at h;split at h
 ·cases h
 ·split at h
  ·cases h
  ·rename_i a e g
   have:=BB i g
   grind
theorem S_{B}{n b e}{s}{r}(H:Db B n b e s r)(HPZ:sc lib)(HBZ:Sb lib)(w)(fr)(l)(k)(hkZ:k<=s.length)(hlZ:l.length<=k)(Z):
 match Jf s (l,k)with
 | .inl c=>ma (da code lib) ja Tr ⟨[(0,.ptr b 0),(4,.ptr n 0),(6,.ptr (n+1) 0)],cl ((n+1,3)::(n,3)::r),[],B k++[(190,xa Z),(190,xa ⟨111,w,[],l,fr,0⟩)]⟩=some (.normal,⟨[(0,.ptr b 0),(4,.ptr n 0),(6,.ptr (n+1) 0)],cl ((n+1,3)::(n,3)::r),[],B c.2++[(190,xa Z),(190,xa ⟨111,w,[],c.1,fr,0⟩)]⟩)
 | .inr (some c)=>∃ow ys,qc n ow=cl r/\ma (da code lib) ja Tr ⟨[(0,.ptr b 0),(4,.ptr n 0),(6,.ptr (n+1) 0)],cl ((n+1,3)::(n,3)::r),[],B k++[(190,xa Z),(190,xa ⟨111,w,[],l,fr,0⟩)]⟩=some (.ret,⟨[(4,.ptr n 0),(5,.flat (.bool true))],ow,[],B c.2++(190,xa ⟨111,w,[],c.1,fr,c.2⟩)::ys⟩)
 | .inr none=>∃t k' ow ys,k'<=s.length/\qc n ow=cl r/\ma (da code lib) ja Tr ⟨[(0,.ptr b 0),(4,.ptr n 0),(6,.ptr (n+1) 0)],cl ((n+1,3)::(n,3)::r),[],B k++[(190,xa Z),(190,xa ⟨111,w,[],l,fr,0⟩)]⟩=some (.ret,⟨[(4,.ptr n 0),(5,.flat (.bool false))],ow,[],B k'++(190,xa t)::ys⟩):=by
 have hs:=H.hs;have x:=Pu hkZ;have Y:=H.gx;have D:=H.dx;have y:=H.fx;have hr4:=H.lx;have F:=H.jx;have G:=H.kx;have I:=H.hx;have J:=H.nx;have K:=H.ox;have L:=H.len;have o:=H.low;have A:=H.Cu;have v:=H.iy;have M:=H.ww;have R:=H.JA;obtain⟨r2,i⟩:∃r2,r2=(n+1,3)::(n,3)::r:=⟨_,rfl⟩;obtain⟨r3,W⟩:∃r3,r3=(n+1,3)::r:=⟨_,rfl⟩;have P:Td (n+1) 5 1 (cl r2)=cl r2:=by
  rw[i];show Td (n+1) 5 1 (Loc.cell (n+1) 3::Loc.cell n 3::cl r)=Loc.cell (n+1) 3::Loc.cell n 3::cl r;rw[Pj,if_neg aa,Pj,if_neg aa,v]
 have z:Td n 0 6 (cl r2)=cl r3:=by
  rw[i,W];show Td n 0 6 (Loc.cell (n+1) 3::Loc.cell n 3::cl r)=Loc.cell (n+1) 3::cl r;rw[Pj,if_neg aa,Pj,if_pos aa,A]
 obtain⟨r4,E⟩:∃r4,r4=(n,3)::r:=⟨_,rfl⟩;have dz3:fe (Loc.cell (n+1) 3) (cl r2)=cl r4:=by
  rw[i,E];show fe _ (Loc.cell (n+1) 3::Loc.cell n 3::cl r)=Loc.cell n 3::cl r;rw[Gu,if_pos ⟨rfl,rfl⟩,Gu,if_neg aa,uq];intro q u e;have:=H.fa q u;rw[e]at this;dsimp only at this;omega
 have dz4:Td (n+1) 3 1 (cl r4)=cl r4:=by
  rw[E];show Td (n+1) 3 1 (Loc.cell n 3::cl r)=Loc.cell n 3::cl r;rw[Pj,if_neg aa,v]
 have ow1:owns (cl r2) (Loc.cell (n+1) 3)=true:=by
  rw[i];show owns (Loc.cell (n+1) 3::Loc.cell n 3::cl r) _=true;rw[eT];simp
 have hc4:Loc.cell (n+1) 3::cl r4=cl r2:=by rw[i,E];rfl
 have T:qc n (cl r3)=cl r:=by
  rw[W];show qc n (Loc.cell (n+1) 3::cl r)=cl r;rw[ol,if_neg aa,M]
 rw[<-i];have K2Z:Db (fun j=>B j++[(190,xa Z),(190,xa ⟨111,w,[],l,fr,0⟩)]) (n+2) b e s r2:=H.sx (m:=n+2) _ rfl (by simp only[ym,iu,wt,Dg]) r2 (by
  grind)
 have C:=K2Z.Cu;have hblt:=H.lt;have hlt2:=tN r2 K2Z.fa;have U:=K2Z.m4 (lib:=lib) hkZ;unfold Jf;dsimp only;obtain⟨g,hgZ⟩:∃g,wh s k=g:=⟨_,rfl⟩;rw[hgZ]at U x⊢;obtain⟨X,hk1⟩:∃X,k+g.length=X:=⟨_,rfl⟩;rw[hk1]at U x⊢;have O:=K2Z.take (lib:=lib) HPZ [62] x ha;have hbu:Tb s [62] X=([62]:ba).isPrefixOf (s.drop X):=by unfold Tb;simp only[x,decide_true,od]
 rw[hbu];have d:((UInt8.toNat 111:Nat):Int)=111:=rfl;simp only[xa,n0,d]at U O⊢;cases hpZ:([62]:ba).isPrefixOf (s.drop X)with
 |true=>
  rw[hpZ]at O;simp only[if_true,ua,Ca,ld]at O⊢;refine⟨cl r3,[(190,xa ⟨111,w,[],l,fr,X+1⟩)],T,?_⟩
  ·simp only[xa,d]
   simp(maxSteps:=999999) (disch:=first|assumption|omega) only[go_sem,simprocAttr,au,Fv,U,O,Y,D,y,F,G,I,J,K,L,o,A,v,M,R,P,z,C,rd]
 |false=>
  rw[hpZ]at O;simp only[La,if_false]at O⊢;have N:=EW K2Z HPZ HBZ (k:=X) x;cases hEZ:tm s X with
  |none=>
   rw[hEZ]at N;obtain⟨a,k',u,N⟩:=N;simp only[xa,n0,d,hb]at N⊢;refine⟨⟨111,w,[],l,fr,0⟩,k',cl r3,[(190,xa ⟨111,w,[],l,fr,0⟩),(282,hb a)],u,T,?_⟩;simp only[xa,n0,d,hb];simp(maxSteps:=999999) (disch:=first|assumption|omega) only[go_sem,simprocAttr,au,Fv,U,O,N,D,y,F,G,I,J,K,L,o,A,v,M,R,P,z,C,rd]
  |some q=>
   obtain⟨a,p⟩:=q;rw[hEZ]at N;have hel:=BB x hEZ;have K3Z:Db (fun j=>B j++[(190,xa Z),(190,xa ⟨111,w,[],l,fr,0⟩),(282,hb a)]) (n+3) b e s r2:=H.sx (m:=n+3) _ rfl (by simp only[ym,iu,wt,nW,Dg]) r2 (by
    grind)
   have hCZ:=l0 (lib:=lib) (a:=a) (p:=n+2) (e:=282) l (y p 2 [(190,xa Z),(190,xa ⟨111,w,[],l,fr,0⟩),(282,hb a)]) (by rw[K3Z.len];exact K3Z.low p) (by rw[K3Z.len];exact K3Z.fa) aa;simp only[xa,n0,d,hb]at N hCZ⊢;by_cases Q:g.length=0
   ·have u:=eq_true (qz Q)
    simp only[Q,true_or,if_true];refine⟨⟨111,w,[],l,fr,0⟩,p,cl r3,[(190,xa ⟨111,w,[],l,fr,0⟩),(282,hb a)],hel.2,T,?_⟩;simp only[xa,n0,d,hb];have hzZ:(⟨#[]⟩:ByteArray)=S []:=rfl;simp(maxSteps:=999999) (disch:=first|assumption|omega) only[go_sem,simprocAttr,au,Fv,U,O,N,u,hzZ,D,y,hr4,F,G,I,J,K,L,o,A,v,M,R,P,z,C,rd]
   ·have u:(g=[])=False:=eq_false fun h=>Q (by rw[h];rfl)
    simp only[Q,false_or];have hzZ:(⟨#[]⟩:ByteArray)=S []:=rfl;cases V:l.any (fun c=>decide (c.name=a.name))with
    |true=>
     rw[V]at hCZ;simp only[if_true];refine⟨⟨111,w,[],l,fr,0⟩,p,cl r3,[(190,xa ⟨111,w,[],l,fr,0⟩),(282,hb a)],hel.2,T,?_⟩;simp only[xa,n0,d,hb];simp(maxSteps:=999999) (disch:=first|assumption|omega) only[go_sem,simprocAttr,au,Fv,U,O,N,hCZ,u,hzZ,Y,D,y,hr4,F,G,I,J,K,L,o,A,v,M,R,P,z,C,rd]
    |false=>
     rw[V]at hCZ;simp only[La,if_false];have hl2:=H.lW;have hac:tc l++[PV.flat (.string (S a.name)),.flat (.string (S a.val)),.flat (.int .i64 (a.fr:Nat)),.flat (.int .i64 (a.to:Nat))]=tc (l++[a]):=by rw[<-rJ];rfl
     have hbd:l.length+1<=za:=He
     simp(maxSteps:=999999) (disch:=first|assumption|omega) only[go_sem,simprocAttr,au,Fv,U,O,N,hCZ,u,hzZ,Y,D,y,hr4,F,G,I,J,K,L,o,hl2,z,C,bg,Jd,hbd,dz3,dz4,ow1,hc4,hac,hlt2,Ba]
def Z0:Tok:=⟨0,[],[],[],0,0⟩
theorem Q_{B}{n b e}{s}{r}(H:Db B n b e s r)(HPZ:sc lib)(HBZ:Sb lib)(fr k)(hkZ:k<=s.length):
 match(if sg.contains (Bb s k)then fk s (k+(Bb s k).length)else none)with
 |some (l,p)=>da code lib 183 [.ptr b 0,.flat (.int .i64 (fr:Nat))] (B k) (cl r)=some ([.agg (xa ⟨111,Bb s k,[],l,fr,p⟩),.flat (.bool true)],false,B p,cl r)/\p<=s.length
 |none=>∃t k',k'<=s.length/\da code lib 183 [.ptr b 0,.flat (.int .i64 (fr:Nat))] (B k) (cl r)=some ([.agg (xa t),.flat (.bool false)],false,B k',cl r):=by
 have h0Z:=H.hs;have h1Z:=rn hkZ;have M:=H.gx;have N:=H.dx;have O:=H.fx;have P:=H.lx;have Q:=H.jx;have R:=H.kx;have F:=H.hx;have T:=H.nx;have U:=H.ox;have V:=H.len;have z:=H.low;have D:=H.Cu;have K:=H.iy;have A:=H.ww;have W:=H.JA;have hblt:=H.lt;have hzZ:(⟨#[]⟩:ByteArray)=S []:=rfl;have x:((UInt8.toNat 111:Nat):Int)=111:=rfl;have ez0:xa Z0=[.flat (.int .u8 0),.flat (.string (S [])),.flat (.string (S [])),.ia 0 [],.flat (.int .i64 0),.flat (.int .i64 0)]:=rfl;obtain⟨r2,i⟩:∃r2,r2=(n+1,3)::(n,3)::r:=⟨_,rfl⟩;obtain⟨r4,d⟩:∃r4,r4=(n,3)::r:=⟨_,rfl⟩;have y:Loc.cell n 3::cl r=cl r4:=by rw[d];rfl
 have u:Loc.cell (n+1) 3::cl r4=cl r2:=by rw[i,d];rfl
 have G:qc n (cl r4)=cl r:=by
  rw[d];show qc n (Loc.cell n 3::cl r)=cl r;rw[ol,if_neg aa,A]
 have X:qc n (cl r2)=cl r:=by
  rw[<-u,ol,if_neg aa,G]
 have I:Td (n+1) 0 6 (cl r2)=cl r4:=by
  rw[<-u,Pj,if_pos aa];exact Tx r4 (by
   rw[d];intro q g;rcases wb.1 g with rfl|g
   ·omega
   ·have:=H.fa q g;omega)
 have J:Td n 0 6 (cl r2)=Loc.cell (n+1) 3::cl r:=by
  rw[<-u,Pj,if_neg aa,d];show _::Td n 0 6 (Loc.cell n 3::cl r)=_;rw[Pj,if_pos aa,D]
 have C:qc (n+2) (cl r2)=cl r2:=ub r2 (by
  rw[i];intro q g;rcases wb.1 g with rfl|g
  ·omega
  rcases wb.1 g with rfl|g
  ·omega
  ·have:=H.fa q g;omega)
 have Y:qc n (Loc.cell (n+1) 3::cl r)=cl r:=by rw[ol,if_neg aa,A]
 have K1Z:Db (fun j=>B j++[(190,xa Z0)]) (n+1) b e s r4:=H.sx (m:=n+1) _ rfl (by simp only[ym,iu,wt,Dg]) r4 (by
  grind)
 have Z:=K1Z.word (lib:=lib) hkZ;have v:=PO (lib:=lib) (Bb s k);obtain⟨w,hwd⟩:∃w,Bb s k=w:=⟨_,rfl⟩;rw[hwd]at Z v h1Z⊢;obtain⟨k1Z,hk1⟩:∃k1Z,k+w.length=k1Z:=⟨_,rfl⟩;rw[hk1]at Z h1Z⊢;cases hcZ:sg.contains w with
 |false=>
  rw[hcZ]at v;simp only[La,if_false];refine⟨⟨111,w,[],[],fr,0⟩,k1Z,h1Z,?_⟩;simp only[ez0]at Z;simp only[xa,x,n0,tc,Vg,Ca];refine la mD (qa rfl) ?_;simp(maxSteps:=999999) (disch:=first|assumption|omega) only[go_sem,simprocAttr,au,hzZ,Z,v,y,u,M,N,O,P,Q,R,F,T,U,V,z,D,K,A,W,X,G,Y,I,J,rd]
 |true=>
  rw[hcZ]at v;simp only[if_true]
  have hrel:=Il (body:=ma (da code lib) ja Tr) (live:=[0,4,6]) (nb:=n+2)
   (fun(_:Unit)(q:List Vi×Nat)=>(⟨[(0,.ptr b 0),(4,.ptr n 0),(6,.ptr (n+1) 0)],cl ((n+1,3)::(n,3)::r),[],B q.2++[(190,xa Z0),(190,xa ⟨111,w,[],q.1,fr,0⟩)]⟩:St))
   (Jf s) none (fun a o st=>match a with
     |some c=>c.2<=s.length/\o=.ret/\∃ow ys,qc n ow=cl r/\st=⟨[(4,.ptr n 0),(5,.flat (.bool true))],ow,[],B c.2++(190,xa ⟨111,w,[],c.1,fr,c.2⟩)::ys⟩
     |none=>o=.ret/\∃t k' ow ys,k'<=s.length/\qc n ow=cl r/\st=⟨[(4,.ptr n 0),(5,.flat (.bool false))],ow,[],B k'++(190,xa t)::ys⟩)
   (fun a=>a.2<=s.length/\a.1.length<=a.2) (fun a=>s.length - a.2) (fun _ ⟨l,j⟩ hiZ=>?_) (fun _ ⟨l,j⟩ hiZ=>?_) (fun a c hiZ h=>Yz a c hiZ h) (n:=s.length+1) (m:=ja) () ([],k1Z) ⟨h1Z,Cb _⟩ aa (by grind [ja])
  ·obtain⟨o,st,L,g⟩:=hrel
   have E:Mb (Jf s) none (s.length+1) ([],k1Z)=fk s k1Z:=rfl;rw[E]at g;rw[<-i]at L;simp only[ez0]at Z L;simp only[xa,x,n0,tc,Vg,Ca]at L;cases hEZ:fk s k1Z with
   |some c=>
    rw[hEZ]at g;obtain⟨hc2,rfl,ow,ys,huZ,rfl⟩:=g;dsimp only;refine⟨?_,hc2⟩;refine la mD (qa rfl) ?_;simp only[xa,x]at L⊢;simp(maxSteps:=999999) (disch:=first|assumption|omega) only[go_sem,simprocAttr,au,hzZ,Z,v,L,huZ,C,y,u,M,N,O,P,Q,R,F,T,U,V,z,D,K,A,W,X,G,Y,I,J,rd,Jd]
   |none=>
    rw[hEZ]at g;obtain⟨rfl,t,k',ow,ys,hk',huZ,rfl⟩:=g;dsimp only;refine⟨t,k',hk',?_⟩;refine la mD (qa rfl) ?_;simp only[xa]at L⊢;simp(maxSteps:=999999) (disch:=first|assumption|omega) only[go_sem,simprocAttr,au,hzZ,Z,v,L,huZ,C,y,u,M,N,O,P,Q,R,F,T,U,V,z,D,K,A,W,X,G,Y,I,J,rd,Jd]
  ·have:=S_ H HPZ HBZ w fr l j hiZ.1 hiZ.2 Z0
   cases E:Jf s (l,j)with
   |inl c=>rw[E]at this;exact⟨(),this⟩
   |inr c=>
    rw[E]at this;cases c with
    |none=>
     obtain⟨t,k',ow,ys,L,h3Z,h4Z⟩:=this;exact⟨_,_,h4Z,ea,rfl,t,k',ow,ys,L,h3Z,rfl⟩
    |some c=>
     obtain⟨ow,ys,L,h3Z⟩:=this;refine⟨_,_,h3Z,ea,?_,rfl,ow,ys,L,rfl⟩
     grind [Jf,Tb]
  ·rw[<-i]
   simp(maxSteps:=999999) (disch:=first|assumption|omega) only[go_sem,simprocAttr,au,F,C]
def rr{s w:ba}{k}(a:k<=s.length)(h:w.isPrefixOf (s.drop k)=true):k+w.length<=s.length:=by
 grind
theorem X9{B}{n b e}{s}{r}(H:Db B n b e s r)(HPZ:sc lib)(HBZ:Sb lib)(k)(hkZ:k<=s.length):
 match oj s k with
 |some t=>da code lib 112 [.ptr b 0] (B k) (cl r)=some ([.agg (xa t),.flat (.bool true)],false,B t.to,cl r)/\t.to<=s.length
 |none=>∃t k',k'<=s.length/\da code lib 112 [.ptr b 0] (B k) (cl r)=some ([.agg (xa t),.flat (.bool false)],false,B k',cl r):=by
 have h0Z:=H.hs;have z:=H.gx;have A:=H.dx;have M:=H.fx;have N:=H.lx;have C:=H.jx;have D:=H.kx;have E:=H.hx;have F:=H.nx;have G:=H.ox;have I:=H.len;have c:=H.low;have h:=H.Cu;have y:=H.iy;have o:=H.ww;have J:=H.JA;have hblt:=H.lt;have W:(⟨#[]⟩:ByteArray)=S []:=rfl;have e111:((UInt8.toNat 111:Nat):Int)=111:=rfl;have T:((UInt8.toNat 99:Nat):Int)=99:=rfl;have V:((UInt8.toNat 116:Nat):Int)=116:=rfl;have e60:((UInt8.toNat 60:Nat):Int)=60:=rfl;have e62:((UInt8.toNat 62:Nat):Int)=62:=rfl;have P:xa Z0=[.flat (.int .u8 0),.flat (.string (S [])),.flat (.string (S [])),.ia 0 [],.flat (.int .i64 0),.flat (.int .i64 0)]:=rfl;obtain⟨r4,hr4'⟩:∃r4,r4=(n,3)::r:=⟨_,rfl⟩;have a:Loc.cell n 3::cl r=cl r4:=by rw[hr4'];rfl
 have K:qc n (cl r4)=cl r:=by rw[<-a,ol,if_neg aa,o]
 have u:Td n 0 6 (cl r4)=cl r:=by rw[<-a,Pj,if_pos aa,h]
 have K1Z:Db (fun j=>B j++[(190,xa Z0)]) (n+1) b e s r4:=H.sx (m:=n+1) _ rfl (by simp only[ym,iu,wt,Dg]) r4 (by
  grind)
 have d:=K1Z.ww;have kh:∀(w:ba)(k:Nat),k<=s.length->w.length<=1000000000->da code lib 178 [.ptr b 0,.flat (.string (S w))] (B k++[(190,xa Z0)]) (cl r4)=some ([.flat (.bool (Tb s w k))],false,B (if Tb s w k then k+w.length else k)++[(190,xa Z0)],cl r4):=fun w k h1Z Q=>by
  rw[bj h1Z];exact K1Z.take HPZ w h1Z Q
 have L:∀{w:ba}{k:Nat},k<=s.length->Tb s w k=true->k+w.length<=s.length:=fun h1Z Q=>rr h1Z (by grind [bj])
 have g:=kh [60,47] k hkZ ha;have v:=kh [60] k hkZ ha;unfold oj;simp only[P]at g v kh;cases Y:Tb s [60,47] k with
 |true=>
  have Q:=L hkZ Y;simp only[Y,if_true,ua,Ca,ld,Nat.reduceAdd]at g Q⊢;obtain⟨k2Z,hk2⟩:∃k2Z,k+2=k2Z:=⟨_,rfl⟩;rw[hk2]at g Q⊢;have hwZ:=K1Z.word (lib:=lib) Q;have X:=rn Q;have i:=PO (lib:=lib) (Bb s k2Z);have O:=zfw (lib:=lib) (Bb s k2Z);obtain⟨w,hwd⟩:∃w,Bb s k2Z=w:=⟨_,rfl⟩;rw[hwd]at hwZ i O X⊢;obtain⟨R,hk3⟩:∃R,k2Z+w.length=R:=⟨_,rfl⟩;rw[hk3]at hwZ X⊢;have U:=kh [62] R X ha;simp only[P]at hwZ;cases hc1:sg.contains w with
  |false=>
   rw[hc1]at i;simp only[De,La,if_false];refine⟨⟨99,w,[],[],k,R⟩,R,X,?_⟩;simp only[xa,T,tc,Vg,Ca];refine la Vo (qa rfl) ?_;simp(maxSteps:=999999) (disch:=first|assumption|omega) only[go_sem,simprocAttr,au,W,g,hwZ,i,a,z,A,C,D,E,F,G,I,c,h,y,o,J,K,u,d,rd]
  |true=>
   rw[hc1]at i;cases hc2:Qi w with
   |true=>
    rw[hc2]at O;simp only[am,De,Zh,La,if_false];refine⟨⟨99,w,[],[],k,R⟩,R,X,?_⟩;simp only[xa,T,tc,Vg,Ca];refine la Vo (qa rfl) ?_;simp(maxSteps:=999999) (disch:=first|assumption|omega) only[go_sem,simprocAttr,au,W,g,hwZ,i,O,a,z,A,C,D,E,F,G,I,c,h,y,o,J,K,u,d,rd]
   |false=>
    rw[hc2]at O;cases Z:Tb s [62] R with
    |false=>
     simp only[Z,La,if_false]at U;simp only[gn,Zh,La,if_false];refine⟨⟨99,w,[],[],k,R⟩,R,X,?_⟩;simp only[xa,T,tc,Vg,Ca];refine la Vo (qa rfl) ?_;simp(maxSteps:=999999) (disch:=first|assumption|omega) only[go_sem,simprocAttr,au,W,g,hwZ,i,O,U,a,z,A,M,N,C,D,E,F,G,I,c,h,y,o,J,K,u,d,rd]
    |true=>
     have h4Z:=L X Z;simp only[Z,if_true,ua,Ca,ld]at U h4Z;simp only[gn,Dg,if_true];refine⟨?_,h4Z⟩;simp only[xa,T,tc,Vg,Ca];refine la Vo (qa rfl) ?_;simp(maxSteps:=999999) (disch:=first|assumption|omega) only[go_sem,simprocAttr,au,W,g,hwZ,i,O,U,a,z,A,M,N,C,D,E,F,G,I,c,h,y,o,J,K,u,d,rd]
 |false=>
  simp only[Y,La,if_false]at g⊢;cases Z:Tb s [60] k with
  |true=>
   have Q:=L hkZ Z;simp only[Z,if_true,ua,Ca,ld]at v Q⊢;have O:=Q_ (lib:=lib) K1Z HPZ HBZ k (k+1) Q;obtain⟨R,hk1⟩:∃R,k+1=R:=⟨_,rfl⟩;rw[hk1]at v Q O⊢;obtain⟨x,hxZ⟩:∃x,(if sg.contains (Bb s R)then fk s (R+(Bb s R).length)else none)=x:=⟨_,rfl⟩;have U:(if sg.contains (Bb s R)then(fk s (R+(Bb s R).length)).map (fun q=>(⟨111,Bb s R,[],q.1,k,q.2⟩:Tok))else none)=x.map (fun q=>(⟨111,Bb s R,[],q.1,k,q.2⟩:Tok)):=by
    rw[<-hxZ];split<;>rfl
   rw[U];rw[hxZ]at O;cases x with
   |none=>
    obtain⟨t,k',X,O⟩:=O;simp only[Ti];refine⟨t,k',X,?_⟩;simp only[P]at O;simp only[xa]at O⊢;refine la Vo (qa rfl) ?_;simp(maxSteps:=999999) (disch:=first|assumption|omega) only[go_sem,simprocAttr,au,W,g,v,O,a,z,A,M,N,C,D,E,F,G,I,c,h,y,o,J,K,u,d,rd,Jd]
   |some q=>
    obtain⟨l,p⟩:=q;obtain⟨O,hpZ⟩:=O;simp only[fd];refine⟨?_,hpZ⟩;simp only[P]at O;simp only[xa,e111]at O⊢;refine la Vo (qa rfl) ?_;simp(maxSteps:=999999) (disch:=first|assumption|omega) only[go_sem,simprocAttr,au,W,g,v,O,a,z,A,M,N,C,D,E,F,G,I,c,h,y,o,J,K,u,d,rd,Jd]
  |false=>
   simp only[Z,La,if_false]at v⊢;have O:=K1Z.kU (lib:=lib) (en:=60) (bd:=62) HPZ HBZ hkZ;simp only[P,e60,e62]at O;cases R:Ji s 60 62 k with
   |none=>
    rw[R]at O;obtain⟨k',X,O⟩:=O;simp only[Ti];refine⟨⟨116,[],[],[],k,k'⟩,k',X,?_⟩;simp only[xa,V,tc,Vg,Ca];refine la Vo (qa rfl) ?_;simp(maxSteps:=999999) (disch:=first|assumption|omega) only[go_sem,simprocAttr,au,W,g,v,O,a,z,A,M,N,C,D,E,F,G,I,c,h,y,o,J,K,u,d,rd,Jd]
   |some q=>
    obtain⟨x,p⟩:=q;have i:=ot hkZ R;rw[R]at O;simp only[fd];refine⟨?_,i.2.1⟩;simp only[xa,V,tc,Vg,Ca];refine la Vo (qa rfl) ?_;simp(maxSteps:=999999) (disch:=first|assumption|omega) only[go_sem,simprocAttr,au,W,g,v,O,a,z,A,M,N,C,D,E,F,G,I,c,h,y,o,J,K,u,d,rd,Jd]
def uc(l:List Tok):List PV:=l.flatMap xa
theorem Wf:∀l,(uc l).length=l.length* 6
 |[]=>rfl
 |a::l=>by
  show(xa a++uc l).length=_;rw[Ba,Wf l,ua];show 6+_=_;omega
theorem dn{n}:∀l,Ia n (uc l)=true
 |[]=>rfl
 |a::l=>by show Ia n (xa a++uc l)=true;rw[Az,dn l,wt];rfl
theorem nw:∀l,Ib (uc l)=true
 |[]=>rfl
 |a::l=>by
  show Ib (xa a++uc l)=true;simp only[xa,Ha,Ra,Ib,PV.pj,pm,nw l,od]
def jV{a b}:uc a++uc b=uc (a++b):=by simp[uc]
def U9{s}{k}{t}(n:k<s.length)(h:oj s k=some t):k<t.to:=by
 unfold oj at h;split at h
 ·grind
 ·split at h
  ·split at h
   ·obtain⟨q,b,rfl⟩:=qm h
    dsimp only;have e:k+1<=s.length:=aa
    have i:=rn e;have:=kk (step:=Jf s) (d:=none) (I:=fun a=>(a.2<=s.length/\a.1.length<=a.2)/\k<a.2) (μ:=fun a=>s.length - a.2) (Q:=fun r=>∀q,r=some q->k<q.2) (fun a g=>by
     cases hs:Jf s a with
     |inl c=>
      obtain⟨j,l⟩:=Yz a c g.1 hs;omega
     |inr r=>
      grind [Jf]) (s.length+1) ([],k+1+(Bb s (k+1)).length) ⟨⟨i,ea⟩,aa⟩ aa
    exact this q b
   grind
  ·rename_i e
   obtain⟨q,b,rfl⟩:=qm h;have g:=ot aa b
   grind [bj,IH]
def FA{s}(e:∀k t,k<=s.length->oj s k=some t->t.to<=s.length):∀a c,(a.2<=s.length/\a.1.length<=a.2)->ni s a=.inl c->(c.2<=s.length/\c.1.length<=c.2)/\s.length - c.2<s.length - a.2:=by
 intro⟨l,k⟩ c ⟨b,d⟩ h;dsimp only at b d;unfold ni at h;dsimp only at h;split at h
 ·cases h
 ·rename_i fa
  split at h
  ·cases h
  ·rename_i t ht
   have g:=U9 aa ht
   grind
def zcr{s}{en bd}{k}{q}(a:k<=s.length)(h:Ji s en bd k=some q):q.2<=s.length:=(ot a h).2.1
def O_{s}{k}{q}(g:k<=s.length)(h:fk s k=some q):q.2<=s.length:=by
 have:=kk (step:=Jf s) (d:=none) (I:=fun a=>a.2<=s.length/\a.1.length<=a.2\/(a.1=[]/\a.2<=s.length)) (μ:=fun a=>s.length - a.2) (Q:=fun r=>∀q,r=some q->q.2<=s.length) (fun a e=>by
  have b:a.2<=s.length/\a.1.length<=a.2:=by
   rcases e with h|⟨h,i⟩
   ·exact h
   ·grind
  cases hs:Jf s a with
  |inl c=>
   obtain⟨i,j⟩:=Yz a c b hs;omega
  |inr r=>
   intro q i;subst i;have j:=Pu b.1
   grind [Jf,bj]) (s.length+1) ([],k) (.inr ⟨rfl,g⟩) aa
 exact this q h
def Fz{s}{k}{t}(b:k<=s.length)(h:oj s k=some t):t.to<=s.length:=by
 unfold oj at h;split at h
 ·rename_i d
  have a:=rr b (by rw[<-bj b];exact d);simp only[ua,Ca]at a;split at h
  ·rename_i c
   simp only[bc]at c;have e:=rn a
   grind [bj]
  grind
 ·split at h
  ·rename_i d
   have a:=rr b (by rw[<-bj b];exact d);simp only[ua,Ca]at a;split at h
   ·obtain⟨q,c,rfl⟩:=qm h
    exact O_ (rn a) c
   grind
  ·obtain⟨q,c,rfl⟩:=qm h
   exact zcr b c
def Br(s:ba)(j:Nat):Oa:=[(187,rd s j)]
def zbM{s}(hs:s.length<=100000000):Db (Br s) 1 0 187 s [] where
 len _:=rfl
 get _:=rfl
 set _ _:=rfl
 lt:=aa
 low _:=rfl
 hs:=hs
 hr q h:=by cases h
 fa q h:=by cases h
theorem qV(u:sc lib)(r:Sb lib)(s)(hs:s.length<=100000000):
 da code lib 56 [.flat (.string (S s))] [] []=match Ni s with
 |some l=>some ([.ia l.length (uc l),.flat (.int .i64 0)],false,[],[])
 |none=>some ([.ia 0 [],.flat (.int .i64 7)],false,[],[]):=by
 have x:(⟨#[]⟩:ByteArray)=S []:=rfl;have H:=zbM hs;have g:=OQ (lib:=lib) s (by grind [Sm])
 have hrel:=Il (body:=ma (da code lib) ja uC) (live:=[4,5]) (nb:=1) (fun(_:Unit)(q:List Tok×Nat)=>(⟨[(4,.ptr 0 0),(5,.ia q.1.length (uc q.1))],[.slot 5],[],Br s q.2⟩:St))
  (ni s) none (fun q o st=>match q with
    |some l=>o=.exit 0/\∃k',st=⟨[(5,.ia l.length (uc l))],[.slot 5],[],Br s k'⟩
    |none=>o=.ret/\∃y z,st=⟨[(2,.ia 0 []),(3,.flat (.int .i64 7))],[.slot 2],[],[y,z]⟩) (fun q=>q.2<=s.length/\q.1.length<=q.2) (fun q=>s.length - q.2) (fun _ ⟨l,j⟩ i=>?_) (fun _ ⟨l,j⟩ i=>?_) (fun a c b h=>FA (fun k t=>Fz) a c b h) (n:=s.length+1) (m:=ja) () ([],0) ⟨Cb _,Aa _⟩ aa (by grind [ja])
 ·unfold Ni
  cases p:Sh s with
  |false=>
   rw[p]at g;simp only[La,if_false];refine la lD (qa rfl) ?_;exact sa
  |true=>
   rw[p]at g;simp only[if_true];obtain⟨o,st,d,b⟩:=hrel;simp only[Br,rd,uc,Vg,Ca,n0]at d;cases e:Mb (ni s) none (s.length+1) ([],0)with
   |some l=>
    rw[e]at b;obtain⟨rfl,k',rfl⟩:=b;refine la lD (qa rfl) ?_;simp only[Br,rd]at d;exact va @dn
   |none=>
    rw[e]at b;obtain⟨rfl,y,z,rfl⟩:=b;refine la lD (qa rfl) ?_;exact va @dn
 ·dsimp only at i⊢
  have b:=H.done (lib:=lib) j;unfold ni;dsimp only;by_cases fa:s.length<=j
  ·have d:=eq_true fa
   simp only[fa,decide_true,if_true]at b⊢;refine⟨.exit 0,⟨[(5,.ia l.length (uc l))],[.slot 5],[],Br s j⟩,?_,ea,rfl,j,rfl⟩;simp only[Br,rd,Am]at b⊢;exact va xH
  ·simp only[fa,decide_false,if_false]at b⊢
   have d:=X9 (lib:=lib) H u r j i.1;cases e:oj s j with
   |none=>
    rw[e]at d;obtain⟨t,k',p,d⟩:=d;refine⟨.ret,⟨[(2,.ia 0 []),(3,.flat (.int .i64 7))],[.slot 2],[],[(187,rd s k'),(190,xa t)]⟩,?_,ea,rfl,_,_,rfl⟩;simp only[Br,rd,Am,xa]at b d⊢;exact va xH
   |some t=>
    rw[e]at d;obtain⟨d,w⟩:=d;refine⟨(),?_⟩;simp only[Br,rd,Am,xa]at b d⊢;have v:l.length+1<=za:=He
    have p:uc l++[.flat (.int .u8 t.kind.toNat),.flat (.string (S t.name)),.flat (.string (S t.text)),.ia t.Jj.length (tc t.Jj),.flat (.int .i64 (t.fr:Nat)),.flat (.int .i64 (t.to:Nat))]=uc (l++[t]):=by rw[<-jV];rfl
    exact Sj xH @Wf @Jd @dn @Ba.{0}
 ·simp(maxSteps:=999999) (disch:=first|assumption|omega) only[go_sem,simprocAttr,au,Br]
def i1(c:UInt8)(base:Nat)(k:base<=16):da code lib 292 [.flat (.int .u8 c.toNat),.flat (.int .i64 (base:Nat))] [] []=some ([.flat (.int .i64 (if ud c.toNat<base then(ud c.toNat:Int)else-1))],false,[],[]):=by
 refine la hZ (qa rfl) ?_;have h:Int.negSucc 0=-1:=rfl;have i:=c.toNat_lt;obtain⟨n,j⟩:∃n,c.toNat=n:=⟨_,rfl⟩;rw[j]at i⊢;rcases pb (48<=n/\n<=57)with b|b
 ·have a:ud n=n - 48:=by unfold ud;rw[if_pos b]
  rw[a];by_cases fa:n - 48<base
  ·rw[if_pos fa]
   have e:((n - 48:Nat):Int)=(n:Int) - 48:=aa
   rw[e];exact sa
  ·rw[if_neg fa]
   exact sa
 rcases pb (65<=n/\n<=70)with d|d
 ·have a:ud n=n - 55:=by unfold ud;rw[if_neg b,if_pos d]
  rw[a];by_cases fa:n - 55<base
  ·rw[if_pos fa]
   have e:((n - 55:Nat):Int)=(n:Int) - 65+10:=aa
   rw[e];exact sa
  ·rw[if_neg fa]
   exact sa
 rcases pb (97<=n/\n<=102)with g|g
 ·have a:ud n=n - 87:=by unfold ud;rw[if_neg b,if_neg d,if_pos g]
  rw[a];by_cases fa:n - 87<base
  ·rw[if_pos fa]
   have e:((n - 87:Nat):Int)=(n:Int) - 97+10:=aa
   rw[e];exact sa
  ·rw[if_neg fa]
   exact sa
 ·have a:ud n=99:=by unfold ud;rw[if_neg b,if_neg d,if_neg g]
  rw[a,if_neg aa];simp(maxSteps:=999999) (disch:=first|assumption|omega) only[go_sem,simprocAttr,au,h]
  repeat' (split<;>simp(maxSteps:=999999) (disch:=first|assumption|omega) only[go_sem,simprocAttr,au,h])
def Ch(s:ba)(base most:Nat)(q:Nat×Nat):(Nat×Nat) ⊕ Option (Option (Nat×Nat)):=match s[q.2]? with
 |none=>.inr none
 |some c=>if most<q.2 then .inr none else if c.toNat=59/\0<q.2 then .inr (some (some (q.1,q.2+1)))else if ud c.toNat<base then .inl (q.1* base+ud c.toNat,q.2+1)else .inr (some none)
def Nl(base most:Nat)(s:ba):Option (Nat×Nat):=if 0<(xd base most 0 s).2/\s[(xd base most 0 s).2]?=some 59 then some ((xd base most 0 s).1,(xd base most 0 s).2+1)else none
theorem sS(s)(base most)(o:base<=16):∀(f n i),s.length - i<f->i<=most+1->(Mb (Ch s base most) none f (n,i)).join=if i<=most then(if 0<i+(xd base (most - i) n (s.drop i)).2/\s[i+(xd base (most - i) n (s.drop i)).2]?=some 59 then some ((xd base (most - i) n (s.drop i)).1,i+(xd base (most - i) n (s.drop i)).2+1)else none)else none
 |0,n,i,h,_=>by omega
 |f+1,n,i,h,q=>by
  by_cases l:i<s.length
  ·have g:=Pd l
   have d:=qe l;by_cases e:i<=most
   ·rw[if_pos e]
    have k:¬most<i:=aa
    by_cases b:s[i].toNat=59
    ·have j:¬ud s[i].toNat<base:=by rw[b];have:ud 59=99:=rfl;omega
     have a:xd base (most - i) n (s.drop i)=(n,0):=by
      rw[g];cases most - i with
      |zero=>rfl
      |succ m=>grind [xd]
     have c:s[i]=59:=Xb.1 b;rw[a];simp only[pi,d,c];by_cases p:0<i
     ·rw[ad (show Ch s base most (n,i)=.inr (some (some (n,i+1))) by grind [Ch])]
      grind
     ·rw[ad (show Ch s base most (n,i)=.inr (some none) by unfold Ch;rw[d];grind)]
      grind
    ·by_cases j:ud s[i].toNat<base
     ·rw[ef (show Ch s base most (n,i)=.inl (n* base+ud s[i].toNat,i+1) by grind [Ch]),sS s base most o f _ _ aa aa]
      by_cases c:i=most
      ·subst c
       rw[if_neg aa,Nat.sub_self];simp only[xd,pi,d,Wb];rw[if_neg (fun h=>b bh)]
      ·rw[if_pos aa,g]
       obtain⟨m,p⟩:∃m,most - i=m+1:=⟨most - i - 1,aa⟩
       grind [xd]
     ·rw[ad (show Ch s base most (n,i)=.inr (some none) by grind [Ch])]
      have a:xd base (most - i) n (s.drop i)=(n,0):=by
       rw[g];cases most - i with
       |zero=>rfl
       |succ m=>grind [xd]
      rw[a];simp only[pi,d,Wb,Option.join_some];rw[if_neg (fun h=>b bh)]
   ·rw[if_neg e,ad (show Ch s base most (n,i)=.inr none by grind [Ch])]
    rfl
  ·have d:s[i]?=none:=Qf aa
   rw[ad (show Ch s base most (n,i)=.inr none by grind [Ch]),Ej aa]
   grind
theorem q_(s)(base most:Nat)(hs:s.length<=1000000000)(z:base=16\/base=10)(A:most<=7):da code lib 286 [.flat (.string (S s)),.flat (.int .i64 (base:Nat)),.flat (.int .i64 (most:Nat))] [] []=
 some ([.flat (.int .i64 (((Nl base most s).map (·.1)).getD 0:Nat)),.flat (.int .i64 (((Nl base most s).map (·.2)).getD 0:Nat))],false,[],[]):=by
 have b:=Ls (body:=ma (da code lib) ja TB) (live:=[0,1,2,8,9]) (nb:=0) (fun q:Nat×Nat=>(⟨[(0,.flat (.string (S s))),(1,.flat (.int .i64 (base:Nat))),(2,.flat (.int .i64 (most:Nat))),(8,.flat (.int .i64 (q.1:Nat))),(9,.flat (.int .i64 (q.2:Nat)))],[],[],[]⟩:St))
  (Ch s base most) none (fun q=>match q with
    |none=>(.exit 0,⟨[],[],[],[]⟩)
    |some none=>(.ret,⟨[(6,.flat (.int .i64 0)),(7,.flat (.int .i64 0))],[],[],[]⟩)
    |some (some x)=>(.ret,⟨[(6,.flat (.int .i64 (x.1:Nat))),(7,.flat (.int .i64 (x.2:Nat)))],[],[],[]⟩)) (fun q=>q.2<=s.length/\q.2<=most+1/\q.1+1<=16^q.2) (fun q=>s.length - q.2) (fun⟨n,i⟩ p=>?_) (fun⟨n,i⟩ p=>?_) (fun⟨n,i⟩ c p h=>?_) (fun q=>by grind) (n:=s.length+1) (0,0) ⟨Cb _,aa,ea⟩ aa (by grind [ja])
 ·have a:=sS s base most aa (s.length+1) 0 0 aa aa
  rw[if_pos (Cb _)]at a;simp only[ld,Nat.sub_zero,yf]at a;have d:(Mb (Ch s base most) none (s.length+1) (0,0)).join=Nl base most s:=a;rw[<-d];obtain⟨x,e⟩:∃x,Mb (Ch s base most) none (s.length+1) (0,0)=x:=⟨_,rfl⟩;rw[e]at b⊢;refine la iZ (qa rfl) ?_;simp only[n0]at b;rcases x with _|_|x
  ·simp only[Option.join_none,Ti,Option.getD_none,n0]
   exact sa
  ·simp only[Option.join_some,Ti,Option.getD_none,n0]
   exact sa
  ·simp only[Option.join_some,fd,Option.getD_some]
   exact sa
 ·obtain⟨r,t,u⟩:=p
  dsimp only at r t u⊢;have y:16^i<=4294967296:=Xf (Gr aa (show i<=8 by omega)) ha;have o:base<=16:=aa
  unfold Ch;dsimp only;by_cases w:i<s.length
  ·have j:s[i]?=some s[i]:=qe w
   obtain⟨c,v⟩:∃c,s[i]=c:=⟨_,rfl⟩;rw[v]at j;have a:=i1 (lib:=lib) c base o;simp only[j];by_cases k:most<i
   ·rw[if_pos k]
    simp only[oe];exact va Us
   ·rw[if_neg k]
    by_cases d:c.toNat=59
    ·by_cases e:0<i
     ·rw[if_pos ⟨d,e⟩]
      simp only[oe];exact va Us
     ·rw[if_neg (fun h=>e h.2)]
      have g:ud c.toNat=99:=by rw[d];rfl
      rw[if_neg aa]at a⊢;simp only[oe];simp(maxSteps:=999999) (disch:=first|assumption|omega) only[go_sem,simprocAttr,au,Us,j,a]
    ·rw[if_neg (fun h=>d h.1)]
     by_cases e:ud c.toNat<base
     ·rw[if_pos e]at a⊢
      simp only[oe];obtain⟨l,g⟩:∃l,ud c.toNat=l:=⟨_,rfl⟩;rw[g]at a e⊢;have B:IntKind.i64.wrap ((n:Int)* (base:Int))=((n* base:Nat):Int):=by rw[wrap64 na];rfl
      have C:IntKind.i64.wrap (((n* base:Nat):Int)+(l:Int))=((n* base:Nat):Int)+(l:Int):=by rw[wrap64 na]
      exact va Us
     ·rw[if_neg e]at a⊢
      simp only[oe];exact va Us
  ·have j:s[i]?=none:=Qf aa
   simp only[j,oe];exact va Us
 ·exact sa
 grind [Ch,Nat.pow_succ]
theorem j_(base):∀(m n)(s),(xd base m n s).2=0->(xd base m n s).1=n
 |0,n,s,_=>rfl
 |m+1,n,[],_=>rfl
 |m+1,n,c::t,h=>by
  grind [xd]
theorem xS(base most)(s):Ml base most s=match Nl base most s with
 |none=>none
 |some (n,k)=>if n≠0/\Ob n=true then some (Ka n,k)else none:=by
 grind [j_,Ml,Nl]
def zS{base most}{s}{q}(h:Nl base most s=some q):1<=q.2/\q.2<=most+1:=by
 grind [YG,Nl]
theorem H_(s)(k:Nat)(hs:s.length<=1000000000)(I:k<=s.length):da code lib 257 [.flat (.string (S s)),.flat (.int .i64 (k:Nat))] [] []=match Vn (s.drop k)with
 |some (x,c)=>some ([.flat (.string (S x)),.flat (.int .i64 (c:Nat)),.flat (.bool true)],false,[],[])
 |none=>some ([.flat (.string (S [])),.flat (.int .i64 0),.flat (.bool false)],false,[],[]):=by
 have o:∀w:ba,w.length<=10->da code lib 105 [.flat (.string (S s)),.flat (.string (S w)),.flat (.int .i64 (k:Nat))] [] []=some ([.flat (.bool (w.isPrefixOf (s.drop k)))],false,[],[]):=fun w K=>by
  rw[<-bj I];exact Io s w k hs aa aa
 have a:=o [38,97,109,112,59] ha;have b:=o [38,108,116,59] ha;have B:=o [38,103,116,59] ha;have C:=o [38,113,117,111,116,59] ha;have D:=o [38,35,120] ha;have i:=o [38,35] ha;have L:(⟨#[]⟩:ByteArray)=S []:=rfl;unfold Vn;cases E:([38,97,109,112,59]:ba).isPrefixOf (s.drop k)with
 |true=>
  rw[E]at a;rw[if_pos rfl];refine la Mj (qa rfl) ?_;exact fQ @a @Rc @ec @pc @Ec @Ed ek
 |false=>
 rw[E]at a;rw[if_neg ea];cases F:([38,108,116,59]:ba).isPrefixOf (s.drop k)with
 |true=>
  rw[F]at b;rw[if_pos rfl];refine la Mj (qa rfl) ?_;exact Oq @a @b @Rc @ec @pc @Ec @Ed ek
 |false=>
 rw[F]at b;rw[if_neg ea];cases G:([38,103,116,59]:ba).isPrefixOf (s.drop k)with
 |true=>
  rw[G]at B;rw[if_pos rfl];refine la Mj (qa rfl) ?_;exact Oq @a @b @Rc @ec @pc @Ec @Ed ek
 |false=>
 rw[G]at B;rw[if_neg ea];cases H:([38,113,117,111,116,59]:ba).isPrefixOf (s.drop k)with
 |true=>
  rw[H]at C;rw[if_pos rfl];refine la Mj (qa rfl) ?_;exact Oq @a @b @Rc @ec @pc @Ec @Ed ek
 |false=>
 rw[H]at C;rw[if_neg ea]
 have g:∀(p m h:Nat)(w:ba),(p=16/\m=6/\h=3/\w=[38,35,120])\/(p=10/\m=7/\h=2/\w=[38,35])->w.isPrefixOf (s.drop k)=true->k+h<=s.length/\da code lib 286 [.flat (.string (S (s.drop (k+h)))),.flat (.int .i64 (p:Nat)),.flat (.int .i64 (m:Nat))] [] []=
  some ([.flat (.int .i64 (((Nl p m (s.drop (k+h))).map (·.1)).getD 0:Nat)),.flat (.int .i64 (((Nl p m (s.drop (k+h))).map (·.2)).getD 0:Nat))],false,[],[]):=fun p m h w K J=>by
   have:=rr I J;refine⟨na,q_ _ _ _ na aa aa⟩
 cases u:([38,35,120]:ba).isPrefixOf (s.drop k)with
 |true=>
  rw[u]at D;rw[if_pos rfl];obtain⟨A,d⟩:=g 16 6 3 _ (.inl ⟨rfl,rfl,rfl,rfl⟩) u;have j:((16:Nat):Int)=16:=rfl;have e6:((6:Nat):Int)=6:=rfl;rw[j,e6]at d;rw[yd,xS];cases l:Nl 16 6 (s.drop (k+3))with
  |none=>
   rw[l]at d;simp only[Ti,Option.getD_none,n0]at d⊢;refine la Mj (qa rfl) ?_;exact Oq @a @b @Rc @ec @pc @Ec @Ed ek
  |some q=>
   obtain⟨n,c⟩:=q;rw[l]at d;have z:=zS l;dsimp only at z;have e:=Qv (lib:=lib) n;have y:=yn (lib:=lib) n;simp only[fd,Option.getD_some]at d⊢;by_cases t:n=0
   ·subst t
    simp only[ne_eq,not_true_eq_false,false_and,if_false,Ti,n0]at d⊢;refine la Mj (qa rfl) ?_;exact Oq @a @b @Rc @ec @pc @Ec @Ed ek
   ·cases r:Ob n with
    |false=>
     rw[r]at e;simp only[La,and_false,if_false,Ti];refine la Mj (qa rfl) ?_;exact Oq @a @b @Rc @ec @pc @Ec @Ed ek
    |true=>
     rw[r]at e;simp only[ne_eq,t,not_false_eq_true,and_self,if_true,fd];refine la Mj (qa rfl) ?_;have e3:((3:Nat):Int)=3:=rfl;exact Oq @a @b @Rc @ec @pc @Ec @Ed ek
 |false=>
 rw[u]at D;rw[if_neg ea];cases v:([38,35]:ba).isPrefixOf (s.drop k)with
 |true=>
  rw[v]at i;rw[if_pos rfl];obtain⟨A,d⟩:=g 10 7 2 _ (.inr ⟨rfl,rfl,rfl,rfl⟩) v;have j:((10:Nat):Int)=10:=rfl;have e6:((7:Nat):Int)=7:=rfl;rw[j,e6]at d;rw[yd,xS];cases l:Nl 10 7 (s.drop (k+2))with
  |none=>
   rw[l]at d;simp only[Ti,Option.getD_none,n0]at d⊢;refine la Mj (qa rfl) ?_;exact Bs @a @b @i @Rc @ec @pc @Ec @Ed ek
  |some q=>
   obtain⟨n,c⟩:=q;rw[l]at d;have z:=zS l;dsimp only at z;have e:=Qv (lib:=lib) n;have y:=yn (lib:=lib) n;simp only[fd,Option.getD_some]at d⊢;by_cases t:n=0
   ·subst t
    simp only[ne_eq,not_true_eq_false,false_and,if_false,Ti,n0]at d⊢;refine la Mj (qa rfl) ?_;exact Bs @a @b @i @Rc @ec @pc @Ec @Ed ek
   ·cases r:Ob n with
    |false=>
     rw[r]at e;simp only[La,and_false,if_false,Ti];refine la Mj (qa rfl) ?_;exact Bs @a @b @i @Rc @ec @pc @Ec @Ed ek
    |true=>
     rw[r]at e;simp only[ne_eq,t,not_false_eq_true,and_self,if_true,fd];refine la Mj (qa rfl) ?_;have e3:((2:Nat):Int)=2:=rfl;exact Bs @a @b @i @Rc @ec @pc @Ec @Ed ek
 |false=>
 rw[v]at i;rw[if_neg ea];refine la Mj (qa rfl) ?_;exact Bs @a @b @i @Rc @ec @pc @Ec @Ed ek
def tE(L)(s)(i:L.length<=1000000):da code lib 198 [.ia L.length (wa L),.flat (.string (S s))] [] []=some ([.flat (.bool (L.contains s))],false,[],[]):=by
 have a:=bk (body:=ma (da code lib) ja jC) (live:=[0,1,5]) (nb:=0) (fun(_:Unit) k=>⟨[(0,.ia L.length (wa L)),(1,.flat (.string (S s))),(5,.flat (.int .i64 (k:Nat)))],[],[],[]⟩) L (fun _ _=>True)
  (fun _ k x=>if x=s then .inr (.ret,⟨[(4,.flat (.bool true))],[],[],[]⟩)else .inl ()) (fun _=>(.exit 0,⟨[],[],[],[]⟩)) (fun _ k x _ c e b=>?_) (fun _ _=>by simp only[go_sem,simprocAttr]) (fun _ _ _ _ _ _ _ _=>trivial) (fun _ _ x r h=>by split at h<;>simp at h;rw[<-h];simp) (fun _ _=>?_) (fun _=>by simp) () trivial zm
 ·simp only[n0]at a
  rcases TI (s:=s) (fin:=fun _=>(.exit 0,⟨[],[],[],[]⟩)) (g:=fun _=>(.ret,⟨[(4,.flat (.bool true))],[],[],[]⟩)) L 0 with⟨b,c⟩|⟨b,j,c,d⟩
  ·rw[c]at a
   rw[b];refine la KN (qa rfl) ?_;exact va @cd
  ·rw[d]at a
   rw[b];refine la KN (qa rfl) ?_;exact va @cd
 ·have b:(wa L)[k]?=some (.flat (.string (S x))):=by simp only[wa,XA,e,fd]
  have d:(wa L).drop k=.flat (.string (S x))::(wa L).drop (k+1):=by
   rw[Pd na];rw[qe na,Wb]at b;rw[b]
  by_cases h:x=s
  ·have c:=eq_true h
   rw[if_pos h];exact Kb qH @cd
  ·have c:=eq_false h
   rw[if_neg h];exact Kb qH @cd
 ·exact Kb qH @cd
def cS:da code lib 199 [] [] []=some ([.ia sg.length (wa sg)],true,[],[]):=by
 refine la vZ (qa rfl) ?_;simp only[wa,sg,gc,Ve];simp only[go_sem,simprocAttr,bf]
def GW:da code lib 259 [] [] []=some ([.ia Al.length (wa Al)],true,[],[]):=by
 refine la tZ (qa rfl) ?_;simp only[wa,Al,gc,Ve];simp only[go_sem,simprocAttr,bf]
def HV(s):da code lib 127 [.flat (.string (S s))] [] []=some ([.flat (.bool (Qi s))],false,[],[]):=by
 refine la sZ (qa rfl) ?_;unfold Qi;rcases pb (s=[98,114])with a|a<;>rcases pb (s=[104,114])with b|b<;>rcases pb (s=[105,109,103])with c|c
 all_goals
  first|have d:=eq_false a|have d:=eq_true a
  first|have e:=eq_false b|have e:=eq_true b
  first|have g:=eq_false c|have g:=eq_true c
  clear a b c;exact sa
def ZI(s)(k:Nat)(hs:s.length<=1000000000)(e:k<=s.length):da code lib 197 [.flat (.string (S s)),.flat (.int .i64 (k:Nat))] [] []=some ([.flat (.string (S (Bb s k)))],false,[],[]):=by
 have a:=Ls (body:=ma (da code lib) ja lC) (live:=[0,1,5]) (nb:=0) (fun j:Nat=>(⟨[(0,.flat (.string (S s))),(1,.flat (.int .i64 (j:Nat))),(5,.flat (.int .i64 (k:Nat)))],[],[],[]⟩:St))
  (Wg s Tk) 0 (fun j=>(.exit 0,⟨[(0,.flat (.string (S s))),(1,.flat (.int .i64 (j:Nat))),(5,.flat (.int .i64 (k:Nat)))],[],[],[]⟩)) (fun j=>j<=s.length) (fun j=>s.length - j) (fun j b=>?_) (fun j b=>?_) (fun j i b h=>?_) (fun j=>by simp) (n:=s.length+1) k e aa (by grind [ja])
 ·rw[EA s Tk _ k aa e]at a
  have d:=rn e;unfold Bb at d⊢;obtain⟨n,b⟩:∃n,k+((s.drop k).takeWhile Tk).length=n:=⟨_,rfl⟩;have l:(s.take n).drop k=(s.drop k).takeWhile Tk:=by
   rw[<-b,Jr,ri];exact(List.prefix_iff_eq_take.1 (Hw Tk)).symm
  rw[b]at a d;have g:k<=n:=aa
  refine la wZ (qa rfl) ?_;exact sa
 ·by_cases fa:j<s.length
  ·have b:s[j]?=some s[j]:=qe fa
   obtain⟨c,l⟩:∃c,s[j]=c:=⟨_,rfl⟩;rw[l]at b;simp only[Wg,b];unfold Tk;obtain⟨n,d⟩:∃n,c.toNat=n:=⟨_,rfl⟩;rw[d];rcases pb (97<=n)with g|g<;>rcases pb (n<=122)with a2|a2<;>rcases pb (48<=n)with a3|a3<;>rcases pb (n<=57)with a4|a4
   all_goals first|(exfalso;omega)|skip
   all_goals
    simp(maxSteps:=999999) (disch:=first|assumption|omega) only[go_sem,simprocAttr,au,US,b,d,oe]
  ·have b:s[j]?=none:=Qf aa
   simp only[Wg,b,oe];exact va US
 ·exact sa
 grind [Wg]
def bX(s)(k:Nat)(hs:s.length<=1000000000)(o:k<=s.length):da code lib 258 [.flat (.string (S s)),.flat (.int .i64 (k:Nat))] [] []=some ([.flat (.int .i64 ((k+(wh s k).length:Nat)))],false,[],[]):=by
 have a:=Ls (body:=ma (da code lib) ja iC) (live:=[0,1]) (nb:=0) (fun j:Nat=>(⟨[(0,.flat (.string (S s))),(1,.flat (.int .i64 (j:Nat)))],[],[],[]⟩:St))
  (Wg s Ko) 0 (fun j=>(.exit 0,⟨[(1,.flat (.int .i64 (j:Nat)))],[],[],[]⟩)) (fun j=>j<=s.length) (fun j=>s.length - j) (fun j b=>?_) (fun j b=>?_) (fun j i b h=>?_) (fun j=>by simp) (n:=s.length+1) k o aa (by grind [ja])
 ·rw[EA s Ko _ k aa o]at a
  unfold wh;obtain⟨n,b⟩:∃n,k+((s.drop k).takeWhile Ko).length=n:=⟨_,rfl⟩;rw[b]at a⊢;refine la uZ (qa rfl) ?_;exact sa
 ·by_cases fa:j<s.length
  ·have b:=qe fa
   obtain⟨c,q⟩:∃c,s[j]=c:=⟨_,rfl⟩;rw[q]at b;simp only[Wg,b];unfold Ko;obtain⟨n,p⟩:∃n,c.toNat=n:=⟨_,rfl⟩;rw[p];rcases pb (n=32)with d|d<;>rcases pb (n=9)with a2|a2<;>rcases pb (n=10)with a3|a3
   all_goals first|(exfalso;omega)|skip
   all_goals
    first|have e:=eq_false d|have e:=eq_true d
    first|have g:=eq_false a2|have g:=eq_true a2
    first|have l:=eq_false a3|have l:=eq_true a3
    simp(maxSteps:=999999) (disch:=first|assumption|omega) only[go_sem,simprocAttr,au,TS,b,p,e,g,l,oe]
  ·have b:s[j]?=none:=Qf aa
   simp only[Wg,b,oe];exact va TS
 ·exact sa
 grind [Wg]
theorem lU(s)(en bd)(k:Nat)(hs:s.length<=100000000)(C:k<=s.length):da code lib 195 [.flat (.string (S s)),.flat (.int .i64 (k:Nat)),.flat (.int .u8 en.toNat),.flat (.int .u8 bd.toNat)] [] []=match Ji s en bd k with
 |some (x,p)=>some ([.flat (.string (S x)),.flat (.int .i64 (p:Nat)),.flat (.bool true)],false,[],[])
 |none=>some ([.flat (.string (S [])),.flat (.int .i64 0),.flat (.bool false)],false,[],[]):=by
 have z:(⟨#[]⟩:ByteArray)=S []:=rfl
 have b:=Ls (body:=ma (da code lib) ja kC) (live:=[0,1,2,3,11]) (nb:=0) (fun q:ba×Nat=>(⟨[(0,.flat (.string (S s))),(1,.flat (.int .i64 (q.2:Nat))),(2,.flat (.int .u8 en.toNat)),(3,.flat (.int .u8 bd.toNat)),(11,.flat (.string (S q.1)))],[],[],[]⟩:St))
  (Bj s en bd) none (fun q=>match q with
    |some x=>(.exit 0,⟨[(1,.flat (.int .i64 (x.2:Nat))),(11,.flat (.string (S x.1)))],[],[],[]⟩)
    |none=>(.ret,⟨[(8,.flat (.string (S []))),(9,.flat (.int .i64 0)),(10,.flat (.bool false))],[],[],[]⟩)) (fun a=>a.2<=s.length/\k<=a.2/\a.1.length<=4* (a.2 - k)) (fun a=>s.length - a.2) (fun⟨out,j⟩ u=>?_) (fun⟨out,j⟩ u=>?_) (fun a c u h=>fI k a c u h) (fun q=>by grind) (n:=s.length+1) ([],k) ⟨C,Aa _,ea⟩ aa (by grind [ja])
 ·have d:Mb (Bj s en bd) none (s.length+1) ([],k)=Ji s en bd k:=rfl
  rw[d]at b;cases o:Ji s en bd k with
  |none=>
   rw[o]at b;dsimp only at b⊢;refine la LN (qa rfl) ?_;exact sa
  |some q=>
   rw[o]at b;dsimp only at b⊢;refine la LN (qa rfl) ?_;exact sa
 ·dsimp only at u⊢
  by_cases g:j<s.length
  ·have l:s[j]?=some s[j]:=qe g
   obtain⟨c,A⟩:∃c,s[j]=c:=⟨_,rfl⟩;rw[A]at l;unfold Bj;simp only[l];by_cases v:c=en
   ·have d:=eq_true (congrArg UInt8.toNat v)
    rw[if_pos v];simp only[oe];exact va Vs
   ·have d:=eq_false fun h=>v (Xb.1 h)
    rw[if_neg v];by_cases w:c=bd
    ·have e:=eq_true (congrArg UInt8.toNat w)
     rw[if_pos w];simp only[oe];simp(maxSteps:=999999) (disch:=first|assumption|omega) only[go_sem,simprocAttr,au,z,Vs,l,d,e]
    ·have e:=eq_false fun h=>w (Xb.1 h)
     rw[if_neg w];by_cases y:c=38
     ·have i:(c.toNat=38)=True:=eq_true bh
      rw[if_pos y];have r:=H_ (lib:=lib) s j aa u.1;cases o:Vn (s.drop j)with
      |none=>
       rw[o]at r;simp only[oe]at r⊢;simp(maxSteps:=999999) (disch:=first|assumption|omega) only[go_sem,simprocAttr,au,z,Vs,l,d,e,i,r]
      |some q=>
       obtain⟨x,n⟩:=q;rw[o]at r;have B:=AH o;rw[fc]at B;dsimp only at B;have t:out.length+x.length<=za:=He
       simp only[oe]at r⊢;simp(maxSteps:=999999) (disch:=first|assumption|omega) only[go_sem,simprocAttr,au,z,Vs,l,d,e,i,r,t]
     ·have i:(c.toNat=38)=False:=eq_false fun h=>y (Xb.1 h)
      rw[if_neg y];have r:=Pd g;have B:(s.take (j+1)).drop j=[c]:=by
       rw[Jr,r,A,ri];rfl
      have t:out.length+1<=za:=He
      simp only[oe];exact va Vs
  ·have l:s[j]?=none:=Qf aa
   unfold Bj;simp only[l,oe];exact va Vs
 ·exact sa
def bR(l:List Vi)(w:ba)(k to:Nat):List PV:=xa ⟨111,w,[],l,k,to⟩
def R1(s w)(k d)(a)(l)(t:l.length<=1000000000)(X:List PV):
 Ac (ma (da code lib) ja Ax) [0,4,6,7,8,9] 3 ja ⟨[(0,.flat (.string (S s))),(4,.ptr 0 0),(6,.ptr 1 0),(7,.flat (.int .i64 (d:Nat))),(8,.ptr 2 0),(9,.flat (.int .i64 0))],[.cell 1 3,.cell 0 3],[],[(135,xa Z0),(135,bR l w k 0),(137,hb a)]⟩=
 some (if l.any (fun c=>decide (c.name=a.name))then(.ret,⟨[(4,.ptr 0 0),(5,.flat (.bool false))],[.cell 1 3],[],[(135,bR l w k 0),(135,bR l w k 0),(137,hb a)]⟩)
  else(.exit 2,⟨[(0,.flat (.string (S s))),(4,.ptr 0 0),(6,.ptr 1 0),(7,.flat (.int .i64 (d:Nat))),(8,.ptr 2 0)],[.cell 1 3,.cell 0 3],[],[(135,xa Z0),(135,bR l w k 0),(137,hb a)]⟩)):=by
 have b:=bk (body:=ma (da code lib) ja Ax) (live:=[0,4,6,7,8,9]) (nb:=3) (fun(_:Unit) i=>⟨[(0,.flat (.string (S s))),(4,.ptr 0 0),(6,.ptr 1 0),(7,.flat (.int .i64 (d:Nat))),(8,.ptr 2 0),(9,.flat (.int .i64 (i:Nat)))],[.cell 1 3,.cell 0 3],[],[(135,xa Z0),(135,bR l w k 0),(137,hb a)]⟩) l (fun _ _=>True)
  (fun _ i x=>if decide (x.name=a.name)then .inr (.ret,⟨[(4,.ptr 0 0),(5,.flat (.bool false))],[.cell 1 3],[],[(135,bR l w k 0),(135,bR l w k 0),(137,hb a)]⟩)else .inl ()) (fun _=>(.exit 2,⟨[(0,.flat (.string (S s))),(4,.ptr 0 0),(6,.ptr 1 0),(7,.flat (.int .i64 (d:Nat))),(8,.ptr 2 0)],[.cell 1 3,.cell 0 3],[],[(135,xa Z0),(135,bR l w k 0),(137,hb a)]⟩)) (fun _ i x _ j q e=>?_) (fun _ _=>by simp only[go_sem,simprocAttr]) (fun _ _ _ _ _ _ _ _=>trivial) (fun _ _ x r h=>by split at h<;>simp at h;rw[<-h];simp) (fun _ _=>?_) (fun _=>by simp) () trivial zm
 ·simp only[n0]at b
  rw[b];rcases SI (p:=fun x=>decide (x.name=a.name)) (fin:=fun _=>(.exit 2,⟨[(0,.flat (.string (S s))),(4,.ptr 0 0),(6,.ptr 1 0),(7,.flat (.int .i64 (d:Nat))),(8,.ptr 2 0)],[.cell 1 3,.cell 0 3],[],[(135,xa Z0),(135,bR l w k 0),(137,hb a)]⟩)) (g:=fun _=>(.ret,⟨[(4,.ptr 0 0),(5,.flat (.bool false))],[.cell 1 3],[],[(135,bR l w k 0),(135,bR l w k 0),(137,hb a)]⟩)) l 0 with⟨e,n⟩|⟨e,j,n,o⟩
  ·rw[n,e];rfl
  ·rw[o,e];rfl
 ·have j:=rB q
  simp only[hb,Ha,Ra]at j⊢;simp only[bR,xa];have n:xa Z0=[.flat (.int .u8 0),.flat (.string (S [])),.flat (.string (S [])),.ia 0 [],.flat (.int .i64 0),.flat (.int .i64 0)]:=rfl;by_cases h:x.name=a.name
  ·have e:=eq_true h
   simp only[e,decide_true,if_true];exact xe rH @bg @Jd
  ·have e:=eq_false h
   simp only[e,decide_false,La,if_false];exact xe rH @bg @Jd
 ·simp only[bR,xa,hb]
  exact va rH
def P_{s}{l}{k}(a:(wh s k).length=0)(b:Tb s [62] (k+(wh s k).length)=false):Jf s (l,k)=.inr none:=by
 grind [Jf]
theorem U_(s w)(hs:s.length<=100000000)(fr)(l)(k)(U:k<=s.length)(hlZ:l.length<=k):
 match Jf s (l,k)with
 | .inl c=>ma (da code lib) ja Sr ⟨[(0,.flat (.string (S s))),(1,.flat (.int .i64 (k:Nat))),(4,.ptr 0 0),(6,.ptr 1 0)],[.cell 1 3,.cell 0 3],[],[(135,xa Z0),(135,bR l w fr 0)]⟩=some (.normal,⟨[(0,.flat (.string (S s))),(1,.flat (.int .i64 (c.2:Nat))),(4,.ptr 0 0),(6,.ptr 1 0)],[.cell 1 3,.cell 0 3],[],[(135,xa Z0),(135,bR c.1 w fr 0)]⟩)
 | .inr (some c)=>ma (da code lib) ja Sr ⟨[(0,.flat (.string (S s))),(1,.flat (.int .i64 (k:Nat))),(4,.ptr 0 0),(6,.ptr 1 0)],[.cell 1 3,.cell 0 3],[],[(135,xa Z0),(135,bR l w fr 0)]⟩=some (.ret,⟨[(4,.ptr 0 0),(5,.flat (.bool true))],[.cell 1 3],[],[(135,bR c.1 w fr c.2),(135,bR c.1 w fr c.2)]⟩)
 | .inr none=>∃t ys,ma (da code lib) ja Sr ⟨[(0,.flat (.string (S s))),(1,.flat (.int .i64 (k:Nat))),(4,.ptr 0 0),(6,.ptr 1 0)],[.cell 1 3,.cell 0 3],[],[(135,xa Z0),(135,bR l w fr 0)]⟩=some (.ret,⟨[(4,.ptr 0 0),(5,.flat (.bool false))],[.cell 1 3],[],(135,xa t)::ys⟩):=by
 have hzZ:(⟨#[]⟩:ByteArray)=S []:=rfl;have X:xa Z0=[.flat (.int .u8 0),.flat (.string (S [])),.flat (.string (S [])),.ia 0 [],.flat (.int .i64 0),.flat (.int .i64 0)]:=rfl;have d:((UInt8.toNat 111:Nat):Int)=111:=rfl;have I:((UInt8.toNat 34:Nat):Int)=34:=rfl;have J:((UInt8.toNat 60:Nat):Int)=60:=rfl;have o:=Pu U;have R:=bX (lib:=lib) s k aa U;have z:=@P_ s l k
 have i:Jf s (l,k)=(if Tb s [62] (k+(wh s k).length)then .inr (some (l,k+(wh s k).length+1))
  else match tm s (k+(wh s k).length)with
  |none=>.inr none
  |some (a,e)=>if(wh s k).length=0\/(l.any fun b=>decide (b.name=a.name))=true then .inr none else .inl (l++[a],e)):=rfl
 obtain⟨g,hgZ⟩:∃g,wh s k=g:=⟨_,rfl⟩;rw[hgZ]at R o z i;obtain⟨j,O⟩:∃j,k+g.length=j:=⟨_,rfl⟩;rw[O]at R o z i;have T:=Io (lib:=lib) s [62] j aa ha aa;have r:=rn o;have Y:=ZI (lib:=lib) s j aa o;have L:=tE (lib:=lib) Al (Bb s j) ha;have hat:=GW (lib:=lib);have n:=Io (lib:=lib) s [61,34] (j+(Bb s j).length) aa ha aa;unfold tm at i;obtain⟨x,hxZ⟩:∃x,Bb s j=x:=⟨_,rfl⟩;rw[hxZ]at Y L n r i;obtain⟨B,P⟩:∃B,j+x.length=B:=⟨_,rfl⟩;rw[P]at n r i;have V:(j:Int)+(x.length:Int)=(B:Nat):=aa
 simp only[bR,xa,n0,d];cases H:Tb s [62] j with
 |true=>
  rw[H]at T i;simp only[if_true]at i;rw[i];dsimp only;exact xe Xm @bg @Jd
 |false=>
  rw[H]at T;by_cases D:g.length=0
  ·have N:=eq_true aa
   rw[z D H];dsimp only;refine⟨⟨111,w,[],l,fr,0⟩,[(135,xa ⟨111,w,[],l,fr,0⟩),(137,hb ⟨x,[],0,0⟩)],?_⟩;simp only[xa,hb,d,n0];exact xe Xm @bg @Jd
  ·have N:(j=k)=False:=eq_false aa
   rw[H]at i;simp only[La,if_false,D,false_or]at i;rw[i];cases C:Al.contains x with
   |false=>
    rw[C]at L;simp only[De,La,if_false];refine⟨⟨111,w,[],l,fr,0⟩,[(135,xa ⟨111,w,[],l,fr,0⟩),(137,hb ⟨x,[],0,0⟩)],?_⟩;simp only[xa,hb,d,n0];exact xg Xm @dd @bg @Jd
   |true=>
    rw[C]at L;simp only[od];cases A:Tb s [61,34] B with
    |false=>
     rw[A]at n;simp only[La,if_false];refine⟨⟨111,w,[],l,fr,0⟩,[(135,xa ⟨111,w,[],l,fr,0⟩),(137,hb ⟨x,[],0,0⟩)],?_⟩;simp only[xa,hb,d,n0];exact xg Xm @dd @bg @Jd
    |true=>
     rw[A]at n;have F:=rr r (by rw[<-bj r];exact A);simp only[ua,Ca,ld,Nat.reduceAdd]at F;simp only[if_true];obtain⟨u,Q⟩:∃u,B+2=u:=⟨_,rfl⟩;rw[Q]at F⊢;have W:(B:Int)+2=(u:Nat):=aa
     have G:=lU (lib:=lib) s 34 60 u hs F;rw[I,J]at G;have y:=R1 (lib:=lib) s w fr j ⟨x,[],0,0⟩ l aa [];simp only[bR,xa,hb,d,n0]at y;cases K:Ji s 34 60 u with
     |none=>
      rw[K]at G;cases h:l.any (fun c=>decide (c.name=x))with
      |true=>
       simp only[h,if_true]at y;refine⟨⟨111,w,[],l,fr,0⟩,[(135,xa ⟨111,w,[],l,fr,0⟩),(137,hb ⟨x,[],0,0⟩)],?_⟩;simp only[xa,hb,d,n0];exact xg Xm @dd @bg @Jd
      |false=>
       simp only[h,La,if_false]at y;refine⟨⟨111,w,[],l,fr,0⟩,[(135,xa ⟨111,w,[],l,fr,0⟩),(137,hb ⟨x,[],u,0⟩)],?_⟩;simp only[xa,hb,d,n0];exact xg Xm @dd @bg @Jd
     |some q=>
      obtain⟨v,p⟩:=q;rw[K]at G;have M:=ot F K;dsimp only at G M⊢;by_cases E:p<s.length
      ·simp only[E,if_true]
       cases h:l.any (fun c=>decide (c.name=x))with
       |true=>
        simp only[h,if_true]at y⊢;refine⟨⟨111,w,[],l,fr,0⟩,[(135,xa ⟨111,w,[],l,fr,0⟩),(137,hb ⟨x,[],0,0⟩)],?_⟩;simp only[xa,hb,d,n0];exact xg Xm @dd @bg @Jd
       |false=>
        simp only[h,La,if_false]at y⊢;have Z:tc l++[PV.flat (.string (S x)),.flat (.string (S v)),.flat (.int .i64 (u:Nat)),.flat (.int .i64 (p:Nat))]=tc (l++[⟨x,v,u,p⟩]):=by rw[<-rJ];rfl
        have hbd:l.length+1<=za:=He
        exact Sj Xm @dd @bg @Jd @Ba.{0}
      ·simp only[E,if_false]
       cases h:l.any (fun c=>decide (c.name=x))with
       |true=>
        simp only[h,if_true]at y;refine⟨⟨111,w,[],l,fr,0⟩,[(135,xa ⟨111,w,[],l,fr,0⟩),(137,hb ⟨x,[],0,0⟩)],?_⟩;simp only[xa,hb,d,n0];exact xg Xm @dd @bg @Jd
       |false=>
        simp only[h,La,if_false]at y;refine⟨⟨111,w,[],l,fr,0⟩,[(135,xa ⟨111,w,[],l,fr,0⟩),(137,hb ⟨x,[],u,0⟩)],?_⟩;simp only[xa,hb,d,n0];exact xg Xm @dd @bg @Jd
theorem T_(s)(hs:s.length<=100000000)(fr)(z:fr+1<=s.length):
 match(if sg.contains (Bb s (fr+1))then fk s (fr+1+(Bb s (fr+1)).length)else none)with
 |some (l,p)=>da code lib 196 [.flat (.string (S s)),.flat (.int .i64 (fr:Nat))] [] []=some ([.agg (xa ⟨111,Bb s (fr+1),[],l,fr,p⟩),.flat (.bool true)],false,[],[])
 |none=>∃t,da code lib 196 [.flat (.string (S s)),.flat (.int .i64 (fr:Nat))] [] []=some ([.agg (xa t),.flat (.bool false)],false,[],[]):=by
 have C:(⟨#[]⟩:ByteArray)=S []:=rfl;have u:xa Z0=[.flat (.int .u8 0),.flat (.string (S [])),.flat (.string (S [])),.ia 0 [],.flat (.int .i64 0),.flat (.int .i64 0)]:=rfl;have b:((UInt8.toNat 111:Nat):Int)=111:=rfl;have y:=ZI (lib:=lib) s (fr+1) aa z;have v:=tE (lib:=lib) sg (Bb s (fr+1)) ha;have A:=cS (lib:=lib);have k:=rn z;simp only[Ee,qn]at y;obtain⟨w,B⟩:∃w,Bb s (fr+1)=w:=⟨_,rfl⟩;rw[B]at y v k⊢;cases e:sg.contains w with
 |false=>
  rw[e]at v;simp only[La,if_false];refine⟨⟨111,w,[],[],fr,0⟩,?_⟩;simp only[xa,tc,Vg,Ca,b,n0];refine la jD (qa rfl) ?_;exact va @dd
 |true=>
  rw[e]at v;simp only[if_true]
  have hrel:=Il (body:=ma (da code lib) ja Sr) (live:=[0,1,4,6]) (nb:=2)
   (fun(_:Unit)(q:List Vi×Nat)=>(⟨[(0,.flat (.string (S s))),(1,.flat (.int .i64 (q.2:Nat))),(4,.ptr 0 0),(6,.ptr 1 0)],[.cell 1 3,.cell 0 3],[],[(135,xa Z0),(135,bR q.1 w fr 0)]⟩:St))
   (Jf s) none (fun a o st=>match a with
     |some c=>o=.ret/\st=⟨[(4,.ptr 0 0),(5,.flat (.bool true))],[.cell 1 3],[],[(135,bR c.1 w fr c.2),(135,bR c.1 w fr c.2)]⟩
     |none=>o=.ret/\∃t ys,st=⟨[(4,.ptr 0 0),(5,.flat (.bool false))],[.cell 1 3],[],(135,xa t)::ys⟩)
   (fun a=>a.2<=s.length/\a.1.length<=a.2) (fun a=>s.length - a.2) (fun _ ⟨l,j⟩ g=>?_) (fun _ ⟨l,j⟩ g=>?_) (fun a c g h=>Yz a c g h) (n:=s.length+1) (m:=ja) () ([],fr+1+w.length) ⟨k,Cb _⟩ aa (by grind [ja])
  ·obtain⟨o,st,r,i⟩:=hrel
   have d:Mb (Jf s) none (s.length+1) ([],fr+1+w.length)=fk s (fr+1+w.length):=rfl;rw[d]at i;simp only[u,bR]at r;simp only[xa,b,n0,tc,Vg,Ca,Ee,qn]at r;cases x:fk s (fr+1+w.length)with
   |some c=>
    rw[x]at i;obtain⟨rfl,rfl⟩:=i;dsimp only;refine la jD (qa rfl) ?_;simp only[bR,xa,b]at r⊢;exact xe @dd @Jd @pm
   |none=>
    rw[x]at i;obtain⟨rfl,t,ys,rfl⟩:=i;dsimp only;refine⟨t,?_⟩;refine la jD (qa rfl) ?_;simp only[xa]at r⊢;exact xe @dd @Jd @pm
  ·have:=U_ (lib:=lib) s w hs fr l j g.1 g.2
   cases d:Jf s (l,j)with
   |inl c=>rw[d]at this;exact⟨(),this⟩
   |inr c=>
    rw[d]at this;cases c with
    |none=>
     obtain⟨t,ys,i⟩:=this;exact⟨_,_,i,ea,rfl,t,ys,rfl⟩
    |some c=>exact⟨_,_,this,ea,rfl,rfl⟩
  ·exact sa
theorem I_(s)(hs:s.length<=100000000)(k)(J:k<s.length):
 match oj s k with
 |some t=>da code lib 123 [.flat (.string (S s)),.flat (.int .i64 (k:Nat))] [] []=some ([.agg (xa t),.flat (.bool true)],false,[],[])
 |none=>∃t,da code lib 123 [.flat (.string (S s)),.flat (.int .i64 (k:Nat))] [] []=some ([.agg (xa t),.flat (.bool false)],false,[],[]):=by
 have C:(⟨#[]⟩:ByteArray)=S []:=rfl;have G:xa Z0=[.flat (.int .u8 0),.flat (.string (S [])),.flat (.string (S [])),.ia 0 [],.flat (.int .i64 0),.flat (.int .i64 0)]:=rfl;have b:((UInt8.toNat 99:Nat):Int)=99:=rfl;have g:((UInt8.toNat 116:Nat):Int)=116:=rfl;have D:((UInt8.toNat 60:Nat):Int)=60:=rfl;have E:((UInt8.toNat 62:Nat):Int)=62:=rfl;have v:s[k]?=some s[k]:=qe J;obtain⟨c,I⟩:∃c,s[k]=c:=⟨_,rfl⟩;rw[I]at v;have d:k<=s.length:=aa
 have B:Tb s [60] k=decide (c.toNat=60):=by
  rw[bj d,IH,v,decide_eq_decide,Wb];exact⟨fun h=>by simp_all,fun h=>Xb.1 h⟩
 have n:=Io (lib:=lib) s [60,47] k aa ha aa;unfold oj;cases j:Tb s [60,47] k with
 |true=>
  rw[j]at n;have a:(c.toNat=60)=True:=eq_true (by
   grind [bj,List.drop_eq_getElem_cons])
  have F:=rr d (by rw[<-bj d];exact j);simp only[if_true,ua,Ca,ld,Nat.reduceAdd]at F⊢;have u:=ZI (lib:=lib) s (k+2) aa F;have H:=rn F;have i:=tE (lib:=lib) sg (Bb s (k+2)) ha;have r:=HV (lib:=lib) (Bb s (k+2));have e:=cS (lib:=lib);have o:=Io (lib:=lib) s [62] (k+2+(Bb s (k+2)).length) aa ha aa;simp only[Ee,ZA]at u o;obtain⟨w,K⟩:∃w,Bb s (k+2)=w:=⟨_,rfl⟩;rw[K]at u i r o H⊢;have e2:((2:Nat):Int)=2:=rfl;have e5:k+2+w.length+1=k+(2+w.length+1):=aa
  cases y:sg.contains w with
  |false=>
   rw[y]at i;simp only[De,La,if_false];refine⟨⟨99,w,[],[],k,k+2+w.length+1⟩,?_⟩;simp only[xa,b,tc,Vg,Ca];refine la Uo (qa rfl) ?_;simp(maxSteps:=999999) (disch:=first|assumption|omega) only[go_sem,simprocAttr,au,C,v,a,n,u,i,e,e2,dd]
  |true=>
   rw[y]at i;cases z:Qi w with
   |true=>
    rw[z]at r;simp only[am,De,Zh,La,if_false];refine⟨⟨99,w,[],[],k,k+2+w.length+1⟩,?_⟩;simp only[xa,b,tc,Vg,Ca];refine la Uo (qa rfl) ?_;simp(maxSteps:=999999) (disch:=first|assumption|omega) only[go_sem,simprocAttr,au,C,v,a,n,u,i,r,e,e2,dd]
   |false=>
    rw[z]at r;cases A:Tb s [62] (k+2+w.length)with
    |false=>
     rw[A]at o;simp only[gn,Zh,La,if_false];refine⟨⟨99,w,[],[],k,k+2+w.length+1⟩,?_⟩;simp only[xa,b,tc,Vg,Ca];refine la Uo (qa rfl) ?_;simp(maxSteps:=999999) (disch:=first|assumption|omega) only[go_sem,simprocAttr,au,C,v,a,n,u,i,r,o,e,e2,dd]
    |true=>
     rw[A]at o;simp only[gn,Dg,if_true];simp only[xa,b,tc,Vg,Ca];refine la Uo (qa rfl) ?_;simp(maxSteps:=999999) (disch:=first|assumption|omega) only[go_sem,simprocAttr,au,C,v,a,n,u,i,r,o,e,e2,dd]
 |false=>
  rw[j]at n;simp only[La,if_false];rw[B];by_cases o:c.toNat=60
  ·have a:=eq_true o
   have i:=T_ (lib:=lib) s hs k aa;simp only[o,decide_true,if_true];obtain⟨x,r⟩:∃x,(if sg.contains (Bb s (k+1))then fk s (k+1+(Bb s (k+1)).length)else none)=x:=⟨_,rfl⟩;have e:(if sg.contains (Bb s (k+1))then(fk s (k+1+(Bb s (k+1)).length)).map (fun q=>(⟨111,Bb s (k+1),[],q.1,k,q.2⟩:Tok))else none)=x.map (fun q=>(⟨111,Bb s (k+1),[],q.1,k,q.2⟩:Tok)):=by
    rw[<-r];split<;>rfl
   rw[e];rw[r]at i;cases x with
   |none=>
    obtain⟨t,i⟩:=i;simp only[Ti];refine⟨t,?_⟩;simp only[xa]at i⊢;refine la Uo (qa rfl) ?_;exact Kb @Jd @pm
   |some q=>
    obtain⟨l,p⟩:=q;simp only[fd];simp only[xa]at i⊢;refine la Uo (qa rfl) ?_;exact Kb @Jd @pm
  ·have a:=eq_false o
   have e:=lU (lib:=lib) s 60 62 k hs d;rw[D,E]at e;simp only[o,decide_false,La,if_false];cases i:Ji s 60 62 k with
   |none=>
    rw[i]at e;simp only[Ti];refine⟨⟨116,[],[],[],k,0⟩,?_⟩;simp only[xa,g,tc,Vg,Ca,n0];refine la Uo (qa rfl) ?_;exact Kb @Jd @pm
   |some q=>
    obtain⟨x,p⟩:=q;rw[i]at e;simp only[fd];simp only[xa,g,tc,Vg,Ca];refine la Uo (qa rfl) ?_;exact Kb @Jd @pm
theorem ze0(s)(hs:s.length<=100000000):
 da code lib 60 [.flat (.string (S s))] [] []=match Ni s with
 |some l=>some ([.ia l.length (uc l),.flat (.int .i64 0)],false,[],[])
 |none=>some ([.ia 0 [],.flat (.int .i64 7)],false,[],[]):=by
 have r:(⟨#[]⟩:ByteArray)=S []:=rfl;have e:=U4 (lib:=lib) s (by grind [Sm])
 have hrel:=Il (body:=ma (da code lib) ja hC) (live:=[0,4,5]) (nb:=0) (fun(_:Unit)(q:List Tok×Nat)=>(⟨[(0,.flat (.string (S s))),(4,.ia q.1.length (uc q.1)),(5,.flat (.int .i64 (q.2:Nat)))],[.slot 4],[],[]⟩:St))
  (ni s) none (fun q o st=>match q with
    |some l=>o=.exit 0/\st=⟨[(4,.ia l.length (uc l))],[.slot 4],[],[]⟩
    |none=>o=.ret/\∃y,st=⟨[(2,.ia 0 []),(3,.flat (.int .i64 7))],[.slot 2],[],[y]⟩) (fun q=>q.2<=s.length/\q.1.length<=q.2) (fun q=>s.length - q.2) (fun _ ⟨l,j⟩ g=>?_) (fun _ ⟨l,j⟩ g=>?_) (fun a c b h=>FA (fun k t=>Fz) a c b h) (n:=s.length+1) (m:=ja) () ([],0) ⟨Cb _,Aa _⟩ aa (by grind [ja])
 ·unfold Ni
  cases i:Sh s with
  |false=>
   rw[i]at e;simp only[La,if_false];refine la iD (qa rfl) ?_;exact sa
  |true=>
   rw[i]at e;simp only[if_true];obtain⟨o,st,p,b⟩:=hrel;simp only[uc,Vg,Ca,n0]at p;cases d:Mb (ni s) none (s.length+1) ([],0)with
   |some l=>
    rw[d]at b;obtain⟨rfl,rfl⟩:=b;refine la iD (qa rfl) ?_;exact va @dn
   |none=>
    rw[d]at b;obtain⟨rfl,y,rfl⟩:=b;refine la iD (qa rfl) ?_;exact va @dn
 ·dsimp only at g⊢
  unfold ni;dsimp only;by_cases fa:s.length<=j
  ·simp only[fa,if_true]
   refine⟨.exit 0,⟨[(4,.ia l.length (uc l))],[.slot 4],[],[]⟩,?_,ea,rfl,rfl⟩;exact va pH
  ·simp only[fa,if_false]
   have b:=I_ (lib:=lib) s hs j aa;cases d:oj s j with
   |none=>
    rw[d]at b;obtain⟨t,b⟩:=b;refine⟨.ret,⟨[(2,.ia 0 []),(3,.flat (.int .i64 7))],[.slot 2],[],[(135,xa t)]⟩,?_,ea,rfl,_,rfl⟩;simp only[xa]at b⊢;exact xe pH @Jd @pm
   |some t=>
    rw[d]at b;refine⟨(),?_⟩;simp only[xa]at b⊢;have p:l.length+1<=za:=He
    have i:uc l++[.flat (.int .u8 t.kind.toNat),.flat (.string (S t.name)),.flat (.string (S t.text)),.ia t.Jj.length (tc t.Jj),.flat (.int .i64 (t.fr:Nat)),.flat (.int .i64 (t.to:Nat))]=uc (l++[t]):=by rw[<-jV];rfl
    exact ye pH @Wf @Jd @pm @dn @Ba.{0}
 ·exact sa
def nj(t:Tok)(op:List ba):Option (List ba):=
 if t.kind.toNat=111/\Qi t.name=false then(if 32<op.length+1 then none else some (op++[t.name]))
 else if t.kind.toNat=99 then(if op.getLast?=some t.name then some op.dropLast else none)else some op
def Xk(L:List Tok)(q:List ba×Nat):(List ba×Nat) ⊕ Option (List ba):=match L[q.2]? with
 |none=>.inr (some q.1)
 |some t=>match nj t q.1 with
  |none=>.inr none
  |some op=>.inl (op,q.2+1)
def Tn(L:List Tok):Bool:=decide (Mb (Xk L) none (L.length+1) ([],0)=some [])
theorem Q9{t}{op a}(h:op.length<=32)(b:nj t op=some a):a.length<=32:=by
 grind [nj]
def P9(L):∀a b,(a.2<=L.length/\a.1.length<=32)->Xk L a=.inl b->(b.2<=L.length/\b.1.length<=32)/\L.length - b.2<L.length - a.2:=by
 grind [Xk,Q9]
def EI{l}{k}{x}(h:l[k]?=some x):(uc l).drop (k* 6)=xa x++uc (l.drop (k+1)):=by
 induction l generalizing k with
 |nil=>cases h
 |cons a l b=>
  show(xa a++uc l).drop _=_;cases k with
  |zero=>
   grind
  |succ k=>
   rw[vk]at h;have e:(k+1)* 6=6+k* 6:=aa
   rw[e,<-yd];show(uc l).drop _=_
   grind
def rR{op}{n}(h:op.length=n+1):∃x,op[n]?=some x/\op.getLast?=some x/\op.dropLast=op.take n/\(wa op).drop n=[.flat (.string (S x))]:=by
 have fa:n<op.length:=aa
 refine⟨op[n],qe fa,?_,?_,?_⟩
 ·grind
 ·grind [List.dropLast_eq_take]
 grind [wa.eq_1,List.drop_eq_getElem_cons]
def R9(L)(J:L.length<=1000000000):da code lib 65 [.ia L.length (uc L)] [] []=some ([.flat (.bool (Tn L))],false,[],[]):=by
 have hrel:=Il (body:=ma (da code lib) ja gC) (live:=[0,3,4]) (nb:=0) (fun(o:Bool)(q:List ba×Nat)=>(⟨[(0,.ia L.length (uc L)),(3,.ia q.1.length (wa q.1)),(4,.flat (.int .i64 (q.2:Nat)))],if o then[.slot 3]else[],[],[]⟩:St))
  (Xk L) none (fun q o st=>match q with
    |some op=>o=.exit 0/\∃b:Bool,st=⟨[(3,.ia op.length (wa op))],if b then[.slot 3]else[],[],[]⟩
    |none=>o=.ret/\st=⟨[(2,.flat (.bool false))],[],[],[]⟩) (fun q=>q.2<=L.length/\q.1.length<=32) (fun q=>L.length - q.2) (fun o ⟨op,k⟩ C=>?_) (fun o ⟨op,k⟩ C=>?_) (P9 L) (n:=L.length+1) (m:=ja) true ([],0) ⟨Cb _,ea⟩ aa (by grind [ja])
 ·obtain⟨o,st,d,a⟩:=hrel
  unfold Tn;simp only[wa,Ve,Ca,n0,if_true]at d;cases c:Mb (Xk L) none (L.length+1) ([],0)with
  |none=>
   rw[c]at a;obtain⟨rfl,rfl⟩:=a;refine la JN (qa rfl) ?_;exact sa
  |some op=>
   rw[c]at a;obtain⟨rfl,b,rfl⟩:=a;have g:(op.length=0)=(op=[]):=propext List.length_eq_zero_iff;refine la JN (qa rfl) ?_;by_cases e:op=[]
   ·subst e
    cases b
    ·exact sa
    ·exact sa
   ·have p:=eq_false e
    have r:=fun h=>e (qz h)
    cases b
    ·exact sa
    ·exact sa
 ·dsimp only at C
  dsimp only;unfold Xk;dsimp only;have a:(if o=true then[Loc.slot 3]else[])=[Loc.slot 3]\/(if o=true then[Loc.slot 3]else[])=([]:List Loc):=by cases o<;>simp
  by_cases F:k<L.length
  ·have u:=qe F
   obtain⟨t,ht⟩:∃t,L[k]=t:=⟨_,rfl⟩;rw[ht]at u;have i:=EI u;simp only[xa,Ha,Ra]at i;have D:=HV (lib:=lib) t.name;have E:op.length<=za:=He
   have B:op.length+1<=za:=He
   have H:wa op++[PV.flat (.string (S t.name))]=wa (op++[t.name]):=by rw[<-tr];rfl
   simp only[u];unfold nj;by_cases p:t.kind.toNat=111
   ·have g:=eq_true p
    have d:(t.kind.toNat=99)=False:=eq_false aa;cases j:Qi t.name with
    |true=>
     rw[j]at D;simp only[p,Iw,and_false,if_false];refine⟨o,?_⟩;rcases a with a|a<;>rw[a]
     ·exact xg ki @Wf @cd @Lf
     ·exact xg ki @Wf @cd @Lf
    |false=>
     rw[j]at D;simp only[p,and_self,if_true];by_cases c:32<op.length+1
     ·simp only[c,if_true]
      refine⟨.ret,⟨[(2,.flat (.bool false))],[],[],[]⟩,?_,ea,rfl,rfl⟩;rcases a with a|a<;>rw[a]
      ·exact Sj ki @Wf @cd @Lf @Ba.{0}
      ·exact Sj ki @Wf @cd @Lf @Ba.{0}
     ·simp only[c,if_false]
      refine⟨true,?_⟩;rcases a with a|a<;>rw[a]
      ·exact Sj ki @Wf @cd @Lf @Ba.{0}
      ·exact Sj ki @Wf @cd @Lf @Ba.{0}
   ·have g:=eq_false p
    by_cases r:t.kind.toNat=99
    ·have d:=eq_true r
     simp only[r,if_true];by_cases e:op=[]
     ·subst e
      simp only[List.getLast?_nil,reduceCtorEq,if_false];refine⟨.ret,⟨[(2,.flat (.bool false))],[],[],[]⟩,?_,ea,rfl,rfl⟩;rcases a with a|a<;>rw[a]
      ·exact xg ki @Wf @cd @Lf
      ·exact xg ki @Wf @cd @Lf
     ·obtain⟨n,G⟩:∃n,op.length=n+1:=⟨op.length - 1,by have:op.length≠0:=fun h=>e (qz h);omega⟩
      obtain⟨x,I,z,A,j⟩:=rR G;have en:(op.length:Int) - 1=(n:Nat):=aa
      have w:IntKind.i64.wrap ((op.length:Int) - 1)=(n:Nat):=by rw[wrap64 aa];omega
      rw[z,A];by_cases l:x=t.name
      ·have c:=eq_true l
       simp only[Wb,c,if_true];refine⟨false,?_⟩;have v:(wa op).take n=wa (op.take n):=by simp only[wa,List.map_take]
       have y:(op.take n).length=n:=by rw[Se];omega
       simp only[y,La,if_false];rcases a with a|a<;>rw[a]
       ·simp(maxSteps:=999999) (disch:=first|assumption|omega) only[go_sem,simprocAttr,au,ki,i,g,d,j,c,w,v,Wf,cd,Lf,Nat.sub_zero]
       ·simp(maxSteps:=999999) (disch:=first|assumption|omega) only[go_sem,simprocAttr,au,ki,i,g,d,j,c,w,v,Wf,cd,Lf,Nat.sub_zero]
      ·have c:=eq_false l
       have v:(some x=some t.name)=False:=eq_false (fun h=>l na);simp only[c,Wb,if_false];refine⟨.ret,⟨[(2,.flat (.bool false))],[],[],[]⟩,?_,ea,rfl,rfl⟩;rcases a with a|a<;>rw[a]
       ·simp(maxSteps:=999999) (disch:=first|assumption|omega) only[go_sem,simprocAttr,au,ki,i,g,d,j,c,w,Wf,cd,Lf]
       ·simp(maxSteps:=999999) (disch:=first|assumption|omega) only[go_sem,simprocAttr,au,ki,i,g,d,j,c,w,Wf,cd,Lf]
    ·have d:=eq_false r
     simp only[p,r,false_and,if_false];refine⟨o,?_⟩;rcases a with a|a<;>rw[a]
     ·exact xg ki @Wf @cd @Lf
     ·exact xg ki @Wf @cd @Lf
  ·have u:L[k]?=none:=Qf aa
   simp only[u];refine⟨.exit 0,⟨[(3,.ia op.length (wa op))],if o then[.slot 3]else[],[],[]⟩,?_,ea,rfl,o,rfl⟩;rcases a with a|a<;>rw[a]
   ·exact Kb ki @Wf
   ·exact Kb ki @Wf
 ·cases o<;>dsimp only
  ·exact sa
  ·exact sa
def Og:ba->ba->Bool
 |[],_=>false
 |x::l,w=>w.isPrefixOf (x::l)||Og l w
theorem LV{s w:ba}{r}{fin}:∀(t:ba)(k),s.drop k=t->k+t.length=s.length->Te (fun(_:Unit) k(_:UInt8)=>if Tb s w k then .inr r else .inl ()) fin () k t=if Og t w then r else fin ()
 |[],k,_,_=>rfl
 |x::t,k,h,b=>by
  have a:k<=s.length:=aa
  have ht:=Em h;rw[Te,Og,bj a,h];cases c:w.isPrefixOf (x::t)with
  |true=>rfl
  |false=>
   simp only[La,if_false,Ug];exact LV t (k+1) ht na
def oI(s w)(hs:s.length<=100000000)(e:w.length<=100000000):da code lib 64 [.flat (.string (S s)),.flat (.string (S w))] [] []=some ([.flat (.bool (Og s w))],false,[],[]):=by
 have a:=bk (body:=ma (da code lib) ja mC) (live:=[0,1,5]) (nb:=0) (fun(_:Unit) k=>⟨[(0,.flat (.string (S s))),(1,.flat (.string (S w))),(5,.flat (.int .i64 (k:Nat)))],[],[],[]⟩) s (fun _ _=>True)
  (fun _ k(_:UInt8)=>if Tb s w k then .inr (.ret,⟨[(4,.flat (.bool true))],[],[],[]⟩)else .inl ()) (fun _=>(.exit 0,⟨[],[],[],[]⟩)) (fun _ k x _ d b c=>?_) (fun _ _=>by simp only[go_sem,simprocAttr]) (fun _ _ _ _ _ _ _ _=>trivial) (fun _ _ x r h=>by split at h<;>simp at h;rw[<-h];simp) (fun _ _=>?_) (fun _=>by simp) () trivial zm
 ·rw[LV s 0 rfl aa]at a
  simp only[n0]at a;refine la xZ (qa rfl) ?_;cases b:Og s w with
  |true=>
   simp only[b,if_true]at a;exact sa
  |false=>
   simp only[b,La,if_false]at a;exact sa
 ·have b:=Io (lib:=lib) s w k aa aa aa
  cases c:Tb s w k with
  |true=>
   rw[c]at b;simp only[if_true];exact va sH
  |false=>
   rw[c]at b;simp only[La,if_false];exact va sH
 ·exact va sH
def Ho:ba:=[60,62,40,41,91,93,44,59,58,34,92]
def rj(c:UInt8):Bool:=!(decide (c.toNat<=32)||(decide (126<c.toNat)||Ho.contains c))
theorem pI(c):∀s,Og s [c]=s.contains c
 |[]=>rfl
 |x::l=>by
  rw[Og,List.contains_cons,pI c l]
  grind
def af(c:UInt8):ba->Option Nat
 |[]=>none
 |x::l=>match af c l with
  |some i=>some (i+1)
  |none=>if x=c then some 0 else none
def px(s:ba):Bool:=s.all rj&&(decide (3<=s.length)&&(decide (s.length<=60)&&((match Cc 64 s with|none=>false|some i=>decide (0<i)&&(decide (i+1<s.length)&&decide (af 64 s=some i)))&& !Og s [61,63])))
def Gk(s:ba):Bool:=!(decide (s.length<3)||(decide (60<s.length)||(decide (s[0]?=some 64)||(decide (s[s.length - 1]?=some 64)||Og s [61,63]))))&&(s.all rj&&decide (s.count 64=1))
def Xt(lib:Callee):Prop:=∀(s:ba)(c:UInt8),s.length<=1000000000->lib 157 [.flat (.string (S s)),.flat (.int .u8 c.toNat)] [] []=some ([.flat (.int .i64 (match af c s with|some i=>(i:Int)|none=>-1))],false,[],[])
def Vt(lib:Callee):Prop:=∀s:ba,s.length<=1000000000->lib 158 [.flat (.string (S s)),.flat (.string (S [61,63]))] [] []=some ([.flat (.bool (Og s [61,63]))],false,[],[])
def wJ(w:We lib)(B:Xt lib)(A:Vt lib)(s)(hs:s.length<=100000000):da code lib 94 [.flat (.string (S s))] [] []=some ([.flat (.bool (px s))],false,[],[]):=by
 have a:=bk (body:=ma (da code lib) ja CB) (live:=[0,6,7]) (nb:=0) (fun(_:Unit) k=>⟨[(0,.flat (.string (S s))),(6,.flat (.int .i64 (s.length:Nat))),(7,.flat (.int .i64 (k:Nat)))],[],[],[]⟩) s (fun _ _=>True)
  (fun _ k x=>if rj x then .inl ()else .inr (.ret,⟨[(2,.flat (.bool false))],[],[],[]⟩)) (fun _=>(.exit 0,⟨[(0,.flat (.string (S s)))],[],[],[]⟩)) (fun _ k c _ g d e=>?_) (fun _ _=>by simp only[go_sem,simprocAttr]) (fun _ _ _ _ _ _ _ _=>trivial) (fun _ _ x r h=>by split at h<;>simp at h;rw[<-h];simp) (fun _ _=>?_) (fun _=>by simp) () trivial zm
 ·rw[SA]at a
  simp only[n0]at a;have v:=pp w s 64 aa;have g:da code lib 157 [.flat (.string (S s)),.flat (.int .u8 ((64:UInt8).toNat:Nat))] [] []=some ([.flat (.int .i64 (match af 64 s with|some i=>(i:Int)|none=>-1))],false,[],[]):=Ef ha ca (B s 64 aa);have l:da code lib 158 [.flat (.string (S s)),.flat (.string (S [61,63]))] [] []=some ([.flat (.bool (Og s [61,63]))],false,[],[]):=Ef ha ca (A s aa);have t:((UInt8.toNat 64:Nat):Int)=64:=rfl;rw[t]at v g;unfold px;refine la sY (qa rfl) ?_;cases y:s.all rj with
  |false=>
   simp only[y,La,if_false]at a;simp only[De];exact sa
  |true=>
   simp only[y,if_true]at a;simp only[od];rcases pb (3<=s.length)with q|q
   ·rcases pb (s.length<=60)with d|d
    ·simp only[q,d,decide_true,od]
     cases b:Cc 64 s with
     |none=>
      simp only[b]at v;simp only[De];exact sa
     |some i=>
      simp only[b]at v;dsimp only;rcases pb (0<i)with p|p
      ·rcases pb (i+1<s.length)with u|u
       ·simp only[p,u,decide_true,od]
        cases fa:af 64 s with
        |none=>
         simp only[fa]at g;simp only[reduceCtorEq,decide_false,De];exact sa
        |some j=>
         simp only[fa]at g;by_cases e:j=i
         ·subst e
          simp only[decide_true,od];cases o:Og s [61,63]with
          |true=>
           rw[o]at l;exact sa
          |false=>
           rw[o]at l;exact sa
         ·have o:(some j=some i)=False:=eq_false (fun h=>e na)
          have z:(i=j)=False:=eq_false (fun h=>e h.symm);simp only[o,decide_false,De];exact sa
       ·simp only[p,u,decide_true,decide_false,od,De]
        exact sa
      ·simp only[p,decide_false,De]
       exact sa
    ·simp only[q,d,decide_true,decide_false,od,De]
     exact sa
   ·simp only[q,decide_false,De]
    exact sa
 ·have g:=pp w Ho c ha
  have e:Ho=[60,62,40,41,91,93,44,59,58,34,92]:=rfl;have d:=oq c Ho;unfold rj;obtain⟨n,j⟩:∃n,c.toNat=n:=⟨_,rfl⟩;cases b:Cc c Ho with
  |none=>
   rw[b]at d;simp only[b]at g;rw[<-d];rw[e,j]at g;rw[j];simp only[Option.isSome_none];rcases pb (n<=32)with l|l<;>rcases pb (126<n)with a2|a2
   all_goals first|(exfalso;omega)|skip
   all_goals
    exact va fH
  |some i=>
   rw[b]at d;simp only[b]at g;rw[<-d];rw[e,j]at g;rw[j];simp only[Option.isSome_some];rcases pb (n<=32)with l|l<;>rcases pb (126<n)with a2|a2
   all_goals first|(exfalso;omega)|skip
   all_goals
    exact va fH
 ·exact va fH
theorem KV{r}{fin}:∀(L:ba)(n k),Te (fun(n:Nat) _(x:UInt8)=>if rj x then .inl (if x.toNat=64 then n+1 else n)else .inr r) fin n k L=if L.all rj then fin (n+L.count 64)else r
 |[],n,k=>rfl
 |x::t,n,k=>by
  rw[Te,zk,List.count_cons];cases b:rj x with
  |true=>
   simp only[if_true,od];rw[KV t _ _];by_cases h:x.toNat=64
   ·have a:x=64:=Xb.1 h
    grind
   ·have a:(x==64)=false:=by simpa using fun e=>h bh
    grind
  |false=>rfl
def vJ(s)(hs:s.length<=100000000):da code lib 63 [.flat (.string (S s))] [] []=some ([.flat (.bool (Gk s))],false,[],[]):=by
 have b:=bk (body:=ma (da code lib) ja nC) (live:=[0,3,4]) (nb:=0) (fun(n:Nat) k=>⟨[(0,.flat (.string (S s))),(3,.flat (.int .i64 (n:Nat))),(4,.flat (.int .i64 (k:Nat)))],[],[],[]⟩) s (fun n k=>n<=k)
  (fun n k x=>if rj x then .inl (if x.toNat=64 then n+1 else n)else .inr (.ret,⟨[(2,.flat (.bool false))],[],[],[]⟩)) (fun n=>(.exit 0,⟨[(3,.flat (.int .i64 (n:Nat)))],[],[],[]⟩)) (fun n k c d g e C=>?_) (fun _ _=>by simp only[go_sem,simprocAttr]) (fun n k x a' d _ _ h=>by
    grind) (fun _ _ x r h=>by grind) (fun n i=>?_) (fun _=>by simp) 0 (Aa _) (by grind [ja])
 ·rw[KV,ld]at b
  simp only[n0]at b;have j:=oI (lib:=lib) s [61,63] hs ha;unfold Gk;refine la yZ (qa rfl) ?_;rcases pb (s.length<3)with y|y
  ·simp only[y,decide_true,Up,am,De]
   exact sa
  rcases pb (60<s.length)with d|d
  ·simp only[d,decide_true,Up,nn,am,De]
   exact sa
  simp only[y,d,decide_false,Ug];have l:s[0]?=some s[0]:=qe aa;have o:s[s.length - 1]?=some (s[s.length - 1]' aa):=qe aa;obtain⟨a,q⟩:∃a,s[0]=a:=⟨_,rfl⟩;obtain⟨z,A⟩:∃z,s[s.length - 1]' aa=z:=⟨_,rfl⟩;rw[q]at l;rw[A]at o;rw[l,o];have D:IntKind.i64.wrap ((s.length:Int) - 1)=((s.length - 1:Nat):Int):=by rw[wrap64 aa];omega
  have t:(some a=some (64:UInt8))=(a.toNat=64):=by
   apply propext;rw[Wb];exact⟨fun h=>by simp_all,fun h=>Xb.1 h⟩
  have u:(some z=some (64:UInt8))=(z.toNat=64):=by
   apply propext;rw[Wb];exact⟨fun h=>by simp_all,fun h=>Xb.1 h⟩
  simp only[t,u];have B:s.count 64<=s.length:=List.count_le_length;rcases pb (a.toNat=64)with g|g
  ·have v:=eq_true g
   simp only[g,decide_true,Up,am,De];exact sa
  have v:=eq_false g;rcases pb (z.toNat=64)with i|i
  ·have w:=eq_true i
   simp only[g,i,decide_true,decide_false,Ug,Up,am,De];exact sa
  have w:=eq_false i;simp only[g,i,decide_false,Ug];cases p:Og s [61,63]with
  |true=>
   rw[p]at j;simp only[am,De];exact sa
  |false=>
   rw[p]at j;simp only[gn,od];cases q:s.all rj with
   |false=>
    simp only[q,La,if_false]at b;simp only[De];exact sa
   |true=>
    simp only[q,if_true]at b;simp only[od];rcases pb (s.count 64=1)with e|e
    ·simp only[e,decide_true]at b⊢
     exact sa
    ·simp only[e,decide_false]
     exact sa
 ·have d:=oI (lib:=lib) Ho [c] ha ea
  have e:Ho=[60,62,40,41,91,93,44,59,58,34,92]:=rfl;rw[pI]at d;have l:(s.take (k+1)).drop k=[c]:=by
   rw[Jr,C,ri];rfl
  unfold rj;obtain⟨v,o⟩:∃v,Ho.contains c=v:=⟨_,rfl⟩;rw[o]at d⊢;rw[e]at d;obtain⟨m,j⟩:∃m,c.toNat=m:=⟨_,rfl⟩;rw[j];rcases pb (m<=32)with g|g<;>rcases pb (126<m)with a2|a2<;>rcases pb (m=64)with a3|a3<;>cases v
  all_goals first|(exfalso;omega)|skip
  all_goals
   first|have i:=eq_false a3|have i:=eq_true a3
   exact va VS
 ·exact va VS
theorem MJ{c}:∀{s}{i},Cc c s=some i->∃p t,s=p++c::t/\c∉p/\p.length=i
 |[],i,h=>by cases h
 |x::l,i,h=>by
  unfold Cc at h;split at h
  ·rename_i e
   cases h;simp_all
  ·rename_i e
   obtain⟨j,a,rfl⟩:=qm h;obtain⟨p,t,b,d,g⟩:=MJ a
   grind
theorem CW{c}{s}(h:Cc c s=none):c∉s:=by
 grind [oq]
theorem ar{c}:∀{s},c∉s->af c s=none
 |[],_=>rfl
 |x::l,h=>by
  simp only[wb,not_or]at h;simp only[af,ar h.2]
  grind
theorem uz{c}:∀{s},c∈s->∃i,af c s=some i
 |[],h=>by cases h
 |x::l,h=>by
  by_cases a:c∈l
  ·obtain⟨i,b⟩:=uz a
   grind [af]
  ·have e:x=c:=by
    rcases wb.1 h with e|e
    ·grind
    ·grind
   exact⟨0,by grind [af,ar]⟩
theorem tz{c}{t}{i}(h:af c t=some i):∀p,af c (p++t)=some (p.length+i)
 |[]=>by grind
 |x::p=>by
  have:=tz h p
  grind [af]
def addr_eq(s):px s=Gk s:=by
 unfold px Gk;by_cases h:s.length<3
 ·grind
 by_cases e:60<s.length
 ·grind
 have d:3<=s.length:=aa
 have a:s.length<=60:=aa
 simp only[h,e,d,a,decide_false,decide_true,od,Ug];cases q:s.all rj with
 |false=>simp
 |true=>
  simp only[od];cases g:Cc 64 s with
  |none=>
   grind [CW,List.count_eq_zero]
  |some i=>
   obtain⟨p,t,rfl,o,rfl⟩:=MJ g;have b:(p++64::t).count 64=1+t.count 64:=by
    rw[List.count_append,List.count_cons_self,List.count_eq_zero.2 o];omega
   have c:(p++64::t).length=p.length+1+t.length:=by simp only[Ba,ua];omega
   rw[b,c];by_cases n:(64:UInt8)∈t
   ·obtain⟨j,k⟩:=uz n
    have l:af 64 (p++64::t)=some (p.length+(j+1)):=tz (by simp only[af,k]) p
    grind
   ·have l:af 64 (p++64::t)=some (p.length+0):=tz (by grind [af,ar]) p
    grind [Option.some.injEq]
def Yt(lib:Callee):Prop:=∀L:List Tok,L.length<=1000000000->lib 162 [.ia L.length (uc L)] [] []=some ([.flat (.bool (Tn L))],false,[],[])
def ct(s:ba):Bool:=match Ni s with
 |some l=>Tn l
 |none=>false
def GI{s}{l}(h:Ni s=some l):l.length<=s.length:=by
 unfold Ni at h;split at h
 ·have:=kk (step:=ni s) (d:=none) (I:=fun q=>q.2<=s.length/\q.1.length<=q.2) (μ:=fun q=>s.length - q.2) (Q:=fun r=>∀l,r=some l->l.length<=s.length) (fun a c=>by
   cases hs:ni s a with
   |inl b=>exact FA (fun k t=>Fz) a b c hs
   |inr r=>
    grind [ni]) (s.length+1) ([],0) ⟨Cb _,Aa _⟩ aa
  grind
 grind
def zar(d:sc lib)(b:Sb lib)(c:Yt lib)(s)(hs:s.length<=100000000):da code lib 97 [.flat (.string (S s))] [] []=some ([.flat (.bool (ct s))],false,[],[]):=by
 have ht:=qV d b s hs;unfold ct;refine la vY (qa rfl) ?_;cases a:Ni s with
 |none=>
  rw[a]at ht;exact sa
 |some l=>
  rw[a]at ht;have e:da code lib 162 [.ia l.length (uc l)] [] []=some ([.flat (.bool (Tn l))],false,[],[]):=Ef ha ca (c l (by have:=GI a;omega));exact va @nw
structure kc where
 fr:ba
 to:ba
 su:ba
 te:ba
 ht:ba
def Lb(m:kc):List PV:=[.flat (.string (S m.fr)),.flat (.string (S m.to)),.flat (.string (S m.su)),.flat (.string (S m.te)),.flat (.string (S m.ht))]
def kc.small(m:kc):Prop:=m.fr.length<=10000/\m.to.length<=10000/\m.su.length<=10000/\m.te.length<=10000/\m.ht.length<=10000
def Bf(m:kc):Nat:=
 if(Gk m.fr&&Gk m.to)=false then 1
 else if Cf m.su=m.su/\Cf m.te=m.te/\Cf m.ht=m.ht/\m.su.contains 10=false/\ct m.ht=true then 0 else 7
def jY(r:We lib)(y:Xt lib)(x:Vt lib)(A:sc lib)(q:Sb lib)(z:Yt lib)(m)(G:m.small):da code lib 47 [.agg (Lb m)] [] []=some ([.flat (.int .i64 (Bf m:Nat))],false,[],[]):=by
 obtain⟨fr,to,su,te,ht⟩:=m;obtain⟨B,C,D,E,F⟩:=G;dsimp only at B C D E F;have t:=wJ r y x fr aa;have u:=wJ r y x to aa;rw[addr_eq]at t u;have c1:=Vx q su aa;have c2:=Vx q te aa;have c3:=Vx q ht aa;have w:=pp r su 10 aa;have e:=oq 10 su;have n:=zar A q z ht aa;have v:((UInt8.toNat 10:Nat):Int)=10:=rfl;rw[v]at w;unfold Bf;simp only[Lb];refine la tY (qa rfl) ?_;cases hf:Gk fr with
 |false=>
  rw[hf]at t;simp only[De,if_true,n1];exact sa
 |true=>
 rw[hf]at t;cases p:Gk to with
 |false=>
  rw[p]at u;simp only[Zh,if_true,n1];exact sa
 |true=>
 rw[p]at u;simp only[Dg,Iw,if_false];have g:((7:Nat):Int)=7:=rfl;by_cases b:Cf su=su
 ·have j:=eq_true b
  by_cases c:Cf te=te
  ·have k:=eq_true c
   by_cases d:Cf ht=ht
   ·have l:=eq_true d
    cases a:Cc 10 su with
    |some i=>
     rw[a]at e;simp only[a]at w;simp only[<-e,Option.isSome_some,Iw,false_and,and_false,if_false,g];exact ye @Rc @ec @pc @Ec @Ed Rs
    |none=>
     rw[a]at e;simp only[a]at w;cases o:ct ht with
     |false=>
      rw[o]at n;simp only[La,and_false,if_false,g];exact ye @Rc @ec @pc @Ec @Ed Rs
     |true=>
      rw[o]at n;rw[if_pos ⟨b,c,d,na,rfl⟩];exact ye @Rc @ec @pc @Ec @Ed Rs
   ·have l:=eq_false d
    rw[if_neg (fun h=>d h.2.2.1),g];exact ye @Rc @ec @pc @Ec @Ed Rs
  ·have k:=eq_false c
   rw[if_neg (fun h=>c h.2.1),g];exact ye @Rc @ec @pc @Ec @Ed Rs
 ·have j:=eq_false b
  rw[if_neg (fun h=>b h.1),g];exact ye @Rc @ec @pc @Ec @Ed Rs
def hY(m)(y:m.small):da code lib 29 [.agg (Lb m)] [] []=some ([.flat (.int .i64 (Bf m:Nat))],false,[],[]):=by
 obtain⟨fr,to,su,te,ht⟩:=m;obtain⟨t,u,v,w,x⟩:=y;dsimp only at t u v w x;have p:=vJ (lib:=lib) fr aa;have q:=vJ (lib:=lib) to aa;have c1:=Ux (lib:=lib) su aa;have c2:=Ux (lib:=lib) te aa;have c3:=Ux (lib:=lib) ht aa;have o:=oI (lib:=lib) su [10] aa ha;rw[pI]at o;have h:=ze0 (lib:=lib) ht aa;unfold Bf;simp only[Lb];refine la zZ (qa rfl) ?_;cases hf:Gk fr with
 |false=>
  rw[hf]at p;simp only[De,if_true,n1];exact sa
 |true=>
 rw[hf]at p;cases j:Gk to with
 |false=>
  rw[j]at q;simp only[Zh,if_true,n1];exact sa
 |true=>
 rw[j]at q;simp only[Dg,Iw,if_false];have r:((7:Nat):Int)=7:=rfl;unfold ct;cases n:Ni ht with
 |none=>
  rw[n]at h;dsimp only at h⊢;simp only[La,and_false,if_false,r];rcases pb (Cf su=su)with a|a<;>rcases pb (Cf te=te)with c|c<;>rcases pb (Cf ht=ht)with e|e<;>cases k:su.contains 10
  all_goals
   rw[k]at o
   first|have b:=eq_false a|have b:=eq_true a
   first|have d:=eq_false c|have d:=eq_true c
   first|have g:=eq_false e|have g:=eq_true e
   clear a c e;exact sa
 |some l=>
  rw[n]at h;have z:=R9 (lib:=lib) l (by have:=GI n;omega);dsimp only at h⊢;rcases pb (Cf su=su)with a|a<;>rcases pb (Cf te=te)with c|c<;>rcases pb (Cf ht=ht)with e|e<;>rcases Nh (su.contains 10)with k|k<;>rcases Nh (Tn l)with i|i
  all_goals
   rw[k]at o;rw[i]at z
   first|have b:=eq_false a|have b:=eq_true a
   first|have d:=eq_false c|have d:=eq_true c
   first|have g:=eq_false e|have g:=eq_true e
   clear a c e;simp only[b,d,g,k,i,La,Iw,and_true,and_false,if_true,if_false,r,n0];exact va @nw
end ya
